/- A law's way that can only end in 'false' (or in nothing): it isn't walked, where the law is asked for 'true' alone. -/
import Derived.Test.YtdlgikajkljdeaaWWords
namespace Go.Proofs.YtdlgikajkljdeaaW.PrintWords
def NTrue (o : Option Bool) : Prop := ∀ r, o = some r → r = false
theorem nt_none : NTrue none := fun _ h => by cases h
theorem nt_false : NTrue (some false) := fun _ h => (Option.some.inj h).symm
theorem nt_ite {c : Prop} [Decidable c] {a b : Option Bool} (ha : NTrue a) (hb : NTrue b) : NTrue (if c then a else b) := by
  by_cases h : c
  · rw [if_pos h]; exact ha
  · rw [if_neg h]; exact hb
theorem nt_bind {α : Type} {o : Option α} {f : α → Option Bool} (h : ∀ x, NTrue (f x)) : NTrue (o.bind f) := by
  cases o with
  | none => exact nt_none
  | some x => exact h x
theorem nt_end {o : Option Bool} {r : Bool} (h : NTrue o) (H : o = some r) (HRT : Aside0 (r = true)) : False := by
  have h1 := h r H
  have h2 := HRT.out
  rw [h1] at h2
  cases h2
end Go.Proofs.YtdlgikajkljdeaaW.PrintWords
