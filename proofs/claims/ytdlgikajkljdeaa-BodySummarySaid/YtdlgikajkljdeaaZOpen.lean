/- What a law's arguments read as, opened for the print's kinds: whole numbers, bools, strings, slices and structs of these, nested. -/
import Derived.Test.YtdlgikajkljdeaaWWords
import Derived.SizedLaws
import Derived.ChangeSame
import Derived.Deep.Slices
set_option linter.unusedVariables false
namespace Go.Proofs.YtdlgikajkljdeaaW.PrintWords
open Go.RowKit
/-- Whatever reads as a datum of type t reads as a value of this kind, which is well formed. -/
def Opens (P : Program) (t : TypeId) {α : Type} (d : Kd α) (wf : α → Prop) : Prop :=
  ∀ {H : Type} (enc : TypeId × Value → H) (w : World) (base : Nat) (spare : Nat → Bool) (held : Bool) (fuel : Nat) (cs : List Value) (x : DataW H × List MemPlace),
    DataW.trod enc P w base spare held fuel t cs = some x → (x.1.weights P t).all (· ≤ reachBytes) = true → ∃ a : α, d.K w a cs ∧ wf a
theorem Opens.int {P : Program} {t : TypeId} {k : IntKind} (ht : P.underlying t = some (.int k)) : Opens P t (Kd.int k) (fun n => (Lit.int k n).wf = true) := by
  intro H enc w base spare held fuel cs x h _
  obtain ⟨n, rfl, _, hw⟩ := DataW.trod_int ht h
  exact ⟨n, rfl, hw⟩
theorem Opens.bool {P : Program} {t : TypeId} (ht : P.underlying t = some .bool) : Opens P t Kd.bool (fun _ => True) := by
  intro H enc w base spare held fuel cs x h _
  obtain ⟨b, rfl, _⟩ := DataW.trod_bool ht h
  exact ⟨b, rfl, trivial⟩
theorem Opens.string {P : Program} {t : TypeId} (ht : P.underlying t = some .string) : Opens P t Kd.string (fun s => s.size ≤ 140737488351232) := by
  intro H enc w base spare held fuel cs x h hsz
  obtain ⟨s, rfl, rfl, _⟩ := DataW.trod_string ht h
  refine ⟨s, rfl, ?_⟩
  simp only [DataW.weights, List.all_cons, List.all_nil, Bool.and_true, decide_eq_true_eq] at hsz
  simpa [reachBytes] using hsz
theorem weightsAll_mem {H : Type} {P : Program} {e : TypeId} : ∀ {ds : List (DataW H)} {d : DataW H}, d ∈ ds → ∀ n ∈ d.weights P e, n ∈ DataW.weightsAll P e ds
  | d0 :: ds, d, hd, n, hn => by
    simp only [DataW.weightsAll, List.mem_append]
    rcases List.mem_cons.1 hd with rfl | hd
    · exact .inl hn
    · exact .inr (weightsAll_mem hd n hn)
theorem Opens.slice {P : Program} {t e : TypeId} {α : Type} {d : Kd α} {wf : α → Prop} (ht : P.underlying t = some (.slice e)) (hc : P.cellsOf e = d.sz) {B : Nat} (hB : P.bytesOf e = B) (he : Opens P e d wf) :
    Opens P t (Kd.slice e d) (fun l => l.length ≤ maxLen ∧ l.length * B ≤ 140737488351232 ∧ ∀ x ∈ l, wf x) := by
  intro H enc w base spare held fuel cs x h hsz
  rcases Deep.open_slice ht h with ⟨rfl, rfl⟩ | ⟨a, len, cap, m, n, D, Pl, rfl, hb, hl, hm, hmm, rfl, hi⟩
  · refine ⟨[], ⟨none, 0, rfl, Nat.le_refl _, ⟨rfl, by simp, fun h => by simp at h⟩⟩, by simp⟩
  · have hlm : len ≤ m := by rw [hmm]; split <;> omega
    have hall := List.all_eq_true.1 hsz
    simp only [DataW.weights, ht, List.mem_cons, List.mem_append, decide_eq_true_eq] at hall
    have hpick : ∀ i, i < len → ∃ a1 : α, (∃ cs', w.cells? base (a.add (i * P.cellsOf e)) (P.cellsOf e) = some cs' ∧ d.K w a1 cs') ∧ wf a1 := by
      intro i hil
      obtain ⟨cs', hcs, htr⟩ := hi i (by omega)
      obtain ⟨a1, hk, hw⟩ := he enc w base spare held n cs' _ htr (List.all_eq_true.2 fun z hz => by
        have := hall z (.inr (.inl (weightsAll_mem (List.mem_map.2 ⟨i, by simpa using hil, rfl⟩) z hz)))
        simpa using this)
      exact ⟨a1, ⟨cs', hcs, hk⟩, hw⟩
    have hlist : ∃ l : List α, l.length = len ∧ ∀ (i : Nat) (p : α), l[i]? = some p → (∃ cs', w.cells? base (a.add (i * P.cellsOf e)) (P.cellsOf e) = some cs' ∧ d.K w p cs') ∧ wf p := by
      have key : ∀ q, q ≤ len → ∃ l : List α, l.length = q ∧ ∀ (i : Nat) (p : α), l[i]? = some p → (∃ cs', w.cells? base (a.add (i * P.cellsOf e)) (P.cellsOf e) = some cs' ∧ d.K w p cs') ∧ wf p := by
        intro q
        induction q with
        | zero => intro _; exact ⟨[], rfl, fun i p hp => by simp at hp⟩
        | succ q ih =>
          intro hq
          obtain ⟨l, hlen, hl⟩ := ih (by omega)
          obtain ⟨a1, h1, h2⟩ := hpick q (by omega)
          refine ⟨l ++ [a1], by simp [hlen], fun i p hp => ?_⟩
          by_cases hiq : i < q
          · rw [List.getElem?_append_left (by omega)] at hp
            exact hl i p hp
          · have hi2 : i < (l ++ [a1]).length := (List.getElem?_eq_some_iff.1 hp).1
            have : i = q := by simp [hlen] at hi2; omega
            subst this
            rw [List.getElem?_append_right (by omega), hlen, Nat.sub_self] at hp
            simp only [List.getElem?_cons_zero, Option.some.injEq] at hp
            subst hp
            exact ⟨h1, h2⟩
      exact key len (Nat.le_refl _)
    obtain ⟨l, hlen, hl2⟩ := hlist
    subst hlen
    refine ⟨l, ⟨some a, cap, rfl, hl, ⟨rfl, by simp only [maxLen] at hm; omega, fun _ => ⟨a, rfl, fun j p hp => ?_⟩⟩⟩, by omega, ?_, fun x hx => ?_⟩
    · obtain ⟨⟨cs', hcs, hk⟩, _⟩ := hl2 j p hp
      refine ⟨cs', d.K_len hk, hk, fun i u hu => ?_⟩
      obtain ⟨_, hcl, hat⟩ := World.cells?_some hcs
      have hil : i < cs'.length := (List.getElem?_eq_some_iff.1 hu).1
      have h3 := hat i (by rw [hcl] at hil; exact hil)
      rw [hu] at h3
      rw [← h3, hc, Deep.add_add]
    · have h4 := hall _ (.inl rfl)
      simp only [List.length_map, List.length_range] at h4
      have h5 : l.length * P.bytesOf e ≤ (l.length + (m - l.length)) * P.bytesOf e := Nat.mul_le_mul_right _ (by omega)
      rw [hB] at h4 h5
      have h6 : reachBytes = 140737488351232 := by decide
      rw [h6] at h4
      omega
    · obtain ⟨i, hi1, rfl⟩ := List.getElem_of_mem hx
      exact (hl2 i _ (List.getElem?_eq_getElem hi1)).2
/-- The same of fields in line, the first of which begins at cell off. -/
def OpensF (P : Program) (fs : List Field) (off : Nat) {α : Type} (d : Kd α) (wf : α → Prop) : Prop :=
  ∀ {H : Type} (enc : TypeId × Value → H) (w : World) (base : Nat) (spare : Nat → Bool) (held : Bool) (n : Nat) (cs : List Value) (xs : List (DataW H × List MemPlace)),
    cs.length = d.sz → xs.length = fs.length → (∀ (i : Nat) (f : Field), fs[i]? = some f → DataW.trod enc P w base spare held n f.type ((cs.drop (f.offset - off)).take (P.cellsOf f.type)) = xs[i]?) →
    (∀ (i : Nat) (f : Field), fs[i]? = some f → off ≤ f.offset) →
    (DataW.weightsEach P (fs.map (·.type)) (xs.map (·.1))).all (· ≤ reachBytes) = true → ∃ a : α, d.K w a cs ∧ wf a
theorem OpensF.one {P : Program} {f : Field} {t : TypeId} {off : Nat} {α : Type} {d : Kd α} {wf : α → Prop} (hf : f.type = t) (ho : f.offset = off) (hc : P.cellsOf t = d.sz) (h : Opens P t d wf) : OpensF P [f] off d wf := by
  intro H enc w base spare held n cs xs hcs hxs ht _ hsz
  match xs, hxs with
  | [x], _ =>
    have h1 := ht 0 f rfl
    rw [hf, ho, Nat.sub_self, List.drop_zero, hc, ← hcs, List.take_length] at h1
    simp only [List.getElem?_cons_zero] at h1
    refine h enc w base spare held n cs x h1 ?_
    simpa [DataW.weightsEach, hf] using hsz
theorem OpensF.cons {P : Program} {f : Field} {fs : List Field} {t : TypeId} {off off' : Nat} {α β : Type} {d : Kd α} {d' : Kd β} {wf : α → Prop} {wf' : β → Prop} (hf : f.type = t) (ho : f.offset = off) (hc : P.cellsOf t = d.sz) (h : Opens P t d wf)
    (hoff : off' = off + d.sz) (hfs : ∀ g ∈ fs, off' ≤ g.offset) (h' : OpensF P fs off' d' wf') : OpensF P (f :: fs) off (Kd.pair d d') (fun x => wf x.1 ∧ wf' x.2) := by
  intro H enc w base spare held n cs xs hcs hxs ht _ hsz
  match xs, hxs with
  | x :: xs, hxs =>
    have hcs' : cs.length = d.sz + d'.sz := hcs
    have h1 := ht 0 f rfl
    rw [hf, ho, Nat.sub_self, List.drop_zero, hc] at h1
    simp only [List.getElem?_cons_zero] at h1
    simp only [List.map_cons, DataW.weightsEach, List.all_append, Bool.and_eq_true, hf] at hsz
    obtain ⟨a, ha, hwa⟩ := h enc w base spare held n _ x h1 hsz.1
    obtain ⟨b, hb, hwb⟩ := h' enc w base spare held n (cs.drop d.sz) xs (by simp; omega) (by simpa using hxs) (fun i g hg => by
      have h2 := ht (i + 1) g (by simpa using hg)
      have h3 := hfs g (List.mem_of_getElem? hg)
      rw [List.drop_drop, show d.sz + (g.offset - off') = g.offset - off by omega]
      simpa using h2) (fun i g hg => hfs g (List.mem_of_getElem? hg)) hsz.2
    exact ⟨(a, b), ⟨cs.take d.sz, cs.drop d.sz, (List.take_append_drop _ _).symm, ha, hb⟩, hwa, hwb⟩
theorem Opens.struct {P : Program} {t : TypeId} {fs : Array Field} {α β : Type} {d : Kd α} {wf : α → Prop} {g : β → α} (ht : P.underlying t = some (.struct fs)) (hc : P.cellsOf t = d.sz) (gi : α → β) (hg : ∀ a, g (gi a) = a) (h : OpensF P fs.toList 0 d wf) :
    Opens P t (Kd.iso d g) (fun b => wf (g b)) := by
  intro H enc w base spare held fuel cs x hx hsz
  obtain ⟨xs, n, _, rfl, hlen, hxs, hf⟩ := DataW.trod_struct ht hx
  obtain ⟨a, ha, hw⟩ := h enc w base spare held n cs xs (by rw [hlen, hc]) (by simpa using hxs) (fun i f hi => by
    rw [Nat.sub_zero]
    exact hf i f (by simpa using hi)) (fun _ _ _ => Nat.zero_le _) (by simpa [DataW.weights, ht] using hsz)
  refine ⟨gi a, ?_, ?_⟩
  · show d.K w (g (gi a)) cs
    rw [hg]; exact ha
  · show wf (g (gi a))
    rw [hg]; exact hw
theorem weights_arg {H : Type} {P : Program} {ts : List TypeId} {ds : List (DataW H)} {j : Nat} {t : TypeId} {d : DataW H} (h : (DataW.weightsEach P ts ds).all (· ≤ reachBytes) = true) (ht : ts[j]? = some t) (hd : ds[j]? = some d) : (d.weights P t).all (· ≤ reachBytes) = true :=
  List.all_eq_true.2 fun n hn => List.all_eq_true.1 h n (DataW.weights_mem_each ht hd n hn)
theorem Opens.at_ {P : Program} {t : TypeId} {α : Type} {d : Kd α} {wf : α → Prop} (ho : Opens P t d wf) {H : Type} {enc : TypeId × Value → H} {w : World} {base : Nat} {spare : Nat → Bool} {held : Bool} {v : Value} {x : DataW H} {ps : List MemPlace}
    (h : DataW.Trod enc P w base spare held t v x ps) (hsz : (x.weights P t).all (· ≤ reachBytes) = true) : ∃ a : α, d.K w a v.cells.toList ∧ wf a := by
  obtain ⟨fuel, hf⟩ := h
  exact ho enc w base spare held fuel _ _ hf hsz
end Go.Proofs.YtdlgikajkljdeaaW.PrintWords
