/- bytes.Join of two rows or more and an empty separator, told for the frame by the shelf's contract. -/
import Derived.Test.YthhklfepclgcbaaProg
import Derived.Test.YthhklfepclgcbaaFrc
import Derived.Ground.SlbNamesProg
import Derived.Shelf.Lay
import Derived.Shelf.Bytes.SlJoin
import Derived.Lib.SlFreshShut
namespace Go.Proofs
open Go.Shelf
shelf_lay SlLaysJ.n14 Slb 14 at Try as bytes_Join_lays
end Go.Proofs
namespace Go.Proofs.Ythhklfepclgcbaa.F
open Go Go.RowKit Go.Shelf Go.Proofs Go.Proofs.Fr
set_option linter.unusedVariables false
set_option linter.unusedSimpArgs false

theorem nums_bytes (xs : List Int) (h : ∀ x ∈ xs, 0 ≤ x ∧ x < 256) (i : Nat) (u : UInt8) (hu : (Lib.bytesOf xs)[i]? = some u) : xs[i]? = some (u.toNat : Int) := by
  have e := Lib.numsL_bytesOf xs h
  have e2 : (Lib.numsL (Lib.bytesOf xs))[i]? = xs[i]? := by rw [e]
  rw [← e2, Lib.numsL, List.getElem?_map, hu]
  rfl
theorem join_none (ls : List (List UInt8)) : Lib.join ls [] = ls.flatten := by
  cases ls with
  | nil => rfl
  | cons x r => rw [Lib.join_cons]; simp [Lib.joinTail]
theorem bytes_flat (xs : List (List Int)) : (xs.map Lib.bytesOf).flatten = Lib.bytesOf xs.flatten := by
  induction xs with
  | nil => rfl
  | cons x r ih => simp only [List.map_cons, List.flatten_cons, ih]; simp [Lib.bytesOf]
theorem bytes_len (xs : List Int) : (Lib.bytesOf xs).length = xs.length := by simp [Lib.bytesOf]
theorem lens_flat (xs : List (List Int)) : Lib.lens (xs.map Lib.bytesOf) = xs.flatten.length := by
  induction xs with
  | nil => rfl
  | cons x r ih => rw [List.map_cons, Lib.lens_cons, ih, List.flatten_cons, List.length_append, bytes_len]

def bytes_Join.ok (xs : List (List Int)) (s : List Int) : Bool := Nat.ble 2 xs.length && Nat.ble xs.length 140737488355328 && s.isEmpty && Nat.ble xs.flatten.length 140737488355328 && xs.all fun l => l.all fun x => decide (0 ≤ x ∧ x < 256)
def bytes_Join.jf (xs : List (List Int)) (s : List Int) : Option (List Int) := if bytes_Join.ok xs s = true then some xs.flatten else none
noncomputable def bytes_Join.f (a : dens [.v (.sl 24 (.sl 5 (.int .u8))), .v (.sl 5 (.int .u8))]) : Option (dens [.v (.sl 5 (.int .u8))]) := (bytes_Join.jf a.1 a.2.1).map fun r => (r, ())
noncomputable def bytes_Join.sp : Sp := ⟨[.v (.sl 24 (.sl 5 (.int .u8))), .v (.sl 5 (.int .u8))], [.v (.sl 5 (.int .u8))], bytes_Join.f⟩

/-- The rows that lie in a row of rows. -/
theorem parts_of {w : World} {ok : Nat → Prop} {k o : Nat} (xs : List (List Int)) (hr : ∀ x ∈ xs, ∀ n ∈ x, 0 ≤ n ∧ n < 256)
    (h : ∀ (i : Nat) (hi : i < xs.length), ∃ cs, En w ok (.sl 5 (.int .u8)) (xs[i]'hi) cs ∧ ∀ j (hj : j < cs.length), w.cell? ⟨k, o + i * 1 + j, none⟩ = some cs[j]) :
    Lib.PartsAt w ⟨k, o, none⟩ ((List.range xs.length).map fun i => (w.cell? ⟨k, o + i, none⟩).getD (.int .u8 0)) (xs.map Lib.bytesOf) := by
  have cell : ∀ (i : Nat) (hi : i < xs.length), ∃ v, w.cell? ⟨k, o + i, none⟩ = some v ∧ Lib.HoldsBytes w v (Lib.bytesOf (xs[i]'hi)) := by
    intro i hi
    obtain ⟨cs, hen, hc⟩ := h i hi
    obtain ⟨A, c, hcs, hlen, hel⟩ : ∃ (A : Option Addr) (c : Nat), cs = [.slice A (List.length (α := Int) (xs[i]'hi)) c] ∧ _ := hen
    subst hcs
    have h0 := hc 0 (by simp)
    simp only [Nat.mul_one, Nat.add_zero, List.getElem_cons_zero] at h0
    refine ⟨_, h0, A, c, by rw [bytes_len], ?_, ?_⟩
    · intro hA
      cases hx : xs[i]'hi with
      | nil => rfl
      | cons y r =>
        obtain ⟨_, _, _, hA', _⟩ := hel 0 (by rw [hx]; simp)
        rw [hA] at hA'; cases hA'
    · intro a ha j u hu
      have hj := nums_bytes _ (hr _ (List.getElem_mem hi)) j u hu
      obtain ⟨hj1, hj2⟩ := List.getElem?_eq_some_iff.1 hj
      obtain ⟨k', o', cs', hA', _, hcs', hcell⟩ := hel j hj1
      have e1 : cs' = [.int .u8 ((xs[i]'hi)[j]'hj1)] := hcs'
      subst e1
      rw [ha] at hA'; cases hA'
      have h2 := hcell 0 (by simp)
      simp only [Ty.sz, Nat.mul_one, Nat.add_zero, List.getElem_cons_zero] at h2
      rw [hj2] at h2
      unfold Addr.add
      split
      · rename_i h0; subst h0; exact h2
      · exact h2
  refine ⟨by simp, ?_, ?_⟩
  · intro i v hv
    rw [List.getElem?_map] at hv
    cases hi : (List.range xs.length)[i]? with
    | none => rw [hi] at hv; cases hv
    | some q =>
      obtain ⟨h1, h2⟩ := List.getElem?_eq_some_iff.1 hi
      rw [hi] at hv
      simp only [List.length_range] at h1
      simp only [List.getElem_range] at h2
      subst h2
      obtain ⟨v', hv', _⟩ := cell i h1
      simp only [Option.map_some, hv', Option.getD_some, Option.some.injEq] at hv
      subst hv
      unfold Addr.add
      split
      · rename_i h0; subst h0; exact hv'
      · exact hv'
  · intro i v l hv hl
    rw [List.getElem?_map] at hv hl
    cases hi : xs[i]? with
    | none => rw [hi] at hl; cases hl
    | some q =>
      obtain ⟨h1, h2⟩ := List.getElem?_eq_some_iff.1 hi
      rw [hi] at hl
      simp only [Option.map_some, Option.some.injEq] at hl
      obtain ⟨v', hv', hh⟩ := cell i h1
      have hri : (List.range xs.length)[i]? = some i := by rw [List.getElem?_eq_getElem (by simpa using h1)]; simp
      rw [hri] at hv
      simp only [Option.map_some, hv', Option.getD_some, Option.some.injEq] at hv
      subst hv; subst hl
      rw [← h2]
      exact hh

theorem bytes_Join.sound : Sound Go.Proofs.Try.prog 18 bytes_Join.sp := ⟨ent_of Go.Proofs.Try.func18 (by kernel_rfl) (by kernel_rfl), by
  intro x y hy w vs ok bs hok hargs hnd hdis
  obtain ⟨x1, x2, _⟩ := x
  obtain ⟨c1, r1, b1, d1, rfl, rfl, ⟨h1, e1⟩, c2, r2, b2, d2, rfl, rfl, ⟨h2, e2⟩, e3, e4⟩ := hargs
  subst e1 e2 e3 e4
  have hy' : (bytes_Join.jf x1 x2).map (fun r => (r, ())) = some y := hy
  unfold bytes_Join.jf at hy'
  split at hy'
  rotate_left
  · cases hy'
  rename_i hko
  rw [Option.map_some] at hy'
  injection hy' with hy'
  subst hy'
  unfold bytes_Join.ok at hko
  simp only [Bool.and_eq_true, Nat.ble_eq, List.isEmpty_iff, List.all_eq_true, decide_eq_true_eq] at hko
  obtain ⟨⟨⟨⟨n2, n47⟩, hs⟩, hl⟩, hr⟩ := hko
  subst hs
  obtain ⟨A, c, hc1, hlen, hel⟩ : ∃ (A : Option Addr) (c : Nat), c1 = [.slice A (List.length (α := List Int) x1) c] ∧ List.length (α := List Int) x1 ≤ c ∧ ∀ (i : Nat) (h : i < List.length (α := List Int) x1), ∃ k o cs, A = some ⟨k, o, none⟩ ∧ ok k ∧ En w ok (.sl 5 (.int .u8)) (x1[i]'h) cs ∧ ∀ j (hj : j < cs.length), w.cell? ⟨k, o + i * 1 + j, none⟩ = some cs[j] := h1
  obtain ⟨A2, c2', hc2, hlen2, _⟩ : ∃ (A : Option Addr) (c : Nat), c2 = [.slice A (List.length (α := Int) []) c] ∧ _ := h2
  subst hc1 hc2
  obtain ⟨k, o, _, hA, _⟩ := hel 0 (by omega)
  subst hA
  have hP := parts_of (w := w) (ok := ok) (k := k) (o := o) x1 hr (fun i hi => by
    obtain ⟨k', o', cs, hA, _, hen, hcell⟩ := hel i hi
    cases hA
    exact ⟨cs, hen, hcell⟩)
  have hS : Lib.HoldsBytes w (.slice A2 (List.length (α := Int) []) c2') [] := ⟨A2, c2', rfl, fun _ => rfl, fun a _ i u hu => by simp at hu⟩
  refine (Any.bytes_Join_many bytes_Join_lays k o x1.length c _ _ _ [] w (by simp) n2 hP hlen hS n47 (by rw [lens_flat]; simpa using hl)).mono ?_
  rintro e w' ⟨v', rfl, hf, hb⟩
  rw [join_none, bytes_flat] at hf
  obtain ⟨g, cap, zs, rfl, hg, hcap, hmax, hzl, hzr, hzb, hcell, _⟩ := hf
  have hz : zs.take x1.flatten.length = x1.flatten := by
    rw [bytes_len] at hzb
    have e1 := Lib.numsL_bytesOf (zs.take x1.flatten.length) (fun y hy => hzr y (List.mem_of_mem_take hy))
    have e2 := Lib.numsL_bytesOf x1.flatten (fun y hy => by
      obtain ⟨l, hl1, hl2⟩ := List.mem_flatten.1 hy
      exact hr l hl1 y hl2)
    rw [← e1, hzb, e2]
  rw [bytes_len] at hcap
  rw [bytes_len]
  have hE : En w' (fun q => ok q ∨ (0 < x1.flatten.length ∧ q = g)) (.sl 5 (.int .u8)) x1.flatten [.slice (some ⟨g, 0, none⟩) x1.flatten.length cap] := by
    refine ⟨some ⟨g, 0, none⟩, cap, rfl, hcap, ?_⟩
    intro i hi
    refine ⟨g, 0, [.int .u8 (x1.flatten[i]'hi)], rfl, .inr ⟨by have h : i < x1.flatten.length := hi; omega, rfl⟩, rfl, ?_⟩
    intro j hj
    have hi' : i < x1.flatten.length := hi
    have h0 := hcell i (by omega)
    have e : zs.getD i 0 = x1.flatten[i]'hi := by
      have e1 : (zs.take x1.flatten.length)[i]? = (x1.flatten)[i]? := by rw [hz]
      rw [List.getElem?_take_of_lt hi', List.getElem?_eq_getElem hi'] at e1
      rw [List.getD_eq_getElem?_getD, e1]
      rfl
    have hj0 : j = 0 := by simpa using hj
    subst hj0
    rw [e] at h0
    simpa [Ty.sz] using h0
  refine ⟨[.slice (some ⟨g, 0, none⟩) x1.flatten.length cap], [], fun q => ok q ∨ (0 < x1.flatten.length ∧ q = g), rfl, rfl, ⟨_, [], [], [], rfl, rfl, ⟨hE, rfl⟩, rfl, rfl⟩, List.nodup_nil, by simp, ?_, ⟨hb.os, hb.tape, hb.output, hb.size, fun k hk _ => hb.block k hk⟩⟩
  rintro q (h | ⟨h, rfl⟩)
  · exact ⟨Or.inl h, Nat.lt_of_lt_of_le (hok q h) hb.size, by simp⟩
  · refine ⟨Or.inr (Or.inr hg), ?_, by simp⟩
    have h0 := hcell 0 (by omega)
    by_cases hq : q < w'.heap.size
    · exact hq
    · exfalso
      revert h0
      simp [World.cell?, Array.getElem?_eq_none (Nat.le_of_not_lt hq)], fun n h => (by
  have h' : (none : Option Nat) = some n := h
  cases h')⟩
end Go.Proofs.Ythhklfepclgcbaa.F
