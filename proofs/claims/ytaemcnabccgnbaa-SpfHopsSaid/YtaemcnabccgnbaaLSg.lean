/- Graphs: edges that go both ways, and the other way round: the law of both twice. -/
import Derived.Test.YtaemcnabccgnbaaLBase
import Derived.Test.YtaemcnabccgnbaaFrd
set_option maxRecDepth 100000
set_option linter.unusedVariables false
set_option linter.unusedSimpArgs false
open Go Go.Proofs.Fr
namespace Go.Proofs.Ytaemcnabccgnbaa.F
theorem aliveG : law05_alive.p () = some (true, ()) := by decide +kernel
abbrev Eg := Int × Int × Int × Unit
abbrev Gr := Int × List Eg × Unit
abbrev zE : Eg := (0, 0, 0, ())
def revE (x : Eg) : Eg := (x.2.1, x.1, x.2.2.1, ())
theorem rev_rev (x : Eg) : revE (revE x) = x := rfl
theorem sameG (g : Gr) (hl : g.2.1.length ≤ 100000) : ref05_Same.p (g, g, ()) = some (true, ()) := by
  unfold ref05_Same.p
  simp only [jn_eq, decide_true, Bool.not_true, Bool.false_eq_true, if_false]
  refine iterK_fix (F := fun _ => some (true, ())) (m := fun x => g.2.1.length - x.1.toNat) (I := fun x => ∃ i : Nat, x = ((i : Int), ()) ∧ i ≤ g.2.1.length) ?_ _ _ ⟨0, rfl, by omega⟩ (by simp only [Int.toNat_zero]; omega)
  rintro x r ⟨i, rfl, hi⟩ ih
  simp only [Int.toNat_natCast]
  by_cases hil : i < g.2.1.length
  · have hil2 : (i : Int) < (g.2.1.length : Int) := Int.ofNat_lt.2 hil
    simp only [hil2, decide_true, if_true, Bool.and_self, Bool.not_true, Bool.false_eq_true, if_false]
    rw [if_pos ⟨Int.natCast_nonneg _, trivial⟩, if_pos ⟨Int.natCast_nonneg _, trivial⟩, w64 (x := (i : Int) + 1) (by omega)]
    exact ih _ ⟨i + 1, rfl, hil⟩ (by simp only; omega)
  · have hil2 : ¬ (i : Int) < (g.2.1.length : Int) := fun h => hil (Int.ofNat_lt.1 h)
    simp only [hil2, decide_false, Bool.false_eq_true, if_false]
theorem reverse_eq (g : Gr) (hl : g.2.1.length ≤ 100000) : spf_Reverse.p (g, ()) = some ((g.1, g.2.1.map revE, ()), ()) := by
  unfold spf_Reverse.p
  simp only [jn_eq]
  refine iterK_fix (F := fun _ => some ((g.1, g.2.1.map revE, ()), ())) (m := fun x => g.2.1.length - x.1.toNat) (I := fun x => ∃ i : Nat, x = ((i : Int), (g.1, (g.2.1.take i).map revE, ()), ()) ∧ i ≤ g.2.1.length) ?_ _ _ ⟨0, rfl, by omega⟩ (by simp only [Int.toNat_zero]; omega)
  rintro x r ⟨i, rfl, hi⟩ ih
  simp only [Int.toNat_natCast]
  by_cases hil : i < g.2.1.length
  · have hil2 : (i : Int) < (g.2.1.length : Int) := Int.ofNat_lt.2 hil
    have l1 : ((g.2.1.take i).map revE).length ≤ 100000 := by rw [List.length_map, List.length_take]; omega
    have e : (g.2.1.take (i + 1)).map revE = (g.2.1.take i).map revE ++ [revE (rdZ zE g.2.1 i)] := by
      rw [List.take_succ_eq_append_getElem hil, List.map_append, rdZ_get zE g.2.1 i hil]; rfl
    simp only [hil2, decide_true, if_true]
    rw [if_pos ⟨Int.natCast_nonneg _, trivial⟩, if_pos (by simp only [List.length_cons, List.length_nil, maxBytes]; omega), w64 (x := (i : Int) + 1) (by omega)]
    exact ih _ ⟨i + 1, by rw [e]; rfl, hil⟩ (by simp only; omega)
  · have hil2 : ¬ (i : Int) < (g.2.1.length : Int) := fun h => hil (Int.ofNat_lt.1 h)
    have e : g.2.1.take i = g.2.1 := List.take_of_length_le (by omega)
    simp only [hil2, decide_false, Bool.false_eq_true, if_false, e]
abbrev mutE (l : List Eg) : List Eg := l.filter fun x => l.any fun y => decide (y.1 = x.2.1 ∧ y.2.1 = x.1)
theorem mut_eq (g : Gr) (hl : g.2.1.length ≤ 100000) : spf_Mutual.p (g, ()) = some ((g.1, mutE g.2.1, ()), ()) := by
  unfold spf_Mutual.p
  exact if_pos hl
theorem mut_all (l : List Eg) (h : ∀ x ∈ l, ∃ y ∈ l, y.1 = x.2.1 ∧ y.2.1 = x.1) : mutE l = l := by
  unfold mutE
  rw [List.filter_eq_self]
  intro x hx
  obtain ⟨y, hy, h1⟩ := h x hx
  exact List.any_eq_true.2 ⟨y, hy, decide_eq_true h1⟩
theorem mut_part (l : List Eg) : ∀ x ∈ mutE l, ∃ y ∈ mutE l, y.1 = x.2.1 ∧ y.2.1 = x.1 := by
  intro x hx
  obtain ⟨hx1, hx2⟩ := List.mem_filter.1 hx
  obtain ⟨y, hy, h1⟩ := List.any_eq_true.1 hx2
  have h2 := of_decide_eq_true h1
  exact ⟨y, List.mem_filter.2 ⟨hy, List.any_eq_true.2 ⟨x, hx1, decide_eq_true ⟨h2.2.symm, h2.1.symm⟩⟩⟩, h2⟩
theorem twiceG (g : Gr) : law05_SpfTwice.p (g, ()) = some (true, ()) := by
  unfold law05_SpfTwice.p
  simp only [aliveG, Option.bind_some, jn_eq, if_true, law05_plain.p]
  by_cases h : (g.2.1.length : Int) > 410
  · simp only [h, decide_true, if_true]
  · have hl : g.2.1.length ≤ 100000 := by omega
    have hml : (mutE g.2.1).length ≤ g.2.1.length := List.length_filter_le _ _
    have hle : ((mutE g.2.1).length : Int) ≤ (g.2.1.length : Int) := by omega
    have m1 := mut_eq g hl
    have m2 := mut_eq (g.1, mutE g.2.1, ()) (by show (mutE g.2.1).length ≤ _; omega)
    have e2 : mutE (mutE g.2.1) = mutE g.2.1 := mut_all _ (mut_part _)
    have s1 := sameG (g.1, mutE g.2.1, ()) (by show (mutE g.2.1).length ≤ _; omega)
    have r1 := reverse_eq g hl
    have r2 := reverse_eq (g.1, g.2.1.map revE, ()) (by show (g.2.1.map revE).length ≤ _; rw [List.length_map]; exact hl)
    have e3 : (g.2.1.map revE).map revE = g.2.1 := by rw [List.map_map]; exact List.map_id _
    have s2 := sameG g hl
    have r3 := reverse_eq (g.1, mutE g.2.1, ()) (by show (mutE g.2.1).length ≤ _; omega)
    have m3 := mut_eq (g.1, (mutE g.2.1).map revE, ()) (by show ((mutE g.2.1).map revE).length ≤ _; rw [List.length_map]; omega)
    have e4 : mutE ((mutE g.2.1).map revE) = (mutE g.2.1).map revE := mut_all _ fun x hx => by
      obtain ⟨x0, hx0, rfl⟩ := List.mem_map.1 hx
      obtain ⟨y, hy, h1, h2⟩ := mut_part _ x0 hx0
      exact ⟨revE y, List.mem_map.2 ⟨y, hy, rfl⟩, h2, h1⟩
    simp only [e2] at m2
    simp only [e3] at r2
    simp only [e4] at m3
    have eg : ((g.1, g.2.1, ()) : Gr) = g := rfl
    simp only [h, decide_false, Bool.false_eq_true, if_false, m1, Option.bind_some, m2, s1, r1, r2, eg, s2, hle, decide_true, if_true, r3, m3, List.length_map]
theorem twiceGW {P : Program} {x : dens (List.map K.v [(.cons (.int .i64) (.cons (.sl 44 (.cons (.int .i64) (.cons (.int .i64) (.cons (.int .i64) .nil)))) .nil))])} (h : WfA P [(.cons (.int .i64) (.cons (.sl 44 (.cons (.int .i64) (.cons (.int .i64) (.cons (.int .i64) .nil)))) .nil))] x) : ∃ y, law05_SpfTwice.p x = some y ∧ y.1 = true :=
  ⟨_, twiceG x.1, rfl⟩
end Go.Proofs.Ytaemcnabccgnbaa.F
