/- What came new is in the store, and in what is sent again: the law. -/
import Derived.Test.YtecfclldoccbcaaGreatLFy
set_option maxRecDepth 100000
set_option linter.unusedVariables false
set_option linter.unusedSimpArgs false
open Go Go.Proofs.Fr
namespace Go.Proofs.YtecfclldoccbcaaGreat.F
theorem same_any (x a : Ad) : ∃ v : Bool, ref11_Same.p (x, a, ()) = some (v, ()) := by
  unfold ref11_Same.p
  simp only [jn_eq]
  split <;> exact ⟨_, rfl⟩
theorem same_self (a : Ad) : ref11_Same.p (a, a, ()) = some (true, ()) := same_eq a.1 a.2.1
theorem has_any (l : List Ad) (a : Ad) (hl : l.length ≤ 100000) : ∃ v : Bool × Unit, law18_has.p (l, a, ()) = some v ∧ ((∃ j, j < l.length ∧ rdZ zA l j = a) → v.1 = true) := by
  unfold law18_has.p
  simp only [jn_eq]
  refine iterK_ex (fun v : Bool × Unit => (∃ j, j < l.length ∧ rdZ zA l j = a) → v.1 = true) (fun x : Int × Unit => l.length - x.1.toNat) (fun x => ∃ i : Nat, x = ((i : Int), ()) ∧ i ≤ l.length ∧ ∀ j, j < i → rdZ zA l j ≠ a) ?_ _ _ ⟨0, rfl, by omega, fun j hj => absurd hj (by omega)⟩ (by simp only [Int.toNat_zero]; omega)
  rintro x r ⟨i, rfl, hi, hj⟩ ih
  simp only [Int.toNat_natCast]
  by_cases hil : i < l.length
  · have hil2 : (i : Int) < (l.length : Int) := Int.ofNat_lt.2 hil
    obtain ⟨v, hv⟩ := same_any (rdZ zA l i) a
    simp only [hil2, decide_true, if_true, hv, Option.bind_some]
    rw [if_pos ⟨Int.natCast_nonneg _, trivial⟩]
    cases hvb : v with
    | true =>
      simp only [if_true]
      exact ⟨_, rfl, fun _ => rfl⟩
    | false =>
      simp only [Bool.false_eq_true, if_false]
      rw [w64 (x := (i : Int) + 1) (by omega)]
      refine ih _ ⟨i + 1, rfl, hil, fun j hj2 e => ?_⟩ (by simp only; omega)
      by_cases hji : j = i
      · rw [hji] at e
        rw [e, same_self, hvb] at hv
        cases hv
      · exact hj j (by omega) e
  · have hil2 : ¬ (i : Int) < (l.length : Int) := fun h => hil (Int.ofNat_lt.1 h)
    simp only [hil2, decide_false, Bool.false_eq_true, if_false]
    exact ⟨_, rfl, fun ⟨j, hj2, e⟩ => absurd e (hj j (by omega))⟩
theorem toP_split (c : Int) (L : List Pr) (i d : Nat) : ∃ z : List Int, toP c L (i + d) = toP c L i ++ z ∧ ∀ x ∈ z, (i : Int) ≤ x := by
  induction d with
  | zero => exact ⟨[], by simp, by simp⟩
  | succ d ih =>
    obtain ⟨z, h1, h2⟩ := ih
    refine ⟨z ++ (if (rdZ zP L (i + d)).1 ≥ 4 ∧ ¬ ((i + d : Nat) : Int) = c then [((i + d : Nat) : Int)] else []), ?_, fun x hx => ?_⟩
    · rw [← Nat.add_assoc, toP_succ, h1, List.append_assoc]
    · rcases List.mem_append.1 hx with h | h
      · exact h2 x h
      · split at h
        · rw [List.mem_singleton.1 h]; omega
        · cases h
theorem to_sent (c : Int) (L : List Pr) (i n : Nat) (hi : i < n) (hs : (rdZ zP L i).1 ≥ 4 ∧ ¬ (i : Int) = c) : (toP c L i).length < (toP c L n).length ∧ rd (toP c L n) (toP c L i).length = (i : Int) := by
  obtain ⟨z, h1, _⟩ := toP_split c L (i + 1) (n - (i + 1))
  rw [show i + 1 + (n - (i + 1)) = n by omega, toP_succ, if_pos hs] at h1
  rw [h1]
  refine ⟨by simp only [List.length_append, List.length_cons, List.length_nil]; omega, ?_⟩
  simp [rd, List.getD_eq_getElem?_getD]
theorem to_unsent (c : Int) (L : List Pr) (i n : Nat) (hi : i < n) (hs : ¬ ((rdZ zP L i).1 ≥ 4 ∧ ¬ (i : Int) = c)) (hlt : (toP c L i).length < (toP c L n).length) : ¬ rd (toP c L n) (toP c L i).length = (i : Int) := by
  obtain ⟨z, h1, h2⟩ := toP_split c L (i + 1) (n - (i + 1))
  rw [show i + 1 + (n - (i + 1)) = n by omega, toP_succ, if_neg hs, List.append_nil] at h1
  rw [h1] at hlt ⊢
  have hz : 0 < z.length := by rw [List.length_append] at hlt; omega
  have e : rd (toP c L i ++ z) (toP c L i).length = rd z 0 := by
    simp only [rd, List.getD_eq_getElem?_getD]
    rw [List.getElem?_append_right (Nat.le_refl _), Nat.sub_self]
  rw [e]
  have := h2 _ (rd_mem z 0 hz)
  omega
theorem reliableF (f : Fd) (c : Int) (a : Ad) (hu : ∀ a ∈ f.1.2.1, AdS a ∧ a.2.1.length ≤ 140737488351232) (ha : AdS a) : law18_FloodReliable.p (f, c, a, ()) = some (true, ()) := by
  unfold law18_FloodReliable.p
  obtain ⟨v, hv, hs⟩ := small_any f hu
  simp only [jn_eq, hv, Option.bind_some, aliveF, if_true]
  cases hvb : v.1 with
  | false => simp only [Bool.not_false, if_true]
  | true =>
    simp only [Bool.not_true, Bool.false_eq_true, if_false]
    by_cases h300 : (a.2.1.length : Int) > 300
    · simp only [h300, decide_true, if_true]
    · obtain ⟨hmay, h60, hL, hP⟩ := hs hvb
      obtain ⟨g, r, hrc, hold, hnew⟩ := receive_eq f.1.1 hmay.2.1 f c a (mayS_inv hmay) ha (by omega) (by omega) (fun j hj => ⟨Nat.le_trans (hP j hj).1 (by omega), Nat.le_trans (hP j hj).2 (by omega)⟩)
      simp only [h300, decide_false, Bool.false_eq_true, if_false, hrc, Option.bind_some]
      by_cases hE : r.2.2.2.2.2.2.1 = 0
      · by_cases hK : r.1 < 2
        · have hto : r.2.1 = [] := hold fun h => by omega
          simp only [hE, hK, hto, decide_true, Bool.not_true, Bool.false_eq_true, if_false, if_true]
          rfl
        · obtain ⟨t, xs, i0, m, hci, hi0, h40, hg, hIt, hlen, hw, hr, hm, hma, hxl, hxs, hto⟩ := hnew hE (by omega)
          have hlt : t.2.1.length ≤ 10000 := by have := hIt.2.1; have := hmay.2.1; omega
          have hfd := find_there t hIt.2.2.1 hlt m hm
          rw [hma] at hfd
          subst hg
          have hxl2 : ((xs.length : Nat) : Int) = (f.2.2.1.length : Int) := by omega
          simp only [hE, hK, decide_true, decide_false, Bool.not_true, Bool.not_false, Bool.false_eq_true, if_false, if_true, keyS, hfd, Option.bind_some, same_self, hxl2, hto]
          refine iterK_fix (F := fun _ => some (true, ())) (m := fun x : Int × Int × Unit => f.2.2.1.length - x.2.1.toNat) (I := fun x => ∃ i : Nat, x = (((toP c f.2.2.1 i).length : Int), (i : Int), ()) ∧ i ≤ f.2.2.1.length) ?_ _ _ ⟨0, rfl, by omega⟩ (by simp only [Int.toNat_zero]; omega)
          rintro x r2 ⟨i, rfl, hi⟩ ih
          simp only [Int.toNat_natCast]
          by_cases hil : i < f.2.2.1.length
          · have hil2 : (i : Int) < (f.2.2.1.length : Int) := Int.ofNat_lt.2 hil
            have hle := toP_le c f.2.2.1 i
            have hsu := toP_succ c f.2.2.1 i
            have hx := hxs i hil
            have hpi := hP i hil
            have hne := next_re c a i (rdZ zP f.2.2.1 i)
            obtain ⟨v1, hv1, hin⟩ := has_any (rdZ zP xs i).2.2.1 a (by rw [hx]; omega)
            obtain ⟨v2, hv2, _⟩ := has_any (rdZ zP f.2.2.1 i).2.2.1 a (by omega)
            have hnx : nextP c a i (rdZ zP f.2.2.1 i) = if (rdZ zP f.2.2.1 i).1 ≥ 4 then (if (i : Int) = c then heardP (rdZ zP f.2.2.1 i) (keyA a) else owesP (heardP (rdZ zP f.2.2.1 i) (keyA a)) a) else rdZ zP f.2.2.1 i := rfl
            have hask : (rdZ zP f.2.2.1 i).1 ≥ 4 → ∀ q, q < (rdZ zP xs i).2.1.length → ¬ rdZ zK (rdZ zP xs i).2.1 q = keyA a := by
              intro h4 q hq e
              have hf : (rdZ zP xs i).2.1 = (rdZ zP f.2.2.1 i).2.1.filter (fun x => decide (¬ keyK x = keyA a)) := by
                rw [hx, hnx, if_pos h4]
                split <;> rfl
              have hmem := rdZ_mem zK _ q hq
              rw [e, hf] at hmem
              have := (List.mem_filter.1 hmem).2
              simp [keyK] at this
            have hal : (rdZ zP xs i).2.1.length ≤ 10000 := by rw [hx]; omega
            simp only [hil2, decide_true, if_true, hv1, hv2, Option.bind_some]
            rw [if_pos ⟨Int.natCast_nonneg _, trivial⟩, w64 (x := (i : Int) + 1) (by omega), w64 (x := ((toP c f.2.2.1 i).length : Int) + 1) (by omega)]
            by_cases h4 : (rdZ zP f.2.2.1 i).1 ≥ 4
            · have h4d : decide ((rdZ zP f.2.2.1 i).1 ≥ 4) = true := decide_eq_true h4
              by_cases hc : (i : Int) = c
              · have hcd : decide ((i : Int) = c) = true := decide_eq_true hc
                have hs : ¬ ((rdZ zP f.2.2.1 i).1 ≥ 4 ∧ ¬ (i : Int) = c) := fun h => h.2 hc
                rw [if_neg hs, List.append_nil] at hsu
                have hun := to_unsent c f.2.2.1 i f.2.2.1.length hil hs
                have hre : v1 = v2 := by
                  have e : (rdZ zP xs i).2.2.1 = (rdZ zP f.2.2.1 i).2.2.1 := by rw [hx, hnx, if_pos h4, if_pos hc]; rfl
                  rw [e, hv2] at hv1
                  cases hv1; rfl
                by_cases hT : ((toP c f.2.2.1 i).length : Int) < ((toP c f.2.2.1 f.2.2.1.length).length : Int)
                · have hrd : decide (rd (toP c f.2.2.1 f.2.2.1.length) (toP c f.2.2.1 i).length = (i : Int)) = false := decide_eq_false (hun (Int.ofNat_lt.1 hT))
                  simp only [hT, hrd, h4d, hcd, hre, decide_true, if_true, Int.natCast_nonneg, and_self, Bool.not_false, Bool.not_true, beq_self_eq_true, Bool.false_eq_true, if_false]
                  refine iterK_fix (F := fun _ => some (true, ())) (m := fun x : Int × Unit => (rdZ zP xs i).2.1.length - x.1.toNat) (I := fun x => ∃ q : Nat, x = ((q : Int), ()) ∧ q ≤ (rdZ zP xs i).2.1.length) ?_ _ _ ⟨0, rfl, by omega⟩ (by simp only [Int.toNat_zero]; omega)
                  rintro y r3 ⟨q, rfl, hq⟩ ih3
                  by_cases hql : q < (rdZ zP xs i).2.1.length
                  · have hql2 : (q : Int) < ((rdZ zP xs i).2.1.length : Int) := Int.ofNat_lt.2 hql
                    have hne2 := hask h4 q hql
                    simp only [Int.toNat_natCast, hql2, hil2, decide_true, if_true, keq, hne2, decide_false, Bool.false_eq_true, if_false, Int.natCast_nonneg, and_self]
                    rw [w64 (x := (q : Int) + 1) (by omega)]
                    exact ih3 _ ⟨q + 1, rfl, hql⟩ (by simp only; omega)
                  · have hql2 : ¬ (q : Int) < ((rdZ zP xs i).2.1.length : Int) := fun h => hql (Int.ofNat_lt.1 h)
                    simp only [hql2, hil2, decide_true, decide_false, Bool.false_eq_true, if_false, if_true, Int.natCast_nonneg, and_self]
                    exact ih _ ⟨i + 1, by rw [hsu]; rfl, hil⟩ (by simp only; omega)
                · simp only [hT, h4d, hcd, hre, decide_true, decide_false, if_true, Int.natCast_nonneg, and_self, Bool.not_false, Bool.not_true, beq_self_eq_true, Bool.false_eq_true, if_false]
                  refine iterK_fix (F := fun _ => some (true, ())) (m := fun x : Int × Unit => (rdZ zP xs i).2.1.length - x.1.toNat) (I := fun x => ∃ q : Nat, x = ((q : Int), ()) ∧ q ≤ (rdZ zP xs i).2.1.length) ?_ _ _ ⟨0, rfl, by omega⟩ (by simp only [Int.toNat_zero]; omega)
                  rintro y r3 ⟨q, rfl, hq⟩ ih3
                  by_cases hql : q < (rdZ zP xs i).2.1.length
                  · have hql2 : (q : Int) < ((rdZ zP xs i).2.1.length : Int) := Int.ofNat_lt.2 hql
                    have hne2 := hask h4 q hql
                    simp only [Int.toNat_natCast, hql2, hil2, decide_true, if_true, keq, hne2, decide_false, Bool.false_eq_true, if_false, Int.natCast_nonneg, and_self]
                    rw [w64 (x := (q : Int) + 1) (by omega)]
                    exact ih3 _ ⟨q + 1, rfl, hql⟩ (by simp only; omega)
                  · have hql2 : ¬ (q : Int) < ((rdZ zP xs i).2.1.length : Int) := fun h => hql (Int.ofNat_lt.1 h)
                    simp only [hql2, hil2, decide_true, decide_false, Bool.false_eq_true, if_false, if_true, Int.natCast_nonneg, and_self]
                    exact ih _ ⟨i + 1, by rw [hsu]; rfl, hil⟩ (by simp only; omega)
              · have hcd : decide ((i : Int) = c) = false := decide_eq_false hc
                obtain ⟨hT0, hr0⟩ := to_sent c f.2.2.1 i f.2.2.1.length hil ⟨h4, hc⟩
                have hT : ((toP c f.2.2.1 i).length : Int) < ((toP c f.2.2.1 f.2.2.1.length).length : Int) := Int.ofNat_lt.2 hT0
                have hrd : decide (rd (toP c f.2.2.1 f.2.2.1.length) (toP c f.2.2.1 i).length = (i : Int)) = true := decide_eq_true hr0
                rw [if_pos ⟨h4, hc⟩] at hsu
                have hre : v1.1 = true := by
                  have e : (rdZ zP xs i).2.2.1 = (rdZ zP f.2.2.1 i).2.2.1.filter (fun x => decide (¬ keyA x = keyA a)) ++ [a] := by rw [hx, hnx, if_pos h4, if_neg hc]; rfl
                  refine hin ⟨((rdZ zP f.2.2.1 i).2.2.1.filter (fun x => decide (¬ keyA x = keyA a))).length, ?_, ?_⟩
                  · rw [e, List.length_append]; exact Nat.lt_succ_self _
                  · rw [e]
                    simp only [rdZ, List.getD_eq_getElem?_getD]
                    rw [List.getElem?_append_right (Nat.le_refl _), Nat.sub_self]
                    rfl
                simp only [hT, hrd, h4d, hcd, hre, decide_true, if_true, Int.natCast_nonneg, and_self, Bool.not_false, Bool.not_true, beq_self_eq_true, Bool.false_eq_true, if_false]
                refine iterK_fix (F := fun _ => some (true, ())) (m := fun x : Int × Unit => (rdZ zP xs i).2.1.length - x.1.toNat) (I := fun x => ∃ q : Nat, x = ((q : Int), ()) ∧ q ≤ (rdZ zP xs i).2.1.length) ?_ _ _ ⟨0, rfl, by omega⟩ (by simp only [Int.toNat_zero]; omega)
                rintro y r3 ⟨q, rfl, hq⟩ ih3
                by_cases hql : q < (rdZ zP xs i).2.1.length
                · have hql2 : (q : Int) < ((rdZ zP xs i).2.1.length : Int) := Int.ofNat_lt.2 hql
                  have hne2 := hask h4 q hql
                  simp only [Int.toNat_natCast, hql2, hil2, decide_true, if_true, keq, hne2, decide_false, Bool.false_eq_true, if_false, Int.natCast_nonneg, and_self]
                  rw [w64 (x := (q : Int) + 1) (by omega)]
                  exact ih3 _ ⟨q + 1, rfl, hql⟩ (by simp only; omega)
                · have hql2 : ¬ (q : Int) < ((rdZ zP xs i).2.1.length : Int) := fun h => hql (Int.ofNat_lt.1 h)
                  simp only [hql2, hil2, decide_true, decide_false, Bool.false_eq_true, if_false, if_true, Int.natCast_nonneg, and_self]
                  exact ih _ ⟨i + 1, by rw [hsu, List.length_append]; rfl, hil⟩ (by simp only; omega)
            · have h4d : decide ((rdZ zP f.2.2.1 i).1 ≥ 4) = false := decide_eq_false h4
              have hs : ¬ ((rdZ zP f.2.2.1 i).1 ≥ 4 ∧ ¬ (i : Int) = c) := fun h => h4 h.1
              rw [if_neg hs, List.append_nil] at hsu
              have hun := to_unsent c f.2.2.1 i f.2.2.1.length hil hs
              have hre : v1 = v2 := by
                have e : (rdZ zP xs i).2.2.1 = (rdZ zP f.2.2.1 i).2.2.1 := by rw [hx, hnx, if_neg h4]
                rw [e, hv2] at hv1
                cases hv1; rfl
              by_cases hT : ((toP c f.2.2.1 i).length : Int) < ((toP c f.2.2.1 f.2.2.1.length).length : Int)
              · have hrd : decide (rd (toP c f.2.2.1 f.2.2.1.length) (toP c f.2.2.1 i).length = (i : Int)) = false := decide_eq_false (hun (Int.ofNat_lt.1 hT))
                simp only [hT, hrd, h4d, hre, decide_true, if_true, Int.natCast_nonneg, and_self, Bool.not_false, Bool.not_true, beq_self_eq_true, Bool.false_eq_true, if_false]
                refine iterK_fix (F := fun _ => some (true, ())) (m := fun _ => 0) (I := fun _ => True) (fun y r3 _ _ => ?_) _ _ trivial (by omega)
                exact ih _ ⟨i + 1, by rw [hsu]; rfl, hil⟩ (by simp only; omega)
              · simp only [hT, h4d, hre, decide_true, decide_false, if_true, Int.natCast_nonneg, and_self, Bool.not_false, Bool.not_true, beq_self_eq_true, Bool.false_eq_true, if_false]
                refine iterK_fix (F := fun _ => some (true, ())) (m := fun _ => 0) (I := fun _ => True) (fun y r3 _ _ => ?_) _ _ trivial (by omega)
                exact ih _ ⟨i + 1, by rw [hsu]; rfl, hil⟩ (by simp only; omega)
          · have hil2 : ¬ (i : Int) < (f.2.2.1.length : Int) := fun h => hil (Int.ofNat_lt.1 h)
            have hie : i = f.2.2.1.length := by omega
            subst hie
            simp only [hil2, decide_false, Bool.false_eq_true, if_false, decide_true]
      · have hto : r.2.1 = [] := hold fun h => hE h.1
        simp only [hE, hto, decide_false, Bool.not_false, if_true]
        rfl
theorem reliableFW {P : Program} (hb : 1 ≤ P.bytesOf 5) {x : dens (List.map K.v [(.cons (.cons (.int .i64) (.cons (.sl 33 (.cons (.cons (.int .i64) (.cons (.int .i64) (.cons (.int .i64) (.cons (.int .u32) (.cons (.int .u32) (.cons (.int .u32) (.cons (.int .i64) (.cons (.int .i64) .nil)))))))) (.cons (.sl 5 (.int .u8)) .nil))) (.cons .bool .nil))) (.cons (.int .u32) (.cons (.sl 50 (.cons (.int .i64) (.cons (.sl 45 (.cons (.int .i64) (.cons (.int .u32) (.cons (.int .u32) .nil)))) (.cons (.sl 33 (.cons (.cons (.int .i64) (.cons (.int .i64) (.cons (.int .i64) (.cons (.int .u32) (.cons (.int .u32) (.cons (.int .u32) (.cons (.int .i64) (.cons (.int .i64) .nil)))))))) (.cons (.sl 5 (.int .u8)) .nil))) .nil)))) .nil))), (.int .i64), (.cons (.cons (.int .i64) (.cons (.int .i64) (.cons (.int .i64) (.cons (.int .u32) (.cons (.int .u32) (.cons (.int .u32) (.cons (.int .i64) (.cons (.int .i64) .nil)))))))) (.cons (.sl 5 (.int .u8)) .nil))])} (h : WfA P [(.cons (.cons (.int .i64) (.cons (.sl 33 (.cons (.cons (.int .i64) (.cons (.int .i64) (.cons (.int .i64) (.cons (.int .u32) (.cons (.int .u32) (.cons (.int .u32) (.cons (.int .i64) (.cons (.int .i64) .nil)))))))) (.cons (.sl 5 (.int .u8)) .nil))) (.cons .bool .nil))) (.cons (.int .u32) (.cons (.sl 50 (.cons (.int .i64) (.cons (.sl 45 (.cons (.int .i64) (.cons (.int .u32) (.cons (.int .u32) .nil)))) (.cons (.sl 33 (.cons (.cons (.int .i64) (.cons (.int .i64) (.cons (.int .i64) (.cons (.int .u32) (.cons (.int .u32) (.cons (.int .u32) (.cons (.int .i64) (.cons (.int .i64) .nil)))))))) (.cons (.sl 5 (.int .u8)) .nil))) .nil)))) .nil))), (.int .i64), (.cons (.cons (.int .i64) (.cons (.int .i64) (.cons (.int .i64) (.cons (.int .u32) (.cons (.int .u32) (.cons (.int .u32) (.cons (.int .i64) (.cons (.int .i64) .nil)))))))) (.cons (.sl 5 (.int .u8)) .nil))] x) : ∃ y, law18_FloodReliable.p x = some y ∧ y.1 = true :=
  ⟨_, reliableF x.1 x.2.1 x.2.2.1 (fun a ha => ⟨⟨⟨wf_u32 (h.1.1.2.1.2 a ha).1.2.2.2.1, wf_u32 (h.1.1.2.1.2 a ha).1.2.2.2.2.1, wf_u32 (h.1.1.2.1.2 a ha).1.2.2.2.2.2.1⟩, fun y hy => wf_u8 ((h.1.1.2.1.2 a ha).2.1.2 y hy)⟩, len_of hb (h.1.1.2.1.2 a ha).2.1.1⟩)
    ⟨⟨wf_u32 h.2.2.1.1.2.2.2.1, wf_u32 h.2.2.1.1.2.2.2.2.1, wf_u32 h.2.2.1.1.2.2.2.2.2.1⟩, fun y hy => wf_u8 (h.2.2.1.2.1.2 y hy)⟩, rfl⟩
end Go.Proofs.YtecfclldoccbcaaGreat.F
