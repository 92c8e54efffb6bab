/- Any script of a store is answered as the document says: the law. -/
import Derived.Test.YthbcmgpmjljdeaaGreatLPd
set_option maxRecDepth 100000
set_option linter.unusedVariables false
set_option linter.unusedSimpArgs false
open Go Go.Proofs.Fr
namespace Go.Proofs.YthbcmgpmjljdeaaGreat.F
theorem cloneA_fun : slices_Clone_api_Ad_api_Ad.p = fun a => if a.1.length ≤ maxBytes / 80 then some (a.1, ()) else none := by
  funext a
  unfold slices_Clone_api_Ad_api_Ad.p
  simp only [List.length_nil, Nat.zero_add, List.nil_append]
  by_cases h0 : a.1.length = 0
  · rw [if_pos h0, List.eq_nil_of_length_eq_zero h0]
    exact both_same _
  · rw [if_neg h0]
theorem aliveS : law14_alive.p () = some (true, ()) := by
  unfold law14_alive.p
  simp only [store_Put.p, store_Store_set.p, cloneA_fun]
  decide +kernel
theorem newS (n : Int) : store_New.p (n, ()) = some (if 1 ≤ n ∧ n ≤ 2000 then ((n, [], false, ()), 0, ()) else ((0, [], false, ()), 1, ())) := by
  unfold store_New.p store_isMax.p
  simp only [jn_eq, ge_iff_le]
  by_cases h1 : 1 ≤ n
  · by_cases h2 : n ≤ 2000 <;> simp [h1, h2]
  · simp [h1]
theorem newR (n : Int) : ref14_New.p (n, ()) = some (if 1 ≤ n ∧ n ≤ 2000 then ((n, [], false, ()), 0, ()) else ((0, [], false, ()), 1, ())) := by
  unfold ref14_New.p
  simp only [jn_eq]
  by_cases h1 : n < 1
  · have h2 : ¬ (1 ≤ n ∧ n ≤ 2000) := by omega
    simp [h1, h2]
  · by_cases h3 : n > 2000
    · have h2 : ¬ (1 ≤ n ∧ n ≤ 2000) := by omega
      simp [h1, h2, h3]
    · have h2 : 1 ≤ n ∧ n ≤ 2000 := by omega
      simp [h1, h2, h3]
abbrev Act := Int × Int × Ad × Ky × Unit
theorem act_any (s : St) (hJ : J s) (x : Act) (hx : AdS x.2.2.1) (hl : x.2.2.1.2.1.length ≤ 1400) : ∃ t : St, law14_act.p (s, s, x, ()) = some (t, t, true, ()) ∧ J t := by
  have fin : ∀ t : St, J t → law14_same.p (t, t, ()) = some (true, ()) := fun t h => St_same t (by have := J_len h; omega)
  unfold law14_act.p
  simp only [jn_eq]
  by_cases h1 : x.1 = 1
  · obtain ⟨t, n, e, p1, p2, hJt⟩ := rput_eq s hJ x.2.2.1 hx hl
    refine ⟨t, ?_, hJt⟩
    simp only [h1, decide_true, if_true, p1, p2, Option.bind_some, fin t hJt]
  · by_cases h2 : x.1 = 2
    · obtain ⟨t, b, p1, p2, hJt⟩ := rdrop_both s hJ x.2.2.2.1
      refine ⟨t, ?_, hJt⟩
      simp only [h1, h2, decide_true, decide_false, Bool.false_eq_true, if_false, if_true, p1, p2, Option.bind_some, beq_self_eq_true, fin t hJt, show ((2 : Int) = 1) = False by simp]
    · by_cases h3 : x.1 = 3
      · obtain ⟨p1, p2⟩ := tick_eq s hJ x.2.1
        have hJt := J_tick s hJ x.2.1
        have hk := keys_self (keyT x.2.1 s.2.1) (Nat.le_trans (keyT_le _ _) (by have := J_len hJ; omega))
        refine ⟨_, ?_, hJt⟩
        simp only [h1, h2, h3, decide_true, decide_false, Bool.false_eq_true, if_false, if_true, p1, p2, hk, Option.bind_some, fin _ hJt, show ((3 : Int) = 1) = False by simp, show ((3 : Int) = 2) = False by simp]
      · by_cases h4 : x.1 = 4
        · obtain ⟨t, e, p1, p2, hJt⟩ := flush_both s hJ x.2.2.2.1
          refine ⟨t, ?_, hJt⟩
          simp only [h1, h2, h3, h4, decide_true, decide_false, Bool.false_eq_true, if_false, if_true, p1, p2, Option.bind_some, fin t hJt, show ((4 : Int) = 1) = False by simp, show ((4 : Int) = 2) = False by simp, show ((4 : Int) = 3) = False by simp]
        · refine ⟨s, ?_, hJ⟩
          simp only [h1, h2, h3, h4, decide_false, Bool.false_eq_true, if_false, if_true, Option.bind_some, fin s hJ]
theorem find_both (s : St) (hJ : J s) (k : Ky) : ∃ (a : Ad) (b : Bool), store_Find.p (s, k, ()) = some (a, b, ()) ∧ ref14_Find.p (s, k, ()) = some (a, b, ()) := by
  have m4 := hJ.1.2.2.2.1
  have hn : s.2.1.length ≤ 10000 := by have := J_len hJ; omega
  by_cases hk : ∃ m, m < s.2.1.length ∧ keyA (rdZ zA s.2.1 m) = k
  · obtain ⟨m, hm, rfl⟩ := hk
    exact ⟨_, _, find_there s m4 hn m hm, rfind_there s m4 hn m hm⟩
  · have hk2 : ∀ j, j < s.2.1.length → keyA (rdZ zA s.2.1 j) ≠ k := fun j hj e => hk ⟨j, hj, e⟩
    exact ⟨_, _, find_not s k m4 hn hk2, rfind_not s k hn hk2⟩
abbrev zC : Act := (0, 0, zA, (0, 0, 0, ()), ())
theorem plays (n : Int) (l : List Act) (k : Ky) (hu : ∀ x ∈ l, AdS x.2.2.1) : law14_StorePlays.p (n, l, k, ()) = some (true, ()) := by
  unfold law14_StorePlays.p
  simp only [newS, newR, Option.bind_some, jn_eq, aliveS]
  by_cases hn : 1 ≤ n ∧ n ≤ 2000
  · have s0 := St_same (n, [], false, ()) (by simp)
    have j0 : J (n, [], false, ()) := ⟨⟨hn.1, hn.2, by show (0 : Int) ≤ n; omega, fun p q hq => absurd hq (by simp), fun j hj => absurd hj (by simp)⟩, fun j hj => absurd hj (by simp)⟩
    simp only [hn, and_self, if_true, decide_true, Bool.not_true, Bool.false_eq_true, if_false, s0, Option.bind_some]
    refine iterK_fix (F := fun _ => some (true, ())) (m := fun x => 80 - x.1.toNat) (I := fun x => ∃ (i : Nat) (s : St), x = ((i : Int), s, s, ()) ∧ i ≤ l.length ∧ i ≤ 80 ∧ J s) ?_ _ _ ⟨0, _, rfl, by omega, by omega, j0⟩ (by simp)
    rintro x r ⟨i, s, rfl, hi, hi80, hJ⟩ ih
    simp only [Int.toNat_natCast]
    by_cases hil : i < l.length
    · have hil2 : (i : Int) < (l.length : Int) := by omega
      by_cases h80 : (i : Int) < 80
      · simp only [hil2, h80, decide_true, if_true]
        rw [if_pos ⟨Int.natCast_nonneg _, trivial⟩, w64 (x := (i : Int) + 1) (by omega)]
        obtain ⟨a, ea⟩ : ∃ a, a = rdZ zC l i := ⟨_, rfl⟩
        have hm : a ∈ l := by rw [ea]; exact rdZ_mem zC l i hil
        simp only [← ea]
        by_cases h300 : (a.2.2.1.2.1.length : Int) > 300
        · simp only [h300, decide_true, if_true]
          exact ih _ ⟨i + 1, s, rfl, by omega, by omega, hJ⟩ (by simp only; omega)
        · obtain ⟨t, hact, hJt⟩ := act_any s hJ a (hu a hm) (by omega)
          have hlt := J_len hJt
          obtain ⟨fa, fb, f1, f2⟩ := find_both t hJt k
          obtain ⟨dg, hd, _⟩ := digest_any t (by omega)
          have hh := heads_eq t (by omega)
          have hhs := heads_self (t.2.1.map (·.1)) (by rw [List.length_map]; omega)
          obtain ⟨u1, u2⟩ := due_eq t (by omega) k.2.2.1
          have hks := keys_self (dueK k.2.2.1 t.2.1) (Nat.le_trans (dueK_le _ _) (by omega))
          have hsf : ref11_Same.p (fa, fa, ()) = some (true, ()) := same_eq fa.1 fa.2.1
          have hss := St_same s (by have := J_len hJ; omega)
          simp only [h300, decide_false, Bool.false_eq_true, if_false]
          rw [if_pos ⟨Int.natCast_nonneg _, trivial⟩]
          simp only [hact, Option.bind_some, Bool.not_true, Bool.false_eq_true, if_false, hss, may_store t hJt, may_ref t hJt, f1, f2, hsf, beq_self_eq_true, digest_same, hd, decide_true, heads_same, hh, hhs, u1, u2, hks]
          exact ih _ ⟨i + 1, t, rfl, by omega, by omega, hJt⟩ (by simp only; omega)
      · simp only [hil2, h80, decide_true, decide_false, if_true, Bool.false_eq_true, if_false]
    · have hil2 : ¬ (i : Int) < (l.length : Int) := by omega
      simp only [hil2, decide_false, Bool.false_eq_true, if_false]
  · have s0 := St_same (0, [], false, ()) (by simp)
    simp only [hn, if_false, decide_true, Bool.not_true, Bool.false_eq_true, s0, Option.bind_some, show ((1 : Int) = 0) = False by simp, decide_false]
    refine iterK_fix (F := fun _ => some (true, ())) (m := fun x => 0) (I := fun x => True) (fun x r _ _ => ?_) _ _ trivial (by omega)
    simp only [Bool.false_eq_true, if_false]
theorem playsW {P : Program} {x : dens (List.map K.v [(.int .i64), (.sl 42 (.cons (.int .i64) (.cons (.int .i64) (.cons (.cons (.cons (.int .i64) (.cons (.int .i64) (.cons (.int .i64) (.cons (.int .u32) (.cons (.int .u32) (.cons (.int .u32) (.cons (.int .i64) (.cons (.int .i64) .nil)))))))) (.cons (.sl 5 (.int .u8)) .nil)) (.cons (.cons (.int .i64) (.cons (.int .u32) (.cons (.int .u32) .nil))) .nil))))), (.cons (.int .i64) (.cons (.int .u32) (.cons (.int .u32) .nil)))])} (h : WfA P [(.int .i64), (.sl 42 (.cons (.int .i64) (.cons (.int .i64) (.cons (.cons (.cons (.int .i64) (.cons (.int .i64) (.cons (.int .i64) (.cons (.int .u32) (.cons (.int .u32) (.cons (.int .u32) (.cons (.int .i64) (.cons (.int .i64) .nil)))))))) (.cons (.sl 5 (.int .u8)) .nil)) (.cons (.cons (.int .i64) (.cons (.int .u32) (.cons (.int .u32) .nil))) .nil))))), (.cons (.int .i64) (.cons (.int .u32) (.cons (.int .u32) .nil)))] x) : ∃ y, law14_StorePlays.p x = some y ∧ y.1 = true :=
  ⟨_, plays x.1 x.2.1 x.2.2.1 (fun a ha => ⟨⟨wf_u32 (h.2.1.2 a ha).2.2.1.1.2.2.2.1, wf_u32 (h.2.1.2 a ha).2.2.1.1.2.2.2.2.1, wf_u32 (h.2.1.2 a ha).2.2.1.1.2.2.2.2.2.1⟩, fun y hy => wf_u8 ((h.2.1.2 a ha).2.2.1.2.1.2 y hy)⟩), rfl⟩
end Go.Proofs.YthbcmgpmjljdeaaGreat.F
