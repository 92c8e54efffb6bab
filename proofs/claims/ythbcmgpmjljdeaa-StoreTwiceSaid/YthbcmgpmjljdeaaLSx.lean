/- Stores: sticky; put twice: the laws. -/
import Derived.Test.YthbcmgpmjljdeaaLSw
set_option maxRecDepth 100000
set_option linter.unusedVariables false
set_option linter.unusedSimpArgs false
open Go Go.Proofs.Fr
namespace Go.Proofs.Ythbcmgpmjljdeaa.F
abbrev sealIn (i : Int) : Ad × Unit := (((0, 0, 3, i, 0, 0, 0, 0, ()), List.replicate 8 0, ()), ())
noncomputable def sealed (i : Int) : Ad := match lsa_Seal.p (sealIn i) with
  | some v => v.1
  | none => zA
theorem seal_at (i : Int) (hi : i = 1 ∨ i = 2) : lsa_Seal.p (sealIn i) = some (sealed i, 0, ()) := by
  have hs := seal_eq (0, 0, 3, i, 0, 0, 0, 0, ()) (List.replicate 8 0) ⟨⟨by simp only; omega, by simp only; omega⟩, ⟨by simp only; omega, by simp only; omega⟩, ⟨by simp only; omega, by simp only; omega⟩⟩ (fun x hx => by rw [(List.mem_replicate.1 hx).2]; decide) (by simp)
  have hz : (lsa_Seal.p (sealIn i)).map (fun v => v.2.1) = some 0 := by rcases hi with rfl | rfl <;> decide +kernel
  unfold sealed
  rcases hs with h | ⟨hs, _, _, h⟩
  · unfold sealIn at hz
    rw [h] at hz
    cases hz
  · unfold sealIn
    rw [h]
instance (h : Hd) : Decidable (HdOk h) := by unfold HdOk U32; infer_instance
theorem sealedOk (i : Int) (hi : i = 1 ∨ i = 2) : AdS (sealed i) ∧ (sealed i).2.1.length ≤ 1400 ∧ whole (sealed i).1 (sealed i).2.1 = true ∧ rightB (sealed i) = true ∧ keyA (sealed i) = (3, i, 0, ()) := by
  have hu : HdOk (sealed i).1 := by rcases hi with rfl | rfl <;> decide +kernel
  have hz : (sealed i).2.1 = List.replicate 8 0 := by rcases hi with rfl | rfl <;> decide +kernel
  have hb : By (sealed i).2.1 := by
    rw [hz]
    intro x hx
    rw [(List.mem_replicate.1 hx).2]
    decide
  have hl : (sealed i).2.1.length ≤ 1400 := by rw [hz]; decide
  have hw : lsa_Whole.p (sealed i, ()) = some (true, ()) := by rcases hi with rfl | rfl <;> decide +kernel
  have hr : body_Right.p (sealed i, ()) = some (true, ()) := by rcases hi with rfl | rfl <;> decide +kernel
  rw [wholeS _ ⟨hu, hb⟩ hl] at hw
  rw [right_eq _ hb hl] at hr
  refine ⟨⟨hu, hb⟩, hl, ?_, ?_, ?_⟩
  · simpa using hw
  · simpa using hr
  · rcases hi with rfl | rfl <;> decide +kernel
theorem aliveS : law14_alive.p () = some (true, ()) := by
  obtain ⟨a1, a2, a3, a4, a5⟩ := sealedOk 1 (.inl rfl)
  obtain ⟨b1, b2, b3, b4, b5⟩ := sealedOk 2 (.inr rfl)
  have n1 : store_New.p (1, ()) = some ((1, [], false, ()), 0, ()) := rfl
  have n0 : store_New.p (0, ()) = some ((0, [], false, ()), 1, ()) := rfl
  obtain ⟨i, hi, hr, hp⟩ := put_new (1, [], false, ()) (sealed 1) a1 a2 a3 a4 (fun p q hq => absurd hq (by simp)) (by simp) (fun j hj => absurd hj (by simp)) (by simp)
  have hi0 : i = 0 := Nat.le_zero.1 hi
  subst hi0
  have hp2 := put_full (1, [sealed 1], false, ()) (sealed 2) b1 b2 b3 b4 (fun p q hq hpq => absurd hq (by simp; omega)) (by simp) (fun j hj => by
    have hj0 : j = 0 := Nat.lt_one_iff.1 hj
    subst hj0
    show keyA (sealed 1) ≠ keyA (sealed 2)
    rw [a5, b5]
    decide) (by simp)
  have s1 := seal_at 1 (.inl rfl)
  have s2 := seal_at 2 (.inr rfl)
  unfold sealIn at s1 s2
  unfold law14_alive.p
  simp only [n1, n0, Option.bind_some, show (8 : Int).toNat = 8 from rfl, s1, s2, jn_eq]
  rw [if_pos (by decide), if_pos (by decide), hp]
  simp only [Option.bind_some, List.take_nil, List.drop_nil, List.nil_append, List.append_nil, hp2]
  rfl
theorem and15 (x : Int) : 0 ≤ ibits .and .i64 x 15 ∧ ibits .and .i64 x 15 ≤ 15 := by
  have h : ∃ n : Nat, n ≤ 15 ∧ ibits .and .i64 x 15 = IntKind.i64.wrap (n : Int) := by
    refine ⟨(BitVec.ofInt 64 x &&& BitVec.ofInt 64 15).toNat, ?_, rfl⟩
    rw [BitVec.toNat_and]
    exact Nat.le_trans Nat.and_le_right (by decide)
  obtain ⟨n, hn, e⟩ := h
  rw [e, w64 (by omega)]
  omega
theorem isMax_eq (n : Int) : store_isMax.p (n, ()) = some (decide (1 ≤ n ∧ n ≤ 2000), ()) := by
  unfold store_isMax.p
  simp only [jn_eq, ge_iff_le]
  by_cases h1 : 1 ≤ n <;> simp [h1]
theorem new_eq (n : Int) : store_New.p (n, ()) = some (if 1 ≤ n ∧ n ≤ 2000 then ((n, [], false, ()), 0, ()) else ((0, [], false, ()), 1, ())) := by
  unfold store_New.p
  simp only [isMax_eq, Option.bind_some]
  by_cases h : 1 ≤ n ∧ n ≤ 2000
  · simp only [h, if_true, and_self, decide_true, Bool.not_true, Bool.false_eq_true, if_false]
  · simp only [h, if_false, decide_false, Bool.not_false, if_true]
theorem over_if (o w : Bool) (Y : Option (Bool × Unit)) : (if o = true then (if (!(o || w)) = true then some (false, ()) else if o = true then (if (!((o || w) == true)) = true then some (false, ()) else Y) else (if (!((o || w) == w)) = true then some (false, ()) else Y))
    else (if o = true then (if (!((o || w) == true)) = true then some (false, ()) else Y) else (if (!((o || w) == w)) = true then some (false, ()) else Y))) = Y := by
  cases o <;> cases w <;> rfl
theorem sticky (x : Int) (l : List Ad) (hu : ∀ a ∈ l, AdS a) : law14_StoreSticky.p (x, l, ()) = some (true, ()) := by
  unfold law14_StoreSticky.p
  obtain ⟨h0, h15⟩ := and15 x
  obtain ⟨c, hc⟩ : ∃ c, c = ibits .and .i64 x 15 := ⟨_, rfl⟩
  simp only [← hc, new_eq, jn_eq, aliveS, Option.bind_some, if_true] at *
  by_cases hc0 : c = 0
  · subst hc0
    rfl
  · have hn1 : 1 ≤ c ∧ c ≤ 2000 := by omega
    simp only [hn1, and_self, if_true, decide_true, Bool.not_true, Bool.false_eq_true, if_false]
    refine iterK_fix (F := fun _ => some (true, ())) (m := fun x => 80 - x.1.toNat) (I := fun x => ∃ (n : Nat) (s : St), x = ((n : Int), s, ()) ∧ n ≤ l.length ∧ n ≤ 80 ∧ Inv c s) ?_ _ _ ⟨0, _, rfl, by omega, by omega, inv_new c (by omega)⟩ (by simp)
    rintro y r ⟨n, s, rfl, hn, hn80, hI⟩ ih
    simp only [Int.toNat_natCast]
    by_cases hnl : n < l.length
    · have hnl2 : (n : Int) < (l.length : Int) := by omega
      simp only [hnl2, decide_true, if_true]
      by_cases h80 : (n : Int) < 80
      · simp only [h80, decide_true, if_true]
        rw [if_pos ⟨Int.natCast_nonneg _, trivial⟩]
        rw [w64 (x := (n : Int) + 1) (by omega)]
        obtain ⟨a, ea⟩ : ∃ a, a = rdZ zA l n := ⟨_, rfl⟩
        have hm : a ∈ l := by rw [ea]; exact rdZ_mem zA l n hnl
        simp only [← ea]
        by_cases h300 : (a.2.1.length : Int) > 300
        · simp only [h300, decide_true, if_true]
          exact ih _ ⟨n + 1, s, rfl, by omega, by omega, hI⟩ (by simp only; omega)
        · simp only [h300, decide_false, Bool.false_eq_true, if_false]
          rw [if_pos ⟨Int.natCast_nonneg _, trivial⟩]
          obtain ⟨t, k, e, hp, hIt, hlen, hlen1, hov, _, _, hold, hnew⟩ := put_any c (by omega) s hI a (hu a hm) (by omega)
          have hls : s.2.1.length ≤ 10000 := by have := hI.2.1; omega
          have hlt : t.2.1.length ≤ 10000 := by have := hIt.2.1; omega
          have hg : ∀ j, j < s.2.1.length → 0 ≤ (rdZ zA s.2.1 j).1.1 ∧ (rdZ zA s.2.1 j).1.1 ≤ 3600 := hI.2.2.2
          have hgt : ∀ j, j < t.2.1.length → 0 ≤ (rdZ zA t.2.1 j).1.1 ∧ (rdZ zA t.2.1 j).1.1 ≤ 3600 := hIt.2.2.2
          have c1 : ¬ (t.2.1.length : Int) > c := by have := hIt.2.1; omega
          have c2 : ¬ (t.2.1.length : Int) < (s.2.1.length : Int) := by omega
          have inner : ∀ (X : Option (Bool × Unit)), X = some (true, ()) → iterK 4611686018427387904 (fun (x26 : Int × Unit) r27 => (if (decide (x26.1 < (s.2.1.length : Int))) = true then (if 0 ≤ x26.1 ∧ x26.1 < (s.2.1.length : Int) then ((lsa_Key.p ((rdZ zA s.2.1 x26.1.toNat).1, ())).bind fun y28 => ((store_Find.p (t, y28.1, ())).bind fun y29 => (if (!y29.2.1) = true then (some (false, ())) else (if 0 ≤ x26.1 ∧ x26.1 < (s.2.1.length : Int) then ((lsa_Compare.p ((rdZ zA s.2.1 x26.1.toNat).1, y29.1.1, ())).bind fun y32 => (if (decide (y32.1 > 0)) = true then (some (false, ())) else (r27 (IntKind.i64.wrap (x26.1 + 1), ())))) else none)))) else none) else X)) (0, ()) = some (true, ()) := by
            intro X hX
            refine iterK_fix (F := fun _ => some (true, ())) (m := fun x => s.2.1.length - x.1.toNat) (I := fun x => ∃ j : Nat, x = ((j : Int), ()) ∧ j ≤ s.2.1.length) ?_ _ _ ⟨0, rfl, by omega⟩ (by simp only [Int.toNat_zero]; omega)
            rintro z r2 ⟨j, rfl, hj⟩ ih2
            simp only [Int.toNat_natCast]
            by_cases hjs : j < s.2.1.length
            · have hjs2 : (j : Int) < (s.2.1.length : Int) := Int.ofNat_lt.2 hjs
              obtain ⟨m, hmt, hkm, hcm⟩ := hold j hjs
              simp only [hjs2, decide_true, if_true, keyS, Option.bind_some, ← hkm, find_there t hIt.2.2.1 hlt m hmt, Bool.not_true, Bool.false_eq_true, if_false, compare _ _ (hg j hjs) (hgt m hmt)]
              rw [if_pos ⟨Int.natCast_nonneg _, trivial⟩, if_pos ⟨Int.natCast_nonneg _, trivial⟩, if_neg (by simpa using hcm), w64 (x := (j : Int) + 1) (by omega)]
              exact ih2 _ ⟨j + 1, rfl, hjs⟩ (by simp only; omega)
            · have hjs2 : ¬ (j : Int) < (s.2.1.length : Int) := fun h => hjs (Int.ofNat_lt.1 h)
              simp only [hjs2, decide_false, Bool.false_eq_true, if_false]
              exact hX
          simp only [hp, Option.bind_some]
          simp only [c1, c2, decide_false, Bool.false_eq_true, if_false, hov]
          have hstep : r ((n : Int) + 1, t, ()) = some (true, ()) := ih _ ⟨n + 1, t, rfl, by omega, by omega, hIt⟩ (by simp only; omega)
          refine (over_if s.2.2.1 (decide (e = 8)) _).trans (inner _ ?_)
          by_cases he : e = 0
          · by_cases hk : k ≥ 2
            · obtain ⟨_, _, m, hmt, hkm, hor⟩ := hnew he
              have hma : rdZ zA t.2.1 m = a := by
                rcases hor with h | h
                · exact h.2
                · omega
              have hf := find_there t hIt.2.2.1 hlt m hmt
              have hsm : ref11_Same.p (a, a, ()) = some (true, ()) := same_eq a.1 a.2.1
              rw [hkm, hma] at hf
              simp only [he, hk, decide_true, if_true, keyS, Option.bind_some, hf, hsm, Bool.not_true, Bool.false_eq_true, if_false, hstep]
              rw [if_pos ⟨Int.natCast_nonneg _, trivial⟩, if_pos ⟨Int.natCast_nonneg _, trivial⟩]
            · simp only [he, hk, decide_true, decide_false, if_true, Bool.false_eq_true, if_false, hstep]
          · simp only [he, decide_false, Bool.false_eq_true, if_false, hstep]
      · simp only [h80, decide_false, Bool.false_eq_true, if_false]
    · have hnl2 : ¬ (n : Int) < (l.length : Int) := by omega
      simp only [hnl2, decide_false, Bool.false_eq_true, if_false]
theorem skip_if {R : Type} (p q : Bool) (X Y : R) (h : ¬ (p = true ∧ q = true)) : (if p = true then (if q = true then X else Y) else Y) = Y := by
  cases p
  · rfl
  · cases q
    · rfl
    · exact absurd ⟨rfl, rfl⟩ h
theorem drop_there (s : St) (hr : Rise s.2.1) (hl : s.2.1.length ≤ 10000) (m : Nat) (hm : m < s.2.1.length) : store_Drop.p (s, keyA (rdZ zA s.2.1 m), ()) = some ((s.1, s.2.1.take m ++ s.2.1.drop (m + 1), s.2.2.1, ()), true, ()) := by
  unfold store_Drop.p
  rw [at_there s hr hl m hm]
  simp only [Option.bind_some, Bool.not_true, Bool.false_eq_true, if_false]
  rw [w64 (x := (m : Int) + 1) (by omega)]
  simp only [clone_eq _ hl, Option.bind_some, delete_eq _ m hm hl, store_Store_with.p]
theorem twice (l : List Ad) (a : Ad) (hu : ∀ a ∈ l, AdS a) (ha : AdS a) : law14_StoreTwice.p (l, a, ()) = some (true, ()) := by
  unfold law14_StoreTwice.p
  simp only [new_eq, jn_eq, aliveS, Option.bind_some, if_true, law14_plain.p, keyS, Bool.false_eq_true, if_false]
  refine iterK_fix (F := fun _ => some (true, ())) (m := fun x => 80 - x.1.toNat) (I := fun x => ∃ (n : Nat) (s : St), x = ((n : Int), s, ()) ∧ n ≤ l.length ∧ n ≤ 80 ∧ s.2.1.length ≤ n ∧ Inv 200 s) ?_ _ _ ⟨0, _, rfl, by omega, by omega, by simp, inv_new 200 (by omega)⟩ (by simp)
  rintro y r ⟨n, s, rfl, hn, hn80, hsn, hI⟩ ih
  simp only [Int.toNat_natCast]
  by_cases hgo : n < l.length ∧ n < 80
  · obtain ⟨hnl, h80⟩ := hgo
    have hnl2 : (n : Int) < (l.length : Int) := by omega
    have h802 : (n : Int) < 80 := by omega
    simp only [hnl2, h802, decide_true, if_true]
    rw [if_pos ⟨Int.natCast_nonneg _, trivial⟩, w64 (x := (n : Int) + 1) (by omega)]
    obtain ⟨b, eb⟩ : ∃ b, b = rdZ zA l n := ⟨_, rfl⟩
    have hm : b ∈ l := by rw [eb]; exact rdZ_mem zA l n hnl
    simp only [← eb]
    by_cases h300 : (b.2.1.length : Int) ≤ 300
    · simp only [h300, decide_true, if_true]
      rw [if_pos ⟨Int.natCast_nonneg _, trivial⟩]
      obtain ⟨t, k, e, hp, hIt, hlen, hlen1, hov, _, _, _, _⟩ := put_any 200 (by omega) s hI b (hu b hm) (by omega)
      simp only [hp, Option.bind_some]
      exact ih _ ⟨n + 1, t, rfl, by omega, by omega, by omega, hIt⟩ (by simp only; omega)
    · simp only [h300, decide_false, Bool.false_eq_true, if_false]
      exact ih _ ⟨n + 1, s, rfl, by omega, by omega, by omega, hI⟩ (by simp only; omega)
  · refine (skip_if (decide ((n : Int) < (l.length : Int))) (decide ((n : Int) < 80)) _ _ (fun h => hgo ⟨by have := of_decide_eq_true h.1; omega, by have := of_decide_eq_true h.2; omega⟩)).trans ?_
    by_cases h300 : (a.2.1.length : Int) > 300
    · simp only [h300, decide_true, if_true]
    · simp only [h300, decide_false, Bool.false_eq_true, if_false]
      obtain ⟨t, k, e, hp, hIt, hlen, hlen1, hov, hts, hfu, _, hnew⟩ := put_any 200 (by omega) s hI a ha (by omega)
      simp only [hp, Option.bind_some]
      by_cases he : e = 0
      · obtain ⟨hw, hr, m, hmt, hkm, hor⟩ := hnew he
        have hlt : t.2.1.length ≤ 10000 := by omega
        have h2 := put_there t a ha (by omega) hw hr hIt.2.2.1 hlt hIt.2.2.2 m hmt hkm
        obtain ⟨q, hq, hq2⟩ : ∃ q : Int, store_Put.p (t, a, ()) = some (t, q, 0, ()) ∧ (k = 0 ∧ q = 0 ∨ ¬ k = 0 ∧ q = 1) := by
          rcases hor with ⟨hk, hma⟩ | ⟨hk, hk2⟩
          · rw [hma, cmpH_same, if_neg (by decide)] at h2
            exact ⟨_, h2, .inr ⟨by omega, rfl⟩⟩
          · rw [if_neg (by omega)] at h2
            exact ⟨_, h2, by omega⟩
        have hd := drop_there t hIt.2.2.1 hlt m hmt
        rw [hkm] at hd
        have hdl : (t.2.1.take m ++ t.2.1.drop (m + 1)).length = t.2.1.length - 1 := by simp; omega
        have hf := find_not (t.1, t.2.1.take m ++ t.2.1.drop (m + 1), t.2.2.1, ()) (keyA a) (rise_del t.2.1 m hmt hIt.2.2.1) (by show (t.2.1.take m ++ t.2.1.drop (m + 1)).length ≤ _; rw [hdl]; omega) (fun j hj => by
          have hj2 : j < (t.2.1.take m ++ t.2.1.drop (m + 1)).length := hj
          rw [hdl] at hj2
          show keyA (rdZ zA (t.2.1.take m ++ t.2.1.drop (m + 1)) j) ≠ keyA a
          rw [del_at _ m hmt, ← hkm]
          intro hh
          by_cases hjm : j < m
          · rw [if_pos hjm] at hh
            have := rise_uniq hIt.2.2.1 (by omega) hmt hh
            omega
          · rw [if_neg hjm] at hh
            have := rise_uniq hIt.2.2.1 (by omega) hmt hh
            omega)
        have hlz : (((t.2.1.take m ++ t.2.1.drop (m + 1)).length : Nat) : Int) = IntKind.i64.wrap ((t.2.1.length : Int) - 1) := by
          rw [hdl, w64 (by omega)]
          omega
        simp only [he, decide_true, Bool.not_true, Bool.false_eq_true, if_false, hq, Option.bind_some, hd, hf, if_true, St_same t (by omega), Bool.not_false, hlz]
        rcases hq2 with ⟨e1, e2⟩ | ⟨e1, e2⟩
        · simp only [e1, e2, decide_true, if_true]
        · simp only [e1, e2, decide_true, decide_false, Bool.false_eq_true, Bool.not_false, if_false, if_true]
      · have hts2 : t = s := hts he (fun h => by have := hfu h; omega)
        rw [hts2]
        simp only [he, decide_false, Bool.not_false, if_true, St_same s (by omega), Option.bind_some]
abbrev tHS : Ty := (.cons (.int .i64) (.cons (.int .i64) (.cons (.int .i64) (.cons (.int .u32) (.cons (.int .u32) (.cons (.int .u32) (.cons (.int .i64) (.cons (.int .i64) .nil))))))))
abbrev tAS : Ty := (.cons tHS (.cons (.sl 5 (.int .u8)) .nil))
theorem stickyW {P : Program} {x : dens (List.map K.v [.int .i64, .sl 34 tAS])} (h : WfA P [.int .i64, .sl 34 tAS] x) : ∃ y, law14_StoreSticky.p x = some y ∧ y.1 = true :=
  ⟨_, sticky x.1 x.2.1 (fun a ha => ⟨⟨wf_u32 (h.2.1.2 a ha).1.2.2.2.1, wf_u32 (h.2.1.2 a ha).1.2.2.2.2.1, wf_u32 (h.2.1.2 a ha).1.2.2.2.2.2.1⟩, fun y hy => wf_u8 ((h.2.1.2 a ha).2.1.2 y hy)⟩), rfl⟩
theorem twiceW {P : Program} {x : dens (List.map K.v [.sl 34 tAS, tAS])} (h : WfA P [.sl 34 tAS, tAS] x) : ∃ y, law14_StoreTwice.p x = some y ∧ y.1 = true :=
  ⟨_, twice x.1 x.2.1 (fun a ha => ⟨⟨wf_u32 (h.1.2 a ha).1.2.2.2.1, wf_u32 (h.1.2 a ha).1.2.2.2.2.1, wf_u32 (h.1.2 a ha).1.2.2.2.2.2.1⟩, fun y hy => wf_u8 ((h.1.2 a ha).2.1.2 y hy)⟩) ⟨⟨wf_u32 h.2.1.1.2.2.2.1, wf_u32 h.2.1.1.2.2.2.2.1, wf_u32 h.2.1.1.2.2.2.2.2.1⟩, fun y hy => wf_u8 (h.2.1.2.1.2 y hy)⟩, rfl⟩
end Go.Proofs.Ythbcmgpmjljdeaa.F
