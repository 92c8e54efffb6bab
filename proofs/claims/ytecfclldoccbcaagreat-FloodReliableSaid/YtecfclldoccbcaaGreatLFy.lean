/- What came new, and comes a second time: the law. -/
import Derived.Test.YtecfclldoccbcaaGreatLFx
set_option maxRecDepth 100000
set_option linter.unusedVariables false
set_option linter.unusedSimpArgs false
open Go Go.Proofs.Fr
namespace Go.Proofs.YtecfclldoccbcaaGreat.F
theorem cloneA_fun : slices_Clone_api_Ad_api_Ad.p = fun a => if a.1.length ≤ maxBytes / 80 then some (a.1, ()) else none := by
  funext a
  unfold slices_Clone_api_Ad_api_Ad.p
  simp only [List.length_nil, Nat.zero_add, List.nil_append]
  by_cases h0 : a.1.length = 0
  · rw [if_pos h0, List.eq_nil_of_length_eq_zero h0]
    exact both_same _
  · rw [if_neg h0]
theorem cloneK_fun : slices_Clone_api_Key_api_Key.p = fun a => if a.1.length ≤ maxBytes / 16 then some (a.1, ()) else none := by
  funext a
  unfold slices_Clone_api_Key_api_Key.p
  simp only [List.length_nil, Nat.zero_add, List.nil_append]
  by_cases h0 : a.1.length = 0
  · rw [if_pos h0, List.eq_nil_of_length_eq_zero h0]
    exact both_same _
  · rw [if_neg h0]
theorem cloneP_fun : slices_Clone_flood_Peer_flood_Peer.p = fun a => if a.1.length ≤ maxBytes / 56 then some (a.1, ()) else none := by
  funext a
  unfold slices_Clone_flood_Peer_flood_Peer.p
  simp only [List.length_nil, Nat.zero_add, List.nil_append]
  by_cases h0 : a.1.length = 0
  · rw [if_pos h0, List.eq_nil_of_length_eq_zero h0]
    exact both_same _
  · rw [if_neg h0]
theorem aliveF : law18_alive.p () = some (true, ()) := by
  unfold law18_alive.p
  simp only [flood_Receive.p, flood_Flood_again.p, flood_Flood_on.p, flood_Peer_rid.p, flood_Peer_heard.p, flood_Peer_owes.p, flood_Flood_with.p, flood_Resend.p, store_Put.p, store_Store_set.p, cloneA_fun, cloneK_fun, cloneP_fun]
  decide +kernel
theorem next_st (c : Int) (a : Ad) (i : Nat) (p : Pr) : (nextP c a i p).1 = p.1 := by
  unfold nextP
  split
  · split <;> rfl
  · rfl
theorem next_re (c : Int) (a : Ad) (i : Nat) (p : Pr) : (nextP c a i p).2.1.length ≤ p.2.1.length ∧ (nextP c a i p).2.2.1.length ≤ p.2.2.1.length + 1 := by
  unfold nextP
  split
  · split
    · exact ⟨List.length_filter_le _ _, Nat.le_succ _⟩
    · refine ⟨List.length_filter_le _ _, ?_⟩
      show (p.2.2.1.filter _ ++ [a]).length ≤ _
      rw [List.length_append]
      have := List.length_filter_le (fun x => decide (¬ keyA x = keyA a)) p.2.2.1
      simp only [List.length_cons, List.length_nil]
      omega
  · exact ⟨Nat.le_refl _, Nat.le_succ _⟩
/-- What is there comes again. -/
theorem receive_again (M : Int) (hM : M ≤ 2000) (t : St) (o : Int) (xs : List Pr) (i m : Nat) (a : Ad) (hI : Inv M t) (ha : AdS a) (hl : a.2.1.length ≤ 1400) (hw : whole a.1 a.2.1 = true) (hr : rightB a = true) (hm : m < t.2.1.length) (hma : rdZ zA t.2.1 m = a)
    (hi : i < xs.length) (hx : xs.length ≤ 1000) (h4 : (rdZ zP xs i).1 ≥ 4) (hR : (rdZ zP xs i).2.2.1.length ≤ 10000) : ∃ (h : List Pr) (b : Bool), flood_Receive.p ((t, o, xs, ()), (i : Int), a, ()) = some ((t, o, h, ()), (1, [], b, false, false, [], 0, ()), ()) := by
  have hlt : t.2.1.length ≤ 10000 := by have := hI.2.1; omega
  have hp := put_there t a ha hl hw hr hI.2.2.1 hlt hI.2.2.2 m hm (by rw [hma])
  rw [hma, cmpH_same, if_neg (by decide)] at hp
  have hc : 0 ≤ (i : Int) ∧ (i : Int) < (xs.length : Int) := ⟨Int.natCast_nonneg _, Int.ofNat_lt.2 hi⟩
  unfold flood_Receive.p
  simp only [isPeer_eq, jn_eq, Option.bind_some, flood_Peer_floods.p, hc, and_self, decide_true, Bool.not_true, Bool.false_eq_true, if_false, if_true, Int.toNat_natCast, h4, hp, keyS, show (1 : Int) + 0 = 1 from rfl]
  unfold flood_Flood_again.p
  simp only [Int.toNat_natCast, rid_eq _ _ hR, Option.bind_some]
  rw [if_pos hc, if_pos hc, with_eq (t, o, xs, ()) i _ (by show xs.length ≤ _; omega) hi]
  exact ⟨_, _, rfl⟩
theorem alike1 (x : Ad) : store_Alike_1.p (x, x, ()) = some (true, ()) := by
  unfold store_Alike_1.p bytes_Equal.p
  simp only [keyS, Option.bind_some, jn_eq, decide_true, Bool.and_self, if_true]
theorem alike_same (s : St) (hl : s.2.1.length ≤ 1000000) : store_Alike.p (s, s, ()) = some (true, ()) := by
  unfold store_Alike.p slices_EqualFunc_api_Ad_api_Ad_api_Ad_api_Ad.p
  simp only [jn_eq, decide_true, Bool.not_true, Bool.false_eq_true, if_false]
  have h : ∀ (X : Option (Bool × Unit)), X = some (true, ()) → (X.bind fun y1 => some (y1.1, ())) = some (true, ()) := fun X h => by rw [h]; rfl
  refine h _ (iterK_fix (F := fun x => some (true, ())) (m := fun x => s.2.1.length - x.1.toNat) (I := fun x => ∃ j : Nat, x = ((j : Int), ()) ∧ j ≤ s.2.1.length) ?_ _ _ ⟨0, rfl, by omega⟩ (by simp only [Int.toNat_zero]; omega))
  rintro x r ⟨j, rfl, hj⟩ ih
  simp only [Int.toNat_natCast]
  by_cases hjl : j < s.2.1.length
  · have hj2 : (j : Int) < (s.2.1.length : Int) := Int.ofNat_lt.2 hjl
    simp only [hj2, decide_true, if_true, alike1, Option.bind_some, Bool.not_true, Bool.false_eq_true, if_false]
    rw [if_pos ⟨Int.natCast_nonneg _, trivial⟩, if_pos ⟨Int.natCast_nonneg _, trivial⟩, w64 (x := (j : Int) + 1) (by omega)]
    exact ih _ ⟨j + 1, rfl, hjl⟩ (by simp only; omega)
  · have hj2 : ¬ (j : Int) < (s.2.1.length : Int) := fun h => hjl (Int.ofNat_lt.1 h)
    simp only [hj2, decide_false, Bool.false_eq_true, if_false]
theorem twiceF (f : Fd) (c : Int) (a : Ad) (hu : ∀ a ∈ f.1.2.1, AdS a ∧ a.2.1.length ≤ 140737488351232) (ha : AdS a) : law18_FloodTwice.p (f, c, a, ()) = some (true, ()) := by
  unfold law18_FloodTwice.p
  obtain ⟨v, hv, hs⟩ := small_any f hu
  simp only [jn_eq, hv, Option.bind_some, aliveF, if_true]
  cases hvb : v.1 with
  | false => simp only [Bool.not_false, if_true]
  | true =>
    simp only [Bool.not_true, Bool.false_eq_true, if_false]
    by_cases h300 : (a.2.1.length : Int) > 300
    · simp only [h300, decide_true, if_true]
    · obtain ⟨hmay, h60, hL, hP⟩ := hs hvb
      obtain ⟨g, r, hrc, _, hnew⟩ := receive_eq f.1.1 hmay.2.1 f c a (mayS_inv hmay) ha (by omega) (by omega) (fun j hj => ⟨Nat.le_trans (hP j hj).1 (by omega), Nat.le_trans (hP j hj).2 (by omega)⟩)
      simp only [h300, decide_false, Bool.false_eq_true, if_false, hrc, Option.bind_some]
      by_cases hE : r.2.2.2.2.2.2.1 = 0
      · by_cases hK : r.1 < 2
        · simp only [hE, hK, decide_true, Bool.not_true, Bool.false_eq_true, if_false, if_true]
        · obtain ⟨t, xs, i, m, rfl, hi, h4, rfl, hIt, hlen, hw, hr, hm, hma, hxl, hxs, hto⟩ := hnew hE (by omega)
          have hpi := hP i hi
          have hne := next_re (i : Int) a i (rdZ zP f.2.2.1 i)
          obtain ⟨h, b, hag⟩ := receive_again f.1.1 hmay.2.1 t f.2.1 xs i m a hIt ha (by omega) hw hr hm hma (by omega) (by omega) (by rw [hxs i hi, next_st]; exact h4) (by rw [hxs i hi]; omega)
          have hlt : t.2.1.length ≤ 1000000 := by have := hIt.2.1; have := hmay.2.1; omega
          have hge : (t.2.1.length : Int) ≥ (f.1.2.1.length : Int) := by omega
          simp only [hE, hK, decide_true, decide_false, Bool.not_true, Bool.not_false, Bool.false_eq_true, if_false, if_true, hag, Option.bind_some, alike_same t hlt, hge]
          rfl
      · simp only [hE, decide_false, Bool.not_false, if_true]
theorem len_of {n b m : Nat} (hb : 1 ≤ b) (h : n * b ≤ m) : n ≤ m := Nat.le_trans (Nat.le_mul_of_pos_right n hb) h
theorem twiceFW {P : Program} (hb : 1 ≤ P.bytesOf 5) {x : dens (List.map K.v [(.cons (.cons (.int .i64) (.cons (.sl 33 (.cons (.cons (.int .i64) (.cons (.int .i64) (.cons (.int .i64) (.cons (.int .u32) (.cons (.int .u32) (.cons (.int .u32) (.cons (.int .i64) (.cons (.int .i64) .nil)))))))) (.cons (.sl 5 (.int .u8)) .nil))) (.cons .bool .nil))) (.cons (.int .u32) (.cons (.sl 50 (.cons (.int .i64) (.cons (.sl 45 (.cons (.int .i64) (.cons (.int .u32) (.cons (.int .u32) .nil)))) (.cons (.sl 33 (.cons (.cons (.int .i64) (.cons (.int .i64) (.cons (.int .i64) (.cons (.int .u32) (.cons (.int .u32) (.cons (.int .u32) (.cons (.int .i64) (.cons (.int .i64) .nil)))))))) (.cons (.sl 5 (.int .u8)) .nil))) .nil)))) .nil))), (.int .i64), (.cons (.cons (.int .i64) (.cons (.int .i64) (.cons (.int .i64) (.cons (.int .u32) (.cons (.int .u32) (.cons (.int .u32) (.cons (.int .i64) (.cons (.int .i64) .nil)))))))) (.cons (.sl 5 (.int .u8)) .nil))])} (h : WfA P [(.cons (.cons (.int .i64) (.cons (.sl 33 (.cons (.cons (.int .i64) (.cons (.int .i64) (.cons (.int .i64) (.cons (.int .u32) (.cons (.int .u32) (.cons (.int .u32) (.cons (.int .i64) (.cons (.int .i64) .nil)))))))) (.cons (.sl 5 (.int .u8)) .nil))) (.cons .bool .nil))) (.cons (.int .u32) (.cons (.sl 50 (.cons (.int .i64) (.cons (.sl 45 (.cons (.int .i64) (.cons (.int .u32) (.cons (.int .u32) .nil)))) (.cons (.sl 33 (.cons (.cons (.int .i64) (.cons (.int .i64) (.cons (.int .i64) (.cons (.int .u32) (.cons (.int .u32) (.cons (.int .u32) (.cons (.int .i64) (.cons (.int .i64) .nil)))))))) (.cons (.sl 5 (.int .u8)) .nil))) .nil)))) .nil))), (.int .i64), (.cons (.cons (.int .i64) (.cons (.int .i64) (.cons (.int .i64) (.cons (.int .u32) (.cons (.int .u32) (.cons (.int .u32) (.cons (.int .i64) (.cons (.int .i64) .nil)))))))) (.cons (.sl 5 (.int .u8)) .nil))] x) : ∃ y, law18_FloodTwice.p x = some y ∧ y.1 = true :=
  ⟨_, twiceF x.1 x.2.1 x.2.2.1 (fun a ha => ⟨⟨⟨wf_u32 (h.1.1.2.1.2 a ha).1.2.2.2.1, wf_u32 (h.1.1.2.1.2 a ha).1.2.2.2.2.1, wf_u32 (h.1.1.2.1.2 a ha).1.2.2.2.2.2.1⟩, fun y hy => wf_u8 ((h.1.1.2.1.2 a ha).2.1.2 y hy)⟩, len_of hb (h.1.1.2.1.2 a ha).2.1.1⟩)
    ⟨⟨wf_u32 h.2.2.1.1.2.2.2.1, wf_u32 h.2.2.1.1.2.2.2.2.1, wf_u32 h.2.2.1.1.2.2.2.2.2.1⟩, fun y hy => wf_u8 (h.2.2.1.2.1.2 y hy)⟩, rfl⟩
end Go.Proofs.YtecfclldoccbcaaGreat.F
