/- States: the law. -/
import Derived.Test.YtocloebloblodaaLLsp
import Derived.Test.YtocloebloblodaaFrc
set_option maxRecDepth 100000
set_option linter.unusedVariables false
set_option linter.unusedSimpArgs false
open Go Go.Proofs.Fr
namespace Go.Proofs.Ytocloebloblodaa.F
theorem aliveP : law22_alive.p () = some (true, ()) := by decide +kernel
theorem pduLsp (x : Lsp) (b : List Int) (hid : 0 ≤ x.2.2.1 ∧ x.2.2.1 < 18446744073709551616) (hseq : 0 ≤ x.2.2.2.1 ∧ x.2.2.2.1 < 4294967296) (hth : ∀ y ∈ x.2.2.2.2.2.2.1, By y.2.1) (hb : By b) : law22_PduLsp.p (x, b, ()) = some (true, ()) := by
  unfold law22_PduLsp.p
  simp only [aliveP, small_eq, jn_eq, bind_eq, if_true]
  cases hs : smallB x.2.2.2.2.2.2.1 with
  | false => simp
  | true =>
    have hsm := small_of hs
    have hx : LspOk x := ⟨hid, hseq, hth, hsm⟩
    have hxl := hsm.1
    by_cases h2 : (b.length : Int) > 1600
    · simp [h2]
    · simp only [h2, decide_false, Bool.not_true, Bool.false_eq_true, if_false, List.nil_append]
      rw [if_pos (by simp only [List.length_nil, maxBytes]; omega)]
      have hl1 := lsp_eq x (by omega)
      have htl := takeL_small b
      simp only [putLsp_eq x hx, rputLsp_eq x hx, seal_eq x hx, rseal_eq x hx, hl1, takeLsp_eq b hb (by omega), rtakeLsp_eq b hb (by omega), bind_eq, lsp_eq (takeL b).1 (by omega), SameLsp_same (takeL b).1 (by omega), decide_true, if_true]
      by_cases h : okL (sumL x 0)
      · obtain ⟨s, hs, he, hfit⟩ := seal_ok h
        have hok := okL_sum h s hs
        have hxs := sumOk hx s
        have hth' : (sumL x s).2.2.2.2.2.2.1.length ≤ 1000000 := by show x.2.2.2.2.2.2.1.length ≤ _; omega
        rw [he]
        simp only [putLsp_eq _ hxs]
        unfold putL
        rw [if_pos hok]
        have hbl := lspB_len (sumL x s)
        have := hok.2.2.2.2.2
        simp only [bind_eq, takeLsp_eq _ (lspB_by hok hxs) (by omega), takeL_of hok hxs (fun _ => hfit), lsp_eq _ hth', SameLsp_same _ hth', decide_true, Bool.not_true, Bool.false_eq_true, if_false, if_true]
      · have he : sealL x = (zL, 1, ()) := by unfold sealL; rw [if_neg h]
        have hz : LspOk zL := ⟨by simp, by simp, by simp, by simp [Small]⟩
        have hzn : putL zL = ([], 1, ()) := by
          unfold putL
          rw [if_neg]
          intro q
          have := q.2.1
          simp at this
        rw [he]
        simp only [putLsp_eq zL hz, hzn, bind_eq, takeLsp_eq [] (by intro y hy; cases hy) (by simp), lsp_eq zL (by simp), SameLsp_same zL (by simp), decide_true, if_true, show ¬ (1 : Int) = 0 by decide, decide_false, Bool.not_false]
abbrev tTh : Ty := .cons (.int .i64) (.cons (.sl 5 (.int .u8)) .nil)
abbrev tLsp : Ty := .cons (.int .i64) (.cons (.int .i64) (.cons (.int .u64) (.cons (.int .u32) (.cons (.int .i64) (.cons (.int .i64) (.cons (.sl 78 tTh) .nil))))))
theorem pduLspW {P : Program} {x : dens (List.map K.v [tLsp, (.sl 5 (.int .u8))])} (h : WfA P [tLsp, (.sl 5 (.int .u8))] x) : ∃ y, law22_PduLsp.p x = some y ∧ y.1 = true :=
  ⟨_, pduLsp x.1 x.2.1 (wf_u64 h.1.2.2.1) (wf_u32 h.1.2.2.2.1) (fun y hy z hz => wf_u8 ((h.1.2.2.2.2.2.2.1.2 y hy).2.1.2 z hz)) (fun y hy => wf_u8 (h.2.1.2 y hy)), rfl⟩
theorem xor_u8 {a b : Int} (ha : 0 ≤ a ∧ a ≤ 255) (hb : 0 ≤ b ∧ b ≤ 255) : (0 ≤ ibits .xor .u8 a b ∧ ibits .xor .u8 a b ≤ 255) ∧ ibits .xor .u8 a (ibits .xor .u8 a b) = b ∧ (ibits .xor .u8 a b = a → b = 0) := by
  obtain ⟨n, rfl⟩ := Int.eq_ofNat_of_zero_le ha.1
  obtain ⟨m, rfl⟩ := Int.eq_ofNat_of_zero_le hb.1
  have hn : n < 2 ^ 8 := by omega
  have hm : m < 2 ^ 8 := by omega
  have key : ∀ u v : Nat, u < 2 ^ 8 → v < 2 ^ 8 → ibits .xor .u8 (u : Int) (v : Int) = ((u ^^^ v : Nat) : Int) := by
    intro u v hu hv
    have hx := Nat.xor_lt_two_pow hu hv
    show IntKind.u8.wrap ((BitVec.ofInt 8 (u : Int) ^^^ BitVec.ofInt 8 (v : Int)).toNat : Int) = _
    rw [ofInt_natw, ofInt_natw, BitVec.toNat_xor, BitVec.toNat_ofNat, BitVec.toNat_ofNat, Nat.mod_eq_of_lt hu, Nat.mod_eq_of_lt hv, wu8]
    omega
  have hx := Nat.xor_lt_two_pow hn hm
  rw [key n m hn hm, key n _ hn hx]
  refine ⟨by omega, ?_, ?_⟩
  · rw [← Nat.xor_assoc, Nat.xor_self, Nat.zero_xor]
  · intro h
    have h' : n ^^^ m = n := by omega
    have : n ^^^ (n ^^^ m) = n ^^^ n := by rw [h']
    rw [← Nat.xor_assoc, Nat.xor_self, Nat.zero_xor] at this
    omega
theorem pduSpoilt (x : Lsp) (t c : Int) (hid : 0 ≤ x.2.2.1 ∧ x.2.2.1 < 18446744073709551616) (hseq : 0 ≤ x.2.2.2.1 ∧ x.2.2.2.1 < 4294967296) (hth : ∀ y ∈ x.2.2.2.2.2.2.1, By y.2.1) (ht : -9223372036854775808 ≤ t ∧ t ≤ 9223372036854775807) (hc : 0 ≤ c ∧ c ≤ 255) : law22_PduSpoilt.p (x, t, c, ()) = some (true, ()) := by
  unfold law22_PduSpoilt.p
  simp only [aliveP, small_eq, jn_eq, bind_eq, if_true]
  cases hs : smallB x.2.2.2.2.2.2.1 with
  | false => simp
  | true =>
    have hsm := small_of hs
    have hx : LspOk x := ⟨hid, hseq, hth, hsm⟩
    simp only [Bool.not_true, Bool.false_eq_true, if_false]
    by_cases hl : x.2.1 < 1
    · rw [if_pos (by simpa using hl)]
    · rw [if_neg (by simpa using hl), seal_eq x hx]
      simp only [bind_eq]
      by_cases h : okL (sumL x 0)
      · obtain ⟨s, hs, he, hfit⟩ := seal_ok h
        have hok := okL_sum h s hs
        have hxs := sumOk hx s
        rw [he]
        simp only [putLsp_eq _ hxs]
        unfold putL
        rw [if_pos hok]
        have hbl := lspB_len (sumL x s)
        have h1465 := hok.2.2.2.2.2
        have hby := lspB_by hok hxs
        simp only [bind_eq, decide_true, Bool.not_true, Bool.false_eq_true, if_false]
        rw [if_neg (by simp only [decide_eq_true_eq]; omega)]
        by_cases c1 : t < 12
        · rw [if_pos (by simpa using c1)]
        · rw [if_neg (by simpa using c1)]
          by_cases c2 : t ≥ ((lspB (sumL x s)).length : Int)
          · rw [if_pos (by simpa using c2)]
          · rw [if_neg (by simpa using c2)]
            by_cases c3 : c = 0
            · rw [if_pos (by simpa using c3)]
            · rw [if_neg (by simpa using c3)]
              by_cases c4 : c = 255
              · rw [if_pos (by simpa using c4)]
              · rw [if_neg (by simpa using c4)]
                obtain ⟨i, rfl⟩ := Int.eq_ofNat_of_zero_le (show 0 ≤ t by omega)
                have hi : i < (lspB (sumL x s)).length := by omega
                have hri := hby.at i hi
                obtain ⟨v1, v2, v3⟩ := xor_u8 hri hc
                rw [if_pos (by omega), if_pos (by omega), Int.toNat_natCast]
                have hby' := byts_set hby i (ibits .xor .u8 (rd (lspB (sumL x s)) i) c) v1
                rw [takeLsp_eq _ hby' (by rw [List.length_set]; omega)]
                simp only [bind_eq]
                have hne : (takeL ((lspB (sumL x s)).set i (ibits .xor .u8 (rd (lspB (sumL x s)) i) c))).2.1 ≠ 0 := by
                  unfold takeL
                  split
                  · split
                    · have hsl : sl ((lspB (sumL x s)).set i (ibits .xor .u8 (rd (lspB (sumL x s)) i) c)) 10 2 = x.2.1 := by
                        have e : ∀ l : List Int, (l.drop 10).take 2 = (l.take 12).drop 10 := fun l => by rw [List.drop_take]
                        have hlife : 0 ≤ x.2.1 ∧ x.2.1 ≤ 65535 := hok.2.2.1
                        have hd : (lspB (sumL x s)).drop 10 = be x.2.1 2 ++ lspD (sumL x s) := rfl
                        unfold sl
                        rw [e, List.take_set_of_le (by omega), ← e, hd, List.take_left' (be_length _ _), nm_be 2 x.2.1 hlife.1 (by rw [show (256 : Int) ^ 2 = 65536 by decide]; omega)]
                      have hd12 : ((lspB (sumL x s)).set i (ibits .xor .u8 (rd (lspB (sumL x s)) i) c)).drop 12 = (lspD (sumL x s)).set (i - 12) (ibits .xor .u8 (rd (lspB (sumL x s)) i) c) := by
                        rw [List.drop_set, if_neg (by omega)]
                        rfl
                      have hri2 : rd (lspD (sumL x s)) (i - 12) = rd (lspB (sumL x s)) i := by
                        have hdd : lspD (sumL x s) = (lspB (sumL x s)).drop 12 := rfl
                        rw [hdd]
                        simp only [rd, List.getD_eq_getElem?_getD, List.getElem?_drop]
                        rw [show 12 + (i - 12) = i by omega]
                      have hno : fitsF ((lspD (sumL x s)).set (i - 12) (ibits .xor .u8 (rd (lspB (sumL x s)) i) c)) = false := by
                        cases hq : fitsF ((lspD (sumL x s)).set (i - 12) (ibits .xor .u8 (rd (lspB (sumL x s)) i) c)) with
                        | false => rfl
                        | true =>
                          have hlD := lspD_len (sumL x s)
                          rcases spoilt_fits _ (i - 12) _ (by omega) (lspD_by hok hxs) v1 hfit hq with q | ⟨q, _⟩
                          · rw [hri2] at q
                            exact absurd (v3 q.symm) c3
                          · rw [hri2, v2] at q
                            exact absurd q c4
                      rw [hsl, hd12, hno, if_pos ⟨by omega, rfl⟩]
                      decide
                    · rename_i q; exact q
                  · exact err_ne _ _
                simp [hne]
      · have he : sealL x = (zL, 1, ()) := by unfold sealL; rw [if_neg h]
        rw [he]
        simp
theorem pduSpoiltW {P : Program} {x : dens (List.map K.v [tLsp, (.int .i64), (.int .u8)])} (h : WfA P [tLsp, (.int .i64), (.int .u8)] x) : ∃ y, law22_PduSpoilt.p x = some y ∧ y.1 = true :=
  ⟨_, pduSpoilt x.1 x.2.1 x.2.2.1 (wf_u64 h.1.2.2.1) (wf_u32 h.1.2.2.2.1) (fun y hy z hz => wf_u8 ((h.1.2.2.2.2.2.2.1.2 y hy).2.1.2 z hz)) (wf_i64 h.2.1) (wf_u8 h.2.2.1), rfl⟩
end Go.Proofs.Ytocloebloblodaa.F
