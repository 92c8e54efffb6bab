/- States: as bytes, back, sealed. -/
import Derived.Test.YtocloebloblodaaLPdu
set_option maxRecDepth 100000
set_option linter.unusedVariables false
set_option linter.unusedSimpArgs false
open Go Go.Proofs.Fr
namespace Go.Proofs.Ytocloebloblodaa.F
abbrev Lsp := Int × Int × Int × Int × Int × Int × List Th × Unit
abbrev zL : Lsp := (0, 0, 0, 0, 0, 0, [], ())
def LspOk (x : Lsp) : Prop := (0 ≤ x.2.2.1 ∧ x.2.2.1 < 18446744073709551616) ∧ (0 ≤ x.2.2.2.1 ∧ x.2.2.2.1 < 4294967296) ∧ (∀ y ∈ x.2.2.2.2.2.2.1, By y.2.1) ∧ Small x.2.2.2.2.2.2.1
def okL (x : Lsp) : Prop := x.2.2.2.2.2.2.1.all thOk = true ∧ (x.1 = 1 ∨ x.1 = 2) ∧ (0 ≤ x.2.1 ∧ x.2.1 ≤ 65535) ∧ (0 ≤ x.2.2.2.2.1 ∧ x.2.2.2.2.1 ≤ 65535) ∧ (0 ≤ x.2.2.2.2.2.1 ∧ x.2.2.2.2.2.1 ≤ 63) ∧ (thsB x.2.2.2.2.2.2.1).length ≤ 1465
instance (x : Lsp) : Decidable (okL x) := by unfold okL; infer_instance
/-- Behind the first twelve bytes. -/
def lspD (x : Lsp) : List Int := be x.2.2.1 8 ++ (be x.2.2.2.1 4 ++ (be x.2.2.2.2.1 2 ++ (be (x.2.2.2.2.2.1 * 4 + 2 * x.1 - 1) 1 ++ thsB x.2.2.2.2.2.2.1)))
def lspB (x : Lsp) : List Int := beg (16 + 2 * x.1) ++ (be (27 + ((thsB x.2.2.2.2.2.2.1).length : Int)) 2 ++ (be x.2.1 2 ++ lspD x))
theorem lspD_len (x : Lsp) : (lspD x).length = 15 + (thsB x.2.2.2.2.2.2.1).length := by
  unfold lspD; simp only [List.length_append, be_length]; omega
theorem lspB_len (x : Lsp) : (lspB x).length = 27 + (thsB x.2.2.2.2.2.2.1).length := by
  unfold lspB; simp only [List.length_append, be_length, lspD_len, beg, List.length_cons, List.length_nil]; omega
theorem lspB_by {x : Lsp} (h : okL x) (hx : LspOk x) : By (lspB x) := by
  unfold lspB lspD
  refine By.app ?_ ((be_by _ _).app ((be_by _ _).app ((be_by _ _).app ((be_by _ _).app ((be_by _ _).app ((be_by _ _).app (thsB_by _ hx.2.2.1 h.1)))))))
  have hr := hdO_range (16 + 2 * x.1)
  obtain ⟨_, hl, _⟩ := h
  intro y hy
  simp only [beg, List.mem_cons, List.not_mem_nil, or_false] at hy
  rcases hy with rfl | rfl | rfl | rfl | rfl | rfl | rfl | rfl <;> omega
def putL (x : Lsp) : List Int × Int × Unit := if okL x then (lspB x, 0, ()) else ([], 1, ())
theorem isLevel_eq (n : Int) : pdu_isLevel.p (n, ()) = some (decide (n = 1 ∨ n = 2), ()) := by
  unfold pdu_isLevel.p
  by_cases h : n = 1 <;> simp [jn_eq, h]
theorem thsB_small {l : List Th} (h : Small l) : (thsB l).length ≤ 302 * l.length := by
  obtain ⟨h1, h2⟩ := h
  clear h1
  induction l with
  | nil => simp [thsB]
  | cons x l ih =>
    have := h2 x (.head _)
    have := ih (fun y hy => h2 y (.tail _ hy))
    rw [thsB_cons, List.length_append, thB_len, List.length_cons]
    omega
theorem putLsp_eq (x : Lsp) (hx : LspOk x) : pdu_PutLsp.p (x, ()) = some (putL x) := by
  obtain ⟨lev, life, id, seq, sm, bits, th, _⟩ := x
  obtain ⟨hid, hseq, hbt, hs⟩ := hx
  simp only at hid hseq hbt hs
  have hth := thsB_small hs
  have hsl := hs.1
  have p1 : ∀ (b : List Int) (n : Int), 0 ≤ n ∧ n < 18446744073709551616 → b.length ≤ 1000000 → pdu_page_put.p (b, n, 1, ()) = some (b ++ be n 1, ()) := fun b n h hb => pput_eq b n 1 h (by omega) hb
  have p2 : ∀ (b : List Int) (n : Int), 0 ≤ n ∧ n < 18446744073709551616 → b.length ≤ 1000000 → pdu_page_put.p (b, n, 2, ()) = some (b ++ be n 2, ()) := fun b n h hb => pput_eq b n 2 h (by omega) hb
  have p4 : ∀ (b : List Int) (n : Int), 0 ≤ n ∧ n < 18446744073709551616 → b.length ≤ 1000000 → pdu_page_put.p (b, n, 4, ()) = some (b ++ be n 4, ()) := fun b n h hb => pput_eq b n 4 h (by omega) hb
  have p8 : ∀ (b : List Int) (n : Int), 0 ≤ n ∧ n < 18446744073709551616 → b.length ≤ 1000000 → pdu_page_put.p (b, n, 8, ()) = some (b ++ be n 8, ()) := fun b n h hb => pput_eq b n 8 h (by omega) hb
  unfold pdu_PutLsp.p putL okL
  simp only [tput_eq th hs, headOf_eq, isLevel_eq, isIn_eq, bind_eq, jn_eq, show hdO 18 = 27 by decide]
  unfold putT
  by_cases c0 : th.all thOk = true
  · simp only [c0, if_true, decide_true, Bool.not_true, Bool.false_eq_true, if_false, true_and]
    rw [w64 (x := 27 + ((thsB th).length : Int)) (by omega)]
    by_cases c1 : lev = 1 ∨ lev = 2
    · by_cases c2 : 0 ≤ life ∧ life ≤ 65535
      · by_cases c3 : 0 ≤ sm ∧ sm ≤ 65535
        · by_cases c4 : 0 ≤ bits ∧ bits ≤ 63
          · by_cases c5 : (thsB th).length ≤ 1465
            · have c5' : ¬ 27 + ((thsB th).length : Int) > 1492 := by omega
              simp only [c1, c2, c3, c4, c5, c5', and_self, if_true, decide_true, decide_false, Bool.not_true, Bool.false_eq_true, if_false]
              have hkind : ∀ k : Int, k = 16 + 2 * lev → ((pdu_begin.p (k, ())).bind fun y7 => ((pdu_page_put.p (y7.1, IntKind.u64.wrap (27 + ((thsB th).length : Int)), 2, ())).bind fun y8 => ((pdu_page_put.p (y8.1, IntKind.u64.wrap life, 2, ())).bind fun y9 => ((pdu_page_put.p (y9.1, id, 8, ())).bind fun y10 => ((pdu_page_put.p (y10.1, IntKind.u64.wrap seq, 4, ())).bind fun y11 => ((pdu_page_put.p (y11.1, IntKind.u64.wrap sm, 2, ())).bind fun y12 => ((pdu_page_put.p (y12.1, IntKind.u64.wrap (ibits .or .i64 (IntKind.i64.wrap (bits * 2 ^ 2)) (IntKind.i64.wrap (k - 17))), 1, ())).bind fun y13 => (if y13.1.length + (thsB th).length ≤ maxBytes / 1 then (some (y13.1 ++ (thsB th), (0 : Int), ())) else none)))))))) = some (lspB (lev, life, id, seq, sm, bits, th, ()), 0, ()) := by
                intro k hk
                have e1 : IntKind.i64.wrap (bits * 2 ^ 2) = bits * 4 := by rw [show (2 : Int) ^ 2 = 4 by decide, w64 (by omega)]
                have e2 : IntKind.i64.wrap (k - 17) = k - 17 := w64 (by omega)
                have e3 : ibits .or .i64 (bits * 4) (k - 17) = bits * 4 + 2 * lev - 1 := by
                  rw [or_add .i64 2 (by simp [IntKind.bits]; omega) (by omega) (by omega) (by simp [IntKind.bits]), w64 (by omega)]
                  omega
                have hbl : (beg k).length = 8 := rfl
                rw [begin_eq k (by omega), e1, e2, e3, wu64 (x := 27 + ((thsB th).length : Int)) (by omega), wu64 (x := life) (by omega), wu64 (x := seq) (by omega), wu64 (x := sm) (by omega), wu64 (x := bits * 4 + 2 * lev - 1) (by omega)]
                simp only [bind_eq]
                rw [p2 _ _ (by omega) (by omega)]
                simp only [bind_eq]
                rw [p2 _ _ (by omega) (by simp only [List.length_append, be_length]; omega)]
                simp only [bind_eq]
                rw [p8 _ _ hid (by simp only [List.length_append, be_length]; omega)]
                simp only [bind_eq]
                rw [p4 _ _ (by omega) (by simp only [List.length_append, be_length]; omega)]
                simp only [bind_eq]
                rw [p2 _ _ (by omega) (by simp only [List.length_append, be_length]; omega)]
                simp only [bind_eq]
                rw [p1 _ _ (by omega) (by simp only [List.length_append, be_length]; omega)]
                simp only [bind_eq]
                rw [if_pos (by simp only [List.length_append, be_length, maxBytes]; omega)]
                unfold lspB lspD
                simp only [List.append_assoc, ← hk]
              by_cases c6 : lev = 2
              · rw [if_pos (by simpa using c6)]
                exact hkind 20 (by omega)
              · rw [if_neg (by simpa using c6)]
                exact hkind 18 (by omega)
            · have c5' : 27 + ((thsB th).length : Int) > 1492 := by omega
              simp only [c1, c2, c3, c4, c5, c5', and_self, if_true, decide_true, decide_false, Bool.not_true, Bool.false_eq_true, if_false, and_false]
          · simp only [c1, c2, c3, c4, and_self, if_true, decide_true, decide_false, Bool.not_true, Bool.not_false, Bool.false_eq_true, if_false, and_false, false_and]
        · simp only [c1, c2, c3, and_self, if_true, decide_true, decide_false, Bool.not_true, Bool.not_false, Bool.false_eq_true, if_false, and_false, false_and]
      · simp only [c1, c2, and_self, if_true, decide_true, decide_false, Bool.not_true, Bool.not_false, Bool.false_eq_true, if_false, and_false, false_and]
    · simp only [c1, and_self, if_true, decide_true, decide_false, Bool.not_true, Bool.not_false, Bool.false_eq_true, if_false, and_false, false_and]
  · rw [if_neg c0]
    simp [c0]
theorem rputLsp_eq (x : Lsp) (hx : LspOk x) : ref22_PutLsp.p (x, ()) = some (putL x) := by
  obtain ⟨lev, life, id, seq, sm, bits, th, _⟩ := x
  obtain ⟨hid, hseq, hbt, hs⟩ := hx
  simp only at hid hseq hbt hs
  have hth := thsB_small hs
  have hsl := hs.1
  unfold ref22_PutLsp.p putL okL
  simp only [rtput_eq th hs, rshort_eq, bind_eq, jn_eq]
  unfold putT
  by_cases c0 : th.all thOk = true
  · simp only [c0, if_true, decide_true, Bool.not_true, Bool.false_eq_true, if_false, true_and]
    by_cases c1 : lev = 1 ∨ lev = 2
    · have c1a : ¬ lev < 1 := by omega
      have c1b : ¬ lev > 2 := by omega
      by_cases c2 : 0 ≤ life ∧ life ≤ 65535
      · by_cases c3 : 0 ≤ sm ∧ sm ≤ 65535
        · by_cases c4 : 0 ≤ bits ∧ bits ≤ 63
          · have c4a : ¬ bits < 0 := by omega
            have c4b : ¬ bits > 63 := by omega
            by_cases c5 : (thsB th).length ≤ 1465
            · have c5' : ¬ ((thsB th).length : Int) > 1465 := by omega
              simp only [c1, c1a, c1b, c2, c3, c4, c4a, c4b, c5, c5', and_self, if_true, decide_true, decide_false, Bool.not_true, Bool.false_eq_true, if_false]
              have hh : hdO (16 + 2 * lev) = 27 := by rcases c1 with rfl | rfl <;> decide
              have hbl : (beg (16 + 2 * lev)).length = 8 := rfl
              have hbg := rbegin_eq (16 + 2 * lev) (by omega)
              rw [hh] at hbg
              have hbits : be (bits * 4 + 2 * lev - 1) 1 = [bits * 4 + 2 * lev - 1] := by
                show [(bits * 4 + 2 * lev - 1) / 256 ^ 0 % 256] = _
                rw [Int.pow_zero, Int.ediv_one]
                congr 1
                omega
              rw [w64 (x := 2 * lev) (by omega), w64 (x := 16 + 2 * lev) (by omega), w64 (x := 27 + ((thsB th).length : Int)) (by omega), w64 (x := 4 * bits) (by omega), w64 (x := 4 * bits + 2 * lev) (by omega), w64 (x := 4 * bits + 2 * lev - 1) (by omega), wu8, show (4 * bits + 2 * lev - 1) % 256 = bits * 4 + 2 * lev - 1 by omega, hbg, rtwo_eq _ (by omega), rtwo_eq life (by omega), reight_eq id hid, nfour_eq seq hseq, rtwo_eq sm (by omega)]
              simp only [bind_eq]
              rw [if_pos (by simp only [List.length_append, be_length, maxBytes]; omega), if_pos (by simp only [List.length_append, be_length, maxBytes]; omega), if_pos (by simp only [List.length_append, be_length, maxBytes]; omega), if_pos (by simp only [List.length_append, be_length, maxBytes]; omega), if_pos (by simp only [List.length_append, be_length, maxBytes]; omega), if_pos (by simp only [List.length_append, be_length, List.length_cons, List.length_nil, maxBytes]; omega), if_pos (by simp only [List.length_append, be_length, List.length_cons, List.length_nil, maxBytes]; omega)]
              unfold lspB lspD
              simp only [List.append_assoc, hbits]
            · have c5' : ((thsB th).length : Int) > 1465 := by omega
              simp only [c1, c1a, c1b, c2, c3, c4, c4a, c4b, c5, c5', and_self, if_true, decide_true, decide_false, Bool.not_true, Bool.false_eq_true, if_false, and_false]
          · by_cases c4a : bits < 0
            · simp only [c1, c1a, c1b, c2, c3, c4, c4a, and_self, if_true, decide_true, decide_false, Bool.not_true, Bool.not_false, Bool.false_eq_true, if_false, and_false, false_and]
            · have c4b : bits > 63 := by omega
              simp only [c1, c1a, c1b, c2, c3, c4, c4a, c4b, and_self, if_true, decide_true, decide_false, Bool.not_true, Bool.not_false, Bool.false_eq_true, if_false, and_false, false_and]
        · simp only [c1, c1a, c1b, c2, c3, and_self, if_true, decide_true, decide_false, Bool.not_true, Bool.not_false, Bool.false_eq_true, if_false, and_false, false_and]
      · simp only [c1, c1a, c1b, c2, and_self, if_true, decide_true, decide_false, Bool.not_true, Bool.not_false, Bool.false_eq_true, if_false, and_false, false_and]
    · by_cases c1a : lev < 1
      · simp only [c1, c1a, and_self, if_true, decide_true, decide_false, Bool.not_true, Bool.not_false, Bool.false_eq_true, if_false, and_false, false_and]
      · have c1b : lev > 2 := by omega
        simp only [c1, c1a, c1b, and_self, if_true, decide_true, decide_false, Bool.not_true, Bool.not_false, Bool.false_eq_true, if_false, and_false, false_and]
  · rw [if_neg c0]
    simp [c0]
def sl (b : List Int) (i m : Nat) : Int := nm ((b.drop i).take m)
def q2 : Int → Bool := memb [18, 20]
def takeL (b : List Int) : Lsp × Int × Unit :=
  if fin q2 b = true then (if (takeT (b.drop 27)).2.1 = 0 then (if sl b 10 2 > 0 ∧ fitsF (b.drop 12) = false then (zL, 4, ()) else (((rd b 4 - 16) / 2, sl b 10 2, sl b 12 8, sl b 20 4, sl b 24 2, rd b 26 / 4, (takeT (b.drop 27)).1, ()), 0, ())) else (zL, (takeT (b.drop 27)).2.1, ())) else (zL, err q2 b, ())
theorem sl_range {b : List Int} (hb : By b) (i m : Nat) : 0 ≤ sl b i m ∧ sl b i m < 256 ^ m := by
  unfold sl
  have h := nm_range _ ((hb.drop i).take m)
  have : (256 : Int) ^ ((b.drop i).take m).length ≤ 256 ^ m := by
    have hle : ((b.drop i).take m).length ≤ m := by rw [List.length_take]; omega
    exact_mod_cast Nat.pow_le_pow_right (by omega) hle
  omega
theorem fin_q2 {b : List Int} (h : fin q2 b = true) : (rd b 4 = 18 ∨ rd b 4 = 20) ∧ hdO (rd b 4) = 27 ∧ 27 ≤ b.length ∧ wr (rd b 4) b = true := by
  obtain ⟨_, h2, h3, h4, _⟩ := fin_len h
  have hk : rd b 4 = 18 ∨ rd b 4 = 20 := by
    simp only [q2, memb, List.any_cons, List.any_nil, Bool.or_false, Bool.or_eq_true, decide_eq_true_eq] at h2
    exact h2
  have hh : hdO (rd b 4) = 27 := by rcases hk with e | e <;> rw [e] <;> decide
  exact ⟨hk, hh, by omega, h4⟩
theorem sl1 {b : List Int} (i : Nat) (h : i < b.length) : sl b i 1 = rd b i := by
  unfold sl
  rw [drop_rd b i h]
  simp [nm]
theorem takeLsp_eq (b : List Int) (hb : By b) (hl : b.length ≤ 1000000) : pdu_TakeLsp.p (b, ()) = some (takeL b) := by
  unfold pdu_TakeLsp.p takeL
  rw [open_eq [18, 20] b (by simp) hb hl]
  simp only [bind_eq, jn_eq]
  unfold openR
  change _ = some (if fin (memb [18, 20]) b = true then _ else _)
  cases hf : fin (memb [18, 20]) b with
  | false =>
    have he := err_ne (memb [18, 20]) b
    simp only [Bool.false_eq_true, if_false]
    rw [if_pos (by simpa using he)]
    rfl
  | true =>
    obtain ⟨hk, hh, h27, hw⟩ := fin_q2 (b := b) hf
    have e27 : (27 : Int).toNat = 27 := rfl
    simp only [if_true, hh, e27]
    by_cases ht : (takeT (b.drop 27)).2.1 = 0
    · rw [if_neg (by simpa using ht), if_pos ht]
      have t1 : ∀ (l : List Int), By l → 1 ≤ l.length → pdu_reader_take_2.p ((l, ()), 1, ()) = some (nm (l.take 1), (l.drop 1, ()), ()) := fun l h h' => rtake2_eq l 1 h (by omega) h'
      have t2 : ∀ (l : List Int), By l → 2 ≤ l.length → pdu_reader_take_2.p ((l, ()), 2, ()) = some (nm (l.take 2), (l.drop 2, ()), ()) := fun l h h' => rtake2_eq l 2 h (by omega) h'
      have t4 : ∀ (l : List Int), By l → 4 ≤ l.length → pdu_reader_take_2.p ((l, ()), 4, ()) = some (nm (l.take 4), (l.drop 4, ()), ()) := fun l h h' => rtake2_eq l 4 h (by omega) h'
      have t8 : ∀ (l : List Int), By l → 8 ≤ l.length → pdu_reader_take_2.p ((l, ()), 8, ()) = some (nm (l.take 8), (l.drop 8, ()), ()) := fun l h h' => rtake2_eq l 8 h (by omega) h'
      rw [t2 _ (hb.drop 8) (by rw [List.length_drop]; omega)]
      simp only [bind_eq, List.drop_drop]
      rw [t2 _ (hb.drop _) (by rw [List.length_drop]; omega)]
      simp only [bind_eq, List.drop_drop]
      rw [t8 _ (hb.drop _) (by rw [List.length_drop]; omega)]
      simp only [bind_eq, List.drop_drop]
      rw [t4 _ (hb.drop _) (by rw [List.length_drop]; omega)]
      simp only [bind_eq, List.drop_drop]
      rw [t2 _ (hb.drop _) (by rw [List.length_drop]; omega)]
      simp only [bind_eq, List.drop_drop]
      rw [t1 _ (hb.drop _) (by rw [List.length_drop]; omega)]
      simp only [bind_eq, List.drop_drop]
      have r2 := sl_range hb 10 2
      have r4 := sl_range hb 20 4
      have r2' := sl_range hb 24 2
      have r26 := hb.at 26 (by omega)
      rw [show (256 : Int) ^ 2 = 65536 by decide] at r2 r2'
      rw [show (256 : Int) ^ 4 = 4294967296 by decide] at r4
      have s1 : nm ((b.drop (8 + 2)).take 2) = sl b 10 2 := rfl
      have s2 : nm ((b.drop (8 + 2 + 2)).take 8) = sl b 12 8 := rfl
      have s3 : nm ((b.drop (8 + 2 + 2 + 8)).take 4) = sl b 20 4 := rfl
      have s4 : nm ((b.drop (8 + 2 + 2 + 8 + 4)).take 2) = sl b 24 2 := rfl
      have s5 : nm ((b.drop (8 + 2 + 2 + 8 + 4 + 2)).take 1) = rd b 26 := sl1 26 (by omega)
      simp only [s1, s2, s3, s4, s5]
      rw [w64 (x := sl b 10 2) (by omega), w64 (x := sl b 24 2) (by omega), wu32, fdiv_pos (by decide), show (2 : Int) ^ 2 = 4 by decide, w64 (x := rd b 26 / 4) (by omega), show sl b 20 4 % 4294967296 = sl b 20 4 by omega]
      have hlev : IntKind.i64.wrap (IntKind.i64.wrap (Int.tdiv (IntKind.i64.wrap (rd b 4 - 18)) 2) + 1) = (rd b 4 - 16) / 2 := by rcases hk with e | e <;> rw [e] <;> decide
      rw [hlev]
      have e12 : (12 : Int).toNat = 12 := rfl
      by_cases hlife : sl b 10 2 > 0
      · rw [if_pos (by simpa using hlife), if_pos (by omega), e12, Int.toNat_natCast, List.take_length, Fits_eq (hb.drop _) (by rw [List.length_drop]; omega)]
        simp only [bind_eq, hlife, true_and]
        cases fitsF (b.drop 12) <;> rfl
      · rw [if_neg (by simpa using hlife), if_neg (by simp), if_neg (fun h => hlife h.1)]
    · rw [if_pos (by simpa using ht), if_neg ht]
theorem rtakeLsp_eq (b : List Int) (hb : By b) (hl : b.length ≤ 1000000) : ref22_TakeLsp.p (b, ()) = some (takeL b) := by
  unfold ref22_TakeLsp.p takeL
  have ho := ropen_eq 18 20 8 b hb hl (by omega)
  rw [show ((8 : Nat) : Int) = 8 from rfl] at ho
  rw [ho]
  simp only [bind_eq, jn_eq]
  change _ = some (if fin (memb [18, 20]) b = true then _ else _)
  cases hf : fin (memb [18, 20]) b with
  | false =>
    have he := err_ne (memb [18, 20]) b
    simp only [Bool.false_eq_true, if_false]
    rw [if_pos (by simpa using he)]
    rfl
  | true =>
    obtain ⟨hk, hh, h27, hw⟩ := fin_q2 (b := b) hf
    have e27 : (27 : Int).toNat = 27 := rfl
    simp only [if_true, hh, e27]
    by_cases ht : (takeT (b.drop 27)).2.1 = 0
    · rw [if_neg (by simpa using ht), if_pos ht]
      have r2 := sl_range hb 10 2
      have r4 := sl_range hb 20 4
      have r2' := sl_range hb 24 2
      have r26 := hb.at 26 (by omega)
      rw [show (256 : Int) ^ 2 = 65536 by decide] at r2 r2'
      rw [show (256 : Int) ^ 4 = 4294967296 by decide] at r4
      have e10 : (10 : Int).toNat = 10 := rfl
      have e12 : (12 : Int).toNat = 12 := rfl
      have e20 : (20 : Int).toNat = 20 := rfl
      have e24 : (24 : Int).toNat = 24 := rfl
      have e26 : (26 : Int).toNat = 26 := rfl
      have g : ∀ i m : Nat, m ≤ 8 → ref22_number.p (List.drop i (List.take (i + m) b), ()) = some (sl b i m, ()) := by
        intro i m hm
        rw [rnumber_eq _ ((hb.take _).drop _) (by rw [List.length_drop, List.length_take]; omega), List.drop_take, show i + m - i = m by omega]
        rfl
      have g1 : ref22_number.p (List.drop 10 (List.take 12 b), ()) = some (sl b 10 2, ()) := g 10 2 (by omega)
      have g2 : ref22_number.p (List.drop 12 (List.take 20 b), ()) = some (sl b 12 8, ()) := g 12 8 (by omega)
      have g3 : ref22_number.p (List.drop 20 (List.take 24 b), ()) = some (sl b 20 4, ()) := g 20 4 (by omega)
      have g4 : ref22_number.p (List.drop 24 (List.take 26 b), ()) = some (sl b 24 2, ()) := g 24 2 (by omega)
      simp only [e10, e12, e20, e24, e26, g1, g2, g3, g4, bind_eq]
      rw [if_pos (by omega), if_pos (by omega), if_pos (by omega), if_pos (by omega), if_pos (by omega)]
      rw [w64 (x := sl b 10 2) (by omega), w64 (x := sl b 24 2) (by omega), wu32, tdiv_pos r26.1, wu8, w64 (x := rd b 26 / 4 % 256) (by omega), show rd b 26 / 4 % 256 = rd b 26 / 4 by omega, show sl b 20 4 % 4294967296 = sl b 20 4 by omega]
      have hlev : IntKind.i64.wrap (Int.tdiv (IntKind.i64.wrap (rd b 4 - 16)) 2) = (rd b 4 - 16) / 2 := by rcases hk with e | e <;> rw [e] <;> decide
      rw [hlev]
      by_cases hlife : sl b 10 2 > 0
      · rw [if_pos (by simpa using hlife), if_pos (by omega), Int.toNat_natCast, List.take_length, rFits_eq (hb.drop _) (by rw [List.length_drop]; omega)]
        simp only [bind_eq, hlife, true_and]
        cases fitsF (b.drop 12) <;> rfl
      · rw [if_neg (by simpa using hlife), if_neg (by simp), if_neg (fun h => hlife h.1)]
    · rw [if_pos (by simpa using ht), if_neg ht]
/-- What was put is taken. -/
theorem takeL_of {x : Lsp} (h : okL x) (hx : LspOk x) (hf : x.2.1 > 0 → fitsF (lspD x) = true) : takeL (lspB x) = (x, 0, ()) := by
  have hlen := lspB_len x
  obtain ⟨lev, life, id, seq, sm, bits, th, _⟩ := x
  obtain ⟨h0, h1, h2, h3, h4, h5⟩ := h
  obtain ⟨hid, hseq, hbt, hs⟩ := hx
  simp only at h0 h1 h2 h3 h4 h5 hid hseq hbt hs hf hlen
  have r4 : rd (lspB (lev, life, id, seq, sm, bits, th, ())) 4 = 16 + 2 * lev := rfl
  have k8 : (lspB (lev, life, id, seq, sm, bits, th, ())).take 8 = beg (16 + 2 * lev) := rfl
  have hh : hdO (16 + 2 * lev) = 27 := by rcases h1 with rfl | rfl <;> decide
  have r8 : rd (lspB (lev, life, id, seq, sm, bits, th, ())) 8 = (27 + ((thsB th).length : Int)) / 256 ^ 1 % 256 := rfl
  have r9 : rd (lspB (lev, life, id, seq, sm, bits, th, ())) 9 = (27 + ((thsB th).length : Int)) / 256 ^ 0 % 256 := rfl
  have r26 : rd (lspB (lev, life, id, seq, sm, bits, th, ())) 26 = (bits * 4 + 2 * lev - 1) / 256 ^ 0 % 256 := rfl
  rw [show (256 : Int) ^ 1 = 256 by decide] at r8
  rw [Int.pow_zero, Int.ediv_one] at r9 r26
  have d10 : (lspB (lev, life, id, seq, sm, bits, th, ())).drop 10 = be life 2 ++ lspD (lev, life, id, seq, sm, bits, th, ()) := rfl
  have d12 : (lspB (lev, life, id, seq, sm, bits, th, ())).drop 12 = lspD (lev, life, id, seq, sm, bits, th, ()) := rfl
  have d12' : (lspB (lev, life, id, seq, sm, bits, th, ())).drop 12 = be id 8 ++ (be seq 4 ++ (be sm 2 ++ (be (bits * 4 + 2 * lev - 1) 1 ++ thsB th))) := rfl
  have d20 : (lspB (lev, life, id, seq, sm, bits, th, ())).drop 20 = be seq 4 ++ (be sm 2 ++ (be (bits * 4 + 2 * lev - 1) 1 ++ thsB th)) := rfl
  have d24 : (lspB (lev, life, id, seq, sm, bits, th, ())).drop 24 = be sm 2 ++ (be (bits * 4 + 2 * lev - 1) 1 ++ thsB th) := rfl
  have d27 : (lspB (lev, life, id, seq, sm, bits, th, ())).drop 27 = thsB th := rfl
  have hfin : fin q2 (lspB (lev, life, id, seq, sm, bits, th, ())) = true := by
    unfold fin okK wr
    rw [r4, k8, hh, hlen, r8, r9, r26]
    have hq : q2 (16 + 2 * lev) = true := by rcases h1 with rfl | rfl <;> decide
    have n17 : ¬ 16 + 2 * lev = 17 := by omega
    have n18 : 16 + 2 * lev = 18 ∨ 16 + 2 * lev = 20 := by omega
    rw [hq, if_neg n17, if_pos n18]
    simp only [decide_true, Bool.true_and, Bool.and_true, Bool.and_eq_true, decide_eq_true_eq]
    refine ⟨by omega, by omega, by omega, by omega, by omega⟩
  unfold takeL
  rw [if_pos hfin, d27, takeT_of th h0, if_pos rfl]
  have s1 : sl (lspB (lev, life, id, seq, sm, bits, th, ())) 10 2 = life := by
    unfold sl
    rw [d10, List.take_left' (be_length _ _), nm_be 2 life (by omega) (by rw [show (256 : Int) ^ 2 = 65536 by decide]; omega)]
  have s2 : sl (lspB (lev, life, id, seq, sm, bits, th, ())) 12 8 = id := by
    unfold sl
    rw [d12', List.take_left' (be_length _ _), nm_be 8 id (by omega) (by rw [show (256 : Int) ^ 8 = 18446744073709551616 by decide]; omega)]
  have s3 : sl (lspB (lev, life, id, seq, sm, bits, th, ())) 20 4 = seq := by
    unfold sl
    rw [d20, List.take_left' (be_length _ _), nm_be 4 seq (by omega) (by rw [show (256 : Int) ^ 4 = 4294967296 by decide]; omega)]
  have s4 : sl (lspB (lev, life, id, seq, sm, bits, th, ())) 24 2 = sm := by
    unfold sl
    rw [d24, List.take_left' (be_length _ _), nm_be 2 sm (by omega) (by rw [show (256 : Int) ^ 2 = 65536 by decide]; omega)]
  rw [s1, s2, s3, s4, r4, r26, d12, if_neg (by
    intro q
    rw [hf q.1] at q
    exact absurd q.2 (by simp))]
  rw [show (16 + 2 * lev - 16) / 2 = lev by omega, show (bits * 4 + 2 * lev - 1) % 256 / 4 = bits by omega]
theorem set2_mid (p q a b : Int) (R : List Int) : ∀ A : List Int, set2 (A ++ (a :: b :: R)) A.length p q = A ++ (p :: q :: R) := by
  intro A
  induction A with
  | nil => rfl
  | cons x A ih =>
    unfold set2 at ih ⊢
    simp only [List.cons_append, List.length_cons, List.set_cons_succ]
    rw [ih]
def sumL (x : Lsp) (s : Int) : Lsp := (x.1, x.2.1, x.2.2.1, x.2.2.2.1, s, x.2.2.2.2.2.1, x.2.2.2.2.2.2.1, ())
def placedL (x : Lsp) : List Int := (place (lspD (sumL x 0)) 12).1
def sealL (x : Lsp) : Lsp × Int × Unit := if okL (sumL x 0) then (sumL x (rd (placedL x) 12 * 256 + rd (placedL x) 13), 0, ()) else (zL, 1, ())
theorem placedL_eq (x : Lsp) (h : okL (sumL x 0)) : ∃ p q : Int, (0 ≤ p ∧ p ≤ 255) ∧ (0 ≤ q ∧ q ≤ 255) ∧ place (lspD (sumL x 0)) 12 = (placedL x, 0, ()) ∧ placedL x = lspD (sumL x (p * 256 + q)) ∧ rd (placedL x) 12 = p ∧ rd (placedL x) 13 = q ∧ fitsF (placedL x) = true ∧ (placedL x).length = (lspD (sumL x 0)).length := by
  have hlen := lspD_len (sumL x 0)
  have h5 : (thsB x.2.2.2.2.2.2.1).length ≤ 1465 := h.2.2.2.2.2
  have e5 : (sumL x 0).2.2.2.2.2.2.1 = x.2.2.2.2.2.2.1 := rfl
  rw [e5] at hlen
  obtain ⟨i, p, q, hi, hi2, hp, hq, hpl, hfit⟩ := place_yes (l := lspD (sumL x 0)) (a := 12) (by omega)
  have hi12 : i = 12 := by omega
  subst hi12
  have hmid : set2 (lspD (sumL x 0)) 12 p q = lspD (sumL x (p * 256 + q)) := by
    have e0 : be (0 : Int) 2 = [0, 0] := by decide
    have e1 : be (p * 256 + q) 2 = [p, q] := by
      show [(p * 256 + q) / 256 ^ 1 % 256, (p * 256 + q) / 256 ^ 0 % 256] = _
      rw [show (256 : Int) ^ 1 = 256 by decide, Int.pow_zero, Int.ediv_one, show (p * 256 + q) / 256 % 256 = p by omega, show (p * 256 + q) % 256 = q by omega]
    have hA : (be x.2.2.1 8 ++ be x.2.2.2.1 4).length = 12 := by rw [List.length_append, be_length, be_length]
    have := set2_mid p q 0 0 (be (x.2.2.2.2.2.1 * 4 + 2 * x.1 - 1) 1 ++ thsB x.2.2.2.2.2.2.1) (be x.2.2.1 8 ++ be x.2.2.2.1 4)
    rw [hA] at this
    unfold lspD sumL
    simp only [e0, e1]
    rw [List.append_assoc] at this
    simp only [List.append_assoc] at this ⊢
    exact this
  have hP : placedL x = set2 (lspD (sumL x 0)) 12 p q := by unfold placedL; rw [hpl]
  refine ⟨p, q, by omega, by omega, ?_, by rw [hP, hmid], ?_, ?_, by rw [hP]; exact hfit, by rw [hP, set2_length]⟩
  · rw [hpl, hP]
  · rw [hP]; unfold set2; rw [rd_set_ne _ _ _ _ (by omega), rd_set_self _ _ _ (by omega)]
  · rw [hP]; unfold set2; rw [rd_set_self _ _ _ (by rw [List.length_set]; omega)]
theorem sumOk {x : Lsp} (hx : LspOk x) (s : Int) : LspOk (sumL x s) := hx
theorem okL_sum {x : Lsp} (h : okL (sumL x 0)) (s : Int) (hs : 0 ≤ s ∧ s ≤ 65535) : okL (sumL x s) := ⟨h.1, h.2.1, h.2.2.1, hs, h.2.2.2.2.1, h.2.2.2.2.2⟩
theorem seal_ok {x : Lsp} (h : okL (sumL x 0)) : ∃ s : Int, (0 ≤ s ∧ s ≤ 65535) ∧ sealL x = (sumL x s, 0, ()) ∧ fitsF (lspD (sumL x s)) = true := by
  obtain ⟨p, q, hp, hq, _, h2, h3, h4, h5, _⟩ := placedL_eq x h
  refine ⟨p * 256 + q, by omega, ?_, by rw [← h2]; exact h5⟩
  unfold sealL
  rw [if_pos h, h3, h4]
theorem lspD_by {x : Lsp} (h : okL x) (hx : LspOk x) : By (lspD x) := by
  unfold lspD
  exact (be_by _ _).app ((be_by _ _).app ((be_by _ _).app ((be_by _ _).app (thsB_by _ hx.2.2.1 h.1))))
theorem seal_eq (x : Lsp) (hx : LspOk x) : pdu_Seal.p (x, ()) = some (sealL x) := by
  unfold pdu_Seal.p sealL
  have e : ((x.1, x.2.1, x.2.2.1, x.2.2.2.1, 0, x.2.2.2.2.2.1, x.2.2.2.2.2.2.1, ()) : Lsp) = sumL x 0 := rfl
  simp only [e, putLsp_eq (sumL x 0) (sumOk hx 0), bind_eq]
  unfold putL
  by_cases h : okL (sumL x 0)
  · obtain ⟨p, q, hp, hq, h1, h2, h3, h4, h5, h6⟩ := placedL_eq x h
    have hby := lspD_by h (sumOk hx 0)
    have hlen := lspB_len (sumL x 0)
    have hlenD := lspD_len (sumL x 0)
    have h1465 := h.2.2.2.2.2
    have e12 : (12 : Int).toNat = 12 := rfl
    have d12 : (lspB (sumL x 0)).drop 12 = lspD (sumL x 0) := rfl
    have hpby : By (placedL x) := by rw [h2]; exact lspD_by (okL_sum h _ (by omega)) (sumOk hx _)
    simp only [h, if_true, decide_true, Bool.not_true, Bool.false_eq_true, if_false, e12, Int.toNat_natCast, List.take_length, d12]
    rw [if_pos (by omega), Place_eq hby (by omega) 12 (by omega), h1]
    simp only [bind_eq, Int.toNat_natCast, List.take_length]
    have hd : (placedL x).drop 12 = rd (placedL x) 12 :: rd (placedL x) 13 :: (placedL x).drop 14 := by rw [drop_rd _ 12 (by omega), drop_rd _ 13 (by omega)]
    have htk : take ((placedL x).drop 12) 2 = (rd (placedL x) 12 * 256 + rd (placedL x) 13, (placedL x).drop 14, 0, ()) := by
      unfold take
      rw [if_neg (by omega), if_neg (by rw [List.length_drop]; omega), hd]
      show (num [rd (placedL x) 12, rd (placedL x) 13], (placedL x).drop 14, (0 : Int), ()) = _
      have : num [rd (placedL x) 12, rd (placedL x) 13] = rd (placedL x) 12 * 256 + rd (placedL x) 13 := by
        simp only [num, nacc, List.foldl]
        omega
      rw [this]
    rw [if_pos (by omega), take_eq _ 2 (hpby.drop _) (by rw [List.length_drop]; omega), htk]
    simp only [bind_eq]
    rw [w64 (by omega)]
    rfl
  · simp [h]
theorem rseal_eq (x : Lsp) (hx : LspOk x) : ref22_Seal.p (x, ()) = some (sealL x) := by
  unfold ref22_Seal.p sealL
  have e : ((x.1, x.2.1, x.2.2.1, x.2.2.2.1, 0, x.2.2.2.2.2.1, x.2.2.2.2.2.2.1, ()) : Lsp) = sumL x 0 := rfl
  simp only [e, rputLsp_eq (sumL x 0) (sumOk hx 0), bind_eq]
  unfold putL
  by_cases h : okL (sumL x 0)
  · obtain ⟨p, q, hp, hq, h1, h2, h3, h4, h5, h6⟩ := placedL_eq x h
    have hby := lspD_by h (sumOk hx 0)
    have hlen := lspB_len (sumL x 0)
    have hlenD := lspD_len (sumL x 0)
    have h1465 := h.2.2.2.2.2
    have e12 : (12 : Int).toNat = 12 := rfl
    have e14 : (14 : Int).toNat = 14 := rfl
    have d12 : (lspB (sumL x 0)).drop 12 = lspD (sumL x 0) := rfl
    have hpby : By (placedL x) := by rw [h2]; exact lspD_by (okL_sum h _ (by omega)) (sumOk hx _)
    simp only [h, if_true, decide_true, Bool.not_true, Bool.false_eq_true, if_false, e12, e14, Int.toNat_natCast, List.take_length, d12]
    rw [if_pos (by omega), rPlace_eq hby (by omega) 12 (by omega), h1]
    simp only [bind_eq]
    rw [if_pos (by omega), rnumber_eq _ ((hpby.take _).drop _) (by rw [List.length_drop, List.length_take]; omega)]
    have := nm2 (placedL x) 12 (by omega)
    rw [show 12 + 2 = 14 from rfl, show 12 + 1 = 13 from rfl] at this
    simp only [bind_eq, this]
    rw [w64 (by omega)]
    rfl
  · simp [h]
theorem lsp_eq (x : Lsp) (hl : x.2.2.2.2.2.2.1.length ≤ 1000000) : law22_lsp.p (x, ()) = some (x, ()) := by
  unfold law22_lsp.p
  simp only [things_eq _ hl, bind_eq]
theorem SameLsp_same (x : Lsp) (hl : x.2.2.2.2.2.2.1.length ≤ 1000000) : ref22_SameLsp.p (x, x, ()) = some (true, ()) := by
  unfold ref22_SameLsp.p
  simp only [Things_same _ hl, jn_eq, decide_true, if_true, bind_eq]
theorem takeL_small (b : List Int) : (takeL b).1.2.2.2.2.2.2.1.length ≤ b.length := by
  unfold takeL
  split
  · split
    · split
      · simp
      · refine Nat.le_trans (takeT_len _) ?_
        rw [List.length_drop]; omega
    · simp
  · simp
end Go.Proofs.Ytocloebloblodaa.F
