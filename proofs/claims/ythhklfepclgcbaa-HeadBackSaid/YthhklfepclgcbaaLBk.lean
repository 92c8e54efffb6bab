/- Packets of OSPF: there and back; a byte that is another one is found. -/
import Derived.Test.YthhklfepclgcbaaLDec
set_option maxRecDepth 100000
set_option linter.unusedVariables false
set_option linter.unusedSimpArgs false
open Go Go.Proofs.Fr
namespace Go.Proofs.Ythhklfepclgcbaa.F
theorem ofInt_natw8 (w n : Nat) : BitVec.ofInt w (n : Int) = BitVec.ofNat w n := by
  apply BitVec.eq_of_toNat_eq
  simp [BitVec.toNat_ofInt, BitVec.toNat_ofNat]
theorem xor_u8 {a b : Int} (ha : 0 ≤ a ∧ a ≤ 255) (hb : 0 ≤ b ∧ b ≤ 255) : (0 ≤ ibits .xor .u8 a b ∧ ibits .xor .u8 a b ≤ 255) ∧ (ibits .xor .u8 a b = a → b = 0) := by
  obtain ⟨n, rfl⟩ := Int.eq_ofNat_of_zero_le ha.1
  obtain ⟨m, rfl⟩ := Int.eq_ofNat_of_zero_le hb.1
  have hn : n < 2 ^ 8 := by omega
  have hm : m < 2 ^ 8 := by omega
  have key : ∀ u v : Nat, u < 2 ^ 8 → v < 2 ^ 8 → ibits .xor .u8 (u : Int) (v : Int) = ((u ^^^ v : Nat) : Int) := by
    intro u v hu hv
    have hx := Nat.xor_lt_two_pow hu hv
    show IntKind.u8.wrap ((BitVec.ofInt 8 (u : Int) ^^^ BitVec.ofInt 8 (v : Int)).toNat : Int) = _
    rw [ofInt_natw8, ofInt_natw8, BitVec.toNat_xor, BitVec.toNat_ofNat, BitVec.toNat_ofNat, Nat.mod_eq_of_lt hu, Nat.mod_eq_of_lt hv, wu8]
    omega
  have hx := Nat.xor_lt_two_pow hn hm
  rw [key n m hn hm]
  refine ⟨by omega, fun h => ?_⟩
  have h' : n ^^^ m = n := by omega
  have : n ^^^ (n ^^^ m) = n ^^^ n := by rw [h']
  rw [← Nat.xor_assoc, Nat.xor_self, Nat.zero_xor] at this
  omega
theorem num_be4 (n : Int) (h : 0 ≤ n ∧ n < 4294967296) : num [n / 16777216 % 256, n / 65536 % 256, n / 256 % 256, n % 256] = n := by
  simp only [num, nacc, List.foldl_cons, List.foldl_nil]
  omega
theorem foldw_mod : ∀ (n : Nat) (x : Int), x.toNat ≤ n → 0 ≤ x → foldw x % 65535 = x % 65535
  | 0, x, hn, h => by rw [foldw_small (by omega)]
  | n + 1, x, hn, h => by
    by_cases hx : x > 65535
    · rw [foldw_big hx, foldw_mod n _ (by omega) (by omega)]
      omega
    · rw [foldw_small hx]
theorem bk_set (l : List Int) (i j : Nat) (x : Int) (hi : i < l.length) : rd (l.set i x) j = if i = j then x else rd l j := by
  unfold rd
  rw [List.getD_eq_getElem?_getD, List.getD_eq_getElem?_getD, List.getElem?_set]
  by_cases h : i = j
  · subst h; simp [hi]
  · simp [h]
/-- What a byte more adds to the words. -/
theorem Wp_set : ∀ (l : List Int) (f : Bool) (i : Nat) (x : Int), i < l.length → (Wp f (l.set i x) = Wp f l + 256 * (x - rd l i) ∨ Wp f (l.set i x) = Wp f l + (x - rd l i))
  | [], _, i, _, h => absurd h (Nat.not_lt_zero _)
  | a :: l, f, 0, x, _ => by
    have e : rd (a :: l) 0 = a := rfl
    rw [List.set_cons_zero, e]
    cases f <;> simp only [Wp]
    · right; omega
    · left; omega
  | a :: l, f, i + 1, x, h => by
    have e : rd (a :: l) (i + 1) = rd l i := rfl
    rw [List.set_cons_succ, e]
    have ih := Wp_set l (!f) i x (by simpa using h)
    cases f
    · have ih' : Wp true (l.set i x) = Wp true l + 256 * (x - rd l i) ∨ Wp true (l.set i x) = Wp true l + (x - rd l i) := ih
      simp only [Wp]
      rcases ih' with h | h <;> rw [h]
      · left; omega
      · right; omega
    · have ih' : Wp false (l.set i x) = Wp false l + 256 * (x - rd l i) ∨ Wp false (l.set i x) = Wp false l + (x - rd l i) := ih
      simp only [Wp]
      rcases ih' with h | h <;> rw [h]
      · left; omega
      · right; omega
/-- What is summed up of a packet's bytes: the first sixteen but the sum itself, and the body. -/
def hd16 (b : List Int) : List Int := [rd b 0, rd b 1, rd b 2, rd b 3, rd b 4, rd b 5, rd b 6, rd b 7, rd b 8, rd b 9, rd b 10, rd b 11, 0, 0, rd b 14, rd b 15]
def W16 (b : List Int) : Int := 256 * rd b 0 + rd b 1 + 256 * rd b 2 + rd b 3 + 256 * rd b 4 + rd b 5 + 256 * rd b 6 + rd b 7 + 256 * rd b 8 + rd b 9 + 256 * rd b 10 + rd b 11 + 256 * rd b 14 + rd b 15
theorem W16_eq (b l : List Int) : Wp true (hd16 b ++ l) = W16 b + Wp true l := by
  unfold hd16 W16
  simp only [List.cons_append, List.nil_append, Wp]
  omega
theorem be4_num (a b c d : Int) (ha : 0 ≤ a ∧ a ≤ 255) (hb : 0 ≤ b ∧ b ≤ 255) (hc : 0 ≤ c ∧ c ≤ 255) (hd : 0 ≤ d ∧ d ≤ 255) : be (num [a, b, c, d]) 4 = [a, b, c, d] := by
  rw [be_four]
  simp only [num, nacc, List.foldl_cons, List.foldl_nil]
  have e1 : ((((0 * 256 % 4294967296 + a) * 256 % 4294967296 + b) * 256 % 4294967296 + c) * 256 % 4294967296 + d) / 16777216 % 256 = a := by omega
  have e2 : ((((0 * 256 % 4294967296 + a) * 256 % 4294967296 + b) * 256 % 4294967296 + c) * 256 % 4294967296 + d) / 65536 % 256 = b := by omega
  have e3 : ((((0 * 256 % 4294967296 + a) * 256 % 4294967296 + b) * 256 % 4294967296 + c) * 256 % 4294967296 + d) / 256 % 256 = c := by omega
  have e4 : ((((0 * 256 % 4294967296 + a) * 256 % 4294967296 + b) * 256 % 4294967296 + c) * 256 % 4294967296 + d) % 256 = d := by omega
  rw [e1, e2, e3, e4]
theorem take4_rd (b : List Int) (k : Nat) (hk : k + 4 ≤ b.length) : (b.drop k).take 4 = [rd b k, rd b (k + 1), rd b (k + 2), rd b (k + 3)] := by
  rw [drop_rd b k (by omega), drop_rd b (k + 1) (by omega), drop_rd b (k + 2) (by omega), drop_rd b (k + 3) (by omega)]
  rfl
/-- What is summed up, if its head is as it must be. -/
theorem sum_is (b : List Int) (hb : By b) (h24 : 24 ≤ b.length) (hl : b.length ≤ 1500) (h0 : rd b 0 = 2) (h2 : T2 b 2 = (b.length : Int)) : hdB (pkB b) 0 = hd16 b := by
  have hat := fun i (hi : i < 24) => hb.at i (by omega)
  have t2 := T2_range b hb 14 (by omega)
  have b1 := hat 1 (by omega); have b2 := hat 2 (by omega); have b3 := hat 3 (by omega)
  have b14 := hat 14 (by omega); have b15 := hat 15 (by omega)
  have e0 : be 2 1 = [rd b 0] := by rw [be_one, h0]; rfl
  have e1 : be (rd b 1) 1 = [rd b 1] := by rw [be_one]; congr 1; omega
  have e2 : be (24 + ((b.drop 24).length : Int)) 2 = [rd b 2, rd b 3] := by
    have h2' : 256 * rd b 2 + rd b 3 = (b.length : Int) := h2
    rw [be_two, List.length_drop]
    have q1 : (24 + ((b.length - 24 : Nat) : Int)) / 256 % 256 = rd b 2 := by omega
    have q2 : (24 + ((b.length - 24 : Nat) : Int)) % 256 = rd b 3 := by omega
    rw [q1, q2]
  have e3 : be (num ((b.drop 4).take 4)) 4 = [rd b 4, rd b 5, rd b 6, rd b 7] := by
    rw [take4_rd b 4 (by omega)]
    exact be4_num _ _ _ _ (hat 4 (by omega)) (hat 5 (by omega)) (hat 6 (by omega)) (hat 7 (by omega))
  have e4 : be (num ((b.drop 8).take 4)) 4 = [rd b 8, rd b 9, rd b 10, rd b 11] := by
    rw [take4_rd b 8 (by omega)]
    exact be4_num _ _ _ _ (hat 8 (by omega)) (hat 9 (by omega)) (hat 10 (by omega)) (hat 11 (by omega))
  have e5 : be 0 2 = [0, 0] := by rw [be_two]; rfl
  have e6 : be (T2 b 14) 2 = [rd b 14, rd b 15] := by
    unfold T2
    rw [be_two]
    have q1 : (256 * rd b 14 + rd b (14 + 1)) / 256 % 256 = rd b 14 := by simp only [Nat.reduceAdd]; omega
    have q2 : (256 * rd b 14 + rd b (14 + 1)) % 256 = rd b 15 := by simp only [Nat.reduceAdd]; omega
    rw [q1, q2]
  unfold hdB pkB
  simp only
  rw [e0, e1, e2, e3, e4, e5, e6]
  rfl
/-- Bytes that are read as a packet. -/
def Vd (b : List Int) : Prop := 24 ≤ b.length ∧ b.length ≤ 1500 ∧ rd b 0 = 2 ∧ T2 b 2 = (b.length : Int) ∧ chk (pkB b) = T2 b 12
theorem vd_of {b : List Int} (h : (decR b).2.1 = 0) : Vd b := by
  unfold decR at h
  by_cases h1 : (b.length : Int) < 24
  · rw [if_pos h1] at h; exact absurd h (by decide)
  · rw [if_neg h1] at h
    by_cases h2 : rd b 0 ≠ 2
    · rw [if_pos h2] at h; exact absurd h (by decide)
    · rw [if_neg h2] at h
      by_cases h3 : (b.length : Int) > 1500
      · rw [if_pos h3] at h; exact absurd h (by decide)
      · rw [if_neg h3] at h
        cases h4 : form b with
        | false => rw [h4, if_pos rfl] at h; exact absurd h (by decide)
        | true =>
          rw [h4, if_neg (by decide)] at h
          unfold last at h
          by_cases h5 : chk (pkB b) ≠ T2 b 12
          · rw [if_pos h5] at h; exact absurd h (by decide)
          · unfold form at h4
            simp only [Bool.and_eq_true, decide_eq_true_eq] at h4
            exact ⟨by omega, by omega, by omega, h4.2, by omega⟩
theorem vd_sum {b : List Int} (hb : By b) (h : Vd b) : 65535 - foldw (W16 b + Wp true (b.drop 24)) = T2 b 12 := by
  obtain ⟨h1, h2, h3, h4, h5⟩ := h
  rw [← h5]
  unfold chk isum
  rw [sum_is b hb h1 h2 h3 h4, ← W16_eq]
  rfl
/-- A byte that is another one is found. -/
theorem bk_flip (b : List Int) (i : Nat) (v : Int) (hb : By b) (hv : 0 ≤ v ∧ v ≤ 255) (hi : i < b.length) (hi2 : i < 16 ∨ 24 ≤ i) (hne : v ≠ rd b i) (h : Vd b) (h' : Vd (b.set i v)) : False := by
  have hat := fun j (hj : j < b.length) => hb.at j hj
  have hl := h.1
  have hb' : By (b.set i v) := fun y hy => by
    rcases List.mem_or_eq_of_mem_set hy with h | h
    · exact hb y h
    · rw [h]; exact hv
  have s1 := vd_sum hb h
  have s2 := vd_sum hb' h'
  have hs := fun j => bk_set b i j v hi
  have hbi := hat i hi
  have r1 := Wp_range (b.drop 24) true (hb.drop 24)
  have r2 := Wp_range ((b.set i v).drop 24) true (hb'.drop 24)
  have w1 : 0 ≤ W16 b := by
    unfold W16
    have a0 := hat 0 (by omega); have a1 := hat 1 (by omega); have a2 := hat 2 (by omega); have a3 := hat 3 (by omega); have a4 := hat 4 (by omega); have a5 := hat 5 (by omega); have a6 := hat 6 (by omega); have a7 := hat 7 (by omega)
    have a8 := hat 8 (by omega); have a9 := hat 9 (by omega); have a10 := hat 10 (by omega); have a11 := hat 11 (by omega); have a14 := hat 14 (by omega); have a15 := hat 15 (by omega)
    omega
  have hl' : (b.set i v).length = b.length := List.length_set ..
  have w2 : 0 ≤ W16 (b.set i v) := by
    have hat := fun j (hj : j < b.length) => hb'.at j (by rw [hl']; exact hj)
    unfold W16
    have a0 := hat 0 (by omega); have a1 := hat 1 (by omega); have a2 := hat 2 (by omega); have a3 := hat 3 (by omega); have a4 := hat 4 (by omega); have a5 := hat 5 (by omega); have a6 := hat 6 (by omega); have a7 := hat 7 (by omega)
    have a8 := hat 8 (by omega); have a9 := hat 9 (by omega); have a10 := hat 10 (by omega); have a11 := hat 11 (by omega); have a14 := hat 14 (by omega); have a15 := hat 15 (by omega)
    omega
  have m1 := foldw_mod _ (W16 b + Wp true (b.drop 24)) (Nat.le_refl _) (by omega)
  have m2 := foldw_mod _ (W16 (b.set i v) + Wp true ((b.set i v).drop 24)) (Nat.le_refl _) (by omega)
  by_cases hi24 : 24 ≤ i
  · have e1 : W16 (b.set i v) = W16 b := by
      unfold W16
      simp only [hs]
      rw [if_neg (by omega), if_neg (by omega), if_neg (by omega), if_neg (by omega), if_neg (by omega), if_neg (by omega), if_neg (by omega), if_neg (by omega), if_neg (by omega), if_neg (by omega), if_neg (by omega), if_neg (by omega), if_neg (by omega), if_neg (by omega)]
    have e2 : T2 (b.set i v) 12 = T2 b 12 := by
      unfold T2
      rw [hs, hs, if_neg (by omega), if_neg (by omega)]
    have e3 : (b.set i v).drop 24 = (b.drop 24).set (i - 24) v := by rw [List.drop_set, if_neg (by omega)]
    have e4 : rd (b.drop 24) (i - 24) = rd b i := by rw [rd_drop]; congr 1; omega
    have e5 := Wp_set (b.drop 24) true (i - 24) v (by rw [List.length_drop]; omega)
    rw [e4] at e5
    rw [e3] at s2 m2
    rw [e1] at s2 m2
    rw [e2] at s2
    rcases e5 with e5 | e5 <;> rw [e5] at s2 m2 <;> omega
  · have e3 : (b.set i v).drop 24 = b.drop 24 := List.drop_set_of_lt (by omega)
    rw [e3] at s2 m2
    have hi16 : i < 16 := by omega
    have hT : T2 (b.set i v) 12 = 256 * (if i = 12 then v else rd b 12) + (if i = 13 then v else rd b 13) := by
      unfold T2
      rw [hs, hs]
    rw [hT] at s2
    have hT1 : T2 b 12 = 256 * rd b 12 + rd b 13 := rfl
    rw [hT1] at s1
    have hW : W16 (b.set i v) = 256 * (if i = 0 then v else rd b 0) + (if i = 1 then v else rd b 1) + 256 * (if i = 2 then v else rd b 2) + (if i = 3 then v else rd b 3) + 256 * (if i = 4 then v else rd b 4) + (if i = 5 then v else rd b 5) + 256 * (if i = 6 then v else rd b 6) + (if i = 7 then v else rd b 7) + 256 * (if i = 8 then v else rd b 8) + (if i = 9 then v else rd b 9) + 256 * (if i = 10 then v else rd b 10) + (if i = 11 then v else rd b 11) + 256 * (if i = 14 then v else rd b 14) + (if i = 15 then v else rd b 15) := by
      unfold W16
      simp only [hs]
    have hW1 : W16 b = 256 * rd b 0 + rd b 1 + 256 * rd b 2 + rd b 3 + 256 * rd b 4 + rd b 5 + 256 * rd b 6 + rd b 7 + 256 * rd b 8 + rd b 9 + 256 * rd b 10 + rd b 11 + 256 * rd b 14 + rd b 15 := rfl
    rw [hW] at s2 m2
    rw [hW1] at s1 m1
    have hcase : i = 0 ∨ i = 1 ∨ i = 2 ∨ i = 3 ∨ i = 4 ∨ i = 5 ∨ i = 6 ∨ i = 7 ∨ i = 8 ∨ i = 9 ∨ i = 10 ∨ i = 11 ∨ i = 12 ∨ i = 13 ∨ i = 14 ∨ i = 15 := by omega
    clear hW hW1 hT hT1 hs e3 hb' h h' r1 r2 w1 w2
    rcases hcase with rfl | rfl | rfl | rfl | rfl | rfl | rfl | rfl | rfl | rfl | rfl | rfl | rfl | rfl | rfl | rfl <;> simp only [Nat.reduceEqDiff, reduceIte] at s2 m2 <;> omega
/-- A packet's bytes, one by one. -/
theorem enc_list (p : Pk) : encB p = [2, p.1 % 256, (24 + (p.2.2.2.2.2.1.length : Int)) / 256 % 256, (24 + (p.2.2.2.2.2.1.length : Int)) % 256, p.2.1 / 16777216 % 256, p.2.1 / 65536 % 256, p.2.1 / 256 % 256, p.2.1 % 256, p.2.2.1 / 16777216 % 256, p.2.2.1 / 65536 % 256, p.2.2.1 / 256 % 256, p.2.2.1 % 256, chk p / 256 % 256, chk p % 256, p.2.2.2.1 / 256 % 256, p.2.2.2.1 % 256,
    p.2.2.2.2.1.1, p.2.2.2.2.1.2.1, p.2.2.2.2.1.2.2.1, p.2.2.2.2.1.2.2.2.1, p.2.2.2.2.1.2.2.2.2.1, p.2.2.2.2.1.2.2.2.2.2.1, p.2.2.2.2.1.2.2.2.2.2.2.1, p.2.2.2.2.1.2.2.2.2.2.2.2.1] ++ p.2.2.2.2.2.1 := by
  unfold encB hdB auL
  rw [be_one, be_one, be_two, be_two, be_two, be_four, be_four]
  rfl
theorem enc_len (p : Pk) : (encB p).length = 24 + p.2.2.2.2.2.1.length := by
  rw [enc_list, List.length_append]
  rfl
theorem enc_by {p : Pk} (hp : PkOk p) : By (encB p) := (hdB_by p _).app (hp.2.2.1.app hp.2.2.2)
theorem pk_back {p : Pk} (hp : PkOk p) (hm : mayP p = true) : pkB (encB p) = p := by
  unfold mayP at hm
  rw [decide_eq_true_eq] at hm
  obtain ⟨t, r, a, u, au, bd, _⟩ := p
  simp only at hm
  have h1 : rd (encB (t, r, a, u, au, bd, ())) 1 = t := by rw [enc_list]; show t % 256 = t; omega
  have h2 : num (((encB (t, r, a, u, au, bd, ())).drop 4).take 4) = r := by rw [enc_list]; exact num_be4 r hp.1
  have h3 : num (((encB (t, r, a, u, au, bd, ())).drop 8).take 4) = a := by rw [enc_list]; exact num_be4 a hp.2.1
  have h4 : T2 (encB (t, r, a, u, au, bd, ())) 14 = u := by
    rw [enc_list]
    show 256 * (u / 256 % 256) + u % 256 = u
    omega
  have h5 : auA (encB (t, r, a, u, au, bd, ())) = au := by rw [enc_list]; rfl
  have h6 : (encB (t, r, a, u, au, bd, ())).drop 24 = bd := by rw [enc_list]; rfl
  unfold pkB
  rw [h1, h2, h3, h4, h5, h6]
theorem dec_enc {p : Pk} (hp : PkOk p) (hm : mayP p = true) : decR (encB p) = (p, 0, ()) := by
  have hb := pk_back hp hm
  have hc := chk_range p hp
  have hl := enc_len p
  have hm' := hm
  unfold mayP at hm
  rw [decide_eq_true_eq] at hm
  have h0 : rd (encB p) 0 = 2 := by rw [enc_list]; rfl
  have h1 : rd (encB p) 1 = p.1 := by rw [enc_list]; show p.1 % 256 = p.1; omega
  have h2 : T2 (encB p) 2 = ((encB p).length : Int) := by
    rw [hl, enc_list]
    show 256 * ((24 + (p.2.2.2.2.2.1.length : Int)) / 256 % 256) + (24 + (p.2.2.2.2.2.1.length : Int)) % 256 = _
    omega
  have h12 : T2 (encB p) 12 = chk p := by
    rw [enc_list]
    show 256 * (chk p / 256 % 256) + chk p % 256 = chk p
    omega
  have h14 : T2 (encB p) 14 = p.2.2.2.1 := by
    rw [enc_list]
    show 256 * (p.2.2.2.1 / 256 % 256) + p.2.2.2.1 % 256 = p.2.2.2.1
    omega
  have hf : form (encB p) = true := by
    unfold form
    rw [h1, decide_eq_true hm.1, decide_eq_true h2]
    rfl
  unfold decR
  rw [if_neg (by omega), if_neg (by omega), if_neg (by omega), hf, if_neg (by decide)]
  unfold last
  rw [hb, h12, h14, if_neg (by omega), if_neg (by omega)]
theorem headBack (p : Pk) (at_ by_ : Int) (hp : PkOk p) (hby : 0 ≤ by_ ∧ by_ ≤ 255) : law09_HeadBack.p (p, at_, by_, ()) = some (true, ()) := by
  unfold law09_HeadBack.p
  simp only [jn_eq, aliveK, bind_eq]
  by_cases h1 : (p.2.2.2.2.2.1.length : Int) > 1600
  · rw [if_pos (decide_eq_true h1)]
  · rw [if_neg (by simp only [decide_eq_true_eq]; exact h1), Encode_eq p hp, hMay_eq]
    simp only [bind_eq]
    cases hm : mayP p with
    | false => simp only [Bool.false_eq_true, if_false, show ¬ (1 : Int) = 0 by decide, decide_false, beq_self_eq_true, Bool.not_true, Bool.not_false, if_true, List.length_nil, show ((0 : Nat) : Int) = 0 from rfl, decide_true]
    | true =>
      have hm2 := hm
      have hd := dec_enc hp hm
      have hB := enc_by hp
      have hl := enc_len p
      simp only [if_true, decide_true, beq_self_eq_true, Bool.not_true, Bool.false_eq_true, if_false]
      rw [Decode_eq _ hB (by omega), hd]
      simp only [bind_eq]
      rw [Encode_eq p hp, hm]
      simp only [bind_eq, if_true, decide_true, same_self, Bool.not_true, Bool.false_eq_true, if_false]
      by_cases a1 : at_ < 0
      · simp only [a1, decide_true, if_true]
      · by_cases a2 : at_ ≥ ((encB p).length : Int)
        · simp only [a1, a2, decide_true, decide_false, Bool.false_eq_true, if_false, if_true]
        · obtain ⟨i, rfl⟩ : ∃ i : Nat, at_ = (i : Int) := Int.eq_ofNat_of_zero_le (by omega)
          have hi : i < (encB p).length := by omega
          have hri := hB.at i hi
          have hx := xor_u8 hri hby
          have hB' : By ((encB p).set i (ibits .xor .u8 (rd (encB p) i) by_)) := fun y hy => by
            rcases List.mem_or_eq_of_mem_set hy with h | h
            · exact hB y h
            · rw [h]; exact hx.1
          have fin : (i < 16 ∨ 24 ≤ i) → by_ ≠ 0 → (decR ((encB p).set i (ibits .xor .u8 (rd (encB p) i) by_))).2.1 ≠ 0 := by
            intro hi2 hb0 h0
            have hV : Vd (encB p) := vd_of (by rw [hd])
            exact bk_flip (encB p) i _ hB hx.1 hi hi2 (fun e => hb0 (hx.2 e)) hV (vd_of h0)
          have tail : (i < 16 ∨ 24 ≤ i) → by_ ≠ 0 → (if (0 : Int) ≤ (i : Int) ∧ (i : Int) < ((encB p).length : Int) then (if (0 : Int) ≤ (i : Int) ∧ (i : Int) < ((encB p).length : Int) then ((head_Decode.p (List.set (encB p) i (ibits .xor .u8 (rd (encB p) i) by_), ())).bind fun y14 => some (!decide (y14.2.1 = 0), ())) else none) else none) = some (true, ()) := by
            intro hi2 hb0
            rw [if_pos (by omega), if_pos (by omega), Decode_eq _ hB' (by rw [List.length_set]; omega), bind_eq, decide_eq_false (fin hi2 hb0)]
            rfl
          simp only [a1, a2, decide_false, Bool.false_eq_true, if_false, Int.toNat_natCast]
          by_cases b0 : by_ = 0
          · by_cases c1 : (i : Int) ≥ 16
            · by_cases c2 : (i : Int) < 24
              · simp only [c1, c2, decide_true, if_true]
              · simp only [c1, c2, b0, decide_true, decide_false, Bool.false_eq_true, if_false, if_true]
            · simp only [c1, b0, decide_true, decide_false, Bool.false_eq_true, if_false, if_true]
          · by_cases c1 : (i : Int) ≥ 16
            · by_cases c2 : (i : Int) < 24
              · simp only [c1, c2, decide_true, if_true]
              · rw [if_pos (decide_eq_true c1), if_neg (by simp only [decide_eq_true_eq]; exact c2), decide_eq_false b0, if_neg Bool.false_ne_true]
                exact tail (by omega) b0
            · rw [if_neg (by simp only [decide_eq_true_eq]; exact c1), decide_eq_false b0, if_neg Bool.false_ne_true]
              exact tail (by omega) b0
theorem headBackW {P : Program} {x : dens (List.map K.v [(.cons (.int .i64) (.cons (.int .u32) (.cons (.int .u32) (.cons (.int .i64) (.cons (.cons (.int .u8) (.cons (.int .u8) (.cons (.int .u8) (.cons (.int .u8) (.cons (.int .u8) (.cons (.int .u8) (.cons (.int .u8) (.cons (.int .u8) .nil)))))))) (.cons (.sl 5 (.int .u8)) .nil)))))), (.int .i64), (.int .u8)])} (h : WfA P [(.cons (.int .i64) (.cons (.int .u32) (.cons (.int .u32) (.cons (.int .i64) (.cons (.cons (.int .u8) (.cons (.int .u8) (.cons (.int .u8) (.cons (.int .u8) (.cons (.int .u8) (.cons (.int .u8) (.cons (.int .u8) (.cons (.int .u8) .nil)))))))) (.cons (.sl 5 (.int .u8)) .nil)))))), (.int .i64), (.int .u8)] x) : ∃ y, law09_HeadBack.p x = some y ∧ y.1 = true := by
  obtain ⟨p, a, b, u⟩ := x
  refine ⟨_, headBack p a b ⟨wf_u32 h.1.2.1, wf_u32 h.1.2.2.1, ?_, fun y hy => wf_u8 (h.1.2.2.2.2.2.1.2 y hy)⟩ (wf_u8 h.2.2.1), rfl⟩
  have ha := h.1.2.2.2.2.1
  intro y hy
  simp only [auL, List.mem_cons, List.not_mem_nil, or_false] at hy
  rcases hy with rfl | rfl | rfl | rfl | rfl | rfl | rfl | rfl
  · exact wf_u8 ha.1
  · exact wf_u8 ha.2.1
  · exact wf_u8 ha.2.2.1
  · exact wf_u8 ha.2.2.2.1
  · exact wf_u8 ha.2.2.2.2.1
  · exact wf_u8 ha.2.2.2.2.2.1
  · exact wf_u8 ha.2.2.2.2.2.2.1
  · exact wf_u8 ha.2.2.2.2.2.2.2.1
end Go.Proofs.Ythhklfepclgcbaa.F
