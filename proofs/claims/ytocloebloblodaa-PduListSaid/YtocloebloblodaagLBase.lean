/- Plain lemmas: numbers that wrap, bytes, loops of so many rounds. -/
import Derived.Test.YtocloebloblodaagP
set_option linter.unusedVariables false
set_option linter.unusedSimpArgs false
open Go Go.Proofs.Fr
namespace Go.Proofs.Ytocloebloblodaag.F

/-- A loop is what it answers, where each round goes on to less. -/
theorem iterK_fix {α R : Type} {b : α → (α → Option R) → Option R} (F : α → Option R) (m : α → Nat) (I : α → Prop)
    (h : ∀ x r, I x → (∀ y, I y → m y < m x → r y = F y) → b x r = F x) : ∀ n x, I x → m x < n → iterK n b x = F x
  | 0, x, _, hm => absurd hm (Nat.not_lt_zero _)
  | n + 1, x, hi, hm => h x _ hi fun y hy hl => iterK_fix F m I h n y hy (by omega)

/-- A loop answers so, where each round goes on to less. -/
theorem iterK_ex {α R : Type} {b : α → (α → Option R) → Option R} (Q : R → Prop) (m : α → Nat) (I : α → Prop)
    (h : ∀ x r, I x → (∀ y, I y → m y < m x → ∃ v, r y = some v ∧ Q v) → ∃ v, b x r = some v ∧ Q v) : ∀ n x, I x → m x < n → ∃ v, iterK n b x = some v ∧ Q v
  | 0, x, _, hm => absurd hm (Nat.not_lt_zero _)
  | n + 1, x, hi, hm => h x _ hi fun y hy hl => iterK_ex Q m I h n y hy (by omega)

/-- Not by unfolding: the kernel would unroll the loop behind it. -/
theorem jn_eq {α R : Type} (j : α → Option R) (m : (α → Option R) → Option R) : jn j m = m j := by
  have h : jn j m = m j := rfl
  exact h ▸ rfl

theorem bind_eq {α β : Type} (a : α) (f : α → Option β) : (some a).bind f = f a := by
  have h : (some a).bind f = f a := rfl
  exact h ▸ rfl

theorem w64 {x : Int} (h : -9223372036854775808 ≤ x ∧ x ≤ 9223372036854775807) : IntKind.i64.wrap x = x := by
  simp [IntKind.wrap, IntKind.signed, IntKind.bits]; omega
theorem wu32 (x : Int) : IntKind.u32.wrap x = x % 4294967296 := by simp [IntKind.wrap, IntKind.signed, IntKind.bits]
theorem wu8 (x : Int) : IntKind.u8.wrap x = x % 256 := by simp [IntKind.wrap, IntKind.signed, IntKind.bits]
theorem wf_u8 {x : Int} (h : (Lit.int .u8 x).wf = true) : 0 ≤ x ∧ x ≤ 255 := by
  simp [Lit.wf, IntKind.min, IntKind.max, IntKind.signed, IntKind.bits] at h; omega
theorem wf_u32 {x : Int} (h : (Lit.int .u32 x).wf = true) : 0 ≤ x ∧ x < 4294967296 := by
  simp [Lit.wf, IntKind.min, IntKind.max, IntKind.signed, IntKind.bits] at h; omega
theorem wf_i64 {x : Int} (h : (Lit.int .i64 x).wf = true) : -9223372036854775808 ≤ x ∧ x ≤ 9223372036854775807 := by
  simp [Lit.wf, IntKind.min, IntKind.max, IntKind.signed, IntKind.bits] at h; omega
theorem tdiv_pos {a b : Int} (h : 0 ≤ a) : Int.tdiv a b = a / b := Int.tdiv_eq_ediv_of_nonneg h
theorem tmod_pos {a b : Int} (h : 0 ≤ a) : Int.tmod a b = a % b := Int.tmod_eq_emod_of_nonneg h
theorem fdiv_pos {a b : Int} (h : 0 ≤ b) : Int.fdiv a b = a / b := by rw [Int.fdiv_eq_ediv_of_nonneg _ h]

theorem ofInt_nat (n : Nat) : BitVec.ofInt 32 (n : Int) = BitVec.ofNat 32 n := by
  apply BitVec.eq_of_toNat_eq
  simp [BitVec.toNat_ofInt, BitVec.toNat_ofNat]
theorem and_mask (k : Nat) (hk : k ≤ 31) {x : Int} (h : 0 ≤ x ∧ x < 4294967296) : ibits .and .u32 x ((2 ^ k - 1 : Nat) : Int) = x % (2 ^ k : Nat) := by
  obtain ⟨n, rfl⟩ := Int.eq_ofNat_of_zero_le h.1
  have hn : n < 4294967296 := by omega
  have hp : 2 ^ k ≤ 2 ^ 31 := Nat.pow_le_pow_right (by omega) hk
  have hp0 : 0 < 2 ^ k := Nat.two_pow_pos k
  have hk2 : 2 ^ k - 1 < 4294967296 := by omega
  show IntKind.u32.wrap ((BitVec.ofInt 32 (n : Int) &&& BitVec.ofInt 32 ((2 ^ k - 1 : Nat) : Int)).toNat : Int) = _
  rw [ofInt_nat, ofInt_nat, BitVec.toNat_and, BitVec.toNat_ofNat, BitVec.toNat_ofNat, Nat.mod_eq_of_lt hn, Nat.mod_eq_of_lt hk2, Nat.and_two_pow_sub_one_eq_mod, wu32]
  have := Nat.mod_lt n hp0
  omega
theorem or_join (k : Nat) (hk : k ≤ 31) {x y : Int} (h : 0 ≤ x ∧ x < 4294967296) (hx : x % (2 ^ k : Nat) = 0) (hy : 0 ≤ y ∧ y < (2 ^ k : Nat)) : ibits .or .u32 x y = x + y := by
  obtain ⟨n, rfl⟩ := Int.eq_ofNat_of_zero_le h.1
  obtain ⟨m, rfl⟩ := Int.eq_ofNat_of_zero_le hy.1
  have hp : 2 ^ k ≤ 2 ^ 31 := Nat.pow_le_pow_right (by omega) hk
  have hn : n < 4294967296 := by omega
  have hm : m < 2 ^ k := by omega
  have hm2 : m < 4294967296 := by omega
  have hd : n % 2 ^ k = 0 := by omega
  obtain ⟨q, rfl⟩ := Nat.dvd_of_mod_eq_zero hd
  show IntKind.u32.wrap ((BitVec.ofInt 32 ((2 ^ k * q : Nat) : Int) ||| BitVec.ofInt 32 (m : Int)).toNat : Int) = _
  rw [ofInt_nat, ofInt_nat, BitVec.toNat_or, BitVec.toNat_ofNat, BitVec.toNat_ofNat, Nat.mod_eq_of_lt hn, Nat.mod_eq_of_lt hm2, ← Nat.two_pow_add_eq_or_of_lt hm, wu32]
  have hq : (2 ^ k * q + m) < 4294967296 := by
    have h32 : 4294967296 = 2 ^ k * 2 ^ (32 - k) := by rw [← Nat.pow_add, show k + (32 - k) = 32 by omega]
    have hq1 : q < 2 ^ (32 - k) := by
      rw [h32] at hn
      exact Nat.lt_of_mul_lt_mul_left hn
    calc 2 ^ k * q + m < 2 ^ k * q + 2 ^ k := by omega
      _ = 2 ^ k * (q + 1) := by rw [Nat.mul_add, Nat.mul_one]
      _ ≤ 2 ^ k * 2 ^ (32 - k) := Nat.mul_le_mul_left _ hq1
      _ = 4294967296 := h32.symm
  omega
theorem or_low {a c : Int} (h0 : 0 ≤ a) (h1 : a < 4294967296) (h2 : a % 256 = 0) (h3 : 0 ≤ c) (h4 : c < 256) : ibits .or .u32 a c = a + c := or_join 8 (by omega) ⟨h0, h1⟩ (by simpa using h2) ⟨h3, by simpa using h4⟩

theorem str_append (a b : List Int) : strOfNums (a ++ b) = strOfNums a ++ strOfNums b := by
  apply ByteArray.ext
  simp [strOfNums]
theorem rdZ_get {α : Type} (z : α) (l : List α) (i : Nat) (h : i < l.length) : rdZ z l i = l[i] := by
  simp [rdZ, List.getD_eq_getElem?_getD, List.getElem?_eq_getElem h]
theorem rdZ_mem {α : Type} (z : α) (l : List α) (i : Nat) (h : i < l.length) : rdZ z l i ∈ l := by
  rw [rdZ_get z l i h]; exact List.getElem_mem h
theorem drop_rdZ {α : Type} (z : α) (l : List α) (i : Nat) (h : i < l.length) : l.drop i = rdZ z l i :: l.drop (i + 1) := by
  rw [rdZ_get z l i h, List.drop_eq_getElem_cons h]
/-- A row of bytes. -/
def By (l : List Int) : Prop := ∀ x ∈ l, 0 ≤ x ∧ x ≤ 255
theorem By.take {l : List Int} (h : By l) (n : Nat) : By (l.take n) := fun x hx => h x (List.mem_of_mem_take hx)
theorem By.drop {l : List Int} (h : By l) (n : Nat) : By (l.drop n) := fun x hx => h x (List.mem_of_mem_drop hx)
theorem By.app {l m : List Int} (h : By l) (h' : By m) : By (l ++ m) := fun x hx => (List.mem_append.1 hx).elim (h x) (h' x)
theorem rd_get (l : List Int) (i : Nat) (h : i < l.length) : rd l i = l[i] := by
  simp [rd, List.getD_eq_getElem?_getD, List.getElem?_eq_getElem h]
theorem rd_mem (l : List Int) (i : Nat) (h : i < l.length) : rd l i ∈ l := by
  rw [rd_get l i h]; exact List.getElem_mem h
theorem drop_rd (l : List Int) (i : Nat) (h : i < l.length) : l.drop i = rd l i :: l.drop (i + 1) := by
  rw [rd_get l i h, List.drop_eq_getElem_cons h]
theorem By.at {l : List Int} (h : By l) (i : Nat) (hi : i < l.length) : 0 ≤ rd l i ∧ rd l i ≤ 255 := h _ (rd_mem l i hi)

/-- Bytes as a number. -/
def nacc (n : Int) (l : List Int) : Int := l.foldl (fun n c => (n * 256) % 4294967296 + c) n
def num (l : List Int) : Int := nacc 0 l
theorem nacc_cons (n c : Int) (l : List Int) : nacc n (c :: l) = nacc ((n * 256) % 4294967296 + c) l := rfl
theorem num_range (l : List Int) (hl : By l) : 0 ≤ num l ∧ num l < 4294967296 := by
  have key : ∀ (l : List Int) (n : Int), By l → 0 ≤ n ∧ n < 4294967296 → 0 ≤ nacc n l ∧ nacc n l < 4294967296 := by
    intro l
    induction l with
    | nil => intro n _ h; exact h
    | cons c l ih =>
      intro n hb h
      rw [nacc_cons]
      have := hb c (.head _)
      exact ih _ (fun x hx => hb x (.tail _ hx)) (by omega)
  exact key l 0 hl (by omega)
/-- A number as so many bytes. -/
def be (n : Int) : Nat → List Int
  | 0 => []
  | m + 1 => (n / 256 ^ m) % 256 :: be n m
theorem be_length (n : Int) (m : Nat) : (be n m).length = m := by
  induction m with
  | zero => rfl
  | succ m ih => simp [be, ih]
theorem be_by (n : Int) (m : Nat) : By (be n m) := by
  induction m with
  | zero => intro x hx; cases hx
  | succ m ih =>
    intro x hx
    rcases List.mem_cons.1 hx with rfl | hx
    · omega
    · exact ih x hx
end Go.Proofs.Ytocloebloblodaag.F
