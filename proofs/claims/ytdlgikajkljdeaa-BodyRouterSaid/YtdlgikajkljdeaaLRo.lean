/- Routers' bodies there and back: the law. -/
import Derived.Test.YtdlgikajkljdeaaLRt
import Derived.Test.YtdlgikajkljdeaaFrc
set_option maxRecDepth 100000
set_option linter.unusedVariables false
set_option linter.unusedSimpArgs false
open Go Go.Proofs.Fr
namespace Go.Proofs.Ytdlgikajkljdeaa.F
theorem aliveO : law12_alive.p () = some (true, ()) := by decide +kernel
def U32 (x : Int) : Prop := 0 ≤ x ∧ x < 4294967296
/-- A link as three numbers. -/
def w3 (x : Lk) : List Int := [x.2.1, x.2.2.1, x.1 * 16777216 + x.2.2.2.1]
def flat (ls : List Lk) : List Int := ls.flatMap w3
def b4 (ws : List Int) : List Int := ws.flatMap fun n => be n 4
theorem b4_nil : b4 [] = [] := rfl
theorem b4_cons (a : Int) (l : List Int) : b4 (a :: l) = be a 4 ++ b4 l := by simp [b4]
theorem b4_app (a l : List Int) : b4 (a ++ l) = b4 a ++ b4 l := by simp [b4]
theorem b4_length (l : List Int) : (b4 l).length = 4 * l.length := by
  induction l with
  | nil => rfl
  | cons a l ih => rw [b4_cons, List.length_append, ih, be_length, List.length_cons]; omega
theorem b4_by (l : List Int) : By (b4 l) := by
  intro x hx
  simp only [b4, List.mem_flatMap] at hx
  obtain ⟨n, _, hn⟩ := hx
  exact be_by n 4 x hn
theorem flat_cons (x : Lk) (ls : List Lk) : flat (x :: ls) = x.2.1 :: x.2.2.1 :: (x.1 * 16777216 + x.2.2.2.1) :: flat ls := by simp [flat, w3]
theorem flat_length (ls : List Lk) : (flat ls).length = 3 * ls.length := by
  induction ls with
  | nil => rfl
  | cons a l ih => rw [flat_cons, List.length_cons, List.length_cons, List.length_cons, ih, List.length_cons]; omega
def encW (fl : Int) (ls : List Lk) : List Int := (fl * 16777216 + ls.length) :: flat ls
def enc (fl : Int) (ls : List Lk) : List Int × Int × Unit := if mayR fl ls = true then (b4 (encW fl ls), 0, ()) else ([], 1, ())
theorem rowB4 (ws : List Int) : rowB ws 4 = (b4 ws, 0, ()) := by
  unfold rowB
  rw [if_neg (by omega), if_pos]
  · rfl
  · rw [List.all_eq_true]
    intro x _
    simp [fits]
theorem may_all {fl : Int} {ls : List Lk} (h : mayR fl ls = true) : (0 ≤ fl ∧ fl ≤ 31 ∧ ls.length ≤ 100) ∧ ∀ x ∈ ls, 1 ≤ x.1 ∧ x.1 ≤ 4 ∧ 0 ≤ x.2.2.2.1 ∧ x.2.2.2.1 ≤ 65535 := by
  unfold mayR at h
  simp only [Bool.and_eq_true, decide_eq_true_eq, List.all_eq_true] at h
  refine ⟨by omega, fun x hx => ?_⟩
  have := h.2 x hx
  simpa [good] using this
theorem rdL_mem (l : List Lk) (i : Nat) (h : i < l.length) : rdL l i ∈ l := rdZ_mem _ l i h
def LkOk (ls : List Lk) : Prop := ∀ x ∈ ls, U32 x.2.1 ∧ U32 x.2.2.1
theorem body_enc (fl : Int) (ls : List Lk) (hs : ls.length < 1000000) (hu : LkOk ls) : body_Router.p ((fl, ls, ()), ()) = some (enc fl ls) := by
  unfold body_Router.p enc
  simp only [mayR_eq fl ls hs, Option.bind_some, jn_eq]
  cases hm : mayR fl ls with
  | false => simp
  | true =>
    obtain ⟨⟨f0, f1, f2⟩, hg⟩ := may_all hm
    rw [if_neg (by simp), if_pos rfl]
    have e0 : ibits .or .u32 (IntKind.u32.wrap (IntKind.u32.wrap fl * 2 ^ 24)) (IntKind.u32.wrap (ls.length : Int)) = fl * 16777216 + ls.length := by
      rw [wu32 fl, wu32 (ls.length : Int), wu32, show fl % 4294967296 * 2 ^ 24 % 4294967296 = fl * 16777216 by omega, show (ls.length : Int) % 4294967296 = ls.length by omega]
      exact or_join 24 (by omega) (by omega) (by simp) (by simp; omega)
    rw [e0]
    refine (iterK_fix (F := fun x : List Int × Int × Unit => some (b4 (x.1 ++ flat (ls.drop x.2.1.toNat)), 0, ())) (m := fun x => ls.length - x.2.1.toNat) (I := fun x => (0 ≤ x.2.1 ∧ x.2.1 ≤ (ls.length : Int)) ∧ x.1.length ≤ 1 + 3 * x.2.1.toNat ∧ ∀ y ∈ x.1, U32 y) ?_ _ _ ⟨⟨by simp, by first | omega | (dsimp only; omega) | (simp only [List.length_cons, List.length_nil, List.length_append, List.length_drop, List.length_take, maxBytes]; omega) | (simp; omega)⟩, by simp, fun y hy => by simp at hy; subst hy; unfold U32; omega⟩ (by first | omega | (dsimp only; omega) | (simp only [List.length_cons, List.length_nil, List.length_append, List.length_drop, List.length_take, maxBytes]; omega) | (simp; omega))).trans (by simp [encW])
    rintro ⟨acc, i, _⟩ r ⟨⟨i0, i1⟩, i2, i3⟩ hr
    obtain ⟨j, rfl⟩ := Int.eq_ofNat_of_zero_le i0
    simp only [Int.toNat_natCast] at *
    by_cases hj : j < ls.length
    · have hx := hg _ (rdL_mem ls j hj)
      have hux := hu _ (rdL_mem ls j hj)
      have ex : ibits .or .u32 (IntKind.u32.wrap (IntKind.u32.wrap (rdL ls j).1 * 2 ^ 24)) (IntKind.u32.wrap (rdL ls j).2.2.2.1) = (rdL ls j).1 * 16777216 + (rdL ls j).2.2.2.1 := by
        rw [wu32 (rdL ls j).1, wu32 (rdL ls j).2.2.2.1, wu32, show (rdL ls j).1 % 4294967296 * 2 ^ 24 % 4294967296 = (rdL ls j).1 * 16777216 by omega, show (rdL ls j).2.2.2.1 % 4294967296 = (rdL ls j).2.2.2.1 by omega]
        exact or_join 24 (by omega) (by omega) (by simp) (by simp; omega)
      rw [if_pos (by simpa using hj), if_pos (by omega), if_pos (by first | omega | (dsimp only; omega) | (simp only [List.length_cons, List.length_nil, List.length_append, List.length_drop, List.length_take, maxBytes]; omega) | (simp; omega)), ex, w64 (by omega), hr _ ⟨⟨by first | omega | (dsimp only; omega) | (simp only [List.length_cons, List.length_nil, List.length_append, List.length_drop, List.length_take, maxBytes]; omega) | (simp; omega), by first | omega | (dsimp only; omega) | (simp only [List.length_cons, List.length_nil, List.length_append, List.length_drop, List.length_take, maxBytes]; omega) | (simp; omega)⟩, by first | omega | (dsimp only; omega) | (simp only [List.length_cons, List.length_nil, List.length_append, List.length_drop, List.length_take, maxBytes]; omega) | (simp; omega), ?_⟩ (by first | omega | (dsimp only; omega) | (simp only [List.length_cons, List.length_nil, List.length_append, List.length_drop, List.length_take, maxBytes]; omega) | (simp; omega))]
      · simp only [show ((j : Int) + 1).toNat = j + 1 by omega]
        rw [drop_rdL ls j hj, flat_cons]
        simp only [List.append_assoc, List.cons_append, List.nil_append]
      · intro y hy
        rcases List.mem_append.1 hy with hy | hy
        · exact i3 y hy
        · simp only [List.mem_cons, List.not_mem_nil, or_false] at hy
          rcases hy with rfl | rfl | rfl
          · exact hux.1
          · exact hux.2
          · unfold U32; omega
    · rw [if_neg (by simpa using hj), List.drop_eq_nil_of_le (by omega), row_eq acc 4 i3 (by omega), rowB4]
      simp [flat]
theorem four_eq (n : Int) (h : U32 n) : ref01_Four.p (n, ()) = some (be n 4, ()) := by
  unfold ref01_Four.p
  congr 2
  unfold U32 at h
  simp only [be, wu8, fdiv_pos (b := 2 ^ 24) (by decide), fdiv_pos (b := 2 ^ 16) (by decide), fdiv_pos (b := 2 ^ 8) (by decide)]
  simp
theorem be_head (fl : Int) (n : Int) (h : 0 ≤ fl ∧ fl ≤ 255) (h' : 0 ≤ n ∧ n ≤ 65535) : be (fl * 16777216 + n) 4 = [fl, 0, n / 256, n % 256] := by
  simp only [be]
  congr 1
  · omega
  · congr 1
    · omega
    · congr 1
      · omega
      · congr 1
        omega
theorem ref_enc (fl : Int) (ls : List Lk) (hs : ls.length < 1000000) (hu : LkOk ls) : ref12_Router.p ((fl, ls, ()), ()) = some (enc fl ls) := by
  unfold ref12_Router.p enc
  simp only [rmayR_eq fl ls hs, Option.bind_some, jn_eq]
  cases hm : mayR fl ls with
  | false => simp
  | true =>
    obtain ⟨⟨f0, f1, f2⟩, hg⟩ := may_all hm
    rw [if_neg (by simp), if_pos rfl]
    refine (iterK_fix (F := fun x : List Int × Int × Unit => some (x.1 ++ b4 (flat (ls.drop x.2.1.toNat)), 0, ())) (m := fun x => ls.length - x.2.1.toNat) (I := fun x => (0 ≤ x.2.1 ∧ x.2.1 ≤ (ls.length : Int)) ∧ x.1.length ≤ 4 + 12 * x.2.1.toNat) ?_ _ _ ⟨⟨by simp, by first | omega | (dsimp only; omega) | (simp only [List.length_cons, List.length_nil, List.length_append, List.length_drop, List.length_take, maxBytes]; omega) | (simp; omega)⟩, by simp⟩ (by first | omega | (dsimp only; omega) | (simp only [List.length_cons, List.length_nil, List.length_append, List.length_drop, List.length_take, maxBytes]; omega) | (simp; omega))).trans ?_
    · rintro ⟨acc, i, _⟩ r ⟨⟨i0, i1⟩, i2⟩ hr
      obtain ⟨j, rfl⟩ := Int.eq_ofNat_of_zero_le i0
      simp only [Int.toNat_natCast] at *
      by_cases hj : j < ls.length
      · have hx := hg _ (rdL_mem ls j hj)
        have hux := hu _ (rdL_mem ls j hj)
        have hl : ∀ n : Int, (be n 4).length = 4 := fun n => be_length n 4
        rw [if_pos (by simpa using hj), if_pos (by omega), four_eq _ hux.1]
        simp only [Option.bind_some]
        rw [if_pos (by simp only [hl, maxBytes]; omega), four_eq _ hux.2]
        simp only [Option.bind_some]
        rw [if_pos (by simp only [hl, List.length_append, maxBytes]; omega), if_pos (by simp only [hl, List.length_append, List.length_cons, List.length_nil, maxBytes]; omega)]
        have ex : [IntKind.u8.wrap (rdL ls j).1, 0, IntKind.u8.wrap (IntKind.i64.wrap (Int.tdiv (rdL ls j).2.2.2.1 256)), IntKind.u8.wrap (Int.tmod (rdL ls j).2.2.2.1 256)] = be ((rdL ls j).1 * 16777216 + (rdL ls j).2.2.2.1) 4 := by
          rw [be_head _ _ (by omega) (by omega), tdiv_pos (by omega), tmod_pos (by omega), w64 (by omega), wu8, wu8, wu8]
          congr 1
          · omega
          · congr 2
            · omega
            · congr 1; omega
        rw [ex, w64 (by omega), hr _ ⟨⟨by first | omega | (dsimp only; omega) | (simp only [List.length_cons, List.length_nil, List.length_append, List.length_drop, List.length_take, maxBytes]; omega) | (simp; omega), by first | omega | (dsimp only; omega) | (simp only [List.length_cons, List.length_nil, List.length_append, List.length_drop, List.length_take, maxBytes]; omega) | (simp; omega)⟩, by simp only [hl, List.length_append]; omega⟩ (by first | omega | (dsimp only; omega) | (simp only [List.length_cons, List.length_nil, List.length_append, List.length_drop, List.length_take, maxBytes]; omega) | (simp; omega))]
        simp only [show ((j : Int) + 1).toNat = j + 1 by omega]
        rw [drop_rdL ls j hj, flat_cons, b4_cons, b4_cons, b4_cons]
        simp only [List.append_assoc]
      · rw [if_neg (by simpa using hj), List.drop_eq_nil_of_le (by omega)]
        simp [flat, b4]
    · have e : [IntKind.u8.wrap fl, 0, 0, IntKind.u8.wrap (ls.length : Int)] = be (fl * 16777216 + ls.length) 4 := by
        rw [be_head _ _ (by omega) (by omega), wu8, wu8, show (ls.length : Int) / 256 = 0 by omega, show fl % 256 = fl by omega]
      show some ([IntKind.u8.wrap fl, 0, 0, IntKind.u8.wrap (ls.length : Int)] ++ b4 (flat ls), (0 : Int), ()) = _
      rw [e]
      unfold encW
      rw [b4_cons]
theorem num_be (n : Int) (h : U32 n) : num (be n 4) = n := by
  unfold U32 at h
  simp only [be]
  rw [num4 _ _ _ _ (by omega) (by omega) (by omega) (by omega)]
  simp only [show (256 : Int) ^ 3 = 16777216 by decide, show (256 : Int) ^ 2 = 65536 by decide, show (256 : Int) ^ 1 = 256 by decide, show (256 : Int) ^ 0 = 1 by decide]
  omega
theorem chunks_b4 (ws : List Int) (h : ∀ x ∈ ws, U32 x) : chunks 4 ws.length (b4 ws) = ws := by
  induction ws with
  | nil => rfl
  | cons a l ih =>
    show num ((b4 (a :: l)).take 4) :: chunks 4 l.length ((b4 (a :: l)).drop 4) = _
    rw [b4_cons, List.take_left' (be_length a 4), List.drop_left' (be_length a 4), num_be a (h a (.head _)), ih fun x hx => h x (.tail _ hx)]
theorem be_num (a b c d : Int) (ha : 0 ≤ a ∧ a ≤ 255) (hb : 0 ≤ b ∧ b ≤ 255) (hc : 0 ≤ c ∧ c ≤ 255) (hd : 0 ≤ d ∧ d ≤ 255) : be (num [a, b, c, d]) 4 = [a, b, c, d] := by
  rw [num4 a b c d ha hb hc hd]
  simp only [be, show (256 : Int) ^ 3 = 16777216 by decide, show (256 : Int) ^ 2 = 65536 by decide, show (256 : Int) ^ 1 = 256 by decide, show (256 : Int) ^ 0 = 1 by decide]
  congr 1
  · omega
  · congr 1
    · omega
    · congr 1
      · omega
      · congr 1
        omega
theorem b4_chunks : ∀ (q : Nat) (l : List Int), By l → l.length = 4 * q → b4 (chunks 4 q l) = l := by
  intro q
  induction q with
  | zero => intro l _ hl; have hn : l = [] := List.eq_nil_of_length_eq_zero (by omega); subst hn; rfl
  | succ q ih =>
    intro l hb hl
    rcases l with _ | ⟨a, _ | ⟨b, _ | ⟨c, _ | ⟨d, t⟩⟩⟩⟩
    · simp at hl
    · simp at hl; omega
    · simp at hl; omega
    · simp at hl; omega
    · show b4 (num [a, b, c, d] :: chunks 4 q t) = _
      rw [b4_cons, ih t (fun x hx => hb x (by simp [hx])) (by simp at hl; omega), be_num a b c d (hb a (by simp)) (hb b (by simp)) (hb c (by simp)) (hb d (by simp))]
      rfl
theorem links_flat (ls : List Lk) (h : ∀ x ∈ ls, 1 ≤ x.1 ∧ x.1 ≤ 4 ∧ 0 ≤ x.2.2.2.1 ∧ x.2.2.2.1 ≤ 65535) : links (flat ls) = ls ∧ zer (flat ls) = true := by
  induction ls with
  | nil => exact ⟨rfl, rfl⟩
  | cons x l ih =>
    obtain ⟨i1, i2⟩ := ih fun y hy => h y (.tail _ hy)
    have hx := h x (.head _)
    obtain ⟨k, a, b, m, _⟩ := x
    simp only at hx
    rw [flat_cons]
    simp only [links, zer, i1, i2, Bool.and_true]
    refine ⟨?_, by simp only [decide_eq_true_eq]; omega⟩
    unfold lk
    rw [show (k * 16777216 + m) / 16777216 = k by omega, show (k * 16777216 + m) % 65536 = m by omega]
theorem flat_links : ∀ (q : Nat) (g : List Int), g.length = 3 * q → zer g = true → (∀ x ∈ g, U32 x) → flat (links g) = g ∧ LkOk (links g) := by
  intro q
  induction q with
  | zero => intro g hg _ _; have hn : g = [] := List.eq_nil_of_length_eq_zero (by omega); subst hn; exact ⟨rfl, fun x hx => by cases hx⟩
  | succ q ih =>
    intro g hg hz hu
    rcases g with _ | ⟨a, _ | ⟨b, _ | ⟨t, r⟩⟩⟩
    · simp at hg
    · simp at hg; omega
    · simp at hg; omega
    · simp only [zer, Bool.and_eq_true, decide_eq_true_eq] at hz
      obtain ⟨i1, i2⟩ := ih r (by simp at hg; omega) hz.2 fun x hx => hu x (by simp [hx])
      have ht := hu t (by simp)
      unfold U32 at ht
      refine ⟨?_, ?_⟩
      · simp only [links]
        rw [flat_cons, i1]
        simp only [lk]
        congr 3
        omega
      · intro x hx
        simp only [links] at hx
        rcases List.mem_cons.1 hx with rfl | hx
        · exact ⟨hu a (by simp), hu b (by simp)⟩
        · exact i2 x hx
theorem there (fl : Int) (ls : List Lk) (hu : LkOk ls) (hm : mayR fl ls = true) : readR (b4 (encW fl ls)) = ((fl, ls, ()), 0, ()) := by
  obtain ⟨⟨f0, f1, f2⟩, hg⟩ := may_all hm
  have hlen : (b4 (encW fl ls)).length = 4 + 12 * ls.length := by
    rw [b4_length]; unfold encW; rw [List.length_cons, flat_length]; omega
  have hh : b4 (encW fl ls) = [fl, 0, (ls.length : Int) / 256, (ls.length : Int) % 256] ++ b4 (flat ls) := by
    unfold encW
    rw [b4_cons, be_head _ _ (by omega) (by omega)]
  have r0 : rd (b4 (encW fl ls)) 0 = fl := by rw [hh]; rfl
  have r1 : rd (b4 (encW fl ls)) 1 = 0 := by rw [hh]; rfl
  have r2 : rd (b4 (encW fl ls)) 2 = (ls.length : Int) / 256 := by rw [hh]; rfl
  have r3 : rd (b4 (encW fl ls)) 3 = (ls.length : Int) % 256 := by rw [hh]; rfl
  have hd : (b4 (encW fl ls)).drop 4 = b4 (flat ls) := by rw [hh]; rfl
  have hfu : ∀ x ∈ flat ls, U32 x := by
    intro x hx
    simp only [flat, List.mem_flatMap] at hx
    obtain ⟨y, hy, hxy⟩ := hx
    have h1 := hu y hy
    have h2 := hg y hy
    simp only [w3, List.mem_cons, List.not_mem_nil, or_false] at hxy
    unfold U32 at *
    rcases hxy with rfl | rfl | rfl <;> omega
  unfold readR
  rw [r0, r1, r2, r3, hlen, hd, if_neg (by omega), if_pos (by omega), show (4 + 12 * ls.length - 4) / 4 = (flat ls).length by rw [flat_length]; omega, chunks_b4 _ hfu]
  obtain ⟨l1, l2⟩ := links_flat ls hg
  unfold fin
  rw [l1, l2, List.nil_append, hm]
  rfl
theorem back (b : List Int) (hb : By b) (hl : b.length ≤ 1400) (h : (readR b).2.1 = 0) : LkOk (readR b).1.2.1 ∧ enc (readR b).1.1 (readR b).1.2.1 = (b, 0, ()) := by
  unfold readR at h ⊢
  split at h
  · cases h
  · rename_i h1
    rw [if_neg h1]
    split at h
    · rename_i h2
      rw [if_pos h2]
      unfold fin at h ⊢
      split at h
      · rename_i h3
        rw [if_pos h3]
        simp only [List.nil_append, Bool.and_eq_true] at h3 ⊢
        obtain ⟨hz, hm⟩ := h3
        have q : b.length = 4 + 4 * (3 * ((b.length - 4) / 12)) := by omega
        have hk : (b.length - 4) / 4 = 3 * ((b.length - 4) / 12) := by omega
        rw [hk] at hz hm ⊢
        have hcl := chunks_length 4 (3 * ((b.length - 4) / 12)) (b.drop 4)
        have hcm := chunks_mem 4 (3 * ((b.length - 4) / 12)) (b.drop 4) (hb.drop 4)
        obtain ⟨e1, e2⟩ := flat_links _ _ hcl hz hcm
        have hll := links_length _ _ hcl
        refine ⟨e2, ?_⟩
        unfold enc
        rw [if_pos hm]
        unfold encW
        obtain ⟨⟨f0, f1, f2⟩, _⟩ := may_all hm
        rw [b4_cons, e1, b4_chunks _ _ (hb.drop 4) (by simp; omega), hll]
        have b0 := hb.at 0 (by omega)
        have b2 := hb.at 2 (by omega)
        have b3 := hb.at 3 (by omega)
        rw [be_head _ _ (by omega) (by omega)]
        have hT : b = [rd b 0, rd b 1, rd b 2, rd b 3] ++ b.drop 4 := by
          have : 4 ≤ b.length := by omega
          rcases b with _ | ⟨a, _ | ⟨b', _ | ⟨c, _ | ⟨d, t⟩⟩⟩⟩ <;> simp at this
          rfl
        have ex : [rd b 0, 0, (((b.length - 4) / 12 : Nat) : Int) / 256, (((b.length - 4) / 12 : Nat) : Int) % 256] = [rd b 0, rd b 1, rd b 2, rd b 3] := by
          have hq : (((b.length - 4) / 12 : Nat) : Int) = 256 * rd b 2 + rd b 3 := by omega
          rw [hq, h2.2, show (256 * rd b 2 + rd b 3) / 256 = rd b 2 by omega, show (256 * rd b 2 + rd b 3) % 256 = rd b 3 by omega]
        rw [ex, ← hT]
      · cases h
    · cases h
theorem same_eq (r : Int × List Lk × Unit) (hs : r.2.1.length < 1000000) : ref12_SameRouter.p (r, r, ()) = some (true, ()) := by
  obtain ⟨fl, ls, _⟩ := r
  have hs' : ls.length < 1000000 := hs
  unfold ref12_SameRouter.p
  simp only [jn_eq, decide_true, Bool.not_true, Bool.false_eq_true, if_false, Bool.and_self]
  refine iterK_fix (F := fun _ => some (true, ())) (m := fun x : Int × Unit => ls.length - x.1.toNat) (I := fun x => 0 ≤ x.1 ∧ x.1 ≤ (ls.length : Int)) ?_ _ _ ⟨by simp, by first | omega | (dsimp only; omega) | (simp only [List.length_cons, List.length_nil, List.length_append, List.length_drop, List.length_take, maxBytes]; omega) | (simp; omega)⟩ (by first | omega | (dsimp only; omega) | (simp only [List.length_cons, List.length_nil, List.length_append, List.length_drop, List.length_take, maxBytes]; omega) | (simp; omega))
  rintro ⟨i, _⟩ r ⟨i0, i1⟩ hr
  obtain ⟨j, rfl⟩ := Int.eq_ofNat_of_zero_le i0
  simp only [Int.toNat_natCast] at *
  by_cases hj : j < ls.length
  · rw [if_pos (by simpa using hj), if_pos (by omega), if_pos (by omega), w64 (by omega), hr _ ⟨by first | omega | (dsimp only; omega) | (simp only [List.length_cons, List.length_nil, List.length_append, List.length_drop, List.length_take, maxBytes]; omega) | (simp; omega), by first | omega | (dsimp only; omega) | (simp only [List.length_cons, List.length_nil, List.length_append, List.length_drop, List.length_take, maxBytes]; omega) | (simp; omega)⟩ (by first | omega | (dsimp only; omega) | (simp only [List.length_cons, List.length_nil, List.length_append, List.length_drop, List.length_take, maxBytes]; omega) | (simp; omega))]
  · rw [if_neg (by simpa using hj)]
theorem router_eq (r : Int × List Lk × Unit) : law12_router.p (r, ()) = some (r, ()) := rfl
theorem readR_len (b : List Int) (hl : b.length ≤ 1400) : (readR b).1.2.1.length ≤ 1000 := by
  unfold readR
  split
  · simp [no]
  · split
    · unfold fin
      split
      · rename_i h2 h3
        have hk : (b.length - 4) / 4 = 3 * ((b.length - 4) / 12) := by omega
        simp only [List.nil_append]
        rw [hk, links_length _ _ (chunks_length 4 _ _)]
        omega
      · simp [no]
    · simp [no]
theorem bodyRouter (fl : Int) (ls : List Lk) (hu : LkOk ls) (b : List Int) (hb : By b) : law12_BodyRouter.p ((fl, ls, ()), b, ()) = some (true, ()) := by
  unfold law12_BodyRouter.p
  simp only [aliveO, jn_eq, Option.bind_some, if_true]
  by_cases h1 : (ls.length : Int) > 110
  · rw [if_pos (by simpa using h1)]
  · rw [if_neg (by simpa using h1)]
    by_cases h2 : (b.length : Int) > 1400
    · rw [if_pos (by simpa using h2)]
    · rw [if_neg (by simpa using h2)]
      have hbl : b.length ≤ 1400 := by omega
      have hen : (enc fl ls).1.length ≤ 1400 ∧ By (enc fl ls).1 := by
        unfold enc
        split
        · rename_i hm
          obtain ⟨⟨f0, f1, f2⟩, hg⟩ := may_all hm
          refine ⟨?_, b4_by _⟩
          simp only [b4_length, encW, List.length_cons, flat_length]; omega
        · exact ⟨by simp, fun x hx => by cases hx⟩
      have hrl := readR_len b hbl
      have hrl2 := readR_len _ hen.1
      have hsm : ∀ x : Int × List Lk × Unit, x.2.1.length < 1000000 → ref12_SameRouter.p ((x.1, x.2.1, ()), (x.1, x.2.1, ()), ()) = some (true, ()) := fun x hx => same_eq (x.1, x.2.1, ()) hx
      have hy10 : ∃ e : List Int × Int × Unit, body_Router.p (((readR b).1.1, (readR b).1.2.1, ()), ()) = some e ∧ ((readR b).2.1 = 0 → e = (b, 0, ())) := by
        by_cases h0 : (readR b).2.1 = 0
        · obtain ⟨k1, k2⟩ := back b hb hbl h0
          exact ⟨_, body_enc _ _ (by omega) k1, fun _ => k2⟩
        · have hz : (readR b).1 = (0, [], ()) := by
            unfold readR at h0 ⊢
            split
            · rfl
            · split
              · rename_i q1 q2
                rw [if_neg q1, if_pos q2] at h0
                unfold fin at h0 ⊢
                split
                · rename_i q3
                  rw [if_pos q3] at h0
                  exact absurd rfl h0
                · rfl
              · rfl
          rw [hz]
          exact ⟨_, body_enc 0 [] (by simp) (fun x hx => by cases hx), fun h => absurd h h0⟩
      obtain ⟨e10, h10, h10'⟩ := hy10
      simp only [body_enc fl ls (by omega) hu, ref_enc fl ls (by omega) hu, router_eq, readR_eq b hb hbl, rreadR_eq b hb hbl, readR_eq _ hen.2 hen.1, h10, Option.bind_some, hsm (readR b).1 (by omega), if_true, decide_true]
      by_cases hm : mayR fl ls = true
      · have he : enc fl ls = (b4 (encW fl ls), 0, ()) := by unfold enc; rw [if_pos hm]
        have hs2 : ref12_SameRouter.p ((fl, ls, ()), (fl, ls, ()), ()) = some (true, ()) := same_eq (fl, ls, ()) (by simp only; omega)
        by_cases h0 : (readR b).2.1 = 0
        · rw [h10' h0]; simp [he, there fl ls hu hm, hs2, h0]
        · simp [he, there fl ls hu hm, hs2, h0]
      · have he : enc fl ls = ([], 1, ()) := by unfold enc; rw [if_neg hm]
        by_cases h0 : (readR b).2.1 = 0
        · rw [h10' h0]; simp [he, h0]
        · simp [he, h0]
theorem bodyRouterW {P : Program} {x : dens (List.map K.v [(.cons (.int .i64) (.cons (.sl 82 (.cons (.int .i64) (.cons (.int .u32) (.cons (.int .u32) (.cons (.int .i64) .nil))))) .nil)), (.sl 5 (.int .u8))])} (h : WfA P [(.cons (.int .i64) (.cons (.sl 82 (.cons (.int .i64) (.cons (.int .u32) (.cons (.int .u32) (.cons (.int .i64) .nil))))) .nil)), (.sl 5 (.int .u8))] x) : ∃ y, law12_BodyRouter.p x = some y ∧ y.1 = true :=
  ⟨_, bodyRouter x.1.1 x.1.2.1 (fun y hy => ⟨wf_u32 (h.1.2.1.2 y hy).2.1, wf_u32 (h.1.2.1.2 y hy).2.2.1⟩) x.2.1 (fun y hy => wf_u8 (h.2.1.2 y hy)), rfl⟩
end Go.Proofs.Ytdlgikajkljdeaa.F
