/- The Fletcher pair of a row (sum.cut, sum.pair, sum.Pair, sum.Fits), walked by hand: complex numbers that stay whole and below 2^53. Written for the frame; by this project. -/
import Derived.Test.YtocloebloblodaaProg
import Derived.Test.YtocloebloblodaaFrd
import Derived.Test.YtocloebloblodaaFrFl
import Derived.Tactics
import Derived.Tactics2
import Derived.LoopTactic
import Derived.WalkKit
import Derived.KernelRfl
import Derived.Laws.Slices
import Derived.Laws.Rows
import Derived.WalkSpells
import Derived.RowKit
import Derived.Below
namespace Go.Proofs.Ytocloebloblodaa.F
open Go Go.RowKit Go.Proofs.Fr Go.Proofs.Fr.Fl
set_option linter.unusedVariables false
set_option linter.unusedSimpArgs false
structure Aside0 (p : Prop) : Prop where mk :: (out : p)
def rdS (xs : List Int) (i : Int) : Int := xs.getD i.toNat 0
/-- A row of bytes that lies in the world. -/
def rowAt (w : World) (A0 : Option Addr) (l0 : List Int) : Prop := l0.length ≤ 4611686018427387904 ∧ ∀ i : Nat, i < l0.length → ∃ ad, A0 = some ad ∧ w.cell? (ad.add i) = some (.int .u8 (rdS l0 (i : Int)))
/-- Both sums, each modulo 255. -/
def sum_pr (l : List Int) : Nat × Nat := l.foldl (fun p c => ((p.1 + c.toNat) % 255, (p.2 + p.1 + c.toNat) % 255)) (0, 0)
def sum_bytes (l : List Int) : Bool := l.all fun x => decide (0 ≤ x ∧ x ≤ 255)
theorem sum_pr_snoc (l : List Int) (c : Int) : sum_pr (l ++ [c]) = (((sum_pr l).1 + c.toNat) % 255, ((sum_pr l).2 + (sum_pr l).1 + c.toNat) % 255) := by simp [sum_pr]

set_option maxHeartbeats 1000000 in
theorem sum_cut.calls (a b : Nat) (w : World) (ha : a < 9007199254740992) (hb : b < 9007199254740992) :
    Calls Go.Proofs.Try.prog 77 #[.complex .f64 (fl a) (fl b)] w fun e w' => e = .returned (.complex .f64 (fl (a % 255)) (fl (b % 255))) ∧ w' = w := by
  have c1 : ∀ w, (convert 138 2 (.float .f64 (fl a))).run Go.Proofs.Try.prog w = .ok (.int .i64 (a : Int)) w := fun w => run_convert_float_int w 138 2 .f64 .i64 _ _ (by rw [Go.Proofs.Try.underlying138]; rfl) Go.Proofs.Try.underlying2 (toInt_fl a ha)
  have c2 : ∀ w, (convert 138 2 (.float .f64 (fl b))).run Go.Proofs.Try.prog w = .ok (.int .i64 (b : Int)) w := fun w => run_convert_float_int w 138 2 .f64 .i64 _ _ (by rw [Go.Proofs.Try.underlying138]; rfl) Go.Proofs.Try.underlying2 (toInt_fl b hb)
  have c3 : ∀ w (n : Nat), (convert 2 138 (.int .i64 (n : Int))).run Go.Proofs.Try.prog w = .ok (.float .f64 (fl n)) w := fun w n => by
    rw [← of_int]; exact run_convert_int_float w 2 138 .i64 .f64 _ (by rw [Go.Proofs.Try.underlying2]; rfl) Go.Proofs.Try.underlying138
  obtain ⟨a', ea⟩ : ∃ a' : Nat, a % 255 = a' := ⟨_, rfl⟩
  obtain ⟨b', eb⟩ : ∃ b' : Nat, b % 255 = b' := ⟨_, rfl⟩
  have m1 : (a : Int) % 255 = (a' : Int) := by omega
  have m2 : (b : Int) % 255 = (b' : Int) := by omega
  rw [ea, eb]
  clear ea eb
  clear ha hb
  go_enter Go.Proofs.Try.func77, Go.Proofs.Try.ntmps77
  go_wp2
  go_ret
  exact ⟨rfl, rfl⟩

theorem sum_pr_step (l : List Int) (k : Nat) (hk : k < l.length) (c d x : Nat) (hx : rdS l (k : Int) = (x : Int)) (h1 : c % 255 = (sum_pr (l.take k)).1) (h2 : d % 255 = (sum_pr (l.take k)).2) :
    (c + x) % 255 = (sum_pr (l.take (k + 1))).1 ∧ (d + (c + x)) % 255 = (sum_pr (l.take (k + 1))).2 := by
  have : l.take (k + 1) = l.take k ++ [rdS l (k : Int)] := by
    rw [List.take_succ_eq_append_getElem hk]
    simp [rdS, List.getD_eq_getElem?_getD, List.getElem?_eq_getElem hk]
  rw [this, sum_pr_snoc, hx, ← h1, ← h2]
  simp only [Int.toNat_natCast]
  omega
set_option maxHeartbeats 1000000 in
theorem sum_pair.calls (A0 : Option Addr) (c0 : Nat) (l0 : List Int) (w : World) (hr0 : rowAt w A0 l0) (hb : sum_bytes l0 = true) :
    Calls Go.Proofs.Try.prog 70 #[.slice A0 l0.length c0] w fun e w' => e = .returned (.complex .f64 (fl (sum_pr l0).1) (fl (sum_pr l0).2)) ∧ w' = w := by
  have HR0 := Aside0.mk hr0
  have HBY := Aside0.mk hb
  have hlen := hr0.1
  clear hr0 hb
  have f0 : fl 0 = 0 := fl_zero
  have c1 : ∀ w (x : Nat), (convert 5 138 (.int .u8 (x : Int))).run Go.Proofs.Try.prog w = .ok (.float .f64 (fl x)) w := fun w n => by
    rw [← of_int]; exact run_convert_int_float w 5 138 .u8 .f64 _ (by rw [Go.Proofs.Try.underlying5]; rfl) Go.Proofs.Try.underlying138
  have c2 : ∀ w (a b c d : Nat), a + c < 2 ^ 53 → b + d < 2 ^ 53 → (binOp .add 129 (.complex .f64 (fl a) (fl b)) (.complex .f64 (fl c) (fl d))).run Go.Proofs.Try.prog w = .ok (.complex .f64 (fl (a + c)) (fl (b + d))) w := fun w a b c d h1 h2 => by
    refine run_complex_sum w .add (.inl rfl) 129 .f64 _ _ _ _ _ _ ?_
    unfold cSumBits
    rw [add_fl a c (by omega), add_fl b d (by omega)]
    rfl
  have c3 : ∀ w (a b c : Nat), a + c < 2 ^ 53 → b < 2 ^ 53 → (binOp .add 129 (.complex .f64 (fl a) (fl b)) (.complex .f64 (fl c) 0)).run Go.Proofs.Try.prog w = .ok (.complex .f64 (fl (a + c)) (fl b)) w := fun w a b c h1 h2 => by
    have := c2 w a b c 0 h1 (by omega)
    rw [f0] at this
    exact this
  have c4 : ∀ w (a b d : Nat), a < 2 ^ 53 → b + d < 2 ^ 53 → (binOp .add 129 (.complex .f64 (fl a) (fl b)) (.complex .f64 0 (fl d))).run Go.Proofs.Try.prog w = .ok (.complex .f64 (fl a) (fl (b + d))) w := fun w a b d h1 h2 => by
    have := c2 w a b 0 d (by omega) h2
    rw [f0] at this
    exact this
  have C1 := Aside0.mk c1
  have C3 := Aside0.mk c3
  have C4 := Aside0.mk c4
  clear c1 c2 c3 c4
  have f0' : (Value.complex .f64 0 0) = .complex .f64 (fl 0) (fl 0) := by rw [f0]
  have F0 := Aside0.mk f0'
  clear f0 f0'
  go_enter Go.Proofs.Try.func70, Go.Proofs.Try.ntmps70
  go_wp2
  go_loop [3, 8] (fun v3 v8 => ∃ (k c d : Nat), k ≤ l0.length ∧ v8 = .int .i64 (k : Int) ∧ v3 = .complex .f64 (fl c) (fl d) ∧ c ≤ 254 + 255 * (k % 4096) ∧ d ≤ 254 + (k % 4096) * 1044989 ∧ c % 255 = (sum_pr (l0.take k)).1 ∧ d % 255 = (sum_pr (l0.take k)).2) (fun _ v8 => l0.length - (intOf v8).toNat)
  case atStart => exact ⟨0, 0, 0, Nat.zero_le _, rfl, F0.out, by omega, by omega, rfl, rfl⟩
  case round =>
    obtain ⟨k, c, d, hk, rfl, rfl, hc, hd, hs1, hs2⟩ := hrel
    by_cases hlt : k < l0.length
    · obtain ⟨ad, e, hx⟩ := HR0.out.2 k (by omega)
      cases e
      have hby : 0 ≤ rdS l0 (k : Int) ∧ rdS l0 (k : Int) ≤ 255 := by
        have h := HBY.out
        unfold sum_bytes at h
        rw [List.all_eq_true] at h
        have := h (rdS l0 (k : Int)) (by simp [rdS, List.getD_eq_getElem?_getD, List.getElem?_eq_getElem hlt])
        simpa using this
      obtain ⟨x, hxx⟩ := Int.eq_ofNat_of_zero_le hby.1
      have hst := Aside0.mk (sum_pr_step l0 k hlt c d x hxx hs1 hs2)
      have hx255 : x ≤ 255 := by omega
      rw [hxx] at hx
      clear hs1 hs2 hby hxx
      have hm : k % 4096 ≤ 4095 := by omega
      have e1 : ∀ w, (convert 5 138 (.int .u8 (x : Int))).run Go.Proofs.Try.prog w = .ok (.float .f64 (fl x)) w := fun w => C1.out w x
      have e2 : ∀ w, (binOp .add 129 (.complex .f64 (fl c) (fl d)) (.complex .f64 (fl x) 0)).run Go.Proofs.Try.prog w = .ok (.complex .f64 (fl (c + x)) (fl d)) w := fun w => C3.out w c d x (by omega) (by omega)
      have e3 : ∀ w, (binOp .add 129 (.complex .f64 (fl (c + x)) (fl d)) (.complex .f64 0 (fl (c + x)))).run Go.Proofs.Try.prog w = .ok (.complex .f64 (fl (c + x)) (fl (d + (c + x)))) w := fun w => C4.out w (c + x) d (c + x) (by omega) (by omega)
      have HK := Aside0.mk hc
      have HD := Aside0.mk hd
      have HX := Aside0.mk hx255
      have HL1 := Aside0.mk (show c + x < 9007199254740992 by omega)
      have HL2 := Aside0.mk (show d + (c + x) < 9007199254740992 by omega)
      clear hc hd hx255
      by_cases hq : k % 4096 = 4095
      · have hqb : ((k : Int) % 4096 == 4095) = true := by rw [beq_iff_eq]; omega
        have HQ := Aside0.mk hq
        clear hq hm
        go_wp2_with (go_at_call 77; refine (sum_cut.calls (c + x) (d + (c + x)) _ HL1.out HL2.out).mono ?_; rintro e w' ⟨rfl, rfl⟩)
        go_round
        case rel =>
          have := HQ.out
          have := hst.out
          exact ⟨k + 1, (c + x) % 255, (d + (c + x)) % 255, by omega, by go_num, rfl, by omega, by omega, by omega, by omega⟩
        case measure => simp [intOf]; omega
      · have hqb : ((k : Int) % 4096 == 4095) = false := by rw [beq_eq_false_iff_ne]; omega
        have HQ := Aside0.mk hq
        clear hq hm
        go_wp2
        go_round
        case rel =>
          have := HQ.out
          have := hst.out
          have := HK.out
          have := HD.out
          have := HX.out
          have h1 : (k + 1) % 4096 = k % 4096 + 1 := by omega
          exact ⟨k + 1, c + x, d + (c + x), by omega, by go_num, rfl, by omega, by omega, by omega, by omega⟩
        case measure => simp [intOf]; omega
    · have hkl : k = l0.length := by omega
      have HL1 := Aside0.mk (show c < 9007199254740992 by omega)
      have HL2 := Aside0.mk (show d < 9007199254740992 by omega)
      subst hkl
      rw [List.take_length] at hs1 hs2
      have HS1 := Aside0.mk hs1
      have HS2 := Aside0.mk hs2
      clear hs1 hs2 hc hd hk
      go_wp2_with (go_at_call 77; refine (sum_cut.calls c d _ HL1.out HL2.out).mono ?_; rintro e w' ⟨rfl, rfl⟩)
      go_ret
      exact ⟨by show Ending.returned (Value.complex .f64 (fl (c % 255)) (fl (d % 255))) = _; rw [HS1.out, HS2.out], rfl⟩

theorem sum_pr_lt (l : List Int) : (sum_pr l).1 < 255 ∧ (sum_pr l).2 < 255 := by
  rcases List.eq_nil_or_concat l with rfl | ⟨l, c, rfl⟩
  · simp [sum_pr]
  · rw [List.concat_eq_append, sum_pr_snoc]
    exact ⟨Nat.mod_lt _ (by decide), Nat.mod_lt _ (by decide)⟩
def sum_Pair.f0 (l0 : List Int) : Option (Int × Int) := if sum_bytes l0 = true then some (((sum_pr l0).1 : Int), ((sum_pr l0).2 : Int)) else none
set_option maxHeartbeats 1000000 in
theorem sum_Pair.calls (A0 : Option Addr) (c0 : Nat) (l0 : List Int) (r1 : Int) (r2 : Int) (w : World) (hr0 : rowAt w A0 l0) (h : sum_Pair.f0 l0 = some (r1, r2)) :
    Calls Go.Proofs.Try.prog 61 #[.slice A0 l0.length c0] w fun e w' => e = .returned (.tuple #[.int .i64 r1, .int .i64 r2]) ∧ w' = w := by
  unfold sum_Pair.f0 at h
  by_cases hb : sum_bytes l0 = true
  · rw [if_pos hb] at h
    simp only [Option.some.injEq, Prod.mk.injEq] at h
    obtain ⟨rfl, rfl⟩ := h
    have HR0 := Aside0.mk hr0
    have HBY := Aside0.mk hb
    obtain ⟨hl1, hl2⟩ := sum_pr_lt l0
    have c1 : ∀ w, (convert 138 3 (.float .f64 (fl (sum_pr l0).1))).run Go.Proofs.Try.prog w = .ok (.int .i64 ((sum_pr l0).1 : Int)) w := fun w => run_convert_float_int w 138 3 .f64 .i64 _ _ (by rw [Go.Proofs.Try.underlying138]; rfl) Go.Proofs.Try.underlying3 (toInt_fl _ (by omega))
    have c2 : ∀ w, (convert 138 3 (.float .f64 (fl (sum_pr l0).2))).run Go.Proofs.Try.prog w = .ok (.int .i64 ((sum_pr l0).2 : Int)) w := fun w => run_convert_float_int w 138 3 .f64 .i64 _ _ (by rw [Go.Proofs.Try.underlying138]; rfl) Go.Proofs.Try.underlying3 (toInt_fl _ (by omega))
    clear hr0 hb hl1 hl2
    go_enter Go.Proofs.Try.func61, Go.Proofs.Try.ntmps61
    go_wp2_with (go_at_call 70; refine (sum_pair.calls _ _ _ _ HR0.out HBY.out).mono ?_; rintro e w' ⟨rfl, rfl⟩)
    go_ret2
    exact ⟨rfl, rfl⟩
  · rw [if_neg hb] at h
    exact absurd h (by simp)
def sum_Fits.f0 (l0 : List Int) : Option Bool := if sum_bytes l0 = true then some (decide ((sum_pr l0).1 = 0) && decide ((sum_pr l0).2 = 0)) else none
set_option maxHeartbeats 1000000 in
theorem sum_Fits.calls (A0 : Option Addr) (c0 : Nat) (l0 : List Int) (r : Bool) (w : World) (hr0 : rowAt w A0 l0) (h : sum_Fits.f0 l0 = some r) :
    Calls Go.Proofs.Try.prog 50 #[.slice A0 l0.length c0] w fun e w' => e = .returned (.bool r) ∧ w' = w := by
  unfold sum_Fits.f0 at h
  by_cases hb : sum_bytes l0 = true
  · rw [if_pos hb] at h
    obtain rfl := Option.some.inj h
    have HR0 := Aside0.mk hr0
    have HBY := Aside0.mk hb
    obtain ⟨hl1, hl2⟩ := sum_pr_lt l0
    have o1 := order_zero (sum_pr l0).1 (by omega)
    have o2 := order_zero (sum_pr l0).2 (by omega)
    rw [← o1, ← o2]
    clear hr0 hb hl1 hl2 o1 o2 h
    go_enter Go.Proofs.Try.func50, Go.Proofs.Try.ntmps50
    go_wp2_with (go_at_call 70; refine (sum_pair.calls _ _ _ _ HR0.out HBY.out).mono ?_; rintro e w' ⟨rfl, rfl⟩)
    go_ret
    exact ⟨by first | rfl | simp, rfl⟩
  · rw [if_neg hb] at h
    exact absurd h (by simp)

theorem rowAt_of {w : World} {ok : Nat → Prop} {E : Nat} {xs : List Int} {cs : List Value} (h : En w ok (.sl E (.int .u8)) xs cs) (hl : xs.length ≤ 4611686018427387904) : ∃ A c, cs = [.slice A xs.length c] ∧ rowAt w A xs := by
  obtain ⟨A, c, rfl, _, hel⟩ := h
  refine ⟨A, c, rfl, hl, fun i hi => ?_⟩
  obtain ⟨k, o, cs', hA, _, he, hc⟩ := hel i hi
  have e1 : cs' = [.int .u8 (xs[i]'hi)] := he
  subst e1
  refine ⟨⟨k, o, none⟩, hA, ?_⟩
  have := hc 0 (by simp)
  simp only [Ty.sz, Nat.mul_one, Nat.add_zero, List.getElem_cons_zero] at this
  rw [add_at, this]
  simp [rdS, List.getD_eq_getElem?_getD, List.getElem?_eq_getElem (show i < xs.length from hi)]

noncomputable def sum_Fits.f (a : dens [.v (.sl 5 (.int .u8))]) : Option (dens [.v .bool]) := if List.length (α := Int) a.1 ≤ 4611686018427387904 then (sum_Fits.f0 a.1).map fun r => (r, ()) else none
noncomputable def sum_Fits.sp : Sp := ⟨[.v (.sl 5 (.int .u8))], [.v .bool], sum_Fits.f⟩
theorem sum_Fits.sound : Sound Go.Proofs.Try.prog 50 sum_Fits.sp := ⟨ent_of Go.Proofs.Try.func50 (by kernel_rfl) (by kernel_rfl), by
  intro x y hy w vs ok bs hok hargs hnd hdis
  obtain ⟨cs, rest, b1, b2, rfl, rfl, ⟨hen, rfl⟩, hn, rfl⟩ := hargs
  have hn1 : rest = [] := hn
  subst hn1
  unfold sum_Fits.sp sum_Fits.f at hy
  simp only at hy
  split at hy
  · rename_i hl
    obtain ⟨A, c, rfl, hr⟩ := rowAt_of hen hl
    cases hf : sum_Fits.f0 x.1 with
    | none => rw [hf] at hy; cases hy
    | some r =>
      rw [hf] at hy; cases hy
      refine (sum_Fits.calls A c x.1 r w hr hf).mono ?_
      rintro e w' ⟨rfl, rfl⟩
      exact ⟨[.bool r], [], ok, rfl, rfl, ⟨[.bool r], [], [], [], rfl, rfl, ⟨rfl, rfl⟩, rfl, rfl⟩, List.nodup_nil, by simp, fun k h => ⟨.inl h, hok k h, by simp⟩, ⟨rfl, rfl, rfl, Nat.le_refl _, fun _ _ _ => rfl⟩⟩
  · (cases hy), fun n h => (by
  have h' : (none : Option Nat) = some n := h
  cases h')⟩

noncomputable def sum_Pair.f (a : dens [.v (.sl 5 (.int .u8))]) : Option (dens [.v (.int .i64), .v (.int .i64)]) := if List.length (α := Int) a.1 ≤ 4611686018427387904 then (sum_Pair.f0 a.1).map fun r => (r.1, r.2, ()) else none
noncomputable def sum_Pair.sp : Sp := ⟨[.v (.sl 5 (.int .u8))], [.v (.int .i64), .v (.int .i64)], sum_Pair.f⟩
theorem sum_Pair.sound : Sound Go.Proofs.Try.prog 61 sum_Pair.sp := ⟨ent_of Go.Proofs.Try.func61 (by kernel_rfl) (by kernel_rfl), by
  intro x y hy w vs ok bs hok hargs hnd hdis
  obtain ⟨cs, rest, b1, b2, rfl, rfl, ⟨hen, rfl⟩, hn, rfl⟩ := hargs
  have hn1 : rest = [] := hn
  subst hn1
  unfold sum_Pair.sp sum_Pair.f at hy
  simp only at hy
  split at hy
  · rename_i hl
    obtain ⟨A, c, rfl, hr⟩ := rowAt_of hen hl
    cases hf : sum_Pair.f0 x.1 with
    | none => rw [hf] at hy; cases hy
    | some r =>
      rw [hf] at hy; cases hy
      refine (sum_Pair.calls A c x.1 r.1 r.2 w hr hf).mono ?_
      rintro e w' ⟨rfl, rfl⟩
      exact ⟨[.int .i64 r.1, .int .i64 r.2], [], ok, rfl, rfl, ⟨[.int .i64 r.1], [.int .i64 r.2], [], [], rfl, rfl, ⟨rfl, rfl⟩, ⟨[.int .i64 r.2], [], [], [], rfl, rfl, ⟨rfl, rfl⟩, rfl, rfl⟩⟩, List.nodup_nil, by simp, fun k h => ⟨.inl h, hok k h, by simp⟩, ⟨rfl, rfl, rfl, Nat.le_refl _, fun _ _ _ => rfl⟩⟩
  · (cases hy), fun n h => (by
  have h' : (none : Option Nat) = some n := h
  cases h')⟩
end Go.Proofs.Ytocloebloblodaa.F
