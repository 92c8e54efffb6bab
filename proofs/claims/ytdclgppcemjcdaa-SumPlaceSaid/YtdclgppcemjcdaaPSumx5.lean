-- Written by this session's own program (wip/print), out of the translation.
import Derived.Test.YtdclgppcemjcdaaPSumx0
import Derived.Test.YtdclgppcemjcdaaPSumx1
import Derived.Test.YtdclgppcemjcdaaPSumx2
import Derived.Test.YtdclgppcemjcdaaPSumx3
import Derived.Test.YtdclgppcemjcdaaPSumx4
namespace Go.Proofs.Ytdclgppcemjcdaa.PSum
open Go.RowKit Go.Proofs.YtdclgppcemjcdaaW.PrintWords Go.Proofs.YtdclgppcemjcdaaW.PrintLast Go.Proofs.YtdclgppcemjcdaaW.PrintMore
attribute [local go_sem] max2_int min2_int max_two min_two max_three min_three max_four min_four   -- for this text's walks alone
set_option linter.unusedVariables false
set_option linter.unusedSimpArgs false

/-! ### crossroadslaw02_SumFound: function 11 -/
mutual
def crossroadslaw02_SumFound.j0 : Nat → List Int → Int → Int → Bool → Option (Bool)
  | 0, _, _, _, _ => none
  | k + 1, x0, x1, x2, x30 => if x30 = true then ((crossroadslaw02_alive.f k).bind fun t245 => (some t245)) else ((sum_Place.f k x0 0).bind fun bt246 => (if bt246.2 = 0 then (crossroadslaw02_SumFound.j1 k x0 x1 x2 bt246.1 ((bt246.1.length : Int) != (x0.length : Int))) else (crossroadslaw02_SumFound.j1 k x0 x1 x2 bt246.1 true)))
def crossroadslaw02_SumFound.j1 : Nat → List Int → Int → Int → List Int → Bool → Option (Bool)
  | 0, _, _, _, _, _ => none
  | k + 1, x0, x1, x2, x7, x45 => if x45 = true then (some false) else ((some (([] : List Int) : List Int)).bind fun y250 => (if y250.length + x0.length < 140737488355328 then ((some (y250 ++ x0 : List Int)).bind fun y253 => (if 0 < (y253.length : Int) then (if 1 < (y253.length : Int) then ((some ((y253.set (0 : Int).toNat 0).set (1 : Int).toNat 0 : List Int)).bind fun y257 => ((sum_Internet.f k y257).bind fun t258 => (if t258 < 0 then (crossroadslaw02_SumFound.j2 k x1 x2 x7 y257 t258 true) else (crossroadslaw02_SumFound.j2 k x1 x2 x7 y257 t258 (decide (t258 > 65535)))))) else (none)) else (none))) else (none)))
def crossroadslaw02_SumFound.j2 : Nat → Int → Int → List Int → List Int → Int → Bool → Option (Bool)
  | 0, _, _, _, _, _, _ => none
  | k + 1, x1, x2, x7, x9, x10, x60 => if x60 = true then (some false) else (if 0 < (x9.length : Int) then (if 1 < (x9.length : Int) then ((some ((x9.set (0 : Int).toNat ((wrap64 (Int.tdiv x10 256)) % 256)).set (1 : Int).toNat ((Int.tmod x10 256) % 256) : List Int)).bind fun y260 => ((sum_Holds.f k y260).bind fun t261 => (if t261 = true then (crossroadslaw02_SumFound.j3 k x1 x2 x7 y260 false) else (crossroadslaw02_SumFound.j3 k x1 x2 x7 y260 (((x9.length : Int) % 2) == 0))))) else (none)) else (none))
def crossroadslaw02_SumFound.j3 : Nat → Int → Int → List Int → List Int → Bool → Option (Bool)
  | 0, _, _, _, _, _ => none
  | k + 1, x1, x2, x7, x9, x79 => if x79 = true then (some false) else ((crossroadslaw02_spoilt.f x7 x1 x2).bind fun t262 => ((sum_Fits.f t262).bind fun t265 => (if t265 = true then (if 0 ≤ x1 then (if x1 < (x7.length : Int) then (if (rd x7 x1) = x2 then (crossroadslaw02_SumFound.j4 k x1 x2 x9 true) else (if (Go.bits .xor .u8 (rd x7 x1) x2) = 255 then (if x2 = 0 then (crossroadslaw02_SumFound.j4 k x1 x2 x9 true) else (crossroadslaw02_SumFound.j4 k x1 x2 x9 (x2 == 255))) else (crossroadslaw02_SumFound.j4 k x1 x2 x9 false))) else (none)) else (none)) else (crossroadslaw02_SumFound.j4 k x1 x2 x9 true))))
def crossroadslaw02_SumFound.j4 : Nat → Int → Int → List Int → Bool → Option (Bool)
  | 0, _, _, _, _ => none
  | k + 1, x1, x2, x9, x11 => (crossroadslaw02_spoilt.f x9 x1 x2).bind fun t268 => ((sum_Holds.f k t268).bind fun t271 => (if t271 = true then (if 0 ≤ x1 then (if x1 < (x9.length : Int) then (if (rd x9 x1) = x2 then ((crossroadslaw02_alive.f k).bind fun t273 => (if t273 = true then (if x11 = true then (some true) else (some false)) else (some false))) else ((sum_Holds.f k x9).bind fun t274 => ((crossroadslaw02_alive.f k).bind fun t275 => (if t275 = true then (if x11 = true then (some (!t274)) else (some false)) else (some false))))) else (none)) else (none)) else ((crossroadslaw02_alive.f k).bind fun t276 => (if t276 = true then (if x11 = true then (some true) else (some false)) else (some false)))))
end
def crossroadslaw02_SumFound.f (k : Nat) (l0 : List Int) (a1 : Int) (a2 : Int) : Option (Bool) := if (l0.length : Int) > 2000 then (crossroadslaw02_SumFound.j0 k l0 a1 a2 true) else (if (l0.length : Int) < 2 then (crossroadslaw02_SumFound.j0 k l0 a1 a2 true) else (if a1 < 0 then (crossroadslaw02_SumFound.j0 k l0 a1 a2 true) else (crossroadslaw02_SumFound.j0 k l0 a1 a2 (decide (a1 ≥ (l0.length : Int))))))
theorem crossroadslaw02_SumFound.mono_l : ∀ k, (∀ y0 y1 y2 y3, LeO (crossroadslaw02_SumFound.j0 k y0 y1 y2 y3) (crossroadslaw02_SumFound.j0 (k + 1) y0 y1 y2 y3)) ∧ (∀ y0 y1 y2 y3 y4, LeO (crossroadslaw02_SumFound.j1 k y0 y1 y2 y3 y4) (crossroadslaw02_SumFound.j1 (k + 1) y0 y1 y2 y3 y4)) ∧ (∀ y0 y1 y2 y3 y4 y5, LeO (crossroadslaw02_SumFound.j2 k y0 y1 y2 y3 y4 y5) (crossroadslaw02_SumFound.j2 (k + 1) y0 y1 y2 y3 y4 y5)) ∧ (∀ y0 y1 y2 y3 y4, LeO (crossroadslaw02_SumFound.j3 k y0 y1 y2 y3 y4) (crossroadslaw02_SumFound.j3 (k + 1) y0 y1 y2 y3 y4)) ∧ (∀ y0 y1 y2 y3, LeO (crossroadslaw02_SumFound.j4 k y0 y1 y2 y3) (crossroadslaw02_SumFound.j4 (k + 1) y0 y1 y2 y3))
  | 0 => ⟨fun _ _ _ _ r h => by simp [crossroadslaw02_SumFound.j0] at h, fun _ _ _ _ _ r h => by simp [crossroadslaw02_SumFound.j1] at h, fun _ _ _ _ _ _ r h => by simp [crossroadslaw02_SumFound.j2] at h, fun _ _ _ _ _ r h => by simp [crossroadslaw02_SumFound.j3] at h, fun _ _ _ _ r h => by simp [crossroadslaw02_SumFound.j4] at h⟩
  | k + 1 => by
    obtain ⟨ih0, ih1, ih2, ih3, ih4⟩ := crossroadslaw02_SumFound.mono_l k
    refine ⟨?_, ?_, ?_, ?_, ?_⟩
    · intro y0 y1 y2 y3
      unfold crossroadslaw02_SumFound.j0
      repeat' first
      | (with_reducible exact ih0 _ _ _ _)
      | (with_reducible exact ih1 _ _ _ _ _)
      | (with_reducible exact ih2 _ _ _ _ _ _)
      | (with_reducible exact ih3 _ _ _ _ _)
      | (with_reducible exact ih4 _ _ _ _)
      | (with_reducible exact crossroadslaw02_alive.mono _)
      | (with_reducible exact sum_Holds.mono _ _)
      | (with_reducible exact sum_Internet.mono _ _)
      | (with_reducible exact sum_Place.mono _ _ _)
      | (with_reducible exact LeO.refl _)
      | (with_reducible exact LeO.none _)
      | (with_reducible refine LeO.ite ?_ ?_)
      | (with_reducible refine LeO.bind ?_ (fun _ => ?_))
      | exact ih0 _ _ _ _
      | exact ih1 _ _ _ _ _
      | exact ih2 _ _ _ _ _ _
      | exact ih3 _ _ _ _ _
      | exact ih4 _ _ _ _
      | exact crossroadslaw02_alive.mono _
      | exact sum_Holds.mono _ _
      | exact sum_Internet.mono _ _
      | exact sum_Place.mono _ _ _
      | exact LeO.none _
      | refine LeO.ite ?_ ?_
      | refine LeO.bind ?_ (fun _ => ?_)
    · intro y0 y1 y2 y3 y4
      unfold crossroadslaw02_SumFound.j1
      repeat' first
      | (with_reducible exact ih0 _ _ _ _)
      | (with_reducible exact ih1 _ _ _ _ _)
      | (with_reducible exact ih2 _ _ _ _ _ _)
      | (with_reducible exact ih3 _ _ _ _ _)
      | (with_reducible exact ih4 _ _ _ _)
      | (with_reducible exact crossroadslaw02_alive.mono _)
      | (with_reducible exact sum_Holds.mono _ _)
      | (with_reducible exact sum_Internet.mono _ _)
      | (with_reducible exact sum_Place.mono _ _ _)
      | (with_reducible exact LeO.refl _)
      | (with_reducible exact LeO.none _)
      | (with_reducible refine LeO.ite ?_ ?_)
      | (with_reducible refine LeO.bind ?_ (fun _ => ?_))
      | exact ih0 _ _ _ _
      | exact ih1 _ _ _ _ _
      | exact ih2 _ _ _ _ _ _
      | exact ih3 _ _ _ _ _
      | exact ih4 _ _ _ _
      | exact crossroadslaw02_alive.mono _
      | exact sum_Holds.mono _ _
      | exact sum_Internet.mono _ _
      | exact sum_Place.mono _ _ _
      | exact LeO.none _
      | refine LeO.ite ?_ ?_
      | refine LeO.bind ?_ (fun _ => ?_)
    · intro y0 y1 y2 y3 y4 y5
      unfold crossroadslaw02_SumFound.j2
      repeat' first
      | (with_reducible exact ih0 _ _ _ _)
      | (with_reducible exact ih1 _ _ _ _ _)
      | (with_reducible exact ih2 _ _ _ _ _ _)
      | (with_reducible exact ih3 _ _ _ _ _)
      | (with_reducible exact ih4 _ _ _ _)
      | (with_reducible exact crossroadslaw02_alive.mono _)
      | (with_reducible exact sum_Holds.mono _ _)
      | (with_reducible exact sum_Internet.mono _ _)
      | (with_reducible exact sum_Place.mono _ _ _)
      | (with_reducible exact LeO.refl _)
      | (with_reducible exact LeO.none _)
      | (with_reducible refine LeO.ite ?_ ?_)
      | (with_reducible refine LeO.bind ?_ (fun _ => ?_))
      | exact ih0 _ _ _ _
      | exact ih1 _ _ _ _ _
      | exact ih2 _ _ _ _ _ _
      | exact ih3 _ _ _ _ _
      | exact ih4 _ _ _ _
      | exact crossroadslaw02_alive.mono _
      | exact sum_Holds.mono _ _
      | exact sum_Internet.mono _ _
      | exact sum_Place.mono _ _ _
      | exact LeO.none _
      | refine LeO.ite ?_ ?_
      | refine LeO.bind ?_ (fun _ => ?_)
    · intro y0 y1 y2 y3 y4
      unfold crossroadslaw02_SumFound.j3
      repeat' first
      | (with_reducible exact ih0 _ _ _ _)
      | (with_reducible exact ih1 _ _ _ _ _)
      | (with_reducible exact ih2 _ _ _ _ _ _)
      | (with_reducible exact ih3 _ _ _ _ _)
      | (with_reducible exact ih4 _ _ _ _)
      | (with_reducible exact crossroadslaw02_alive.mono _)
      | (with_reducible exact sum_Holds.mono _ _)
      | (with_reducible exact sum_Internet.mono _ _)
      | (with_reducible exact sum_Place.mono _ _ _)
      | (with_reducible exact LeO.refl _)
      | (with_reducible exact LeO.none _)
      | (with_reducible refine LeO.ite ?_ ?_)
      | (with_reducible refine LeO.bind ?_ (fun _ => ?_))
      | exact ih0 _ _ _ _
      | exact ih1 _ _ _ _ _
      | exact ih2 _ _ _ _ _ _
      | exact ih3 _ _ _ _ _
      | exact ih4 _ _ _ _
      | exact crossroadslaw02_alive.mono _
      | exact sum_Holds.mono _ _
      | exact sum_Internet.mono _ _
      | exact sum_Place.mono _ _ _
      | exact LeO.none _
      | refine LeO.ite ?_ ?_
      | refine LeO.bind ?_ (fun _ => ?_)
    · intro y0 y1 y2 y3
      unfold crossroadslaw02_SumFound.j4
      repeat' first
      | (with_reducible exact ih0 _ _ _ _)
      | (with_reducible exact ih1 _ _ _ _ _)
      | (with_reducible exact ih2 _ _ _ _ _ _)
      | (with_reducible exact ih3 _ _ _ _ _)
      | (with_reducible exact ih4 _ _ _ _)
      | (with_reducible exact crossroadslaw02_alive.mono _)
      | (with_reducible exact sum_Holds.mono _ _)
      | (with_reducible exact sum_Internet.mono _ _)
      | (with_reducible exact sum_Place.mono _ _ _)
      | (with_reducible exact LeO.refl _)
      | (with_reducible exact LeO.none _)
      | (with_reducible refine LeO.ite ?_ ?_)
      | (with_reducible refine LeO.bind ?_ (fun _ => ?_))
      | exact ih0 _ _ _ _
      | exact ih1 _ _ _ _ _
      | exact ih2 _ _ _ _ _ _
      | exact ih3 _ _ _ _ _
      | exact ih4 _ _ _ _
      | exact crossroadslaw02_alive.mono _
      | exact sum_Holds.mono _ _
      | exact sum_Internet.mono _ _
      | exact sum_Place.mono _ _ _
      | exact LeO.none _
      | refine LeO.ite ?_ ?_
      | refine LeO.bind ?_ (fun _ => ?_)
theorem crossroadslaw02_SumFound.mono : ∀ a0 a1 a2 k, LeO (crossroadslaw02_SumFound.f k a0 a1 a2) (crossroadslaw02_SumFound.f (k + 1) a0 a1 a2) := by
  intro a0 a1 a2 k
  obtain ⟨ih0, ih1, ih2, ih3, ih4⟩ := crossroadslaw02_SumFound.mono_l k
  unfold crossroadslaw02_SumFound.f
  repeat' first
      | (with_reducible exact ih0 _ _ _ _)
      | (with_reducible exact ih1 _ _ _ _ _)
      | (with_reducible exact ih2 _ _ _ _ _ _)
      | (with_reducible exact ih3 _ _ _ _ _)
      | (with_reducible exact ih4 _ _ _ _)
      | (with_reducible exact crossroadslaw02_alive.mono _)
      | (with_reducible exact sum_Holds.mono _ _)
      | (with_reducible exact sum_Internet.mono _ _)
      | (with_reducible exact sum_Place.mono _ _ _)
      | (with_reducible exact LeO.refl _)
      | (with_reducible exact LeO.none _)
      | (with_reducible refine LeO.ite ?_ ?_)
      | (with_reducible refine LeO.bind ?_ (fun _ => ?_))
      | exact ih0 _ _ _ _
      | exact ih1 _ _ _ _ _
      | exact ih2 _ _ _ _ _ _
      | exact ih3 _ _ _ _ _
      | exact ih4 _ _ _ _
      | exact crossroadslaw02_alive.mono _
      | exact sum_Holds.mono _ _
      | exact sum_Internet.mono _ _
      | exact sum_Place.mono _ _ _
      | exact LeO.none _
      | refine LeO.ite ?_ ?_
      | refine LeO.bind ?_ (fun _ => ?_)
set_option maxHeartbeats 8000000 in
set_option maxRecDepth 100000 in
theorem crossroadslaw02_SumFound.calls (k : Nat) (A0 : Option Addr) (c0 : Nat) (l0 : List Int) (a1 : Int) (a2 : Int) (r : Bool) (w : World) (hr0 : Kd.C (Kd.int .u8) w A0 l0.length l0) (hc0 : l0.length ≤ c0) (h : crossroadslaw02_SumFound.f k l0 a1 a2 = some r) (HRT : Aside0 (r = true)) :
    Calls Try.prog 11 #[.slice A0 l0.length c0, .int .i64 a1, .int .u8 a2] w fun e w' => e = .returned (.bool r) ∧ Below w.heap.size w w' := by
  have HR0 := Aside0.mk hr0
  have HC0 := Aside0.mk hc0
  clear hr0 hc0
  have HB := Aside0.mk (Below.refl w.heap.size w)
  have H : (if (l0.length : Int) > 2000 then (crossroadslaw02_SumFound.j0 k l0 a1 a2 true) else (if (l0.length : Int) < 2 then (crossroadslaw02_SumFound.j0 k l0 a1 a2 true) else (if a1 < 0 then (crossroadslaw02_SumFound.j0 k l0 a1 a2 true) else (crossroadslaw02_SumFound.j0 k l0 a1 a2 (decide (a1 ≥ (l0.length : Int))))))) = some r := h
  clear h
  have HC4 := Aside0.mk H
  clear H
  go_enter Try.func11, Try.ntmps11
  go_upto_region 1 with (fail)
  go_cut [30] (fun v30 wc => ∃ (kq : Nat) (x30_3 : Bool), v30 = .bool x30_3 ∧ Aside0 (crossroadslaw02_SumFound.j0 kq l0 a1 a2 x30_3 = some r) ∧ Aside0 (kq ≤ k) ∧ Aside0 (Below w.heap.size w wc))
  case first =>
    have H := HC4.out
    clear HC4
    by_cases c5 : (l0.length : Int) > 2000
    · rw [if_pos c5] at H
      have c5b0 : decide (2000 < (l0.length : Int)) = true := decide_eq_true c5
      have c5b1 : decide (2000 < l0.length) = true := decide_eq_true (by omega)
      clear c5
      (first | rw [c5b0] | (simp only [i64_w, i32_w]; rw [c5b0]) | rw [c5b1] | skip)
      have H' := Aside0.mk H
      clear H
      go_wp2
      go_meet
      case rel => exact ⟨_, (true), (by first | rfl | (simp; done) | (simp [*]; done)), H', ⟨by first | omega | exact Nat.le_refl _⟩, ⟨by repeat (first | (with_reducible first | exact HB.out | apply below_alloc | apply pw_below_drewN | apply below_drew1) | exact HB.out)⟩⟩
    · rw [if_neg c5] at H
      have c5b0 : decide (2000 < (l0.length : Int)) = false := decide_eq_false c5
      have c5b1 : decide (2000 < l0.length) = false := decide_eq_false (by omega)
      clear c5
      (first | rw [c5b0] | (simp only [i64_w, i32_w]; rw [c5b0]) | rw [c5b1] | skip)
      by_cases c6 : (l0.length : Int) < 2
      · rw [if_pos c6] at H
        have c6b0 : decide ((l0.length : Int) < 2) = true := decide_eq_true c6
        have c6b1 : decide (l0.length < 2) = true := decide_eq_true (by omega)
        clear c6
        have H' := Aside0.mk H
        clear H
        go_wp2
        go_meet
        case rel => exact ⟨_, (true), (by first | rfl | (simp; done) | (simp [*]; done)), H', ⟨by first | omega | exact Nat.le_refl _⟩, ⟨by repeat (first | (with_reducible first | exact HB.out | apply below_alloc | apply pw_below_drewN | apply below_drew1) | exact HB.out)⟩⟩
      · rw [if_neg c6] at H
        have c6b0 : decide ((l0.length : Int) < 2) = false := decide_eq_false c6
        have c6b1 : decide (l0.length < 2) = false := decide_eq_false (by omega)
        clear c6
        by_cases c7 : a1 < 0
        · rw [if_pos c7] at H
          have c7b0 : decide (a1 < 0) = true := decide_eq_true c7
          clear c7
          have H' := Aside0.mk H
          clear H
          go_wp2
          go_meet
          case rel => exact ⟨_, (true), (by first | rfl | (simp; done) | (simp [*]; done)), H', ⟨by first | omega | exact Nat.le_refl _⟩, ⟨by repeat (first | (with_reducible first | exact HB.out | apply below_alloc | apply pw_below_drewN | apply below_drew1) | exact HB.out)⟩⟩
        · rw [if_neg c7] at H
          have c7b0 : decide (a1 < 0) = false := decide_eq_false c7
          clear c7
          have H' := Aside0.mk H
          clear H
          go_wp2
          go_meet
          case rel => exact ⟨_, (decide (a1 ≥ (l0.length : Int))), (by first | rfl | (simp; done) | (simp [*]; done)), H', ⟨by first | omega | exact Nat.le_refl _⟩, ⟨by repeat (first | (with_reducible first | exact HB.out | apply below_alloc | apply pw_below_drewN | apply below_drew1) | exact HB.out)⟩⟩
  case rest =>
    clear HC4
    try clear c1
    try clear p2
    try clear c5
    try clear c5b0
    try clear c5b1
    try clear c6
    try clear c6b0
    try clear c6b1
    try clear c7
    try clear c7b0
    obtain ⟨kq, x30_3, rfl, HA, HJ3, HB⟩ := hcut
    cases kq with
    | zero => exact absurd HA.out (by simp [crossroadslaw02_SumFound.j0])
    | succ kj3 =>
      have H := HA.out
      clear HA
      simp only [crossroadslaw02_SumFound.j0] at H
      by_cases c8 : x30_3 = true
      · subst c8
        have H1 : ((crossroadslaw02_alive.f kj3).bind fun t245 => (some t245)) = some r := by rw [if_pos rfl] at H; exact H
        clear H
        have H := H1
        clear H1
        replace H := Option.bind_eq_some_iff.mp H
        obtain ⟨t245, A90, H⟩ := H
        replace H : (some t245) = some r := H
        have A9 := Aside0.mk A90
        clear A90
        obtain rfl := Option.some.inj H
        go_wp2_with (first | ((with_reducible refine gate_callee (f := 25) rfl ?_); refine goesL_ (some 31) rfl rfl Try.func25 (by kernel_rfl) rfl #[] rfl (by (try simp only [List.map_toArray, List.map_cons, List.map_nil]); first | done | rfl | (simp only [List.length_drop, List.length_take]; rfl)) ?_; (with_reducible refine (crossroadslaw02_alive.calls kj3  t245 _ A9.out).mono ?_); rintro e w10 ⟨rfl, hb⟩; refine ⟨_, rfl, ?_⟩; have n0_ := Aside0.mk (below_step (by repeat (first | (with_reducible first | exact HB.out | apply below_alloc | apply pw_below_drewN | apply below_drew1) | exact HB.out)) hb); clear HB; have HB := n0_; clear n0_; (try clear hb); (try clear hb2); (try clear hk); (try clear hi)))
        go_ret
        exact ⟨by first | rfl | (simp [errW_none, errW_some] <;> rfl) | (simp [*, errW_none, errW_some] <;> rfl), by repeat (first | (with_reducible first | exact HB.out | apply below_alloc | apply pw_below_drewN | apply below_drew1) | exact HB.out)⟩
      · replace c8 := Bool.eq_false_iff.mpr c8
        subst c8
        have H1 : ((sum_Place.f kj3 l0 0).bind fun bt246 => (if bt246.2 = 0 then (crossroadslaw02_SumFound.j1 kj3 l0 a1 a2 bt246.1 ((bt246.1.length : Int) != (l0.length : Int))) else (crossroadslaw02_SumFound.j1 kj3 l0 a1 a2 bt246.1 true))) = some r := by rw [if_neg (show ¬ (false = true) by decide)] at H; exact H
        clear H
        have H := H1
        clear H1
        replace H := Option.bind_eq_some_iff.mp H
        obtain ⟨⟨t246, t247⟩, A110, H⟩ := H
        replace H : (if t247 = 0 then (crossroadslaw02_SumFound.j1 kj3 l0 a1 a2 t246 ((t246.length : Int) != (l0.length : Int))) else (crossroadslaw02_SumFound.j1 kj3 l0 a1 a2 t246 true)) = some r := H
        have A11 := Aside0.mk A110
        clear A110
        have HC12 := Aside0.mk H
        clear H
        go_upto_region 4 with (first | ((with_reducible refine gate_callee (f := 26) rfl ?_); refine goesL_ (some 34) rfl rfl Try.func26 (by kernel_rfl) rfl #[.slice A0 l0.length c0, .int .i64 0] rfl (by (try simp only [List.map_toArray, List.map_cons, List.map_nil]); first | done | rfl | (simp only [List.length_drop, List.length_take]; rfl)) ?_; (with_reducible refine (sum_Place.calls kj3 _ _ l0 0 t246 t247 _ ?side1 ?side2 A11.out).mono ?_); (case side1 => repeat (first | exact (Kd.C_below HR0.out HB.out) | (with_reducible refine Kd.C_alloc ?_ _) | (with_reducible refine Kd.C_drewN ?_ _) | (with_reducible refine Kd.C_drew ?_))); (case side2 => exact HC0.out); rintro e w13 ⟨v248, rfl, ho0, hb⟩; refine ⟨_, rfl, ?_⟩; have n0_ := Aside0.mk (Kd.R_lower ho0 (below_size (by repeat (first | (with_reducible first | exact HB.out | apply below_alloc | apply pw_below_drewN | apply below_drew1) | exact HB.out)))); have n1_ := Aside0.mk (below_step (by repeat (first | (with_reducible first | exact HB.out | apply below_alloc | apply pw_below_drewN | apply below_drew1) | exact HB.out)) hb); clear HB; have HO249 := n0_; have HB := n1_; clear n0_ n1_; (try clear hb); (try clear hb2); (try clear hk); (try clear hi); (try clear ho0)))
        (try simp only [Act.put, List.setIfInBounds_toArray, List.set_cons_zero, List.set_cons_succ])
        go_cut [45] (fun v45 wc => ∃ (kq : Nat) (x45_11 : Bool), v45 = .bool x45_11 ∧ Aside0 (crossroadslaw02_SumFound.j1 kq l0 a1 a2 t246 x45_11 = some r) ∧ Aside0 (kq ≤ kj3) ∧ Aside0 (Kd.R (Kd.int .u8) 5 wc w.heap.size (fun _ => True) v248 t246) ∧ Aside0 (Below w.heap.size w wc))
        case first =>
          have H := HC12.out
          clear HC12
          by_cases c14 : t247 = 0
          · rw [if_pos c14] at H
            have c14b0 : (t247 == 0) = true := beq_iff_eq.mpr c14
            have c14b1 : (t247 != 0) = false := bne_eq_false_iff_eq.mpr c14
            clear c14
            (first | rw [c14b0] | (simp only [i64_w, i32_w]; rw [c14b0]) | rw [c14b1] | skip)
            have H' := Aside0.mk H
            clear H
            obtain ⟨Ao15, co15, eo15⟩ := Kd.R_slice HO249.out
            subst eo15
            go_wp2
            go_meet
            case rel => exact ⟨_, (((t246.length : Int) != (l0.length : Int))), (by first | rfl | (simp; done) | (simp [*]; done)), H', ⟨by have := HJ3.out; first | omega | exact Nat.le_refl _⟩, ⟨by (with_reducible repeat (first | apply Kd.R_alloc | apply Kd.R_drewN | apply Kd.R_drew)); exact HO249.out⟩, ⟨by repeat (first | (with_reducible first | exact HB.out | apply below_alloc | apply pw_below_drewN | apply below_drew1) | exact HB.out)⟩⟩
          · rw [if_neg c14] at H
            have c14b0 : (t247 == 0) = false := beq_eq_false_iff_ne.mpr c14
            have c14b1 : (t247 != 0) = true := bne_iff_ne.mpr c14
            (first | rw [c14b0] | (simp only [i64_w, i32_w]; rw [c14b0]) | rw [c14b1] | skip)
            have H' := Aside0.mk H
            clear H
            go_wp2
            go_meet
            case rel => exact ⟨_, (true), (by first | rfl | (simp; done) | (simp [*]; done)), H', ⟨by have := HJ3.out; first | omega | exact Nat.le_refl _⟩, ⟨by (with_reducible repeat (first | apply Kd.R_alloc | apply Kd.R_drewN | apply Kd.R_drew)); exact HO249.out⟩, ⟨by repeat (first | (with_reducible first | exact HB.out | apply below_alloc | apply pw_below_drewN | apply below_drew1) | exact HB.out)⟩⟩
        case rest =>
          clear HC12
          try clear c1
          try clear c2
          try clear p2
          try clear c5
          try clear c5b0
          try clear c5b1
          try clear c6
          try clear c6b0
          try clear c6b1
          try clear c7
          try clear c7b0
          try clear c8
          try clear c11
          try clear c14
          try clear c14b0
          try clear c14b1
          try clear p2
          obtain ⟨kq, x45_11, rfl, HA, HJ11, HO_7, HB⟩ := hcut
          cases kq with
          | zero => exact absurd HA.out (by simp [crossroadslaw02_SumFound.j1])
          | succ kj11 =>
            have H := HA.out
            clear HA
            simp only [crossroadslaw02_SumFound.j1] at H
            by_cases c16 : x45_11 = true
            · subst c16
              have H1 : (some false) = some r := by rw [if_pos rfl] at H; exact H
              clear H
              have H := H1
              clear H1
              exact absurd ((Option.some.inj H).trans HRT.out) (by decide)
            · replace c16 := Bool.eq_false_iff.mpr c16
              subst c16
              have H1 : ((some (([] : List Int) : List Int)).bind fun y250 => (if y250.length + l0.length < 140737488355328 then ((some (y250 ++ l0 : List Int)).bind fun y253 => (if 0 < (y253.length : Int) then (if 1 < (y253.length : Int) then ((some ((y253.set (0 : Int).toNat 0).set (1 : Int).toNat 0 : List Int)).bind fun y257 => ((sum_Internet.f kj11 y257).bind fun t258 => (if t258 < 0 then (crossroadslaw02_SumFound.j2 kj11 a1 a2 t246 y257 t258 true) else (crossroadslaw02_SumFound.j2 kj11 a1 a2 t246 y257 t258 (decide (t258 > 65535)))))) else (none)) else (none))) else (none))) = some r := by rw [if_neg (show ¬ (false = true) by decide)] at H; exact H
              clear H
              have H := H1
              clear H1
              obtain ⟨y250, hy250⟩ : ∃ y_ : List Int, y_ = (([] : List Int)) := ⟨_, rfl⟩
              replace H : (if y250.length + l0.length < 140737488355328 then ((some (y250 ++ l0 : List Int)).bind fun y253 => (if 0 < (y253.length : Int) then (if 1 < (y253.length : Int) then ((some ((y253.set (0 : Int).toNat 0).set (1 : Int).toNat 0 : List Int)).bind fun y257 => ((sum_Internet.f kj11 y257).bind fun t258 => (if t258 < 0 then (crossroadslaw02_SumFound.j2 kj11 a1 a2 t246 y257 t258 true) else (crossroadslaw02_SumFound.j2 kj11 a1 a2 t246 y257 t258 (decide (t258 > 65535)))))) else (none)) else (none))) else (none)) = some r := by first | (rw [hy250]; with_reducible exact H) | (have H2_ := (Option.bind_some _ _).symm.trans H; rw [hy250]; with_reducible exact H2_) | (have H2_ := (Option.bind_some _ _).symm.trans H; with_reducible exact H2_) | with_reducible exact H | (rw [hy250]; exact H) | exact H
              have Ny250 := Aside0.mk hy250
              clear hy250
              by_cases c17 : y250.length + l0.length < 140737488355328
              · rw [if_pos c17] at H
                have LMc17 := Aside0.mk c17
                clear c17
                obtain ⟨y253, hy253⟩ : ∃ y_ : List Int, y_ = (y250 ++ l0) := ⟨_, rfl⟩
                replace H : (if 0 < (y253.length : Int) then (if 1 < (y253.length : Int) then ((some ((y253.set (0 : Int).toNat 0).set (1 : Int).toNat 0 : List Int)).bind fun y257 => ((sum_Internet.f kj11 y257).bind fun t258 => (if t258 < 0 then (crossroadslaw02_SumFound.j2 kj11 a1 a2 t246 y257 t258 true) else (crossroadslaw02_SumFound.j2 kj11 a1 a2 t246 y257 t258 (decide (t258 > 65535)))))) else (none)) else (none)) = some r := by first | (rw [hy253]; with_reducible exact H) | (have H2_ := (Option.bind_some _ _).symm.trans H; rw [hy253]; with_reducible exact H2_) | (have H2_ := (Option.bind_some _ _).symm.trans H; with_reducible exact H2_) | with_reducible exact H | (rw [hy253]; exact H) | exact H
                have Ny253 := Aside0.mk hy253
                clear hy253
                by_cases c18 : 0 < (y253.length : Int)
                · rw [if_pos c18] at H
                  have c18b0 : decide (0 < (y253.length : Int)) = true := decide_eq_true c18
                  have c18b1 : decide (0 < y253.length) = true := decide_eq_true (by omega)
                  clear c18
                  obtain ⟨y256, hy256⟩ : ∃ y_ : List Int, y_ = (y253.set (0 : Int).toNat 0) := ⟨_, rfl⟩
                  replace H : (if 1 < (y253.length : Int) then ((some (y256.set (1 : Int).toNat 0 : List Int)).bind fun y257 => ((sum_Internet.f kj11 y257).bind fun t258 => (if t258 < 0 then (crossroadslaw02_SumFound.j2 kj11 a1 a2 t246 y257 t258 true) else (crossroadslaw02_SumFound.j2 kj11 a1 a2 t246 y257 t258 (decide (t258 > 65535)))))) else (none)) = some r := by first | (rw [hy256]; with_reducible exact H) | (have H2_ := (Option.bind_some _ _).symm.trans H; rw [hy256]; with_reducible exact H2_) | (have H2_ := (Option.bind_some _ _).symm.trans H; with_reducible exact H2_) | with_reducible exact H | (rw [hy256]; exact H) | exact H
                  have Ny256 := Aside0.mk hy256
                  clear hy256
                  by_cases c20 : 1 < (y253.length : Int)
                  · rw [if_pos c20] at H
                    have c20b0 : decide (1 < (y253.length : Int)) = true := decide_eq_true c20
                    have c20b1 : decide (1 < y253.length) = true := decide_eq_true (by omega)
                    clear c20
                    obtain ⟨y257, hy257⟩ : ∃ y_ : List Int, y_ = (y256.set (1 : Int).toNat 0) := ⟨_, rfl⟩
                    replace H : ((sum_Internet.f kj11 y257).bind fun t258 => (if t258 < 0 then (crossroadslaw02_SumFound.j2 kj11 a1 a2 t246 y257 t258 true) else (crossroadslaw02_SumFound.j2 kj11 a1 a2 t246 y257 t258 (decide (t258 > 65535))))) = some r := by first | (rw [hy257]; with_reducible exact H) | (have H2_ := (Option.bind_some _ _).symm.trans H; rw [hy257]; with_reducible exact H2_) | (have H2_ := (Option.bind_some _ _).symm.trans H; with_reducible exact H2_) | with_reducible exact H | (rw [hy257]; exact H) | exact H
                    have Ny257 := Aside0.mk hy257
                    clear hy257
                    replace H := Option.bind_eq_some_iff.mp H
                    obtain ⟨t258, A220, H⟩ := H
                    replace H : (if t258 < 0 then (crossroadslaw02_SumFound.j2 kj11 a1 a2 t246 y257 t258 true) else (crossroadslaw02_SumFound.j2 kj11 a1 a2 t246 y257 t258 (decide (t258 > 65535)))) = some r := H
                    have A22 := Aside0.mk A220
                    clear A220
                    have HC23 := Aside0.mk H
                    clear H
                    go_upto_region 10 with (first | ((with_reducible refine gate_dst (N := 46) rfl ?_); (try (refine gate_guard (by rfl) ?_; dsimp only)); refine Kd.R_lit (Kd.int .u8) _ 5 ?hg (N := 46) ?hd (xs := ([] : List Int)) (inner := []) (ok := fun _ => True) (okp := fun _ => True) ?hr ?hp (fun _ hk => hk) trivial (Below.refl _ _) (Nat.le_refl _) (by simp) ?_; (case hd => rfl); (case hg => rfl); (case hr => first | (go_simp; done) | (go_simp; rfl)); (case hp => exact (Reps.none _ _)); intro v251 w24 ho25 hb hg_ hnew_; clear hg_ hnew_; (first | rw [← Ny250.out] at ho25 | (simp only [Int.reduceToNat] at ho25; rw [← Ny250.out] at ho25)); have n0_ := Aside0.mk (Kd.R_elder' (by (with_reducible repeat (first | apply Kd.R_alloc | apply Kd.R_drewN | apply Kd.R_drew)); exact HO_7.out) (Kd.R_base ho25) hb); have n1_ := Aside0.mk (Kd.R_lower (Kd.R_new' ho25 (Kd.R_lt (by (with_reducible repeat (first | apply Kd.R_alloc | apply Kd.R_drewN | apply Kd.R_drew)); exact HO_7.out))) (below_size (by repeat (first | (with_reducible first | exact HB.out | apply below_alloc | apply pw_below_drewN | apply below_drew1) | exact HB.out)))); have n2_ := Aside0.mk (below_step (by repeat (first | (with_reducible first | exact HB.out | apply below_alloc | apply pw_below_drewN | apply below_drew1) | exact HB.out)) hb); clear HO_7; clear HB; have HO_7 := n0_; have HO252 := n1_; have HB := n2_; clear n0_ n1_ n2_; clear hb ho25) | ((with_reducible refine gate_builtin (b := .append) (xs := #[.tmp 46, .tmp 47]) rfl ?_); (try (refine gate_guard (by rfl) ?_; dsimp only)); at_builtin; refine Kd.R_append_rows (Kd.int .u8) (w0 := w) w.heap.size rfl (.tmp 46) (.tmp 47) 22 5 (.int .u8 0) 1 rfl Try.underlying22 info5 rfl (by decide) (by omega) v251 y250 l0 _ _ _ (fun k_ => some k_ ≠ (v248 : Value).ownBlock) (fun _ => False) rfl rfl ?aO ?aR (fun _ _ h => h) (fun _ h => h.elim) ?aF ?aB ?aS ?aL ?_; (case aR => repeat (first | exact (Kd.C_below HR0.out HB.out) | (with_reducible refine Kd.C_alloc ?_ _) | (with_reducible refine Kd.C_drewN ?_ _) | (with_reducible refine Kd.C_drew ?_))); (case aB => exact (by repeat (first | (with_reducible first | exact HB.out | apply below_alloc | apply pw_below_drewN | apply below_drew1) | exact HB.out))); (case aF => exact (fun k_ hk => Kd.fresh' (Kd.R_lt (by (with_reducible repeat (first | apply Kd.R_alloc | apply Kd.R_drewN | apply Kd.R_drew)); exact HO_7.out)) k_ hk)); (case aO => exact (by (with_reducible repeat (first | apply Kd.R_alloc | apply Kd.R_drewN | apply Kd.R_drew)); exact Kd.R_mono HO252.out (fun _ hk => hk.2))); (case aS => exact (below_size (by repeat (first | (with_reducible first | exact HB.out | apply below_alloc | apply pw_below_drewN | apply below_drew1) | exact HB.out)))); (case aL => have := LMc17.out; omega); intro v254 w26 ho hb hg hat; rw [← Ny253.out] at ho; have n0_ := Aside0.mk (Kd.R_after (ok := (fun _ => True)) (by (with_reducible repeat (first | apply Kd.R_alloc | apply Kd.R_drewN | apply Kd.R_drew)); exact HO_7.out) hg hat); have n1_ := Aside0.mk (hb); have n2_ := Aside0.mk (ho); clear HO_7; clear HB; clear HO252; have HO_7 := n0_; have HB := n1_; have HO255 := n2_; clear n0_ n1_ n2_; clear ho hb hg hat; have p19 : 0 ≤ (0 : Int) := (by omega); have q19 : (0 : Int) < ((y253.length : Int) : Int) := of_decide_eq_true (by first | (with_reducible assumption) | assumption); have qi19 : (0 < y253.length) = True := eq_true (by omega); obtain ⟨go19, co19, eo19, gb19, gl19, cl19, HG19⟩ := Kd.R_form HO255.out (by omega); (first | cases eo19 | (injection eo19 with ea_ en_ ec_; (first | subst ea_ | (injection ea_ with ea_; subst ea_)); subst ec_; clear en_)); have GB19 := Aside0.mk gb19; have GG19 := Aside0.mk HG19; clear gb19 gl19 HG19; obtain ⟨hx19_0, hf19_0⟩ := Kd.R_celln 0 HO255.out (0 : Int) p19 q19; (try rw [show ((0 : Int)).toNat = 0 from rfl] at hx19_0); (try simp only [Nat.reduceMul, Nat.zero_mul, Nat.zero_add, Nat.reduceAdd] at hx19_0); (try rw [show ((0 : Int)).toNat = 0 from rfl] at hf19_0); (try simp only [Nat.reduceMul, Nat.zero_mul, Nat.zero_add, Nat.reduceAdd] at hf19_0); replace p19 := eq_true p19; replace q19 := eq_true q19; obtain ⟨hy27_, hz27_⟩ := Kd.R_celln 0 HO255.out (0 : Int) (by omega) (of_decide_eq_true (by first | (with_reducible assumption) | assumption)); (try simp only [Int.reduceToNat, Int.toNat_zero, Int.toNat_ofNat, Nat.reduceMul, Nat.zero_mul, Nat.zero_add] at hy27_ hz27_); (try rw [show ((0 : Int)).toNat = 0 from rfl] at hy27_); (try rw [show ((0 : Int)).toNat = 0 from rfl] at hz27_); have HP27 := Kd.R_putg HO255.out (0 : Int) 0) | ((with_reducible refine gate_store (t := 5) (p := 50) rfl ?_); refine store_event (t := 5) (p := 50) (v := ?vo_w28) (w1 := (w26.setCell ⟨go19, (0 : Int).toNat, none⟩ (.int .u8 0))) ?hg ?ho ?hn ?hr ?_; (case ho => rfl); (case hg => rfl); (case hn => rfl); (case hr => first | (go_simp; done) | (go_simp; rfl)); intro w28 hw; have hg : w26.grownBy w28 (some go19) := (by rw [hw]; exact HP27.2); have hp_ : Kd.R (Kd.int .u8) 5 w28 w.heap.size (fun k_ => some k_ ≠ (v248 : Value).ownBlock) (.slice (some ⟨go19, 0, none⟩) y253.length co19) y256 := (by rw [hw, Ny256.out]; exact HP27.1); clear HP27; have n0_ := Aside0.mk (Kd.R_after (v := (.slice (some ⟨go19, 0, none⟩) y253.length co19)) (v1 := (.slice (some ⟨go19, 0, none⟩) y253.length co19)) (ok := (fun _ => True)) (by (with_reducible repeat (first | apply Kd.R_alloc | apply Kd.R_drewN | apply Kd.R_drew)); exact HO_7.out) hg (.inl rfl)); have n1_ := Aside0.mk (hp_); have n2_ := Aside0.mk ((by rw [hw]; exact below_set (HB.out) GB19.out : Below w.heap.size w w28)); clear HO_7; clear HO255; clear HB; have HO_7 := n0_; have HO255 := n1_; have HB := n2_; clear n0_ n1_ n2_; clear hg hw hp_; have p21 : 0 ≤ (1 : Int) := (by omega); have q21 : (1 : Int) < ((y253.length : Int) : Int) := of_decide_eq_true (by first | (with_reducible assumption) | assumption); have qi21 : (1 < y253.length) = True := eq_true (by omega); obtain ⟨hx21_0, hf21_0⟩ := Kd.R_celln 0 HO255.out (1 : Int) p21 q21; (try rw [show ((1 : Int)).toNat = 1 from rfl] at hx21_0); (try simp only [Nat.reduceMul, Nat.zero_mul, Nat.zero_add, Nat.reduceAdd] at hx21_0); (try rw [show ((1 : Int)).toNat = 1 from rfl] at hf21_0); (try simp only [Nat.reduceMul, Nat.zero_mul, Nat.zero_add, Nat.reduceAdd] at hf21_0); replace p21 := eq_true p21; replace q21 := eq_true q21; obtain ⟨hy29_, hz29_⟩ := Kd.R_celln 0 HO255.out (1 : Int) (by omega) (of_decide_eq_true (by first | (with_reducible assumption) | assumption)); (try simp only [Int.reduceToNat, Int.toNat_zero, Int.toNat_ofNat, Nat.reduceMul, Nat.zero_mul, Nat.zero_add] at hy29_ hz29_); (try rw [show ((1 : Int)).toNat = 1 from rfl] at hy29_); (try rw [show ((1 : Int)).toNat = 1 from rfl] at hz29_); have HP29 := Kd.R_putg HO255.out (1 : Int) 0) | ((with_reducible refine gate_store (t := 5) (p := 52) rfl ?_); refine store_event (t := 5) (p := 52) (v := ?vo_w30) (w1 := (w28.setCell ⟨go19, (1 : Int).toNat, none⟩ (.int .u8 0))) ?hg ?ho ?hn ?hr ?_; (case ho => rfl); (case hg => rfl); (case hn => rfl); (case hr => first | (go_simp; done) | (go_simp; rfl)); intro w30 hw; have hg : w28.grownBy w30 (some go19) := (by rw [hw]; exact HP29.2); have hp_ : Kd.R (Kd.int .u8) 5 w30 w.heap.size (fun k_ => some k_ ≠ (v248 : Value).ownBlock) (.slice (some ⟨go19, 0, none⟩) y253.length co19) y257 := (by rw [hw, Ny257.out]; exact HP29.1); clear HP29; have n0_ := Aside0.mk (Kd.R_after (v := (.slice (some ⟨go19, 0, none⟩) y253.length co19)) (v1 := (.slice (some ⟨go19, 0, none⟩) y253.length co19)) (ok := (fun _ => True)) (by (with_reducible repeat (first | apply Kd.R_alloc | apply Kd.R_drewN | apply Kd.R_drew)); exact HO_7.out) hg (.inl rfl)); have n1_ := Aside0.mk (hp_); have n2_ := Aside0.mk ((by rw [hw]; exact below_set (HB.out) GB19.out : Below w.heap.size w w30)); clear HO_7; clear HO255; clear HB; have HO_7 := n0_; have HO255 := n1_; have HB := n2_; clear n0_ n1_ n2_; clear hg hw hp_) | ((with_reducible refine gate_callee (f := 29) rfl ?_); refine goesL_ (some 54) rfl rfl Try.func29 (by kernel_rfl) rfl #[.slice (some ⟨go19, 0, none⟩) y257.length co19] rfl (by (try simp only [List.map_toArray, List.map_cons, List.map_nil]); first | done | (rw [show y257.length = y253.length from (Kd.R_reads' HO255.out).1.symm] <;> rfl) | rfl | (simp only [List.length_drop, List.length_take]; rfl)) ?_; (with_reducible refine (sum_Internet.calls kj11 (fun k_ => some k_ = (.slice (some ⟨go19, 0, none⟩) y253.length co19 : Value).ownBlock) _ _ y257 t258 _ ?side1 A22.out).mono ?_); (case side1 => rw [show y257.length = y253.length from (Kd.R_reads' HO255.out).1.symm]; exact Kd.R_V (Kd.R_tight rfl (HO255.out))); rintro e w31 ⟨rfl, hb⟩; refine ⟨_, rfl, ?_⟩; have n0_ := Aside0.mk (Kd.R_below (by (with_reducible repeat (first | apply Kd.R_alloc | apply Kd.R_drewN | apply Kd.R_drew)); exact HO_7.out) hb); have n1_ := Aside0.mk (Kd.R_below (by (with_reducible repeat (first | apply Kd.R_alloc | apply Kd.R_drewN | apply Kd.R_drew)); exact HO255.out) hb); have n2_ := Aside0.mk (below_step (by repeat (first | (with_reducible first | exact HB.out | apply below_alloc | apply pw_below_drewN | apply below_drew1) | exact HB.out)) hb); clear HO_7; clear HO255; clear HB; have HO_7 := n0_; have HO255 := n1_; have HB := n2_; clear n0_ n1_ n2_; (try clear hb); (try clear hb2); (try clear hk); (try clear hi)))
                    (try simp only [Act.put, List.setIfInBounds_toArray, List.set_cons_zero, List.set_cons_succ])
                    go_cut [60] (fun v60 wc => ∃ (kq : Nat) (x60_22 : Bool), v60 = .bool x60_22 ∧ Aside0 (crossroadslaw02_SumFound.j2 kq a1 a2 t246 y257 t258 x60_22 = some r) ∧ Aside0 (kq ≤ kj11) ∧ Aside0 (Kd.R (Kd.int .u8) 5 wc w.heap.size (fun k_ => some k_ ≠ ((.slice (some ⟨go19, 0, none⟩) y253.length co19) : Value).ownBlock) v248 t246) ∧ Aside0 (Kd.R (Kd.int .u8) 5 wc w.heap.size (fun k_ => some k_ ≠ (v248 : Value).ownBlock) (.slice (some ⟨go19, 0, none⟩) y253.length co19) y257) ∧ Aside0 (Below w.heap.size w wc))
                    case first =>
                      have H := HC23.out
                      clear HC23
                      by_cases c32 : t258 < 0
                      · rw [if_pos c32] at H
                        have c32b0 : decide (t258 < 0) = true := decide_eq_true c32
                        clear c32
                        (first | rw [c32b0] | (simp only [i64_w, i32_w]; rw [c32b0]) | skip)
                        have H' := Aside0.mk H
                        clear H
                        go_wp2
                        go_meet
                        case rel => exact ⟨_, (true), (by first | rfl | (simp; done) | (simp [*]; done)), H', ⟨by have := HJ3.out; have := HJ11.out; first | omega | exact Nat.le_refl _⟩, ⟨by (with_reducible repeat (first | apply Kd.R_alloc | apply Kd.R_drewN | apply Kd.R_drew)); exact Kd.R_mono HO_7.out (fun _ hk => hk.2)⟩, ⟨by (with_reducible repeat (first | apply Kd.R_alloc | apply Kd.R_drewN | apply Kd.R_drew)); exact HO255.out⟩, ⟨by repeat (first | (with_reducible first | exact HB.out | apply below_alloc | apply pw_below_drewN | apply below_drew1) | exact HB.out)⟩⟩
                      · rw [if_neg c32] at H
                        have c32b0 : decide (t258 < 0) = false := decide_eq_false c32
                        clear c32
                        (first | rw [c32b0] | (simp only [i64_w, i32_w]; rw [c32b0]) | skip)
                        have H' := Aside0.mk H
                        clear H
                        go_wp2
                        go_meet
                        case rel => exact ⟨_, (decide (t258 > 65535)), (by first | rfl | (simp; done) | (simp [*]; done)), H', ⟨by have := HJ3.out; have := HJ11.out; first | omega | exact Nat.le_refl _⟩, ⟨by (with_reducible repeat (first | apply Kd.R_alloc | apply Kd.R_drewN | apply Kd.R_drew)); exact Kd.R_mono HO_7.out (fun _ hk => hk.2)⟩, ⟨by (with_reducible repeat (first | apply Kd.R_alloc | apply Kd.R_drewN | apply Kd.R_drew)); exact HO255.out⟩, ⟨by repeat (first | (with_reducible first | exact HB.out | apply below_alloc | apply pw_below_drewN | apply below_drew1) | exact HB.out)⟩⟩
                    case rest =>
                      clear HC23
                      try clear c1
                      try clear p1
                      try clear q1
                      try clear hx1
                      try clear qi1
                      try clear c2
                      try clear p2
                      try clear q2
                      try clear hx2
                      try clear qi2
                      try clear c3
                      try clear c5
                      try clear c5b0
                      try clear c5b1
                      try clear c6
                      try clear c6b0
                      try clear c6b1
                      try clear c7
                      try clear c7b0
                      try clear c8
                      try clear c11
                      try clear c14
                      try clear c14b0
                      try clear c14b1
                      try clear c16
                      try clear c17
                      try clear c18
                      try clear c18b0
                      try clear c18b1
                      try clear p19
                      try clear q19
                      try clear hx19
                      try clear qi19
                      try clear hf19
                      try clear c20
                      try clear c20b0
                      try clear c20b1
                      try clear p21
                      try clear q21
                      try clear hx21
                      try clear qi21
                      try clear hf21
                      try clear c25
                      try clear c26
                      try clear c29
                      try clear c32
                      try clear c32b0
                      try clear hx19_0
                      try clear hx21_0
                      try clear p19
                      try clear p2
                      try clear p21
                      try clear q19
                      try clear q21
                      obtain ⟨kq, x60_22, rfl, HA, HJ22, HO_7, HO_9, HB⟩ := hcut
                      have hl9_22 := (Kd.R_reads' HO_9.out).1
                      rw [hl9_22] at HO_9
                      (try simp only [hl9_22])
                      (try simp only [hl9_22] at HO_7)
                      cases kq with
                      | zero => exact absurd HA.out (by simp [crossroadslaw02_SumFound.j2])
                      | succ kj22 =>
                        have H := HA.out
                        clear HA
                        simp only [crossroadslaw02_SumFound.j2] at H
                        by_cases c33 : x60_22 = true
                        · subst c33
                          have H1 : (some false) = some r := by rw [if_pos rfl] at H; exact H
                          clear H
                          have H := H1
                          clear H1
                          exact absurd ((Option.some.inj H).trans HRT.out) (by decide)
                        · replace c33 := Bool.eq_false_iff.mpr c33
                          subst c33
                          have H1 : (if 0 < (y257.length : Int) then (if 1 < (y257.length : Int) then ((some ((y257.set (0 : Int).toNat ((wrap64 (Int.tdiv t258 256)) % 256)).set (1 : Int).toNat ((Int.tmod t258 256) % 256) : List Int)).bind fun y260 => ((sum_Holds.f kj22 y260).bind fun t261 => (if t261 = true then (crossroadslaw02_SumFound.j3 kj22 a1 a2 t246 y260 false) else (crossroadslaw02_SumFound.j3 kj22 a1 a2 t246 y260 (((y257.length : Int) % 2) == 0))))) else (none)) else (none)) = some r := by rw [if_neg (show ¬ (false = true) by decide)] at H; exact H
                          clear H
                          have H := H1
                          clear H1
                          by_cases c34 : 0 < (y257.length : Int)
                          · rw [if_pos c34] at H
                            have c34b0 : decide (0 < (y257.length : Int)) = true := decide_eq_true c34
                            have c34b1 : decide (0 < y257.length) = true := decide_eq_true (by omega)
                            clear c34
                            obtain ⟨y259, hy259⟩ : ∃ y_ : List Int, y_ = (y257.set (0 : Int).toNat ((wrap64 (Int.tdiv t258 256)) % 256)) := ⟨_, rfl⟩
                            replace H : (if 1 < (y257.length : Int) then ((some (y259.set (1 : Int).toNat ((Int.tmod t258 256) % 256) : List Int)).bind fun y260 => ((sum_Holds.f kj22 y260).bind fun t261 => (if t261 = true then (crossroadslaw02_SumFound.j3 kj22 a1 a2 t246 y260 false) else (crossroadslaw02_SumFound.j3 kj22 a1 a2 t246 y260 (((y257.length : Int) % 2) == 0))))) else (none)) = some r := by first | (rw [hy259]; with_reducible exact H) | (have H2_ := (Option.bind_some _ _).symm.trans H; rw [hy259]; with_reducible exact H2_) | (have H2_ := (Option.bind_some _ _).symm.trans H; with_reducible exact H2_) | with_reducible exact H | (rw [hy259]; exact H) | exact H
                            have Ny259 := Aside0.mk hy259
                            clear hy259
                            by_cases c36 : 1 < (y257.length : Int)
                            · rw [if_pos c36] at H
                              have c36b0 : decide (1 < (y257.length : Int)) = true := decide_eq_true c36
                              have c36b1 : decide (1 < y257.length) = true := decide_eq_true (by omega)
                              clear c36
                              obtain ⟨y260, hy260⟩ : ∃ y_ : List Int, y_ = (y259.set (1 : Int).toNat ((Int.tmod t258 256) % 256)) := ⟨_, rfl⟩
                              replace H : ((sum_Holds.f kj22 y260).bind fun t261 => (if t261 = true then (crossroadslaw02_SumFound.j3 kj22 a1 a2 t246 y260 false) else (crossroadslaw02_SumFound.j3 kj22 a1 a2 t246 y260 (((y257.length : Int) % 2) == 0)))) = some r := by first | (rw [hy260]; with_reducible exact H) | (have H2_ := (Option.bind_some _ _).symm.trans H; rw [hy260]; with_reducible exact H2_) | (have H2_ := (Option.bind_some _ _).symm.trans H; with_reducible exact H2_) | with_reducible exact H | (rw [hy260]; exact H) | exact H
                              have Ny260 := Aside0.mk hy260
                              clear hy260
                              have HC38 := Aside0.mk H
                              clear H
                              have p35 : 0 ≤ (0 : Int) := (by omega)
                              have q35 : (0 : Int) < ((y257.length : Int) : Int) := of_decide_eq_true (by first | (with_reducible assumption) | assumption)
                              have qi35 : (0 < y257.length) = True := eq_true (by omega)
                              obtain ⟨hx35_0, hf35_0⟩ := Kd.R_celln 0 HO_9.out (0 : Int) p35 q35
                              (try rw [show ((0 : Int)).toNat = 0 from rfl] at hx35_0)
                              (try simp only [Nat.reduceMul, Nat.zero_mul, Nat.zero_add, Nat.reduceAdd] at hx35_0)
                              (try rw [show ((0 : Int)).toNat = 0 from rfl] at hf35_0)
                              (try simp only [Nat.reduceMul, Nat.zero_mul, Nat.zero_add, Nat.reduceAdd] at hf35_0)
                              replace p35 := eq_true p35
                              replace q35 := eq_true q35
                              have HP39 := Kd.R_putg HO_9.out (0 : Int) ((wrap64 (Int.tdiv t258 256)) % 256)
                              go_upto_region 14 with (first | ((with_reducible refine gate_store (t := 5) (p := 65) rfl ?_); refine store_event (t := 5) (p := 65) (v := ?vo_w40) (w1 := (wc.setCell ⟨go19, (0 : Int).toNat, none⟩ (.int .u8 ((wrap64 (Int.tdiv t258 256)) % 256)))) ?hg ?ho ?hn ?hr ?_; (case ho => rfl); (case hg => rfl); (case hn => rfl); (case hr => first | (go_simp; done) | (go_simp; rfl)); intro w40 hw; have hg : wc.grownBy w40 (some go19) := (by rw [hw]; exact HP39.2); have hp_ : Kd.R (Kd.int .u8) 5 w40 w.heap.size (fun k_ => some k_ ≠ (v248 : Value).ownBlock) (.slice (some ⟨go19, 0, none⟩) y257.length co19) y259 := (by rw [hw, Ny259.out]; exact HP39.1); clear HP39; have n0_ := Aside0.mk (Kd.R_after (v := (.slice (some ⟨go19, 0, none⟩) y257.length co19)) (v1 := (.slice (some ⟨go19, 0, none⟩) y257.length co19)) (ok := (fun _ => True)) (by (with_reducible repeat (first | apply Kd.R_alloc | apply Kd.R_drewN | apply Kd.R_drew)); exact Kd.R_mono HO_7.out (fun _ hk => ⟨trivial, hk⟩)) hg (.inl rfl)); have n1_ := Aside0.mk (hp_); have n2_ := Aside0.mk ((by rw [hw]; exact below_set (HB.out) GB19.out : Below w.heap.size w w40)); clear HO_7; clear HO_9; clear HB; have HO_7 := n0_; have HO_9 := n1_; have HB := n2_; clear n0_ n1_ n2_; clear hg hw hp_; have p37 : 0 ≤ (1 : Int) := (by omega); have q37 : (1 : Int) < ((y257.length : Int) : Int) := of_decide_eq_true (by first | (with_reducible assumption) | assumption); have qi37 : (1 < y257.length) = True := eq_true (by omega); obtain ⟨hx37_0, hf37_0⟩ := Kd.R_celln 0 HO_9.out (1 : Int) p37 q37; (try rw [show ((1 : Int)).toNat = 1 from rfl] at hx37_0); (try simp only [Nat.reduceMul, Nat.zero_mul, Nat.zero_add, Nat.reduceAdd] at hx37_0); (try rw [show ((1 : Int)).toNat = 1 from rfl] at hf37_0); (try simp only [Nat.reduceMul, Nat.zero_mul, Nat.zero_add, Nat.reduceAdd] at hf37_0); replace p37 := eq_true p37; replace q37 := eq_true q37; obtain ⟨hy41_, hz41_⟩ := Kd.R_celln 0 HO_9.out (1 : Int) (by omega) (of_decide_eq_true (by first | (with_reducible assumption) | assumption)); (try simp only [Int.reduceToNat, Int.toNat_zero, Int.toNat_ofNat, Nat.reduceMul, Nat.zero_mul, Nat.zero_add] at hy41_ hz41_); (try rw [show ((1 : Int)).toNat = 1 from rfl] at hy41_); (try rw [show ((1 : Int)).toNat = 1 from rfl] at hz41_); have HP41 := Kd.R_putg HO_9.out (1 : Int) ((Int.tmod t258 256) % 256)) | ((with_reducible refine gate_store (t := 5) (p := 70) rfl ?_); refine store_event (t := 5) (p := 70) (v := ?vo_w42) (w1 := (w40.setCell ⟨go19, (1 : Int).toNat, none⟩ (.int .u8 ((Int.tmod t258 256) % 256)))) ?hg ?ho ?hn ?hr ?_; (case ho => rfl); (case hg => rfl); (case hn => rfl); (case hr => first | (go_simp; done) | (go_simp; rfl)); intro w42 hw; have hg : w40.grownBy w42 (some go19) := (by rw [hw]; exact HP41.2); have hp_ : Kd.R (Kd.int .u8) 5 w42 w.heap.size (fun k_ => some k_ ≠ (v248 : Value).ownBlock) (.slice (some ⟨go19, 0, none⟩) y257.length co19) y260 := (by rw [hw, Ny260.out]; exact HP41.1); clear HP41; have n0_ := Aside0.mk (Kd.R_after (v := (.slice (some ⟨go19, 0, none⟩) y257.length co19)) (v1 := (.slice (some ⟨go19, 0, none⟩) y257.length co19)) (ok := (fun _ => True)) (by (with_reducible repeat (first | apply Kd.R_alloc | apply Kd.R_drewN | apply Kd.R_drew)); exact HO_7.out) hg (.inl rfl)); have n1_ := Aside0.mk (hp_); have n2_ := Aside0.mk ((by rw [hw]; exact below_set (HB.out) GB19.out : Below w.heap.size w w42)); clear HO_7; clear HO_9; clear HB; have HO_7 := n0_; have HO_9 := n1_; have HB := n2_; clear n0_ n1_ n2_; clear hg hw hp_))
                              (try simp only [Act.put, List.setIfInBounds_toArray, List.set_cons_zero, List.set_cons_succ])
                              go_cut [79] (fun v79 wc => ∃ (kq : Nat) (x79_37 : Bool), v79 = .bool x79_37 ∧ Aside0 (crossroadslaw02_SumFound.j3 kq a1 a2 t246 y260 x79_37 = some r) ∧ Aside0 (kq ≤ kj22) ∧ Aside0 (Kd.R (Kd.int .u8) 5 wc w.heap.size (fun k_ => some k_ ≠ ((.slice (some ⟨go19, 0, none⟩) y257.length co19) : Value).ownBlock) v248 t246) ∧ Aside0 (Kd.R (Kd.int .u8) 5 wc w.heap.size (fun k_ => some k_ ≠ (v248 : Value).ownBlock) (.slice (some ⟨go19, 0, none⟩) y257.length co19) y260) ∧ Aside0 (Below w.heap.size w wc))
                              case first =>
                                have H := HC38.out
                                clear HC38
                                replace H := Option.bind_eq_some_iff.mp H
                                obtain ⟨t261, A430, H⟩ := H
                                replace H : (if t261 = true then (crossroadslaw02_SumFound.j3 kj22 a1 a2 t246 y260 false) else (crossroadslaw02_SumFound.j3 kj22 a1 a2 t246 y260 (((y257.length : Int) % 2) == 0))) = some r := H
                                have A43 := Aside0.mk A430
                                clear A430
                                by_cases c44 : t261 = true
                                · subst c44
                                  have H1 : (crossroadslaw02_SumFound.j3 kj22 a1 a2 t246 y260 false) = some r := by rw [if_pos rfl] at H; exact H
                                  clear H
                                  have H := H1
                                  clear H1
                                  have H' := Aside0.mk H
                                  clear H
                                  go_wp2_with (first | ((with_reducible refine gate_callee (f := 30) rfl ?_); refine goesL_ (some 72) rfl rfl Try.func30 (by kernel_rfl) rfl #[.slice (some ⟨go19, 0, none⟩) y260.length co19] rfl (by (try simp only [List.map_toArray, List.map_cons, List.map_nil]); first | done | (rw [show y260.length = y257.length from (Kd.R_reads' HO_9.out).1.symm] <;> rfl) | rfl | (simp only [List.length_drop, List.length_take]; rfl)) ?_; (with_reducible refine (sum_Holds.calls kj22 _ _ y260 true _ ?side1 ?side2 A43.out).mono ?_); (case side1 => repeat (first | exact (Kd.R_reads' HO_9.out).2.2 | (with_reducible refine Kd.C_alloc ?_ _) | (with_reducible refine Kd.C_drewN ?_ _) | (with_reducible refine Kd.C_drew ?_))); (case side2 => rw [show y260.length = y257.length from (Kd.R_reads' HO_9.out).1.symm]; exact (Kd.R_reads' HO_9.out).2.1); rintro e w45 ⟨rfl, hb⟩; refine ⟨_, rfl, ?_⟩; have n0_ := Aside0.mk (Kd.R_below (by (with_reducible repeat (first | apply Kd.R_alloc | apply Kd.R_drewN | apply Kd.R_drew)); exact HO_7.out) hb); have n1_ := Aside0.mk (Kd.R_below (by (with_reducible repeat (first | apply Kd.R_alloc | apply Kd.R_drewN | apply Kd.R_drew)); exact HO_9.out) hb); have n2_ := Aside0.mk (below_step (by repeat (first | (with_reducible first | exact HB.out | apply below_alloc | apply pw_below_drewN | apply below_drew1) | exact HB.out)) hb); clear HO_7; clear HO_9; clear HB; have HO_7 := n0_; have HO_9 := n1_; have HB := n2_; clear n0_ n1_ n2_; (try clear hb); (try clear hb2); (try clear hk); (try clear hi)))
                                  go_meet
                                  case rel => exact ⟨_, (false), (by first | rfl | (simp; done) | (simp [*]; done)), H', ⟨by have := HJ3.out; have := HJ11.out; have := HJ22.out; first | omega | exact Nat.le_refl _⟩, ⟨by (try simp only [hl9_22]); (with_reducible repeat (first | apply Kd.R_alloc | apply Kd.R_drewN | apply Kd.R_drew)); exact Kd.R_mono HO_7.out (fun _ hk => hk.2)⟩, ⟨by (try simp only [hl9_22]); (with_reducible repeat (first | apply Kd.R_alloc | apply Kd.R_drewN | apply Kd.R_drew)); exact HO_9.out⟩, ⟨by repeat (first | (with_reducible first | exact HB.out | apply below_alloc | apply pw_below_drewN | apply below_drew1) | exact HB.out)⟩⟩
                                · replace c44 := Bool.eq_false_iff.mpr c44
                                  subst c44
                                  have H1 : (crossroadslaw02_SumFound.j3 kj22 a1 a2 t246 y260 (((y257.length : Int) % 2) == 0)) = some r := by rw [if_neg (show ¬ (false = true) by decide)] at H; exact H
                                  clear H
                                  have H := H1
                                  clear H1
                                  have H' := Aside0.mk H
                                  clear H
                                  go_wp2_with (first | ((with_reducible refine gate_callee (f := 30) rfl ?_); refine goesL_ (some 72) rfl rfl Try.func30 (by kernel_rfl) rfl #[.slice (some ⟨go19, 0, none⟩) y260.length co19] rfl (by (try simp only [List.map_toArray, List.map_cons, List.map_nil]); first | done | (rw [show y260.length = y257.length from (Kd.R_reads' HO_9.out).1.symm] <;> rfl) | rfl | (simp only [List.length_drop, List.length_take]; rfl)) ?_; (with_reducible refine (sum_Holds.calls kj22 _ _ y260 false _ ?side1 ?side2 A43.out).mono ?_); (case side1 => repeat (first | exact (Kd.R_reads' HO_9.out).2.2 | (with_reducible refine Kd.C_alloc ?_ _) | (with_reducible refine Kd.C_drewN ?_ _) | (with_reducible refine Kd.C_drew ?_))); (case side2 => rw [show y260.length = y257.length from (Kd.R_reads' HO_9.out).1.symm]; exact (Kd.R_reads' HO_9.out).2.1); rintro e w46 ⟨rfl, hb⟩; refine ⟨_, rfl, ?_⟩; have n0_ := Aside0.mk (Kd.R_below (by (with_reducible repeat (first | apply Kd.R_alloc | apply Kd.R_drewN | apply Kd.R_drew)); exact HO_7.out) hb); have n1_ := Aside0.mk (Kd.R_below (by (with_reducible repeat (first | apply Kd.R_alloc | apply Kd.R_drewN | apply Kd.R_drew)); exact HO_9.out) hb); have n2_ := Aside0.mk (below_step (by repeat (first | (with_reducible first | exact HB.out | apply below_alloc | apply pw_below_drewN | apply below_drew1) | exact HB.out)) hb); clear HO_7; clear HO_9; clear HB; have HO_7 := n0_; have HO_9 := n1_; have HB := n2_; clear n0_ n1_ n2_; (try clear hb); (try clear hb2); (try clear hk); (try clear hi)))
                                  go_meet
                                  case rel => exact ⟨_, ((((y257.length : Int) % 2) == 0)), (by first | rfl | (simp; done) | (simp [*]; done)), H', ⟨by have := HJ3.out; have := HJ11.out; have := HJ22.out; first | omega | exact Nat.le_refl _⟩, ⟨by (try simp only [hl9_22]); (with_reducible repeat (first | apply Kd.R_alloc | apply Kd.R_drewN | apply Kd.R_drew)); exact Kd.R_mono HO_7.out (fun _ hk => hk.2)⟩, ⟨by (try simp only [hl9_22]); (with_reducible repeat (first | apply Kd.R_alloc | apply Kd.R_drewN | apply Kd.R_drew)); exact HO_9.out⟩, ⟨by repeat (first | (with_reducible first | exact HB.out | apply below_alloc | apply pw_below_drewN | apply below_drew1) | exact HB.out)⟩⟩
                              case rest =>
                                clear HC38
                                try clear c1
                                try clear p1
                                try clear q1
                                try clear hx1
                                try clear qi1
                                try clear c2
                                try clear p2
                                try clear q2
                                try clear hx2
                                try clear qi2
                                try clear c3
                                try clear p3
                                try clear q3
                                try clear hx3
                                try clear qi3
                                try clear hf3
                                try clear c4
                                try clear c5
                                try clear c5b0
                                try clear c5b1
                                try clear c6
                                try clear c6b0
                                try clear c6b1
                                try clear p6
                                try clear c7
                                try clear c7b0
                                try clear c8
                                try clear c11
                                try clear c14
                                try clear c14b0
                                try clear c14b1
                                try clear c16
                                try clear c17
                                try clear c18
                                try clear c18b0
                                try clear c18b1
                                try clear p19
                                try clear q19
                                try clear hx19
                                try clear qi19
                                try clear hf19
                                try clear c20
                                try clear c20b0
                                try clear c20b1
                                try clear p21
                                try clear q21
                                try clear hx21
                                try clear qi21
                                try clear hf21
                                try clear c25
                                try clear c26
                                try clear c29
                                try clear c30
                                try clear c32
                                try clear c32b0
                                try clear c33
                                try clear c34
                                try clear c34b0
                                try clear c34b1
                                try clear p35
                                try clear q35
                                try clear hx35
                                try clear qi35
                                try clear hf35
                                try clear c36
                                try clear c36b0
                                try clear c36b1
                                try clear p37
                                try clear q37
                                try clear hx37
                                try clear qi37
                                try clear hf37
                                try clear c44
                                try clear hx19_0
                                try clear hx21_0
                                try clear hx35_0
                                try clear hx37_0
                                try clear p1
                                try clear p19
                                try clear p2
                                try clear p21
                                try clear p35
                                try clear p37
                                try clear q1
                                try clear q19
                                try clear q2
                                try clear q21
                                try clear q35
                                try clear q37
                                obtain ⟨kq, x79_37, rfl, HA, HJ37, HO_7, HO_9, HB⟩ := hcut
                                have hl9_37 := (Kd.R_reads' HO_9.out).1
                                rw [hl9_37] at HO_9
                                (try simp only [hl9_37])
                                (try simp only [hl9_37] at HO_7)
                                cases kq with
                                | zero => exact absurd HA.out (by simp [crossroadslaw02_SumFound.j3])
                                | succ kj37 =>
                                  have H := HA.out
                                  clear HA
                                  simp only [crossroadslaw02_SumFound.j3] at H
                                  by_cases c47 : x79_37 = true
                                  · subst c47
                                    have H1 : (some false) = some r := by rw [if_pos rfl] at H; exact H
                                    clear H
                                    have H := H1
                                    clear H1
                                    exact absurd ((Option.some.inj H).trans HRT.out) (by decide)
                                  · replace c47 := Bool.eq_false_iff.mpr c47
                                    subst c47
                                    have H1 : ((crossroadslaw02_spoilt.f t246 a1 a2).bind fun t262 => ((sum_Fits.f t262).bind fun t265 => (if t265 = true then (if 0 ≤ a1 then (if a1 < (t246.length : Int) then (if (rd t246 a1) = a2 then (crossroadslaw02_SumFound.j4 kj37 a1 a2 y260 true) else (if (Go.bits .xor .u8 (rd t246 a1) a2) = 255 then (if a2 = 0 then (crossroadslaw02_SumFound.j4 kj37 a1 a2 y260 true) else (crossroadslaw02_SumFound.j4 kj37 a1 a2 y260 (a2 == 255))) else (crossroadslaw02_SumFound.j4 kj37 a1 a2 y260 false))) else (none)) else (none)) else (crossroadslaw02_SumFound.j4 kj37 a1 a2 y260 true)))) = some r := by rw [if_neg (show ¬ (false = true) by decide)] at H; exact H
                                    clear H
                                    have H := H1
                                    clear H1
                                    have HC48 := Aside0.mk H
                                    clear H
                                    go_upto_region 16 with (fail)
                                    go_cut [11] (fun v11 wc => ∃ (kq : Nat) (x11_47 : Bool), v11 = .bool x11_47 ∧ Aside0 (crossroadslaw02_SumFound.j4 kq a1 a2 y260 x11_47 = some r) ∧ Aside0 (kq ≤ kj37) ∧ Aside0 (Kd.R (Kd.int .u8) 5 wc w.heap.size (fun _ => True) (.slice (some ⟨go19, 0, none⟩) y260.length co19) y260) ∧ Aside0 (Below w.heap.size w wc))
                                    case first =>
                                      have H := HC48.out
                                      clear HC48
                                      replace H := Option.bind_eq_some_iff.mp H
                                      obtain ⟨t262, A490, H⟩ := H
                                      replace H : ((sum_Fits.f t262).bind fun t265 => (if t265 = true then (if 0 ≤ a1 then (if a1 < (t246.length : Int) then (if (rd t246 a1) = a2 then (crossroadslaw02_SumFound.j4 kj37 a1 a2 y260 true) else (if (Go.bits .xor .u8 (rd t246 a1) a2) = 255 then (if a2 = 0 then (crossroadslaw02_SumFound.j4 kj37 a1 a2 y260 true) else (crossroadslaw02_SumFound.j4 kj37 a1 a2 y260 (a2 == 255))) else (crossroadslaw02_SumFound.j4 kj37 a1 a2 y260 false))) else (none)) else (none)) else (crossroadslaw02_SumFound.j4 kj37 a1 a2 y260 true))) = some r := H
                                      have A49 := Aside0.mk A490
                                      clear A490
                                      replace H := Option.bind_eq_some_iff.mp H
                                      obtain ⟨t265, A500, H⟩ := H
                                      replace H : (if t265 = true then (if 0 ≤ a1 then (if a1 < (t246.length : Int) then (if (rd t246 a1) = a2 then (crossroadslaw02_SumFound.j4 kj37 a1 a2 y260 true) else (if (Go.bits .xor .u8 (rd t246 a1) a2) = 255 then (if a2 = 0 then (crossroadslaw02_SumFound.j4 kj37 a1 a2 y260 true) else (crossroadslaw02_SumFound.j4 kj37 a1 a2 y260 (a2 == 255))) else (crossroadslaw02_SumFound.j4 kj37 a1 a2 y260 false))) else (none)) else (none)) else (crossroadslaw02_SumFound.j4 kj37 a1 a2 y260 true)) = some r := H
                                      have A50 := Aside0.mk A500
                                      clear A500
                                      by_cases c51 : t265 = true
                                      · subst c51
                                        have H1 : (if 0 ≤ a1 then (if a1 < (t246.length : Int) then (if (rd t246 a1) = a2 then (crossroadslaw02_SumFound.j4 kj37 a1 a2 y260 true) else (if (Go.bits .xor .u8 (rd t246 a1) a2) = 255 then (if a2 = 0 then (crossroadslaw02_SumFound.j4 kj37 a1 a2 y260 true) else (crossroadslaw02_SumFound.j4 kj37 a1 a2 y260 (a2 == 255))) else (crossroadslaw02_SumFound.j4 kj37 a1 a2 y260 false))) else (none)) else (none)) = some r := by rw [if_pos rfl] at H; exact H
                                        clear H
                                        have H := H1
                                        clear H1
                                        by_cases c52 : 0 ≤ a1
                                        · rw [if_pos c52] at H
                                          have c52b0 : decide (0 ≤ a1) = true := decide_eq_true c52
                                          clear c52
                                          (first | rw [c52b0] | (simp only [i64_w, i32_w]; rw [c52b0]) | skip)
                                          by_cases c53 : a1 < (t246.length : Int)
                                          · rw [if_pos c53] at H
                                            have c53b0 : decide (a1 < (t246.length : Int)) = true := decide_eq_true c53
                                            clear c53
                                            by_cases c54 : (rd t246 a1) = a2
                                            · rw [if_pos c54] at H
                                              have c54b0 : ((rd t246 a1) == a2) = true := beq_iff_eq.mpr c54
                                              have c54b1 : ((rd t246 a1) != a2) = false := bne_eq_false_iff_eq.mpr c54
                                              clear c54
                                              have H' := Aside0.mk H
                                              clear H
                                              obtain ⟨Ao55, co55, eo55⟩ := Kd.R_slice HO_7.out
                                              subst eo55
                                              go_wp2_with (first | ((with_reducible refine gate_callee (f := 35) rfl ?_); refine goesL_ (some 83) rfl rfl Try.func35 (by kernel_rfl) rfl #[.slice Ao55 t246.length co55, .int .i64 a1, .int .u8 a2] rfl (by (try simp only [List.map_toArray, List.map_cons, List.map_nil]); first | done | rfl | (simp only [List.length_drop, List.length_take]; rfl)) ?_; (with_reducible refine (crossroadslaw02_spoilt.calls _ _ t246 a1 a2 t262 _ ?side1 ?side2 A49.out).mono ?_); (case side1 => repeat (first | exact (Kd.R_reads' HO_7.out).2.2 | (with_reducible refine Kd.C_alloc ?_ _) | (with_reducible refine Kd.C_drewN ?_ _) | (with_reducible refine Kd.C_drew ?_))); (case side2 => exact (Kd.R_reads' HO_7.out).2.1); rintro e w56 ⟨v263, rfl, ho0, hb⟩; refine ⟨_, rfl, ?_⟩; have n0_ := Aside0.mk (Kd.R_elder' (by (with_reducible repeat (first | apply Kd.R_alloc | apply Kd.R_drewN | apply Kd.R_drew)); exact HO_7.out) (Kd.R_base ho0) hb); have n1_ := Aside0.mk (Kd.R_elder' (by (with_reducible repeat (first | apply Kd.R_alloc | apply Kd.R_drewN | apply Kd.R_drew)); exact HO_9.out) (Kd.R_base ho0) hb); have n2_ := Aside0.mk (Kd.R_lower (Kd.R_new' (Kd.R_new' ho0 (Kd.R_lt (by (with_reducible repeat (first | apply Kd.R_alloc | apply Kd.R_drewN | apply Kd.R_drew)); exact HO_7.out))) (Kd.R_lt (by (with_reducible repeat (first | apply Kd.R_alloc | apply Kd.R_drewN | apply Kd.R_drew)); exact HO_9.out))) (below_size (by repeat (first | (with_reducible first | exact HB.out | apply below_alloc | apply pw_below_drewN | apply below_drew1) | exact HB.out)))); have n3_ := Aside0.mk (below_step (by repeat (first | (with_reducible first | exact HB.out | apply below_alloc | apply pw_below_drewN | apply below_drew1) | exact HB.out)) hb); clear HO_7; clear HO_9; clear HB; have HO_7 := n0_; have HO_9 := n1_; have HO264 := n2_; have HB := n3_; clear n0_ n1_ n2_ n3_; (try clear hb); (try clear hb2); (try clear hk); (try clear hi); (try clear ho0); obtain ⟨Ao57, co57, eo57⟩ := Kd.R_slice HO264.out; subst eo57) | ((with_reducible refine gate_callee (f := 28) rfl ?_); refine goesL_ (some 84) rfl rfl Try.func28 (by kernel_rfl) rfl #[.slice Ao57 t262.length co57] rfl (by (try simp only [List.map_toArray, List.map_cons, List.map_nil]); first | done | rfl | (simp only [List.length_drop, List.length_take]; rfl)) ?_; (with_reducible refine (sum_Fits.calls _ _ t262 true _ ?side1 ?side2 A50.out).mono ?_); (case side1 => repeat (first | exact (Kd.R_reads' HO264.out).2.2 | (with_reducible refine Kd.C_alloc ?_ _) | (with_reducible refine Kd.C_drewN ?_ _) | (with_reducible refine Kd.C_drew ?_))); (case side2 => exact (Kd.R_reads' HO264.out).2.1); rintro e w' ⟨rfl, ⟨nd, rfl⟩⟩; refine ⟨_, rfl, ?_⟩; have p266 : 0 ≤ (a1 : Int) := of_decide_eq_true (by first | (with_reducible assumption) | assumption); have q266 : a1 < (t246.length : Int) := of_decide_eq_true (by first | (with_reducible assumption) | assumption); obtain ⟨ad266, e266, hx266_0⟩ := Kd.at_int (Kd.R_reads' HO_7.out).2.2 a1 p266 q266; cases e266; replace p266 := eq_true p266; replace q266 := eq_true q266))
                                              go_meet
                                              case rel => exact ⟨_, (true), (by first | rfl | (simp; done) | (simp [*]; done)), H', ⟨by have := HJ3.out; have := HJ11.out; have := HJ22.out; have := HJ37.out; first | omega | exact Nat.le_refl _⟩, ⟨by (try simp only [hl9_22]); (try simp only [hl9_37]); (with_reducible repeat (first | apply Kd.R_alloc | apply Kd.R_drewN | apply Kd.R_drew)); exact Kd.R_mono HO_9.out (fun _ hk => trivial)⟩, ⟨by repeat (first | (with_reducible first | exact HB.out | apply below_alloc | apply pw_below_drewN | apply below_drew1) | exact HB.out)⟩⟩
                                            · rw [if_neg c54] at H
                                              have c54b0 : ((rd t246 a1) == a2) = false := beq_eq_false_iff_ne.mpr c54
                                              have c54b1 : ((rd t246 a1) != a2) = true := bne_iff_ne.mpr c54
                                              by_cases c58 : (Go.bits .xor .u8 (rd t246 a1) a2) = 255
                                              · rw [if_pos c58] at H
                                                have c58b0 : ((Go.bits .xor .u8 (rd t246 a1) a2) == 255) = true := beq_iff_eq.mpr c58
                                                have c58b1 : ((Go.bits .xor .u8 (rd t246 a1) a2) != 255) = false := bne_eq_false_iff_eq.mpr c58
                                                clear c58
                                                by_cases c59 : a2 = 0
                                                · rw [if_pos c59] at H
                                                  have c59b0 : (a2 == 0) = true := beq_iff_eq.mpr c59
                                                  have c59b1 : (a2 != 0) = false := bne_eq_false_iff_eq.mpr c59
                                                  clear c59
                                                  have H' := Aside0.mk H
                                                  clear H
                                                  obtain ⟨Ao60, co60, eo60⟩ := Kd.R_slice HO_7.out
                                                  subst eo60
                                                  go_wp2_with (first | ((with_reducible refine gate_callee (f := 35) rfl ?_); refine goesL_ (some 83) rfl rfl Try.func35 (by kernel_rfl) rfl #[.slice Ao60 t246.length co60, .int .i64 a1, .int .u8 a2] rfl (by (try simp only [List.map_toArray, List.map_cons, List.map_nil]); first | done | rfl | (simp only [List.length_drop, List.length_take]; rfl)) ?_; (with_reducible refine (crossroadslaw02_spoilt.calls _ _ t246 a1 a2 t262 _ ?side1 ?side2 A49.out).mono ?_); (case side1 => repeat (first | exact (Kd.R_reads' HO_7.out).2.2 | (with_reducible refine Kd.C_alloc ?_ _) | (with_reducible refine Kd.C_drewN ?_ _) | (with_reducible refine Kd.C_drew ?_))); (case side2 => exact (Kd.R_reads' HO_7.out).2.1); rintro e w61 ⟨v263, rfl, ho0, hb⟩; refine ⟨_, rfl, ?_⟩; have n0_ := Aside0.mk (Kd.R_elder' (by (with_reducible repeat (first | apply Kd.R_alloc | apply Kd.R_drewN | apply Kd.R_drew)); exact HO_7.out) (Kd.R_base ho0) hb); have n1_ := Aside0.mk (Kd.R_elder' (by (with_reducible repeat (first | apply Kd.R_alloc | apply Kd.R_drewN | apply Kd.R_drew)); exact HO_9.out) (Kd.R_base ho0) hb); have n2_ := Aside0.mk (Kd.R_lower (Kd.R_new' (Kd.R_new' ho0 (Kd.R_lt (by (with_reducible repeat (first | apply Kd.R_alloc | apply Kd.R_drewN | apply Kd.R_drew)); exact HO_7.out))) (Kd.R_lt (by (with_reducible repeat (first | apply Kd.R_alloc | apply Kd.R_drewN | apply Kd.R_drew)); exact HO_9.out))) (below_size (by repeat (first | (with_reducible first | exact HB.out | apply below_alloc | apply pw_below_drewN | apply below_drew1) | exact HB.out)))); have n3_ := Aside0.mk (below_step (by repeat (first | (with_reducible first | exact HB.out | apply below_alloc | apply pw_below_drewN | apply below_drew1) | exact HB.out)) hb); clear HO_7; clear HO_9; clear HB; have HO_7 := n0_; have HO_9 := n1_; have HO264 := n2_; have HB := n3_; clear n0_ n1_ n2_ n3_; (try clear hb); (try clear hb2); (try clear hk); (try clear hi); (try clear ho0); obtain ⟨Ao62, co62, eo62⟩ := Kd.R_slice HO264.out; subst eo62) | ((with_reducible refine gate_callee (f := 28) rfl ?_); refine goesL_ (some 84) rfl rfl Try.func28 (by kernel_rfl) rfl #[.slice Ao62 t262.length co62] rfl (by (try simp only [List.map_toArray, List.map_cons, List.map_nil]); first | done | rfl | (simp only [List.length_drop, List.length_take]; rfl)) ?_; (with_reducible refine (sum_Fits.calls _ _ t262 true _ ?side1 ?side2 A50.out).mono ?_); (case side1 => repeat (first | exact (Kd.R_reads' HO264.out).2.2 | (with_reducible refine Kd.C_alloc ?_ _) | (with_reducible refine Kd.C_drewN ?_ _) | (with_reducible refine Kd.C_drew ?_))); (case side2 => exact (Kd.R_reads' HO264.out).2.1); rintro e w' ⟨rfl, ⟨nd, rfl⟩⟩; refine ⟨_, rfl, ?_⟩; have p266 : 0 ≤ (a1 : Int) := of_decide_eq_true (by first | (with_reducible assumption) | assumption); have q266 : a1 < (t246.length : Int) := of_decide_eq_true (by first | (with_reducible assumption) | assumption); obtain ⟨ad266, e266, hx266_0⟩ := Kd.at_int (Kd.R_reads' HO_7.out).2.2 a1 p266 q266; cases e266; replace p266 := eq_true p266; replace q266 := eq_true q266; have p267 : 0 ≤ (a1 : Int) := of_decide_eq_true (by first | (with_reducible assumption) | assumption); have q267 : a1 < (t246.length : Int) := of_decide_eq_true (by first | (with_reducible assumption) | assumption); obtain ⟨ad267, e267, hx267_0⟩ := Kd.at_int (Kd.R_reads' HO_7.out).2.2 a1 p267 q267; obtain rfl : ad266 = ad267 := (by injection e267); replace p267 := eq_true p267; replace q267 := eq_true q267))
                                                  go_meet
                                                  case rel => exact ⟨_, (true), (by first | rfl | (simp; done) | (simp [*]; done)), H', ⟨by have := HJ3.out; have := HJ11.out; have := HJ22.out; have := HJ37.out; first | omega | exact Nat.le_refl _⟩, ⟨by (try simp only [hl9_22]); (try simp only [hl9_37]); (with_reducible repeat (first | apply Kd.R_alloc | apply Kd.R_drewN | apply Kd.R_drew)); exact Kd.R_mono HO_9.out (fun _ hk => trivial)⟩, ⟨by repeat (first | (with_reducible first | exact HB.out | apply below_alloc | apply pw_below_drewN | apply below_drew1) | exact HB.out)⟩⟩
                                                · rw [if_neg c59] at H
                                                  have c59b0 : (a2 == 0) = false := beq_eq_false_iff_ne.mpr c59
                                                  have c59b1 : (a2 != 0) = true := bne_iff_ne.mpr c59
                                                  have H' := Aside0.mk H
                                                  clear H
                                                  obtain ⟨Ao63, co63, eo63⟩ := Kd.R_slice HO_7.out
                                                  subst eo63
                                                  go_wp2_with (first | ((with_reducible refine gate_callee (f := 35) rfl ?_); refine goesL_ (some 83) rfl rfl Try.func35 (by kernel_rfl) rfl #[.slice Ao63 t246.length co63, .int .i64 a1, .int .u8 a2] rfl (by (try simp only [List.map_toArray, List.map_cons, List.map_nil]); first | done | rfl | (simp only [List.length_drop, List.length_take]; rfl)) ?_; (with_reducible refine (crossroadslaw02_spoilt.calls _ _ t246 a1 a2 t262 _ ?side1 ?side2 A49.out).mono ?_); (case side1 => repeat (first | exact (Kd.R_reads' HO_7.out).2.2 | (with_reducible refine Kd.C_alloc ?_ _) | (with_reducible refine Kd.C_drewN ?_ _) | (with_reducible refine Kd.C_drew ?_))); (case side2 => exact (Kd.R_reads' HO_7.out).2.1); rintro e w64 ⟨v263, rfl, ho0, hb⟩; refine ⟨_, rfl, ?_⟩; have n0_ := Aside0.mk (Kd.R_elder' (by (with_reducible repeat (first | apply Kd.R_alloc | apply Kd.R_drewN | apply Kd.R_drew)); exact HO_7.out) (Kd.R_base ho0) hb); have n1_ := Aside0.mk (Kd.R_elder' (by (with_reducible repeat (first | apply Kd.R_alloc | apply Kd.R_drewN | apply Kd.R_drew)); exact HO_9.out) (Kd.R_base ho0) hb); have n2_ := Aside0.mk (Kd.R_lower (Kd.R_new' (Kd.R_new' ho0 (Kd.R_lt (by (with_reducible repeat (first | apply Kd.R_alloc | apply Kd.R_drewN | apply Kd.R_drew)); exact HO_7.out))) (Kd.R_lt (by (with_reducible repeat (first | apply Kd.R_alloc | apply Kd.R_drewN | apply Kd.R_drew)); exact HO_9.out))) (below_size (by repeat (first | (with_reducible first | exact HB.out | apply below_alloc | apply pw_below_drewN | apply below_drew1) | exact HB.out)))); have n3_ := Aside0.mk (below_step (by repeat (first | (with_reducible first | exact HB.out | apply below_alloc | apply pw_below_drewN | apply below_drew1) | exact HB.out)) hb); clear HO_7; clear HO_9; clear HB; have HO_7 := n0_; have HO_9 := n1_; have HO264 := n2_; have HB := n3_; clear n0_ n1_ n2_ n3_; (try clear hb); (try clear hb2); (try clear hk); (try clear hi); (try clear ho0); obtain ⟨Ao65, co65, eo65⟩ := Kd.R_slice HO264.out; subst eo65) | ((with_reducible refine gate_callee (f := 28) rfl ?_); refine goesL_ (some 84) rfl rfl Try.func28 (by kernel_rfl) rfl #[.slice Ao65 t262.length co65] rfl (by (try simp only [List.map_toArray, List.map_cons, List.map_nil]); first | done | rfl | (simp only [List.length_drop, List.length_take]; rfl)) ?_; (with_reducible refine (sum_Fits.calls _ _ t262 true _ ?side1 ?side2 A50.out).mono ?_); (case side1 => repeat (first | exact (Kd.R_reads' HO264.out).2.2 | (with_reducible refine Kd.C_alloc ?_ _) | (with_reducible refine Kd.C_drewN ?_ _) | (with_reducible refine Kd.C_drew ?_))); (case side2 => exact (Kd.R_reads' HO264.out).2.1); rintro e w' ⟨rfl, ⟨nd, rfl⟩⟩; refine ⟨_, rfl, ?_⟩; have p266 : 0 ≤ (a1 : Int) := of_decide_eq_true (by first | (with_reducible assumption) | assumption); have q266 : a1 < (t246.length : Int) := of_decide_eq_true (by first | (with_reducible assumption) | assumption); obtain ⟨ad266, e266, hx266_0⟩ := Kd.at_int (Kd.R_reads' HO_7.out).2.2 a1 p266 q266; cases e266; replace p266 := eq_true p266; replace q266 := eq_true q266; have p267 : 0 ≤ (a1 : Int) := of_decide_eq_true (by first | (with_reducible assumption) | assumption); have q267 : a1 < (t246.length : Int) := of_decide_eq_true (by first | (with_reducible assumption) | assumption); obtain ⟨ad267, e267, hx267_0⟩ := Kd.at_int (Kd.R_reads' HO_7.out).2.2 a1 p267 q267; obtain rfl : ad266 = ad267 := (by injection e267); replace p267 := eq_true p267; replace q267 := eq_true q267))
                                                  go_meet
                                                  case rel => exact ⟨_, ((a2 == 255)), (by first | rfl | (simp; done) | (simp [*]; done)), H', ⟨by have := HJ3.out; have := HJ11.out; have := HJ22.out; have := HJ37.out; first | omega | exact Nat.le_refl _⟩, ⟨by (try simp only [hl9_22]); (try simp only [hl9_37]); (with_reducible repeat (first | apply Kd.R_alloc | apply Kd.R_drewN | apply Kd.R_drew)); exact Kd.R_mono HO_9.out (fun _ hk => trivial)⟩, ⟨by repeat (first | (with_reducible first | exact HB.out | apply below_alloc | apply pw_below_drewN | apply below_drew1) | exact HB.out)⟩⟩
                                              · rw [if_neg c58] at H
                                                have c58b0 : ((Go.bits .xor .u8 (rd t246 a1) a2) == 255) = false := beq_eq_false_iff_ne.mpr c58
                                                have c58b1 : ((Go.bits .xor .u8 (rd t246 a1) a2) != 255) = true := bne_iff_ne.mpr c58
                                                have H' := Aside0.mk H
                                                clear H
                                                obtain ⟨Ao66, co66, eo66⟩ := Kd.R_slice HO_7.out
                                                subst eo66
                                                go_wp2_with (first | ((with_reducible refine gate_callee (f := 35) rfl ?_); refine goesL_ (some 83) rfl rfl Try.func35 (by kernel_rfl) rfl #[.slice Ao66 t246.length co66, .int .i64 a1, .int .u8 a2] rfl (by (try simp only [List.map_toArray, List.map_cons, List.map_nil]); first | done | rfl | (simp only [List.length_drop, List.length_take]; rfl)) ?_; (with_reducible refine (crossroadslaw02_spoilt.calls _ _ t246 a1 a2 t262 _ ?side1 ?side2 A49.out).mono ?_); (case side1 => repeat (first | exact (Kd.R_reads' HO_7.out).2.2 | (with_reducible refine Kd.C_alloc ?_ _) | (with_reducible refine Kd.C_drewN ?_ _) | (with_reducible refine Kd.C_drew ?_))); (case side2 => exact (Kd.R_reads' HO_7.out).2.1); rintro e w67 ⟨v263, rfl, ho0, hb⟩; refine ⟨_, rfl, ?_⟩; have n0_ := Aside0.mk (Kd.R_elder' (by (with_reducible repeat (first | apply Kd.R_alloc | apply Kd.R_drewN | apply Kd.R_drew)); exact HO_7.out) (Kd.R_base ho0) hb); have n1_ := Aside0.mk (Kd.R_elder' (by (with_reducible repeat (first | apply Kd.R_alloc | apply Kd.R_drewN | apply Kd.R_drew)); exact HO_9.out) (Kd.R_base ho0) hb); have n2_ := Aside0.mk (Kd.R_lower (Kd.R_new' (Kd.R_new' ho0 (Kd.R_lt (by (with_reducible repeat (first | apply Kd.R_alloc | apply Kd.R_drewN | apply Kd.R_drew)); exact HO_7.out))) (Kd.R_lt (by (with_reducible repeat (first | apply Kd.R_alloc | apply Kd.R_drewN | apply Kd.R_drew)); exact HO_9.out))) (below_size (by repeat (first | (with_reducible first | exact HB.out | apply below_alloc | apply pw_below_drewN | apply below_drew1) | exact HB.out)))); have n3_ := Aside0.mk (below_step (by repeat (first | (with_reducible first | exact HB.out | apply below_alloc | apply pw_below_drewN | apply below_drew1) | exact HB.out)) hb); clear HO_7; clear HO_9; clear HB; have HO_7 := n0_; have HO_9 := n1_; have HO264 := n2_; have HB := n3_; clear n0_ n1_ n2_ n3_; (try clear hb); (try clear hb2); (try clear hk); (try clear hi); (try clear ho0); obtain ⟨Ao68, co68, eo68⟩ := Kd.R_slice HO264.out; subst eo68) | ((with_reducible refine gate_callee (f := 28) rfl ?_); refine goesL_ (some 84) rfl rfl Try.func28 (by kernel_rfl) rfl #[.slice Ao68 t262.length co68] rfl (by (try simp only [List.map_toArray, List.map_cons, List.map_nil]); first | done | rfl | (simp only [List.length_drop, List.length_take]; rfl)) ?_; (with_reducible refine (sum_Fits.calls _ _ t262 true _ ?side1 ?side2 A50.out).mono ?_); (case side1 => repeat (first | exact (Kd.R_reads' HO264.out).2.2 | (with_reducible refine Kd.C_alloc ?_ _) | (with_reducible refine Kd.C_drewN ?_ _) | (with_reducible refine Kd.C_drew ?_))); (case side2 => exact (Kd.R_reads' HO264.out).2.1); rintro e w' ⟨rfl, ⟨nd, rfl⟩⟩; refine ⟨_, rfl, ?_⟩; have p266 : 0 ≤ (a1 : Int) := of_decide_eq_true (by first | (with_reducible assumption) | assumption); have q266 : a1 < (t246.length : Int) := of_decide_eq_true (by first | (with_reducible assumption) | assumption); obtain ⟨ad266, e266, hx266_0⟩ := Kd.at_int (Kd.R_reads' HO_7.out).2.2 a1 p266 q266; cases e266; replace p266 := eq_true p266; replace q266 := eq_true q266; have p267 : 0 ≤ (a1 : Int) := of_decide_eq_true (by first | (with_reducible assumption) | assumption); have q267 : a1 < (t246.length : Int) := of_decide_eq_true (by first | (with_reducible assumption) | assumption); obtain ⟨ad267, e267, hx267_0⟩ := Kd.at_int (Kd.R_reads' HO_7.out).2.2 a1 p267 q267; obtain rfl : ad266 = ad267 := (by injection e267); replace p267 := eq_true p267; replace q267 := eq_true q267))
                                                go_meet
                                                case rel => exact ⟨_, (false), (by first | rfl | (simp; done) | (simp [*]; done)), H', ⟨by have := HJ3.out; have := HJ11.out; have := HJ22.out; have := HJ37.out; first | omega | exact Nat.le_refl _⟩, ⟨by (try simp only [hl9_22]); (try simp only [hl9_37]); (with_reducible repeat (first | apply Kd.R_alloc | apply Kd.R_drewN | apply Kd.R_drew)); exact Kd.R_mono HO_9.out (fun _ hk => trivial)⟩, ⟨by repeat (first | (with_reducible first | exact HB.out | apply below_alloc | apply pw_below_drewN | apply below_drew1) | exact HB.out)⟩⟩
                                          · rw [if_neg c53] at H
                                            exact absurd H (by simp)
                                        · rw [if_neg c52] at H
                                          exact absurd H (by simp)
                                      · replace c51 := Bool.eq_false_iff.mpr c51
                                        subst c51
                                        have H1 : (crossroadslaw02_SumFound.j4 kj37 a1 a2 y260 true) = some r := by rw [if_neg (show ¬ (false = true) by decide)] at H; exact H
                                        clear H
                                        have H := H1
                                        clear H1
                                        have H' := Aside0.mk H
                                        clear H
                                        obtain ⟨Ao69, co69, eo69⟩ := Kd.R_slice HO_7.out
                                        subst eo69
                                        go_wp2_with (first | ((with_reducible refine gate_callee (f := 35) rfl ?_); refine goesL_ (some 83) rfl rfl Try.func35 (by kernel_rfl) rfl #[.slice Ao69 t246.length co69, .int .i64 a1, .int .u8 a2] rfl (by (try simp only [List.map_toArray, List.map_cons, List.map_nil]); first | done | rfl | (simp only [List.length_drop, List.length_take]; rfl)) ?_; (with_reducible refine (crossroadslaw02_spoilt.calls _ _ t246 a1 a2 t262 _ ?side1 ?side2 A49.out).mono ?_); (case side1 => repeat (first | exact (Kd.R_reads' HO_7.out).2.2 | (with_reducible refine Kd.C_alloc ?_ _) | (with_reducible refine Kd.C_drewN ?_ _) | (with_reducible refine Kd.C_drew ?_))); (case side2 => exact (Kd.R_reads' HO_7.out).2.1); rintro e w70 ⟨v263, rfl, ho0, hb⟩; refine ⟨_, rfl, ?_⟩; have n0_ := Aside0.mk (Kd.R_elder' (by (with_reducible repeat (first | apply Kd.R_alloc | apply Kd.R_drewN | apply Kd.R_drew)); exact HO_7.out) (Kd.R_base ho0) hb); have n1_ := Aside0.mk (Kd.R_elder' (by (with_reducible repeat (first | apply Kd.R_alloc | apply Kd.R_drewN | apply Kd.R_drew)); exact HO_9.out) (Kd.R_base ho0) hb); have n2_ := Aside0.mk (Kd.R_lower (Kd.R_new' (Kd.R_new' ho0 (Kd.R_lt (by (with_reducible repeat (first | apply Kd.R_alloc | apply Kd.R_drewN | apply Kd.R_drew)); exact HO_7.out))) (Kd.R_lt (by (with_reducible repeat (first | apply Kd.R_alloc | apply Kd.R_drewN | apply Kd.R_drew)); exact HO_9.out))) (below_size (by repeat (first | (with_reducible first | exact HB.out | apply below_alloc | apply pw_below_drewN | apply below_drew1) | exact HB.out)))); have n3_ := Aside0.mk (below_step (by repeat (first | (with_reducible first | exact HB.out | apply below_alloc | apply pw_below_drewN | apply below_drew1) | exact HB.out)) hb); clear HO_7; clear HO_9; clear HB; have HO_7 := n0_; have HO_9 := n1_; have HO264 := n2_; have HB := n3_; clear n0_ n1_ n2_ n3_; (try clear hb); (try clear hb2); (try clear hk); (try clear hi); (try clear ho0); obtain ⟨Ao71, co71, eo71⟩ := Kd.R_slice HO264.out; subst eo71) | ((with_reducible refine gate_callee (f := 28) rfl ?_); refine goesL_ (some 84) rfl rfl Try.func28 (by kernel_rfl) rfl #[.slice Ao71 t262.length co71] rfl (by (try simp only [List.map_toArray, List.map_cons, List.map_nil]); first | done | rfl | (simp only [List.length_drop, List.length_take]; rfl)) ?_; (with_reducible refine (sum_Fits.calls _ _ t262 false _ ?side1 ?side2 A50.out).mono ?_); (case side1 => repeat (first | exact (Kd.R_reads' HO264.out).2.2 | (with_reducible refine Kd.C_alloc ?_ _) | (with_reducible refine Kd.C_drewN ?_ _) | (with_reducible refine Kd.C_drew ?_))); (case side2 => exact (Kd.R_reads' HO264.out).2.1); rintro e w' ⟨rfl, ⟨nd, rfl⟩⟩; refine ⟨_, rfl, ?_⟩))
                                        go_meet
                                        case rel => exact ⟨_, (true), (by first | rfl | (simp; done) | (simp [*]; done)), H', ⟨by have := HJ3.out; have := HJ11.out; have := HJ22.out; have := HJ37.out; first | omega | exact Nat.le_refl _⟩, ⟨by (try simp only [hl9_22]); (try simp only [hl9_37]); (with_reducible repeat (first | apply Kd.R_alloc | apply Kd.R_drewN | apply Kd.R_drew)); exact Kd.R_mono HO_9.out (fun _ hk => trivial)⟩, ⟨by repeat (first | (with_reducible first | exact HB.out | apply below_alloc | apply pw_below_drewN | apply below_drew1) | exact HB.out)⟩⟩
                                    case rest =>
                                      clear HC48
                                      try clear c1
                                      try clear p1
                                      try clear q1
                                      try clear hx1
                                      try clear qi1
                                      try clear c2
                                      try clear p2
                                      try clear q2
                                      try clear hx2
                                      try clear qi2
                                      try clear c3
                                      try clear p3
                                      try clear q3
                                      try clear hx3
                                      try clear qi3
                                      try clear hf3
                                      try clear c4
                                      try clear c5
                                      try clear c5b0
                                      try clear c5b1
                                      try clear c6
                                      try clear c6b0
                                      try clear c6b1
                                      try clear p6
                                      try clear c7
                                      try clear c7b0
                                      try clear c8
                                      try clear c11
                                      try clear c14
                                      try clear c14b0
                                      try clear c14b1
                                      try clear c16
                                      try clear c17
                                      try clear c18
                                      try clear c18b0
                                      try clear c18b1
                                      try clear p19
                                      try clear q19
                                      try clear hx19
                                      try clear qi19
                                      try clear hf19
                                      try clear c20
                                      try clear c20b0
                                      try clear c20b1
                                      try clear p21
                                      try clear q21
                                      try clear hx21
                                      try clear qi21
                                      try clear hf21
                                      try clear c25
                                      try clear c26
                                      try clear p26
                                      try clear q26
                                      try clear hx26
                                      try clear c28
                                      try clear c29
                                      try clear c30
                                      try clear c32
                                      try clear c32b0
                                      try clear c33
                                      try clear c34
                                      try clear c34b0
                                      try clear c34b1
                                      try clear c35
                                      try clear p35
                                      try clear q35
                                      try clear hx35
                                      try clear qi35
                                      try clear hf35
                                      try clear c36
                                      try clear c36b0
                                      try clear c36b1
                                      try clear p37
                                      try clear q37
                                      try clear hx37
                                      try clear qi37
                                      try clear hf37
                                      try clear c44
                                      try clear c47
                                      try clear c51
                                      try clear c52
                                      try clear c52b0
                                      try clear c53
                                      try clear c53b0
                                      try clear c54
                                      try clear c54b0
                                      try clear c54b1
                                      try clear c58
                                      try clear c58b0
                                      try clear c58b1
                                      try clear c59
                                      try clear c59b0
                                      try clear c59b1
                                      try clear p64
                                      try clear hx19_0
                                      try clear hx21_0
                                      try clear hx266_0
                                      try clear hx267_0
                                      try clear hx35_0
                                      try clear hx37_0
                                      try clear p1
                                      try clear p19
                                      try clear p2
                                      try clear p21
                                      try clear p266
                                      try clear p267
                                      try clear p3
                                      try clear p35
                                      try clear p37
                                      try clear p6
                                      try clear q1
                                      try clear q19
                                      try clear q2
                                      try clear q21
                                      try clear q266
                                      try clear q267
                                      try clear q3
                                      try clear q35
                                      try clear q37
                                      obtain ⟨kq, x11_47, rfl, HA, HJ47, HO_9, HB⟩ := hcut
                                      cases kq with
                                      | zero => exact absurd HA.out (by simp [crossroadslaw02_SumFound.j4])
                                      | succ kj47 =>
                                        have H := HA.out
                                        clear HA
                                        simp only [crossroadslaw02_SumFound.j4] at H
                                        replace H := Option.bind_eq_some_iff.mp H
                                        obtain ⟨t268, A720, H⟩ := H
                                        replace H : ((sum_Holds.f kj47 t268).bind fun t271 => (if t271 = true then (if 0 ≤ a1 then (if a1 < (y260.length : Int) then (if (rd y260 a1) = a2 then ((crossroadslaw02_alive.f kj47).bind fun t273 => (if t273 = true then (if x11_47 = true then (some true) else (some false)) else (some false))) else ((sum_Holds.f kj47 y260).bind fun t274 => ((crossroadslaw02_alive.f kj47).bind fun t275 => (if t275 = true then (if x11_47 = true then (some (!t274)) else (some false)) else (some false))))) else (none)) else (none)) else ((crossroadslaw02_alive.f kj47).bind fun t276 => (if t276 = true then (if x11_47 = true then (some true) else (some false)) else (some false))))) = some r := H
                                        have A72 := Aside0.mk A720
                                        clear A720
                                        replace H := Option.bind_eq_some_iff.mp H
                                        obtain ⟨t271, A730, H⟩ := H
                                        replace H : (if t271 = true then (if 0 ≤ a1 then (if a1 < (y260.length : Int) then (if (rd y260 a1) = a2 then ((crossroadslaw02_alive.f kj47).bind fun t273 => (if t273 = true then (if x11_47 = true then (some true) else (some false)) else (some false))) else ((sum_Holds.f kj47 y260).bind fun t274 => ((crossroadslaw02_alive.f kj47).bind fun t275 => (if t275 = true then (if x11_47 = true then (some (!t274)) else (some false)) else (some false))))) else (none)) else (none)) else ((crossroadslaw02_alive.f kj47).bind fun t276 => (if t276 = true then (if x11_47 = true then (some true) else (some false)) else (some false)))) = some r := H
                                        have A73 := Aside0.mk A730
                                        clear A730
                                        by_cases c74 : t271 = true
                                        · subst c74
                                          have H1 : (if 0 ≤ a1 then (if a1 < (y260.length : Int) then (if (rd y260 a1) = a2 then ((crossroadslaw02_alive.f kj47).bind fun t273 => (if t273 = true then (if x11_47 = true then (some true) else (some false)) else (some false))) else ((sum_Holds.f kj47 y260).bind fun t274 => ((crossroadslaw02_alive.f kj47).bind fun t275 => (if t275 = true then (if x11_47 = true then (some (!t274)) else (some false)) else (some false))))) else (none)) else (none)) = some r := by rw [if_pos rfl] at H; exact H
                                          clear H
                                          have H := H1
                                          clear H1
                                          by_cases c75 : 0 ≤ a1
                                          · rw [if_pos c75] at H
                                            have c75b0 : decide (0 ≤ a1) = true := decide_eq_true c75
                                            clear c75
                                            by_cases c76 : a1 < (y260.length : Int)
                                            · rw [if_pos c76] at H
                                              have c76b0 : decide (a1 < (y260.length : Int)) = true := decide_eq_true c76
                                              clear c76
                                              by_cases c77 : (rd y260 a1) = a2
                                              · rw [if_pos c77] at H
                                                have c77b0 : ((rd y260 a1) == a2) = true := beq_iff_eq.mpr c77
                                                have c77b1 : ((rd y260 a1) != a2) = false := bne_eq_false_iff_eq.mpr c77
                                                clear c77
                                                replace H := Option.bind_eq_some_iff.mp H
                                                obtain ⟨t273, A780, H⟩ := H
                                                replace H : (if t273 = true then (if x11_47 = true then (some true) else (some false)) else (some false)) = some r := H
                                                have A78 := Aside0.mk A780
                                                clear A780
                                                by_cases c79 : t273 = true
                                                · subst c79
                                                  have H1 : (if x11_47 = true then (some true) else (some false)) = some r := by rw [if_pos rfl] at H; exact H
                                                  clear H
                                                  have H := H1
                                                  clear H1
                                                  by_cases c80 : x11_47 = true
                                                  · subst c80
                                                    have H1 : (some true) = some r := by rw [if_pos rfl] at H; exact H
                                                    clear H
                                                    have H := H1
                                                    clear H1
                                                    obtain rfl := Option.some.inj H
                                                    go_wp2_with (first | ((with_reducible refine gate_callee (f := 35) rfl ?_); refine goesL_ (some 114) rfl rfl Try.func35 (by kernel_rfl) rfl #[.slice (some ⟨go19, 0, none⟩) y260.length co19, .int .i64 a1, .int .u8 a2] rfl (by (try simp only [List.map_toArray, List.map_cons, List.map_nil]); first | done | rfl | (simp only [List.length_drop, List.length_take]; rfl)) ?_; (with_reducible refine (crossroadslaw02_spoilt.calls _ _ y260 a1 a2 t268 _ ?side1 ?side2 A72.out).mono ?_); (case side1 => repeat (first | exact (Kd.R_reads' HO_9.out).2.2 | (with_reducible refine Kd.C_alloc ?_ _) | (with_reducible refine Kd.C_drewN ?_ _) | (with_reducible refine Kd.C_drew ?_))); (case side2 => exact (Kd.R_reads' HO_9.out).2.1); rintro e w81 ⟨v269, rfl, ho0, hb⟩; refine ⟨_, rfl, ?_⟩; have n0_ := Aside0.mk (Kd.R_elder' (by (with_reducible repeat (first | apply Kd.R_alloc | apply Kd.R_drewN | apply Kd.R_drew)); exact HO_9.out) (Kd.R_base ho0) hb); have n1_ := Aside0.mk (Kd.R_lower (Kd.R_new' ho0 (Kd.R_lt (by (with_reducible repeat (first | apply Kd.R_alloc | apply Kd.R_drewN | apply Kd.R_drew)); exact HO_9.out))) (below_size (by repeat (first | (with_reducible first | exact HB.out | apply below_alloc | apply pw_below_drewN | apply below_drew1) | exact HB.out)))); have n2_ := Aside0.mk (below_step (by repeat (first | (with_reducible first | exact HB.out | apply below_alloc | apply pw_below_drewN | apply below_drew1) | exact HB.out)) hb); clear HO_9; clear HB; have HO_9 := n0_; have HO270 := n1_; have HB := n2_; clear n0_ n1_ n2_; (try clear hb); (try clear hb2); (try clear hk); (try clear hi); (try clear ho0); obtain ⟨Ao82, co82, eo82⟩ := Kd.R_slice HO270.out; subst eo82) | ((with_reducible refine gate_callee (f := 30) rfl ?_); refine goesL_ (some 115) rfl rfl Try.func30 (by kernel_rfl) rfl #[.slice Ao82 t268.length co82] rfl (by (try simp only [List.map_toArray, List.map_cons, List.map_nil]); first | done | rfl | (simp only [List.length_drop, List.length_take]; rfl)) ?_; (with_reducible refine (sum_Holds.calls kj47 _ _ t268 true _ ?side1 ?side2 A73.out).mono ?_); (case side1 => repeat (first | exact (Kd.R_reads' HO270.out).2.2 | (with_reducible refine Kd.C_alloc ?_ _) | (with_reducible refine Kd.C_drewN ?_ _) | (with_reducible refine Kd.C_drew ?_))); (case side2 => exact (Kd.R_reads' HO270.out).2.1); rintro e w83 ⟨rfl, hb⟩; refine ⟨_, rfl, ?_⟩; have n0_ := Aside0.mk (Kd.R_below (by (with_reducible repeat (first | apply Kd.R_alloc | apply Kd.R_drewN | apply Kd.R_drew)); exact HO_9.out) hb); have n1_ := Aside0.mk (Kd.R_below (by (with_reducible repeat (first | apply Kd.R_alloc | apply Kd.R_drewN | apply Kd.R_drew)); exact HO270.out) hb); have n2_ := Aside0.mk (below_step (by repeat (first | (with_reducible first | exact HB.out | apply below_alloc | apply pw_below_drewN | apply below_drew1) | exact HB.out)) hb); clear HO_9; clear HO270; clear HB; have HO_9 := n0_; have HO270 := n1_; have HB := n2_; clear n0_ n1_ n2_; (try clear hb); (try clear hb2); (try clear hk); (try clear hi); have p272 : 0 ≤ (a1 : Int) := of_decide_eq_true (by first | (with_reducible assumption) | assumption); have q272 : a1 < (y260.length : Int) := of_decide_eq_true (by first | (with_reducible assumption) | assumption); obtain ⟨ad272, e272, hx272_0⟩ := Kd.at_int (Kd.R_reads' HO_9.out).2.2 a1 p272 q272; obtain rfl : (⟨go19, 0, none⟩ : Addr) = ad272 := (by injection e272); (first | simp only [add_plain] at hx272_0 | simp only [add_at] at hx272_0 | simp only [Addr.add, Nat.zero_add] at hx272_0 | skip); replace p272 := eq_true p272; replace q272 := eq_true q272) | ((with_reducible refine gate_callee (f := 25) rfl ?_); refine goesL_ (some 130) rfl rfl Try.func25 (by kernel_rfl) rfl #[] rfl (by (try simp only [List.map_toArray, List.map_cons, List.map_nil]); first | done | rfl | (simp only [List.length_drop, List.length_take]; rfl)) ?_; (with_reducible refine (crossroadslaw02_alive.calls kj47  true _ A78.out).mono ?_); rintro e w84 ⟨rfl, hb⟩; refine ⟨_, rfl, ?_⟩; have n0_ := Aside0.mk (Kd.R_below (by (with_reducible repeat (first | apply Kd.R_alloc | apply Kd.R_drewN | apply Kd.R_drew)); exact HO_9.out) hb); have n1_ := Aside0.mk (Kd.R_below (by (with_reducible repeat (first | apply Kd.R_alloc | apply Kd.R_drewN | apply Kd.R_drew)); exact HO270.out) hb); have n2_ := Aside0.mk (below_step (by repeat (first | (with_reducible first | exact HB.out | apply below_alloc | apply pw_below_drewN | apply below_drew1) | exact HB.out)) hb); clear HO_9; clear HO270; clear HB; have HO_9 := n0_; have HO270 := n1_; have HB := n2_; clear n0_ n1_ n2_; (try clear hb); (try clear hb2); (try clear hk); (try clear hi)))
                                                    go_ret
                                                    exact ⟨by first | rfl | (simp [errW_none, errW_some] <;> rfl) | (simp [*, errW_none, errW_some] <;> rfl), by repeat (first | (with_reducible first | exact HB.out | apply below_alloc | apply pw_below_drewN | apply below_drew1) | exact HB.out)⟩
                                                  · replace c80 := Bool.eq_false_iff.mpr c80
                                                    subst c80
                                                    have H1 : (some false) = some r := by rw [if_neg (show ¬ (false = true) by decide)] at H; exact H
                                                    clear H
                                                    have H := H1
                                                    clear H1
                                                    exact absurd ((Option.some.inj H).trans HRT.out) (by decide)
                                                · replace c79 := Bool.eq_false_iff.mpr c79
                                                  subst c79
                                                  have H1 : (some false) = some r := by rw [if_neg (show ¬ (false = true) by decide)] at H; exact H
                                                  clear H
                                                  have H := H1
                                                  clear H1
                                                  exact absurd ((Option.some.inj H).trans HRT.out) (by decide)
                                              · rw [if_neg c77] at H
                                                have c77b0 : ((rd y260 a1) == a2) = false := beq_eq_false_iff_ne.mpr c77
                                                have c77b1 : ((rd y260 a1) != a2) = true := bne_iff_ne.mpr c77
                                                replace H := Option.bind_eq_some_iff.mp H
                                                obtain ⟨t274, A850, H⟩ := H
                                                replace H : ((crossroadslaw02_alive.f kj47).bind fun t275 => (if t275 = true then (if x11_47 = true then (some (!t274)) else (some false)) else (some false))) = some r := H
                                                have A85 := Aside0.mk A850
                                                clear A850
                                                replace H := Option.bind_eq_some_iff.mp H
                                                obtain ⟨t275, A860, H⟩ := H
                                                replace H : (if t275 = true then (if x11_47 = true then (some (!t274)) else (some false)) else (some false)) = some r := H
                                                have A86 := Aside0.mk A860
                                                clear A860
                                                by_cases c87 : t275 = true
                                                · subst c87
                                                  have H1 : (if x11_47 = true then (some (!t274)) else (some false)) = some r := by rw [if_pos rfl] at H; exact H
                                                  clear H
                                                  have H := H1
                                                  clear H1
                                                  by_cases c88 : x11_47 = true
                                                  · subst c88
                                                    have H1 : (some (!t274)) = some r := by rw [if_pos rfl] at H; exact H
                                                    clear H
                                                    have H := H1
                                                    clear H1
                                                    obtain rfl := Option.some.inj H
                                                    go_wp2_with (first | ((with_reducible refine gate_callee (f := 35) rfl ?_); refine goesL_ (some 114) rfl rfl Try.func35 (by kernel_rfl) rfl #[.slice (some ⟨go19, 0, none⟩) y260.length co19, .int .i64 a1, .int .u8 a2] rfl (by (try simp only [List.map_toArray, List.map_cons, List.map_nil]); first | done | rfl | (simp only [List.length_drop, List.length_take]; rfl)) ?_; (with_reducible refine (crossroadslaw02_spoilt.calls _ _ y260 a1 a2 t268 _ ?side1 ?side2 A72.out).mono ?_); (case side1 => repeat (first | exact (Kd.R_reads' HO_9.out).2.2 | (with_reducible refine Kd.C_alloc ?_ _) | (with_reducible refine Kd.C_drewN ?_ _) | (with_reducible refine Kd.C_drew ?_))); (case side2 => exact (Kd.R_reads' HO_9.out).2.1); rintro e w89 ⟨v269, rfl, ho0, hb⟩; refine ⟨_, rfl, ?_⟩; have n0_ := Aside0.mk (Kd.R_elder' (by (with_reducible repeat (first | apply Kd.R_alloc | apply Kd.R_drewN | apply Kd.R_drew)); exact HO_9.out) (Kd.R_base ho0) hb); have n1_ := Aside0.mk (Kd.R_lower (Kd.R_new' ho0 (Kd.R_lt (by (with_reducible repeat (first | apply Kd.R_alloc | apply Kd.R_drewN | apply Kd.R_drew)); exact HO_9.out))) (below_size (by repeat (first | (with_reducible first | exact HB.out | apply below_alloc | apply pw_below_drewN | apply below_drew1) | exact HB.out)))); have n2_ := Aside0.mk (below_step (by repeat (first | (with_reducible first | exact HB.out | apply below_alloc | apply pw_below_drewN | apply below_drew1) | exact HB.out)) hb); clear HO_9; clear HB; have HO_9 := n0_; have HO270 := n1_; have HB := n2_; clear n0_ n1_ n2_; (try clear hb); (try clear hb2); (try clear hk); (try clear hi); (try clear ho0); obtain ⟨Ao90, co90, eo90⟩ := Kd.R_slice HO270.out; subst eo90) | ((with_reducible refine gate_callee (f := 30) rfl ?_); refine goesL_ (some 115) rfl rfl Try.func30 (by kernel_rfl) rfl #[.slice Ao90 t268.length co90] rfl (by (try simp only [List.map_toArray, List.map_cons, List.map_nil]); first | done | rfl | (simp only [List.length_drop, List.length_take]; rfl)) ?_; (with_reducible refine (sum_Holds.calls kj47 _ _ t268 true _ ?side1 ?side2 A73.out).mono ?_); (case side1 => repeat (first | exact (Kd.R_reads' HO270.out).2.2 | (with_reducible refine Kd.C_alloc ?_ _) | (with_reducible refine Kd.C_drewN ?_ _) | (with_reducible refine Kd.C_drew ?_))); (case side2 => exact (Kd.R_reads' HO270.out).2.1); rintro e w91 ⟨rfl, hb⟩; refine ⟨_, rfl, ?_⟩; have n0_ := Aside0.mk (Kd.R_below (by (with_reducible repeat (first | apply Kd.R_alloc | apply Kd.R_drewN | apply Kd.R_drew)); exact HO_9.out) hb); have n1_ := Aside0.mk (Kd.R_below (by (with_reducible repeat (first | apply Kd.R_alloc | apply Kd.R_drewN | apply Kd.R_drew)); exact HO270.out) hb); have n2_ := Aside0.mk (below_step (by repeat (first | (with_reducible first | exact HB.out | apply below_alloc | apply pw_below_drewN | apply below_drew1) | exact HB.out)) hb); clear HO_9; clear HO270; clear HB; have HO_9 := n0_; have HO270 := n1_; have HB := n2_; clear n0_ n1_ n2_; (try clear hb); (try clear hb2); (try clear hk); (try clear hi); have p272 : 0 ≤ (a1 : Int) := of_decide_eq_true (by first | (with_reducible assumption) | assumption); have q272 : a1 < (y260.length : Int) := of_decide_eq_true (by first | (with_reducible assumption) | assumption); obtain ⟨ad272, e272, hx272_0⟩ := Kd.at_int (Kd.R_reads' HO_9.out).2.2 a1 p272 q272; obtain rfl : (⟨go19, 0, none⟩ : Addr) = ad272 := (by injection e272); (first | simp only [add_plain] at hx272_0 | simp only [add_at] at hx272_0 | simp only [Addr.add, Nat.zero_add] at hx272_0 | skip); replace p272 := eq_true p272; replace q272 := eq_true q272) | (go_at_call 30; (with_reducible refine (sum_Holds.calls kj47 _ _ y260 t274 _ ?side1 ?side2 A85.out).mono ?_); (case side1 => repeat (first | exact (Kd.R_reads' HO_9.out).2.2 | (with_reducible refine Kd.C_alloc ?_ _) | (with_reducible refine Kd.C_drewN ?_ _) | (with_reducible refine Kd.C_drew ?_))); (case side2 => exact (Kd.R_reads' HO_9.out).2.1); rintro e w92 ⟨rfl, hb⟩; have n0_ := Aside0.mk (Kd.R_below (by (with_reducible repeat (first | apply Kd.R_alloc | apply Kd.R_drewN | apply Kd.R_drew)); exact HO_9.out) hb); have n1_ := Aside0.mk (Kd.R_below (by (with_reducible repeat (first | apply Kd.R_alloc | apply Kd.R_drewN | apply Kd.R_drew)); exact HO270.out) hb); have n2_ := Aside0.mk (below_step (by repeat (first | (with_reducible first | exact HB.out | apply below_alloc | apply pw_below_drewN | apply below_drew1) | exact HB.out)) hb); clear HO_9; clear HO270; clear HB; have HO_9 := n0_; have HO270 := n1_; have HB := n2_; clear n0_ n1_ n2_; (try clear hb); (try clear hb2); (try clear hk); (try clear hi)) | ((with_reducible refine gate_callee (f := 25) rfl ?_); refine goesL_ (some 130) rfl rfl Try.func25 (by kernel_rfl) rfl #[] rfl (by (try simp only [List.map_toArray, List.map_cons, List.map_nil]); first | done | rfl | (simp only [List.length_drop, List.length_take]; rfl)) ?_; (with_reducible refine (crossroadslaw02_alive.calls kj47  true _ A86.out).mono ?_); rintro e w93 ⟨rfl, hb⟩; refine ⟨_, rfl, ?_⟩; have n0_ := Aside0.mk (Kd.R_below (by (with_reducible repeat (first | apply Kd.R_alloc | apply Kd.R_drewN | apply Kd.R_drew)); exact HO_9.out) hb); have n1_ := Aside0.mk (Kd.R_below (by (with_reducible repeat (first | apply Kd.R_alloc | apply Kd.R_drewN | apply Kd.R_drew)); exact HO270.out) hb); have n2_ := Aside0.mk (below_step (by repeat (first | (with_reducible first | exact HB.out | apply below_alloc | apply pw_below_drewN | apply below_drew1) | exact HB.out)) hb); clear HO_9; clear HO270; clear HB; have HO_9 := n0_; have HO270 := n1_; have HB := n2_; clear n0_ n1_ n2_; (try clear hb); (try clear hb2); (try clear hk); (try clear hi)))
                                                    go_ret
                                                    exact ⟨by first | rfl | (simp [errW_none, errW_some] <;> rfl) | (simp [*, errW_none, errW_some] <;> rfl), by repeat (first | (with_reducible first | exact HB.out | apply below_alloc | apply pw_below_drewN | apply below_drew1) | exact HB.out)⟩
                                                  · replace c88 := Bool.eq_false_iff.mpr c88
                                                    subst c88
                                                    have H1 : (some false) = some r := by rw [if_neg (show ¬ (false = true) by decide)] at H; exact H
                                                    clear H
                                                    have H := H1
                                                    clear H1
                                                    exact absurd ((Option.some.inj H).trans HRT.out) (by decide)
                                                · replace c87 := Bool.eq_false_iff.mpr c87
                                                  subst c87
                                                  have H1 : (some false) = some r := by rw [if_neg (show ¬ (false = true) by decide)] at H; exact H
                                                  clear H
                                                  have H := H1
                                                  clear H1
                                                  exact absurd ((Option.some.inj H).trans HRT.out) (by decide)
                                            · rw [if_neg c76] at H
                                              exact absurd H (by simp)
                                          · rw [if_neg c75] at H
                                            exact absurd H (by simp)
                                        · replace c74 := Bool.eq_false_iff.mpr c74
                                          subst c74
                                          have H1 : ((crossroadslaw02_alive.f kj47).bind fun t276 => (if t276 = true then (if x11_47 = true then (some true) else (some false)) else (some false))) = some r := by rw [if_neg (show ¬ (false = true) by decide)] at H; exact H
                                          clear H
                                          have H := H1
                                          clear H1
                                          replace H := Option.bind_eq_some_iff.mp H
                                          obtain ⟨t276, A940, H⟩ := H
                                          replace H : (if t276 = true then (if x11_47 = true then (some true) else (some false)) else (some false)) = some r := H
                                          have A94 := Aside0.mk A940
                                          clear A940
                                          by_cases c95 : t276 = true
                                          · subst c95
                                            have H1 : (if x11_47 = true then (some true) else (some false)) = some r := by rw [if_pos rfl] at H; exact H
                                            clear H
                                            have H := H1
                                            clear H1
                                            by_cases c96 : x11_47 = true
                                            · subst c96
                                              have H1 : (some true) = some r := by rw [if_pos rfl] at H; exact H
                                              clear H
                                              have H := H1
                                              clear H1
                                              obtain rfl := Option.some.inj H
                                              go_wp2_with (first | ((with_reducible refine gate_callee (f := 35) rfl ?_); refine goesL_ (some 114) rfl rfl Try.func35 (by kernel_rfl) rfl #[.slice (some ⟨go19, 0, none⟩) y260.length co19, .int .i64 a1, .int .u8 a2] rfl (by (try simp only [List.map_toArray, List.map_cons, List.map_nil]); first | done | rfl | (simp only [List.length_drop, List.length_take]; rfl)) ?_; (with_reducible refine (crossroadslaw02_spoilt.calls _ _ y260 a1 a2 t268 _ ?side1 ?side2 A72.out).mono ?_); (case side1 => repeat (first | exact (Kd.R_reads' HO_9.out).2.2 | (with_reducible refine Kd.C_alloc ?_ _) | (with_reducible refine Kd.C_drewN ?_ _) | (with_reducible refine Kd.C_drew ?_))); (case side2 => exact (Kd.R_reads' HO_9.out).2.1); rintro e w97 ⟨v269, rfl, ho0, hb⟩; refine ⟨_, rfl, ?_⟩; have n0_ := Aside0.mk (Kd.R_elder' (by (with_reducible repeat (first | apply Kd.R_alloc | apply Kd.R_drewN | apply Kd.R_drew)); exact HO_9.out) (Kd.R_base ho0) hb); have n1_ := Aside0.mk (Kd.R_lower (Kd.R_new' ho0 (Kd.R_lt (by (with_reducible repeat (first | apply Kd.R_alloc | apply Kd.R_drewN | apply Kd.R_drew)); exact HO_9.out))) (below_size (by repeat (first | (with_reducible first | exact HB.out | apply below_alloc | apply pw_below_drewN | apply below_drew1) | exact HB.out)))); have n2_ := Aside0.mk (below_step (by repeat (first | (with_reducible first | exact HB.out | apply below_alloc | apply pw_below_drewN | apply below_drew1) | exact HB.out)) hb); clear HO_9; clear HB; have HO_9 := n0_; have HO270 := n1_; have HB := n2_; clear n0_ n1_ n2_; (try clear hb); (try clear hb2); (try clear hk); (try clear hi); (try clear ho0); obtain ⟨Ao98, co98, eo98⟩ := Kd.R_slice HO270.out; subst eo98) | ((with_reducible refine gate_callee (f := 30) rfl ?_); refine goesL_ (some 115) rfl rfl Try.func30 (by kernel_rfl) rfl #[.slice Ao98 t268.length co98] rfl (by (try simp only [List.map_toArray, List.map_cons, List.map_nil]); first | done | rfl | (simp only [List.length_drop, List.length_take]; rfl)) ?_; (with_reducible refine (sum_Holds.calls kj47 _ _ t268 false _ ?side1 ?side2 A73.out).mono ?_); (case side1 => repeat (first | exact (Kd.R_reads' HO270.out).2.2 | (with_reducible refine Kd.C_alloc ?_ _) | (with_reducible refine Kd.C_drewN ?_ _) | (with_reducible refine Kd.C_drew ?_))); (case side2 => exact (Kd.R_reads' HO270.out).2.1); rintro e w99 ⟨rfl, hb⟩; refine ⟨_, rfl, ?_⟩; have n0_ := Aside0.mk (Kd.R_below (by (with_reducible repeat (first | apply Kd.R_alloc | apply Kd.R_drewN | apply Kd.R_drew)); exact HO_9.out) hb); have n1_ := Aside0.mk (Kd.R_below (by (with_reducible repeat (first | apply Kd.R_alloc | apply Kd.R_drewN | apply Kd.R_drew)); exact HO270.out) hb); have n2_ := Aside0.mk (below_step (by repeat (first | (with_reducible first | exact HB.out | apply below_alloc | apply pw_below_drewN | apply below_drew1) | exact HB.out)) hb); clear HO_9; clear HO270; clear HB; have HO_9 := n0_; have HO270 := n1_; have HB := n2_; clear n0_ n1_ n2_; (try clear hb); (try clear hb2); (try clear hk); (try clear hi)) | ((with_reducible refine gate_callee (f := 25) rfl ?_); refine goesL_ (some 130) rfl rfl Try.func25 (by kernel_rfl) rfl #[] rfl (by (try simp only [List.map_toArray, List.map_cons, List.map_nil]); first | done | rfl | (simp only [List.length_drop, List.length_take]; rfl)) ?_; (with_reducible refine (crossroadslaw02_alive.calls kj47  true _ A94.out).mono ?_); rintro e w100 ⟨rfl, hb⟩; refine ⟨_, rfl, ?_⟩; have n0_ := Aside0.mk (Kd.R_below (by (with_reducible repeat (first | apply Kd.R_alloc | apply Kd.R_drewN | apply Kd.R_drew)); exact HO_9.out) hb); have n1_ := Aside0.mk (Kd.R_below (by (with_reducible repeat (first | apply Kd.R_alloc | apply Kd.R_drewN | apply Kd.R_drew)); exact HO270.out) hb); have n2_ := Aside0.mk (below_step (by repeat (first | (with_reducible first | exact HB.out | apply below_alloc | apply pw_below_drewN | apply below_drew1) | exact HB.out)) hb); clear HO_9; clear HO270; clear HB; have HO_9 := n0_; have HO270 := n1_; have HB := n2_; clear n0_ n1_ n2_; (try clear hb); (try clear hb2); (try clear hk); (try clear hi)))
                                              go_ret
                                              exact ⟨by first | rfl | (simp [errW_none, errW_some] <;> rfl) | (simp [*, errW_none, errW_some] <;> rfl), by repeat (first | (with_reducible first | exact HB.out | apply below_alloc | apply pw_below_drewN | apply below_drew1) | exact HB.out)⟩
                                            · replace c96 := Bool.eq_false_iff.mpr c96
                                              subst c96
                                              have H1 : (some false) = some r := by rw [if_neg (show ¬ (false = true) by decide)] at H; exact H
                                              clear H
                                              have H := H1
                                              clear H1
                                              exact absurd ((Option.some.inj H).trans HRT.out) (by decide)
                                          · replace c95 := Bool.eq_false_iff.mpr c95
                                            subst c95
                                            have H1 : (some false) = some r := by rw [if_neg (show ¬ (false = true) by decide)] at H; exact H
                                            clear H
                                            have H := H1
                                            clear H1
                                            exact absurd ((Option.some.inj H).trans HRT.out) (by decide)
                            · rw [if_neg c36] at H
                              exact absurd H (by simp)
                          · rw [if_neg c34] at H
                            exact absurd H (by simp)
                  · rw [if_neg c20] at H
                    exact absurd H (by simp)
                · rw [if_neg c18] at H
                  exact absurd H (by simp)
              · rw [if_neg c17] at H
                exact absurd H (by simp)

/-- THE ONE PURE STATEMENT of crossroadslaw02_SumFound: yours. -/
def crossroadslaw02_SumFound.Pure : Prop := ∀ (l0 : List Int) (a1 : Int) (a2 : Int), l0.length ≤ maxLen → l0.length * 1 ≤ 140737488351232 → (∀ x ∈ l0, (Lit.int .u8 x).wf = true) → (Lit.int .i64 a1).wf = true → (Lit.int .u8 a2).wf = true → ∃ k, crossroadslaw02_SumFound.f k l0 a1 a2 = some true
theorem crossroadslaw02_SumFound.walk (P : crossroadslaw02_SumFound.Pure) (a0 : Option Addr) (len0 cap0 : Nat) (z0 : List Int) (a1 : Int) (a2 : Int) (w : World) (w0 : (a0 = none ∧ len0 = 0 ∧ cap0 = 0 ∧ z0 = []) ∨ ∃ x, a0 = some x ∧ len0 ≤ cap0 ∧ cap0 ≤ maxLen ∧ z0.length = cap0 ∧ (∀ i, i < z0.length → w.cell? (x.add i) = some (.int .u8 (z0.getD i 0))) ∧ ∀ n ∈ z0, (Lit.int .u8 n).wf = true) (y0 : len0 * 1 ≤ 140737488351232) (w1 : (Lit.int .i64 a1).wf = true) (w2 : (Lit.int .u8 a2).wf = true) :
    Calls Try.prog 11 #[.slice a0 len0 cap0, .int .i64 a1, .int .u8 a2] w fun e w' => e = .returned (.bool true) ∧ Below w.heap.size w w' := by
  obtain ⟨l0, rfl, hr0, hm0, hw0, hc0⟩ := ReadsInt.ofRowC w0
  obtain ⟨k, h⟩ := P l0 a1 a2 hm0 y0 hw0 w1 w2
  refine (crossroadslaw02_SumFound.calls k _ _ l0 a1 a2 true w (Kd.C_of_reads (d := (0 : Int)) (h1 := fun _ => rfl) hr0) hc0 h ⟨rfl⟩).mono ?_
  rintro e w' ⟨rfl, hd⟩
  exact ⟨rfl, hd⟩

end Go.Proofs.Ytdclgppcemjcdaa.PSum
