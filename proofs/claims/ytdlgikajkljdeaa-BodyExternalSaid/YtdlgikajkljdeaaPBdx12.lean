-- Written by this session's own program (wip/print), out of the translation.
import Derived.Test.YtdlgikajkljdeaaPBdx0
import Derived.Test.YtdlgikajkljdeaaPBdx8
import Derived.Test.YtdlgikajkljdeaaPBdx9
namespace Go.Proofs.Ytdlgikajkljdeaa.PBd
open Go.RowKit Go.Proofs.YtdlgikajkljdeaaW.PrintWords Go.Proofs.YtdlgikajkljdeaaW.PrintLast Go.Proofs.YtdlgikajkljdeaaW.PrintMore
attribute [local go_sem] max2_int min2_int max_two min_two max_three min_three max_four min_four   -- for this text's walks alone
set_option linter.unusedVariables false
set_option linter.unusedSimpArgs false

/-! ### crossroadsref12_ReadExternal: function 23 -/
def crossroadsref12_ReadExternal.j0 : Nat → List Int → Bool → Option (Int × Bool × Int × Int × Int × Int)
  | 0, _, _ => none
  | k + 1, x0, x24 => if x24 = true then (some (0, false, 0, 0, 0, 3)) else ((crossroadsref01_Rows.f k x0 4).bind fun bt394 => (if 0 < (bt394.1.length : Int) then ((crossroadsref12_isMask.f k (rd bt394.1 0)).bind fun t399 => (if t399 = true then (if 4 < (x0.length : Int) then (if 1 < (bt394.1.length : Int) then (if 2 < (bt394.1.length : Int) then (if 3 < (bt394.1.length : Int) then (some (rd bt394.1 0, ((rd x0 4) == 128), wrap64 (Int.tmod (rd bt394.1 1) 16777216), rd bt394.1 2, rd bt394.1 3, 0)) else (none)) else (none)) else (none)) else (none)) else (some (0, false, 0, 0, 0, 3)))) else (none)))
def crossroadsref12_ReadExternal.f (k : Nat) (l0 : List Int) : Option (Int × Bool × Int × Int × Int × Int) := if (l0.length : Int) < 16 then (some (0, false, 0, 0, 0, 2)) else (if (l0.length : Int) > 16 then (crossroadsref12_ReadExternal.j0 k l0 true) else (if 4 < (l0.length : Int) then (if (rd l0 4) = 0 then (crossroadsref12_ReadExternal.j0 k l0 false) else (crossroadsref12_ReadExternal.j0 k l0 ((rd l0 4) != 128))) else (none)))
theorem crossroadsref12_ReadExternal.mono_l : ∀ k, (∀ y0 y1, LeO (crossroadsref12_ReadExternal.j0 k y0 y1) (crossroadsref12_ReadExternal.j0 (k + 1) y0 y1))
  | 0 => fun _ _ r h => by simp [crossroadsref12_ReadExternal.j0] at h
  | k + 1 => by
    have ih0 := crossroadsref12_ReadExternal.mono_l k
    · intro y0 y1
      unfold crossroadsref12_ReadExternal.j0
      repeat' first
      | (with_reducible exact ih0 _ _)
      | (with_reducible exact crossroadsref01_Rows.mono _ _ _)
      | (with_reducible exact crossroadsref12_isMask.mono _ _)
      | (with_reducible exact LeO.refl _)
      | (with_reducible exact LeO.none _)
      | (with_reducible refine LeO.ite ?_ ?_)
      | (with_reducible refine LeO.bind ?_ (fun _ => ?_))
      | exact ih0 _ _
      | exact crossroadsref01_Rows.mono _ _ _
      | exact crossroadsref12_isMask.mono _ _
      | exact LeO.none _
      | refine LeO.ite ?_ ?_
      | refine LeO.bind ?_ (fun _ => ?_)
theorem crossroadsref12_ReadExternal.mono : ∀ a0 k, LeO (crossroadsref12_ReadExternal.f k a0) (crossroadsref12_ReadExternal.f (k + 1) a0) := by
  intro a0 k
  have ih0 := crossroadsref12_ReadExternal.mono_l k
  unfold crossroadsref12_ReadExternal.f
  repeat' first
      | (with_reducible exact ih0 _ _)
      | (with_reducible exact crossroadsref01_Rows.mono _ _ _)
      | (with_reducible exact crossroadsref12_isMask.mono _ _)
      | (with_reducible exact LeO.refl _)
      | (with_reducible exact LeO.none _)
      | (with_reducible refine LeO.ite ?_ ?_)
      | (with_reducible refine LeO.bind ?_ (fun _ => ?_))
      | exact ih0 _ _
      | exact crossroadsref01_Rows.mono _ _ _
      | exact crossroadsref12_isMask.mono _ _
      | exact LeO.none _
      | refine LeO.ite ?_ ?_
      | refine LeO.bind ?_ (fun _ => ?_)
def crossroadsref12_ReadExternal.T8 : Bool × List (List Nat × List Nat) := (true, [([], []), ([0], [0]), ([1], [1]), ([], []), ([3], [3]), ([4], [4]), ([5], [5]), ([], []), ([7], [7]), ([8], [8]), ([9], [9]), ([10], [10]), ([], []), ([12], [12]), ([13], [13]), ([], []), ([15], [15]), ([16], [16]), ([2, 6, 11, 14, 17], [2, 6, 11, 14, 17]), ([18, 0, 1, 2, 3, 4, 5, 6, 7, 8, 9, 10, 11, 12, 13, 14, 15, 16, 17, 18], [18]), ([19, 0, 1, 2, 3, 4, 5, 6, 7, 8, 9, 10, 11, 12, 13, 14, 15, 16, 17, 18, 19], [])])
def crossroadsref12_ReadExternal.B8 : List Nat := [0, 1, 3, 0, 8, 24, 56, 0, 128, 384, 896, 1920, 0, 4096, 12288, 0, 32768, 98304, 262143, 524287, 1048575]
theorem crossroadsref12_ReadExternal.tab8 : rtab .any (opsOf Try.f23 8) = crossroadsref12_ReadExternal.T8 := by kernel_rfl
theorem crossroadsref12_ReadExternal.bits8 : waitsOk crossroadsref12_ReadExternal.T8.2 crossroadsref12_ReadExternal.B8 = true := by kernel_rfl
set_option maxHeartbeats 8000000 in
set_option maxRecDepth 100000 in
theorem crossroadsref12_ReadExternal.calls (k : Nat) (A0 : Option Addr) (c0 : Nat) (l0 : List Int) (r1 : Int) (r2 : Bool) (r3 : Int) (r4 : Int) (r5 : Int) (r6 : Int) (w : World) (hr0 : Kd.C (Kd.int .u8) w A0 l0.length l0) (hc0 : l0.length ≤ c0) (h : crossroadsref12_ReadExternal.f k l0 = some (r1, r2, r3, r4, r5, r6)) :
    Calls Try.prog 23 #[.slice A0 l0.length c0] w fun e w' => e = .returned (.tuple #[.agg #[.int .u32 r1, .bool r2, .int .i64 r3, .int .u32 r4, .int .u32 r5], .int .i64 r6]) ∧ Below w.heap.size w w' := by
  have hu59 := Try.underlying59
  have HR0 := Aside0.mk hr0
  have HC0 := Aside0.mk hc0
  clear hr0 hc0
  have HB := Aside0.mk (Below.refl w.heap.size w)
  have H : (if (l0.length : Int) < 16 then (some (0, false, 0, 0, 0, 2)) else (if (l0.length : Int) > 16 then (crossroadsref12_ReadExternal.j0 k l0 true) else (if 4 < (l0.length : Int) then (if (rd l0 4) = 0 then (crossroadsref12_ReadExternal.j0 k l0 false) else (crossroadsref12_ReadExternal.j0 k l0 ((rd l0 4) != 128))) else (none)))) = some (r1, r2, r3, r4, r5, r6) := h
  clear h
  by_cases c2 : (l0.length : Int) < 16
  · rw [if_pos c2] at H
    have c2b0 : decide ((l0.length : Int) < 16) = true := decide_eq_true c2
    have c2b1 : decide (l0.length < 16) = true := decide_eq_true (by omega)
    clear c2
    simp only [Option.some.injEq, Prod.mk.injEq] at H
    obtain ⟨rfl, rfl, rfl, rfl, rfl, rfl⟩ := H
    go_enter Try.func23, Try.ntmps23
    go_wp2_with (first | ((with_reducible refine gate_dst (N := 2) rfl ?_); refine box_event ?hg (N := 2) ?hd (cs := #[.int .u32 0, .bool false, .int .i64 0, .int .u32 0, .int .u32 0]) (t := 59) ?hr ?_; (case hd => rfl); (case hg => rfl); (case hr => first | (go_simp; done) | (go_simp; rfl)); intro gb391 hg w3 hbox hb; have n0_ := Aside0.mk (below_step (by repeat (first | (with_reducible first | exact HB.out | apply below_alloc | apply pw_below_drewN | apply below_drew1) | exact HB.out)) hb); have n1_ := Aside0.mk (hbox); have n2_ := Aside0.mk ((by rw [hg]; exact (below_size (by repeat (first | (with_reducible first | exact HB.out | apply below_alloc | apply pw_below_drewN | apply below_drew1) | exact HB.out))) : w.heap.size ≤ gb391)); have n3_ := Aside0.mk ((by rw [hg]; exact (below_size (by repeat (first | (with_reducible first | exact HB.out | apply below_alloc | apply pw_below_drewN | apply below_drew1) | exact HB.out))) : w.heap.size ≤ gb391)); clear HB; have HB := n0_; have BK391 := n1_; have GW391 := n2_; have GE391 := n3_; clear n0_ n1_ n2_ n3_; clear hb hbox hg; have hcz4_0 : w3.cell? ⟨gb391, 0, none⟩ = some (.int .u32 0) := (blk_cell BK391.out 0).trans rfl; have hcz4_1 : w3.cell? ⟨gb391, 1, none⟩ = some (.bool false) := (blk_cell BK391.out 1).trans rfl; have hcz4_2 : w3.cell? ⟨gb391, 2, none⟩ = some (.int .i64 0) := (blk_cell BK391.out 2).trans rfl; have hcz4_3 : w3.cell? ⟨gb391, 3, none⟩ = some (.int .u32 0) := (blk_cell BK391.out 3).trans rfl; have hcz4_4 : w3.cell? ⟨gb391, 4, none⟩ = some (.int .u32 0) := (blk_cell BK391.out 4).trans rfl; have hfz4_0 := blk_frozen BK391.out 0; have hfz4_1 := blk_frozen BK391.out 1; have hfz4_2 := blk_frozen BK391.out 2; have hfz4_3 := blk_frozen BK391.out 3; have hfz4_4 := blk_frozen BK391.out 4))
    refine bodyPost_ret (results_ct rfl _ _ gb391 59 #[.int .u32 0, .bool false, .int .i64 0, .int .u32 0, .int .u32 0] (0, 0) _ rfl (by (with_reducible repeat (first | refine blk_drewN ?_ _ | refine blk_drew ?_ | refine blk_alloc ?_ _)); refine blk_put (cs := #[.int .u32 0, .bool false, .int .i64 0, .int .u32 0, .int .u32 0]) ?_ 4 _ rfl; (with_reducible repeat (first | refine blk_drewN ?_ _ | refine blk_drew ?_ | refine blk_alloc ?_ _)); refine blk_put (cs := #[.int .u32 0, .bool false, .int .i64 0, .int .u32 0, .int .u32 0]) ?_ 3 _ rfl; (with_reducible repeat (first | refine blk_drewN ?_ _ | refine blk_drew ?_ | refine blk_alloc ?_ _)); refine blk_put (cs := #[.int .u32 0, .bool false, .int .i64 0, .int .u32 0, .int .u32 0]) ?_ 2 _ rfl; (with_reducible repeat (first | refine blk_drewN ?_ _ | refine blk_drew ?_ | refine blk_alloc ?_ _)); refine blk_put (cs := #[.int .u32 0, .bool false, .int .i64 0, .int .u32 0, .int .u32 0]) ?_ 1 _ rfl; (with_reducible repeat (first | refine blk_drewN ?_ _ | refine blk_drew ?_ | refine blk_alloc ?_ _)); refine blk_put (cs := #[.int .u32 0, .bool false, .int .i64 0, .int .u32 0, .int .u32 0]) ?_ 0 _ rfl; (with_reducible repeat (first | refine blk_drewN ?_ _ | refine blk_drew ?_ | refine blk_alloc ?_ _)); exact BK391.out) Try.underlying59 rfl (by kernel_rfl)) rfl ?_
    exact ⟨by first | rfl | (simp [errW_none, errW_some] <;> rfl) | (simp [*, errW_none, errW_some] <;> rfl), by repeat (first | (with_reducible first | exact HB.out | apply below_alloc | apply pw_below_drewN | apply below_drew1 | refine below_set ?_ GE391.out) | exact HB.out)⟩
  · rw [if_neg c2] at H
    have c2b0 : decide ((l0.length : Int) < 16) = false := decide_eq_false c2
    have c2b1 : decide (l0.length < 16) = false := decide_eq_false (by omega)
    clear c2
    have HC5 := Aside0.mk H
    clear H
    go_enter Try.func23, Try.ntmps23
    go_upto_region 3 with (first | ((with_reducible refine gate_dst (N := 2) rfl ?_); refine box_event ?hg (N := 2) ?hd (cs := #[.int .u32 0, .bool false, .int .i64 0, .int .u32 0, .int .u32 0]) (t := 59) ?hr ?_; (case hd => rfl); (case hg => rfl); (case hr => first | (go_simp; done) | (go_simp; rfl)); intro gb391 hg w6 hbox hb; have n0_ := Aside0.mk (below_step (by repeat (first | (with_reducible first | exact HB.out | apply below_alloc | apply pw_below_drewN | apply below_drew1) | exact HB.out)) hb); have n1_ := Aside0.mk (hbox); have n2_ := Aside0.mk ((by rw [hg]; exact (below_size (by repeat (first | (with_reducible first | exact HB.out | apply below_alloc | apply pw_below_drewN | apply below_drew1) | exact HB.out))) : w.heap.size ≤ gb391)); have n3_ := Aside0.mk ((by rw [hg]; exact (below_size (by repeat (first | (with_reducible first | exact HB.out | apply below_alloc | apply pw_below_drewN | apply below_drew1) | exact HB.out))) : w.heap.size ≤ gb391)); clear HB; have HB := n0_; have BK391 := n1_; have GW391 := n2_; have GE391 := n3_; clear n0_ n1_ n2_ n3_; clear hb hbox hg))
    (try simp only [Act.put, List.setIfInBounds_toArray, List.set_cons_zero, List.set_cons_succ])
    go_cut [24] (fun v24 wc => ∃ (kq : Nat) (x24_4 : Bool), v24 = .bool x24_4 ∧ Aside0 (crossroadsref12_ReadExternal.j0 kq l0 x24_4 = some (r1, r2, r3, r4, r5, r6)) ∧ Aside0 (kq ≤ k) ∧ Aside0 (wc.heap[gb391]? = some (.cells #[.int .u32 0, .bool false, .int .i64 0, .int .u32 0, .int .u32 0] 59 (0, 0))) ∧ Aside0 (Below w.heap.size w wc))
    case first =>
      have H := HC5.out
      clear HC5
      by_cases c7 : (l0.length : Int) > 16
      · rw [if_pos c7] at H
        have c7b0 : decide (16 < (l0.length : Int)) = true := decide_eq_true c7
        have c7b1 : decide (16 < l0.length) = true := decide_eq_true (by omega)
        clear c7
        (first | rw [c7b0] | (simp only [i64_w, i32_w]; rw [c7b0]) | rw [c7b1] | skip)
        have H' := Aside0.mk H
        clear H
        go_wp2
        go_meet
        case rel => exact ⟨_, (true), (by first | rfl | (simp; done) | (simp [*]; done)), H', ⟨by first | omega | exact Nat.le_refl _⟩, ⟨by (with_reducible repeat (first | refine blk_drewN ?_ _ | refine blk_drew ?_ | refine blk_alloc ?_ _)); exact BK391.out⟩, ⟨by repeat (first | (with_reducible first | exact HB.out | apply below_alloc | apply pw_below_drewN | apply below_drew1 | refine below_set ?_ GE391.out) | exact HB.out)⟩⟩
      · rw [if_neg c7] at H
        have c7b0 : decide (16 < (l0.length : Int)) = false := decide_eq_false c7
        have c7b1 : decide (16 < l0.length) = false := decide_eq_false (by omega)
        clear c7
        (first | rw [c7b0] | (simp only [i64_w, i32_w]; rw [c7b0]) | rw [c7b1] | skip)
        by_cases c8 : 4 < (l0.length : Int)
        · rw [if_pos c8] at H
          have c8b0 : decide (4 < (l0.length : Int)) = true := decide_eq_true c8
          have c8b1 : decide (4 < l0.length) = true := decide_eq_true (by omega)
          clear c8
          by_cases c9 : (rd l0 4) = 0
          · rw [if_pos c9] at H
            have c9b0 : ((rd l0 4) == 0) = true := beq_iff_eq.mpr c9
            have c9b1 : ((rd l0 4) != 0) = false := bne_eq_false_iff_eq.mpr c9
            clear c9
            have H' := Aside0.mk H
            clear H
            have p392 : 0 ≤ (4 : Int) := (by omega)
            have q392 : 4 < (l0.length : Int) := of_decide_eq_true (by first | (with_reducible assumption) | assumption)
            obtain ⟨ad392, e392, hx392_0⟩ := Kd.at_int HR0.out 4 p392 q392
            cases e392
            (try simp only [show (4 : Int).toNat = 4 from rfl, Nat.reduceMul, Nat.reduceEqDiff, Go.Addr.add, ↓reduceIte] at hx392_0)
            have qi392 : (4 < l0.length) = True := eq_true (by omega)
            (try rw [show ((4 : Int)).toNat = 4 from rfl] at hx392_0)
            replace hx392_0 := (HB.out.cell (World.block_lt_of_cell? w _ hx392_0)).trans hx392_0
            replace p392 := eq_true p392
            replace q392 := eq_true q392
            go_wp2
            go_meet
            case rel => exact ⟨_, (false), (by first | rfl | (simp; done) | (simp [*]; done)), H', ⟨by first | omega | exact Nat.le_refl _⟩, ⟨by (with_reducible repeat (first | refine blk_drewN ?_ _ | refine blk_drew ?_ | refine blk_alloc ?_ _)); exact BK391.out⟩, ⟨by repeat (first | (with_reducible first | exact HB.out | apply below_alloc | apply pw_below_drewN | apply below_drew1 | refine below_set ?_ GE391.out) | exact HB.out)⟩⟩
          · rw [if_neg c9] at H
            have c9b0 : ((rd l0 4) == 0) = false := beq_eq_false_iff_ne.mpr c9
            have c9b1 : ((rd l0 4) != 0) = true := bne_iff_ne.mpr c9
            have H' := Aside0.mk H
            clear H
            have p392 : 0 ≤ (4 : Int) := (by omega)
            have q392 : 4 < (l0.length : Int) := of_decide_eq_true (by first | (with_reducible assumption) | assumption)
            obtain ⟨ad392, e392, hx392_0⟩ := Kd.at_int HR0.out 4 p392 q392
            cases e392
            (try simp only [show (4 : Int).toNat = 4 from rfl, Nat.reduceMul, Nat.reduceEqDiff, Go.Addr.add, ↓reduceIte] at hx392_0)
            have qi392 : (4 < l0.length) = True := eq_true (by omega)
            (try rw [show ((4 : Int)).toNat = 4 from rfl] at hx392_0)
            replace hx392_0 := (HB.out.cell (World.block_lt_of_cell? w _ hx392_0)).trans hx392_0
            replace p392 := eq_true p392
            replace q392 := eq_true q392
            have p393 : 0 ≤ (4 : Int) := (by omega)
            have q393 : 4 < (l0.length : Int) := of_decide_eq_true (by first | (with_reducible assumption) | assumption)
            obtain ⟨ad393, e393, hx393_0⟩ := Kd.at_int HR0.out 4 p393 q393
            obtain rfl : ad392 = ad393 := (by injection e393)
            (try simp only [show (4 : Int).toNat = 4 from rfl, Nat.reduceMul, Nat.reduceEqDiff, Go.Addr.add, ↓reduceIte] at hx393_0)
            have qi393 : (4 < l0.length) = True := eq_true (by omega)
            (try rw [show ((4 : Int)).toNat = 4 from rfl] at hx393_0)
            replace hx393_0 := (HB.out.cell (World.block_lt_of_cell? w _ hx393_0)).trans hx393_0
            replace p393 := eq_true p393
            replace q393 := eq_true q393
            go_wp2
            go_meet
            case rel => exact ⟨_, (((rd l0 4) != 128)), (by first | rfl | (simp; done) | (simp [*]; done)), H', ⟨by first | omega | exact Nat.le_refl _⟩, ⟨by (with_reducible repeat (first | refine blk_drewN ?_ _ | refine blk_drew ?_ | refine blk_alloc ?_ _)); exact BK391.out⟩, ⟨by repeat (first | (with_reducible first | exact HB.out | apply below_alloc | apply pw_below_drewN | apply below_drew1 | refine below_set ?_ GE391.out) | exact HB.out)⟩⟩
        · rw [if_neg c8] at H
          exact absurd H (by simp)
    case rest =>
      clear HC5
      try clear c2
      try clear c2b0
      try clear c2b1
      try clear p2
      try clear p3
      try clear q3
      try clear hx3
      try clear qi3
      try clear c7
      try clear c7b0
      try clear c7b1
      try clear c8
      try clear c8b0
      try clear c8b1
      try clear c9
      try clear c9b0
      try clear c9b1
      try clear hcz4_0
      try clear hcz4_1
      try clear hcz4_2
      try clear hcz4_3
      try clear hcz4_4
      try clear hfz4_0
      try clear hfz4_1
      try clear hfz4_2
      try clear hfz4_3
      try clear hfz4_4
      try clear hx392_0
      try clear hx393_0
      try clear p392
      try clear p393
      try clear q392
      try clear q393
      obtain ⟨kq, x24_4, rfl, HA, HJ4, BK391, HB⟩ := hcut
      cases kq with
      | zero => exact absurd HA.out (by simp [crossroadsref12_ReadExternal.j0])
      | succ kj4 =>
        have H := HA.out
        clear HA
        simp only [crossroadsref12_ReadExternal.j0] at H
        by_cases c10 : x24_4 = true
        · subst c10
          have H1 : (some (0, false, 0, 0, 0, 3)) = some (r1, r2, r3, r4, r5, r6) := by rw [if_pos rfl] at H; exact H
          clear H
          have H := H1
          clear H1
          simp only [Option.some.injEq, Prod.mk.injEq] at H
          obtain ⟨rfl, rfl, rfl, rfl, rfl, rfl⟩ := H
          have hcz11_0 : wc.cell? ⟨gb391, 0, none⟩ = some (.int .u32 0) := (blk_cell BK391.out 0).trans rfl
          have hcz11_1 : wc.cell? ⟨gb391, 1, none⟩ = some (.bool false) := (blk_cell BK391.out 1).trans rfl
          have hcz11_2 : wc.cell? ⟨gb391, 2, none⟩ = some (.int .i64 0) := (blk_cell BK391.out 2).trans rfl
          have hcz11_3 : wc.cell? ⟨gb391, 3, none⟩ = some (.int .u32 0) := (blk_cell BK391.out 3).trans rfl
          have hcz11_4 : wc.cell? ⟨gb391, 4, none⟩ = some (.int .u32 0) := (blk_cell BK391.out 4).trans rfl
          have hfz11_0 := blk_frozen BK391.out 0
          have hfz11_1 := blk_frozen BK391.out 1
          have hfz11_2 := blk_frozen BK391.out 2
          have hfz11_3 := blk_frozen BK391.out 3
          have hfz11_4 := blk_frozen BK391.out 4
          go_wp2
          refine bodyPost_ret (results_ct rfl _ _ gb391 59 #[.int .u32 0, .bool false, .int .i64 0, .int .u32 0, .int .u32 0] (0, 0) _ rfl (by (with_reducible repeat (first | refine blk_drewN ?_ _ | refine blk_drew ?_ | refine blk_alloc ?_ _)); refine blk_put (cs := #[.int .u32 0, .bool false, .int .i64 0, .int .u32 0, .int .u32 0]) ?_ 4 _ rfl; (with_reducible repeat (first | refine blk_drewN ?_ _ | refine blk_drew ?_ | refine blk_alloc ?_ _)); refine blk_put (cs := #[.int .u32 0, .bool false, .int .i64 0, .int .u32 0, .int .u32 0]) ?_ 3 _ rfl; (with_reducible repeat (first | refine blk_drewN ?_ _ | refine blk_drew ?_ | refine blk_alloc ?_ _)); refine blk_put (cs := #[.int .u32 0, .bool false, .int .i64 0, .int .u32 0, .int .u32 0]) ?_ 2 _ rfl; (with_reducible repeat (first | refine blk_drewN ?_ _ | refine blk_drew ?_ | refine blk_alloc ?_ _)); refine blk_put (cs := #[.int .u32 0, .bool false, .int .i64 0, .int .u32 0, .int .u32 0]) ?_ 1 _ rfl; (with_reducible repeat (first | refine blk_drewN ?_ _ | refine blk_drew ?_ | refine blk_alloc ?_ _)); refine blk_put (cs := #[.int .u32 0, .bool false, .int .i64 0, .int .u32 0, .int .u32 0]) ?_ 0 _ rfl; (with_reducible repeat (first | refine blk_drewN ?_ _ | refine blk_drew ?_ | refine blk_alloc ?_ _)); exact BK391.out) Try.underlying59 rfl (by kernel_rfl)) rfl ?_
          exact ⟨by first | rfl | (simp [errW_none, errW_some] <;> rfl) | (simp [*, errW_none, errW_some] <;> rfl), by repeat (first | (with_reducible first | exact HB.out | apply below_alloc | apply pw_below_drewN | apply below_drew1 | refine below_set ?_ GE391.out) | exact HB.out)⟩
        · replace c10 := Bool.eq_false_iff.mpr c10
          subst c10
          have H1 : ((crossroadsref01_Rows.f kj4 l0 4).bind fun bt394 => (if 0 < (bt394.1.length : Int) then ((crossroadsref12_isMask.f kj4 (rd bt394.1 0)).bind fun t399 => (if t399 = true then (if 4 < (l0.length : Int) then (if 1 < (bt394.1.length : Int) then (if 2 < (bt394.1.length : Int) then (if 3 < (bt394.1.length : Int) then (some (rd bt394.1 0, ((rd l0 4) == 128), wrap64 (Int.tmod (rd bt394.1 1) 16777216), rd bt394.1 2, rd bt394.1 3, 0)) else (none)) else (none)) else (none)) else (none)) else (some (0, false, 0, 0, 0, 3)))) else (none))) = some (r1, r2, r3, r4, r5, r6) := by rw [if_neg (show ¬ (false = true) by decide)] at H; exact H
          clear H
          have H := H1
          clear H1
          replace H := Option.bind_eq_some_iff.mp H
          obtain ⟨⟨t394, t397⟩, A120, H⟩ := H
          replace H : (if 0 < (t394.length : Int) then ((crossroadsref12_isMask.f kj4 (rd t394 0)).bind fun t399 => (if t399 = true then (if 4 < (l0.length : Int) then (if 1 < (t394.length : Int) then (if 2 < (t394.length : Int) then (if 3 < (t394.length : Int) then (some (rd t394 0, ((rd l0 4) == 128), wrap64 (Int.tmod (rd t394 1) 16777216), rd t394 2, rd t394 3, 0)) else (none)) else (none)) else (none)) else (none)) else (some (0, false, 0, 0, 0, 3)))) else (none)) = some (r1, r2, r3, r4, r5, r6) := H
          have A12 := Aside0.mk A120
          clear A120
          by_cases c13 : 0 < (t394.length : Int)
          · rw [if_pos c13] at H
            have c13b0 : decide (0 < (t394.length : Int)) = true := decide_eq_true c13
            have c13b1 : decide (0 < t394.length) = true := decide_eq_true (by omega)
            clear c13
            replace H := Option.bind_eq_some_iff.mp H
            obtain ⟨t399, A140, H⟩ := H
            replace H : (if t399 = true then (if 4 < (l0.length : Int) then (if 1 < (t394.length : Int) then (if 2 < (t394.length : Int) then (if 3 < (t394.length : Int) then (some (rd t394 0, ((rd l0 4) == 128), wrap64 (Int.tmod (rd t394 1) 16777216), rd t394 2, rd t394 3, 0)) else (none)) else (none)) else (none)) else (none)) else (some (0, false, 0, 0, 0, 3))) = some (r1, r2, r3, r4, r5, r6) := H
            have A14 := Aside0.mk A140
            clear A140
            by_cases c15 : t399 = true
            · subst c15
              have H1 : (if 4 < (l0.length : Int) then (if 1 < (t394.length : Int) then (if 2 < (t394.length : Int) then (if 3 < (t394.length : Int) then (some (rd t394 0, ((rd l0 4) == 128), wrap64 (Int.tmod (rd t394 1) 16777216), rd t394 2, rd t394 3, 0)) else (none)) else (none)) else (none)) else (none)) = some (r1, r2, r3, r4, r5, r6) := by rw [if_pos rfl] at H; exact H
              clear H
              have H := H1
              clear H1
              by_cases c16 : 4 < (l0.length : Int)
              · rw [if_pos c16] at H
                have c16b0 : decide (4 < (l0.length : Int)) = true := decide_eq_true c16
                have c16b1 : decide (4 < l0.length) = true := decide_eq_true (by omega)
                clear c16
                by_cases c17 : 1 < (t394.length : Int)
                · rw [if_pos c17] at H
                  have c17b0 : decide (1 < (t394.length : Int)) = true := decide_eq_true c17
                  have c17b1 : decide (1 < t394.length) = true := decide_eq_true (by omega)
                  clear c17
                  by_cases c18 : 2 < (t394.length : Int)
                  · rw [if_pos c18] at H
                    have c18b0 : decide (2 < (t394.length : Int)) = true := decide_eq_true c18
                    have c18b1 : decide (2 < t394.length) = true := decide_eq_true (by omega)
                    clear c18
                    by_cases c19 : 3 < (t394.length : Int)
                    · rw [if_pos c19] at H
                      have c19b0 : decide (3 < (t394.length : Int)) = true := decide_eq_true c19
                      have c19b1 : decide (3 < t394.length) = true := decide_eq_true (by omega)
                      clear c19
                      simp only [Option.some.injEq, Prod.mk.injEq] at H
                      obtain ⟨rfl, rfl, rfl, rfl, rfl, rfl⟩ := H
                      try go_wp2_with (first | ((with_reducible refine gate_callee (f := 31) rfl ?_); refine goesL_ (some 28) rfl rfl Try.func31 (by kernel_rfl) rfl #[.slice A0 l0.length c0, .int .i64 4] rfl (by (try simp only [List.map_toArray, List.map_cons, List.map_nil]); first | done | rfl | (simp only [List.length_drop, List.length_take]; rfl)) ?_; (with_reducible refine (crossroadsref01_Rows.calls kj4 (fun k_ => k_ < w.heap.size) _ _ l0 4 t394 t397 _ ?side1 A12.out).mono ?_); (case side1 => exact Kd.V_mk HC0.out (Kd.F_below (Kd.C_F (Kd.heap_int .u8) HR0.out) (by repeat (first | (with_reducible first | exact HB.out | apply below_alloc | apply pw_below_drewN | apply below_drew1 | refine below_set ?_ GE391.out) | exact HB.out)))); rintro e w20 ⟨v395, rfl, ho0, hb⟩; refine ⟨_, rfl, ?_⟩; have n0_ := Aside0.mk (Kd.R_lower (Kd.R_mono (ok' := fun k_ => True) ho0 (fun _ hk_ => trivial)) (below_size (by repeat (first | (with_reducible first | exact HB.out | apply below_alloc | apply pw_below_drewN | apply below_drew1 | refine below_set ?_ GE391.out) | exact HB.out)))); have n1_ := Aside0.mk (blk_below (g := gb391) (o := .cells #[.int .u32 0, .bool false, .int .i64 0, .int .u32 0, .int .u32 0] 59 (0, 0)) (by (with_reducible repeat (first | refine blk_drewN ?_ _ | refine blk_drew ?_ | refine blk_alloc ?_ _)); exact BK391.out) hb); have n2_ := Aside0.mk (below_step (by repeat (first | (with_reducible first | exact HB.out | apply below_alloc | apply pw_below_drewN | apply below_drew1 | refine below_set ?_ GE391.out) | exact HB.out)) hb); clear BK391; clear HB; have HO396 := n0_; have BK391 := n1_; have HB := n2_; clear n0_ n1_ n2_; (try clear hb); (try clear hb2); (try clear hk); (try clear hi); (try clear ho0); obtain ⟨Ao21, co21, eo21⟩ := Kd.R_slice HO396.out; subst eo21; have p398 : 0 ≤ (0 : Int) := (by omega); have q398 : 0 < (t394.length : Int) := of_decide_eq_true (by first | (with_reducible assumption) | assumption); obtain ⟨ad398, e398, hx398_0⟩ := Kd.at_int (Kd.R_reads' HO396.out).2.2 0 p398 q398; cases e398; have qi398 : (0 < t394.length) = True := eq_true (by omega); (try rw [show ((0 : Int)).toNat = 0 from rfl] at hx398_0); (try rw [Addr.add_zero'] at hx398_0); replace p398 := eq_true p398; replace q398 := eq_true q398) | ((with_reducible refine gate_callee (f := 27) rfl ?_); refine goesL_ (some 34) rfl rfl Try.func27 (by kernel_rfl) rfl #[.int .u32 (rd t394 0)] rfl (by (try simp only [List.map_toArray, List.map_cons, List.map_nil]); first | done | rfl | (simp only [List.length_drop, List.length_take]; rfl)) ?_; (with_reducible refine (crossroadsref12_isMask.calls kj4 (rd t394 0) true _ A14.out).mono ?_); rintro e w' ⟨rfl, ⟨nd, rfl⟩⟩; refine ⟨_, rfl, ?_⟩; (try (rw [drewN_self w20]; generalize hq_ : World.drewN w20 _ = w20; have n0_ : Aside0 (Kd.R (Kd.int .u32) 22 w20 w.heap.size (fun _ => True) (.slice (some ad398) t394.length co21) t394) := ⟨by rw [← hq_]; exact (by (with_reducible repeat (first | apply Kd.R_alloc | apply Kd.R_drewN | apply Kd.R_drew)); exact HO396.out)⟩; have n1_ : Aside0 (w20.heap[gb391]? = some (.cells #[.int .u32 0, .bool false, .int .i64 0, .int .u32 0, .int .u32 0] 59 (0, 0))) := ⟨by rw [← hq_]; exact (by (with_reducible repeat (first | refine blk_drewN ?_ _ | refine blk_drew ?_ | refine blk_alloc ?_ _)); exact BK391.out)⟩; have n2_ : Aside0 (Below w.heap.size w w20) := ⟨by rw [← hq_]; exact (by repeat (first | (with_reducible first | exact HB.out | apply below_alloc | apply pw_below_drewN | apply below_drew1 | refine below_set ?_ GE391.out) | exact HB.out))⟩; clear HO396 BK391 HB hq_; have HO396 := n0_; have BK391 := n1_; have HB := n2_; clear n0_ n1_ n2_))))
                      have n0_ := Aside0.mk (Kd.R_drew HO396.out)
                      have n1_ := Aside0.mk (blk_drew BK391.out)
                      have n2_ := Aside0.mk (below_drew1 HB.out)
                      clear HO396
                      clear BK391
                      clear HB
                      have HO396 := n0_
                      have BK391 := n1_
                      have HB := n2_
                      clear n0_ n1_ n2_
                      have p400 : 0 ≤ (0 : Int) := (by omega)
                      have q400 : 0 < (t394.length : Int) := of_decide_eq_true (by first | (with_reducible assumption) | assumption)
                      obtain ⟨ad400, e400, hx400_0⟩ := Kd.at_int (Kd.R_reads' HO396.out).2.2 0 p400 q400
                      obtain rfl : ad398 = ad400 := (by injection e400)
                      have qi400 : (0 < t394.length) = True := eq_true (by omega)
                      (try rw [show ((0 : Int)).toNat = 0 from rfl] at hx400_0)
                      (try rw [Addr.add_zero'] at hx400_0)
                      replace p400 := eq_true p400
                      replace q400 := eq_true q400
                      have p401 : 0 ≤ (4 : Int) := (by omega)
                      have q401 : 4 < (l0.length : Int) := of_decide_eq_true (by first | (with_reducible assumption) | assumption)
                      obtain ⟨ad401, e401, hx401_0⟩ := Kd.at_int HR0.out 4 p401 q401
                      have hw401_0 := hx401_0
                      (try rw [show ((4 : Int)).toNat = 4 from rfl] at hw401_0)
                      (try rw [show 4 * 1 = 4 from rfl] at hw401_0)
                      (try simp only [Nat.reduceMul, Nat.reduceEqDiff, Go.Addr.add, ↓reduceIte] at hw401_0)
                      cases e401
                      (try simp only [show (4 : Int).toNat = 4 from rfl, Nat.reduceMul, Nat.reduceEqDiff, Go.Addr.add, ↓reduceIte] at hx401_0)
                      have qi401 : (4 < l0.length) = True := eq_true (by omega)
                      (try rw [show ((4 : Int)).toNat = 4 from rfl] at hx401_0)
                      replace hx401_0 := (HB.out.cell (World.block_lt_of_cell? w _ hx401_0)).trans hx401_0
                      replace p401 := eq_true p401
                      replace q401 := eq_true q401
                      have p402 : 0 ≤ (1 : Int) := (by omega)
                      have q402 : 1 < (t394.length : Int) := of_decide_eq_true (by first | (with_reducible assumption) | assumption)
                      obtain ⟨ad402, e402, hx402_0⟩ := Kd.at_int (Kd.R_reads' HO396.out).2.2 1 p402 q402
                      obtain rfl : ad398 = ad402 := (by injection e402)
                      (try simp only [show (1 : Int).toNat = 1 from rfl, Nat.reduceMul, Nat.reduceEqDiff, Go.Addr.add, ↓reduceIte] at hx402_0)
                      have qi402 : (1 < t394.length) = True := eq_true (by omega)
                      (try rw [show ((1 : Int)).toNat = 1 from rfl] at hx402_0)
                      replace p402 := eq_true p402
                      replace q402 := eq_true q402
                      have p403 : 0 ≤ (2 : Int) := (by omega)
                      have q403 : 2 < (t394.length : Int) := of_decide_eq_true (by first | (with_reducible assumption) | assumption)
                      obtain ⟨ad403, e403, hx403_0⟩ := Kd.at_int (Kd.R_reads' HO396.out).2.2 2 p403 q403
                      obtain rfl : ad398 = ad403 := (by injection e403)
                      (try simp only [show (2 : Int).toNat = 2 from rfl, Nat.reduceMul, Nat.reduceEqDiff, Go.Addr.add, ↓reduceIte] at hx403_0)
                      have qi403 : (2 < t394.length) = True := eq_true (by omega)
                      (try rw [show ((2 : Int)).toNat = 2 from rfl] at hx403_0)
                      replace p403 := eq_true p403
                      replace q403 := eq_true q403
                      have p404 : 0 ≤ (3 : Int) := (by omega)
                      have q404 : 3 < (t394.length : Int) := of_decide_eq_true (by first | (with_reducible assumption) | assumption)
                      obtain ⟨ad404, e404, hx404_0⟩ := Kd.at_int (Kd.R_reads' HO396.out).2.2 3 p404 q404
                      obtain rfl : ad398 = ad404 := (by injection e404)
                      (try simp only [show (3 : Int).toNat = 3 from rfl, Nat.reduceMul, Nat.reduceEqDiff, Go.Addr.add, ↓reduceIte] at hx404_0)
                      have qi404 : (3 < t394.length) = True := eq_true (by omega)
                      (try rw [show ((3 : Int)).toNat = 3 from rfl] at hx404_0)
                      replace p404 := eq_true p404
                      replace q404 := eq_true q404
                      refine start_ (n := 21) (S := fun w' => w'.cell? ad398 = some (.int .u32 (rd t394 0)) ∧ w'.cell? ⟨ad401.block, ad401.off + 4, none⟩ = some (.int .u8 (rd l0 4)) ∧ w'.cell? ⟨ad398.block, ad398.off + 1, none⟩ = some (.int .u32 (rd t394 1)) ∧ w'.cell? ⟨ad398.block, ad398.off + 2, none⟩ = some (.int .u32 (rd t394 2)) ∧ w'.cell? ⟨ad398.block, ad398.off + 3, none⟩ = some (.int .u32 (rd t394 3))) (ds := []) #[false, false, false, false, false, false, false, false, false, false, false, false, false, false, false, false, false, false, false, false, false] (by kernel_rfl) rfl rfl ⟨hx400_0, ((HB.out.cell (World.block_lt_of_cell? w _ hw401_0)).trans hw401_0), hx402_0, hx403_0, hx404_0⟩ (fun hHeld => ?_); refine with_tabW crossroadsref12_ReadExternal.tab8 crossroadsref12_ReadExternal.bits8 (fun HT_ HW_ => ?_)
                      generalize w20.drew = w22 at HO396 BK391 HB hx400_0 hx401_0 hx402_0 hx403_0 hx404_0 hHeld ⊢
                      refine pure_ (i := 0) (N := some 37) (v := ?_) (a' := ?_) #[true, false, false, false, false, false, false, false, false, false, false, false, false, false, false, false, false, false, false, false, false] rfl rfl (any_of HT_.out (by kernel_rfl)) (fun _ _ _ h => h) (Or.inl ⟨by rfl, ?_⟩) ?_ ?_
                      rotate_left
                      · intro w'
                        go_simp
                        with_reducible rfl
                      rotate_left
                      · simp only [Act.put, List.setIfInBounds_toArray, List.set_cons_zero, List.set_cons_succ, i64_w, i32_w]
                        rfl
                      refine pure_ (i := 1) (N := some 38) (v := ?_) (a' := ?_) #[true, true, false, false, false, false, false, false, false, false, false, false, false, false, false, false, false, false, false, false, false] rfl rfl (any_of HT_.out (by kernel_rfl)) (fun _ _ _ h => h) (Or.inl ⟨by rfl, ?_⟩) ?_ ?_
                      rotate_left
                      · intro w'
                        go_simp
                        with_reducible rfl
                      rotate_left
                      · simp only [Act.put, List.setIfInBounds_toArray, List.set_cons_zero, List.set_cons_succ, i64_w, i32_w]
                        rfl
                      refine pure_ (i := 3) (N := some 40) (v := ?_) (a' := ?_) #[true, true, false, true, false, false, false, false, false, false, false, false, false, false, false, false, false, false, false, false, false] rfl rfl (any_of HT_.out (by kernel_rfl)) (fun _ _ _ h => h) (Or.inl ⟨by rfl, ?_⟩) ?_ ?_
                      rotate_left
                      · intro w'
                        go_simp
                        with_reducible rfl
                      rotate_left
                      · simp only [Act.put, List.setIfInBounds_toArray, List.set_cons_zero, List.set_cons_succ, i64_w, i32_w]
                        rfl
                      refine pure_ (i := 4) (N := some 41) (v := ?_) (a' := ?_) #[true, true, false, true, true, false, false, false, false, false, false, false, false, false, false, false, false, false, false, false, false] rfl rfl (any_of HT_.out (by kernel_rfl)) (fun _ _ _ h => h) (Or.inl ⟨by rfl, ?_⟩) ?_ ?_
                      rotate_left
                      · intro w'
                        go_simp
                        with_reducible rfl
                      rotate_left
                      · simp only [Act.put, List.setIfInBounds_toArray, List.set_cons_zero, List.set_cons_succ, i64_w, i32_w]
                        rfl
                      refine pure_ (i := 7) (N := some 44) (v := ?_) (a' := ?_) #[true, true, false, true, true, false, false, true, false, false, false, false, false, false, false, false, false, false, false, false, false] rfl rfl (any_of HT_.out (by kernel_rfl)) (fun _ _ _ h => h) (Or.inl ⟨by rfl, ?_⟩) ?_ ?_
                      rotate_left
                      · intro w'
                        go_simp
                        with_reducible rfl
                      rotate_left
                      · simp only [Act.put, List.setIfInBounds_toArray, List.set_cons_zero, List.set_cons_succ, i64_w, i32_w]
                        rfl
                      refine pure_ (i := 8) (N := some 45) (v := ?_) (a' := ?_) #[true, true, false, true, true, false, false, true, true, false, false, false, false, false, false, false, false, false, false, false, false] rfl rfl (any_of HT_.out (by kernel_rfl)) (fun _ _ _ h => h) (Or.inl ⟨by rfl, ?_⟩) ?_ ?_
                      rotate_left
                      · intro w'
                        go_simp
                        with_reducible rfl
                      rotate_left
                      · simp only [Act.put, List.setIfInBounds_toArray, List.set_cons_zero, List.set_cons_succ, i64_w, i32_w]
                        rfl
                      refine pure_ (i := 12) (N := some 49) (v := ?_) (a' := ?_) #[true, true, false, true, true, false, false, true, true, false, false, false, true, false, false, false, false, false, false, false, false] rfl rfl (any_of HT_.out (by kernel_rfl)) (fun _ _ _ h => h) (Or.inl ⟨by rfl, ?_⟩) ?_ ?_
                      rotate_left
                      · intro w'
                        go_simp
                        with_reducible rfl
                      rotate_left
                      · simp only [Act.put, List.setIfInBounds_toArray, List.set_cons_zero, List.set_cons_succ, i64_w, i32_w]
                        rfl
                      refine pure_ (i := 13) (N := some 50) (v := ?_) (a' := ?_) #[true, true, false, true, true, false, false, true, true, false, false, false, true, true, false, false, false, false, false, false, false] rfl rfl (any_of HT_.out (by kernel_rfl)) (fun _ _ _ h => h) (Or.inl ⟨by rfl, ?_⟩) ?_ ?_
                      rotate_left
                      · intro w'
                        go_simp
                        with_reducible rfl
                      rotate_left
                      · simp only [Act.put, List.setIfInBounds_toArray, List.set_cons_zero, List.set_cons_succ, i64_w, i32_w]
                        rfl
                      refine pure_ (i := 15) (N := some 52) (v := ?_) (a' := ?_) #[true, true, false, true, true, false, false, true, true, false, false, false, true, true, false, true, false, false, false, false, false] rfl rfl (any_of HT_.out (by kernel_rfl)) (fun _ _ _ h => h) (Or.inl ⟨by rfl, ?_⟩) ?_ ?_
                      rotate_left
                      · intro w'
                        go_simp
                        with_reducible rfl
                      rotate_left
                      · simp only [Act.put, List.setIfInBounds_toArray, List.set_cons_zero, List.set_cons_succ, i64_w, i32_w]
                        rfl
                      refine pure_ (i := 16) (N := some 53) (v := ?_) (a' := ?_) #[true, true, false, true, true, false, false, true, true, false, false, false, true, true, false, true, true, false, false, false, false] rfl rfl (any_of HT_.out (by kernel_rfl)) (fun _ _ _ h => h) (Or.inl ⟨by rfl, ?_⟩) ?_ ?_
                      rotate_left
                      · intro w'
                        go_simp
                        with_reducible rfl
                      rotate_left
                      · simp only [Act.put, List.setIfInBounds_toArray, List.set_cons_zero, List.set_cons_succ, i64_w, i32_w]
                        rfl
                      refine take_ (i := 2) (N := some 39) (v := ?_) (a' := ?_) #[true, true, true, true, true, false, false, true, true, false, false, false, true, true, false, true, true, false, false, false, false] rfl rfl (take_ofW HT_.out HW_.out (by kernel_rfl)) (fun _ _ _ h => h) (Or.inl ⟨by rfl, ?_⟩) hHeld ?_ ?_
                      rotate_left
                      · rintro w' ⟨s0, s1, s2, s3, s4⟩
                        go_simp
                        with_reducible rfl
                      rotate_left
                      · simp only [Act.put, List.setIfInBounds_toArray, List.set_cons_zero, List.set_cons_succ, i64_w, i32_w]
                        rfl
                      refine take_ (i := 5) (N := some 42) (v := ?_) (a' := ?_) #[true, true, true, true, true, true, false, true, true, false, false, false, true, true, false, true, true, false, false, false, false] rfl rfl (take_ofW HT_.out HW_.out (by kernel_rfl)) (fun _ _ _ h => h) (Or.inl ⟨by rfl, ?_⟩) hHeld ?_ ?_
                      rotate_left
                      · rintro w' ⟨s0, s1, s2, s3, s4⟩
                        go_simp
                        with_reducible rfl
                      rotate_left
                      · simp only [Act.put, List.setIfInBounds_toArray, List.set_cons_zero, List.set_cons_succ, i64_w, i32_w]
                        rfl
                      refine pure_ (i := 6) (N := some 43) (v := ?_) (a' := ?_) #[true, true, true, true, true, true, true, true, true, false, false, false, true, true, false, true, true, false, false, false, false] rfl rfl (any_of HT_.out (by kernel_rfl)) (fun _ _ _ h => h) (Or.inl ⟨by rfl, ?_⟩) ?_ ?_
                      rotate_left
                      · intro w'
                        go_simp
                        with_reducible rfl
                      rotate_left
                      · simp only [Act.put, List.setIfInBounds_toArray, List.set_cons_zero, List.set_cons_succ, i64_w, i32_w]
                        rfl
                      refine take_ (i := 9) (N := some 46) (v := ?_) (a' := ?_) #[true, true, true, true, true, true, true, true, true, true, false, false, true, true, false, true, true, false, false, false, false] rfl rfl (take_ofW HT_.out HW_.out (by kernel_rfl)) (fun _ _ _ h => h) (Or.inl ⟨by rfl, ?_⟩) hHeld ?_ ?_
                      rotate_left
                      · rintro w' ⟨s0, s1, s2, s3, s4⟩
                        go_simp
                        with_reducible rfl
                      rotate_left
                      · simp only [Act.put, List.setIfInBounds_toArray, List.set_cons_zero, List.set_cons_succ, i64_w, i32_w]
                        rfl
                      refine pure_ (i := 10) (N := some 47) (v := ?_) (a' := ?_) #[true, true, true, true, true, true, true, true, true, true, true, false, true, true, false, true, true, false, false, false, false] rfl rfl (any_of HT_.out (by kernel_rfl)) (fun _ _ _ h => h) (Or.inl ⟨by rfl, ?_⟩) ?_ ?_
                      rotate_left
                      · intro w'
                        go_simp
                        with_reducible rfl
                      rotate_left
                      · simp only [Act.put, List.setIfInBounds_toArray, List.set_cons_zero, List.set_cons_succ, i64_w, i32_w]
                        rfl
                      refine pure_ (i := 11) (N := some 48) (v := ?_) (a' := ?_) #[true, true, true, true, true, true, true, true, true, true, true, true, true, true, false, true, true, false, false, false, false] rfl rfl (any_of HT_.out (by kernel_rfl)) (fun _ _ _ h => h) (Or.inl ⟨by rfl, ?_⟩) ?_ ?_
                      rotate_left
                      · intro w'
                        go_simp
                        with_reducible rfl
                      rotate_left
                      · simp only [Act.put, List.setIfInBounds_toArray, List.set_cons_zero, List.set_cons_succ, i64_w, i32_w]
                        rfl
                      refine take_ (i := 14) (N := some 51) (v := ?_) (a' := ?_) #[true, true, true, true, true, true, true, true, true, true, true, true, true, true, true, true, true, false, false, false, false] rfl rfl (take_ofW HT_.out HW_.out (by kernel_rfl)) (fun _ _ _ h => h) (Or.inl ⟨by rfl, ?_⟩) hHeld ?_ ?_
                      rotate_left
                      · rintro w' ⟨s0, s1, s2, s3, s4⟩
                        go_simp
                        with_reducible rfl
                      rotate_left
                      · simp only [Act.put, List.setIfInBounds_toArray, List.set_cons_zero, List.set_cons_succ, i64_w, i32_w]
                        rfl
                      refine take_ (i := 17) (N := some 54) (v := ?_) (a' := ?_) #[true, true, true, true, true, true, true, true, true, true, true, true, true, true, true, true, true, true, false, false, false] rfl rfl (take_ofW HT_.out HW_.out (by kernel_rfl)) (fun _ _ _ h => h) (Or.inl ⟨by rfl, ?_⟩) hHeld ?_ ?_
                      rotate_left
                      · rintro w' ⟨s0, s1, s2, s3, s4⟩
                        go_simp
                        with_reducible rfl
                      rotate_left
                      · simp only [Act.put, List.setIfInBounds_toArray, List.set_cons_zero, List.set_cons_succ, i64_w, i32_w]
                        rfl
                      refine pure_ (i := 18) (N := some 55) (v := ?_) (a' := ?_) #[true, true, true, true, true, true, true, true, true, true, true, true, true, true, true, true, true, true, true, false, false] rfl rfl (any_of HT_.out (by kernel_rfl)) (fun _ _ _ h => h) (Or.inl ⟨by rfl, ?_⟩) ?_ ?_
                      rotate_left
                      · intro w'
                        go_simp
                        with_reducible rfl
                      rotate_left
                      · simp only [Act.put, List.setIfInBounds_toArray, List.set_cons_zero, List.set_cons_succ, i64_w, i32_w]
                        rfl
                      refine one_ (i := 19) (N := none) #[true, true, true, true, true, true, true, true, true, true, true, true, true, true, true, true, true, true, true, true, false] rfl rfl (one_of HT_.out (by kernel_rfl)) (by decide) (fun K hK => ?_)
                      have hs23 : w22.cell? ⟨gb391, 0, none⟩ = some (.int .u32 0) := (blk_cell BK391.out 0).trans rfl
                      have hfs23 := blk_frozen BK391.out 0
                      have hs24 : w22.cell? ⟨gb391, 1, none⟩ = some (.bool false) := (blk_cell BK391.out 1).trans rfl
                      have hfs24 := blk_frozen BK391.out 1
                      have hs25 : w22.cell? ⟨gb391, 2, none⟩ = some (.int .i64 0) := (blk_cell BK391.out 2).trans rfl
                      have hfs25 := blk_frozen BK391.out 2
                      have hs26 : w22.cell? ⟨gb391, 3, none⟩ = some (.int .u32 0) := (blk_cell BK391.out 3).trans rfl
                      have hfs26 := blk_frozen BK391.out 3
                      have hs27 : w22.cell? ⟨gb391, 4, none⟩ = some (.int .u32 0) := (blk_cell BK391.out 4).trans rfl
                      have hfs27 := blk_frozen BK391.out 4
                      refine skip_ (w1 := ?_) (by rfl) rfl ?_ ?_
                      rotate_left
                      · go_simp
                        rfl
                      refine hK.out _ _ ⟨((cell_far (p := ⟨gb391, _, none⟩) (by first | exact Kd.own_blk (Kd.R_ne HO396.out BK391.out (by decide)) | (rw [add_block]; exact Kd.own_blk (Kd.R_ne HO396.out BK391.out (by decide))) | (show (Addr.add _ _).block ≠ _; rw [add_block]; exact Kd.own_blk (Kd.R_ne HO396.out BK391.out (by decide))) | (dsimp only; exact Kd.own_blk (Kd.R_ne HO396.out BK391.out (by decide)))) _).trans (((cell_far (p := ⟨gb391, _, none⟩) (by first | exact Kd.own_blk (Kd.R_ne HO396.out BK391.out (by decide)) | (rw [add_block]; exact Kd.own_blk (Kd.R_ne HO396.out BK391.out (by decide))) | (show (Addr.add _ _).block ≠ _; rw [add_block]; exact Kd.own_blk (Kd.R_ne HO396.out BK391.out (by decide))) | (dsimp only; exact Kd.own_blk (Kd.R_ne HO396.out BK391.out (by decide)))) _).trans (((cell_far (p := ⟨gb391, _, none⟩) (by first | exact Kd.own_blk (Kd.R_ne HO396.out BK391.out (by decide)) | (rw [add_block]; exact Kd.own_blk (Kd.R_ne HO396.out BK391.out (by decide))) | (show (Addr.add _ _).block ≠ _; rw [add_block]; exact Kd.own_blk (Kd.R_ne HO396.out BK391.out (by decide))) | (dsimp only; exact Kd.own_blk (Kd.R_ne HO396.out BK391.out (by decide)))) _).trans (((cell_far (p := ⟨gb391, _, none⟩) (by first | exact Kd.own_blk (Kd.R_ne HO396.out BK391.out (by decide)) | (rw [add_block]; exact Kd.own_blk (Kd.R_ne HO396.out BK391.out (by decide))) | (show (Addr.add _ _).block ≠ _; rw [add_block]; exact Kd.own_blk (Kd.R_ne HO396.out BK391.out (by decide))) | (dsimp only; exact Kd.own_blk (Kd.R_ne HO396.out BK391.out (by decide)))) _).trans (((cell_far (p := ⟨gb391, _, none⟩) (by first | exact Kd.own_blk (Kd.R_ne HO396.out BK391.out (by decide)) | (rw [add_block]; exact Kd.own_blk (Kd.R_ne HO396.out BK391.out (by decide))) | (show (Addr.add _ _).block ≠ _; rw [add_block]; exact Kd.own_blk (Kd.R_ne HO396.out BK391.out (by decide))) | (dsimp only; exact Kd.own_blk (Kd.R_ne HO396.out BK391.out (by decide)))) _).trans (hHeld.1)))))))))), ((cell_far (p := ⟨gb391, _, none⟩) (by first | exact Nat.ne_of_lt (Nat.lt_of_lt_of_le (by have := World.block_lt_of_cell? _ _ hw401_0; first | rwa [add_block] at this | exact this) GW391.out) | (rw [add_block]; exact Nat.ne_of_lt (Nat.lt_of_lt_of_le (by have := World.block_lt_of_cell? _ _ hw401_0; first | rwa [add_block] at this | exact this) GW391.out)) | (show (Addr.add _ _).block ≠ _; rw [add_block]; exact Nat.ne_of_lt (Nat.lt_of_lt_of_le (by have := World.block_lt_of_cell? _ _ hw401_0; first | rwa [add_block] at this | exact this) GW391.out)) | (dsimp only; exact Nat.ne_of_lt (Nat.lt_of_lt_of_le (by have := World.block_lt_of_cell? _ _ hw401_0; first | rwa [add_block] at this | exact this) GW391.out))) _).trans (((cell_far (p := ⟨gb391, _, none⟩) (by first | exact Nat.ne_of_lt (Nat.lt_of_lt_of_le (by have := World.block_lt_of_cell? _ _ hw401_0; first | rwa [add_block] at this | exact this) GW391.out) | (rw [add_block]; exact Nat.ne_of_lt (Nat.lt_of_lt_of_le (by have := World.block_lt_of_cell? _ _ hw401_0; first | rwa [add_block] at this | exact this) GW391.out)) | (show (Addr.add _ _).block ≠ _; rw [add_block]; exact Nat.ne_of_lt (Nat.lt_of_lt_of_le (by have := World.block_lt_of_cell? _ _ hw401_0; first | rwa [add_block] at this | exact this) GW391.out)) | (dsimp only; exact Nat.ne_of_lt (Nat.lt_of_lt_of_le (by have := World.block_lt_of_cell? _ _ hw401_0; first | rwa [add_block] at this | exact this) GW391.out))) _).trans (((cell_far (p := ⟨gb391, _, none⟩) (by first | exact Nat.ne_of_lt (Nat.lt_of_lt_of_le (by have := World.block_lt_of_cell? _ _ hw401_0; first | rwa [add_block] at this | exact this) GW391.out) | (rw [add_block]; exact Nat.ne_of_lt (Nat.lt_of_lt_of_le (by have := World.block_lt_of_cell? _ _ hw401_0; first | rwa [add_block] at this | exact this) GW391.out)) | (show (Addr.add _ _).block ≠ _; rw [add_block]; exact Nat.ne_of_lt (Nat.lt_of_lt_of_le (by have := World.block_lt_of_cell? _ _ hw401_0; first | rwa [add_block] at this | exact this) GW391.out)) | (dsimp only; exact Nat.ne_of_lt (Nat.lt_of_lt_of_le (by have := World.block_lt_of_cell? _ _ hw401_0; first | rwa [add_block] at this | exact this) GW391.out))) _).trans (((cell_far (p := ⟨gb391, _, none⟩) (by first | exact Nat.ne_of_lt (Nat.lt_of_lt_of_le (by have := World.block_lt_of_cell? _ _ hw401_0; first | rwa [add_block] at this | exact this) GW391.out) | (rw [add_block]; exact Nat.ne_of_lt (Nat.lt_of_lt_of_le (by have := World.block_lt_of_cell? _ _ hw401_0; first | rwa [add_block] at this | exact this) GW391.out)) | (show (Addr.add _ _).block ≠ _; rw [add_block]; exact Nat.ne_of_lt (Nat.lt_of_lt_of_le (by have := World.block_lt_of_cell? _ _ hw401_0; first | rwa [add_block] at this | exact this) GW391.out)) | (dsimp only; exact Nat.ne_of_lt (Nat.lt_of_lt_of_le (by have := World.block_lt_of_cell? _ _ hw401_0; first | rwa [add_block] at this | exact this) GW391.out))) _).trans (((cell_far (p := ⟨gb391, _, none⟩) (by first | exact Nat.ne_of_lt (Nat.lt_of_lt_of_le (by have := World.block_lt_of_cell? _ _ hw401_0; first | rwa [add_block] at this | exact this) GW391.out) | (rw [add_block]; exact Nat.ne_of_lt (Nat.lt_of_lt_of_le (by have := World.block_lt_of_cell? _ _ hw401_0; first | rwa [add_block] at this | exact this) GW391.out)) | (show (Addr.add _ _).block ≠ _; rw [add_block]; exact Nat.ne_of_lt (Nat.lt_of_lt_of_le (by have := World.block_lt_of_cell? _ _ hw401_0; first | rwa [add_block] at this | exact this) GW391.out)) | (dsimp only; exact Nat.ne_of_lt (Nat.lt_of_lt_of_le (by have := World.block_lt_of_cell? _ _ hw401_0; first | rwa [add_block] at this | exact this) GW391.out))) _).trans (hHeld.2.1)))))))))), ((cell_far (p := ⟨gb391, _, none⟩) (by first | exact Kd.own_blk (Kd.R_ne HO396.out BK391.out (by decide)) | (rw [add_block]; exact Kd.own_blk (Kd.R_ne HO396.out BK391.out (by decide))) | (show (Addr.add _ _).block ≠ _; rw [add_block]; exact Kd.own_blk (Kd.R_ne HO396.out BK391.out (by decide))) | (dsimp only; exact Kd.own_blk (Kd.R_ne HO396.out BK391.out (by decide)))) _).trans (((cell_far (p := ⟨gb391, _, none⟩) (by first | exact Kd.own_blk (Kd.R_ne HO396.out BK391.out (by decide)) | (rw [add_block]; exact Kd.own_blk (Kd.R_ne HO396.out BK391.out (by decide))) | (show (Addr.add _ _).block ≠ _; rw [add_block]; exact Kd.own_blk (Kd.R_ne HO396.out BK391.out (by decide))) | (dsimp only; exact Kd.own_blk (Kd.R_ne HO396.out BK391.out (by decide)))) _).trans (((cell_far (p := ⟨gb391, _, none⟩) (by first | exact Kd.own_blk (Kd.R_ne HO396.out BK391.out (by decide)) | (rw [add_block]; exact Kd.own_blk (Kd.R_ne HO396.out BK391.out (by decide))) | (show (Addr.add _ _).block ≠ _; rw [add_block]; exact Kd.own_blk (Kd.R_ne HO396.out BK391.out (by decide))) | (dsimp only; exact Kd.own_blk (Kd.R_ne HO396.out BK391.out (by decide)))) _).trans (((cell_far (p := ⟨gb391, _, none⟩) (by first | exact Kd.own_blk (Kd.R_ne HO396.out BK391.out (by decide)) | (rw [add_block]; exact Kd.own_blk (Kd.R_ne HO396.out BK391.out (by decide))) | (show (Addr.add _ _).block ≠ _; rw [add_block]; exact Kd.own_blk (Kd.R_ne HO396.out BK391.out (by decide))) | (dsimp only; exact Kd.own_blk (Kd.R_ne HO396.out BK391.out (by decide)))) _).trans (((cell_far (p := ⟨gb391, _, none⟩) (by first | exact Kd.own_blk (Kd.R_ne HO396.out BK391.out (by decide)) | (rw [add_block]; exact Kd.own_blk (Kd.R_ne HO396.out BK391.out (by decide))) | (show (Addr.add _ _).block ≠ _; rw [add_block]; exact Kd.own_blk (Kd.R_ne HO396.out BK391.out (by decide))) | (dsimp only; exact Kd.own_blk (Kd.R_ne HO396.out BK391.out (by decide)))) _).trans (hHeld.2.2.1)))))))))), ((cell_far (p := ⟨gb391, _, none⟩) (by first | exact Kd.own_blk (Kd.R_ne HO396.out BK391.out (by decide)) | (rw [add_block]; exact Kd.own_blk (Kd.R_ne HO396.out BK391.out (by decide))) | (show (Addr.add _ _).block ≠ _; rw [add_block]; exact Kd.own_blk (Kd.R_ne HO396.out BK391.out (by decide))) | (dsimp only; exact Kd.own_blk (Kd.R_ne HO396.out BK391.out (by decide)))) _).trans (((cell_far (p := ⟨gb391, _, none⟩) (by first | exact Kd.own_blk (Kd.R_ne HO396.out BK391.out (by decide)) | (rw [add_block]; exact Kd.own_blk (Kd.R_ne HO396.out BK391.out (by decide))) | (show (Addr.add _ _).block ≠ _; rw [add_block]; exact Kd.own_blk (Kd.R_ne HO396.out BK391.out (by decide))) | (dsimp only; exact Kd.own_blk (Kd.R_ne HO396.out BK391.out (by decide)))) _).trans (((cell_far (p := ⟨gb391, _, none⟩) (by first | exact Kd.own_blk (Kd.R_ne HO396.out BK391.out (by decide)) | (rw [add_block]; exact Kd.own_blk (Kd.R_ne HO396.out BK391.out (by decide))) | (show (Addr.add _ _).block ≠ _; rw [add_block]; exact Kd.own_blk (Kd.R_ne HO396.out BK391.out (by decide))) | (dsimp only; exact Kd.own_blk (Kd.R_ne HO396.out BK391.out (by decide)))) _).trans (((cell_far (p := ⟨gb391, _, none⟩) (by first | exact Kd.own_blk (Kd.R_ne HO396.out BK391.out (by decide)) | (rw [add_block]; exact Kd.own_blk (Kd.R_ne HO396.out BK391.out (by decide))) | (show (Addr.add _ _).block ≠ _; rw [add_block]; exact Kd.own_blk (Kd.R_ne HO396.out BK391.out (by decide))) | (dsimp only; exact Kd.own_blk (Kd.R_ne HO396.out BK391.out (by decide)))) _).trans (((cell_far (p := ⟨gb391, _, none⟩) (by first | exact Kd.own_blk (Kd.R_ne HO396.out BK391.out (by decide)) | (rw [add_block]; exact Kd.own_blk (Kd.R_ne HO396.out BK391.out (by decide))) | (show (Addr.add _ _).block ≠ _; rw [add_block]; exact Kd.own_blk (Kd.R_ne HO396.out BK391.out (by decide))) | (dsimp only; exact Kd.own_blk (Kd.R_ne HO396.out BK391.out (by decide)))) _).trans (hHeld.2.2.2.1)))))))))), ((cell_far (p := ⟨gb391, _, none⟩) (by first | exact Kd.own_blk (Kd.R_ne HO396.out BK391.out (by decide)) | (rw [add_block]; exact Kd.own_blk (Kd.R_ne HO396.out BK391.out (by decide))) | (show (Addr.add _ _).block ≠ _; rw [add_block]; exact Kd.own_blk (Kd.R_ne HO396.out BK391.out (by decide))) | (dsimp only; exact Kd.own_blk (Kd.R_ne HO396.out BK391.out (by decide)))) _).trans (((cell_far (p := ⟨gb391, _, none⟩) (by first | exact Kd.own_blk (Kd.R_ne HO396.out BK391.out (by decide)) | (rw [add_block]; exact Kd.own_blk (Kd.R_ne HO396.out BK391.out (by decide))) | (show (Addr.add _ _).block ≠ _; rw [add_block]; exact Kd.own_blk (Kd.R_ne HO396.out BK391.out (by decide))) | (dsimp only; exact Kd.own_blk (Kd.R_ne HO396.out BK391.out (by decide)))) _).trans (((cell_far (p := ⟨gb391, _, none⟩) (by first | exact Kd.own_blk (Kd.R_ne HO396.out BK391.out (by decide)) | (rw [add_block]; exact Kd.own_blk (Kd.R_ne HO396.out BK391.out (by decide))) | (show (Addr.add _ _).block ≠ _; rw [add_block]; exact Kd.own_blk (Kd.R_ne HO396.out BK391.out (by decide))) | (dsimp only; exact Kd.own_blk (Kd.R_ne HO396.out BK391.out (by decide)))) _).trans (((cell_far (p := ⟨gb391, _, none⟩) (by first | exact Kd.own_blk (Kd.R_ne HO396.out BK391.out (by decide)) | (rw [add_block]; exact Kd.own_blk (Kd.R_ne HO396.out BK391.out (by decide))) | (show (Addr.add _ _).block ≠ _; rw [add_block]; exact Kd.own_blk (Kd.R_ne HO396.out BK391.out (by decide))) | (dsimp only; exact Kd.own_blk (Kd.R_ne HO396.out BK391.out (by decide)))) _).trans (((cell_far (p := ⟨gb391, _, none⟩) (by first | exact Kd.own_blk (Kd.R_ne HO396.out BK391.out (by decide)) | (rw [add_block]; exact Kd.own_blk (Kd.R_ne HO396.out BK391.out (by decide))) | (show (Addr.add _ _).block ≠ _; rw [add_block]; exact Kd.own_blk (Kd.R_ne HO396.out BK391.out (by decide))) | (dsimp only; exact Kd.own_blk (Kd.R_ne HO396.out BK391.out (by decide)))) _).trans (hHeld.2.2.2.2))))))))))⟩ (fun hHeld => ?_)
                      clear hK K
                      refine pure_ (i := 20) (N := some 3) (v := ?_) (a' := ?_) #[true, true, true, true, true, true, true, true, true, true, true, true, true, true, true, true, true, true, true, true, true] rfl rfl (any_of HT_.out (by kernel_rfl)) (fun _ _ _ h => h) (Or.inl ⟨by rfl, ?_⟩) ?_ ?_
                      rotate_left
                      · intro w'
                        go_simp
                        with_reducible rfl
                      rotate_left
                      · simp only [Act.put, List.setIfInBounds_toArray, List.set_cons_zero, List.set_cons_succ, i64_w, i32_w]
                        rfl
                      refine done_ (done_of HT_.out (by kernel_rfl)) ?_
                      try go_wp2
                      refine bodyPost_ret (results_ct rfl _ _ gb391 59 #[.int .u32 (rd t394 0), .bool ((rd l0 4) == 128), .int .i64 (wrap64 (Int.tmod (rd t394 1) 16777216)), .int .u32 (rd t394 2), .int .u32 (rd t394 3)] (0, 0) _ rfl (by (with_reducible repeat (first | refine blk_drewN ?_ _ | refine blk_drew ?_ | refine blk_alloc ?_ _)); refine blk_put (cs := #[.int .u32 (rd t394 0), .bool ((rd l0 4) == 128), .int .i64 (wrap64 (Int.tmod (rd t394 1) 16777216)), .int .u32 (rd t394 2), .int .u32 0]) ?_ 4 _ rfl; (with_reducible repeat (first | refine blk_drewN ?_ _ | refine blk_drew ?_ | refine blk_alloc ?_ _)); refine blk_put (cs := #[.int .u32 (rd t394 0), .bool ((rd l0 4) == 128), .int .i64 (wrap64 (Int.tmod (rd t394 1) 16777216)), .int .u32 0, .int .u32 0]) ?_ 3 _ rfl; (with_reducible repeat (first | refine blk_drewN ?_ _ | refine blk_drew ?_ | refine blk_alloc ?_ _)); refine blk_put (cs := #[.int .u32 (rd t394 0), .bool ((rd l0 4) == 128), .int .i64 0, .int .u32 0, .int .u32 0]) ?_ 2 _ rfl; (with_reducible repeat (first | refine blk_drewN ?_ _ | refine blk_drew ?_ | refine blk_alloc ?_ _)); refine blk_put (cs := #[.int .u32 (rd t394 0), .bool false, .int .i64 0, .int .u32 0, .int .u32 0]) ?_ 1 _ rfl; (with_reducible repeat (first | refine blk_drewN ?_ _ | refine blk_drew ?_ | refine blk_alloc ?_ _)); refine blk_put (cs := #[.int .u32 0, .bool false, .int .i64 0, .int .u32 0, .int .u32 0]) ?_ 0 _ rfl; (with_reducible repeat (first | refine blk_drewN ?_ _ | refine blk_drew ?_ | refine blk_alloc ?_ _)); exact BK391.out) Try.underlying59 rfl (by kernel_rfl)) rfl ?_
                      exact ⟨by first | rfl | (simp [errW_none, errW_some] <;> rfl) | (simp [*, errW_none, errW_some] <;> rfl), by repeat (first | (with_reducible first | exact HB.out | apply below_alloc | apply pw_below_drewN | apply below_drew1 | refine below_set ?_ GE391.out) | exact HB.out)⟩
                    · rw [if_neg c19] at H
                      exact absurd H (by simp)
                  · rw [if_neg c18] at H
                    exact absurd H (by simp)
                · rw [if_neg c17] at H
                  exact absurd H (by simp)
              · rw [if_neg c16] at H
                exact absurd H (by simp)
            · replace c15 := Bool.eq_false_iff.mpr c15
              subst c15
              have H1 : (some (0, false, 0, 0, 0, 3)) = some (r1, r2, r3, r4, r5, r6) := by rw [if_neg (show ¬ (false = true) by decide)] at H; exact H
              clear H
              have H := H1
              clear H1
              simp only [Option.some.injEq, Prod.mk.injEq] at H
              obtain ⟨rfl, rfl, rfl, rfl, rfl, rfl⟩ := H
              go_wp2_with (first | ((with_reducible refine gate_callee (f := 31) rfl ?_); refine goesL_ (some 28) rfl rfl Try.func31 (by kernel_rfl) rfl #[.slice A0 l0.length c0, .int .i64 4] rfl (by (try simp only [List.map_toArray, List.map_cons, List.map_nil]); first | done | rfl | (simp only [List.length_drop, List.length_take]; rfl)) ?_; (with_reducible refine (crossroadsref01_Rows.calls kj4 (fun k_ => k_ < w.heap.size) _ _ l0 4 t394 t397 _ ?side1 A12.out).mono ?_); (case side1 => exact Kd.V_mk HC0.out (Kd.F_below (Kd.C_F (Kd.heap_int .u8) HR0.out) (by repeat (first | (with_reducible first | exact HB.out | apply below_alloc | apply pw_below_drewN | apply below_drew1 | refine below_set ?_ GE391.out) | exact HB.out)))); rintro e w28 ⟨v395, rfl, ho0, hb⟩; refine ⟨_, rfl, ?_⟩; have n0_ := Aside0.mk (Kd.R_lower (Kd.R_mono (ok' := fun k_ => True) ho0 (fun _ hk_ => trivial)) (below_size (by repeat (first | (with_reducible first | exact HB.out | apply below_alloc | apply pw_below_drewN | apply below_drew1 | refine below_set ?_ GE391.out) | exact HB.out)))); have n1_ := Aside0.mk (blk_below (g := gb391) (o := .cells #[.int .u32 0, .bool false, .int .i64 0, .int .u32 0, .int .u32 0] 59 (0, 0)) (by (with_reducible repeat (first | refine blk_drewN ?_ _ | refine blk_drew ?_ | refine blk_alloc ?_ _)); exact BK391.out) hb); have n2_ := Aside0.mk (below_step (by repeat (first | (with_reducible first | exact HB.out | apply below_alloc | apply pw_below_drewN | apply below_drew1 | refine below_set ?_ GE391.out) | exact HB.out)) hb); clear BK391; clear HB; have HO396 := n0_; have BK391 := n1_; have HB := n2_; clear n0_ n1_ n2_; (try clear hb); (try clear hb2); (try clear hk); (try clear hi); (try clear ho0); obtain ⟨Ao29, co29, eo29⟩ := Kd.R_slice HO396.out; subst eo29; have p398 : 0 ≤ (0 : Int) := (by omega); have q398 : 0 < (t394.length : Int) := of_decide_eq_true (by first | (with_reducible assumption) | assumption); obtain ⟨ad398, e398, hx398_0⟩ := Kd.at_int (Kd.R_reads' HO396.out).2.2 0 p398 q398; cases e398; have qi398 : (0 < t394.length) = True := eq_true (by omega); (try rw [show ((0 : Int)).toNat = 0 from rfl] at hx398_0); (try rw [Addr.add_zero'] at hx398_0); replace p398 := eq_true p398; replace q398 := eq_true q398) | ((with_reducible refine gate_callee (f := 27) rfl ?_); refine goesL_ (some 34) rfl rfl Try.func27 (by kernel_rfl) rfl #[.int .u32 (rd t394 0)] rfl (by (try simp only [List.map_toArray, List.map_cons, List.map_nil]); first | done | rfl | (simp only [List.length_drop, List.length_take]; rfl)) ?_; (with_reducible refine (crossroadsref12_isMask.calls kj4 (rd t394 0) false _ A14.out).mono ?_); rintro e w' ⟨rfl, ⟨nd, rfl⟩⟩; refine ⟨_, rfl, ?_⟩; (try (rw [drewN_self w28]; generalize hq_ : World.drewN w28 _ = w28; have n0_ : Aside0 (Kd.R (Kd.int .u32) 22 w28 w.heap.size (fun _ => True) (.slice (some ad398) t394.length co29) t394) := ⟨by rw [← hq_]; exact (by (with_reducible repeat (first | apply Kd.R_alloc | apply Kd.R_drewN | apply Kd.R_drew)); exact HO396.out)⟩; have n1_ : Aside0 (w28.heap[gb391]? = some (.cells #[.int .u32 0, .bool false, .int .i64 0, .int .u32 0, .int .u32 0] 59 (0, 0))) := ⟨by rw [← hq_]; exact (by (with_reducible repeat (first | refine blk_drewN ?_ _ | refine blk_drew ?_ | refine blk_alloc ?_ _)); exact BK391.out)⟩; have n2_ : Aside0 (Below w.heap.size w w28) := ⟨by rw [← hq_]; exact (by repeat (first | (with_reducible first | exact HB.out | apply below_alloc | apply pw_below_drewN | apply below_drew1 | refine below_set ?_ GE391.out) | exact HB.out))⟩; clear HO396 BK391 HB hq_; have HO396 := n0_; have BK391 := n1_; have HB := n2_; clear n0_ n1_ n2_)); have hcz30_0 : w28.cell? ⟨gb391, 0, none⟩ = some (.int .u32 0) := (blk_cell BK391.out 0).trans rfl; have hcz30_1 : w28.cell? ⟨gb391, 1, none⟩ = some (.bool false) := (blk_cell BK391.out 1).trans rfl; have hcz30_2 : w28.cell? ⟨gb391, 2, none⟩ = some (.int .i64 0) := (blk_cell BK391.out 2).trans rfl; have hcz30_3 : w28.cell? ⟨gb391, 3, none⟩ = some (.int .u32 0) := (blk_cell BK391.out 3).trans rfl; have hcz30_4 : w28.cell? ⟨gb391, 4, none⟩ = some (.int .u32 0) := (blk_cell BK391.out 4).trans rfl; have hfz30_0 := blk_frozen BK391.out 0; have hfz30_1 := blk_frozen BK391.out 1; have hfz30_2 := blk_frozen BK391.out 2; have hfz30_3 := blk_frozen BK391.out 3; have hfz30_4 := blk_frozen BK391.out 4))
              refine bodyPost_ret (results_ct rfl _ _ gb391 59 #[.int .u32 0, .bool false, .int .i64 0, .int .u32 0, .int .u32 0] (0, 0) _ rfl (by (with_reducible repeat (first | refine blk_drewN ?_ _ | refine blk_drew ?_ | refine blk_alloc ?_ _)); refine blk_put (cs := #[.int .u32 0, .bool false, .int .i64 0, .int .u32 0, .int .u32 0]) ?_ 4 _ rfl; (with_reducible repeat (first | refine blk_drewN ?_ _ | refine blk_drew ?_ | refine blk_alloc ?_ _)); refine blk_put (cs := #[.int .u32 0, .bool false, .int .i64 0, .int .u32 0, .int .u32 0]) ?_ 3 _ rfl; (with_reducible repeat (first | refine blk_drewN ?_ _ | refine blk_drew ?_ | refine blk_alloc ?_ _)); refine blk_put (cs := #[.int .u32 0, .bool false, .int .i64 0, .int .u32 0, .int .u32 0]) ?_ 2 _ rfl; (with_reducible repeat (first | refine blk_drewN ?_ _ | refine blk_drew ?_ | refine blk_alloc ?_ _)); refine blk_put (cs := #[.int .u32 0, .bool false, .int .i64 0, .int .u32 0, .int .u32 0]) ?_ 1 _ rfl; (with_reducible repeat (first | refine blk_drewN ?_ _ | refine blk_drew ?_ | refine blk_alloc ?_ _)); refine blk_put (cs := #[.int .u32 0, .bool false, .int .i64 0, .int .u32 0, .int .u32 0]) ?_ 0 _ rfl; (with_reducible repeat (first | refine blk_drewN ?_ _ | refine blk_drew ?_ | refine blk_alloc ?_ _)); exact BK391.out) Try.underlying59 rfl (by kernel_rfl)) rfl ?_
              exact ⟨by first | rfl | (simp [errW_none, errW_some] <;> rfl) | (simp [*, errW_none, errW_some] <;> rfl), by repeat (first | (with_reducible first | exact HB.out | apply below_alloc | apply pw_below_drewN | apply below_drew1 | refine below_set ?_ GE391.out) | exact HB.out)⟩
          · rw [if_neg c13] at H
            exact absurd H (by simp)

end Go.Proofs.Ytdlgikajkljdeaa.PBd
