-- Written by this session's own program (wip/print), out of the translation.
import Derived.Test.YtgfjhkapbpagcaaPAllx0
namespace Go.Proofs.Ytgfjhkapbpagcaa.PAll
open Go.RowKit Go.Proofs.YtgfjhkapbpagcaaW.PrintWords Go.Proofs.YtgfjhkapbpagcaaW.PrintLast Go.Proofs.YtgfjhkapbpagcaaW.PrintMore
attribute [local go_sem] max2_int min2_int max_two min_two max_three min_three max_four min_four   -- for this text's walks alone
set_option linter.unusedVariables false
set_option linter.unusedSimpArgs false

/-! ### crossroadsref10_Check: function 16 -/
def crossroadsref10_Check.j0 : Nat → Bool → Int → Int → Int → Int → Int → Bool → Int → Int → Int → Int → Int → Int → Int → List Int → Option (Int)
  | 0, _, _, _, _, _, _, _, _, _, _, _, _, _, _, _ => none
  | k + 1, x28, x363000, x363001, x363002, x363003, x363004, x363005, x364000, x364001, x364002, x364003, x364004, x364005, x364006, x364007 => if x28 = true then (some 13) else (if (Go.bits .and .i64 x364002 10) = (Go.bits .and .i64 x363002 10) then (some 0) else (some 3))
def crossroadsref10_Check.f (k : Nat) (a0_0 : Int) (a0_1 : Int) (a0_2 : Int) (a0_3 : Int) (a0_4 : Int) (a0_5 : Bool) (a1_0 : Int) (a1_1 : Int) (a1_2 : Int) (a1_3 : Int) (a1_4 : Int) (a1_5 : Int) (a1_6 : Int) (l1_7 : List Int) : Option (Int) := if a1_1 = a0_1 then (if a1_4 = a0_3 then (if a0_5 = true then (crossroadsref10_Check.j0 k false a0_0 a0_1 a0_2 a0_3 a0_4 a0_5 a1_0 a1_1 a1_2 a1_3 a1_4 a1_5 a1_6 l1_7) else (crossroadsref10_Check.j0 k (a1_0 != a0_0) a0_0 a0_1 a0_2 a0_3 a0_4 a0_5 a1_0 a1_1 a1_2 a1_3 a1_4 a1_5 a1_6 l1_7)) else (crossroadsref10_Check.j0 k true a0_0 a0_1 a0_2 a0_3 a0_4 a0_5 a1_0 a1_1 a1_2 a1_3 a1_4 a1_5 a1_6 l1_7)) else (crossroadsref10_Check.j0 k true a0_0 a0_1 a0_2 a0_3 a0_4 a0_5 a1_0 a1_1 a1_2 a1_3 a1_4 a1_5 a1_6 l1_7)
theorem crossroadsref10_Check.mono_l : ∀ k, (∀ y0 y1 y2 y3 y4 y5 y6 y7 y8 y9 y10 y11 y12 y13 y14, LeO (crossroadsref10_Check.j0 k y0 y1 y2 y3 y4 y5 y6 y7 y8 y9 y10 y11 y12 y13 y14) (crossroadsref10_Check.j0 (k + 1) y0 y1 y2 y3 y4 y5 y6 y7 y8 y9 y10 y11 y12 y13 y14))
  | 0 => fun _ _ _ _ _ _ _ _ _ _ _ _ _ _ _ r h => by simp [crossroadsref10_Check.j0] at h
  | k + 1 => by
    have ih0 := crossroadsref10_Check.mono_l k
    · intro y0 y1 y2 y3 y4 y5 y6 y7 y8 y9 y10 y11 y12 y13 y14
      unfold crossroadsref10_Check.j0
      repeat' first
      | (with_reducible exact ih0 _ _ _ _ _ _ _ _ _ _ _ _ _ _ _)
      | (with_reducible exact LeO.refl _)
      | (with_reducible exact LeO.none _)
      | (with_reducible refine LeO.ite ?_ ?_)
      | (with_reducible refine LeO.bind ?_ (fun _ => ?_))
      | exact ih0 _ _ _ _ _ _ _ _ _ _ _ _ _ _ _
      | exact LeO.none _
      | refine LeO.ite ?_ ?_
      | refine LeO.bind ?_ (fun _ => ?_)
theorem crossroadsref10_Check.mono : ∀ a0 a1 a2 a3 a4 a5 a6 a7 a8 a9 a10 a11 a12 a13 k, LeO (crossroadsref10_Check.f k a0 a1 a2 a3 a4 a5 a6 a7 a8 a9 a10 a11 a12 a13) (crossroadsref10_Check.f (k + 1) a0 a1 a2 a3 a4 a5 a6 a7 a8 a9 a10 a11 a12 a13) := by
  intro a0 a1 a2 a3 a4 a5 a6 a7 a8 a9 a10 a11 a12 a13 k
  have ih0 := crossroadsref10_Check.mono_l k
  unfold crossroadsref10_Check.f
  repeat' first
      | (with_reducible exact ih0 _ _ _ _ _ _ _ _ _ _ _ _ _ _ _)
      | (with_reducible exact LeO.refl _)
      | (with_reducible exact LeO.none _)
      | (with_reducible refine LeO.ite ?_ ?_)
      | (with_reducible refine LeO.bind ?_ (fun _ => ?_))
      | exact ih0 _ _ _ _ _ _ _ _ _ _ _ _ _ _ _
      | exact LeO.none _
      | refine LeO.ite ?_ ?_
      | refine LeO.bind ?_ (fun _ => ?_)
set_option maxHeartbeats 8000000 in
set_option maxRecDepth 100000 in
theorem crossroadsref10_Check.calls (k : Nat) (a0_0 : Int) (a0_1 : Int) (a0_2 : Int) (a0_3 : Int) (a0_4 : Int) (a0_5 : Bool) (a1_0 : Int) (a1_1 : Int) (a1_2 : Int) (a1_3 : Int) (a1_4 : Int) (a1_5 : Int) (a1_6 : Int) (A1_7 : Option Addr) (c1_7 : Nat) (l1_7 : List Int) (r : Int) (w : World) (hr1_7 : Kd.C (Kd.int .u32) w A1_7 l1_7.length l1_7) (hc1_7 : l1_7.length ≤ c1_7) (h : crossroadsref10_Check.f k a0_0 a0_1 a0_2 a0_3 a0_4 a0_5 a1_0 a1_1 a1_2 a1_3 a1_4 a1_5 a1_6 l1_7 = some r) :
    Calls Try.prog 16 #[.agg #[.int .u32 a0_0, .int .i64 a0_1, .int .i64 a0_2, .int .u32 a0_3, .int .u32 a0_4, .bool a0_5], .agg #[.int .u32 a1_0, .int .i64 a1_1, .int .i64 a1_2, .int .i64 a1_3, .int .u32 a1_4, .int .u32 a1_5, .int .u32 a1_6, .slice A1_7 l1_7.length c1_7]] w fun e w' => e = .returned (.int .i64 r) ∧ Below w.heap.size w w' := by
  have hu46 := Try.underlying46
  have hu32 := Try.underlying32
  have HR1_7 := Aside0.mk hr1_7
  have HC1_7 := Aside0.mk hc1_7
  clear hr1_7 hc1_7
  have HB := Aside0.mk (Below.refl w.heap.size w)
  have H : (if a1_1 = a0_1 then (if a1_4 = a0_3 then (if a0_5 = true then (crossroadsref10_Check.j0 k false a0_0 a0_1 a0_2 a0_3 a0_4 a0_5 a1_0 a1_1 a1_2 a1_3 a1_4 a1_5 a1_6 l1_7) else (crossroadsref10_Check.j0 k (a1_0 != a0_0) a0_0 a0_1 a0_2 a0_3 a0_4 a0_5 a1_0 a1_1 a1_2 a1_3 a1_4 a1_5 a1_6 l1_7)) else (crossroadsref10_Check.j0 k true a0_0 a0_1 a0_2 a0_3 a0_4 a0_5 a1_0 a1_1 a1_2 a1_3 a1_4 a1_5 a1_6 l1_7)) else (crossroadsref10_Check.j0 k true a0_0 a0_1 a0_2 a0_3 a0_4 a0_5 a1_0 a1_1 a1_2 a1_3 a1_4 a1_5 a1_6 l1_7)) = some r := h
  clear h
  have HC3 := Aside0.mk H
  clear H
  go_enter Try.func16, Try.ntmps16
  go_upto_region 1 with (first | ((with_reducible refine gate_dst (N := 2) rfl ?_); refine box_event ?hg (N := 2) ?hd (cs := #[.int .u32 a0_0, .int .i64 a0_1, .int .i64 a0_2, .int .u32 a0_3, .int .u32 a0_4, .bool a0_5]) (t := 46) ?hr ?_; (case hd => rfl); (case hg => rfl); (case hr => first | (go_simp; done) | (go_simp; rfl)); intro gb362 hg w4 hbox hb; have n0_ := Aside0.mk (below_step (by repeat (first | (with_reducible first | exact HB.out | apply below_alloc | apply pw_below_drewN | apply below_drew1) | exact HB.out)) hb); have n1_ := Aside0.mk (hbox); have n2_ := Aside0.mk ((by rw [hg]; exact (below_size (by repeat (first | (with_reducible first | exact HB.out | apply below_alloc | apply pw_below_drewN | apply below_drew1) | exact HB.out))) : w.heap.size ≤ gb362)); have n3_ := Aside0.mk ((by rw [hg]; exact (below_size (by repeat (first | (with_reducible first | exact HB.out | apply below_alloc | apply pw_below_drewN | apply below_drew1) | exact HB.out))) : w.heap.size ≤ gb362)); clear HB; have HB := n0_; have BK362 := n1_; have GW362 := n2_; have GE362 := n3_; clear n0_ n1_ n2_ n3_; clear hb hbox hg) | ((with_reducible refine gate_dst (N := 3) rfl ?_); refine box_event ?hg (N := 3) ?hd (cs := #[.int .u32 a1_0, .int .i64 a1_1, .int .i64 a1_2, .int .i64 a1_3, .int .u32 a1_4, .int .u32 a1_5, .int .u32 a1_6, .slice A1_7 l1_7.length c1_7]) (t := 32) ?hr ?_; (case hd => rfl); (case hg => rfl); (case hr => first | (go_simp; done) | (go_simp; rfl)); intro gb363 hg w5 hbox hb; have n0_ := Aside0.mk (blk_below (g := gb362) (o := .cells #[.int .u32 a0_0, .int .i64 a0_1, .int .i64 a0_2, .int .u32 a0_3, .int .u32 a0_4, .bool a0_5] 46 (0, 0)) (by (with_reducible repeat (first | refine blk_drewN ?_ _ | refine blk_drew ?_ | refine blk_alloc ?_ _)); exact BK362.out) hb); have n1_ := Aside0.mk (below_step (by repeat (first | (with_reducible first | exact HB.out | apply below_alloc | apply pw_below_drewN | apply below_drew1 | refine below_set ?_ GE362.out) | exact HB.out)) hb); have n2_ := Aside0.mk (hbox); have n3_ := Aside0.mk ((by rw [hg]; exact (below_size (by repeat (first | (with_reducible first | exact HB.out | apply below_alloc | apply pw_below_drewN | apply below_drew1 | refine below_set ?_ GE362.out) | exact HB.out))) : w.heap.size ≤ gb363)); have n4_ := Aside0.mk ((by rw [hg]; exact (below_size (by repeat (first | (with_reducible first | exact HB.out | apply below_alloc | apply pw_below_drewN | apply below_drew1 | refine below_set ?_ GE362.out) | exact HB.out))) : w.heap.size ≤ gb363)); have n5_ := Aside0.mk ((by rw [hg]; exact Nat.ne_of_lt (blk_lt (g := gb362) (o := .cells #[.int .u32 a0_0, .int .i64 a0_1, .int .i64 a0_2, .int .u32 a0_3, .int .u32 a0_4, .bool a0_5] 46 (0, 0)) (by (with_reducible repeat (first | refine blk_drewN ?_ _ | refine blk_drew ?_ | refine blk_alloc ?_ _)); exact BK362.out)) : gb362 ≠ gb363)); have n6_ := Aside0.mk ((by rw [hg]; exact Nat.ne_of_gt (blk_lt (g := gb362) (o := .cells #[.int .u32 a0_0, .int .i64 a0_1, .int .i64 a0_2, .int .u32 a0_3, .int .u32 a0_4, .bool a0_5] 46 (0, 0)) (by (with_reducible repeat (first | refine blk_drewN ?_ _ | refine blk_drew ?_ | refine blk_alloc ?_ _)); exact BK362.out)) : gb363 ≠ gb362)); clear BK362; clear HB; have BK362 := n0_; have HB := n1_; have BK363 := n2_; have GW363 := n3_; have GE363 := n4_; have NB362_363 := n5_; have NB363_362 := n6_; clear n0_ n1_ n2_ n3_ n4_ n5_ n6_; clear hb hbox hg))
  (try simp only [Act.put, List.setIfInBounds_toArray, List.set_cons_zero, List.set_cons_succ])
  go_cut [28] (fun v28 wc => ∃ (kq : Nat) (x28_2 : Bool), v28 = .bool x28_2 ∧ Aside0 (crossroadsref10_Check.j0 kq x28_2 a0_0 a0_1 a0_2 a0_3 a0_4 a0_5 a1_0 a1_1 a1_2 a1_3 a1_4 a1_5 a1_6 l1_7 = some r) ∧ Aside0 (kq ≤ k) ∧ Aside0 (wc.heap[gb362]? = some (.cells #[.int .u32 a0_0, .int .i64 a0_1, .int .i64 a0_2, .int .u32 a0_3, .int .u32 a0_4, .bool a0_5] 46 (0, 0))) ∧ Aside0 (wc.heap[gb363]? = some (.cells #[.int .u32 a1_0, .int .i64 a1_1, .int .i64 a1_2, .int .i64 a1_3, .int .u32 a1_4, .int .u32 a1_5, .int .u32 a1_6, (.slice A1_7 l1_7.length c1_7)] 32 (0, 0))) ∧ Aside0 (Below w.heap.size w wc))
  case first =>
    have H := HC3.out
    clear HC3
    by_cases c6 : a1_1 = a0_1
    · rw [if_pos c6] at H
      have c6b0 : (a1_1 == a0_1) = true := beq_iff_eq.mpr c6
      have c6b1 : (a1_1 != a0_1) = false := bne_eq_false_iff_eq.mpr c6
      clear c6
      (first | rw [c6b0] | (simp only [i64_w, i32_w]; rw [c6b0]) | rw [c6b1] | skip)
      by_cases c7 : a1_4 = a0_3
      · rw [if_pos c7] at H
        have c7b0 : (a1_4 == a0_3) = true := beq_iff_eq.mpr c7
        have c7b1 : (a1_4 != a0_3) = false := bne_eq_false_iff_eq.mpr c7
        clear c7
        by_cases c8 : a0_5 = true
        · subst c8
          have H1 : (crossroadsref10_Check.j0 k false a0_0 a0_1 a0_2 a0_3 a0_4 true a1_0 a1_1 a1_2 a1_3 a1_4 a1_5 a1_6 l1_7) = some r := by rw [if_pos rfl] at H; exact H
          clear H
          have H := H1
          clear H1
          have H' := Aside0.mk H
          clear H
          have hnb9 := NB363_362.out
          have hnc9 := NB362_363.out
          have hcz10_0 : w5.cell? ⟨gb363, 0, none⟩ = some (.int .u32 a1_0) := (blk_cell BK363.out 0).trans rfl
          have hcz10_1 : w5.cell? ⟨gb363, 1, none⟩ = some (.int .i64 a1_1) := (blk_cell BK363.out 1).trans rfl
          have hcz10_2 : w5.cell? ⟨gb363, 2, none⟩ = some (.int .i64 a1_2) := (blk_cell BK363.out 2).trans rfl
          have hcz10_3 : w5.cell? ⟨gb363, 3, none⟩ = some (.int .i64 a1_3) := (blk_cell BK363.out 3).trans rfl
          have hcz10_4 : w5.cell? ⟨gb363, 4, none⟩ = some (.int .u32 a1_4) := (blk_cell BK363.out 4).trans rfl
          have hcz10_5 : w5.cell? ⟨gb363, 5, none⟩ = some (.int .u32 a1_5) := (blk_cell BK363.out 5).trans rfl
          have hcz10_6 : w5.cell? ⟨gb363, 6, none⟩ = some (.int .u32 a1_6) := (blk_cell BK363.out 6).trans rfl
          have hcz10_7 : w5.cell? ⟨gb363, 7, none⟩ = some (.slice A1_7 l1_7.length c1_7) := (blk_cell BK363.out 7).trans rfl
          have hfz10_0 := blk_frozen BK363.out 0
          have hfz10_1 := blk_frozen BK363.out 1
          have hfz10_2 := blk_frozen BK363.out 2
          have hfz10_3 := blk_frozen BK363.out 3
          have hfz10_4 := blk_frozen BK363.out 4
          have hfz10_5 := blk_frozen BK363.out 5
          have hfz10_6 := blk_frozen BK363.out 6
          have hfz10_7 := blk_frozen BK363.out 7
          have hcz11_0 : w5.cell? ⟨gb362, 0, none⟩ = some (.int .u32 a0_0) := (blk_cell BK362.out 0).trans rfl
          have hcz11_1 : w5.cell? ⟨gb362, 1, none⟩ = some (.int .i64 a0_1) := (blk_cell BK362.out 1).trans rfl
          have hcz11_2 : w5.cell? ⟨gb362, 2, none⟩ = some (.int .i64 a0_2) := (blk_cell BK362.out 2).trans rfl
          have hcz11_3 : w5.cell? ⟨gb362, 3, none⟩ = some (.int .u32 a0_3) := (blk_cell BK362.out 3).trans rfl
          have hcz11_4 : w5.cell? ⟨gb362, 4, none⟩ = some (.int .u32 a0_4) := (blk_cell BK362.out 4).trans rfl
          have hcz11_5 : w5.cell? ⟨gb362, 5, none⟩ = some (.bool true) := (blk_cell BK362.out 5).trans rfl
          have hfz11_0 := blk_frozen BK362.out 0
          have hfz11_1 := blk_frozen BK362.out 1
          have hfz11_2 := blk_frozen BK362.out 2
          have hfz11_3 := blk_frozen BK362.out 3
          have hfz11_4 := blk_frozen BK362.out 4
          have hfz11_5 := blk_frozen BK362.out 5
          go_wp2
          go_meet
          case rel => exact ⟨_, (false), (by first | rfl | (simp; done) | (simp [*]; done)), H', ⟨by first | omega | exact Nat.le_refl _⟩, ⟨by (with_reducible repeat (first | refine blk_drewN ?_ _ | refine blk_drew ?_ | refine blk_alloc ?_ _)); exact BK362.out⟩, ⟨by (with_reducible repeat (first | refine blk_drewN ?_ _ | refine blk_drew ?_ | refine blk_alloc ?_ _)); exact BK363.out⟩, ⟨by repeat (first | (with_reducible first | exact HB.out | apply below_alloc | apply pw_below_drewN | apply below_drew1 | refine below_set ?_ GE362.out | refine below_set ?_ GE363.out) | exact HB.out)⟩⟩
        · replace c8 := Bool.eq_false_iff.mpr c8
          subst c8
          have H1 : (crossroadsref10_Check.j0 k (a1_0 != a0_0) a0_0 a0_1 a0_2 a0_3 a0_4 false a1_0 a1_1 a1_2 a1_3 a1_4 a1_5 a1_6 l1_7) = some r := by rw [if_neg (show ¬ (false = true) by decide)] at H; exact H
          clear H
          have H := H1
          clear H1
          have H' := Aside0.mk H
          clear H
          have hnb12 := NB363_362.out
          have hnc12 := NB362_363.out
          have hcz13_0 : w5.cell? ⟨gb363, 0, none⟩ = some (.int .u32 a1_0) := (blk_cell BK363.out 0).trans rfl
          have hcz13_1 : w5.cell? ⟨gb363, 1, none⟩ = some (.int .i64 a1_1) := (blk_cell BK363.out 1).trans rfl
          have hcz13_2 : w5.cell? ⟨gb363, 2, none⟩ = some (.int .i64 a1_2) := (blk_cell BK363.out 2).trans rfl
          have hcz13_3 : w5.cell? ⟨gb363, 3, none⟩ = some (.int .i64 a1_3) := (blk_cell BK363.out 3).trans rfl
          have hcz13_4 : w5.cell? ⟨gb363, 4, none⟩ = some (.int .u32 a1_4) := (blk_cell BK363.out 4).trans rfl
          have hcz13_5 : w5.cell? ⟨gb363, 5, none⟩ = some (.int .u32 a1_5) := (blk_cell BK363.out 5).trans rfl
          have hcz13_6 : w5.cell? ⟨gb363, 6, none⟩ = some (.int .u32 a1_6) := (blk_cell BK363.out 6).trans rfl
          have hcz13_7 : w5.cell? ⟨gb363, 7, none⟩ = some (.slice A1_7 l1_7.length c1_7) := (blk_cell BK363.out 7).trans rfl
          have hfz13_0 := blk_frozen BK363.out 0
          have hfz13_1 := blk_frozen BK363.out 1
          have hfz13_2 := blk_frozen BK363.out 2
          have hfz13_3 := blk_frozen BK363.out 3
          have hfz13_4 := blk_frozen BK363.out 4
          have hfz13_5 := blk_frozen BK363.out 5
          have hfz13_6 := blk_frozen BK363.out 6
          have hfz13_7 := blk_frozen BK363.out 7
          have hcz14_0 : w5.cell? ⟨gb362, 0, none⟩ = some (.int .u32 a0_0) := (blk_cell BK362.out 0).trans rfl
          have hcz14_1 : w5.cell? ⟨gb362, 1, none⟩ = some (.int .i64 a0_1) := (blk_cell BK362.out 1).trans rfl
          have hcz14_2 : w5.cell? ⟨gb362, 2, none⟩ = some (.int .i64 a0_2) := (blk_cell BK362.out 2).trans rfl
          have hcz14_3 : w5.cell? ⟨gb362, 3, none⟩ = some (.int .u32 a0_3) := (blk_cell BK362.out 3).trans rfl
          have hcz14_4 : w5.cell? ⟨gb362, 4, none⟩ = some (.int .u32 a0_4) := (blk_cell BK362.out 4).trans rfl
          have hcz14_5 : w5.cell? ⟨gb362, 5, none⟩ = some (.bool false) := (blk_cell BK362.out 5).trans rfl
          have hfz14_0 := blk_frozen BK362.out 0
          have hfz14_1 := blk_frozen BK362.out 1
          have hfz14_2 := blk_frozen BK362.out 2
          have hfz14_3 := blk_frozen BK362.out 3
          have hfz14_4 := blk_frozen BK362.out 4
          have hfz14_5 := blk_frozen BK362.out 5
          go_wp2
          go_meet
          case rel => exact ⟨_, ((a1_0 != a0_0)), (by first | rfl | (simp; done) | (simp [*]; done)), H', ⟨by first | omega | exact Nat.le_refl _⟩, ⟨by (with_reducible repeat (first | refine blk_drewN ?_ _ | refine blk_drew ?_ | refine blk_alloc ?_ _)); exact BK362.out⟩, ⟨by (with_reducible repeat (first | refine blk_drewN ?_ _ | refine blk_drew ?_ | refine blk_alloc ?_ _)); exact BK363.out⟩, ⟨by repeat (first | (with_reducible first | exact HB.out | apply below_alloc | apply pw_below_drewN | apply below_drew1 | refine below_set ?_ GE362.out | refine below_set ?_ GE363.out) | exact HB.out)⟩⟩
      · rw [if_neg c7] at H
        have c7b0 : (a1_4 == a0_3) = false := beq_eq_false_iff_ne.mpr c7
        have c7b1 : (a1_4 != a0_3) = true := bne_iff_ne.mpr c7
        have H' := Aside0.mk H
        clear H
        have hnb15 := NB363_362.out
        have hnc15 := NB362_363.out
        have hcz16_0 : w5.cell? ⟨gb363, 0, none⟩ = some (.int .u32 a1_0) := (blk_cell BK363.out 0).trans rfl
        have hcz16_1 : w5.cell? ⟨gb363, 1, none⟩ = some (.int .i64 a1_1) := (blk_cell BK363.out 1).trans rfl
        have hcz16_2 : w5.cell? ⟨gb363, 2, none⟩ = some (.int .i64 a1_2) := (blk_cell BK363.out 2).trans rfl
        have hcz16_3 : w5.cell? ⟨gb363, 3, none⟩ = some (.int .i64 a1_3) := (blk_cell BK363.out 3).trans rfl
        have hcz16_4 : w5.cell? ⟨gb363, 4, none⟩ = some (.int .u32 a1_4) := (blk_cell BK363.out 4).trans rfl
        have hcz16_5 : w5.cell? ⟨gb363, 5, none⟩ = some (.int .u32 a1_5) := (blk_cell BK363.out 5).trans rfl
        have hcz16_6 : w5.cell? ⟨gb363, 6, none⟩ = some (.int .u32 a1_6) := (blk_cell BK363.out 6).trans rfl
        have hcz16_7 : w5.cell? ⟨gb363, 7, none⟩ = some (.slice A1_7 l1_7.length c1_7) := (blk_cell BK363.out 7).trans rfl
        have hfz16_0 := blk_frozen BK363.out 0
        have hfz16_1 := blk_frozen BK363.out 1
        have hfz16_2 := blk_frozen BK363.out 2
        have hfz16_3 := blk_frozen BK363.out 3
        have hfz16_4 := blk_frozen BK363.out 4
        have hfz16_5 := blk_frozen BK363.out 5
        have hfz16_6 := blk_frozen BK363.out 6
        have hfz16_7 := blk_frozen BK363.out 7
        have hcz17_0 : w5.cell? ⟨gb362, 0, none⟩ = some (.int .u32 a0_0) := (blk_cell BK362.out 0).trans rfl
        have hcz17_1 : w5.cell? ⟨gb362, 1, none⟩ = some (.int .i64 a0_1) := (blk_cell BK362.out 1).trans rfl
        have hcz17_2 : w5.cell? ⟨gb362, 2, none⟩ = some (.int .i64 a0_2) := (blk_cell BK362.out 2).trans rfl
        have hcz17_3 : w5.cell? ⟨gb362, 3, none⟩ = some (.int .u32 a0_3) := (blk_cell BK362.out 3).trans rfl
        have hcz17_4 : w5.cell? ⟨gb362, 4, none⟩ = some (.int .u32 a0_4) := (blk_cell BK362.out 4).trans rfl
        have hcz17_5 : w5.cell? ⟨gb362, 5, none⟩ = some (.bool a0_5) := (blk_cell BK362.out 5).trans rfl
        have hfz17_0 := blk_frozen BK362.out 0
        have hfz17_1 := blk_frozen BK362.out 1
        have hfz17_2 := blk_frozen BK362.out 2
        have hfz17_3 := blk_frozen BK362.out 3
        have hfz17_4 := blk_frozen BK362.out 4
        have hfz17_5 := blk_frozen BK362.out 5
        go_wp2
        go_meet
        case rel => exact ⟨_, (true), (by first | rfl | (simp; done) | (simp [*]; done)), H', ⟨by first | omega | exact Nat.le_refl _⟩, ⟨by (with_reducible repeat (first | refine blk_drewN ?_ _ | refine blk_drew ?_ | refine blk_alloc ?_ _)); exact BK362.out⟩, ⟨by (with_reducible repeat (first | refine blk_drewN ?_ _ | refine blk_drew ?_ | refine blk_alloc ?_ _)); exact BK363.out⟩, ⟨by repeat (first | (with_reducible first | exact HB.out | apply below_alloc | apply pw_below_drewN | apply below_drew1 | refine below_set ?_ GE362.out | refine below_set ?_ GE363.out) | exact HB.out)⟩⟩
    · rw [if_neg c6] at H
      have c6b0 : (a1_1 == a0_1) = false := beq_eq_false_iff_ne.mpr c6
      have c6b1 : (a1_1 != a0_1) = true := bne_iff_ne.mpr c6
      (first | rw [c6b0] | (simp only [i64_w, i32_w]; rw [c6b0]) | rw [c6b1] | skip)
      have H' := Aside0.mk H
      clear H
      have hnb18 := NB363_362.out
      have hnc18 := NB362_363.out
      have hcz19_0 : w5.cell? ⟨gb363, 0, none⟩ = some (.int .u32 a1_0) := (blk_cell BK363.out 0).trans rfl
      have hcz19_1 : w5.cell? ⟨gb363, 1, none⟩ = some (.int .i64 a1_1) := (blk_cell BK363.out 1).trans rfl
      have hcz19_2 : w5.cell? ⟨gb363, 2, none⟩ = some (.int .i64 a1_2) := (blk_cell BK363.out 2).trans rfl
      have hcz19_3 : w5.cell? ⟨gb363, 3, none⟩ = some (.int .i64 a1_3) := (blk_cell BK363.out 3).trans rfl
      have hcz19_4 : w5.cell? ⟨gb363, 4, none⟩ = some (.int .u32 a1_4) := (blk_cell BK363.out 4).trans rfl
      have hcz19_5 : w5.cell? ⟨gb363, 5, none⟩ = some (.int .u32 a1_5) := (blk_cell BK363.out 5).trans rfl
      have hcz19_6 : w5.cell? ⟨gb363, 6, none⟩ = some (.int .u32 a1_6) := (blk_cell BK363.out 6).trans rfl
      have hcz19_7 : w5.cell? ⟨gb363, 7, none⟩ = some (.slice A1_7 l1_7.length c1_7) := (blk_cell BK363.out 7).trans rfl
      have hfz19_0 := blk_frozen BK363.out 0
      have hfz19_1 := blk_frozen BK363.out 1
      have hfz19_2 := blk_frozen BK363.out 2
      have hfz19_3 := blk_frozen BK363.out 3
      have hfz19_4 := blk_frozen BK363.out 4
      have hfz19_5 := blk_frozen BK363.out 5
      have hfz19_6 := blk_frozen BK363.out 6
      have hfz19_7 := blk_frozen BK363.out 7
      have hcz20_0 : w5.cell? ⟨gb362, 0, none⟩ = some (.int .u32 a0_0) := (blk_cell BK362.out 0).trans rfl
      have hcz20_1 : w5.cell? ⟨gb362, 1, none⟩ = some (.int .i64 a0_1) := (blk_cell BK362.out 1).trans rfl
      have hcz20_2 : w5.cell? ⟨gb362, 2, none⟩ = some (.int .i64 a0_2) := (blk_cell BK362.out 2).trans rfl
      have hcz20_3 : w5.cell? ⟨gb362, 3, none⟩ = some (.int .u32 a0_3) := (blk_cell BK362.out 3).trans rfl
      have hcz20_4 : w5.cell? ⟨gb362, 4, none⟩ = some (.int .u32 a0_4) := (blk_cell BK362.out 4).trans rfl
      have hcz20_5 : w5.cell? ⟨gb362, 5, none⟩ = some (.bool a0_5) := (blk_cell BK362.out 5).trans rfl
      have hfz20_0 := blk_frozen BK362.out 0
      have hfz20_1 := blk_frozen BK362.out 1
      have hfz20_2 := blk_frozen BK362.out 2
      have hfz20_3 := blk_frozen BK362.out 3
      have hfz20_4 := blk_frozen BK362.out 4
      have hfz20_5 := blk_frozen BK362.out 5
      go_wp2
      go_meet
      case rel => exact ⟨_, (true), (by first | rfl | (simp; done) | (simp [*]; done)), H', ⟨by first | omega | exact Nat.le_refl _⟩, ⟨by (with_reducible repeat (first | refine blk_drewN ?_ _ | refine blk_drew ?_ | refine blk_alloc ?_ _)); exact BK362.out⟩, ⟨by (with_reducible repeat (first | refine blk_drewN ?_ _ | refine blk_drew ?_ | refine blk_alloc ?_ _)); exact BK363.out⟩, ⟨by repeat (first | (with_reducible first | exact HB.out | apply below_alloc | apply pw_below_drewN | apply below_drew1 | refine below_set ?_ GE362.out | refine below_set ?_ GE363.out) | exact HB.out)⟩⟩
  case rest =>
    clear HC3
    try clear c1
    try clear p2
    try clear c6
    try clear c6b0
    try clear c6b1
    try clear c7
    try clear c7b0
    try clear c7b1
    try clear c8
    try clear c9
    try clear c12
    try clear c15
    try clear c16
    try clear c18
    try clear hcz10_0
    try clear hcz10_1
    try clear hcz10_2
    try clear hcz10_3
    try clear hcz10_4
    try clear hcz10_5
    try clear hcz10_6
    try clear hcz10_7
    try clear hcz11_0
    try clear hcz11_1
    try clear hcz11_2
    try clear hcz11_3
    try clear hcz11_4
    try clear hcz11_5
    try clear hcz13_0
    try clear hcz13_1
    try clear hcz13_2
    try clear hcz13_3
    try clear hcz13_4
    try clear hcz13_5
    try clear hcz13_6
    try clear hcz13_7
    try clear hcz14_0
    try clear hcz14_1
    try clear hcz14_2
    try clear hcz14_3
    try clear hcz14_4
    try clear hcz14_5
    try clear hcz16_0
    try clear hcz16_1
    try clear hcz16_2
    try clear hcz16_3
    try clear hcz16_4
    try clear hcz16_5
    try clear hcz16_6
    try clear hcz16_7
    try clear hcz17_0
    try clear hcz17_1
    try clear hcz17_2
    try clear hcz17_3
    try clear hcz17_4
    try clear hcz17_5
    try clear hcz19_0
    try clear hcz19_1
    try clear hcz19_2
    try clear hcz19_3
    try clear hcz19_4
    try clear hcz19_5
    try clear hcz19_6
    try clear hcz19_7
    try clear hcz20_0
    try clear hcz20_1
    try clear hcz20_2
    try clear hcz20_3
    try clear hcz20_4
    try clear hcz20_5
    try clear hfz10_0
    try clear hfz10_1
    try clear hfz10_2
    try clear hfz10_3
    try clear hfz10_4
    try clear hfz10_5
    try clear hfz10_6
    try clear hfz10_7
    try clear hfz11_0
    try clear hfz11_1
    try clear hfz11_2
    try clear hfz11_3
    try clear hfz11_4
    try clear hfz11_5
    try clear hfz13_0
    try clear hfz13_1
    try clear hfz13_2
    try clear hfz13_3
    try clear hfz13_4
    try clear hfz13_5
    try clear hfz13_6
    try clear hfz13_7
    try clear hfz14_0
    try clear hfz14_1
    try clear hfz14_2
    try clear hfz14_3
    try clear hfz14_4
    try clear hfz14_5
    try clear hfz16_0
    try clear hfz16_1
    try clear hfz16_2
    try clear hfz16_3
    try clear hfz16_4
    try clear hfz16_5
    try clear hfz16_6
    try clear hfz16_7
    try clear hfz17_0
    try clear hfz17_1
    try clear hfz17_2
    try clear hfz17_3
    try clear hfz17_4
    try clear hfz17_5
    try clear hfz19_0
    try clear hfz19_1
    try clear hfz19_2
    try clear hfz19_3
    try clear hfz19_4
    try clear hfz19_5
    try clear hfz19_6
    try clear hfz19_7
    try clear hfz20_0
    try clear hfz20_1
    try clear hfz20_2
    try clear hfz20_3
    try clear hfz20_4
    try clear hfz20_5
    obtain ⟨kq, x28_2, rfl, HA, HJ2, BK362, BK363, HB⟩ := hcut
    cases kq with
    | zero => exact absurd HA.out (by simp [crossroadsref10_Check.j0])
    | succ kj2 =>
      have H := HA.out
      clear HA
      simp only [crossroadsref10_Check.j0] at H
      by_cases c21 : x28_2 = true
      · subst c21
        have H1 : (some 13) = some r := by rw [if_pos rfl] at H; exact H
        clear H
        have H := H1
        clear H1
        obtain rfl := Option.some.inj H
        go_wp2
        go_ret
        exact ⟨by first | rfl | (simp [errW_none, errW_some] <;> rfl) | (simp [*, errW_none, errW_some] <;> rfl), by repeat (first | (with_reducible first | exact HB.out | apply below_alloc | apply pw_below_drewN | apply below_drew1 | refine below_set ?_ GE362.out | refine below_set ?_ GE363.out) | exact HB.out)⟩
      · replace c21 := Bool.eq_false_iff.mpr c21
        subst c21
        have H1 : (if (Go.bits .and .i64 a1_2 10) = (Go.bits .and .i64 a0_2 10) then (some 0) else (some 3)) = some r := by rw [if_neg (show ¬ (false = true) by decide)] at H; exact H
        clear H
        have H := H1
        clear H1
        by_cases c22 : (Go.bits .and .i64 a1_2 10) = (Go.bits .and .i64 a0_2 10)
        · rw [if_pos c22] at H
          have c22b0 : ((Go.bits .and .i64 a1_2 10) == (Go.bits .and .i64 a0_2 10)) = true := beq_iff_eq.mpr c22
          have c22b1 : ((Go.bits .and .i64 a1_2 10) != (Go.bits .and .i64 a0_2 10)) = false := bne_eq_false_iff_eq.mpr c22
          clear c22
          obtain rfl := Option.some.inj H
          have hnb23 := NB363_362.out
          have hnc23 := NB362_363.out
          have hcz24_0 : wc.cell? ⟨gb363, 0, none⟩ = some (.int .u32 a1_0) := (blk_cell BK363.out 0).trans rfl
          have hcz24_1 : wc.cell? ⟨gb363, 1, none⟩ = some (.int .i64 a1_1) := (blk_cell BK363.out 1).trans rfl
          have hcz24_2 : wc.cell? ⟨gb363, 2, none⟩ = some (.int .i64 a1_2) := (blk_cell BK363.out 2).trans rfl
          have hcz24_3 : wc.cell? ⟨gb363, 3, none⟩ = some (.int .i64 a1_3) := (blk_cell BK363.out 3).trans rfl
          have hcz24_4 : wc.cell? ⟨gb363, 4, none⟩ = some (.int .u32 a1_4) := (blk_cell BK363.out 4).trans rfl
          have hcz24_5 : wc.cell? ⟨gb363, 5, none⟩ = some (.int .u32 a1_5) := (blk_cell BK363.out 5).trans rfl
          have hcz24_6 : wc.cell? ⟨gb363, 6, none⟩ = some (.int .u32 a1_6) := (blk_cell BK363.out 6).trans rfl
          have hcz24_7 : wc.cell? ⟨gb363, 7, none⟩ = some (.slice A1_7 l1_7.length c1_7) := (blk_cell BK363.out 7).trans rfl
          have hfz24_0 := blk_frozen BK363.out 0
          have hfz24_1 := blk_frozen BK363.out 1
          have hfz24_2 := blk_frozen BK363.out 2
          have hfz24_3 := blk_frozen BK363.out 3
          have hfz24_4 := blk_frozen BK363.out 4
          have hfz24_5 := blk_frozen BK363.out 5
          have hfz24_6 := blk_frozen BK363.out 6
          have hfz24_7 := blk_frozen BK363.out 7
          have hcz25_0 : wc.cell? ⟨gb362, 0, none⟩ = some (.int .u32 a0_0) := (blk_cell BK362.out 0).trans rfl
          have hcz25_1 : wc.cell? ⟨gb362, 1, none⟩ = some (.int .i64 a0_1) := (blk_cell BK362.out 1).trans rfl
          have hcz25_2 : wc.cell? ⟨gb362, 2, none⟩ = some (.int .i64 a0_2) := (blk_cell BK362.out 2).trans rfl
          have hcz25_3 : wc.cell? ⟨gb362, 3, none⟩ = some (.int .u32 a0_3) := (blk_cell BK362.out 3).trans rfl
          have hcz25_4 : wc.cell? ⟨gb362, 4, none⟩ = some (.int .u32 a0_4) := (blk_cell BK362.out 4).trans rfl
          have hcz25_5 : wc.cell? ⟨gb362, 5, none⟩ = some (.bool a0_5) := (blk_cell BK362.out 5).trans rfl
          have hfz25_0 := blk_frozen BK362.out 0
          have hfz25_1 := blk_frozen BK362.out 1
          have hfz25_2 := blk_frozen BK362.out 2
          have hfz25_3 := blk_frozen BK362.out 3
          have hfz25_4 := blk_frozen BK362.out 4
          have hfz25_5 := blk_frozen BK362.out 5
          go_wp2
          go_ret
          exact ⟨by first | rfl | (simp [errW_none, errW_some] <;> rfl) | (simp [*, errW_none, errW_some] <;> rfl), by repeat (first | (with_reducible first | exact HB.out | apply below_alloc | apply pw_below_drewN | apply below_drew1 | refine below_set ?_ GE362.out | refine below_set ?_ GE363.out) | exact HB.out)⟩
        · rw [if_neg c22] at H
          have c22b0 : ((Go.bits .and .i64 a1_2 10) == (Go.bits .and .i64 a0_2 10)) = false := beq_eq_false_iff_ne.mpr c22
          have c22b1 : ((Go.bits .and .i64 a1_2 10) != (Go.bits .and .i64 a0_2 10)) = true := bne_iff_ne.mpr c22
          obtain rfl := Option.some.inj H
          have hnb26 := NB363_362.out
          have hnc26 := NB362_363.out
          have hcz27_0 : wc.cell? ⟨gb363, 0, none⟩ = some (.int .u32 a1_0) := (blk_cell BK363.out 0).trans rfl
          have hcz27_1 : wc.cell? ⟨gb363, 1, none⟩ = some (.int .i64 a1_1) := (blk_cell BK363.out 1).trans rfl
          have hcz27_2 : wc.cell? ⟨gb363, 2, none⟩ = some (.int .i64 a1_2) := (blk_cell BK363.out 2).trans rfl
          have hcz27_3 : wc.cell? ⟨gb363, 3, none⟩ = some (.int .i64 a1_3) := (blk_cell BK363.out 3).trans rfl
          have hcz27_4 : wc.cell? ⟨gb363, 4, none⟩ = some (.int .u32 a1_4) := (blk_cell BK363.out 4).trans rfl
          have hcz27_5 : wc.cell? ⟨gb363, 5, none⟩ = some (.int .u32 a1_5) := (blk_cell BK363.out 5).trans rfl
          have hcz27_6 : wc.cell? ⟨gb363, 6, none⟩ = some (.int .u32 a1_6) := (blk_cell BK363.out 6).trans rfl
          have hcz27_7 : wc.cell? ⟨gb363, 7, none⟩ = some (.slice A1_7 l1_7.length c1_7) := (blk_cell BK363.out 7).trans rfl
          have hfz27_0 := blk_frozen BK363.out 0
          have hfz27_1 := blk_frozen BK363.out 1
          have hfz27_2 := blk_frozen BK363.out 2
          have hfz27_3 := blk_frozen BK363.out 3
          have hfz27_4 := blk_frozen BK363.out 4
          have hfz27_5 := blk_frozen BK363.out 5
          have hfz27_6 := blk_frozen BK363.out 6
          have hfz27_7 := blk_frozen BK363.out 7
          have hcz28_0 : wc.cell? ⟨gb362, 0, none⟩ = some (.int .u32 a0_0) := (blk_cell BK362.out 0).trans rfl
          have hcz28_1 : wc.cell? ⟨gb362, 1, none⟩ = some (.int .i64 a0_1) := (blk_cell BK362.out 1).trans rfl
          have hcz28_2 : wc.cell? ⟨gb362, 2, none⟩ = some (.int .i64 a0_2) := (blk_cell BK362.out 2).trans rfl
          have hcz28_3 : wc.cell? ⟨gb362, 3, none⟩ = some (.int .u32 a0_3) := (blk_cell BK362.out 3).trans rfl
          have hcz28_4 : wc.cell? ⟨gb362, 4, none⟩ = some (.int .u32 a0_4) := (blk_cell BK362.out 4).trans rfl
          have hcz28_5 : wc.cell? ⟨gb362, 5, none⟩ = some (.bool a0_5) := (blk_cell BK362.out 5).trans rfl
          have hfz28_0 := blk_frozen BK362.out 0
          have hfz28_1 := blk_frozen BK362.out 1
          have hfz28_2 := blk_frozen BK362.out 2
          have hfz28_3 := blk_frozen BK362.out 3
          have hfz28_4 := blk_frozen BK362.out 4
          have hfz28_5 := blk_frozen BK362.out 5
          go_wp2
          go_ret
          exact ⟨by first | rfl | (simp [errW_none, errW_some] <;> rfl) | (simp [*, errW_none, errW_some] <;> rfl), by repeat (first | (with_reducible first | exact HB.out | apply below_alloc | apply pw_below_drewN | apply below_drew1 | refine below_set ?_ GE362.out | refine below_set ?_ GE363.out) | exact HB.out)⟩

/-! ### crossroadslaw10_iface: function 17 -/
def crossroadslaw10_iface.f (a0_0 : Int) (a0_1 : Int) (a0_2 : Int) (a0_3 : Int) (a0_4 : Int) (a0_5 : Bool) : Option (Int × Int × Int × Int × Int × Bool) := some (a0_0, a0_1, a0_2, a0_3, a0_4, a0_5)
set_option maxHeartbeats 8000000 in
set_option maxRecDepth 100000 in
theorem crossroadslaw10_iface.calls (a0_0 : Int) (a0_1 : Int) (a0_2 : Int) (a0_3 : Int) (a0_4 : Int) (a0_5 : Bool) (r1 : Int) (r2 : Int) (r3 : Int) (r4 : Int) (r5 : Int) (r6 : Bool) (w : World) (h : crossroadslaw10_iface.f a0_0 a0_1 a0_2 a0_3 a0_4 a0_5 = some (r1, r2, r3, r4, r5, r6)) :
    Calls Try.prog 17 #[.agg #[.int .u32 a0_0, .int .i64 a0_1, .int .i64 a0_2, .int .u32 a0_3, .int .u32 a0_4, .bool a0_5]] w fun e w' => e = .returned (.agg #[.int .u32 r1, .int .i64 r2, .int .i64 r3, .int .u32 r4, .int .u32 r5, .bool r6]) ∧ Below w.heap.size w w' := by
  have hu43 := Try.underlying43
  have hu46 := Try.underlying46
  have HB := Aside0.mk (Below.refl w.heap.size w)
  have H : (some (a0_0, a0_1, a0_2, a0_3, a0_4, a0_5)) = some (r1, r2, r3, r4, r5, r6) := h
  clear h
  simp only [Option.some.injEq, Prod.mk.injEq] at H
  obtain ⟨rfl, rfl, rfl, rfl, rfl, rfl⟩ := H
  go_enter Try.func17, Try.ntmps17
  go_wp2_with (first | ((with_reducible refine gate_dst (N := 1) rfl ?_); refine box_event ?hg (N := 1) ?hd (cs := #[.int .u32 a0_0, .int .i64 a0_1, .int .i64 a0_2, .int .u32 a0_3, .int .u32 a0_4, .bool a0_5]) (t := 43) ?hr ?_; (case hd => rfl); (case hg => rfl); (case hr => first | (go_simp; done) | (go_simp; rfl)); intro gb364 hg w2 hbox hb; have n0_ := Aside0.mk (below_step (by repeat (first | (with_reducible first | exact HB.out | apply below_alloc | apply pw_below_drewN | apply below_drew1) | exact HB.out)) hb); have n1_ := Aside0.mk (hbox); have n2_ := Aside0.mk ((by rw [hg]; exact (below_size (by repeat (first | (with_reducible first | exact HB.out | apply below_alloc | apply pw_below_drewN | apply below_drew1) | exact HB.out))) : w.heap.size ≤ gb364)); have n3_ := Aside0.mk ((by rw [hg]; exact (below_size (by repeat (first | (with_reducible first | exact HB.out | apply below_alloc | apply pw_below_drewN | apply below_drew1) | exact HB.out))) : w.heap.size ≤ gb364)); clear HB; have HB := n0_; have BK364 := n1_; have GW364 := n2_; have GE364 := n3_; clear n0_ n1_ n2_ n3_; clear hb hbox hg) | ((with_reducible refine gate_dst (N := 2) rfl ?_); refine box_event ?hg (N := 2) ?hd (cs := #[.int .u32 0, .int .i64 0, .int .i64 0, .int .u32 0, .int .u32 0, .bool false]) (t := 46) ?hr ?_; (case hd => rfl); (case hg => rfl); (case hr => first | (go_simp; done) | (go_simp; rfl)); intro gb365 hg w3 hbox hb; have n0_ := Aside0.mk (blk_below (g := gb364) (o := .cells #[.int .u32 a0_0, .int .i64 a0_1, .int .i64 a0_2, .int .u32 a0_3, .int .u32 a0_4, .bool a0_5] 43 (0, 0)) (by (with_reducible repeat (first | refine blk_drewN ?_ _ | refine blk_drew ?_ | refine blk_alloc ?_ _)); exact BK364.out) hb); have n1_ := Aside0.mk (below_step (by repeat (first | (with_reducible first | exact HB.out | apply below_alloc | apply pw_below_drewN | apply below_drew1 | refine below_set ?_ GE364.out) | exact HB.out)) hb); have n2_ := Aside0.mk (hbox); have n3_ := Aside0.mk ((by rw [hg]; exact (below_size (by repeat (first | (with_reducible first | exact HB.out | apply below_alloc | apply pw_below_drewN | apply below_drew1 | refine below_set ?_ GE364.out) | exact HB.out))) : w.heap.size ≤ gb365)); have n4_ := Aside0.mk ((by rw [hg]; exact (below_size (by repeat (first | (with_reducible first | exact HB.out | apply below_alloc | apply pw_below_drewN | apply below_drew1 | refine below_set ?_ GE364.out) | exact HB.out))) : w.heap.size ≤ gb365)); have n5_ := Aside0.mk ((by rw [hg]; exact Nat.ne_of_lt (blk_lt (g := gb364) (o := .cells #[.int .u32 a0_0, .int .i64 a0_1, .int .i64 a0_2, .int .u32 a0_3, .int .u32 a0_4, .bool a0_5] 43 (0, 0)) (by (with_reducible repeat (first | refine blk_drewN ?_ _ | refine blk_drew ?_ | refine blk_alloc ?_ _)); exact BK364.out)) : gb364 ≠ gb365)); have n6_ := Aside0.mk ((by rw [hg]; exact Nat.ne_of_gt (blk_lt (g := gb364) (o := .cells #[.int .u32 a0_0, .int .i64 a0_1, .int .i64 a0_2, .int .u32 a0_3, .int .u32 a0_4, .bool a0_5] 43 (0, 0)) (by (with_reducible repeat (first | refine blk_drewN ?_ _ | refine blk_drew ?_ | refine blk_alloc ?_ _)); exact BK364.out)) : gb365 ≠ gb364)); clear BK364; clear HB; have BK364 := n0_; have HB := n1_; have BK365 := n2_; have GW365 := n3_; have GE365 := n4_; have NB364_365 := n5_; have NB365_364 := n6_; clear n0_ n1_ n2_ n3_ n4_ n5_ n6_; clear hb hbox hg; have hnb4 := NB364_365.out; have hnc4 := NB365_364.out; have hcz5_0 : w3.cell? ⟨gb364, 0, none⟩ = some (.int .u32 a0_0) := (blk_cell BK364.out 0).trans rfl; have hcz5_1 : w3.cell? ⟨gb364, 1, none⟩ = some (.int .i64 a0_1) := (blk_cell BK364.out 1).trans rfl; have hcz5_2 : w3.cell? ⟨gb364, 2, none⟩ = some (.int .i64 a0_2) := (blk_cell BK364.out 2).trans rfl; have hcz5_3 : w3.cell? ⟨gb364, 3, none⟩ = some (.int .u32 a0_3) := (blk_cell BK364.out 3).trans rfl; have hcz5_4 : w3.cell? ⟨gb364, 4, none⟩ = some (.int .u32 a0_4) := (blk_cell BK364.out 4).trans rfl; have hcz5_5 : w3.cell? ⟨gb364, 5, none⟩ = some (.bool a0_5) := (blk_cell BK364.out 5).trans rfl; have hfz5_0 := blk_frozen BK364.out 0; have hfz5_1 := blk_frozen BK364.out 1; have hfz5_2 := blk_frozen BK364.out 2; have hfz5_3 := blk_frozen BK364.out 3; have hfz5_4 := blk_frozen BK364.out 4; have hfz5_5 := blk_frozen BK364.out 5; have hcz6_0 : w3.cell? ⟨gb365, 0, none⟩ = some (.int .u32 0) := (blk_cell BK365.out 0).trans rfl; have hcz6_1 : w3.cell? ⟨gb365, 1, none⟩ = some (.int .i64 0) := (blk_cell BK365.out 1).trans rfl; have hcz6_2 : w3.cell? ⟨gb365, 2, none⟩ = some (.int .i64 0) := (blk_cell BK365.out 2).trans rfl; have hcz6_3 : w3.cell? ⟨gb365, 3, none⟩ = some (.int .u32 0) := (blk_cell BK365.out 3).trans rfl; have hcz6_4 : w3.cell? ⟨gb365, 4, none⟩ = some (.int .u32 0) := (blk_cell BK365.out 4).trans rfl; have hcz6_5 : w3.cell? ⟨gb365, 5, none⟩ = some (.bool false) := (blk_cell BK365.out 5).trans rfl; have hfz6_0 := blk_frozen BK365.out 0; have hfz6_1 := blk_frozen BK365.out 1; have hfz6_2 := blk_frozen BK365.out 2; have hfz6_3 := blk_frozen BK365.out 3; have hfz6_4 := blk_frozen BK365.out 4; have hfz6_5 := blk_frozen BK365.out 5))
  refine bodyPost_ret (results_cell_row rfl _ _ gb365 46 #[.int .u32 a0_0, .int .i64 a0_1, .int .i64 a0_2, .int .u32 a0_3, .int .u32 a0_4, .bool a0_5] (0, 0) _ rfl (by (with_reducible repeat (first | refine blk_drewN ?_ _ | refine blk_drew ?_ | refine blk_alloc ?_ _)); refine blk_put (cs := #[.int .u32 a0_0, .int .i64 a0_1, .int .i64 a0_2, .int .u32 a0_3, .int .u32 a0_4, .bool false]) ?_ 5 _ rfl; (with_reducible repeat (first | refine blk_drewN ?_ _ | refine blk_drew ?_ | refine blk_alloc ?_ _)); refine blk_put (cs := #[.int .u32 a0_0, .int .i64 a0_1, .int .i64 a0_2, .int .u32 a0_3, .int .u32 0, .bool false]) ?_ 4 _ rfl; (with_reducible repeat (first | refine blk_drewN ?_ _ | refine blk_drew ?_ | refine blk_alloc ?_ _)); refine blk_put (cs := #[.int .u32 a0_0, .int .i64 a0_1, .int .i64 a0_2, .int .u32 0, .int .u32 0, .bool false]) ?_ 3 _ rfl; (with_reducible repeat (first | refine blk_drewN ?_ _ | refine blk_drew ?_ | refine blk_alloc ?_ _)); refine blk_put (cs := #[.int .u32 a0_0, .int .i64 a0_1, .int .i64 0, .int .u32 0, .int .u32 0, .bool false]) ?_ 2 _ rfl; (with_reducible repeat (first | refine blk_drewN ?_ _ | refine blk_drew ?_ | refine blk_alloc ?_ _)); refine blk_put (cs := #[.int .u32 a0_0, .int .i64 0, .int .i64 0, .int .u32 0, .int .u32 0, .bool false]) ?_ 1 _ rfl; (with_reducible repeat (first | refine blk_drewN ?_ _ | refine blk_drew ?_ | refine blk_alloc ?_ _)); refine blk_put (cs := #[.int .u32 0, .int .i64 0, .int .i64 0, .int .u32 0, .int .u32 0, .bool false]) ?_ 0 _ rfl; (with_reducible repeat (first | refine blk_drewN ?_ _ | refine blk_drew ?_ | refine blk_alloc ?_ _)); exact BK365.out) Try.underlying46 rfl (by kernel_rfl)) rfl ?_
  exact ⟨by first | rfl | (simp [errW_none, errW_some] <;> rfl) | (simp [*, errW_none, errW_some] <;> rfl), by repeat (first | (with_reducible first | exact HB.out | apply below_alloc | apply pw_below_drewN | apply below_drew1 | refine below_set ?_ GE364.out | refine below_set ?_ GE365.out) | exact HB.out)⟩

/-! ### crossroadsref10_Both: function 19 -/
def crossroadsref10_Both.l0 : Nat → Bool → Int → Int → Int → Int → Int → Int → Bool → Int → Int → Int → Int → Int → Int → Int → List Int → Option (Bool)
  | 0, _, _, _, _, _, _, _, _, _, _, _, _, _, _, _, _ => none
  | k + 1, x5, x6, x367000, x367001, x367002, x367003, x367004, x367005, x368000, x368001, x368002, x368003, x368004, x368005, x368006, x368007 => if x6 < (x368007.length : Int) then (if x5 = true then (crossroadsref10_Both.l0 k true (wrap64 (x6 + 1)) x367000 x367001 x367002 x367003 x367004 x367005 x368000 x368001 x368002 x368003 x368004 x368005 x368006 x368007) else (if 0 ≤ x6 then (crossroadsref10_Both.l0 k ((rd x368007 x6) == x367004) (wrap64 (x6 + 1)) x367000 x367001 x367002 x367003 x367004 x367005 x368000 x368001 x368002 x368003 x368004 x368005 x368006 x368007) else (none))) else (some x5)
def crossroadsref10_Both.f (k : Nat) (a0_0 : Int) (a0_1 : Int) (a0_2 : Int) (a0_3 : Int) (a0_4 : Int) (a0_5 : Bool) (a1_0 : Int) (a1_1 : Int) (a1_2 : Int) (a1_3 : Int) (a1_4 : Int) (a1_5 : Int) (a1_6 : Int) (l1_7 : List Int) : Option (Bool) := crossroadsref10_Both.l0 k false 0 a0_0 a0_1 a0_2 a0_3 a0_4 a0_5 a1_0 a1_1 a1_2 a1_3 a1_4 a1_5 a1_6 l1_7
theorem crossroadsref10_Both.mono_l : ∀ k, (∀ y0 y1 y2 y3 y4 y5 y6 y7 y8 y9 y10 y11 y12 y13 y14 y15, LeO (crossroadsref10_Both.l0 k y0 y1 y2 y3 y4 y5 y6 y7 y8 y9 y10 y11 y12 y13 y14 y15) (crossroadsref10_Both.l0 (k + 1) y0 y1 y2 y3 y4 y5 y6 y7 y8 y9 y10 y11 y12 y13 y14 y15))
  | 0 => fun _ _ _ _ _ _ _ _ _ _ _ _ _ _ _ _ r h => by simp [crossroadsref10_Both.l0] at h
  | k + 1 => by
    have ih0 := crossroadsref10_Both.mono_l k
    · intro y0 y1 y2 y3 y4 y5 y6 y7 y8 y9 y10 y11 y12 y13 y14 y15
      unfold crossroadsref10_Both.l0
      repeat' first
      | (with_reducible exact ih0 _ _ _ _ _ _ _ _ _ _ _ _ _ _ _ _)
      | (with_reducible exact LeO.refl _)
      | (with_reducible exact LeO.none _)
      | (with_reducible refine LeO.ite ?_ ?_)
      | (with_reducible refine LeO.bind ?_ (fun _ => ?_))
      | exact ih0 _ _ _ _ _ _ _ _ _ _ _ _ _ _ _ _
      | exact LeO.none _
      | refine LeO.ite ?_ ?_
      | refine LeO.bind ?_ (fun _ => ?_)
theorem crossroadsref10_Both.mono : ∀ a0 a1 a2 a3 a4 a5 a6 a7 a8 a9 a10 a11 a12 a13 k, LeO (crossroadsref10_Both.f k a0 a1 a2 a3 a4 a5 a6 a7 a8 a9 a10 a11 a12 a13) (crossroadsref10_Both.f (k + 1) a0 a1 a2 a3 a4 a5 a6 a7 a8 a9 a10 a11 a12 a13) := by
  intro a0 a1 a2 a3 a4 a5 a6 a7 a8 a9 a10 a11 a12 a13 k
  have ih0 := crossroadsref10_Both.mono_l k
  unfold crossroadsref10_Both.f
  repeat' first
      | (with_reducible exact ih0 _ _ _ _ _ _ _ _ _ _ _ _ _ _ _ _)
      | (with_reducible exact LeO.refl _)
      | (with_reducible exact LeO.none _)
      | (with_reducible refine LeO.ite ?_ ?_)
      | (with_reducible refine LeO.bind ?_ (fun _ => ?_))
      | exact ih0 _ _ _ _ _ _ _ _ _ _ _ _ _ _ _ _
      | exact LeO.none _
      | refine LeO.ite ?_ ?_
      | refine LeO.bind ?_ (fun _ => ?_)
set_option maxHeartbeats 8000000 in
set_option maxRecDepth 100000 in
theorem crossroadsref10_Both.calls (k : Nat) (a0_0 : Int) (a0_1 : Int) (a0_2 : Int) (a0_3 : Int) (a0_4 : Int) (a0_5 : Bool) (a1_0 : Int) (a1_1 : Int) (a1_2 : Int) (a1_3 : Int) (a1_4 : Int) (a1_5 : Int) (a1_6 : Int) (A1_7 : Option Addr) (c1_7 : Nat) (l1_7 : List Int) (r : Bool) (w : World) (hr1_7 : Kd.C (Kd.int .u32) w A1_7 l1_7.length l1_7) (hc1_7 : l1_7.length ≤ c1_7) (h : crossroadsref10_Both.f k a0_0 a0_1 a0_2 a0_3 a0_4 a0_5 a1_0 a1_1 a1_2 a1_3 a1_4 a1_5 a1_6 l1_7 = some r) :
    Calls Try.prog 19 #[.agg #[.int .u32 a0_0, .int .i64 a0_1, .int .i64 a0_2, .int .u32 a0_3, .int .u32 a0_4, .bool a0_5], .agg #[.int .u32 a1_0, .int .i64 a1_1, .int .i64 a1_2, .int .i64 a1_3, .int .u32 a1_4, .int .u32 a1_5, .int .u32 a1_6, .slice A1_7 l1_7.length c1_7]] w fun e w' => e = .returned (.bool r) ∧ Below w.heap.size w w' := by
  have hu46 := Try.underlying46
  have hu32 := Try.underlying32
  have HR1_7 := Aside0.mk hr1_7
  have HC1_7 := Aside0.mk hc1_7
  clear hr1_7 hc1_7
  have HB := Aside0.mk (Below.refl w.heap.size w)
  have H : (crossroadsref10_Both.l0 k false 0 a0_0 a0_1 a0_2 a0_3 a0_4 a0_5 a1_0 a1_1 a1_2 a1_3 a1_4 a1_5 a1_6 l1_7) = some r := h
  clear h
  have H' := Aside0.mk H
  clear H
  go_enter Try.func19, Try.ntmps19
  go_wp2_with (first | ((with_reducible refine gate_dst (N := 2) rfl ?_); refine box_event ?hg (N := 2) ?hd (cs := #[.int .u32 a0_0, .int .i64 a0_1, .int .i64 a0_2, .int .u32 a0_3, .int .u32 a0_4, .bool a0_5]) (t := 46) ?hr ?_; (case hd => rfl); (case hg => rfl); (case hr => first | (go_simp; done) | (go_simp; rfl)); intro gb366 hg w3 hbox hb; have n0_ := Aside0.mk (below_step (by repeat (first | (with_reducible first | exact HB.out | apply below_alloc | apply pw_below_drewN | apply below_drew1) | exact HB.out)) hb); have n1_ := Aside0.mk (hbox); have n2_ := Aside0.mk ((by rw [hg]; exact (below_size (by repeat (first | (with_reducible first | exact HB.out | apply below_alloc | apply pw_below_drewN | apply below_drew1) | exact HB.out))) : w.heap.size ≤ gb366)); have n3_ := Aside0.mk ((by rw [hg]; exact (below_size (by repeat (first | (with_reducible first | exact HB.out | apply below_alloc | apply pw_below_drewN | apply below_drew1) | exact HB.out))) : w.heap.size ≤ gb366)); clear HB; have HB := n0_; have BK366 := n1_; have GW366 := n2_; have GE366 := n3_; clear n0_ n1_ n2_ n3_; clear hb hbox hg) | ((with_reducible refine gate_dst (N := 3) rfl ?_); refine box_event ?hg (N := 3) ?hd (cs := #[.int .u32 a1_0, .int .i64 a1_1, .int .i64 a1_2, .int .i64 a1_3, .int .u32 a1_4, .int .u32 a1_5, .int .u32 a1_6, .slice A1_7 l1_7.length c1_7]) (t := 32) ?hr ?_; (case hd => rfl); (case hg => rfl); (case hr => first | (go_simp; done) | (go_simp; rfl)); intro gb367 hg w4 hbox hb; have n0_ := Aside0.mk (blk_below (g := gb366) (o := .cells #[.int .u32 a0_0, .int .i64 a0_1, .int .i64 a0_2, .int .u32 a0_3, .int .u32 a0_4, .bool a0_5] 46 (0, 0)) (by (with_reducible repeat (first | refine blk_drewN ?_ _ | refine blk_drew ?_ | refine blk_alloc ?_ _)); exact BK366.out) hb); have n1_ := Aside0.mk (below_step (by repeat (first | (with_reducible first | exact HB.out | apply below_alloc | apply pw_below_drewN | apply below_drew1 | refine below_set ?_ GE366.out) | exact HB.out)) hb); have n2_ := Aside0.mk (hbox); have n3_ := Aside0.mk ((by rw [hg]; exact (below_size (by repeat (first | (with_reducible first | exact HB.out | apply below_alloc | apply pw_below_drewN | apply below_drew1 | refine below_set ?_ GE366.out) | exact HB.out))) : w.heap.size ≤ gb367)); have n4_ := Aside0.mk ((by rw [hg]; exact (below_size (by repeat (first | (with_reducible first | exact HB.out | apply below_alloc | apply pw_below_drewN | apply below_drew1 | refine below_set ?_ GE366.out) | exact HB.out))) : w.heap.size ≤ gb367)); have n5_ := Aside0.mk ((by rw [hg]; exact Nat.ne_of_lt (blk_lt (g := gb366) (o := .cells #[.int .u32 a0_0, .int .i64 a0_1, .int .i64 a0_2, .int .u32 a0_3, .int .u32 a0_4, .bool a0_5] 46 (0, 0)) (by (with_reducible repeat (first | refine blk_drewN ?_ _ | refine blk_drew ?_ | refine blk_alloc ?_ _)); exact BK366.out)) : gb366 ≠ gb367)); have n6_ := Aside0.mk ((by rw [hg]; exact Nat.ne_of_gt (blk_lt (g := gb366) (o := .cells #[.int .u32 a0_0, .int .i64 a0_1, .int .i64 a0_2, .int .u32 a0_3, .int .u32 a0_4, .bool a0_5] 46 (0, 0)) (by (with_reducible repeat (first | refine blk_drewN ?_ _ | refine blk_drew ?_ | refine blk_alloc ?_ _)); exact BK366.out)) : gb367 ≠ gb366)); clear BK366; clear HB; have BK366 := n0_; have HB := n1_; have BK367 := n2_; have GW367 := n3_; have GE367 := n4_; have NB366_367 := n5_; have NB367_366 := n6_; clear n0_ n1_ n2_ n3_ n4_ n5_ n6_; clear hb hbox hg))
  repeat (go_quiet (first | ((with_reducible refine gate_dst (N := 2) rfl ?_); refine box_event ?hg (N := 2) ?hd (cs := #[.int .u32 a0_0, .int .i64 a0_1, .int .i64 a0_2, .int .u32 a0_3, .int .u32 a0_4, .bool a0_5]) (t := 46) ?hr ?_; (case hd => rfl); (case hg => rfl); (case hr => first | (go_simp; done) | (go_simp; rfl)); intro gb366 hg w3 hbox hb; have n0_ := Aside0.mk (below_step (by repeat (first | (with_reducible first | exact HB.out | apply below_alloc | apply pw_below_drewN | apply below_drew1) | exact HB.out)) hb); have n1_ := Aside0.mk (hbox); have n2_ := Aside0.mk ((by rw [hg]; exact (below_size (by repeat (first | (with_reducible first | exact HB.out | apply below_alloc | apply pw_below_drewN | apply below_drew1) | exact HB.out))) : w.heap.size ≤ gb366)); have n3_ := Aside0.mk ((by rw [hg]; exact (below_size (by repeat (first | (with_reducible first | exact HB.out | apply below_alloc | apply pw_below_drewN | apply below_drew1) | exact HB.out))) : w.heap.size ≤ gb366)); clear HB; have HB := n0_; have BK366 := n1_; have GW366 := n2_; have GE366 := n3_; clear n0_ n1_ n2_ n3_; clear hb hbox hg) | ((with_reducible refine gate_dst (N := 3) rfl ?_); refine box_event ?hg (N := 3) ?hd (cs := #[.int .u32 a1_0, .int .i64 a1_1, .int .i64 a1_2, .int .i64 a1_3, .int .u32 a1_4, .int .u32 a1_5, .int .u32 a1_6, .slice A1_7 l1_7.length c1_7]) (t := 32) ?hr ?_; (case hd => rfl); (case hg => rfl); (case hr => first | (go_simp; done) | (go_simp; rfl)); intro gb367 hg w4 hbox hb; have n0_ := Aside0.mk (blk_below (g := gb366) (o := .cells #[.int .u32 a0_0, .int .i64 a0_1, .int .i64 a0_2, .int .u32 a0_3, .int .u32 a0_4, .bool a0_5] 46 (0, 0)) (by (with_reducible repeat (first | refine blk_drewN ?_ _ | refine blk_drew ?_ | refine blk_alloc ?_ _)); exact BK366.out) hb); have n1_ := Aside0.mk (below_step (by repeat (first | (with_reducible first | exact HB.out | apply below_alloc | apply pw_below_drewN | apply below_drew1 | refine below_set ?_ GE366.out) | exact HB.out)) hb); have n2_ := Aside0.mk (hbox); have n3_ := Aside0.mk ((by rw [hg]; exact (below_size (by repeat (first | (with_reducible first | exact HB.out | apply below_alloc | apply pw_below_drewN | apply below_drew1 | refine below_set ?_ GE366.out) | exact HB.out))) : w.heap.size ≤ gb367)); have n4_ := Aside0.mk ((by rw [hg]; exact (below_size (by repeat (first | (with_reducible first | exact HB.out | apply below_alloc | apply pw_below_drewN | apply below_drew1 | refine below_set ?_ GE366.out) | exact HB.out))) : w.heap.size ≤ gb367)); have n5_ := Aside0.mk ((by rw [hg]; exact Nat.ne_of_lt (blk_lt (g := gb366) (o := .cells #[.int .u32 a0_0, .int .i64 a0_1, .int .i64 a0_2, .int .u32 a0_3, .int .u32 a0_4, .bool a0_5] 46 (0, 0)) (by (with_reducible repeat (first | refine blk_drewN ?_ _ | refine blk_drew ?_ | refine blk_alloc ?_ _)); exact BK366.out)) : gb366 ≠ gb367)); have n6_ := Aside0.mk ((by rw [hg]; exact Nat.ne_of_gt (blk_lt (g := gb366) (o := .cells #[.int .u32 a0_0, .int .i64 a0_1, .int .i64 a0_2, .int .u32 a0_3, .int .u32 a0_4, .bool a0_5] 46 (0, 0)) (by (with_reducible repeat (first | refine blk_drewN ?_ _ | refine blk_drew ?_ | refine blk_alloc ?_ _)); exact BK366.out)) : gb367 ≠ gb366)); clear BK366; clear HB; have BK366 := n0_; have HB := n1_; have BK367 := n2_; have GW367 := n3_; have GE367 := n4_; have NB366_367 := n5_; have NB367_366 := n6_; clear n0_ n1_ n2_ n3_ n4_ n5_ n6_; clear hb hbox hg)); try go_wp2_with (first | ((with_reducible refine gate_dst (N := 2) rfl ?_); refine box_event ?hg (N := 2) ?hd (cs := #[.int .u32 a0_0, .int .i64 a0_1, .int .i64 a0_2, .int .u32 a0_3, .int .u32 a0_4, .bool a0_5]) (t := 46) ?hr ?_; (case hd => rfl); (case hg => rfl); (case hr => first | (go_simp; done) | (go_simp; rfl)); intro gb366 hg w3 hbox hb; have n0_ := Aside0.mk (below_step (by repeat (first | (with_reducible first | exact HB.out | apply below_alloc | apply pw_below_drewN | apply below_drew1) | exact HB.out)) hb); have n1_ := Aside0.mk (hbox); have n2_ := Aside0.mk ((by rw [hg]; exact (below_size (by repeat (first | (with_reducible first | exact HB.out | apply below_alloc | apply pw_below_drewN | apply below_drew1) | exact HB.out))) : w.heap.size ≤ gb366)); have n3_ := Aside0.mk ((by rw [hg]; exact (below_size (by repeat (first | (with_reducible first | exact HB.out | apply below_alloc | apply pw_below_drewN | apply below_drew1) | exact HB.out))) : w.heap.size ≤ gb366)); clear HB; have HB := n0_; have BK366 := n1_; have GW366 := n2_; have GE366 := n3_; clear n0_ n1_ n2_ n3_; clear hb hbox hg) | ((with_reducible refine gate_dst (N := 3) rfl ?_); refine box_event ?hg (N := 3) ?hd (cs := #[.int .u32 a1_0, .int .i64 a1_1, .int .i64 a1_2, .int .i64 a1_3, .int .u32 a1_4, .int .u32 a1_5, .int .u32 a1_6, .slice A1_7 l1_7.length c1_7]) (t := 32) ?hr ?_; (case hd => rfl); (case hg => rfl); (case hr => first | (go_simp; done) | (go_simp; rfl)); intro gb367 hg w4 hbox hb; have n0_ := Aside0.mk (blk_below (g := gb366) (o := .cells #[.int .u32 a0_0, .int .i64 a0_1, .int .i64 a0_2, .int .u32 a0_3, .int .u32 a0_4, .bool a0_5] 46 (0, 0)) (by (with_reducible repeat (first | refine blk_drewN ?_ _ | refine blk_drew ?_ | refine blk_alloc ?_ _)); exact BK366.out) hb); have n1_ := Aside0.mk (below_step (by repeat (first | (with_reducible first | exact HB.out | apply below_alloc | apply pw_below_drewN | apply below_drew1 | refine below_set ?_ GE366.out) | exact HB.out)) hb); have n2_ := Aside0.mk (hbox); have n3_ := Aside0.mk ((by rw [hg]; exact (below_size (by repeat (first | (with_reducible first | exact HB.out | apply below_alloc | apply pw_below_drewN | apply below_drew1 | refine below_set ?_ GE366.out) | exact HB.out))) : w.heap.size ≤ gb367)); have n4_ := Aside0.mk ((by rw [hg]; exact (below_size (by repeat (first | (with_reducible first | exact HB.out | apply below_alloc | apply pw_below_drewN | apply below_drew1 | refine below_set ?_ GE366.out) | exact HB.out))) : w.heap.size ≤ gb367)); have n5_ := Aside0.mk ((by rw [hg]; exact Nat.ne_of_lt (blk_lt (g := gb366) (o := .cells #[.int .u32 a0_0, .int .i64 a0_1, .int .i64 a0_2, .int .u32 a0_3, .int .u32 a0_4, .bool a0_5] 46 (0, 0)) (by (with_reducible repeat (first | refine blk_drewN ?_ _ | refine blk_drew ?_ | refine blk_alloc ?_ _)); exact BK366.out)) : gb366 ≠ gb367)); have n6_ := Aside0.mk ((by rw [hg]; exact Nat.ne_of_gt (blk_lt (g := gb366) (o := .cells #[.int .u32 a0_0, .int .i64 a0_1, .int .i64 a0_2, .int .u32 a0_3, .int .u32 a0_4, .bool a0_5] 46 (0, 0)) (by (with_reducible repeat (first | refine blk_drewN ?_ _ | refine blk_drew ?_ | refine blk_alloc ?_ _)); exact BK366.out)) : gb367 ≠ gb366)); clear BK366; clear HB; have BK366 := n0_; have HB := n1_; have BK367 := n2_; have GW367 := n3_; have GE367 := n4_; have NB366_367 := n5_; have NB367_366 := n6_; clear n0_ n1_ n2_ n3_ n4_ n5_ n6_; clear hb hbox hg)))
  go_loopg [5, 6] k (fun kq v5 v6 w' => ∃ (x5_1 : Bool) (x6_1 : Int), v5 = .bool x5_1 ∧ v6 = .int .i64 x6_1 ∧ Aside0 (crossroadsref10_Both.l0 kq x5_1 x6_1 a0_0 a0_1 a0_2 a0_3 a0_4 a0_5 a1_0 a1_1 a1_2 a1_3 a1_4 a1_5 a1_6 l1_7 = some r) ∧ Aside0 (kq ≤ k) ∧ Aside0 (w'.heap[gb366]? = some (.cells #[.int .u32 a0_0, .int .i64 a0_1, .int .i64 a0_2, .int .u32 a0_3, .int .u32 a0_4, .bool a0_5] 46 (0, 0))) ∧ Aside0 (w'.heap[gb367]? = some (.cells #[.int .u32 a1_0, .int .i64 a1_1, .int .i64 a1_2, .int .i64 a1_3, .int .u32 a1_4, .int .u32 a1_5, .int .u32 a1_6, (.slice A1_7 l1_7.length c1_7)] 32 (0, 0))) ∧ Aside0 (Below w.heap.size w w'))
  case atStart => exact ⟨(false), (0), (by first | rfl | (simp; done) | (simp [*]; done)), (by first | rfl | (simp; done) | (simp [*]; done)), H', ⟨Nat.le_refl _⟩, ⟨by (with_reducible repeat (first | refine blk_drewN ?_ _ | refine blk_drew ?_ | refine blk_alloc ?_ _)); exact BK366.out⟩, ⟨by (with_reducible repeat (first | refine blk_drewN ?_ _ | refine blk_drew ?_ | refine blk_alloc ?_ _)); exact BK367.out⟩, ⟨by repeat (first | (with_reducible first | exact HB.out | apply below_alloc | apply pw_below_drewN | apply below_drew1 | refine below_set ?_ GE366.out | refine below_set ?_ GE367.out) | exact HB.out)⟩⟩
  case round =>
    clear H'
    try clear c1
    try clear p2
    obtain ⟨x5_1, x6_1, rfl, rfl, HA, HK1, BK366, BK367, HB⟩ := hrel
    cases gk with
    | zero => exact absurd HA.out (by simp [crossroadsref10_Both.l0])
    | succ k1 =>
      have H := HA.out
      clear HA
      simp only [crossroadsref10_Both.l0] at H
      by_cases c5 : x6_1 < (l1_7.length : Int)
      · rw [if_pos c5] at H
        have c5b0 : decide (x6_1 < (l1_7.length : Int)) = true := decide_eq_true c5
        clear c5
        by_cases c6 : x5_1 = true
        · subst c6
          have H1 : (crossroadsref10_Both.l0 k1 true (wrap64 (x6_1 + 1)) a0_0 a0_1 a0_2 a0_3 a0_4 a0_5 a1_0 a1_1 a1_2 a1_3 a1_4 a1_5 a1_6 l1_7) = some r := by rw [if_pos rfl] at H; exact H
          clear H
          have H := H1
          clear H1
          have H' := Aside0.mk H
          clear H
          have hnb7 := NB367_366.out
          have hnc7 := NB366_367.out
          have hcz8_0 : wr.cell? ⟨gb367, 0, none⟩ = some (.int .u32 a1_0) := (blk_cell BK367.out 0).trans rfl
          have hcz8_1 : wr.cell? ⟨gb367, 1, none⟩ = some (.int .i64 a1_1) := (blk_cell BK367.out 1).trans rfl
          have hcz8_2 : wr.cell? ⟨gb367, 2, none⟩ = some (.int .i64 a1_2) := (blk_cell BK367.out 2).trans rfl
          have hcz8_3 : wr.cell? ⟨gb367, 3, none⟩ = some (.int .i64 a1_3) := (blk_cell BK367.out 3).trans rfl
          have hcz8_4 : wr.cell? ⟨gb367, 4, none⟩ = some (.int .u32 a1_4) := (blk_cell BK367.out 4).trans rfl
          have hcz8_5 : wr.cell? ⟨gb367, 5, none⟩ = some (.int .u32 a1_5) := (blk_cell BK367.out 5).trans rfl
          have hcz8_6 : wr.cell? ⟨gb367, 6, none⟩ = some (.int .u32 a1_6) := (blk_cell BK367.out 6).trans rfl
          have hcz8_7 : wr.cell? ⟨gb367, 7, none⟩ = some (.slice A1_7 l1_7.length c1_7) := (blk_cell BK367.out 7).trans rfl
          have hfz8_0 := blk_frozen BK367.out 0
          have hfz8_1 := blk_frozen BK367.out 1
          have hfz8_2 := blk_frozen BK367.out 2
          have hfz8_3 := blk_frozen BK367.out 3
          have hfz8_4 := blk_frozen BK367.out 4
          have hfz8_5 := blk_frozen BK367.out 5
          have hfz8_6 := blk_frozen BK367.out 6
          have hfz8_7 := blk_frozen BK367.out 7
          go_wp2
          repeat (go_quiet (fail); try go_wp2)
          go_roundg k1
          case measure => have := HK1.out; omega
          case rel => exact ⟨(true), (wrap64 (x6_1 + 1)), (by first | rfl | (simp; done) | (simp [*]; done)), (by first | rfl | (simp; done) | (simp [*]; done)), H', ⟨by have := HK1.out; omega⟩, ⟨by (with_reducible repeat (first | refine blk_drewN ?_ _ | refine blk_drew ?_ | refine blk_alloc ?_ _)); exact BK366.out⟩, ⟨by (with_reducible repeat (first | refine blk_drewN ?_ _ | refine blk_drew ?_ | refine blk_alloc ?_ _)); exact BK367.out⟩, ⟨by repeat (first | (with_reducible first | exact HB.out | apply below_alloc | apply pw_below_drewN | apply below_drew1 | refine below_set ?_ GE366.out | refine below_set ?_ GE367.out) | exact HB.out)⟩⟩
        · replace c6 := Bool.eq_false_iff.mpr c6
          subst c6
          have H1 : (if 0 ≤ x6_1 then (crossroadsref10_Both.l0 k1 ((rd l1_7 x6_1) == a0_4) (wrap64 (x6_1 + 1)) a0_0 a0_1 a0_2 a0_3 a0_4 a0_5 a1_0 a1_1 a1_2 a1_3 a1_4 a1_5 a1_6 l1_7) else (none)) = some r := by rw [if_neg (show ¬ (false = true) by decide)] at H; exact H
          clear H
          have H := H1
          clear H1
          by_cases c9 : 0 ≤ x6_1
          · rw [if_pos c9] at H
            have c9b0 : decide (0 ≤ x6_1) = true := decide_eq_true c9
            clear c9
            have H' := Aside0.mk H
            clear H
            have hnb10 := NB367_366.out
            have hnc10 := NB366_367.out
            have hcz11_0 : wr.cell? ⟨gb367, 0, none⟩ = some (.int .u32 a1_0) := (blk_cell BK367.out 0).trans rfl
            have hcz11_1 : wr.cell? ⟨gb367, 1, none⟩ = some (.int .i64 a1_1) := (blk_cell BK367.out 1).trans rfl
            have hcz11_2 : wr.cell? ⟨gb367, 2, none⟩ = some (.int .i64 a1_2) := (blk_cell BK367.out 2).trans rfl
            have hcz11_3 : wr.cell? ⟨gb367, 3, none⟩ = some (.int .i64 a1_3) := (blk_cell BK367.out 3).trans rfl
            have hcz11_4 : wr.cell? ⟨gb367, 4, none⟩ = some (.int .u32 a1_4) := (blk_cell BK367.out 4).trans rfl
            have hcz11_5 : wr.cell? ⟨gb367, 5, none⟩ = some (.int .u32 a1_5) := (blk_cell BK367.out 5).trans rfl
            have hcz11_6 : wr.cell? ⟨gb367, 6, none⟩ = some (.int .u32 a1_6) := (blk_cell BK367.out 6).trans rfl
            have hcz11_7 : wr.cell? ⟨gb367, 7, none⟩ = some (.slice A1_7 l1_7.length c1_7) := (blk_cell BK367.out 7).trans rfl
            have hfz11_0 := blk_frozen BK367.out 0
            have hfz11_1 := blk_frozen BK367.out 1
            have hfz11_2 := blk_frozen BK367.out 2
            have hfz11_3 := blk_frozen BK367.out 3
            have hfz11_4 := blk_frozen BK367.out 4
            have hfz11_5 := blk_frozen BK367.out 5
            have hfz11_6 := blk_frozen BK367.out 6
            have hfz11_7 := blk_frozen BK367.out 7
            have p368 : 0 ≤ (x6_1 : Int) := of_decide_eq_true (by first | (with_reducible assumption) | assumption)
            have q368 : x6_1 < (l1_7.length : Int) := of_decide_eq_true (by first | (with_reducible assumption) | assumption)
            obtain ⟨ad368, e368, hx368_0⟩ := Kd.at_int HR1_7.out x6_1 p368 q368
            cases e368
            replace hx368_0 := (HB.out.cell (World.block_lt_of_cell? w _ hx368_0)).trans hx368_0
            replace p368 := eq_true p368
            replace q368 := eq_true q368
            have hcz12_0 : wr.cell? ⟨gb366, 0, none⟩ = some (.int .u32 a0_0) := (blk_cell BK366.out 0).trans rfl
            have hcz12_1 : wr.cell? ⟨gb366, 1, none⟩ = some (.int .i64 a0_1) := (blk_cell BK366.out 1).trans rfl
            have hcz12_2 : wr.cell? ⟨gb366, 2, none⟩ = some (.int .i64 a0_2) := (blk_cell BK366.out 2).trans rfl
            have hcz12_3 : wr.cell? ⟨gb366, 3, none⟩ = some (.int .u32 a0_3) := (blk_cell BK366.out 3).trans rfl
            have hcz12_4 : wr.cell? ⟨gb366, 4, none⟩ = some (.int .u32 a0_4) := (blk_cell BK366.out 4).trans rfl
            have hcz12_5 : wr.cell? ⟨gb366, 5, none⟩ = some (.bool a0_5) := (blk_cell BK366.out 5).trans rfl
            have hfz12_0 := blk_frozen BK366.out 0
            have hfz12_1 := blk_frozen BK366.out 1
            have hfz12_2 := blk_frozen BK366.out 2
            have hfz12_3 := blk_frozen BK366.out 3
            have hfz12_4 := blk_frozen BK366.out 4
            have hfz12_5 := blk_frozen BK366.out 5
            go_wp2
            repeat (go_quiet (fail); try go_wp2)
            go_roundg k1
            case measure => have := HK1.out; omega
            case rel => exact ⟨(((rd l1_7 x6_1) == a0_4)), (wrap64 (x6_1 + 1)), (by first | rfl | (simp; done) | (simp [*]; done)), (by first | rfl | (simp; done) | (simp [*]; done)), H', ⟨by have := HK1.out; omega⟩, ⟨by (with_reducible repeat (first | refine blk_drewN ?_ _ | refine blk_drew ?_ | refine blk_alloc ?_ _)); exact BK366.out⟩, ⟨by (with_reducible repeat (first | refine blk_drewN ?_ _ | refine blk_drew ?_ | refine blk_alloc ?_ _)); exact BK367.out⟩, ⟨by repeat (first | (with_reducible first | exact HB.out | apply below_alloc | apply pw_below_drewN | apply below_drew1 | refine below_set ?_ GE366.out | refine below_set ?_ GE367.out) | exact HB.out)⟩⟩
          · rw [if_neg c9] at H
            exact absurd H (by simp)
      · rw [if_neg c5] at H
        have c5b0 : decide (x6_1 < (l1_7.length : Int)) = false := decide_eq_false c5
        clear c5
        obtain rfl := Option.some.inj H
        have hnb13 := NB367_366.out
        have hnc13 := NB366_367.out
        have hcz14_0 : wr.cell? ⟨gb367, 0, none⟩ = some (.int .u32 a1_0) := (blk_cell BK367.out 0).trans rfl
        have hcz14_1 : wr.cell? ⟨gb367, 1, none⟩ = some (.int .i64 a1_1) := (blk_cell BK367.out 1).trans rfl
        have hcz14_2 : wr.cell? ⟨gb367, 2, none⟩ = some (.int .i64 a1_2) := (blk_cell BK367.out 2).trans rfl
        have hcz14_3 : wr.cell? ⟨gb367, 3, none⟩ = some (.int .i64 a1_3) := (blk_cell BK367.out 3).trans rfl
        have hcz14_4 : wr.cell? ⟨gb367, 4, none⟩ = some (.int .u32 a1_4) := (blk_cell BK367.out 4).trans rfl
        have hcz14_5 : wr.cell? ⟨gb367, 5, none⟩ = some (.int .u32 a1_5) := (blk_cell BK367.out 5).trans rfl
        have hcz14_6 : wr.cell? ⟨gb367, 6, none⟩ = some (.int .u32 a1_6) := (blk_cell BK367.out 6).trans rfl
        have hcz14_7 : wr.cell? ⟨gb367, 7, none⟩ = some (.slice A1_7 l1_7.length c1_7) := (blk_cell BK367.out 7).trans rfl
        have hfz14_0 := blk_frozen BK367.out 0
        have hfz14_1 := blk_frozen BK367.out 1
        have hfz14_2 := blk_frozen BK367.out 2
        have hfz14_3 := blk_frozen BK367.out 3
        have hfz14_4 := blk_frozen BK367.out 4
        have hfz14_5 := blk_frozen BK367.out 5
        have hfz14_6 := blk_frozen BK367.out 6
        have hfz14_7 := blk_frozen BK367.out 7
        go_wp2
        repeat (go_quiet (fail); try go_wp2)
        go_ret
        exact ⟨by first | rfl | (simp [errW_none, errW_some] <;> rfl) | (simp [*, errW_none, errW_some] <;> rfl), by repeat (first | (with_reducible first | exact HB.out | apply below_alloc | apply pw_below_drewN | apply below_drew1 | refine below_set ?_ GE366.out | refine below_set ?_ GE367.out) | exact HB.out)⟩

end Go.Proofs.Ytgfjhkapbpagcaa.PAll
