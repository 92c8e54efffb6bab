-- Written by this session's own program (wip/print), out of the translation.
import Derived.Test.YtdlgikajkljdeaaPBdx0
import Derived.Test.YtdlgikajkljdeaaPBdx3
import Derived.Test.YtdlgikajkljdeaaPBdx8
namespace Go.Proofs.Ytdlgikajkljdeaa.PBd
open Go.RowKit Go.Proofs.YtdlgikajkljdeaaW.PrintWords Go.Proofs.YtdlgikajkljdeaaW.PrintLast Go.Proofs.YtdlgikajkljdeaaW.PrintMore
attribute [local go_sem] max2_int min2_int max_two min_two max_three min_three max_four min_four   -- for this text's walks alone
set_option linter.unusedVariables false
set_option linter.unusedSimpArgs false

/-! ### body_External: function 20 -/
def body_External.j0 : Nat → Bool → Int → Bool → Int → Int → Int → Option (List Int × Int)
  | 0, _, _, _, _, _, _ => none
  | k + 1, x14, x351000, x351001, x351002, x351003, x351004 => if x14 = true then (some (([] : List Int), 1)) else (if x351001 = true then ((octet_Row.f k (([x351000, Go.bits .or .u32 ((x351002) % 4294967296) 2147483648, x351003, x351004] : List Int)) 4).bind fun bt356 => (some (bt356.1, bt356.2))) else ((octet_Row.f k (([x351000, (x351002) % 4294967296, x351003, x351004] : List Int)) 4).bind fun bt363 => (some (bt363.1, bt363.2))))
def body_External.f (k : Nat) (a0_0 : Int) (a0_1 : Bool) (a0_2 : Int) (a0_3 : Int) (a0_4 : Int) : Option (List Int × Int) := (body_isMask.f a0_0).bind fun t351 => (if t351 = true then ((body_isCost.f a0_2).bind fun t352 => (body_External.j0 k (!t352) a0_0 a0_1 a0_2 a0_3 a0_4)) else (body_External.j0 k true a0_0 a0_1 a0_2 a0_3 a0_4))
theorem body_External.mono_l : ∀ k, (∀ y0 y1 y2 y3 y4 y5, LeO (body_External.j0 k y0 y1 y2 y3 y4 y5) (body_External.j0 (k + 1) y0 y1 y2 y3 y4 y5))
  | 0 => fun _ _ _ _ _ _ r h => by simp [body_External.j0] at h
  | k + 1 => by
    have ih0 := body_External.mono_l k
    · intro y0 y1 y2 y3 y4 y5
      unfold body_External.j0
      repeat' first
      | (with_reducible exact ih0 _ _ _ _ _ _)
      | (with_reducible exact octet_Row.mono _ _ _)
      | (with_reducible exact LeO.refl _)
      | (with_reducible exact LeO.none _)
      | (with_reducible refine LeO.ite ?_ ?_)
      | (with_reducible refine LeO.bind ?_ (fun _ => ?_))
      | exact ih0 _ _ _ _ _ _
      | exact octet_Row.mono _ _ _
      | exact LeO.none _
      | refine LeO.ite ?_ ?_
      | refine LeO.bind ?_ (fun _ => ?_)
theorem body_External.mono : ∀ a0 a1 a2 a3 a4 k, LeO (body_External.f k a0 a1 a2 a3 a4) (body_External.f (k + 1) a0 a1 a2 a3 a4) := by
  intro a0 a1 a2 a3 a4 k
  have ih0 := body_External.mono_l k
  unfold body_External.f
  repeat' first
      | (with_reducible exact ih0 _ _ _ _ _ _)
      | (with_reducible exact octet_Row.mono _ _ _)
      | (with_reducible exact LeO.refl _)
      | (with_reducible exact LeO.none _)
      | (with_reducible refine LeO.ite ?_ ?_)
      | (with_reducible refine LeO.bind ?_ (fun _ => ?_))
      | exact ih0 _ _ _ _ _ _
      | exact octet_Row.mono _ _ _
      | exact LeO.none _
      | refine LeO.ite ?_ ?_
      | refine LeO.bind ?_ (fun _ => ?_)
set_option maxHeartbeats 8000000 in
set_option maxRecDepth 100000 in
theorem body_External.calls (k : Nat) (a0_0 : Int) (a0_1 : Bool) (a0_2 : Int) (a0_3 : Int) (a0_4 : Int) (r1 : List Int) (r2 : Int) (w : World) (h : body_External.f k a0_0 a0_1 a0_2 a0_3 a0_4 = some (r1, r2)) :
    Calls Try.prog 20 #[.agg #[.int .u32 a0_0, .bool a0_1, .int .i64 a0_2, .int .u32 a0_3, .int .u32 a0_4]] w fun e w' => ∃ v0_ : Value, e = .returned (.tuple #[v0_, .int .i64 r2]) ∧ Kd.R (Kd.int .u8) 5 w' w.heap.size (fun _ => True) v0_ r1 ∧ Below w.heap.size w w' := by
  have hu56 := Try.underlying56
  have HB := Aside0.mk (Below.refl w.heap.size w)
  have H : ((body_isMask.f a0_0).bind fun t351 => (if t351 = true then ((body_isCost.f a0_2).bind fun t352 => (body_External.j0 k (!t352) a0_0 a0_1 a0_2 a0_3 a0_4)) else (body_External.j0 k true a0_0 a0_1 a0_2 a0_3 a0_4))) = some (r1, r2) := h
  clear h
  have HC2 := Aside0.mk H
  clear H
  go_enter Try.func20, Try.ntmps20
  go_upto_region 1 with (first | ((with_reducible refine gate_dst (N := 1) rfl ?_); refine box_event ?hg (N := 1) ?hd (cs := #[.int .u32 a0_0, .bool a0_1, .int .i64 a0_2, .int .u32 a0_3, .int .u32 a0_4]) (t := 56) ?hr ?_; (case hd => rfl); (case hg => rfl); (case hr => first | (go_simp; done) | (go_simp; rfl)); intro gb350 hg w3 hbox hb; have n0_ := Aside0.mk (below_step (by repeat (first | (with_reducible first | exact HB.out | apply below_alloc | apply pw_below_drewN | apply below_drew1) | exact HB.out)) hb); have n1_ := Aside0.mk (hbox); have n2_ := Aside0.mk ((by rw [hg]; exact (below_size (by repeat (first | (with_reducible first | exact HB.out | apply below_alloc | apply pw_below_drewN | apply below_drew1) | exact HB.out))) : w.heap.size ≤ gb350)); have n3_ := Aside0.mk ((by rw [hg]; exact (below_size (by repeat (first | (with_reducible first | exact HB.out | apply below_alloc | apply pw_below_drewN | apply below_drew1) | exact HB.out))) : w.heap.size ≤ gb350)); clear HB; have HB := n0_; have BK350 := n1_; have GW350 := n2_; have GE350 := n3_; clear n0_ n1_ n2_ n3_; clear hb hbox hg))
  (try simp only [Act.put, List.setIfInBounds_toArray, List.set_cons_zero, List.set_cons_succ])
  go_cut [14] (fun v14 wc => ∃ (kq : Nat) (x14_1 : Bool), v14 = .bool x14_1 ∧ Aside0 (body_External.j0 kq x14_1 a0_0 a0_1 a0_2 a0_3 a0_4 = some (r1, r2)) ∧ Aside0 (kq ≤ k) ∧ Aside0 (wc.heap[gb350]? = some (.cells #[.int .u32 a0_0, .bool a0_1, .int .i64 a0_2, .int .u32 a0_3, .int .u32 a0_4] 56 (0, 0))) ∧ Aside0 (Below w.heap.size w wc))
  case first =>
    have H := HC2.out
    clear HC2
    replace H := Option.bind_eq_some_iff.mp H
    obtain ⟨t351, A40, H⟩ := H
    replace H : (if t351 = true then ((body_isCost.f a0_2).bind fun t352 => (body_External.j0 k (!t352) a0_0 a0_1 a0_2 a0_3 a0_4)) else (body_External.j0 k true a0_0 a0_1 a0_2 a0_3 a0_4)) = some (r1, r2) := H
    have A4 := Aside0.mk A40
    clear A40
    by_cases c5 : t351 = true
    · subst c5
      have H1 : ((body_isCost.f a0_2).bind fun t352 => (body_External.j0 k (!t352) a0_0 a0_1 a0_2 a0_3 a0_4)) = some (r1, r2) := by rw [if_pos rfl] at H; exact H
      clear H
      have H := H1
      clear H1
      replace H := Option.bind_eq_some_iff.mp H
      obtain ⟨t352, A60, H⟩ := H
      replace H : (body_External.j0 k (!t352) a0_0 a0_1 a0_2 a0_3 a0_4) = some (r1, r2) := H
      have A6 := Aside0.mk A60
      clear A60
      have H' := Aside0.mk H
      clear H
      have hcz7_0 : w3.cell? ⟨gb350, 0, none⟩ = some (.int .u32 a0_0) := (blk_cell BK350.out 0).trans rfl
      have hcz7_1 : w3.cell? ⟨gb350, 1, none⟩ = some (.bool a0_1) := (blk_cell BK350.out 1).trans rfl
      have hcz7_2 : w3.cell? ⟨gb350, 2, none⟩ = some (.int .i64 a0_2) := (blk_cell BK350.out 2).trans rfl
      have hcz7_3 : w3.cell? ⟨gb350, 3, none⟩ = some (.int .u32 a0_3) := (blk_cell BK350.out 3).trans rfl
      have hcz7_4 : w3.cell? ⟨gb350, 4, none⟩ = some (.int .u32 a0_4) := (blk_cell BK350.out 4).trans rfl
      have hfz7_0 := blk_frozen BK350.out 0
      have hfz7_1 := blk_frozen BK350.out 1
      have hfz7_2 := blk_frozen BK350.out 2
      have hfz7_3 := blk_frozen BK350.out 3
      have hfz7_4 := blk_frozen BK350.out 4
      go_wp2_with (first | ((with_reducible refine gate_callee (f := 24) rfl ?_); refine goesL_ (some 7) rfl rfl Try.func24 (by kernel_rfl) rfl #[.int .u32 a0_0] rfl (by (try simp only [List.map_toArray, List.map_cons, List.map_nil]); first | done | rfl | (simp only [List.length_drop, List.length_take]; rfl)) ?_; (with_reducible refine (body_isMask.calls a0_0 true _ A4.out).mono ?_); rintro e w8 ⟨rfl, hb⟩; refine ⟨_, rfl, ?_⟩; have n0_ := Aside0.mk (blk_below (g := gb350) (o := .cells #[.int .u32 a0_0, .bool a0_1, .int .i64 a0_2, .int .u32 a0_3, .int .u32 a0_4] 56 (0, 0)) (by (with_reducible repeat (first | refine blk_drewN ?_ _ | refine blk_drew ?_ | refine blk_alloc ?_ _)); exact BK350.out) hb); have n1_ := Aside0.mk (below_step (by repeat (first | (with_reducible first | exact HB.out | apply below_alloc | apply pw_below_drewN | apply below_drew1 | refine below_set ?_ GE350.out) | exact HB.out)) hb); clear BK350; clear HB; have BK350 := n0_; have HB := n1_; clear n0_ n1_; (try clear hb); (try clear hb2); (try clear hk); (try clear hi); have hcz9_0 : w8.cell? ⟨gb350, 0, none⟩ = some (.int .u32 a0_0) := (blk_cell BK350.out 0).trans rfl; have hcz9_1 : w8.cell? ⟨gb350, 1, none⟩ = some (.bool a0_1) := (blk_cell BK350.out 1).trans rfl; have hcz9_2 : w8.cell? ⟨gb350, 2, none⟩ = some (.int .i64 a0_2) := (blk_cell BK350.out 2).trans rfl; have hcz9_3 : w8.cell? ⟨gb350, 3, none⟩ = some (.int .u32 a0_3) := (blk_cell BK350.out 3).trans rfl; have hcz9_4 : w8.cell? ⟨gb350, 4, none⟩ = some (.int .u32 a0_4) := (blk_cell BK350.out 4).trans rfl; have hfz9_0 := blk_frozen BK350.out 0; have hfz9_1 := blk_frozen BK350.out 1; have hfz9_2 := blk_frozen BK350.out 2; have hfz9_3 := blk_frozen BK350.out 3; have hfz9_4 := blk_frozen BK350.out 4) | (go_at_call 25; (with_reducible refine (body_isCost.calls a0_2 t352 _ A6.out).mono ?_); rintro e w' ⟨rfl, ⟨nd, rfl⟩⟩))
      go_meet
      case rel => exact ⟨_, (!t352), (by first | rfl | (simp; done) | (simp [*]; done)), H', ⟨by first | omega | exact Nat.le_refl _⟩, ⟨by (with_reducible repeat (first | refine blk_drewN ?_ _ | refine blk_drew ?_ | refine blk_alloc ?_ _)); exact BK350.out⟩, ⟨by repeat (first | (with_reducible first | exact HB.out | apply below_alloc | apply pw_below_drewN | apply below_drew1 | refine below_set ?_ GE350.out) | exact HB.out)⟩⟩
    · replace c5 := Bool.eq_false_iff.mpr c5
      subst c5
      have H1 : (body_External.j0 k true a0_0 a0_1 a0_2 a0_3 a0_4) = some (r1, r2) := by rw [if_neg (show ¬ (false = true) by decide)] at H; exact H
      clear H
      have H := H1
      clear H1
      have H' := Aside0.mk H
      clear H
      have hcz10_0 : w3.cell? ⟨gb350, 0, none⟩ = some (.int .u32 a0_0) := (blk_cell BK350.out 0).trans rfl
      have hcz10_1 : w3.cell? ⟨gb350, 1, none⟩ = some (.bool a0_1) := (blk_cell BK350.out 1).trans rfl
      have hcz10_2 : w3.cell? ⟨gb350, 2, none⟩ = some (.int .i64 a0_2) := (blk_cell BK350.out 2).trans rfl
      have hcz10_3 : w3.cell? ⟨gb350, 3, none⟩ = some (.int .u32 a0_3) := (blk_cell BK350.out 3).trans rfl
      have hcz10_4 : w3.cell? ⟨gb350, 4, none⟩ = some (.int .u32 a0_4) := (blk_cell BK350.out 4).trans rfl
      have hfz10_0 := blk_frozen BK350.out 0
      have hfz10_1 := blk_frozen BK350.out 1
      have hfz10_2 := blk_frozen BK350.out 2
      have hfz10_3 := blk_frozen BK350.out 3
      have hfz10_4 := blk_frozen BK350.out 4
      go_wp2_with (first | ((with_reducible refine gate_callee (f := 24) rfl ?_); refine goesL_ (some 7) rfl rfl Try.func24 (by kernel_rfl) rfl #[.int .u32 a0_0] rfl (by (try simp only [List.map_toArray, List.map_cons, List.map_nil]); first | done | rfl | (simp only [List.length_drop, List.length_take]; rfl)) ?_; (with_reducible refine (body_isMask.calls a0_0 false _ A4.out).mono ?_); rintro e w11 ⟨rfl, hb⟩; refine ⟨_, rfl, ?_⟩; have n0_ := Aside0.mk (blk_below (g := gb350) (o := .cells #[.int .u32 a0_0, .bool a0_1, .int .i64 a0_2, .int .u32 a0_3, .int .u32 a0_4] 56 (0, 0)) (by (with_reducible repeat (first | refine blk_drewN ?_ _ | refine blk_drew ?_ | refine blk_alloc ?_ _)); exact BK350.out) hb); have n1_ := Aside0.mk (below_step (by repeat (first | (with_reducible first | exact HB.out | apply below_alloc | apply pw_below_drewN | apply below_drew1 | refine below_set ?_ GE350.out) | exact HB.out)) hb); clear BK350; clear HB; have BK350 := n0_; have HB := n1_; clear n0_ n1_; (try clear hb); (try clear hb2); (try clear hk); (try clear hi)))
      go_meet
      case rel => exact ⟨_, (true), (by first | rfl | (simp; done) | (simp [*]; done)), H', ⟨by first | omega | exact Nat.le_refl _⟩, ⟨by (with_reducible repeat (first | refine blk_drewN ?_ _ | refine blk_drew ?_ | refine blk_alloc ?_ _)); exact BK350.out⟩, ⟨by repeat (first | (with_reducible first | exact HB.out | apply below_alloc | apply pw_below_drewN | apply below_drew1 | refine below_set ?_ GE350.out) | exact HB.out)⟩⟩
  case rest =>
    clear HC2
    try clear c2
    try clear p2
    try clear c5
    try clear hcz10_0
    try clear hcz10_1
    try clear hcz10_2
    try clear hcz10_3
    try clear hcz10_4
    try clear hcz7_0
    try clear hcz7_1
    try clear hcz7_2
    try clear hcz7_3
    try clear hcz7_4
    try clear hcz9_0
    try clear hcz9_1
    try clear hcz9_2
    try clear hcz9_3
    try clear hcz9_4
    try clear hfz10_0
    try clear hfz10_1
    try clear hfz10_2
    try clear hfz10_3
    try clear hfz10_4
    try clear hfz7_0
    try clear hfz7_1
    try clear hfz7_2
    try clear hfz7_3
    try clear hfz7_4
    try clear hfz9_0
    try clear hfz9_1
    try clear hfz9_2
    try clear hfz9_3
    try clear hfz9_4
    obtain ⟨kq, x14_1, rfl, HA, HJ1, BK350, HB⟩ := hcut
    cases kq with
    | zero => exact absurd HA.out (by simp [body_External.j0])
    | succ kj1 =>
      have H := HA.out
      clear HA
      simp only [body_External.j0] at H
      by_cases c12 : x14_1 = true
      · subst c12
        have H1 : (some (([] : List Int), 1)) = some (r1, r2) := by rw [if_pos rfl] at H; exact H
        clear H
        have H := H1
        clear H1
        simp only [Option.some.injEq, Prod.mk.injEq] at H
        obtain ⟨rfl, rfl⟩ := H
        go_wp2
        go_ret2
        exact ⟨_, by first | rfl | (simp [errW_none, errW_some] <;> rfl) | (simp [*, errW_none, errW_some] <;> rfl), by first | exact Kd.R_nil _ _ _ _ _ | exact Kd.N_nil _ _ _ _ _ | exact Kd.V_nil _ _ _ _ _ | exact Kd.Q_nil _ _ _ _ _ | exact Kd.S_nil _ _ _ _ _, by repeat (first | (with_reducible first | exact HB.out | apply below_alloc | apply pw_below_drewN | apply below_drew1 | refine below_set ?_ GE350.out) | exact HB.out)⟩
      · replace c12 := Bool.eq_false_iff.mpr c12
        subst c12
        have H1 : (if a0_1 = true then ((octet_Row.f kj1 (([a0_0, Go.bits .or .u32 ((a0_2) % 4294967296) 2147483648, a0_3, a0_4] : List Int)) 4).bind fun bt356 => (some (bt356.1, bt356.2))) else ((octet_Row.f kj1 (([a0_0, (a0_2) % 4294967296, a0_3, a0_4] : List Int)) 4).bind fun bt363 => (some (bt363.1, bt363.2)))) = some (r1, r2) := by rw [if_neg (show ¬ (false = true) by decide)] at H; exact H
        clear H
        have H := H1
        clear H1
        by_cases c13 : a0_1 = true
        · subst c13
          have H1 : ((octet_Row.f kj1 (([a0_0, Go.bits .or .u32 ((a0_2) % 4294967296) 2147483648, a0_3, a0_4] : List Int)) 4).bind fun bt356 => (some (bt356.1, bt356.2))) = some (r1, r2) := by rw [if_pos rfl] at H; exact H
          clear H
          have H := H1
          clear H1
          obtain ⟨y353, hy353⟩ : ∃ y_ : List Int, y_ = (([a0_0, Go.bits .or .u32 ((a0_2) % 4294967296) 2147483648, a0_3, a0_4] : List Int)) := ⟨_, rfl⟩
          replace H : ((octet_Row.f kj1 y353 4).bind fun bt356 => (some (bt356.1, bt356.2))) = some (r1, r2) := by first | (rw [hy353]; with_reducible exact H) | (have H2_ := (Option.bind_some _ _).symm.trans H; rw [hy353]; with_reducible exact H2_) | (have H2_ := (Option.bind_some _ _).symm.trans H; with_reducible exact H2_) | with_reducible exact H | (rw [hy353]; exact H) | exact H
          have Ny353 := Aside0.mk hy353
          clear hy353
          replace H := Option.bind_eq_some_iff.mp H
          obtain ⟨⟨t356, t357⟩, A140, H⟩ := H
          replace H : (some (t356, t357)) = some (r1, r2) := H
          have A14 := Aside0.mk A140
          clear A140
          simp only [Option.some.injEq, Prod.mk.injEq] at H
          obtain ⟨rfl, rfl⟩ := H
          have hcz15_0 : wc.cell? ⟨gb350, 0, none⟩ = some (.int .u32 a0_0) := (blk_cell BK350.out 0).trans rfl
          have hcz15_1 : wc.cell? ⟨gb350, 1, none⟩ = some (.bool true) := (blk_cell BK350.out 1).trans rfl
          have hcz15_2 : wc.cell? ⟨gb350, 2, none⟩ = some (.int .i64 a0_2) := (blk_cell BK350.out 2).trans rfl
          have hcz15_3 : wc.cell? ⟨gb350, 3, none⟩ = some (.int .u32 a0_3) := (blk_cell BK350.out 3).trans rfl
          have hcz15_4 : wc.cell? ⟨gb350, 4, none⟩ = some (.int .u32 a0_4) := (blk_cell BK350.out 4).trans rfl
          have hfz15_0 := blk_frozen BK350.out 0
          have hfz15_1 := blk_frozen BK350.out 1
          have hfz15_2 := blk_frozen BK350.out 2
          have hfz15_3 := blk_frozen BK350.out 3
          have hfz15_4 := blk_frozen BK350.out 4
          go_wp2_with (first | ((with_reducible refine gate_dst (N := 29) rfl ?_); refine Kd.R_lit (Kd.int .u32) _ 22 ?hg (N := 29) ?hd (xs := ([a0_0, Go.bits .or .u32 ((a0_2) % 4294967296) 2147483648, a0_3, a0_4] : List Int)) (inner := [.int .u32 a0_0, .int .u32 (Go.bits .or .u32 ((a0_2) % 4294967296) 2147483648), .int .u32 a0_3, .int .u32 a0_4]) (ok := fun _ => True) (okp := fun _ => True) ?hr ?hp (fun _ hk => hk) trivial (Below.refl _ _) (Nat.le_refl _) (by simp) ?_; (case hd => rfl); (case hg => rfl); (case hr => first | (go_simp; done) | (go_simp; rfl)); (case hp => exact (Reps.one (show Kd.M (Kd.int .u32) _ _ _ a0_0 [.int .u32 a0_0] from rfl) (Reps.one (show Kd.M (Kd.int .u32) _ _ _ (Go.bits .or .u32 ((a0_2) % 4294967296) 2147483648) [.int .u32 (Go.bits .or .u32 ((a0_2) % 4294967296) 2147483648)] from rfl) (Reps.one (show Kd.M (Kd.int .u32) _ _ _ a0_3 [.int .u32 a0_3] from rfl) (Reps.one (show Kd.M (Kd.int .u32) _ _ _ a0_4 [.int .u32 a0_4] from rfl) (Reps.none _ _)))))); intro v354 w16 ho17 hb hg_ hnew_; clear hg_ hnew_; (first | rw [← Ny353.out] at ho17 | (simp only [Int.reduceToNat] at ho17; rw [← Ny353.out] at ho17)); have n0_ := Aside0.mk (Kd.R_lower ho17 (below_size (by repeat (first | (with_reducible first | exact HB.out | apply below_alloc | apply pw_below_drewN | apply below_drew1 | refine below_set ?_ GE350.out) | exact HB.out)))); have n1_ := Aside0.mk (blk_below (g := gb350) (o := .cells #[.int .u32 a0_0, .bool true, .int .i64 a0_2, .int .u32 a0_3, .int .u32 a0_4] 56 (0, 0)) (by (with_reducible repeat (first | refine blk_drewN ?_ _ | refine blk_drew ?_ | refine blk_alloc ?_ _)); exact BK350.out) hb); have n2_ := Aside0.mk (below_step (by repeat (first | (with_reducible first | exact HB.out | apply below_alloc | apply pw_below_drewN | apply below_drew1 | refine below_set ?_ GE350.out) | exact HB.out)) hb); clear BK350; clear HB; have HO355 := n0_; have BK350 := n1_; have HB := n2_; clear n0_ n1_ n2_; clear hb ho17; obtain ⟨Ao18, co18, eo18⟩ := Kd.R_slice HO355.out; subst eo18) | ((with_reducible refine gate_callee (f := 26) rfl ?_); refine goesL_ (some 30) rfl rfl Try.func26 (by kernel_rfl) rfl #[.slice Ao18 y353.length co18, .int .i64 4] rfl (by (try simp only [List.map_toArray, List.map_cons, List.map_nil]); first | done | rfl | (simp only [List.length_drop, List.length_take]; rfl)) ?_; (with_reducible refine (octet_Row.calls kj1 _ _ y353 4 t356 t357 _ ?side1 ?side2 A14.out).mono ?_); (case side1 => repeat (first | exact (Kd.R_reads' HO355.out).2.2 | (with_reducible refine Kd.C_alloc ?_ _) | (with_reducible refine Kd.C_drewN ?_ _) | (with_reducible refine Kd.C_drew ?_))); (case side2 => exact (Kd.R_reads' HO355.out).2.1); rintro e w19 ⟨v358, rfl, ho0, hb⟩; refine ⟨_, rfl, ?_⟩; have n0_ := Aside0.mk (Kd.R_below (by (with_reducible repeat (first | apply Kd.R_alloc | apply Kd.R_drewN | apply Kd.R_drew)); exact HO355.out) hb); have n1_ := Aside0.mk (Kd.R_lower ho0 (below_size (by repeat (first | (with_reducible first | exact HB.out | apply below_alloc | apply pw_below_drewN | apply below_drew1 | refine below_set ?_ GE350.out) | exact HB.out)))); have n2_ := Aside0.mk (blk_below (g := gb350) (o := .cells #[.int .u32 a0_0, .bool true, .int .i64 a0_2, .int .u32 a0_3, .int .u32 a0_4] 56 (0, 0)) (by (with_reducible repeat (first | refine blk_drewN ?_ _ | refine blk_drew ?_ | refine blk_alloc ?_ _)); exact BK350.out) hb); have n3_ := Aside0.mk (below_step (by repeat (first | (with_reducible first | exact HB.out | apply below_alloc | apply pw_below_drewN | apply below_drew1 | refine below_set ?_ GE350.out) | exact HB.out)) hb); clear HO355; clear BK350; clear HB; have HO355 := n0_; have HO359 := n1_; have BK350 := n2_; have HB := n3_; clear n0_ n1_ n2_ n3_; (try clear hb); (try clear hb2); (try clear hk); (try clear hi); (try clear ho0)))
          go_ret2
          exact ⟨_, by first | rfl | (simp [errW_none, errW_some] <;> rfl) | (simp [*, errW_none, errW_some] <;> rfl), by (with_reducible repeat (first | apply Kd.R_alloc | apply Kd.R_drewN | apply Kd.R_drew)); exact HO359.out, by repeat (first | (with_reducible first | exact HB.out | apply below_alloc | apply pw_below_drewN | apply below_drew1 | refine below_set ?_ GE350.out) | exact HB.out)⟩
        · replace c13 := Bool.eq_false_iff.mpr c13
          subst c13
          have H1 : ((octet_Row.f kj1 (([a0_0, (a0_2) % 4294967296, a0_3, a0_4] : List Int)) 4).bind fun bt363 => (some (bt363.1, bt363.2))) = some (r1, r2) := by rw [if_neg (show ¬ (false = true) by decide)] at H; exact H
          clear H
          have H := H1
          clear H1
          obtain ⟨y360, hy360⟩ : ∃ y_ : List Int, y_ = (([a0_0, (a0_2) % 4294967296, a0_3, a0_4] : List Int)) := ⟨_, rfl⟩
          replace H : ((octet_Row.f kj1 y360 4).bind fun bt363 => (some (bt363.1, bt363.2))) = some (r1, r2) := by first | (rw [hy360]; with_reducible exact H) | (have H2_ := (Option.bind_some _ _).symm.trans H; rw [hy360]; with_reducible exact H2_) | (have H2_ := (Option.bind_some _ _).symm.trans H; with_reducible exact H2_) | with_reducible exact H | (rw [hy360]; exact H) | exact H
          have Ny360 := Aside0.mk hy360
          clear hy360
          replace H := Option.bind_eq_some_iff.mp H
          obtain ⟨⟨t363, t364⟩, A200, H⟩ := H
          replace H : (some (t363, t364)) = some (r1, r2) := H
          have A20 := Aside0.mk A200
          clear A200
          simp only [Option.some.injEq, Prod.mk.injEq] at H
          obtain ⟨rfl, rfl⟩ := H
          have hcz21_0 : wc.cell? ⟨gb350, 0, none⟩ = some (.int .u32 a0_0) := (blk_cell BK350.out 0).trans rfl
          have hcz21_1 : wc.cell? ⟨gb350, 1, none⟩ = some (.bool false) := (blk_cell BK350.out 1).trans rfl
          have hcz21_2 : wc.cell? ⟨gb350, 2, none⟩ = some (.int .i64 a0_2) := (blk_cell BK350.out 2).trans rfl
          have hcz21_3 : wc.cell? ⟨gb350, 3, none⟩ = some (.int .u32 a0_3) := (blk_cell BK350.out 3).trans rfl
          have hcz21_4 : wc.cell? ⟨gb350, 4, none⟩ = some (.int .u32 a0_4) := (blk_cell BK350.out 4).trans rfl
          have hfz21_0 := blk_frozen BK350.out 0
          have hfz21_1 := blk_frozen BK350.out 1
          have hfz21_2 := blk_frozen BK350.out 2
          have hfz21_3 := blk_frozen BK350.out 3
          have hfz21_4 := blk_frozen BK350.out 4
          go_wp2_with (first | ((with_reducible refine gate_dst (N := 29) rfl ?_); refine Kd.R_lit (Kd.int .u32) _ 22 ?hg (N := 29) ?hd (xs := ([a0_0, (a0_2) % 4294967296, a0_3, a0_4] : List Int)) (inner := [.int .u32 a0_0, .int .u32 ((a0_2) % 4294967296), .int .u32 a0_3, .int .u32 a0_4]) (ok := fun _ => True) (okp := fun _ => True) ?hr ?hp (fun _ hk => hk) trivial (Below.refl _ _) (Nat.le_refl _) (by simp) ?_; (case hd => rfl); (case hg => rfl); (case hr => first | (go_simp; done) | (go_simp; rfl)); (case hp => exact (Reps.one (show Kd.M (Kd.int .u32) _ _ _ a0_0 [.int .u32 a0_0] from rfl) (Reps.one (show Kd.M (Kd.int .u32) _ _ _ ((a0_2) % 4294967296) [.int .u32 ((a0_2) % 4294967296)] from rfl) (Reps.one (show Kd.M (Kd.int .u32) _ _ _ a0_3 [.int .u32 a0_3] from rfl) (Reps.one (show Kd.M (Kd.int .u32) _ _ _ a0_4 [.int .u32 a0_4] from rfl) (Reps.none _ _)))))); intro v361 w22 ho23 hb hg_ hnew_; clear hg_ hnew_; (first | rw [← Ny360.out] at ho23 | (simp only [Int.reduceToNat] at ho23; rw [← Ny360.out] at ho23)); have n0_ := Aside0.mk (Kd.R_lower ho23 (below_size (by repeat (first | (with_reducible first | exact HB.out | apply below_alloc | apply pw_below_drewN | apply below_drew1 | refine below_set ?_ GE350.out) | exact HB.out)))); have n1_ := Aside0.mk (blk_below (g := gb350) (o := .cells #[.int .u32 a0_0, .bool false, .int .i64 a0_2, .int .u32 a0_3, .int .u32 a0_4] 56 (0, 0)) (by (with_reducible repeat (first | refine blk_drewN ?_ _ | refine blk_drew ?_ | refine blk_alloc ?_ _)); exact BK350.out) hb); have n2_ := Aside0.mk (below_step (by repeat (first | (with_reducible first | exact HB.out | apply below_alloc | apply pw_below_drewN | apply below_drew1 | refine below_set ?_ GE350.out) | exact HB.out)) hb); clear BK350; clear HB; have HO362 := n0_; have BK350 := n1_; have HB := n2_; clear n0_ n1_ n2_; clear hb ho23; obtain ⟨Ao24, co24, eo24⟩ := Kd.R_slice HO362.out; subst eo24) | ((with_reducible refine gate_callee (f := 26) rfl ?_); refine goesL_ (some 30) rfl rfl Try.func26 (by kernel_rfl) rfl #[.slice Ao24 y360.length co24, .int .i64 4] rfl (by (try simp only [List.map_toArray, List.map_cons, List.map_nil]); first | done | rfl | (simp only [List.length_drop, List.length_take]; rfl)) ?_; (with_reducible refine (octet_Row.calls kj1 _ _ y360 4 t363 t364 _ ?side1 ?side2 A20.out).mono ?_); (case side1 => repeat (first | exact (Kd.R_reads' HO362.out).2.2 | (with_reducible refine Kd.C_alloc ?_ _) | (with_reducible refine Kd.C_drewN ?_ _) | (with_reducible refine Kd.C_drew ?_))); (case side2 => exact (Kd.R_reads' HO362.out).2.1); rintro e w25 ⟨v365, rfl, ho0, hb⟩; refine ⟨_, rfl, ?_⟩; have n0_ := Aside0.mk (Kd.R_below (by (with_reducible repeat (first | apply Kd.R_alloc | apply Kd.R_drewN | apply Kd.R_drew)); exact HO362.out) hb); have n1_ := Aside0.mk (Kd.R_lower ho0 (below_size (by repeat (first | (with_reducible first | exact HB.out | apply below_alloc | apply pw_below_drewN | apply below_drew1 | refine below_set ?_ GE350.out) | exact HB.out)))); have n2_ := Aside0.mk (blk_below (g := gb350) (o := .cells #[.int .u32 a0_0, .bool false, .int .i64 a0_2, .int .u32 a0_3, .int .u32 a0_4] 56 (0, 0)) (by (with_reducible repeat (first | refine blk_drewN ?_ _ | refine blk_drew ?_ | refine blk_alloc ?_ _)); exact BK350.out) hb); have n3_ := Aside0.mk (below_step (by repeat (first | (with_reducible first | exact HB.out | apply below_alloc | apply pw_below_drewN | apply below_drew1 | refine below_set ?_ GE350.out) | exact HB.out)) hb); clear HO362; clear BK350; clear HB; have HO362 := n0_; have HO366 := n1_; have BK350 := n2_; have HB := n3_; clear n0_ n1_ n2_ n3_; (try clear hb); (try clear hb2); (try clear hk); (try clear hi); (try clear ho0)))
          go_ret2
          exact ⟨_, by first | rfl | (simp [errW_none, errW_some] <;> rfl) | (simp [*, errW_none, errW_some] <;> rfl), by (with_reducible repeat (first | apply Kd.R_alloc | apply Kd.R_drewN | apply Kd.R_drew)); exact HO366.out, by repeat (first | (with_reducible first | exact HB.out | apply below_alloc | apply pw_below_drewN | apply below_drew1 | refine below_set ?_ GE350.out) | exact HB.out)⟩

/-! ### crossroadsref12_External: function 21 -/
mutual
def crossroadsref12_External.j0 : Nat → Bool → Int → Bool → Int → Int → Int → Option (List Int × Int)
  | 0, _, _, _, _, _, _ => none
  | k + 1, x15, x368000, x368001, x368002, x368003, x368004 => if x15 = true then (some (([] : List Int), 1)) else (if x368001 = true then (crossroadsref12_External.j1 k ((((x368002) % 4294967296) + 2147483648) % 4294967296) x368000 x368001 x368002 x368003 x368004) else (crossroadsref12_External.j1 k ((x368002) % 4294967296) x368000 x368001 x368002 x368003 x368004))
def crossroadsref12_External.j1 : Nat → Int → Int → Bool → Int → Int → Int → Option (List Int × Int)
  | 0, _, _, _, _, _, _ => none
  | k + 1, x4, x368000, x368001, x368002, x368003, x368004 => (crossroadsref01_Four.f x368000).bind fun t370 => ((crossroadsref01_Four.f x4).bind fun t373 => (if t370.length + t373.length < 140737488355328 then ((some (t370 ++ t373 : List Int)).bind fun y376 => ((crossroadsref01_Four.f x368003).bind fun t379 => (if y376.length + t379.length < 140737488355328 then ((some (y376 ++ t379 : List Int)).bind fun y382 => ((crossroadsref01_Four.f x368004).bind fun t385 => (if y382.length + t385.length < 140737488355328 then (some ((y382 ++ t385), 0)) else (none)))) else (none)))) else (none)))
end
def crossroadsref12_External.f (k : Nat) (a0_0 : Int) (a0_1 : Bool) (a0_2 : Int) (a0_3 : Int) (a0_4 : Int) : Option (List Int × Int) := (crossroadsref12_isMask.f k a0_0).bind fun t368 => (if t368 = true then ((crossroadsref12_cost.f a0_2).bind fun t369 => (crossroadsref12_External.j0 k (!t369) a0_0 a0_1 a0_2 a0_3 a0_4)) else (crossroadsref12_External.j0 k true a0_0 a0_1 a0_2 a0_3 a0_4))
theorem crossroadsref12_External.mono_l : ∀ k, (∀ y0 y1 y2 y3 y4 y5, LeO (crossroadsref12_External.j0 k y0 y1 y2 y3 y4 y5) (crossroadsref12_External.j0 (k + 1) y0 y1 y2 y3 y4 y5)) ∧ (∀ y0 y1 y2 y3 y4 y5, LeO (crossroadsref12_External.j1 k y0 y1 y2 y3 y4 y5) (crossroadsref12_External.j1 (k + 1) y0 y1 y2 y3 y4 y5))
  | 0 => ⟨fun _ _ _ _ _ _ r h => by simp [crossroadsref12_External.j0] at h, fun _ _ _ _ _ _ r h => by simp [crossroadsref12_External.j1] at h⟩
  | k + 1 => by
    obtain ⟨ih0, ih1⟩ := crossroadsref12_External.mono_l k
    refine ⟨?_, ?_⟩
    · intro y0 y1 y2 y3 y4 y5
      unfold crossroadsref12_External.j0
      repeat' first
      | (with_reducible exact ih0 _ _ _ _ _ _)
      | (with_reducible exact ih1 _ _ _ _ _ _)
      | (with_reducible exact crossroadsref12_isMask.mono _ _)
      | (with_reducible exact LeO.refl _)
      | (with_reducible exact LeO.none _)
      | (with_reducible refine LeO.ite ?_ ?_)
      | (with_reducible refine LeO.bind ?_ (fun _ => ?_))
      | exact ih0 _ _ _ _ _ _
      | exact ih1 _ _ _ _ _ _
      | exact crossroadsref12_isMask.mono _ _
      | exact LeO.none _
      | refine LeO.ite ?_ ?_
      | refine LeO.bind ?_ (fun _ => ?_)
    · intro y0 y1 y2 y3 y4 y5
      unfold crossroadsref12_External.j1
      repeat' first
      | (with_reducible exact ih0 _ _ _ _ _ _)
      | (with_reducible exact ih1 _ _ _ _ _ _)
      | (with_reducible exact crossroadsref12_isMask.mono _ _)
      | (with_reducible exact LeO.refl _)
      | (with_reducible exact LeO.none _)
      | (with_reducible refine LeO.ite ?_ ?_)
      | (with_reducible refine LeO.bind ?_ (fun _ => ?_))
      | exact ih0 _ _ _ _ _ _
      | exact ih1 _ _ _ _ _ _
      | exact crossroadsref12_isMask.mono _ _
      | exact LeO.none _
      | refine LeO.ite ?_ ?_
      | refine LeO.bind ?_ (fun _ => ?_)
theorem crossroadsref12_External.mono : ∀ a0 a1 a2 a3 a4 k, LeO (crossroadsref12_External.f k a0 a1 a2 a3 a4) (crossroadsref12_External.f (k + 1) a0 a1 a2 a3 a4) := by
  intro a0 a1 a2 a3 a4 k
  obtain ⟨ih0, ih1⟩ := crossroadsref12_External.mono_l k
  unfold crossroadsref12_External.f
  repeat' first
      | (with_reducible exact ih0 _ _ _ _ _ _)
      | (with_reducible exact ih1 _ _ _ _ _ _)
      | (with_reducible exact crossroadsref12_isMask.mono _ _)
      | (with_reducible exact LeO.refl _)
      | (with_reducible exact LeO.none _)
      | (with_reducible refine LeO.ite ?_ ?_)
      | (with_reducible refine LeO.bind ?_ (fun _ => ?_))
      | exact ih0 _ _ _ _ _ _
      | exact ih1 _ _ _ _ _ _
      | exact crossroadsref12_isMask.mono _ _
      | exact LeO.none _
      | refine LeO.ite ?_ ?_
      | refine LeO.bind ?_ (fun _ => ?_)
set_option maxHeartbeats 8000000 in
set_option maxRecDepth 100000 in
theorem crossroadsref12_External.calls (k : Nat) (a0_0 : Int) (a0_1 : Bool) (a0_2 : Int) (a0_3 : Int) (a0_4 : Int) (r1 : List Int) (r2 : Int) (w : World) (h : crossroadsref12_External.f k a0_0 a0_1 a0_2 a0_3 a0_4 = some (r1, r2)) :
    Calls Try.prog 21 #[.agg #[.int .u32 a0_0, .bool a0_1, .int .i64 a0_2, .int .u32 a0_3, .int .u32 a0_4]] w fun e w' => ∃ v0_ : Value, e = .returned (.tuple #[v0_, .int .i64 r2]) ∧ Kd.R (Kd.int .u8) 5 w' w.heap.size (fun _ => True) v0_ r1 ∧ Below w.heap.size w w' := by
  have hu59 := Try.underlying59
  have HB := Aside0.mk (Below.refl w.heap.size w)
  have H : ((crossroadsref12_isMask.f k a0_0).bind fun t368 => (if t368 = true then ((crossroadsref12_cost.f a0_2).bind fun t369 => (crossroadsref12_External.j0 k (!t369) a0_0 a0_1 a0_2 a0_3 a0_4)) else (crossroadsref12_External.j0 k true a0_0 a0_1 a0_2 a0_3 a0_4))) = some (r1, r2) := h
  clear h
  have HC2 := Aside0.mk H
  clear H
  go_enter Try.func21, Try.ntmps21
  go_upto_region 1 with (first | ((with_reducible refine gate_dst (N := 1) rfl ?_); refine box_event ?hg (N := 1) ?hd (cs := #[.int .u32 a0_0, .bool a0_1, .int .i64 a0_2, .int .u32 a0_3, .int .u32 a0_4]) (t := 59) ?hr ?_; (case hd => rfl); (case hg => rfl); (case hr => first | (go_simp; done) | (go_simp; rfl)); intro gb367 hg w3 hbox hb; have n0_ := Aside0.mk (below_step (by repeat (first | (with_reducible first | exact HB.out | apply below_alloc | apply pw_below_drewN | apply below_drew1) | exact HB.out)) hb); have n1_ := Aside0.mk (hbox); have n2_ := Aside0.mk ((by rw [hg]; exact (below_size (by repeat (first | (with_reducible first | exact HB.out | apply below_alloc | apply pw_below_drewN | apply below_drew1) | exact HB.out))) : w.heap.size ≤ gb367)); have n3_ := Aside0.mk ((by rw [hg]; exact (below_size (by repeat (first | (with_reducible first | exact HB.out | apply below_alloc | apply pw_below_drewN | apply below_drew1) | exact HB.out))) : w.heap.size ≤ gb367)); clear HB; have HB := n0_; have BK367 := n1_; have GW367 := n2_; have GE367 := n3_; clear n0_ n1_ n2_ n3_; clear hb hbox hg))
  (try simp only [Act.put, List.setIfInBounds_toArray, List.set_cons_zero, List.set_cons_succ])
  go_cut [15] (fun v15 wc => ∃ (kq : Nat) (x15_1 : Bool), v15 = .bool x15_1 ∧ Aside0 (crossroadsref12_External.j0 kq x15_1 a0_0 a0_1 a0_2 a0_3 a0_4 = some (r1, r2)) ∧ Aside0 (kq ≤ k) ∧ Aside0 (wc.heap[gb367]? = some (.cells #[.int .u32 a0_0, .bool a0_1, .int .i64 a0_2, .int .u32 a0_3, .int .u32 a0_4] 59 (0, 0))) ∧ Aside0 (Below w.heap.size w wc))
  case first =>
    have H := HC2.out
    clear HC2
    replace H := Option.bind_eq_some_iff.mp H
    obtain ⟨t368, A40, H⟩ := H
    replace H : (if t368 = true then ((crossroadsref12_cost.f a0_2).bind fun t369 => (crossroadsref12_External.j0 k (!t369) a0_0 a0_1 a0_2 a0_3 a0_4)) else (crossroadsref12_External.j0 k true a0_0 a0_1 a0_2 a0_3 a0_4)) = some (r1, r2) := H
    have A4 := Aside0.mk A40
    clear A40
    by_cases c5 : t368 = true
    · subst c5
      have H1 : ((crossroadsref12_cost.f a0_2).bind fun t369 => (crossroadsref12_External.j0 k (!t369) a0_0 a0_1 a0_2 a0_3 a0_4)) = some (r1, r2) := by rw [if_pos rfl] at H; exact H
      clear H
      have H := H1
      clear H1
      replace H := Option.bind_eq_some_iff.mp H
      obtain ⟨t369, A60, H⟩ := H
      replace H : (crossroadsref12_External.j0 k (!t369) a0_0 a0_1 a0_2 a0_3 a0_4) = some (r1, r2) := H
      have A6 := Aside0.mk A60
      clear A60
      have H' := Aside0.mk H
      clear H
      have hcz7_0 : w3.cell? ⟨gb367, 0, none⟩ = some (.int .u32 a0_0) := (blk_cell BK367.out 0).trans rfl
      have hcz7_1 : w3.cell? ⟨gb367, 1, none⟩ = some (.bool a0_1) := (blk_cell BK367.out 1).trans rfl
      have hcz7_2 : w3.cell? ⟨gb367, 2, none⟩ = some (.int .i64 a0_2) := (blk_cell BK367.out 2).trans rfl
      have hcz7_3 : w3.cell? ⟨gb367, 3, none⟩ = some (.int .u32 a0_3) := (blk_cell BK367.out 3).trans rfl
      have hcz7_4 : w3.cell? ⟨gb367, 4, none⟩ = some (.int .u32 a0_4) := (blk_cell BK367.out 4).trans rfl
      have hfz7_0 := blk_frozen BK367.out 0
      have hfz7_1 := blk_frozen BK367.out 1
      have hfz7_2 := blk_frozen BK367.out 2
      have hfz7_3 := blk_frozen BK367.out 3
      have hfz7_4 := blk_frozen BK367.out 4
      go_wp2_with (first | ((with_reducible refine gate_callee (f := 27) rfl ?_); refine goesL_ (some 8) rfl rfl Try.func27 (by kernel_rfl) rfl #[.int .u32 a0_0] rfl (by (try simp only [List.map_toArray, List.map_cons, List.map_nil]); first | done | rfl | (simp only [List.length_drop, List.length_take]; rfl)) ?_; (with_reducible refine (crossroadsref12_isMask.calls k a0_0 true _ A4.out).mono ?_); rintro e w' ⟨rfl, ⟨nd, rfl⟩⟩; refine ⟨_, rfl, ?_⟩) | (go_at_call 28; (with_reducible refine (crossroadsref12_cost.calls a0_2 t369 _ A6.out).mono ?_); rintro e w' ⟨rfl, ⟨nd, rfl⟩⟩))
      go_meet
      case rel => exact ⟨_, (!t369), (by first | rfl | (simp; done) | (simp [*]; done)), H', ⟨by first | omega | exact Nat.le_refl _⟩, ⟨by (with_reducible repeat (first | refine blk_drewN ?_ _ | refine blk_drew ?_ | refine blk_alloc ?_ _)); exact BK367.out⟩, ⟨by repeat (first | (with_reducible first | exact HB.out | apply below_alloc | apply pw_below_drewN | apply below_drew1 | refine below_set ?_ GE367.out) | exact HB.out)⟩⟩
    · replace c5 := Bool.eq_false_iff.mpr c5
      subst c5
      have H1 : (crossroadsref12_External.j0 k true a0_0 a0_1 a0_2 a0_3 a0_4) = some (r1, r2) := by rw [if_neg (show ¬ (false = true) by decide)] at H; exact H
      clear H
      have H := H1
      clear H1
      have H' := Aside0.mk H
      clear H
      have hcz8_0 : w3.cell? ⟨gb367, 0, none⟩ = some (.int .u32 a0_0) := (blk_cell BK367.out 0).trans rfl
      have hcz8_1 : w3.cell? ⟨gb367, 1, none⟩ = some (.bool a0_1) := (blk_cell BK367.out 1).trans rfl
      have hcz8_2 : w3.cell? ⟨gb367, 2, none⟩ = some (.int .i64 a0_2) := (blk_cell BK367.out 2).trans rfl
      have hcz8_3 : w3.cell? ⟨gb367, 3, none⟩ = some (.int .u32 a0_3) := (blk_cell BK367.out 3).trans rfl
      have hcz8_4 : w3.cell? ⟨gb367, 4, none⟩ = some (.int .u32 a0_4) := (blk_cell BK367.out 4).trans rfl
      have hfz8_0 := blk_frozen BK367.out 0
      have hfz8_1 := blk_frozen BK367.out 1
      have hfz8_2 := blk_frozen BK367.out 2
      have hfz8_3 := blk_frozen BK367.out 3
      have hfz8_4 := blk_frozen BK367.out 4
      go_wp2_with (first | ((with_reducible refine gate_callee (f := 27) rfl ?_); refine goesL_ (some 8) rfl rfl Try.func27 (by kernel_rfl) rfl #[.int .u32 a0_0] rfl (by (try simp only [List.map_toArray, List.map_cons, List.map_nil]); first | done | rfl | (simp only [List.length_drop, List.length_take]; rfl)) ?_; (with_reducible refine (crossroadsref12_isMask.calls k a0_0 false _ A4.out).mono ?_); rintro e w' ⟨rfl, ⟨nd, rfl⟩⟩; refine ⟨_, rfl, ?_⟩))
      go_meet
      case rel => exact ⟨_, (true), (by first | rfl | (simp; done) | (simp [*]; done)), H', ⟨by first | omega | exact Nat.le_refl _⟩, ⟨by (with_reducible repeat (first | refine blk_drewN ?_ _ | refine blk_drew ?_ | refine blk_alloc ?_ _)); exact BK367.out⟩, ⟨by repeat (first | (with_reducible first | exact HB.out | apply below_alloc | apply pw_below_drewN | apply below_drew1 | refine below_set ?_ GE367.out) | exact HB.out)⟩⟩
  case rest =>
    clear HC2
    try clear c2
    try clear p2
    try clear c5
    try clear hcz7_0
    try clear hcz7_1
    try clear hcz7_2
    try clear hcz7_3
    try clear hcz7_4
    try clear hcz8_0
    try clear hcz8_1
    try clear hcz8_2
    try clear hcz8_3
    try clear hcz8_4
    try clear hfz7_0
    try clear hfz7_1
    try clear hfz7_2
    try clear hfz7_3
    try clear hfz7_4
    try clear hfz8_0
    try clear hfz8_1
    try clear hfz8_2
    try clear hfz8_3
    try clear hfz8_4
    obtain ⟨kq, x15_1, rfl, HA, HJ1, BK367, HB⟩ := hcut
    cases kq with
    | zero => exact absurd HA.out (by simp [crossroadsref12_External.j0])
    | succ kj1 =>
      have H := HA.out
      clear HA
      simp only [crossroadsref12_External.j0] at H
      by_cases c9 : x15_1 = true
      · subst c9
        have H1 : (some (([] : List Int), 1)) = some (r1, r2) := by rw [if_pos rfl] at H; exact H
        clear H
        have H := H1
        clear H1
        simp only [Option.some.injEq, Prod.mk.injEq] at H
        obtain ⟨rfl, rfl⟩ := H
        go_wp2
        go_ret2
        exact ⟨_, by first | rfl | (simp [errW_none, errW_some] <;> rfl) | (simp [*, errW_none, errW_some] <;> rfl), by first | exact Kd.R_nil _ _ _ _ _ | exact Kd.N_nil _ _ _ _ _ | exact Kd.V_nil _ _ _ _ _ | exact Kd.Q_nil _ _ _ _ _ | exact Kd.S_nil _ _ _ _ _, by repeat (first | (with_reducible first | exact HB.out | apply below_alloc | apply pw_below_drewN | apply below_drew1 | refine below_set ?_ GE367.out) | exact HB.out)⟩
      · replace c9 := Bool.eq_false_iff.mpr c9
        subst c9
        have H1 : (if a0_1 = true then (crossroadsref12_External.j1 kj1 ((((a0_2) % 4294967296) + 2147483648) % 4294967296) a0_0 a0_1 a0_2 a0_3 a0_4) else (crossroadsref12_External.j1 kj1 ((a0_2) % 4294967296) a0_0 a0_1 a0_2 a0_3 a0_4)) = some (r1, r2) := by rw [if_neg (show ¬ (false = true) by decide)] at H; exact H
        clear H
        have H := H1
        clear H1
        have HC10 := Aside0.mk H
        clear H
        have hcz11_0 : wc.cell? ⟨gb367, 0, none⟩ = some (.int .u32 a0_0) := (blk_cell BK367.out 0).trans rfl
        have hcz11_1 : wc.cell? ⟨gb367, 1, none⟩ = some (.bool a0_1) := (blk_cell BK367.out 1).trans rfl
        have hcz11_2 : wc.cell? ⟨gb367, 2, none⟩ = some (.int .i64 a0_2) := (blk_cell BK367.out 2).trans rfl
        have hcz11_3 : wc.cell? ⟨gb367, 3, none⟩ = some (.int .u32 a0_3) := (blk_cell BK367.out 3).trans rfl
        have hcz11_4 : wc.cell? ⟨gb367, 4, none⟩ = some (.int .u32 a0_4) := (blk_cell BK367.out 4).trans rfl
        have hfz11_0 := blk_frozen BK367.out 0
        have hfz11_1 := blk_frozen BK367.out 1
        have hfz11_2 := blk_frozen BK367.out 2
        have hfz11_3 := blk_frozen BK367.out 3
        have hfz11_4 := blk_frozen BK367.out 4
        go_upto_if 20 with (fail)
        go_cut [4] (fun v4 wc => ∃ (kq : Nat) (x4_9 : Int), v4 = .int .u32 x4_9 ∧ Aside0 (crossroadsref12_External.j1 kq x4_9 a0_0 a0_1 a0_2 a0_3 a0_4 = some (r1, r2)) ∧ Aside0 (kq ≤ kj1) ∧ Aside0 (wc.heap[gb367]? = some (.cells #[.int .u32 a0_0, .bool a0_1, .int .i64 a0_2, .int .u32 a0_3, .int .u32 a0_4] 59 (0, 0))) ∧ Aside0 (Below w.heap.size w wc))
        case first =>
          have H := HC10.out
          clear HC10
          by_cases c12 : a0_1 = true
          · subst c12
            have H1 : (crossroadsref12_External.j1 kj1 ((((a0_2) % 4294967296) + 2147483648) % 4294967296) a0_0 true a0_2 a0_3 a0_4) = some (r1, r2) := by rw [if_pos rfl] at H; exact H
            clear H
            have H := H1
            clear H1
            have H' := Aside0.mk H
            clear H
            go_wp2
            go_meet
            case rel => exact ⟨_, ((((a0_2) % 4294967296) + 2147483648) % 4294967296), (by first | rfl | (simp; done) | (simp [*]; done) | (congr 1; omega)), H', ⟨by have := HJ1.out; first | omega | exact Nat.le_refl _⟩, ⟨by (with_reducible repeat (first | refine blk_drewN ?_ _ | refine blk_drew ?_ | refine blk_alloc ?_ _)); exact BK367.out⟩, ⟨by repeat (first | (with_reducible first | exact HB.out | apply below_alloc | apply pw_below_drewN | apply below_drew1 | refine below_set ?_ GE367.out) | exact HB.out)⟩⟩
          · replace c12 := Bool.eq_false_iff.mpr c12
            subst c12
            have H1 : (crossroadsref12_External.j1 kj1 ((a0_2) % 4294967296) a0_0 false a0_2 a0_3 a0_4) = some (r1, r2) := by rw [if_neg (show ¬ (false = true) by decide)] at H; exact H
            clear H
            have H := H1
            clear H1
            have H' := Aside0.mk H
            clear H
            go_wp2
            go_meet
            case rel => exact ⟨_, ((a0_2) % 4294967296), (by first | rfl | (simp; done) | (simp [*]; done) | (congr 1; omega)), H', ⟨by have := HJ1.out; first | omega | exact Nat.le_refl _⟩, ⟨by (with_reducible repeat (first | refine blk_drewN ?_ _ | refine blk_drew ?_ | refine blk_alloc ?_ _)); exact BK367.out⟩, ⟨by repeat (first | (with_reducible first | exact HB.out | apply below_alloc | apply pw_below_drewN | apply below_drew1 | refine below_set ?_ GE367.out) | exact HB.out)⟩⟩
        case rest =>
          clear HC10
          try clear c1
          try clear c2
          try clear p2
          try clear c5
          try clear c9
          try clear c12
          try clear hcz11_0
          try clear hcz11_1
          try clear hcz11_2
          try clear hcz11_3
          try clear hcz11_4
          try clear hcz7_0
          try clear hcz7_1
          try clear hcz7_2
          try clear hcz7_3
          try clear hcz7_4
          try clear hcz8_0
          try clear hcz8_1
          try clear hcz8_2
          try clear hcz8_3
          try clear hcz8_4
          try clear hfz11_0
          try clear hfz11_1
          try clear hfz11_2
          try clear hfz11_3
          try clear hfz11_4
          try clear hfz7_0
          try clear hfz7_1
          try clear hfz7_2
          try clear hfz7_3
          try clear hfz7_4
          try clear hfz8_0
          try clear hfz8_1
          try clear hfz8_2
          try clear hfz8_3
          try clear hfz8_4
          try clear p2
          obtain ⟨kq, x4_9, rfl, HA, HJ9, BK367, HB⟩ := hcut
          cases kq with
          | zero => exact absurd HA.out (by simp [crossroadsref12_External.j1])
          | succ kj9 =>
            have H := HA.out
            clear HA
            simp only [crossroadsref12_External.j1] at H
            replace H := Option.bind_eq_some_iff.mp H
            obtain ⟨t370, A130, H⟩ := H
            replace H : ((crossroadsref01_Four.f x4_9).bind fun t373 => (if t370.length + t373.length < 140737488355328 then ((some (t370 ++ t373 : List Int)).bind fun y376 => ((crossroadsref01_Four.f a0_3).bind fun t379 => (if y376.length + t379.length < 140737488355328 then ((some (y376 ++ t379 : List Int)).bind fun y382 => ((crossroadsref01_Four.f a0_4).bind fun t385 => (if y382.length + t385.length < 140737488355328 then (some ((y382 ++ t385), 0)) else (none)))) else (none)))) else (none))) = some (r1, r2) := H
            have A13 := Aside0.mk A130
            clear A130
            replace H := Option.bind_eq_some_iff.mp H
            obtain ⟨t373, A140, H⟩ := H
            replace H : (if t370.length + t373.length < 140737488355328 then ((some (t370 ++ t373 : List Int)).bind fun y376 => ((crossroadsref01_Four.f a0_3).bind fun t379 => (if y376.length + t379.length < 140737488355328 then ((some (y376 ++ t379 : List Int)).bind fun y382 => ((crossroadsref01_Four.f a0_4).bind fun t385 => (if y382.length + t385.length < 140737488355328 then (some ((y382 ++ t385), 0)) else (none)))) else (none)))) else (none)) = some (r1, r2) := H
            have A14 := Aside0.mk A140
            clear A140
            by_cases c15 : t370.length + t373.length < 140737488355328
            · rw [if_pos c15] at H
              have LMc15 := Aside0.mk c15
              clear c15
              obtain ⟨y376, hy376⟩ : ∃ y_ : List Int, y_ = (t370 ++ t373) := ⟨_, rfl⟩
              replace H : ((crossroadsref01_Four.f a0_3).bind fun t379 => (if y376.length + t379.length < 140737488355328 then ((some (y376 ++ t379 : List Int)).bind fun y382 => ((crossroadsref01_Four.f a0_4).bind fun t385 => (if y382.length + t385.length < 140737488355328 then (some ((y382 ++ t385), 0)) else (none)))) else (none))) = some (r1, r2) := by first | (rw [hy376]; with_reducible exact H) | (have H2_ := (Option.bind_some _ _).symm.trans H; rw [hy376]; with_reducible exact H2_) | (have H2_ := (Option.bind_some _ _).symm.trans H; with_reducible exact H2_) | with_reducible exact H | (rw [hy376]; exact H) | exact H
              have Ny376 := Aside0.mk hy376
              clear hy376
              replace H := Option.bind_eq_some_iff.mp H
              obtain ⟨t379, A160, H⟩ := H
              replace H : (if y376.length + t379.length < 140737488355328 then ((some (y376 ++ t379 : List Int)).bind fun y382 => ((crossroadsref01_Four.f a0_4).bind fun t385 => (if y382.length + t385.length < 140737488355328 then (some ((y382 ++ t385), 0)) else (none)))) else (none)) = some (r1, r2) := H
              have A16 := Aside0.mk A160
              clear A160
              by_cases c17 : y376.length + t379.length < 140737488355328
              · rw [if_pos c17] at H
                have LMc17 := Aside0.mk c17
                clear c17
                obtain ⟨y382, hy382⟩ : ∃ y_ : List Int, y_ = (y376 ++ t379) := ⟨_, rfl⟩
                replace H : ((crossroadsref01_Four.f a0_4).bind fun t385 => (if y382.length + t385.length < 140737488355328 then (some ((y382 ++ t385), 0)) else (none))) = some (r1, r2) := by first | (rw [hy382]; with_reducible exact H) | (have H2_ := (Option.bind_some _ _).symm.trans H; rw [hy382]; with_reducible exact H2_) | (have H2_ := (Option.bind_some _ _).symm.trans H; with_reducible exact H2_) | with_reducible exact H | (rw [hy382]; exact H) | exact H
                have Ny382 := Aside0.mk hy382
                clear hy382
                replace H := Option.bind_eq_some_iff.mp H
                obtain ⟨t385, A180, H⟩ := H
                replace H : (if y382.length + t385.length < 140737488355328 then (some ((y382 ++ t385), 0)) else (none)) = some (r1, r2) := H
                have A18 := Aside0.mk A180
                clear A180
                by_cases c19 : y382.length + t385.length < 140737488355328
                · rw [if_pos c19] at H
                  have LMc19 := Aside0.mk c19
                  clear c19
                  obtain ⟨y388, hy388⟩ : ∃ y_ : List Int, y_ = (y382 ++ t385) := ⟨_, rfl⟩
                  replace H : (some (y388, 0)) = some (r1, r2) := by first | (rw [hy388]; with_reducible exact H) | (have H2_ := (Option.bind_some _ _).symm.trans H; rw [hy388]; with_reducible exact H2_) | (have H2_ := (Option.bind_some _ _).symm.trans H; with_reducible exact H2_) | with_reducible exact H | (rw [hy388]; exact H) | exact H
                  have Ny388 := Aside0.mk hy388
                  clear hy388
                  simp only [Option.some.injEq, Prod.mk.injEq] at H
                  obtain ⟨rfl, rfl⟩ := H
                  have hcz20_0 : wc.cell? ⟨gb367, 0, none⟩ = some (.int .u32 a0_0) := (blk_cell BK367.out 0).trans rfl
                  have hcz20_1 : wc.cell? ⟨gb367, 1, none⟩ = some (.bool a0_1) := (blk_cell BK367.out 1).trans rfl
                  have hcz20_2 : wc.cell? ⟨gb367, 2, none⟩ = some (.int .i64 a0_2) := (blk_cell BK367.out 2).trans rfl
                  have hcz20_3 : wc.cell? ⟨gb367, 3, none⟩ = some (.int .u32 a0_3) := (blk_cell BK367.out 3).trans rfl
                  have hcz20_4 : wc.cell? ⟨gb367, 4, none⟩ = some (.int .u32 a0_4) := (blk_cell BK367.out 4).trans rfl
                  have hfz20_0 := blk_frozen BK367.out 0
                  have hfz20_1 := blk_frozen BK367.out 1
                  have hfz20_2 := blk_frozen BK367.out 2
                  have hfz20_3 := blk_frozen BK367.out 3
                  have hfz20_4 := blk_frozen BK367.out 4
                  go_wp2_with (first | ((with_reducible refine gate_callee (f := 29) rfl ?_); refine goesL_ (some 25) rfl rfl Try.func29 (by kernel_rfl) rfl #[.int .u32 a0_0] rfl (by (try simp only [List.map_toArray, List.map_cons, List.map_nil]); first | done | rfl | (simp only [List.length_drop, List.length_take]; rfl)) ?_; (with_reducible refine (crossroadsref01_Four.calls a0_0 t370 _ A13.out).mono ?_); rintro e w21 ⟨v371, rfl, ho0, hb⟩; refine ⟨_, rfl, ?_⟩; have n0_ := Aside0.mk (Kd.R_lower ho0 (below_size (by repeat (first | (with_reducible first | exact HB.out | apply below_alloc | apply pw_below_drewN | apply below_drew1 | refine below_set ?_ GE367.out) | exact HB.out)))); have n1_ := Aside0.mk (blk_below (g := gb367) (o := .cells #[.int .u32 a0_0, .bool a0_1, .int .i64 a0_2, .int .u32 a0_3, .int .u32 a0_4] 59 (0, 0)) (by (with_reducible repeat (first | refine blk_drewN ?_ _ | refine blk_drew ?_ | refine blk_alloc ?_ _)); exact BK367.out) hb); have n2_ := Aside0.mk (below_step (by repeat (first | (with_reducible first | exact HB.out | apply below_alloc | apply pw_below_drewN | apply below_drew1 | refine below_set ?_ GE367.out) | exact HB.out)) hb); clear BK367; clear HB; have HO372 := n0_; have BK367 := n1_; have HB := n2_; clear n0_ n1_ n2_; (try clear hb); (try clear hb2); (try clear hk); (try clear hi); (try clear ho0)) | ((with_reducible refine gate_callee (f := 29) rfl ?_); refine goesL_ (some 27) rfl rfl Try.func29 (by kernel_rfl) rfl #[.int .u32 x4_9] rfl (by (try simp only [List.map_toArray, List.map_cons, List.map_nil]); first | done | rfl | (simp only [List.length_drop, List.length_take]; rfl)) ?_; (with_reducible refine (crossroadsref01_Four.calls x4_9 t373 _ A14.out).mono ?_); rintro e w22 ⟨v374, rfl, ho0, hb⟩; refine ⟨_, rfl, ?_⟩; have n0_ := Aside0.mk (Kd.R_elder' (by (with_reducible repeat (first | apply Kd.R_alloc | apply Kd.R_drewN | apply Kd.R_drew)); exact HO372.out) (Kd.R_base ho0) hb); have n1_ := Aside0.mk (Kd.R_lower (Kd.R_new' ho0 (Kd.R_lt (by (with_reducible repeat (first | apply Kd.R_alloc | apply Kd.R_drewN | apply Kd.R_drew)); exact HO372.out))) (below_size (by repeat (first | (with_reducible first | exact HB.out | apply below_alloc | apply pw_below_drewN | apply below_drew1 | refine below_set ?_ GE367.out) | exact HB.out)))); have n2_ := Aside0.mk (blk_below (g := gb367) (o := .cells #[.int .u32 a0_0, .bool a0_1, .int .i64 a0_2, .int .u32 a0_3, .int .u32 a0_4] 59 (0, 0)) (by (with_reducible repeat (first | refine blk_drewN ?_ _ | refine blk_drew ?_ | refine blk_alloc ?_ _)); exact BK367.out) hb); have n3_ := Aside0.mk (below_step (by repeat (first | (with_reducible first | exact HB.out | apply below_alloc | apply pw_below_drewN | apply below_drew1 | refine below_set ?_ GE367.out) | exact HB.out)) hb); clear HO372; clear BK367; clear HB; have HO372 := n0_; have HO375 := n1_; have BK367 := n2_; have HB := n3_; clear n0_ n1_ n2_ n3_; (try clear hb); (try clear hb2); (try clear hk); (try clear hi); (try clear ho0); obtain ⟨Ao24, co24, eo24⟩ := Kd.R_slice HO375.out; subst eo24) | ((with_reducible refine gate_builtin (b := .append) (xs := #[.tmp 25, .tmp 27]) rfl ?_); at_builtin; refine Kd.R_append_rows (Kd.int .u8) (w0 := w) w.heap.size rfl (.tmp 25) (.tmp 27) 25 5 (.int .u8 0) 1 rfl Try.underlying25 info5 rfl (by decide) (by omega) v371 t370 t373 _ _ _ (fun k_ => some k_ ≠ (.slice Ao24 t373.length co24 : Value).ownBlock) (fun _ => False) rfl rfl ?aO ?aR (fun _ _ h => h) (fun _ h => h.elim) ?aF ?aB ?aS ?aL ?_; (case aR => repeat (first | exact (Kd.R_reads' HO375.out).2.2 | (with_reducible refine Kd.C_alloc ?_ _) | (with_reducible refine Kd.C_drewN ?_ _) | (with_reducible refine Kd.C_drew ?_))); (case aB => exact (by repeat (first | (with_reducible first | exact HB.out | apply below_alloc | apply pw_below_drewN | apply below_drew1 | refine below_set ?_ GE367.out) | exact HB.out))); (case aF => exact (fun k_ hk => Kd.fresh' (Kd.R_lt (by (with_reducible repeat (first | apply Kd.R_alloc | apply Kd.R_drewN | apply Kd.R_drew)); exact HO375.out)) k_ hk)); (case aO => exact (by (with_reducible repeat (first | apply Kd.R_alloc | apply Kd.R_drewN | apply Kd.R_drew)); exact Kd.R_mono HO372.out (fun _ hk => hk.2))); (case aS => exact (below_size (by repeat (first | (with_reducible first | exact HB.out | apply below_alloc | apply pw_below_drewN | apply below_drew1 | refine below_set ?_ GE367.out) | exact HB.out)))); (case aL => have := LMc15.out; omega); intro v377 w23 ho hb hg hat; rw [← Ny376.out] at ho; have n0_ := Aside0.mk (blk_grown (g := gb367) (o := .cells #[.int .u32 a0_0, .bool a0_1, .int .i64 a0_2, .int .u32 a0_3, .int .u32 a0_4] 59 (0, 0)) (by (with_reducible repeat (first | refine blk_drewN ?_ _ | refine blk_drew ?_ | refine blk_alloc ?_ _)); exact BK367.out) hg (Kd.R_ne HO372.out BK367.out (by decide))); have n1_ := Aside0.mk (Kd.R_after (ok := (fun _ => True)) (by (with_reducible repeat (first | apply Kd.R_alloc | apply Kd.R_drewN | apply Kd.R_drew)); exact HO375.out) hg hat); have n2_ := Aside0.mk (hb); have n3_ := Aside0.mk (ho); clear BK367; clear HO375; clear HB; clear HO372; have BK367 := n0_; have HO375 := n1_; have HB := n2_; have HO378 := n3_; clear n0_ n1_ n2_ n3_; clear ho hb hg hat; have hcz25_0 : w23.cell? ⟨gb367, 0, none⟩ = some (.int .u32 a0_0) := (blk_cell BK367.out 0).trans rfl; have hcz25_1 : w23.cell? ⟨gb367, 1, none⟩ = some (.bool a0_1) := (blk_cell BK367.out 1).trans rfl; have hcz25_2 : w23.cell? ⟨gb367, 2, none⟩ = some (.int .i64 a0_2) := (blk_cell BK367.out 2).trans rfl; have hcz25_3 : w23.cell? ⟨gb367, 3, none⟩ = some (.int .u32 a0_3) := (blk_cell BK367.out 3).trans rfl; have hcz25_4 : w23.cell? ⟨gb367, 4, none⟩ = some (.int .u32 a0_4) := (blk_cell BK367.out 4).trans rfl; have hfz25_0 := blk_frozen BK367.out 0; have hfz25_1 := blk_frozen BK367.out 1; have hfz25_2 := blk_frozen BK367.out 2; have hfz25_3 := blk_frozen BK367.out 3; have hfz25_4 := blk_frozen BK367.out 4) | ((with_reducible refine gate_callee (f := 29) rfl ?_); refine goesL_ (some 32) rfl rfl Try.func29 (by kernel_rfl) rfl #[.int .u32 a0_3] rfl (by (try simp only [List.map_toArray, List.map_cons, List.map_nil]); first | done | rfl | (simp only [List.length_drop, List.length_take]; rfl)) ?_; (with_reducible refine (crossroadsref01_Four.calls a0_3 t379 _ A16.out).mono ?_); rintro e w26 ⟨v380, rfl, ho0, hb⟩; refine ⟨_, rfl, ?_⟩; have n0_ := Aside0.mk (Kd.R_elder' (by (with_reducible repeat (first | apply Kd.R_alloc | apply Kd.R_drewN | apply Kd.R_drew)); exact HO375.out) (Kd.R_base ho0) hb); have n1_ := Aside0.mk (Kd.R_elder' (by (with_reducible repeat (first | apply Kd.R_alloc | apply Kd.R_drewN | apply Kd.R_drew)); exact HO378.out) (Kd.R_base ho0) hb); have n2_ := Aside0.mk (Kd.R_lower (Kd.R_new' (Kd.R_new' ho0 (Kd.R_lt (by (with_reducible repeat (first | apply Kd.R_alloc | apply Kd.R_drewN | apply Kd.R_drew)); exact HO375.out))) (Kd.R_lt (by (with_reducible repeat (first | apply Kd.R_alloc | apply Kd.R_drewN | apply Kd.R_drew)); exact HO378.out))) (below_size (by repeat (first | (with_reducible first | exact HB.out | apply below_alloc | apply pw_below_drewN | apply below_drew1 | refine below_set ?_ GE367.out) | exact HB.out)))); have n3_ := Aside0.mk (blk_below (g := gb367) (o := .cells #[.int .u32 a0_0, .bool a0_1, .int .i64 a0_2, .int .u32 a0_3, .int .u32 a0_4] 59 (0, 0)) (by (with_reducible repeat (first | refine blk_drewN ?_ _ | refine blk_drew ?_ | refine blk_alloc ?_ _)); exact BK367.out) hb); have n4_ := Aside0.mk (below_step (by repeat (first | (with_reducible first | exact HB.out | apply below_alloc | apply pw_below_drewN | apply below_drew1 | refine below_set ?_ GE367.out) | exact HB.out)) hb); clear HO375; clear HO378; clear BK367; clear HB; have HO375 := n0_; have HO378 := n1_; have HO381 := n2_; have BK367 := n3_; have HB := n4_; clear n0_ n1_ n2_ n3_ n4_; (try clear hb); (try clear hb2); (try clear hk); (try clear hi); (try clear ho0); obtain ⟨Ao28, co28, eo28⟩ := Kd.R_slice HO381.out; subst eo28) | ((with_reducible refine gate_builtin (b := .append) (xs := #[.tmp 29, .tmp 32]) rfl ?_); at_builtin; refine Kd.R_append_rows (Kd.int .u8) (w0 := w) w.heap.size rfl (.tmp 29) (.tmp 32) 25 5 (.int .u8 0) 1 rfl Try.underlying25 info5 rfl (by decide) (by omega) v377 y376 t379 _ _ _ (fun k_ => some k_ ≠ (.slice Ao24 t373.length co24 : Value).ownBlock ∧ some k_ ≠ (.slice Ao28 t379.length co28 : Value).ownBlock) (fun _ => False) rfl rfl ?aO ?aR (fun _ _ h => h) (fun _ h => h.elim) ?aF ?aB ?aS ?aL ?_; (case aR => repeat (first | exact (Kd.R_reads' HO381.out).2.2 | (with_reducible refine Kd.C_alloc ?_ _) | (with_reducible refine Kd.C_drewN ?_ _) | (with_reducible refine Kd.C_drew ?_))); (case aB => exact (by repeat (first | (with_reducible first | exact HB.out | apply below_alloc | apply pw_below_drewN | apply below_drew1 | refine below_set ?_ GE367.out) | exact HB.out))); (case aF => exact (fun k_ hk => ⟨Kd.fresh' (Kd.R_lt (by (with_reducible repeat (first | apply Kd.R_alloc | apply Kd.R_drewN | apply Kd.R_drew)); exact HO375.out)) k_ hk, Kd.fresh' (Kd.R_lt (by (with_reducible repeat (first | apply Kd.R_alloc | apply Kd.R_drewN | apply Kd.R_drew)); exact HO381.out)) k_ hk⟩)); (case aO => exact (by (with_reducible repeat (first | apply Kd.R_alloc | apply Kd.R_drewN | apply Kd.R_drew)); exact HO378.out)); (case aS => exact (below_size (by repeat (first | (with_reducible first | exact HB.out | apply below_alloc | apply pw_below_drewN | apply below_drew1 | refine below_set ?_ GE367.out) | exact HB.out)))); (case aL => have := LMc17.out; omega); intro v383 w27 ho hb hg hat; rw [← Ny382.out] at ho; have n0_ := Aside0.mk (blk_grown (g := gb367) (o := .cells #[.int .u32 a0_0, .bool a0_1, .int .i64 a0_2, .int .u32 a0_3, .int .u32 a0_4] 59 (0, 0)) (by (with_reducible repeat (first | refine blk_drewN ?_ _ | refine blk_drew ?_ | refine blk_alloc ?_ _)); exact BK367.out) hg (Kd.R_ne HO378.out BK367.out (by decide))); have n1_ := Aside0.mk (Kd.R_after (ok := (fun k_ => some k_ ≠ (.slice Ao28 t379.length co28 : Value).ownBlock)) (by (with_reducible repeat (first | apply Kd.R_alloc | apply Kd.R_drewN | apply Kd.R_drew)); exact Kd.R_mono HO375.out (fun _ hk => ⟨hk.2, hk.1.2⟩)) hg hat); have n2_ := Aside0.mk (Kd.R_after (ok := (fun k_ => some k_ ≠ (.slice Ao24 t373.length co24 : Value).ownBlock)) (by (with_reducible repeat (first | apply Kd.R_alloc | apply Kd.R_drewN | apply Kd.R_drew)); exact Kd.R_mono HO381.out (fun _ hk => ⟨hk.1.2, hk.2⟩)) hg hat); have n3_ := Aside0.mk (hb); have n4_ := Aside0.mk (ho); clear BK367; clear HO375; clear HO381; clear HB; clear HO378; have BK367 := n0_; have HO375 := n1_; have HO381 := n2_; have HB := n3_; have HO384 := n4_; clear n0_ n1_ n2_ n3_ n4_; clear ho hb hg hat; have hcz29_0 : w27.cell? ⟨gb367, 0, none⟩ = some (.int .u32 a0_0) := (blk_cell BK367.out 0).trans rfl; have hcz29_1 : w27.cell? ⟨gb367, 1, none⟩ = some (.bool a0_1) := (blk_cell BK367.out 1).trans rfl; have hcz29_2 : w27.cell? ⟨gb367, 2, none⟩ = some (.int .i64 a0_2) := (blk_cell BK367.out 2).trans rfl; have hcz29_3 : w27.cell? ⟨gb367, 3, none⟩ = some (.int .u32 a0_3) := (blk_cell BK367.out 3).trans rfl; have hcz29_4 : w27.cell? ⟨gb367, 4, none⟩ = some (.int .u32 a0_4) := (blk_cell BK367.out 4).trans rfl; have hfz29_0 := blk_frozen BK367.out 0; have hfz29_1 := blk_frozen BK367.out 1; have hfz29_2 := blk_frozen BK367.out 2; have hfz29_3 := blk_frozen BK367.out 3; have hfz29_4 := blk_frozen BK367.out 4) | ((with_reducible refine gate_callee (f := 29) rfl ?_); refine goesL_ (some 37) rfl rfl Try.func29 (by kernel_rfl) rfl #[.int .u32 a0_4] rfl (by (try simp only [List.map_toArray, List.map_cons, List.map_nil]); first | done | rfl | (simp only [List.length_drop, List.length_take]; rfl)) ?_; (with_reducible refine (crossroadsref01_Four.calls a0_4 t385 _ A18.out).mono ?_); rintro e w30 ⟨v386, rfl, ho0, hb⟩; refine ⟨_, rfl, ?_⟩; have n0_ := Aside0.mk (Kd.R_elder' (by (with_reducible repeat (first | apply Kd.R_alloc | apply Kd.R_drewN | apply Kd.R_drew)); exact HO375.out) (Kd.R_base ho0) hb); have n1_ := Aside0.mk (Kd.R_elder' (by (with_reducible repeat (first | apply Kd.R_alloc | apply Kd.R_drewN | apply Kd.R_drew)); exact HO381.out) (Kd.R_base ho0) hb); have n2_ := Aside0.mk (Kd.R_elder' (by (with_reducible repeat (first | apply Kd.R_alloc | apply Kd.R_drewN | apply Kd.R_drew)); exact HO384.out) (Kd.R_base ho0) hb); have n3_ := Aside0.mk (Kd.R_lower (Kd.R_new' (Kd.R_new' (Kd.R_new' ho0 (Kd.R_lt (by (with_reducible repeat (first | apply Kd.R_alloc | apply Kd.R_drewN | apply Kd.R_drew)); exact HO375.out))) (Kd.R_lt (by (with_reducible repeat (first | apply Kd.R_alloc | apply Kd.R_drewN | apply Kd.R_drew)); exact HO381.out))) (Kd.R_lt (by (with_reducible repeat (first | apply Kd.R_alloc | apply Kd.R_drewN | apply Kd.R_drew)); exact HO384.out))) (below_size (by repeat (first | (with_reducible first | exact HB.out | apply below_alloc | apply pw_below_drewN | apply below_drew1 | refine below_set ?_ GE367.out) | exact HB.out)))); have n4_ := Aside0.mk (blk_below (g := gb367) (o := .cells #[.int .u32 a0_0, .bool a0_1, .int .i64 a0_2, .int .u32 a0_3, .int .u32 a0_4] 59 (0, 0)) (by (with_reducible repeat (first | refine blk_drewN ?_ _ | refine blk_drew ?_ | refine blk_alloc ?_ _)); exact BK367.out) hb); have n5_ := Aside0.mk (below_step (by repeat (first | (with_reducible first | exact HB.out | apply below_alloc | apply pw_below_drewN | apply below_drew1 | refine below_set ?_ GE367.out) | exact HB.out)) hb); clear HO375; clear HO381; clear HO384; clear BK367; clear HB; have HO375 := n0_; have HO381 := n1_; have HO384 := n2_; have HO387 := n3_; have BK367 := n4_; have HB := n5_; clear n0_ n1_ n2_ n3_ n4_ n5_; (try clear hb); (try clear hb2); (try clear hk); (try clear hi); (try clear ho0); obtain ⟨Ao32, co32, eo32⟩ := Kd.R_slice HO387.out; subst eo32) | ((with_reducible refine gate_builtin (b := .append) (xs := #[.tmp 34, .tmp 37]) rfl ?_); at_builtin; refine Kd.R_append_rows (Kd.int .u8) (w0 := w) w.heap.size rfl (.tmp 34) (.tmp 37) 25 5 (.int .u8 0) 1 rfl Try.underlying25 info5 rfl (by decide) (by omega) v383 y382 t385 _ _ _ (fun k_ => some k_ ≠ (.slice Ao24 t373.length co24 : Value).ownBlock ∧ some k_ ≠ (.slice Ao28 t379.length co28 : Value).ownBlock ∧ some k_ ≠ (.slice Ao32 t385.length co32 : Value).ownBlock) (fun _ => False) rfl rfl ?aO ?aR (fun _ _ h => h) (fun _ h => h.elim) ?aF ?aB ?aS ?aL ?_; (case aR => repeat (first | exact (Kd.R_reads' HO387.out).2.2 | (with_reducible refine Kd.C_alloc ?_ _) | (with_reducible refine Kd.C_drewN ?_ _) | (with_reducible refine Kd.C_drew ?_))); (case aB => exact (by repeat (first | (with_reducible first | exact HB.out | apply below_alloc | apply pw_below_drewN | apply below_drew1 | refine below_set ?_ GE367.out) | exact HB.out))); (case aF => exact (fun k_ hk => ⟨Kd.fresh' (Kd.R_lt (by (with_reducible repeat (first | apply Kd.R_alloc | apply Kd.R_drewN | apply Kd.R_drew)); exact HO375.out)) k_ hk, Kd.fresh' (Kd.R_lt (by (with_reducible repeat (first | apply Kd.R_alloc | apply Kd.R_drewN | apply Kd.R_drew)); exact HO381.out)) k_ hk, Kd.fresh' (Kd.R_lt (by (with_reducible repeat (first | apply Kd.R_alloc | apply Kd.R_drewN | apply Kd.R_drew)); exact HO387.out)) k_ hk⟩)); (case aO => exact (by (with_reducible repeat (first | apply Kd.R_alloc | apply Kd.R_drewN | apply Kd.R_drew)); exact Kd.R_mono HO384.out (fun _ hk => ⟨hk.1.1, ⟨hk.1.2, hk.2⟩⟩))); (case aS => exact (below_size (by repeat (first | (with_reducible first | exact HB.out | apply below_alloc | apply pw_below_drewN | apply below_drew1 | refine below_set ?_ GE367.out) | exact HB.out)))); (case aL => have := LMc19.out; omega); intro v389 w31 ho hb hg hat; rw [← Ny388.out] at ho; have n0_ := Aside0.mk (blk_grown (g := gb367) (o := .cells #[.int .u32 a0_0, .bool a0_1, .int .i64 a0_2, .int .u32 a0_3, .int .u32 a0_4] 59 (0, 0)) (by (with_reducible repeat (first | refine blk_drewN ?_ _ | refine blk_drew ?_ | refine blk_alloc ?_ _)); exact BK367.out) hg (Kd.R_ne HO384.out BK367.out (by decide))); have n1_ := Aside0.mk (Kd.R_after (ok := (fun k_ => some k_ ≠ (.slice Ao28 t379.length co28 : Value).ownBlock ∧ some k_ ≠ (.slice Ao32 t385.length co32 : Value).ownBlock)) (by (with_reducible repeat (first | apply Kd.R_alloc | apply Kd.R_drewN | apply Kd.R_drew)); exact Kd.R_mono HO375.out (fun _ hk => ⟨⟨hk.1.1, hk.2⟩, hk.1.2⟩)) hg hat); have n2_ := Aside0.mk (Kd.R_after (ok := (fun k_ => some k_ ≠ (.slice Ao24 t373.length co24 : Value).ownBlock ∧ some k_ ≠ (.slice Ao32 t385.length co32 : Value).ownBlock)) (by (with_reducible repeat (first | apply Kd.R_alloc | apply Kd.R_drewN | apply Kd.R_drew)); exact Kd.R_mono HO381.out (fun _ hk => ⟨⟨hk.1.1, hk.2⟩, hk.1.2⟩)) hg hat); have n3_ := Aside0.mk (Kd.R_after (ok := (fun k_ => some k_ ≠ (.slice Ao24 t373.length co24 : Value).ownBlock ∧ some k_ ≠ (.slice Ao28 t379.length co28 : Value).ownBlock)) (by (with_reducible repeat (first | apply Kd.R_alloc | apply Kd.R_drewN | apply Kd.R_drew)); exact Kd.R_mono HO387.out (fun _ hk => ⟨⟨hk.1.1.2, hk.1.2⟩, hk.2⟩)) hg hat); have n4_ := Aside0.mk (hb); have n5_ := Aside0.mk (ho); clear BK367; clear HO375; clear HO381; clear HO387; clear HB; clear HO384; have BK367 := n0_; have HO375 := n1_; have HO381 := n2_; have HO387 := n3_; have HB := n4_; have HO390 := n5_; clear n0_ n1_ n2_ n3_ n4_ n5_; clear ho hb hg hat))
                  go_ret2
                  exact ⟨_, by first | rfl | (simp [errW_none, errW_some] <;> rfl) | (simp [*, errW_none, errW_some] <;> rfl), by (with_reducible repeat (first | apply Kd.R_alloc | apply Kd.R_drewN | apply Kd.R_drew)); exact Kd.R_mono HO390.out (fun _ hk => trivial), by repeat (first | (with_reducible first | exact HB.out | apply below_alloc | apply pw_below_drewN | apply below_drew1 | refine below_set ?_ GE367.out) | exact HB.out)⟩
                · rw [if_neg c19] at H
                  exact absurd H (by simp)
              · rw [if_neg c17] at H
                exact absurd H (by simp)
            · rw [if_neg c15] at H
              exact absurd H (by simp)

end Go.Proofs.Ytdlgikajkljdeaa.PBd
