/- Every law of octet's chapter, as plain statements: OctetPut, OctetRows, OctetTake, OctetBack, OctetCuts. -/
import Derived.Test.YtdclgppcemjcdaaLOct2
namespace Go.Proofs.Ytdclgppcemjcdaa.POct
open Go.RowKit Go.Proofs.YtdclgppcemjcdaaW.PrintWords Go.Proofs.YtdclgppcemjcdaaW.PrintLast Go.Proofs.YtdclgppcemjcdaaW.PrintMore Go.Proofs.Ytdclgppcemjcdaa.Aid

theorem alive_ev : Ev (fun k => crossroadslaw01_alive.f k) true := Ev.of crossroadslaw01_alive.mono (k := 12) (by decide +kernel)

theorem lawPut_l0 (l0 p : List Int) (e : Int) (hp : p.length ≤ 9223372036854775807) : ∀ (j i : Nat) (x8 : List Int), i + j = p.length → x8.length = p.length → (∀ t : Nat, i ≤ t → rd x8 t = rd p t) →
    Ev (fun k => crossroadslaw01_OctetPut.l0 k l0 l0 x8 e p e (i : Int)) true := by
  intro j
  induction j with
  | zero =>
    intro i x8 hi hx _
    refine Ev.step (f := fun k => ((crossroadslaw01_alive.f k).bind fun t174 => (if t174 = true then some true else some false))) (fun k => ?_) (Ev.bind0 alive_ev (by simp))
    simp only [crossroadslaw01_OctetPut.l0]
    rw [if_neg (by omega)]
    congr 1
    funext t
    by_cases ht : t = true
    · simp [ht, hx]
    · simp [ht]
  | succ j ih =>
    intro i x8 hi hx hr
    refine Ev.step (f := fun k => crossroadslaw01_OctetPut.l0 k l0 l0 (x8.set i 3) e p e ((i + 1 : Nat) : Int)) (fun k => ?_) (ih (i + 1) (x8.set i 3) (by omega) (by simpa using hx) ?_)
    · simp only [crossroadslaw01_OctetPut.l0]
      rw [if_pos (by omega), if_neg (by omega), if_pos (by omega), if_pos (by omega), if_pos (hr i (Nat.le_refl _)), w64 (by omega)]
      rfl
    · intro t ht
      rw [← hr t (by omega)]
      simp only [rd, Int.toNat_natCast, List.getD_eq_getElem?_getD]
      rw [List.getElem?_set_ne (by omega)]
theorem OctetPut_pure : crossroadslaw01_OctetPut.Pure := by
  intro l0 n m _ _ hb hn hm
  refine Ev.rounds ?_
  have hn := wf_u32 hn
  unfold crossroadslaw01_OctetPut.f
  by_cases h : (l0.length : Int) > 300
  · simp only [if_pos h]
    exact Ev.bind0 alive_ev rfl
  · simp only [if_neg h, Option.bind_some, List.length_nil, List.nil_append]
    simp only [show 0 + l0.length < 140737488355328 by omega, if_true]
    refine Ev.bind (f := fun k (bt : List Int × Int) => (crossroadsref01_Put.f k l0 n m).bind fun bt167 => (crossroadslaw01_OctetPut.l0 k l0 l0 bt.1 bt.2 bt167.1 bt167.2 0)) (put_ev l0 n m hn (by omega)) ?_
    refine Ev.bind (f := fun k (bt167 : List Int × Int) => (crossroadslaw01_OctetPut.l0 k l0 l0 (put l0 n m).1 (put l0 n m).2 bt167.1 bt167.2 0)) (rput_ev l0 n m hn (by omega)) ?_
    have hl := put_length l0 n m
    exact lawPut_l0 l0 (put l0 n m).1 (put l0 n m).2 (by omega) _ 0 _ (Nat.zero_add _) rfl (fun _ _ => rfl)

theorem OctetRows_pure : crossroadslaw01_OctetRows.Pure := by
  intro l b m _ _ hl _ _ hb _
  refine Ev.rounds ?_
  have hl : ∀ x ∈ l, 0 ≤ x ∧ x < 4294967296 := fun x hx => wf_u32 (hl x hx)
  have hb : ∀ x ∈ b, 0 ≤ x ∧ x ≤ 255 := fun x hx => wf_u8 (hb x hx)
  have hdead : Ev (fun k => crossroadslaw01_OctetRows.j0 k l b m true) true := by
    refine Ev.step (f := fun k => (crossroadslaw01_alive.f k).bind fun t213 => (some t213)) (fun k => ?_) (Ev.bind0 alive_ev rfl)
    simp only [crossroadslaw01_OctetRows.j0]
    rw [if_pos trivial]
  unfold crossroadslaw01_OctetRows.f
  by_cases h : (l.length : Int) > 100
  · simp only [if_pos h]
    exact hdead
  · simp only [if_neg h]
    by_cases h2 : (b.length : Int) > 300
    · simp only [h2, decide_true]
      exact hdead
    · simp only [h2, decide_false]
      refine Ev.step (f := fun k => ((octet_Row.f k l m).bind fun bt214 => ((crossroadsref01_Row.f k l m).bind fun bt218 => ((octet_Rows.f k b m).bind fun bt222 => ((crossroadsref01_Rows.f k b m).bind fun bt226 => ((crossroadslaw01_alive.f k).bind fun t230 => (if t230 = true then (if (strOfNums bt214.1).toList = (strOfNums bt218.1).toList then (if bt214.2 = bt218.2 then ((crossroadsref01_Same.f k bt222.1 bt226.1).bind fun t231 => (if t231 = true then (some (bt222.2 == bt226.2)) else (some false))) else (some false)) else (some false)) else (some false)))))))) (fun k => ?_) ?_
      · simp only [crossroadslaw01_OctetRows.j0]
        rw [if_neg (by simp)]
      refine Ev.bind (row_ev l m hl (by omega)) ?_
      refine Ev.bind (rrow_ev l m hl (by omega)) ?_
      refine Ev.bind (rows_ev b m hb (by omega)) ?_
      refine Ev.bind (rrows_ev b m hb (by omega)) ?_
      refine Ev.bind alive_ev ?_
      simp only [if_true]
      have hlen : (rows b m).1.length ≤ 9223372036854775807 := by
        unfold rows
        split
        · simp
        · split
          · have := Nat.div_le_self b.length m.toNat
            simp [chunks_length]; omega
          · simp
      exact Ev.bind0 (same_ev _ hlen) (by simp)
theorem lawTake_l1 (l0 : List Int) : ∀ (j i : Nat) (x12 : List Int), i + j = x12.length → x12.length ≤ 9223372036854775807 →
    Ev (fun k => crossroadslaw01_OctetTake.l1 k l0 l0 x12 true (i : Int)) true := by
  intro j
  induction j with
  | zero =>
    intro i x12 hi hx
    refine Ev.step (f := fun k => ((crossroadslaw01_alive.f k).bind fun t296 => (if t296 = true then some true else some false))) (fun k => ?_) (Ev.bind0 alive_ev (by simp))
    simp only [crossroadslaw01_OctetTake.l1]
    rw [if_neg (by omega)]
    congr 1
    funext t
    by_cases ht : t = true <;> simp [ht]
  | succ j ih =>
    intro i x12 hi hx
    refine Ev.step (f := fun k => crossroadslaw01_OctetTake.l1 k l0 l0 (x12.set i 2) true ((i + 1 : Nat) : Int)) (fun k => ?_) (ih (i + 1) _ (by simp; omega) (by simpa using hx))
    simp only [crossroadslaw01_OctetTake.l1]
    rw [if_pos (by omega), if_pos (by omega), w64 (by omega)]
    rfl
theorem lawTake_l0 (l0 x12 : List Int) (hx12 : x12.length ≤ 9223372036854775807) : ∀ (j i : Nat) (x7 : List Int), i + j = x7.length → x7.length ≤ 9223372036854775807 →
    Ev (fun k => crossroadslaw01_OctetTake.l0 k l0 l0 x7 x12 true (i : Int)) true := by
  intro j
  induction j with
  | zero =>
    intro i x7 hi hx
    refine Ev.step (f := fun k => crossroadslaw01_OctetTake.l1 k l0 l0 x12 true 0) (fun k => ?_) (by simpa using lawTake_l1 l0 x12.length 0 x12 (by omega) hx12)
    simp only [crossroadslaw01_OctetTake.l0]
    rw [if_neg (by omega)]
  | succ j ih =>
    intro i x7 hi hx
    refine Ev.step (f := fun k => crossroadslaw01_OctetTake.l0 k l0 l0 (x7.set i 1) x12 true ((i + 1 : Nat) : Int)) (fun k => ?_) (ih (i + 1) _ (by simp; omega) (by simpa using hx))
    simp only [crossroadslaw01_OctetTake.l0]
    rw [if_pos (by omega), if_pos (by omega), w64 (by omega)]
    rfl
theorem OctetTake_pure : crossroadslaw01_OctetTake.Pure := by
  intro l m _ _ hb hm
  refine Ev.rounds ?_
  have hb : ∀ x ∈ l, 0 ≤ x ∧ x ≤ 255 := fun x hx => wf_u8 (hb x hx)
  unfold crossroadslaw01_OctetTake.f
  by_cases h : (l.length : Int) > 300
  · simp only [if_pos h]
    exact Ev.bind0 alive_ev rfl
  · simp only [if_neg h, Option.bind_some, List.length_nil, List.nil_append]
    simp only [show 0 + l.length < 140737488355328 by omega, if_true]
    refine Ev.bind (take_ev l m hb (by omega)) ?_
    refine Ev.bind (rtake_ev l m hb (by omega)) ?_
    rw [cut_eq l m (by omega), rcut_eq l m (by omega)]
    simp only [Option.bind_some, if_true, beq_self_eq_true]
    have h1 : (take l m).2.1.length ≤ 9223372036854775807 := by
      unfold take
      split
      · simp
      · split <;> simp; omega
    have h2 : (cut l m).1.length ≤ 9223372036854775807 := by
      unfold cut
      split
      · simp
      · split <;> simp; omega
    refine Ev.step (f := fun k => crossroadslaw01_OctetTake.l0 k l l (take l m).2.1 (cut l m).1 true 0) (fun k => ?_) (by simpa using lawTake_l0 l _ h2 _ 0 (take l m).2.1 (Nat.zero_add _) h1)
    simp only [crossroadslaw01_OctetTake.j0]
theorem OctetBack_pure : crossroadslaw01_OctetBack.Pure := by
  intro l n m _ _ hb hn hm
  refine Ev.rounds ?_
  have hb : ∀ x ∈ l, 0 ≤ x ∧ x ≤ 255 := fun x hx => wf_u8 (hb x hx)
  have hn := wf_u32 hn
  unfold crossroadslaw01_OctetBack.f
  by_cases h : (l.length : Int) > 300
  · simp only [if_pos h]
    exact Ev.bind0 alive_ev rfl
  · simp only [if_neg h]
    refine Ev.bind (put_ev [] n m hn (by simp)) ?_
    by_cases h0 : m < 1 ∨ m > 4
    · have hp : put [] n m = ([], 1) := by unfold put; rw [if_pos h0]
      rw [hp]
      refine Ev.bind0 alive_ev ?_
      rcases h0 with h0 | h0
      · simp [h0]
      · simp [show ¬ m < 1 by omega, h0]
    · by_cases h1 : n / 256 ^ m.toNat > 0
      · have hp : put [] n m = ([], 5) := by unfold put; rw [if_neg h0, if_pos h1]
        rw [hp]
        refine Ev.bind0 alive_ev ?_
        simp [show ¬ m < 1 by omega]; omega
      · have hp : put [] n m = (be n m.toNat, 0) := by unfold put; rw [if_neg h0, if_neg h1]; simp
        rw [hp]
        obtain ⟨mm, rfl⟩ := Int.eq_ofNat_of_zero_le (show 0 ≤ m by omega)
        simp only [Int.toNat_natCast] at h1 ⊢
        have hbl := be_length n mm
        have hnb := num_be n mm (by omega) hn.1 (by omega)
        simp only [if_true, Option.bind_some, List.length_nil, List.nil_append]
        simp only [show 0 + (be n mm).length < 140737488355328 by omega, show (be n mm).length + l.length < 140737488355328 by omega, if_true]
        have hall : ∀ x ∈ be n mm ++ l, 0 ≤ x ∧ x ≤ 255 := by
          intro x hx
          rcases List.mem_append.1 hx with hx | hx
          · exact be_mem n mm x hx
          · exact hb x hx
        have ht : take (be n mm ++ l) (mm : Int) = (n, l, 0) := by
          unfold take
          rw [if_neg h0, if_neg (by simp; omega)]
          simp only [Int.toNat_natCast]
          rw [List.take_left' hbl, List.drop_left' hbl, hnb]
        have hr : rows (be n mm) (mm : Int) = ([n], 0) := by
          unfold rows
          rw [if_neg h0, if_pos (by rw [hbl]; exact Int.emod_self)]
          simp only [Int.toNat_natCast, hbl]
          rw [Nat.div_self (by omega)]
          simp only [chunks]
          rw [List.take_of_length_le (by omega), hnb]
        refine Ev.bind (take_ev _ _ hall (by simp; omega)) ?_
        refine Ev.bind (rows_ev _ _ (be_mem n mm) (by omega)) ?_
        rw [ht, hr]
        refine Ev.bind0 alive_ev ?_
        simp [hbl, rd]
theorem OctetCuts_pure : crossroadslaw01_OctetCuts.Pure := by
  intro b n l _ _ hb hn _ _ hl
  refine Ev.rounds ?_
  have hb : ∀ x ∈ b, 0 ≤ x ∧ x ≤ 255 := fun x hx => wf_u8 (hb x hx)
  have hl : ∀ x ∈ l, 0 ≤ x ∧ x < 4294967296 := fun x hx => wf_u32 (hl x hx)
  have hn := wf_i64 hn
  have hdead : Ev (fun k => crossroadslaw01_OctetCuts.j0 k b n l true) true := by
    refine Ev.step (f := fun k => (crossroadslaw01_alive.f k).bind fun t213 => (some t213)) (fun k => ?_) (Ev.bind0 alive_ev rfl)
    simp only [crossroadslaw01_OctetCuts.j0]
    rw [if_pos trivial]
  unfold crossroadslaw01_OctetCuts.f
  by_cases h : (b.length : Int) > 300
  · simp only [if_pos h]
    exact hdead
  · simp only [if_neg h]
    by_cases h2 : (l.length : Int) > 100
    · simp only [h2, decide_true]
      exact hdead
    · simp only [h2, decide_false]
      have hrow : row l 4 = (l.flatMap (be · 4), 0) := by
        unfold row
        rw [if_neg (by omega), rowN_four l [] hl]
        rfl
      have hrows : rows (l.flatMap (be · 4)) 4 = (l, 0) := by
        unfold rows
        rw [if_neg (by omega), if_pos (by rw [flat_length]; omega), flat_length]
        simp only [show (4 : Int).toNat = 4 from rfl]
        rw [Nat.mul_div_cancel_left _ (by omega), chunks_four l hl]
      have hsame := same_ev l (by omega)
      have hr1 := row_ev l 4 hl (by omega)
      have hr2 := rows_ev (l.flatMap (be · 4)) 4 (flat_mem l) (by rw [flat_length]; omega)
      rw [hrow] at hr1
      rw [hrows] at hr2
      have hc := cut_eq b n (by omega)
      refine Ev.step (f := fun k => ((octet_Cut.f b n).bind fun bt324 => ((octet_Row.f k l 4).bind fun bt331 => ((octet_Rows.f k bt331.1 4).bind fun bt335 => (if bt324.2.2 = 0 then ((crossroadslaw01_alive.f k).bind fun t339 => (if t339 = true then (if (bt324.1.length : Int) = n then (if (strOfNums bt324.1).size + (strOfNums bt324.2.1).size ≤ 9223372036854775807 then (if ((strOfNums bt324.1) ++ (strOfNums bt324.2.1)).toList = (strOfNums b).toList then (if bt331.2 = 0 then (if (bt331.1.length : Int) = (wrap64 (4 * (l.length : Int))) then (if bt335.2 = 0 then ((crossroadsref01_Same.f k bt335.1 l).bind fun t340 => (some t340)) else (some false)) else (some false)) else (some false)) else (some false)) else (none)) else (some false)) else (some false))) else ((crossroadslaw01_alive.f k).bind fun t341 => (if t341 = true then (if n < 0 then (some ((wrap64 ((bt324.1.length : Int) + (bt324.2.1.length : Int))) == 0)) else (if n > (b.length : Int) then (some ((wrap64 ((bt324.1.length : Int) + (bt324.2.1.length : Int))) == 0)) else (some false))) else (some false)))))))) (fun k => ?_) ?_
      · simp only [crossroadslaw01_OctetCuts.j0]
        rw [if_neg (by simp)]
      rw [hc]
      simp only [Option.bind_some]
      refine Ev.bind hr1 ?_
      refine Ev.bind hr2 ?_
      by_cases h3 : n < 0
      · have hcc : cut b n = ([], [], 1) := by unfold cut; rw [if_pos h3]
        rw [hcc]
        refine Ev.bind0 alive_ev ?_
        simp [h3, w64]
      · by_cases h4 : n > (b.length : Int)
        · have hcc : cut b n = ([], [], 2) := by unfold cut; rw [if_neg h3, if_pos h4]
          rw [hcc]
          refine Ev.bind0 alive_ev ?_
          simp [h3, h4, w64]
        · have hcc : cut b n = (b.take n.toNat, b.drop n.toNat, 0) := by unfold cut; rw [if_neg h3, if_neg h4]
          rw [hcc]
          simp only [if_true]
          refine Ev.bind alive_ev ?_
          have e1 : ((b.take n.toNat).length : Int) = n := by simp; omega
          have e2 : (strOfNums (b.take n.toNat)).size + (strOfNums (b.drop n.toNat)).size ≤ 9223372036854775807 := by simp [str_size]; omega
          have e3 : strOfNums (b.take n.toNat) ++ strOfNums (b.drop n.toNat) = strOfNums b := by rw [← str_append, List.take_append_drop]
          have e4 : ((l.flatMap (be · 4)).length : Int) = wrap64 (4 * (l.length : Int)) := by rw [flat_length, w64 (by omega)]; omega
          simp only [e1, e2, e3, e4, if_true]
          exact Ev.bind0 hsame rfl
end Go.Proofs.Ytdclgppcemjcdaa.POct
