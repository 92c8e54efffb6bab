/- Acknowledgements: the law. -/
import Derived.Test.YtmmkdalbcfjogaaLDb
import Derived.Test.YtmmkdalbcfjogaaFrc
set_option maxRecDepth 100000
set_option linter.unusedVariables false
set_option linter.unusedSimpArgs false
open Go Go.Proofs.Fr
namespace Go.Proofs.Ytmmkdalbcfjogaa.F
theorem aliveK : law13_alive.p () = some (true, ()) := by decide +kernel
def putAckR (l : List Hd) : List Int × Int × Unit := if l.all mayH = true ∧ 1 ≤ l.length ∧ l.length ≤ 70 then (headsB l, 0, ()) else ([], 1, ())
theorem putAck_eq (l : List Hd) (hu : ∀ h ∈ l, HdOk h) (hl : l.length ≤ 1000000) : dbd_PutAck.p (l, ()) = some (putAckR l) := by
  unfold dbd_PutAck.p putAckR
  simp only [dIn, bind_eq]
  by_cases h1 : 1 ≤ l.length ∧ l.length ≤ 70
  · rw [if_neg (by simp; omega), heads_eq [] l hu (by simp) hl]
    unfold headsR
    cases l.all mayH <;> simp [h1]
  · rw [if_pos (by simp; omega), if_neg (fun q => h1 q.2)]
theorem rputAck_eq (l : List Hd) (hu : ∀ h ∈ l, HdOk h) (hl : l.length ≤ 1000000) : ref13_PutAck.p (l, ()) = some (putAckR l) := by
  unfold ref13_PutAck.p putAckR
  simp only [rheads_eq l hu hl, bind_eq, jn_eq]
  cases l.all mayH with
  | false => rfl
  | true =>
    by_cases h1 : (l.length : Int) < 1
    · have e1 : ¬ 1 ≤ l.length := by omega
      simp only [h1, e1, decide_true, Bool.not_true, Bool.false_eq_true, if_false, if_true, false_and, and_false]
    · have e1 : 1 ≤ l.length := by omega
      by_cases h2 : (l.length : Int) > 70
      · have e2 : ¬ l.length ≤ 70 := by omega
        simp only [h1, h2, e2, decide_true, decide_false, Bool.not_true, Bool.false_eq_true, if_false, if_true, and_false]
      · have e2 : l.length ≤ 70 := by omega
        simp only [h1, h2, e1, e2, decide_true, decide_false, Bool.not_true, Bool.false_eq_true, if_false, if_true, and_self]
theorem takeAck_eq (b : List Int) (hb : By b) (hl : b.length ≤ 1000000) : dbd_TakeAck.p (b, ()) = some (takeHeadsR b 1 70) := by
  unfold dbd_TakeAck.p
  rw [takeHeads_eq b 1 70 hb hl]
  rfl
theorem rtakeAck_eq (b : List Int) (hb : By b) (hl : b.length ≤ 1000000) : ref13_TakeAck.p (b, ()) = some (takeHeadsR b 1 70) := by
  unfold ref13_TakeAck.p
  rw [rreadHeads_eq b 70 hb hl]
  unfold takeHeadsR
  simp only [bind_eq]
  by_cases h1 : b.length % 20 = 0
  · simp only [h1, not_true_eq_false, if_false]
    by_cases h2 : (hdsOf (b.length / 20) b).all mayH = true ∧ 0 ≤ ((b.length / 20 : Nat) : Int) ∧ ((b.length / 20 : Nat) : Int) ≤ 70
    · simp only [h2, and_self, if_true, decide_true, Bool.not_true, Bool.false_eq_true, if_false, hdsOf_len, true_and, and_true]
      by_cases h3 : 1 ≤ ((b.length / 20 : Nat) : Int)
      · rw [if_neg (by simp only [decide_eq_true_eq]; omega), if_pos h3]
      · rw [if_pos (by simp only [decide_eq_true_eq]; omega), if_neg h3]
    · rw [if_neg h2, if_pos (by simp), if_neg (fun q => h2 ⟨q.1, by omega, q.2.2⟩)]
  · rw [if_pos h1, if_pos h1]
    rfl
theorem dbdAck (l : List Hd) (b : List Int) (hu : ∀ h ∈ l, HdOk h) (hb : By b) : law13_DbdAck.p (l, b, ()) = some (true, ()) := by
  unfold law13_DbdAck.p
  simp only [aliveK, jn_eq, bind_eq, if_true]
  by_cases h1 : (l.length : Int) > 110
  · simp [h1]
  · by_cases h2 : (b.length : Int) > 1600
    · simp [h1, h2]
    · have hp : By (putAckR l).1 ∧ (putAckR l).1.length ≤ 1000000 := by
        unfold putAckR
        split
        · exact ⟨headsB_by l, by rw [headsB_len]; omega⟩
        · exact ⟨fun x hx => (by cases hx), by simp⟩
      have hs := Heads_same (takeHeadsR b 1 70).1 (Nat.le_trans (takeHeadsR_len b 1 70) (by omega))
      simp only [h1, h2, decide_false, Bool.false_eq_true, if_false, putAck_eq l hu (by omega), rputAck_eq l hu (by omega), takeAck_eq b hb (by omega), rtakeAck_eq b hb (by omega), takeAck_eq _ hp.1 hp.2, bind_eq, hs, decide_true, if_true]
      unfold putAckR
      by_cases hc : l.all mayH = true ∧ 1 ≤ l.length ∧ l.length ≤ 70
      · rw [if_pos hc]
        simp only [decide_true, Bool.not_true, Bool.false_eq_true, if_false, if_true, takeHeadsR_of l hc.1 hu 1 70 (by omega) (by omega), Heads_same l (by omega), bind_eq]
      · rw [if_neg hc]
        simp
theorem dbdAckW {P : Program} {x : dens (List.map K.v [(.sl 62 (.cons (.int .i64) (.cons (.int .i64) (.cons (.int .i64) (.cons (.int .u32) (.cons (.int .u32) (.cons (.int .u32) (.cons (.int .i64) (.cons (.int .i64) .nil))))))))), (.sl 5 (.int .u8))])} (h : WfA P [(.sl 62 (.cons (.int .i64) (.cons (.int .i64) (.cons (.int .i64) (.cons (.int .u32) (.cons (.int .u32) (.cons (.int .u32) (.cons (.int .i64) (.cons (.int .i64) .nil))))))))), (.sl 5 (.int .u8))] x) : ∃ y, law13_DbdAck.p x = some y ∧ y.1 = true :=
  ⟨_, dbdAck x.1 x.2.1 (fun a ha => ⟨wf_u32 (h.1.2 a ha).2.2.2.1, wf_u32 (h.1.2 a ha).2.2.2.2.1, wf_u32 (h.1.2 a ha).2.2.2.2.2.1⟩) (fun y hy => wf_u8 (h.2.1.2 y hy)), rfl⟩
end Go.Proofs.Ytmmkdalbcfjogaa.F
