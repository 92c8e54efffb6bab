/- Packets of OSPF: alive, and Accept. -/
import Derived.Test.YthhklfepclgcbaaLBase
import Derived.Test.YthhklfepclgcbaaFrc
set_option maxRecDepth 100000
set_option linter.unusedVariables false
set_option linter.unusedSimpArgs false
open Go Go.Proofs.Fr
namespace Go.Proofs.Ythhklfepclgcbaa.F
theorem aliveK : law09_alive.p () = some (true, ()) := by decide +kernel
theorem accept_same : head_Accept.p = ref09_Accept.p := rfl
theorem accept_self (p) : head_Accept.p (p, p.2.2.1, p.2.2.2.1, p.2.2.2.2.1, ()) = some (0, ()) := by
  unfold head_Accept.p
  simp only [jn_eq, decide_true, Bool.not_true, Bool.false_eq_true, if_false, Bool.and_self]
  split <;> rfl
theorem headAccept (x : dens (List.map K.v [(.cons (.int .i64) (.cons (.int .u32) (.cons (.int .u32) (.cons (.int .i64) (.cons (.cons (.int .u8) (.cons (.int .u8) (.cons (.int .u8) (.cons (.int .u8) (.cons (.int .u8) (.cons (.int .u8) (.cons (.int .u8) (.cons (.int .u8) .nil)))))))) (.cons (.sl 5 (.int .u8)) .nil)))))), (.cons (.int .u32) (.cons (.int .i64) (.cons (.cons (.int .u8) (.cons (.int .u8) (.cons (.int .u8) (.cons (.int .u8) (.cons (.int .u8) (.cons (.int .u8) (.cons (.int .u8) (.cons (.int .u8) .nil)))))))) .nil)))])) : law09_HeadAccept.p x = some (true, ()) := by
  obtain ⟨p, g, _⟩ := x
  obtain ⟨v, hv⟩ : ∃ v, head_Accept.p (p, g.1, g.2.1, g.2.2.1, ()) = some v := by
    unfold head_Accept.p
    simp only [jn_eq]
    repeat' split
    all_goals exact ⟨_, rfl⟩
  have hs := accept_self p
  unfold law09_HeadAccept.p
  simp only [jn_eq, aliveK, bind_eq, if_true]
  rw [← accept_same]
  unfold law09_plain.p
  simp only [bind_eq, hv, hs, decide_true, if_true]
theorem headAcceptW {P : Program} {x : dens (List.map K.v [(.cons (.int .i64) (.cons (.int .u32) (.cons (.int .u32) (.cons (.int .i64) (.cons (.cons (.int .u8) (.cons (.int .u8) (.cons (.int .u8) (.cons (.int .u8) (.cons (.int .u8) (.cons (.int .u8) (.cons (.int .u8) (.cons (.int .u8) .nil)))))))) (.cons (.sl 5 (.int .u8)) .nil)))))), (.cons (.int .u32) (.cons (.int .i64) (.cons (.cons (.int .u8) (.cons (.int .u8) (.cons (.int .u8) (.cons (.int .u8) (.cons (.int .u8) (.cons (.int .u8) (.cons (.int .u8) (.cons (.int .u8) .nil)))))))) .nil)))])} (h : WfA P [(.cons (.int .i64) (.cons (.int .u32) (.cons (.int .u32) (.cons (.int .i64) (.cons (.cons (.int .u8) (.cons (.int .u8) (.cons (.int .u8) (.cons (.int .u8) (.cons (.int .u8) (.cons (.int .u8) (.cons (.int .u8) (.cons (.int .u8) .nil)))))))) (.cons (.sl 5 (.int .u8)) .nil)))))), (.cons (.int .u32) (.cons (.int .i64) (.cons (.cons (.int .u8) (.cons (.int .u8) (.cons (.int .u8) (.cons (.int .u8) (.cons (.int .u8) (.cons (.int .u8) (.cons (.int .u8) (.cons (.int .u8) .nil)))))))) .nil)))] x) : ∃ y, law09_HeadAccept.p x = some y ∧ y.1 = true := ⟨_, headAccept x, rfl⟩
end Go.Proofs.Ythhklfepclgcbaa.F
