/- The program's functions as plain functions, and the plain law over them. -/
import Derived.Test.YtocloebloblodaagF
import Derived.Test.YtocloebloblodaagP
set_option linter.unusedVariables false
set_option linter.unusedSimpArgs false
set_option maxRecDepth 100000
set_option linter.unusedVariables false
open Go Go.Proofs.Fr
namespace Go.Proofs.Ytocloebloblodaag.F
theorem tlv_Put.fp (a : (List (Int × (List Int) × Unit)) × Unit) : tlv_Put.f a = tlv_Put.p a := by
  rw [tlv_Put.eq]
  simp only [tlv_Put.p, rounds_eq] <;> rfl
theorem pdu_isIn.fp (a : Int × Int × Unit) : pdu_isIn.f a = pdu_isIn.p a := by
  rw [pdu_isIn.eq]
  simp only [pdu_isIn.p] <;> rfl
theorem pdu_page_put.fp (a : (List Int) × Int × Int × Unit) : pdu_page_put.f a = pdu_page_put.p a := by
  rw [pdu_page_put.eq]
  simp only [pdu_page_put.p, rounds_eq] <;> rfl
end Go.Proofs.Ytocloebloblodaag.F
