/- The program's functions as plain functions, and the plain law over them. -/
import Derived.Test.YtocloebloblodaaProg
import Derived.Test.YtocloebloblodaaFrd
set_option linter.unusedVariables false
set_option linter.unusedSimpArgs false
set_option maxRecDepth 100000
set_option linter.unusedVariables false
open Go Go.Proofs.Fr
namespace Go.Proofs.Ytocloebloblodaag.F
/-- crossroads/tlv.Put -/
noncomputable def tlv_Put.T : List (Nat × List Sp) := []
noncomputable def tlv_Put.n : List (Nat × PK) := [(29, [(.slot 4, (.own 5 (.int .u8)))]), (58, [(.slot 4, (.own 5 (.int .u8))), (.slot 9, (.v (.int .i64)))]), (14948, [(.slot 26, (.v .bool))])]
noncomputable def tlv_Put.f : dens [(.v (.sl 78 (.cons (.int .i64) (.cons (.sl 5 (.int .u8)) .nil))))] → Option (dens [(.own 5 (.int .u8)), (.v (.int .i64))]) := fnSem Go.Proofs.Try.prog (tabT tlv_Put.T) (annT tlv_Put.n) Go.Proofs.Try.f31 [(.v (.sl 78 (.cons (.int .i64) (.cons (.sl 5 (.int .u8)) .nil))))] [(.own 5 (.int .u8)), (.v (.int .i64))]
noncomputable def tlv_Put.sp : Sp := ⟨[(.v (.sl 78 (.cons (.int .i64) (.cons (.sl 5 (.int .u8)) .nil))))], [(.own 5 (.int .u8)), (.v (.int .i64))], tlv_Put.f⟩
theorem tlv_Put.sound : Sound Go.Proofs.Try.prog 31 tlv_Put.sp := fn_sound tab_nil Go.Proofs.Try.func31 (ent_of Go.Proofs.Try.func31 (by kernel_rfl) (by kernel_rfl)) (by decide)
theorem tlv_Put.eq (a : (List (Int × (List Int) × Unit)) × Unit) : tlv_Put.f a = (jn (fun (x1 : (List Int) × Unit) => (some (x1.1, 0, ()))) fun j2 => (iterK rounds (fun (x3 : (List Int) × Int × Unit) r4 => (if (decide (x3.2.1 < (a.1.length : Int))) = true then (if (0 : Int) ≤ x3.2.1 ∧ x3.2.1 < (a.1.length : Int) then (jn (fun (x5 : Bool × Unit) => (if x5.1 = true then (some (([] : List Int), 1, ())) else (if x3.1.length + ([IntKind.u8.wrap ((rdE (.cons (.int .i64) (.cons (.sl 5 (.int .u8)) .nil)) a.1 (Int.toNat x3.2.1)).1), IntKind.u8.wrap (((((rdE (.cons (.int .i64) (.cons (.sl 5 (.int .u8)) .nil)) a.1 (Int.toNat x3.2.1)).2).1).length : Int))] : List Int).length ≤ maxBytes / 1 then (if (x3.1 ++ ([IntKind.u8.wrap ((rdE (.cons (.int .i64) (.cons (.sl 5 (.int .u8)) .nil)) a.1 (Int.toNat x3.2.1)).1), IntKind.u8.wrap (((((rdE (.cons (.int .i64) (.cons (.sl 5 (.int .u8)) .nil)) a.1 (Int.toNat x3.2.1)).2).1).length : Int))] : List Int)).length + (((rdE (.cons (.int .i64) (.cons (.sl 5 (.int .u8)) .nil)) a.1 (Int.toNat x3.2.1)).2).1).length ≤ maxBytes / 1 then (r4 ((x3.1 ++ ([IntKind.u8.wrap ((rdE (.cons (.int .i64) (.cons (.sl 5 (.int .u8)) .nil)) a.1 (Int.toNat x3.2.1)).1), IntKind.u8.wrap (((((rdE (.cons (.int .i64) (.cons (.sl 5 (.int .u8)) .nil)) a.1 (Int.toNat x3.2.1)).2).1).length : Int))] : List Int)) ++ (((rdE (.cons (.int .i64) (.cons (.sl 5 (.int .u8)) .nil)) a.1 (Int.toNat x3.2.1)).2).1), IntKind.i64.wrap (x3.2.1 + 1), ())) else none) else none))) fun j6 => (if (decide ((rdE (.cons (.int .i64) (.cons (.sl 5 (.int .u8)) .nil)) a.1 (Int.toNat x3.2.1)).1 < 0)) = true then (j6 (true, ())) else (if (decide ((rdE (.cons (.int .i64) (.cons (.sl 5 (.int .u8)) .nil)) a.1 (Int.toNat x3.2.1)).1 > 255)) = true then (j6 (true, ())) else (j6 ((decide (((((rdE (.cons (.int .i64) (.cons (.sl 5 (.int .u8)) .nil)) a.1 (Int.toNat x3.2.1)).2).1).length : Int) > 255)), ()))))) else none) else (j2 (x3.1, ())))) (([] : List Int), 0, ()))) := by kernel_rfl
/-- crossroads/pdu.isIn -/
noncomputable def pdu_isIn.T : List (Nat × List Sp) := []
noncomputable def pdu_isIn.n : List (Nat × PK) := [(6, [(.slot 4, (.v .bool))])]
noncomputable def pdu_isIn.f : dens [(.v (.int .i64)), (.v (.int .i64))] → Option (dens [(.v .bool)]) := fnSem Go.Proofs.Try.prog (tabT pdu_isIn.T) (annT pdu_isIn.n) Go.Proofs.Try.f34 [(.v (.int .i64)), (.v (.int .i64))] [(.v .bool)]
noncomputable def pdu_isIn.sp : Sp := ⟨[(.v (.int .i64)), (.v (.int .i64))], [(.v .bool)], pdu_isIn.f⟩
theorem pdu_isIn.sound : Sound Go.Proofs.Try.prog 34 pdu_isIn.sp := fn_sound tab_nil Go.Proofs.Try.func34 (ent_of Go.Proofs.Try.func34 (by kernel_rfl) (by kernel_rfl)) (by decide)
theorem pdu_isIn.eq (a : Int × Int × Unit) : pdu_isIn.f a = (jn (fun (x1 : Bool × Unit) => (some (x1.1, ()))) fun j2 => (if (decide (a.1 ≥ 0)) = true then (j2 ((decide (a.1 ≤ a.2.1)), ())) else (j2 (false, ())))) := by kernel_rfl
/-- (*crossroads/pdu.page).put -/
noncomputable def pdu_page_put.T : List (Nat × List Sp) := []
noncomputable def pdu_page_put.n : List (Nat × PK) := [(3, [(.obj 0, (.bx 86 (.own 5 (.int .u8))))]), (6, [(.slot 6, (.v (.int .i64))), (.obj 0, (.bx 86 (.own 5 (.int .u8))))])]
noncomputable def pdu_page_put.f : dens [(.bx 86 (.own 5 (.int .u8))), (.v (.int .u64)), (.v (.int .i64))] → Option (dens [(.bx 86 (.own 5 (.int .u8)))]) := fnSem Go.Proofs.Try.prog (tabT pdu_page_put.T) (annT pdu_page_put.n) Go.Proofs.Try.f36 [(.bx 86 (.own 5 (.int .u8))), (.v (.int .u64)), (.v (.int .i64))] []
noncomputable def pdu_page_put.sp : Sp := ⟨[(.bx 86 (.own 5 (.int .u8))), (.v (.int .u64)), (.v (.int .i64))], [], pdu_page_put.f⟩
theorem pdu_page_put.sound : Sound Go.Proofs.Try.prog 36 pdu_page_put.sp := fn_sound tab_nil Go.Proofs.Try.func36 (ent_of Go.Proofs.Try.func36 (by kernel_rfl) (by kernel_rfl)) (by decide)
theorem pdu_page_put.eq (a : (List Int) × Int × Int × Unit) : pdu_page_put.f a = (jn (fun (x1 : (List Int) × Unit) => (some (x1.1, ()))) fun j2 => (iterK rounds (fun (x3 : Int × (List Int) × Unit) r4 => (if (decide (x3.1 ≥ 0)) = true then (if IntKind.i64.wrap (8 * x3.1) < 0 then none else (if x3.2.1.length + ([IntKind.u8.wrap (Int.fdiv a.2.1 (2 ^ (min (Int.toNat (IntKind.i64.wrap (8 * x3.1))) 64)))] : List Int).length ≤ maxBytes / 1 then (r4 (IntKind.i64.wrap (x3.1 - 1), x3.2.1 ++ ([IntKind.u8.wrap (Int.fdiv a.2.1 (2 ^ (min (Int.toNat (IntKind.i64.wrap (8 * x3.1))) 64)))] : List Int), ())) else none)) else (j2 (x3.2.1, ())))) (IntKind.i64.wrap (a.2.2.1 - 1), a.1, ()))) := by kernel_rfl

end Go.Proofs.Ytocloebloblodaag.F
