/- What nbr.Step answers, as a plain function. -/
import Derived.Test.YtldhdedlhfafjaaNa
namespace Go.Proofs.Ytldhdedlhfafjaa.T
open Go Go.RowKit
set_option linter.unusedVariables false
set_option linter.unusedSimpArgs false
def stp (s k : Int) (wn em : Bool) : Int × Int :=
  if k = 0 then (if s < 1 then 1 else s, 1)
  else if k = 1 then (if s = 1 then (if wn = true then (3, 2) else (2, 0)) else (s, 0))
  else if k = 2 then (if s < 2 then (s, 0) else (1, 16))
  else if k = 3 ∨ k = 4 then (if s = 2 ∧ wn = true then (3, 2) else if s ≥ 3 ∧ wn = false then (2, 16) else (s, 0))
  else if k = 5 then (if s = 3 then (4, 4) else (s, 0))
  else if k = 6 then (if s = 4 then (if em = true then (6, 8) else (5, 8)) else (s, 0))
  else if k = 7 then (if s = 5 then (6, 0) else (s, 0))
  else if k = 8 ∨ k = 9 then (if s < 4 then (s, 0) else (3, 18))
  else (if s < 0 then (s, 0) else (0, 16))
def fin (s : Int) (x : Int × Int) : Int := if (decide (x.1 = 6) != decide (s = 6)) = true then x.2 + 32 else x.2
def stepF (s k : Int) (wn em : Bool) : Int × Int × Int := if 0 ≤ s ∧ s < 7 ∧ 0 ≤ k ∧ k < 13 then ((stp s k wn em).1, fin s (stp s k wn em), 0) else (s, 0, 1)
end Go.Proofs.Ytldhdedlhfafjaa.T
