/-
law11: bytes.Equal, bytes.HasPrefix.
-/
import Derived.Test.YtoplaknmmglagaaDoorT2
set_option linter.unusedVariables false
set_option linter.unusedSimpArgs false
namespace Go.Proofs.YtoplaknmmglagaaDoor.T
open Go Go.AX

theorem equal_spec (a b : List UInt8) : PureC Tryd.prog false 34 [bv a, bv b] (.bool (a == b)) := by
  refine PureC.introK k34 (by show 2 ≤ 10; decide) ?_
  simp -implicitDefEqProofs [-Int.not_le, -Int.not_lt, -Nat.not_le, -Nat.not_lt, -List.map_take, -List.map_drop]
  exact .bool _

theorem hasPrefix_spec (s p : List UInt8) : PureC Tryd.prog false 22 [bv s, bv p] (.bool (decide (p.length ≤ s.length) && s.take p.length == p)) := by
  refine PureC.introK k22 (by show 2 ≤ 18; decide) ?_
  simp -implicitDefEqProofs [-Int.not_le, -Int.not_lt, -Nat.not_le, -Nat.not_lt, -List.map_take, -List.map_drop]
  refine WPl_split rfl (fun h => ?_) (fun h => ?_) <;> simp -implicitDefEqProofs [-Int.not_le, -Int.not_lt, -Nat.not_le, -Nat.not_lt, -List.map_take, -List.map_drop] at h <;> simp -implicitDefEqProofs [-Int.not_le, -Int.not_lt, -Nat.not_le, -Nat.not_lt, -List.map_take, -List.map_drop, h]
  · refine CallWP.pure (equal_spec _ _) rfl ?_
    try simp -implicitDefEqProofs [-Int.not_le, -Int.not_lt, -Nat.not_le, -Nat.not_lt, -List.map_take, -List.map_drop, h]
    exact frzB (by simp [h])
  · exact .bool _
end Go.Proofs.YtoplaknmmglagaaDoor.T
