/-
law11: letters and digits.
-/
import Derived.Test.YtoplaknmmglagaaDoorTK
set_option linter.unusedVariables false
set_option linter.unusedSimpArgs false
namespace Go.Proofs.YtoplaknmmglagaaDoor.T
open Go Go.AX

def digB (n : Int) : Bool := decide (48 ≤ n) && decide (n ≤ 57)
def letB (n : Int) : Bool := (decide (97 ≤ n) && decide (n ≤ 122)) || (decide (65 ≤ n) && decide (n ≤ 90)) || n == 95

theorem frzB {al : Bool} {H : Heap} {a b : Bool} (h : a = b) : Frz al H (.bool a) (.bool b) := by rw [h]; exact .bool _

theorem digit_spec (n : Int) : PureC Tryd.prog false 27 [.int .u8 n] (.bool (digB n)) := by
  refine PureC.introK k27 (by show 1 ≤ 9; decide) ?_
  simp -implicitDefEqProofs [-Int.not_le, -Int.not_lt, -Nat.not_le, -Nat.not_lt, -List.map_take, -List.map_drop]
  refine WPl_split rfl (fun h => ?_) (fun h => ?_) <;> simp -implicitDefEqProofs [-Int.not_le, -Int.not_lt, -Nat.not_le, -Nat.not_lt, -List.map_take, -List.map_drop, h] <;> exact frzB (by simp_all [digB] <;> omega)

theorem letter_spec (n : Int) : PureC Tryd.prog false 25 [.int .u8 n] (.bool (letB n)) := by
  refine PureC.introK k25 (by show 1 ≤ 21; decide) ?_
  simp -implicitDefEqProofs [-Int.not_le, -Int.not_lt, -Nat.not_le, -Nat.not_lt, -List.map_take, -List.map_drop]
  repeat' (refine WPl_split rfl (fun h => ?_) (fun h => ?_) <;> simp -implicitDefEqProofs [-Int.not_le, -Int.not_lt, -Nat.not_le, -Nat.not_lt, -List.map_take, -List.map_drop] at h <;> simp -implicitDefEqProofs [-Int.not_le, -Int.not_lt, -Nat.not_le, -Nat.not_lt, -List.map_take, -List.map_drop, h, *])
  all_goals exact frzB (by simp_all [letB] <;> omega)
end Go.Proofs.YtoplaknmmglagaaDoor.T
