/-
law11: how long a run of bytes is.
-/
import Derived.Test.YtoplaknmmglagaaDoorT1
set_option linter.unusedVariables false
set_option linter.unusedSimpArgs false
namespace Go.Proofs.YtoplaknmmglagaaDoor.T
open Go Go.AX

theorem name1_spec (n : Int) : PureC Tryd.prog false 35 [.int .u8 n] (.bool (letB n || digB n)) := by
  refine PureC.introK k35 (by show 1 ≤ 9; decide) ?_
  simp -implicitDefEqProofs [-Int.not_le, -Int.not_lt, -Nat.not_le, -Nat.not_lt, -List.map_take, -List.map_drop]
  refine CallWP.pure (letter_spec n) rfl ?_
  refine WPl_split rfl (fun h => ?_) (fun h => ?_) <;> simp -implicitDefEqProofs [-Int.not_le, -Int.not_lt, -Nat.not_le, -Nat.not_lt, -List.map_take, -List.map_drop, h]
  · refine CallWP.pure (digit_spec n) rfl ?_
    try simp -implicitDefEqProofs [-Int.not_le, -Int.not_lt, -Nat.not_le, -Nat.not_lt, -List.map_take, -List.map_drop, h]
    exact .bool _
  · exact frzB (by simp [h])

theorem blanks1_spec (n : Int) : PureC Tryd.prog false 24 [.int .u8 n] (.bool (n != 10)) := by
  refine PureC.introK k24 (by show 1 ≤ 5; decide) ?_
  simp -implicitDefEqProofs [-Int.not_le, -Int.not_lt, -Nat.not_le, -Nat.not_lt, -List.map_take, -List.map_drop]
  exact .bool _

/-- How many bytes there are, from the first one on, of which p holds. -/
def longS (p : Int → Bool) : List UInt8 → Nat
  | [] => 0
  | b :: l => if p b.toNat then longS p l + 1 else 0

theorem long_spec {f : FuncId} (p : Int → Bool) (hp : ∀ n, PureC Tryd.prog false f [.int .u8 n] (.bool (p n))) (l : List UInt8) (hlen : l.length ≤ 4611686018427387904) :
    PureC Tryd.prog false 23 [bv l, .clo (.func f) [] []] (.int .i64 (longS p l)) := by
  refine PureC.introK k23 (by show 2 ≤ 22; decide) ?_
  simp -implicitDefEqProofs [-Int.not_le, -Int.not_lt, -Nat.not_le, -Nat.not_lt, -List.map_take, -List.map_drop]
  refine WPk_loop (fun k : Nat => ⟨[(0, bv l), (1, .clo (.func f) [] []), (7, bv l), (8, .int .i64 l.length), (9, .int .i64 k)], [], 0⟩) (fun k => k ≤ l.length ∧ longS p l = k + longS p (l.drop k)) (fun k => l.length - k) 0 (Weak.ofE (by simp) rfl (Nat.le_refl _)) ⟨Nat.zero_le _, by simp⟩ ?_
  rintro k ⟨hk, hl⟩
  simp -implicitDefEqProofs [-Int.not_le, -Int.not_lt, -Nat.not_le, -Nat.not_lt, -List.map_take, -List.map_drop]
  refine WPk_split rfl (fun h => ?_) (fun h => ?_)
  · have hk' : k < l.length := by simpa using h
    have hb := List.getElem?_eq_getElem hk'
    have hd : l.drop k = l[k] :: l.drop (k + 1) := List.drop_eq_getElem_cons hk'
    simp -implicitDefEqProofs [-Int.not_le, -Int.not_lt, -Nat.not_le, -Nat.not_lt, -List.map_take, -List.map_drop, hb]
    refine CallWP.pure (hp _) rfl ?_
    try simp -implicitDefEqProofs [-Int.not_le, -Int.not_lt, -Nat.not_le, -Nat.not_lt, -List.map_take, -List.map_drop]
    refine WPk_split rfl (fun h2 => ?_) (fun h2 => ?_)
    · simp -implicitDefEqProofs [-Int.not_le, -Int.not_lt, -Nat.not_le, -Nat.not_lt, -List.map_take, -List.map_drop]
      have : longS p l = k := by rw [hl, hd, longS, if_neg (by simpa using h2)]; simp
      rw [this]
      exact .int _ _
    · simp -implicitDefEqProofs [-Int.not_le, -Int.not_lt, -Nat.not_le, -Nat.not_lt, -List.map_take, -List.map_drop]
      refine ⟨k + 1, ⟨hk', ?_⟩, by omega, Weak.ofE (by simp; exact wrap_i64 (by omega) (by omega)) rfl (Nat.le_refl _)⟩
      rw [hl, hd, longS, if_pos (by simpa using h2)]
      omega
  · have hk' : k = l.length := by simp at h; omega
    simp -implicitDefEqProofs [-Int.not_le, -Int.not_lt, -Nat.not_le, -Nat.not_lt, -List.map_take, -List.map_drop]
    have : longS p l = l.length := by rw [hl, hk']; simp [longS]
    rw [this]
    exact .int _ _
end Go.Proofs.YtoplaknmmglagaaDoor.T
