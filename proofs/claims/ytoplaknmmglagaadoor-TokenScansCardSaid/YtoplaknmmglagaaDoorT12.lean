/-
law11: letters and digits of the reference; the same tokens; a copy of bytes.
-/
import Derived.Test.YtoplaknmmglagaaDoorT11
set_option linter.unusedVariables false
set_option linter.unusedSimpArgs false
namespace Go.Proofs.YtoplaknmmglagaaDoor.T
open Go Go.AX

theorem digit2_spec (n : Int) : PureC Tryd.prog false 15 [.int .u8 n] (.bool (digB n)) := by
  refine PureC.introK k15 (by show 1 ≤ 9; decide) ?_
  simp -implicitDefEqProofs [-Int.not_le, -Int.not_lt, -Nat.not_le, -Nat.not_lt, -List.map_take, -List.map_drop]
  refine WPl_split rfl (fun h => ?_) (fun h => ?_) <;> simp -implicitDefEqProofs [-Int.not_le, -Int.not_lt, -Nat.not_le, -Nat.not_lt, -List.map_take, -List.map_drop, h] <;> exact frzB (by simp_all [digB] <;> omega)

theorem letter2_spec (n : Int) : PureC Tryd.prog false 14 [.int .u8 n] (.bool (letB n)) := by
  refine PureC.introK k14 (by show 1 ≤ 21; decide) ?_
  simp -implicitDefEqProofs [-Int.not_le, -Int.not_lt, -Nat.not_le, -Nat.not_lt, -List.map_take, -List.map_drop]
  repeat' (refine WPl_split rfl (fun h => ?_) (fun h => ?_) <;> simp -implicitDefEqProofs [-Int.not_le, -Int.not_lt, -Nat.not_le, -Nat.not_lt, -List.map_take, -List.map_drop] at h <;> simp -implicitDefEqProofs [-Int.not_le, -Int.not_lt, -Nat.not_le, -Nat.not_lt, -List.map_take, -List.map_drop, h, *])
  all_goals exact frzB (by simp_all [letB] <;> omega)

theorem same_spec (a : List Tk) (hlen : a.length ≤ 4611686018427387904) : PureC Tryd.prog false 12 [tksV a, tksV a] (.bool true) := by
  refine PureC.introK k12 (by show 2 ≤ 26; decide) ?_
  simp -implicitDefEqProofs [-Int.not_le, -Int.not_lt, -Nat.not_le, -Nat.not_lt, -List.map_take, -List.map_drop]
  refine WPk_loop (fun k : Nat => ⟨[(0, tksV a), (1, tksV a), (5, .int .i64 k)], [], 0⟩) (fun k => k ≤ a.length) (fun k => a.length - k) 0 (Weak.ofE (by simp) rfl (Nat.le_refl _)) (Nat.zero_le _) ?_
  intro k hk
  simp -implicitDefEqProofs [-Int.not_le, -Int.not_lt, -Nat.not_le, -Nat.not_lt, -List.map_take, -List.map_drop]
  refine WPk_split rfl (fun h => ?_) (fun h => ?_)
  · have hk' : k < a.length := by simpa using h
    have hb := List.getElem?_eq_getElem hk'
    simp -implicitDefEqProofs [-Int.not_le, -Int.not_lt, -Nat.not_le, -Nat.not_lt, -List.map_take, -List.map_drop, hb]
    exact ⟨k + 1, by omega, by omega, Weak.ofE (by simp; exact wrap_i64 (by omega) (by omega)) rfl (Nat.le_refl _)⟩
  · simp -implicitDefEqProofs [-Int.not_le, -Int.not_lt, -Nat.not_le, -Nat.not_lt, -List.map_take, -List.map_drop]
    exact .bool _

def kin (t : Tk) : Int × List UInt8 × Int := (t.k, t.t, t.x)

theorem kinds_spec (a b : List Tk) (he : a.map kin = b.map kin) (hlen : a.length ≤ 4611686018427387904) : PureC Tryd.prog false 13 [tksV a, tksV b] (.bool true) := by
  have hl : a.length = b.length := by simpa using congrArg List.length he
  refine PureC.introK k13 (by show 2 ≤ 54; decide) ?_
  simp -implicitDefEqProofs [-Int.not_le, -Int.not_lt, -Nat.not_le, -Nat.not_lt, -List.map_take, -List.map_drop, hl]
  refine WPk_loop (fun k : Nat => ⟨[(0, tksV a), (1, tksV b), (5, .int .i64 k)], [], 0⟩) (fun k => k ≤ a.length) (fun k => a.length - k) 0 (Weak.ofE (by simp) rfl (Nat.le_refl _)) (Nat.zero_le _) ?_
  intro k hk
  simp -implicitDefEqProofs [-Int.not_le, -Int.not_lt, -Nat.not_le, -Nat.not_lt, -List.map_take, -List.map_drop]
  refine WPk_split rfl (fun h => ?_) (fun h => ?_)
  · have hk' : k < a.length := by simpa using h
    have hk2 : k < b.length := by omega
    have hb := List.getElem?_eq_getElem hk'
    have hb2 := List.getElem?_eq_getElem hk2
    have hkin : kin a[k] = kin b[k] := by
      have := congrArg (·[k]?) he
      simpa [hk', hk2] using this
    simp only [kin, Prod.mk.injEq] at hkin
    obtain ⟨q1, q2, q3⟩ := hkin
    generalize a[k] = x at hb q1 q2 q3
    generalize b[k] = y at hb2 q1 q2 q3
    obtain ⟨x1, x2, x3, x4⟩ := x
    obtain ⟨y1, y2, y3, y4⟩ := y
    simp only at q1 q2 q3
    subst q1 q2 q3
    simp -implicitDefEqProofs [-Int.not_le, -Int.not_lt, -Nat.not_le, -Nat.not_lt, -List.map_take, -List.map_drop, hb, hb2]
    exact ⟨k + 1, by omega, by omega, Weak.ofE (by simp; exact wrap_i64 (by omega) (by omega)) rfl (Nat.le_refl _)⟩
  · simp -implicitDefEqProofs [-Int.not_le, -Int.not_lt, -Nat.not_le, -Nat.not_lt, -List.map_take, -List.map_drop]
    exact .bool _

/-- Where a copy stands. -/
structure Cp where
  k : Nat
  g : Nat
  c : Nat
def cpT (q : Cp) : AV := if q.k = 0 then .nils else .ref 1 q.g 1 0 q.k
def cpH (l : List UInt8) (q : Cp) : Heap := if q.k = 0 then [] else [none, some (.cells q.g ((l.take q.k).map byv))]

theorem copyBytes_spec (l : List UInt8) (hlen : l.length ≤ 1000000) : ProcC Tryd.prog 16 [bv l] [] 0 (fun r H c => (l = [] ∧ r = .nils ∧ H = []) ∨ (l ≠ [] ∧ ∃ g, r = .ref 1 g 1 0 l.length ∧ H = [none, some (.cells g (l.map byv))])) := by
  refine ProcC.introK k16 (by show 1 ≤ 18; decide) ?_
  simp -implicitDefEqProofs [-Int.not_le, -Int.not_lt, -Nat.not_le, -Nat.not_lt, -List.map_take, -List.map_drop]
  refine WPk_loop (fun q : Cp => ⟨[(3, cpT q), (6, bv l), (7, .int .i64 l.length), (8, .int .i64 q.k)], cpH l q, q.c⟩) (fun q => q.k ≤ l.length) (fun q => l.length - q.k) ⟨0, 0, 0⟩ (Weak.ofL (by simp [cpT]) (by simp [cpH, HLe]) (Nat.le_refl _)) (Nat.zero_le _) ?_
  rintro ⟨k, g, c⟩ hk
  simp only at hk
  simp -implicitDefEqProofs [-Int.not_le, -Int.not_lt, -Nat.not_le, -Nat.not_lt, -List.map_take, -List.map_drop]
  refine WPk_split rfl (fun h => ?_) (fun h => ?_)
  · have hk' : k < l.length := by simpa using h
    have hb := List.getElem?_eq_getElem hk'
    have hw : IntKind.i64.wrap ((k : Int) + 1) = (k : Int) + 1 := wrap_i64 (by omega) (by omega)
    have htk : (l.take (k + 1)).map byv = (l.take k).map byv ++ [byv l[k]] := by rw [List.take_add_one, hb, List.map_append]; rfl
    by_cases h0 : k = 0
    · subst h0
      have hr : 1 ≤ roomX := by decide
      have hT : cpT ⟨0, g, c⟩ = .nils := rfl
      have hH : cpH l ⟨0, g, c⟩ = [] := rfl
      rw [hT, hH]
      simp -implicitDefEqProofs [-Int.not_le, -Int.not_lt, -Nat.not_le, -Nat.not_lt, -List.map_take, -List.map_drop, hb, hw, hr]
      refine ⟨⟨1, c + 1, c + 2⟩, by first | omega | (simp only; omega), by first | omega | (simp only; omega), Weak.ofL (by simp [cpT]; exact wrap_i64 (by omega) (by omega)) (by simp only [cpH]; rw [if_neg (by decide), htk]; simp [HLe, -List.map_take]) (Nat.le_refl _)⟩
    · have hr : k + 1 ≤ roomX := by unfold roomX; omega
      have hkm : k ≤ l.length := hk
      have hT : cpT ⟨k, g, c⟩ = .ref 1 g 1 0 k := by rw [cpT, if_neg h0]
      have hH : cpH l ⟨k, g, c⟩ = [none, some (.cells g ((l.take k).map byv))] := by rw [cpH, if_neg h0]
      rw [hT, hH]
      simp -implicitDefEqProofs [-Int.not_le, -Int.not_lt, -Nat.not_le, -Nat.not_lt, -List.map_take, -List.map_drop, hb, hw, hr, hkm]
      have htt : List.take k (List.take k l) = List.take k l := List.take_of_length_le (by simp; omega)
      rw [htt]
      refine ⟨⟨k + 1, c + 1, c + 2⟩, by first | omega | (simp only; omega), by first | omega | (simp only; omega), Weak.ofL (by simp [cpT]) (by simp only [cpH]; rw [if_neg (by omega), htk]; simp [HLe, -List.map_take]) (Nat.le_refl _)⟩
  · have hk' : k = l.length := by simp at h; omega
    subst hk'
    simp -implicitDefEqProofs [-Int.not_le, -Int.not_lt, -Nat.not_le, -Nat.not_lt, -List.map_take, -List.map_drop]
    by_cases h0 : l.length = 0
    · have : l = [] := List.length_eq_zero_iff.1 h0
      subst this
      exact .inl ⟨rfl, rfl, rfl⟩
    · have hne : l ≠ [] := fun e => h0 (by rw [e]; rfl)
      rw [cpT, if_neg h0, cpH, if_neg h0, List.take_length]
      exact .inr ⟨hne, g, rfl, rfl⟩
end Go.Proofs.YtoplaknmmglagaaDoor.T
