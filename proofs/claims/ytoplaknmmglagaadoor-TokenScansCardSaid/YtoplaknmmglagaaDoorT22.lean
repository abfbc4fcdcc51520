/-
law11: the reference: blanks, the token at a place.
-/
import Derived.Test.YtoplaknmmglagaaDoorT21
set_option linter.unusedVariables false
set_option linter.unusedSimpArgs false
namespace Go.Proofs.YtoplaknmmglagaaDoor.T
open Go Go.AX

/-- What is left behind blanks. -/
def restS (c : Bool) (l : List UInt8) : List UInt8 := (blankS c l 0).1
theorem blankS_fst (l : List UInt8) (c : Bool) (n : Int) : (blankS c l n).1 = restS c l := by
  have := blankS_shift l c 0 n
  rw [Int.zero_add] at this
  rw [this]
  rfl
theorem restS_nil (c : Bool) : restS c [] = [] := by cases c <;> rfl
theorem restS_true (b : UInt8) (l : List UInt8) : restS true (b :: l) = if b.toNat = 10 then restS false l else restS true l := by
  unfold restS
  simp only [blankS]
  split
  · rw [blankS_fst]; rfl
  · rfl
theorem restS_false (b : UInt8) (l : List UInt8) : restS false (b :: l) = if b.toNat = 10 ∨ b.toNat = 32 ∨ b.toNat = 9 ∨ b.toNat = 13 then restS false l else if (b :: l).take 2 = [47, 47] then restS true l else b :: l := by
  unfold restS
  by_cases h : b.toNat = 10
  · rw [if_pos (.inl h)]
    simp only [blankS, h, if_true]
    rw [blankS_fst]; rfl
  · by_cases h2 : b.toNat = 32 ∨ b.toNat = 9 ∨ b.toNat = 13
    · rw [if_pos (.inr h2)]
      simp only [blankS]
      rw [if_neg h, if_pos h2]
    · rw [if_neg (by omega)]
      simp only [blankS]
      rw [if_neg h, if_neg h2]
      split <;> rfl

def isB (b : UInt8) : Bool := b.toNat == 32 || b.toNat == 9 || b.toNat == 13 || b.toNat == 10
def isC (b : UInt8) (o : Option UInt8) : Bool := b.toNat == 47 && (match o with | some c => c.toNat == 47 | none => false)
theorem isC_iff (b : UInt8) (l : List UInt8) : isC b l.head? = true ↔ (b :: l).take 2 = [47, 47] := by
  have h47 : ∀ x : UInt8, x.toNat = 47 ↔ x = 47 := fun x => ⟨fun h => UInt8.toNat_inj.1 h, fun h => by rw [h]; rfl⟩
  cases l with
  | nil => simp [isC]
  | cons c l => simp [isC, h47]

theorem blank_spec (src : List UInt8) (a0 : Nat) (ha : a0 ≤ src.length) (hlen : src.length ≤ 1000000) : PureC Tryd.prog false 20 [bv src, .int .i64 a0] (.int .i64 ((src.length - (restS false (src.drop a0)).length : Nat) : Int)) := by
  refine PureC.introK k20 (by show 2 ≤ 64; decide) ?_
  simp -implicitDefEqProofs [-Int.not_le, -Int.not_lt, -Nat.not_le, -Nat.not_lt, -List.map_take, -List.map_drop]
  refine WPk_loop (fun a : Nat => ⟨[(0, bv src), (1, .int .i64 a)], [], 0⟩) (fun a => a ≤ src.length ∧ restS false (src.drop a) = restS false (src.drop a0)) (fun a => src.length - a) a0 (Weak.ofE (by simp) rfl (Nat.le_refl _)) ⟨ha, rfl⟩ ?_
  rintro a ⟨h1, h2⟩
  simp -implicitDefEqProofs [-Int.not_le, -Int.not_lt, -Nat.not_le, -Nat.not_lt, -List.map_take, -List.map_drop]
  refine WPk_split rfl (fun h => ?_) (fun h => ?_)
  case refine_2 =>
    have hk' : a = src.length := by simp at h; omega
    subst hk'
    rw [List.drop_length, restS_nil] at h2
    rw [← h2]
    simp -implicitDefEqProofs [-Int.not_le, -Int.not_lt, -Nat.not_le, -Nat.not_lt, -List.map_take, -List.map_drop]
    exact .int _ _
  have hal : a < src.length := by simpa using h
  have hali : (a : Int) < src.length := by omega
  have hb := List.getElem?_eq_getElem hal
  have hd : src.drop a = src[a] :: src.drop (a + 1) := List.drop_eq_getElem_cons hal
  rw [hd, restS_false] at h2
  have hnx : (src.drop (a + 1)).head? = src[a + 1]? := by rw [List.head?_drop]
  have hC := isC_iff src[a] (src.drop (a + 1))
  rw [hnx] at hC
  have hlast : ¬ (src[a].toNat = 10 ∨ src[a].toNat = 32 ∨ src[a].toNat = 9 ∨ src[a].toNat = 13) → isC src[a] src[a + 1]? = false → restS false (src.drop a0) = src.drop a := by
    intro q1 q2
    rw [if_neg q1, if_neg (fun e => by rw [hC.2 e] at q2; cases q2)] at h2
    rw [← h2, hd]
  generalize src[a] = b at hb h2 hC hlast hd
  have hw : IntKind.i64.wrap ((a : Int) + 1) = (a : Int) + 1 := wrap_i64 (by omega) (by omega)
  simp -implicitDefEqProofs [-Int.not_le, -Int.not_lt, -Nat.not_le, -Nat.not_lt, -List.map_take, -List.map_drop, hb, hali]
  refine WPl_cut ⟨[(0, bv src), (1, .int .i64 a), (5, .int .u8 b.toNat), (15, .bool (isB b))], [], 0⟩ ?_ (fun Q hq => ?_)
  case refine_2 =>
    have hq' : ∀ x, x = isB b → Q .normal ⟨[(0, bv src), (1, .int .i64 a), (5, .int .u8 b.toNat), (15, .bool x)], [], 0⟩ := fun x e => e ▸ hq
    clear hq
    refine WPl_split rfl (fun e1 => ?_) (fun e1 => ?_)
    · simp -implicitDefEqProofs [-Int.not_le, -Int.not_lt, -Nat.not_le, -Nat.not_lt, -List.map_take, -List.map_drop, e1]
      refine WPl_split rfl (fun e2 => ?_) (fun e2 => ?_)
      · simp -implicitDefEqProofs [-Int.not_le, -Int.not_lt, -Nat.not_le, -Nat.not_lt, -List.map_take, -List.map_drop, e2]
        refine WPl_split rfl (fun e3 => ?_) (fun e3 => ?_)
        · simp -implicitDefEqProofs [-Int.not_le, -Int.not_lt, -Nat.not_le, -Nat.not_lt, -List.map_take, -List.map_drop, e3]
          refine hq' _ ?_
          simp at e1 e2 e3
          rw [Bool.eq_iff_iff]
          simp [isB]
          omega
        · simp -implicitDefEqProofs [-Int.not_le, -Int.not_lt, -Nat.not_le, -Nat.not_lt, -List.map_take, -List.map_drop, e3]
          refine hq' _ ?_
          simp at e3
          simp [isB]
          omega
      · simp -implicitDefEqProofs [-Int.not_le, -Int.not_lt, -Nat.not_le, -Nat.not_lt, -List.map_take, -List.map_drop, e2]
        refine hq' _ ?_
        simp at e2
        simp [isB]
        omega
    · simp -implicitDefEqProofs [-Int.not_le, -Int.not_lt, -Nat.not_le, -Nat.not_lt, -List.map_take, -List.map_drop, e1]
      refine hq' _ ?_
      simp at e1
      simp [isB]
      omega
  cases hB : isB b with
  | true =>
    simp -implicitDefEqProofs [-Int.not_le, -Int.not_lt, -Nat.not_le, -Nat.not_lt, -List.map_take, -List.map_drop, hw]
    refine ⟨a + 1, ⟨hal, ?_⟩, by omega, Weak.ofE (by simp) rfl (Nat.le_refl _)⟩
    rw [← h2, if_pos (by simp [isB] at hB; omega)]
  | false =>
    have hnB : ¬ (b.toNat = 10 ∨ b.toNat = 32 ∨ b.toNat = 9 ∨ b.toNat = 13) := by simp [isB] at hB; omega
    rw [if_neg hnB] at h2
    simp -implicitDefEqProofs [-Int.not_le, -Int.not_lt, -Nat.not_le, -Nat.not_lt, -List.map_take, -List.map_drop]
    refine WPl_cut ⟨[(0, bv src), (1, .int .i64 a), (32, .bool (isC b src[a + 1]?))], [], 0⟩ ?_ (fun Q hq => ?_)
    case refine_2 =>
      refine WPl_split rfl (fun h4 => ?_) (fun h4 => ?_)
      · have h47 : b.toNat = 47 := by simp at h4; omega
        simp -implicitDefEqProofs [-Int.not_le, -Int.not_lt, -Nat.not_le, -Nat.not_lt, -List.map_take, -List.map_drop, h4, hw]
        by_cases hlt : a + 1 < src.length
        · have hlti : (a : Int) + 1 < src.length := by omega
          have hb2 := List.getElem?_eq_getElem hlt
          have hge : (0 : Int) ≤ (a : Int) + 1 := by omega
          have htn : ((a : Int) + 1).toNat = a + 1 := by omega
          have hc : isC b src[a + 1]? = ((src[a + 1].toNat : Int) == 47) := by
            rw [hb2, isC, h47, Bool.eq_iff_iff]
            simp
            omega
          rw [hc] at hq
          simp -implicitDefEqProofs [-Int.not_le, -Int.not_lt, -Nat.not_le, -Nat.not_lt, -List.map_take, -List.map_drop, hlti, hw, hge, htn, hb2]
          exact hq
        · have hlti : ¬ (a : Int) + 1 < src.length := by omega
          have hb2 : src[a + 1]? = none := by simp; omega
          have hc : isC b src[a + 1]? = false := by rw [hb2]; simp [isC]
          rw [hc] at hq
          simp -implicitDefEqProofs [-Int.not_le, -Int.not_lt, -Nat.not_le, -Nat.not_lt, -List.map_take, -List.map_drop, hlti]
          exact hq
      · have h47 : b.toNat ≠ 47 := by simp at h4; omega
        have hc : isC b src[a + 1]? = false := by simp [isC, h47]
        rw [hc] at hq
        simp -implicitDefEqProofs [-Int.not_le, -Int.not_lt, -Nat.not_le, -Nat.not_lt, -List.map_take, -List.map_drop, h4]
        exact hq
    cases hCC : isC b src[a + 1]? with
    | false =>
      have hL := hlast hnB hCC
      rw [hL]
      simp -implicitDefEqProofs [-Int.not_le, -Int.not_lt, -Nat.not_le, -Nat.not_lt, -List.map_take, -List.map_drop]
      have hz : src.length - (src.length - a) = a := by omega
      rw [hz]
      exact .int _ _
    | true =>
      have hCt := hC.1 hCC
      rw [if_pos hCt] at h2
      have h47 : b.toNat = 47 := by simp [isC] at hCC; omega
      simp -implicitDefEqProofs [-Int.not_le, -Int.not_lt, -Nat.not_le, -Nat.not_lt, -List.map_take, -List.map_drop]
      refine WPk_loop (fun a2 : Nat => ⟨[(0, bv src), (1, .int .i64 a2)], [], 0⟩) (fun a2 => a ≤ a2 ∧ a2 ≤ src.length ∧ restS true (src.drop a2) = restS false (src.drop a0)) (fun a2 => src.length - a2) a (Weak.ofE (by simp) rfl (Nat.le_refl _)) ⟨Nat.le_refl _, h1, by rw [hd, restS_true, if_neg (by omega)]; exact h2⟩ ?_
      rintro a2 ⟨g1, g2, g3⟩
      simp -implicitDefEqProofs [-Int.not_le, -Int.not_lt, -Nat.not_le, -Nat.not_lt, -List.map_take, -List.map_drop]
      refine WPl_split rfl (fun h6 => ?_) (fun h6 => ?_)
      · have hal2 : a2 < src.length := by simpa using h6
        have hali2 : (a2 : Int) < src.length := by omega
        have hb2 := List.getElem?_eq_getElem hal2
        have hd2 : src.drop a2 = src[a2] :: src.drop (a2 + 1) := List.drop_eq_getElem_cons hal2
        have hw2 : IntKind.i64.wrap ((a2 : Int) + 1) = (a2 : Int) + 1 := wrap_i64 (by omega) (by omega)
        have hneq : a2 = a → src[a2].toNat = 47 := fun e => by
          have : src[a2]? = some b := by rw [e]; exact hb
          rw [hb2] at this
          cases this
          exact h47
        rw [hd2, restS_true] at g3
        simp -implicitDefEqProofs [-Int.not_le, -Int.not_lt, -Nat.not_le, -Nat.not_lt, -List.map_take, -List.map_drop, hal2, hali2, hb2]
        by_cases h10 : src[a2].toNat = 10
        · have h10' : ((src[a2].toNat : Int) != 10) = false := by simp; omega
          rw [if_pos h10] at g3
          rw [h10']
          simp -implicitDefEqProofs [-Int.not_le, -Int.not_lt, -Nat.not_le, -Nat.not_lt, -List.map_take, -List.map_drop]
          refine ⟨a2, ⟨g2, ?_⟩, ?_, Weak.ofE (by simp) rfl (Nat.le_refl _)⟩
          · rw [hd2, restS_false, if_pos (.inl h10)]; exact g3
          · have : a2 ≠ a := fun e => by have := hneq e; omega
            omega
        · have h10' : ((src[a2].toNat : Int) != 10) = true := by simp; omega
          rw [if_neg h10] at g3
          rw [h10']
          simp -implicitDefEqProofs [-Int.not_le, -Int.not_lt, -Nat.not_le, -Nat.not_lt, -List.map_take, -List.map_drop, hw2]
          exact ⟨a2 + 1, ⟨by omega, hal2, g3⟩, by omega, Weak.ofE (by simp) rfl (Nat.le_refl _)⟩
      · have hk' : a2 = src.length := by simp at h6; omega
        subst hk'
        rw [List.drop_length, restS_nil] at g3
        simp -implicitDefEqProofs [-Int.not_le, -Int.not_lt, -Nat.not_le, -Nat.not_lt, -List.map_take, -List.map_drop, h6]
        refine ⟨src.length, ⟨Nat.le_refl _, by rw [List.drop_length, restS_nil]; exact g3⟩, by omega, Weak.ofE (by simp) rfl (Nat.le_refl _)⟩
end Go.Proofs.YtoplaknmmglagaaDoor.T
