/-
law11: the words.
-/
import Derived.Test.YtoplaknmmglagaaDoorT3
set_option linter.unusedVariables false
set_option linter.unusedSimpArgs false
namespace Go.Proofs.YtoplaknmmglagaaDoor.T
open Go Go.AX

/-- type struct func var if else for return print input int bool true false -/
def wordsL : List (List UInt8) := [[116, 121, 112, 101], [115, 116, 114, 117, 99, 116], [102, 117, 110, 99], [118, 97, 114], [105, 102], [101, 108, 115, 101], [102, 111, 114], [114, 101, 116, 117, 114, 110], [112, 114, 105, 110, 116], [105, 110, 112, 117, 116], [105, 110, 116], [98, 111, 111, 108], [116, 114, 117, 101], [102, 97, 108, 115, 101]]

/-- A map's entries: each text with its place. -/
def ents : List (List UInt8) → Nat → List (AV × AV)
  | [], _ => []
  | w :: ws, i => (sv w, .int .i64 i) :: ents ws (i + 1)

theorem ents_append : ∀ (a b : List (List UInt8)) (i : Nat), ents (a ++ b) i = ents a i ++ ents b (i + a.length)
  | [], b, i => by simp [ents]
  | w :: a, b, i => by simp only [List.cons_append, ents, ents_append a b (i + 1), List.length_cons]; congr 3; omega

theorem findM_ents (t : List UInt8) : ∀ (ws : List (List UInt8)) (i j : Nat), (t ∉ ws ∧ findM 3 (ents ws i) (sv t) j = some none) ∨ (t ∈ ws ∧ ∃ p v, findM 3 (ents ws i) (sv t) j = some (some (p, v)))
  | [], i, j => .inl ⟨by simp, rfl⟩
  | w :: ws, i, j => by
    by_cases h : t = w
    · subst h
      exact .inr ⟨by simp, j, .int .i64 i, by simp [ents, findM]⟩
    · have h' : eqK 3 (sv t) (sv w) = some false := by simp [h]
      rcases findM_ents t ws (i + 1) (j + 1) with ⟨h1, h2⟩ | ⟨h1, p, v, h2⟩
      · exact .inl ⟨by simp [h, h1], by simp only [ents, findM, h']; exact h2⟩
      · exact .inr ⟨by simp [h1], p, v, by simp only [ents, findM, h']; exact h2⟩

theorem updM_ents {ws : List (List UInt8)} {t : List UInt8} (h : t ∉ ws) (v : AV) : updM 3 (ents ws 0) (sv t) v = some (ents ws 0 ++ [(sv t, v)]) := by
  rcases findM_ents t ws 0 0 with ⟨_, h2⟩ | ⟨h1, _⟩
  · unfold updM
    rw [h2, show eqK 3 (sv t) (sv t) = some true by simp]
  · exact absurd h1 h

theorem words_spec : ProcC Tryd.prog 17 [] [] 0 (fun r H c => r = .mref 1 1 ∧ H = [some (.cells 0 (wordsL.map fun w => [sv w])), some (.mp 1 (ents wordsL 0))] ∧ c = 2) := by
  refine ProcC.introK k17 (by show 0 ≤ 21; decide) ?_
  simp -implicitDefEqProofs [-Int.not_le, -Int.not_lt, -Nat.not_le, -Nat.not_lt, -List.map_take, -List.map_drop]
  refine WPk_loop (fun k : Nat => ⟨[(2, .mref 1 1), (9, .ref 0 0 1 0 14), (10, .int .i64 14), (11, .int .i64 k)], [some (.cells 0 (wordsL.map fun w => [sv w])), some (.mp 1 (ents (wordsL.take k) 0))], 2⟩) (fun k => k ≤ 14) (fun k => 14 - k) 0 (Weak.ofE (by simp) rfl (Nat.le_refl _)) (Nat.zero_le _) ?_
  intro k hk
  simp -implicitDefEqProofs [-Int.not_le, -Int.not_lt, -Nat.not_le, -Nat.not_lt, -List.map_take, -List.map_drop]
  refine WPk_split rfl (fun h => ?_) (fun h => ?_)
  · have hk' : k < 14 := by simp at h; omega
    have hb : wordsL[k]? = some (wordsL.getD k []) := by
      have : k < wordsL.length := hk'
      simp [List.getD, this]
    have hn : wordsL.getD k [] ∉ wordsL.take k := (by decide : ∀ k, k < 14 → wordsL.getD k [] ∉ wordsL.take k) k hk'
    have hu := updM_ents hn (.int .i64 (k : Int))
    have ht : ents (wordsL.take k) 0 ++ [(sv (wordsL.getD k []), .int .i64 (k : Int))] = ents (wordsL.take (k + 1)) 0 := by
      rw [List.take_add_one, hb, ents_append]
      simp [ents]
      have : k < wordsL.length := hk'
      omega
    rw [ht] at hu
    generalize wordsL.getD k [] = w at hb hu
    have hki : (k : Int) < 14 := by omega
    simp -implicitDefEqProofs [-Int.not_le, -Int.not_lt, -Nat.not_le, -Nat.not_lt, -List.map_take, -List.map_drop, hk', hki, hb, hu]
    refine ⟨k + 1, by omega, by omega, Weak.ofE (by simp; exact wrap_i64 (by omega) (by omega)) rfl (Nat.le_refl _)⟩
  · have hk' : k = 14 := by simp at h; omega
    subst hk'
    simp -implicitDefEqProofs [-Int.not_le, -Int.not_lt, -Nat.not_le, -Nat.not_lt, -List.map_take, -List.map_drop]
    rfl
end Go.Proofs.YtoplaknmmglagaaDoor.T
