/-
law11: blanks.
-/
import Derived.Test.YtoplaknmmglagaaDoorT4
set_option linter.unusedVariables false
set_option linter.unusedSimpArgs false
namespace Go.Proofs.YtoplaknmmglagaaDoor.T
open Go Go.AX

/-- What is left behind blanks, and its line; in a comment, or not. -/
def blankS : Bool → List UInt8 → Int → List UInt8 × Int
  | _, [], n => ([], n)
  | true, b :: l, n => if b.toNat = 10 then blankS false l (n + 1) else blankS true l n
  | false, b :: l, n => if b.toNat = 10 then blankS false l (n + 1) else if b.toNat = 32 ∨ b.toNat = 9 ∨ b.toNat = 13 then blankS false l n else if (b :: l).take 2 = [47, 47] then blankS true l n else (b :: l, n)

theorem frz_bytes {al : Bool} {H : Heap} {id g n : Nat} {bs : List UInt8} (h : Go.AX.rowAt H id g = some (bs.map byv)) (hn : n = bs.length) : Frz al H (.ref id g 1 0 n) (bv bs) := by
  subst hn
  refine .ref id g 1 0 bs.length (bs.map byv) (bs.map byv) h (by simp) (by simp) (fun i e e' h1 h2 => ?_) (fun i j e e' c c' h1 h2 h3 h4 => ?_)
  · rw [Nat.zero_add] at h1; rw [h1] at h2; cases h2; rfl
  · rw [Nat.zero_add] at h1; rw [h1] at h2; cases h2
    rw [h3] at h4; cases h4
    rw [List.getElem?_map, Option.map_eq_some_iff] at h1
    obtain ⟨b, _, rfl⟩ := h1
    cases j with
    | zero => simp at h3; subst h3; exact .int _ _
    | succ j => simp at h3

theorem frzs2 {al : Bool} {H : Heap} {a b a' b' : AV} (h1 : Frz al H a a') (h2 : Frz al H b b') : Frzs al H [a, b] [a', b'] :=
  ⟨rfl, fun j c c' hc hc' => by
    match j with
    | 0 => simp at hc hc'; subst hc; subst hc'; exact h1
    | 1 => simp at hc hc'; subst hc; subst hc'; exact h2
    | j + 2 => simp at hc⟩

theorem longS_le (p : Int → Bool) : ∀ l : List UInt8, longS p l ≤ l.length
  | [] => Nat.le_refl _
  | b :: l => by
    simp only [longS, List.length_cons]
    have := longS_le p l
    split <;> omega

theorem blankS_true : ∀ (l : List UInt8) (n : Int), blankS true l n = blankS false (l.drop (longS (fun n => n != 10) l)) n
  | [], n => by simp [blankS, longS]
  | b :: l, n => by
    by_cases h : b.toNat = 10
    · have : ((b.toNat : Int) != 10) = false := by simp [h]
      rw [longS, this]
      simp [blankS, h]
    · have : ((b.toNat : Int) != 10) = true := by simp; omega
      rw [longS, this, if_pos rfl, List.drop_succ_cons, blankS, if_neg h]
      exact blankS_true l n

/-- A scanner's block. -/
abbrev scB (g : Nat) (l : List UInt8) (n : Int) (mi mg : Nat) : Blk := .cells g [[bv l, .int .i64 n, .mref mi mg]]

theorem blanks_spec {H : Heap} {id g c : Nat} {l0 : List UInt8} {n0 : Int} {mi mg : Nat} (hH : At H id (scB g l0 n0 mi mg)) (hn : 0 ≤ n0) (hb : n0 + l0.length ≤ 4611686018427387904) :
    ProcC Tryd.prog 18 [.ptr id g 0 0] H c (fun r H' c' => r = .tup [] ∧ H' = H.set id (some (scB g (blankS false l0 n0).1 (blankS false l0 n0).2 mi mg)) ∧ c ≤ c') := by
  refine ProcC.mono (post := fun r H' c' => r = .tup [] ∧ (∃ L, H' = H.set id (some (scB g (blankS false l0 n0).1 (blankS false l0 n0).2 mi mg)) ++ L) ∧ c ≤ c') ?_ ?_
  case refine_2 =>
    rintro r H' c' ⟨rfl, ⟨L, rfl⟩, hc⟩
    refine ⟨_, c', fun i b hi => ?_, Nat.le_refl _, rfl, rfl, hc⟩
    rw [List.getElem?_append_left (List.getElem?_eq_some_iff.1 hi).1]; exact hi
  have hlt := hH.lt
  have happ : ∀ (b : Blk) (L : Heap), (H.set id (some b) ++ L)[id]? = some (some b) := fun b L => by
    rw [List.getElem?_append_left (by simpa using hlt), List.getElem?_set_self hlt]
  have hset : ∀ (b : Blk) (x : Option Blk) (L : Heap), (H.set id (some b) ++ L).set id x = H.set id x ++ L := fun b x L => by
    rw [List.set_append_left _ _ (by simpa using hlt), List.set_set]
  refine ProcC.introK k18 (by show 1 ≤ 61; decide) ?_
  simp -implicitDefEqProofs [-Int.not_le, -Int.not_lt, -Nat.not_le, -Nat.not_lt, -List.map_take, -List.map_drop]
  refine WPk_loop (α := List UInt8 × Int × Nat) (fun q => ⟨[(0, .ptr id g 0 0)], H.set id (some (scB g q.1 q.2.1 mi mg)), q.2.2⟩) (fun q => blankS false q.1 q.2.1 = blankS false l0 n0 ∧ 0 ≤ q.2.1 ∧ q.2.1 + q.1.length ≤ 4611686018427387904 ∧ c ≤ q.2.2) (fun q => q.1.length) (l0, n0, c) ?_ ⟨rfl, hn, hb, Nat.le_refl _⟩ ?_
  · refine Weak.of (by simp) (fun i b hi => ?_) (Nat.le_refl _)
    have : H.set id (some (scB g l0 n0 mi mg)) = H := List.ext_getElem? fun j => by
      rw [List.getElem?_set]
      split
      · rename_i e; subst e; rw [hH.get]
      · rfl
    rw [← this]; exact hi
  rintro ⟨l, n, k⟩ ⟨hs, hn', hb', hk⟩
  simp only at hs hn' hb' hk
  simp -implicitDefEqProofs [-Int.not_le, -Int.not_lt, -Nat.not_le, -Nat.not_lt, -List.map_take, -List.map_drop, hlt]
  cases l with
  | nil =>
    simp -implicitDefEqProofs [-Int.not_le, -Int.not_lt, -Nat.not_le, -Nat.not_lt, -List.map_take, -List.map_drop, hlt]
    refine ⟨⟨[], ?_⟩, hk⟩
    rw [← hs]
    simp [blankS]
  | cons b0 l =>
    simp only [List.length_cons] at hb'
    have hw : IntKind.i64.wrap (n + 1) = n + 1 := wrap_i64 (by omega) (by omega)
    have h1l : (1 : Int) ≤ l.length + 1 := by omega
    simp -implicitDefEqProofs [-Int.not_le, -Int.not_lt, -Nat.not_le, -Nat.not_lt, -List.map_take, -List.map_drop, hlt]
    refine WPk_split rfl (fun h => ?_) (fun h => ?_)
    · have c10 : b0.toNat = 10 := by simp at h; omega
      simp -implicitDefEqProofs [-Int.not_le, -Int.not_lt, -Nat.not_le, -Nat.not_lt, -List.map_take, -List.map_drop, hlt, hw, h1l]
      refine ⟨l, n + 1, k, ⟨?_, by omega, by omega, hk⟩, by omega, Weak.ofE (by simp) rfl (Nat.le_refl _)⟩
      rw [← hs, blankS, if_pos c10]
    have c10 : ¬ b0.toNat = 10 := by simp at h; omega
    simp -implicitDefEqProofs [-Int.not_le, -Int.not_lt, -Nat.not_le, -Nat.not_lt, -List.map_take, -List.map_drop, hlt]
    refine WPk_split rfl (fun h => ?_) (fun h => ?_)
    · have c32 : b0.toNat = 32 := by simp at h; omega
      simp -implicitDefEqProofs [-Int.not_le, -Int.not_lt, -Nat.not_le, -Nat.not_lt, -List.map_take, -List.map_drop, hlt, h1l, h]
      refine ⟨l, n, k, ⟨?_, by omega, by omega, hk⟩, by omega, Weak.ofE (by simp) rfl (Nat.le_refl _)⟩
      rw [← hs, blankS, if_neg c10, if_pos (.inl c32)]
    have c32 : ¬ b0.toNat = 32 := by simp at h; omega
    simp -implicitDefEqProofs [-Int.not_le, -Int.not_lt, -Nat.not_le, -Nat.not_lt, -List.map_take, -List.map_drop, hlt, h]
    refine WPk_split rfl (fun h => ?_) (fun h => ?_)
    · have c9 : b0.toNat = 9 := by simp at h; omega
      simp -implicitDefEqProofs [-Int.not_le, -Int.not_lt, -Nat.not_le, -Nat.not_lt, -List.map_take, -List.map_drop, hlt, h1l, h]
      refine ⟨l, n, k, ⟨?_, by omega, by omega, hk⟩, by omega, Weak.ofE (by simp) rfl (Nat.le_refl _)⟩
      rw [← hs, blankS, if_neg c10, if_pos (.inr (.inl c9))]
    have c9 : ¬ b0.toNat = 9 := by simp at h; omega
    simp -implicitDefEqProofs [-Int.not_le, -Int.not_lt, -Nat.not_le, -Nat.not_lt, -List.map_take, -List.map_drop, hlt, h]
    refine WPk_split rfl (fun h => ?_) (fun h => ?_)
    · have c13 : b0.toNat = 13 := by simp at h; omega
      simp -implicitDefEqProofs [-Int.not_le, -Int.not_lt, -Nat.not_le, -Nat.not_lt, -List.map_take, -List.map_drop, hlt, h1l, h]
      refine ⟨l, n, k, ⟨?_, by omega, by omega, hk⟩, by omega, Weak.ofE (by simp) rfl (Nat.le_refl _)⟩
      rw [← hs, blankS, if_neg c10, if_pos (.inr (.inr c13))]
    have c13 : ¬ b0.toNat = 13 := by simp at h; omega
    simp -implicitDefEqProofs [-Int.not_le, -Int.not_lt, -Nat.not_le, -Nat.not_lt, -List.map_take, -List.map_drop, hlt, h]
    refine CallWP.brw (hasPrefix_spec (b0 :: l) [47, 47]) rfl (frzs2 (.vec _ rfl) (frz_bytes (by simp [Go.AX.rowAt, List.getElem?_append]) rfl)) ?_
    refine WPk_split rfl (fun h => ?_) (fun h => ?_)
    · have hp : (b0 :: l).take 2 = [47, 47] := by simp at h; simp [h]
      simp -implicitDefEqProofs [-Int.not_le, -Int.not_lt, -Nat.not_le, -Nat.not_lt, -List.map_take, -List.map_drop, hlt, happ, hset]
      refine CallWP.pure (long_spec _ blanks1_spec (b0 :: l) (by simp; omega)) rfl ?_
      have hl1 := longS_le (fun n => n != 10) (b0 :: l)
      have hl2 : 0 < longS (fun n => n != 10) (b0 :: l) := by
        have : ((b0.toNat : Int) != 10) = true := by simp; omega
        rw [longS, this]; simp
      have hbl : blankS false ((b0 :: l).drop (longS (fun n => n != 10) (b0 :: l))) n = blankS false l0 n0 := by
        rw [← hs, ← blankS_true]
        rw [blankS, blankS, if_neg c10, if_neg c10, if_neg (by omega), if_pos hp]
      simp only [List.length_cons] at hl1
      generalize longS (fun n => n != 10) (b0 :: l) = m at hl1 hl2 hbl ⊢
      have hmi : (m : Int) ≤ l.length + 1 := by omega
      simp -implicitDefEqProofs [-Int.not_le, -Int.not_lt, -Nat.not_le, -Nat.not_lt, -List.map_take, -List.map_drop, hlt, happ, hset, hl1, hmi]
      refine ⟨(b0 :: l).drop m, n, k + 1, ⟨hbl, hn', by simp; omega, by omega⟩, by simp; omega, Weak.of (by simp) (fun i b hi => ?_) (Nat.le_refl _)⟩
      have hcd : List.drop m ([AV.int .u8 b0.toNat] :: l.map byv) = ((b0 :: l).drop m).map byv := by rw [List.map_drop]; rfl
      simp only at hi ⊢
      rw [hcd, List.getElem?_append_left (by have := (List.getElem?_eq_some_iff.1 hi).1; simpa using this)]; exact hi
    · have hp : ¬ (b0 :: l).take 2 = [47, 47] := by
        intro hp
        cases l with
        | nil => simp at hp
        | cons b2 l => simp at hp; simp [hp] at h
      simp -implicitDefEqProofs [-Int.not_le, -Int.not_lt, -Nat.not_le, -Nat.not_lt, -List.map_take, -List.map_drop, hlt]
      refine ⟨⟨[some (.cells k [[.int .u8 47], [.int .u8 47]])], ?_⟩, by omega⟩
      rw [← hs, blankS, if_neg c10, if_neg (by omega), if_neg hp]
end Go.Proofs.YtoplaknmmglagaaDoor.T
