/-
law11: the reference: lists of words and signs; numbers; blanks.
-/
import Derived.Test.YtoplaknmmglagaaDoorT17
set_option linter.unusedVariables false
set_option linter.unusedSimpArgs false
namespace Go.Proofs.YtoplaknmmglagaaDoor.T
open Go Go.AX

abbrev strsV (l : List (List UInt8)) : AV := .vec (l.map fun s => [sv s])
def signsL : List (List UInt8) := signs2 ++ signs1.map fun b => [b]

theorem frz_strs {al : Bool} {H : Heap} {id g n : Nat} {l : List (List UInt8)} (h : Go.AX.rowAt H id g = some (l.map fun s => [sv s])) (hn : n = l.length) : Frz al H (.ref id g 1 0 n) (strsV l) :=
  frz_row h (by simpa using hn) fun e he c hc => by
    obtain ⟨t, _, rfl⟩ := List.mem_map.1 he
    simp at hc
    subst hc
    rfl

theorem words2_spec : PureC Tryd.prog false 31 [] (strsV wordsL) := by
  refine PureC.introK k31 (by show 0 ≤ 2; decide) ?_
  simp -implicitDefEqProofs [-Int.not_le, -Int.not_lt, -Nat.not_le, -Nat.not_lt, -List.map_take, -List.map_drop]
  exact frz_strs rfl rfl

theorem signs_spec : PureC Tryd.prog false 33 [] (strsV signsL) := by
  refine PureC.introK k33 (by show 0 ≤ 2; decide) ?_
  simp -implicitDefEqProofs [-Int.not_le, -Int.not_lt, -Nat.not_le, -Nat.not_lt, -List.map_take, -List.map_drop]
  exact frz_strs rfl rfl

theorem in_spec (l : List (List UInt8)) (s : List UInt8) (hlen : l.length ≤ 1000000) : PureC Tryd.prog false 30 [strsV l, sv s] (.bool (decide (s ∈ l))) := by
  refine PureC.introK k30 (by show 2 ≤ 18; decide) ?_
  simp -implicitDefEqProofs [-Int.not_le, -Int.not_lt, -Nat.not_le, -Nat.not_lt, -List.map_take, -List.map_drop]
  refine WPk_loop (fun k : Nat => ⟨[(0, strsV l), (1, sv s), (5, .int .i64 k)], [], 0⟩) (fun k => k ≤ l.length ∧ s ∉ l.take k) (fun k => l.length - k) 0 (Weak.ofE (by simp) rfl (Nat.le_refl _)) ⟨Nat.zero_le _, by simp⟩ ?_
  rintro k ⟨hk, hno⟩
  simp -implicitDefEqProofs [-Int.not_le, -Int.not_lt, -Nat.not_le, -Nat.not_lt, -List.map_take, -List.map_drop]
  refine WPk_split rfl (fun h => ?_) (fun h => ?_)
  · have hk' : k < l.length := by simpa using h
    have hb := List.getElem?_eq_getElem hk'
    have htk : l.take (k + 1) = l.take k ++ [l[k]] := by rw [List.take_add_one, hb]; rfl
    have hmem : l[k] ∈ l := List.getElem_mem hk'
    generalize l[k] = y at hb htk hmem
    have hw : IntKind.i64.wrap ((k : Int) + 1) = (k : Int) + 1 := wrap_i64 (by omega) (by omega)
    by_cases he : y = s
    · subst he
      have hd : decide (y ∈ l) = true := by simpa using hmem
      rw [hd]
      simp -implicitDefEqProofs [-Int.not_le, -Int.not_lt, -Nat.not_le, -Nat.not_lt, -List.map_take, -List.map_drop, hb, beq_self_eq_true]
      exact .bool _
    · have hne : (y == s) = false := by simpa using he
      simp -implicitDefEqProofs [-Int.not_le, -Int.not_lt, -Nat.not_le, -Nat.not_lt, -List.map_take, -List.map_drop, hb, hne, hw]
      refine ⟨k + 1, ⟨hk', ?_⟩, by omega, Weak.ofE (by simp) rfl (Nat.le_refl _)⟩
      rw [htk]
      simp [hno, Ne.symm he]
  · have hk' : k = l.length := by simp at h; omega
    subst hk'
    rw [List.take_length] at hno
    have hd : decide (s ∈ l) = false := by simpa using hno
    rw [hd]
    simp -implicitDefEqProofs [-Int.not_le, -Int.not_lt, -Nat.not_le, -Nat.not_lt, -List.map_take, -List.map_drop]
    exact .bool _

theorem wrap_u8' {n : Int} (h0 : 0 ≤ n) (h1 : n < 256) : IntKind.u8.wrap n = n := by
  show Int.emod n (2 ^ 8) = n
  exact Int.emod_eq_of_lt h0 h1
theorem frz2 {al : Bool} {H : Heap} {a b a' b' : AV} (h1 : Frz al H a a') (h2 : Frz al H b b') : Frz al H (.tup [a, b]) (.tup [a', b']) :=
  .tup _ _ rfl fun j x x' hx hx' => by
    match j with
    | 0 => simp at hx hx'; subst hx; subst hx'; exact h1
    | 1 => simp at hx hx'; subst hx; subst hx'; exact h2
    | j + 2 => simp at hx
theorem wrap_i64' {n : Int} (h0 : 0 ≤ n) (h1 : n ≤ 9223372036854775807) : IntKind.i64.wrap n = n := wrap_i64 (by omega) (by omega)

/-- What the reference says of digits. -/
def numR (s : List UInt8) : Int × Bool := if numA s 0 < 9223372036854775808 then ((numA s 0 : Int), decide (s.length = 1) || !(s.head? == some 48)) else (0, false)

theorem numA_app (b : UInt8) : ∀ (t : List UInt8) (acc : Nat), numA (t ++ [b]) acc = 10 * numA t acc + (b.toNat - 48)
  | [], acc => rfl
  | c :: t, acc => by rw [List.cons_append, numA_cons, numA_app b t, numA_cons]
theorem numA_take_le (s : List UInt8) (acc : Nat) : ∀ k, numA (s.take k) acc ≤ numA s acc := fun k => by
  have : ∀ (a b : List UInt8) (acc : Nat), numA (a ++ b) acc = numA b (numA a acc) := fun a b => by
    induction a with
    | nil => intro acc; rfl
    | cons c a ih => intro acc; rw [List.cons_append, numA_cons, ih, numA_cons]
  have h := this (s.take k) (s.drop k) acc
  rw [List.take_append_drop] at h
  rw [h]
  exact numA_ge _ _

theorem number2_spec (s : List UInt8) (hd : allDig s) (hne : s ≠ []) (hlen : s.length ≤ 1000000) : PureC Tryd.prog false 32 [sv s] (.tup [.int .i64 (numR s).1, .bool (numR s).2]) := by
  refine PureC.introK k32 (by show 1 ≤ 36; decide) ?_
  simp -implicitDefEqProofs [-Int.not_le, -Int.not_lt, -Nat.not_le, -Nat.not_lt, -List.map_take, -List.map_drop]
  refine WPk_loop (fun k : Nat => ⟨[(0, sv s), (4, .int .i64 (numA (s.take k) 0)), (5, .int .i64 k)], [], 0⟩) (fun k => k ≤ s.length ∧ numA (s.take k) 0 < 9223372036854775808) (fun k => s.length - k) 0 (Weak.ofE (by simp [numA]) rfl (Nat.le_refl _)) ⟨Nat.zero_le _, by simp [numA]⟩ ?_
  rintro k ⟨hk, hlt⟩
  simp -implicitDefEqProofs [-Int.not_le, -Int.not_lt, -Nat.not_le, -Nat.not_lt, -List.map_take, -List.map_drop]
  refine WPk_split rfl (fun h => ?_) (fun h => ?_)
  · have hk' : k < s.length := by simpa using h
    have hb := List.getElem?_eq_getElem hk'
    have hdig := (digB_iff s[k]).1 (hd _ (List.getElem_mem hk'))
    have htk : numA (s.take (k + 1)) 0 = 10 * numA (s.take k) 0 + (s[k].toNat - 48) := by
      rw [List.take_add_one, hb]
      exact numA_app _ _ _
    have hle := numA_take_le s 0 (k + 1)
    generalize s[k] = b at hb hdig htk
    have hw : IntKind.i64.wrap ((k : Int) + 1) = (k : Int) + 1 := wrap_i64 (by omega) (by omega)
    have hw1 : IntKind.u8.wrap ((b.toNat : Int) - 48) = ((b.toNat - 48 : Nat) : Int) := by rw [wrap_u8' (by omega) (by omega)]; omega
    have hd9 : b.toNat - 48 ≤ 9 := by omega
    generalize b.toNat - 48 = d at htk hw1 hd9
    generalize numA (s.take k) 0 = x at hlt htk ⊢
    have hw2 : IntKind.i64.wrap (d : Int) = d := wrap_i64' (by omega) (by omega)
    have hw3 : IntKind.i64.wrap (9223372036854775807 - (d : Int)) = 9223372036854775807 - (d : Int) := wrap_i64' (by omega) (by omega)
    have htd : Int.tdiv (9223372036854775807 - (d : Int)) 10 = (9223372036854775807 - (d : Int)) / 10 := Int.tdiv_eq_ediv_of_nonneg (by omega)
    have hw4 : IntKind.i64.wrap ((9223372036854775807 - (d : Int)) / 10) = (9223372036854775807 - (d : Int)) / 10 := wrap_i64' (by omega) (by omega)
    simp -implicitDefEqProofs [-Int.not_le, -Int.not_lt, -Nat.not_le, -Nat.not_lt, -List.map_take, -List.map_drop, ba_get, hb, hw1, hw2, hw3, htd, hw4]
    by_cases hbig : 10 * x + d < 9223372036854775808
    · have hgt : ¬ ((9223372036854775807 - (d : Int)) / 10 < (x : Int)) := by omega
      have hw5 : IntKind.i64.wrap (10 * (x : Int)) = 10 * (x : Int) := wrap_i64' (by omega) (by omega)
      have hw6 : IntKind.i64.wrap (10 * (x : Int) + d) = 10 * (x : Int) + d := wrap_i64' (by omega) (by omega)
      simp -implicitDefEqProofs [-Int.not_le, -Int.not_lt, -Nat.not_le, -Nat.not_lt, -List.map_take, -List.map_drop, hgt, hw, hw5, hw6]
      exact ⟨k + 1, ⟨hk', by rw [htk]; exact hbig⟩, by omega, Weak.ofE (by simp [htk]) rfl (Nat.le_refl _)⟩
    · have hgt : (9223372036854775807 - (d : Int)) / 10 < (x : Int) := by omega
      have hR : numR s = (0, false) := by unfold numR; rw [if_neg (by omega)]
      rw [hR]
      simp -implicitDefEqProofs [-Int.not_le, -Int.not_lt, -Nat.not_le, -Nat.not_lt, -List.map_take, -List.map_drop, hgt]
      exact frz2 (.int _ _) (.bool _)
  · have hk' : k = s.length := by simp at h; omega
    subst hk'
    rw [List.take_length] at hlt ⊢
    obtain ⟨b0, hb0⟩ : ∃ b0, s[0]? = some b0 := ⟨_, List.getElem?_eq_getElem (List.length_pos_iff.2 hne)⟩
    have hh : s.head? = some b0 := by rw [← hb0, List.head?_eq_getElem?]
    have hR : numR s = ((numA s 0 : Int), decide (s.length = 1) || !(some b0 == some 48)) := by unfold numR; rw [if_pos hlt, hh]
    rw [hR]
    simp -implicitDefEqProofs [-Int.not_le, -Int.not_lt, -Nat.not_le, -Nat.not_lt, -List.map_take, -List.map_drop, ba_get, hb0]
    refine WPm_split rfl (fun h => ?_) (fun h => ?_)
    · have h1 : decide (s.length = 1) = false := by simp at h; simp; omega
      simp -implicitDefEqProofs [-Int.not_le, -Int.not_lt, -Nat.not_le, -Nat.not_lt, -List.map_take, -List.map_drop, h, ba_get, hb0]
      refine frz2 (.int _ _) (frzB ?_)
      rw [h1]
      by_cases h48 : b0 = 48
      · subst h48; rfl
      · have : ((b0.toNat : Int) != 48) = true := by
          have : b0.toNat ≠ 48 := fun e => h48 (UInt8.toNat_inj.1 e)
          simp; omega
        rw [this]
        simp [h48]
    · have h1 : decide (s.length = 1) = true := by simp at h; simp; omega
      simp -implicitDefEqProofs [-Int.not_le, -Int.not_lt, -Nat.not_le, -Nat.not_lt, -List.map_take, -List.map_drop, h]
      refine frz2 (.int _ _) (frzB ?_)
      rw [h1]
      rfl
end Go.Proofs.YtoplaknmmglagaaDoor.T
