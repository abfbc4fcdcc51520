/-
law11: the anchor; two sources with a line end between.
-/
import Derived.Test.YtoplaknmmglagaaDoorT13
import Derived.KernelRfl
set_option linter.unusedVariables false
set_option linter.unusedSimpArgs false
namespace Go.Proofs.YtoplaknmmglagaaDoor.T
open Go Go.AX

theorem scanR_eq (src : List UInt8) : scanR src = if 16384 < src.length then ⟨[], 0, 11⟩ else match scanA (src.length + 1) src 1 with
  | (_, some n) => ⟨[], n, 6⟩
  | (ts, none) => ⟨ts, 0, 0⟩ := rfl

/-- if a<=b{//c, print(9) -/
def lit1 : List UInt8 := [105, 102, 32, 97, 60, 61, 98, 123, 47, 47, 99, 10, 112, 114, 105, 110, 116, 40, 57, 41]
/-- x1 = 07; -/
def lit2 : List UInt8 := [120, 49, 32, 61, 32, 48, 55, 59]
def lit1R : List Tk := [⟨3, [105, 102], 0, 1⟩, ⟨1, [97], 0, 1⟩, ⟨4, [60, 61], 0, 1⟩, ⟨1, [98], 0, 1⟩, ⟨4, [123], 0, 1⟩, ⟨3, [112, 114, 105, 110, 116], 0, 2⟩, ⟨4, [40], 0, 2⟩, ⟨2, [57], 9, 2⟩, ⟨4, [41], 0, 2⟩]
theorem lit1_scan : scanR lit1 = ⟨lit1R, 0, 0⟩ := by kernel_rfl
theorem lit2_scan : scanR lit2 = ⟨[], 1, 6⟩ := by kernel_rfl

theorem frzs1 {al : Bool} {H : Heap} {a a' : AV} (h1 : Frz al H a a') : Frzs al H [a] [a'] :=
  ⟨rfl, fun j c c' hc hc' => by
    match j with
    | 0 => simp at hc hc'; subst hc; subst hc'; exact h1
    | j + 1 => simp at hc⟩

theorem works_spec : PureC Tryd.prog false 7 [] (.bool true) := by
  refine PureC.introK k7 (by show 0 ≤ 66; decide) ?_
  simp -implicitDefEqProofs [-Int.not_le, -Int.not_lt, -Nat.not_le, -Nat.not_lt, -List.map_take, -List.map_drop]
  have h1 := scan_spec lit1 (by decide)
  rw [lit1_scan] at h1
  have h2 := scan_spec lit2 (by decide)
  rw [lit2_scan] at h2
  refine CallWP.brw h1 rfl (frzs1 (frz_bytes rfl rfl)) ?_
  simp -implicitDefEqProofs [-Int.not_le, -Int.not_lt, -Nat.not_le, -Nat.not_lt, -List.map_take, -List.map_drop, lit1R]
  refine CallWP.brw h2 rfl (frzs1 (frz_bytes rfl rfl)) ?_
  simp -implicitDefEqProofs [-Int.not_le, -Int.not_lt, -Nat.not_le, -Nat.not_lt, -List.map_take, -List.map_drop, lit1R]
  exact .bool _

/-- A line end between two sources. -/
theorem cuts_bad (a b : List UInt8) (h : a.length + b.length ≤ 16383) (he : (scanR a).e ≠ 0) : (scanR a).ts = [] ∧ scanR (a ++ 10 :: b) = scanR a := by
  have hl : (a ++ 10 :: b).length = a.length + b.length + 1 := by simp; omega
  have hk := scanA_10 b a.length a 1 (a.length + 1) ((a ++ 10 :: b).length + 1) (Nat.le_refl _) (by omega) (by omega)
  simp only [scanR_eq] at he ⊢
  rw [if_neg (by omega)] at he ⊢
  rw [if_neg (by omega), hk]
  generalize scanA (a.length + 1) a 1 = z at he ⊢
  obtain ⟨ts, o⟩ := z
  cases o with
  | none => exact absurd rfl he
  | some m => exact ⟨rfl, rfl⟩

theorem cuts_good (a b : List UInt8) (h : a.length + b.length ≤ 16383) (he : (scanR a).e = 0) :
    ((scanR b).e ≠ 0 → scanR (a ++ 10 :: b) = ⟨[], (scanR b).n + (cnt a + 1), (scanR b).e⟩) ∧
    ((scanR b).e = 0 → scanR (a ++ 10 :: b) = ⟨(scanR a).ts ++ (scanR b).ts.map fun t => { t with n := t.n + (cnt a + 1) }, 0, 0⟩) := by
  have hl : (a ++ 10 :: b).length = a.length + b.length + 1 := by simp; omega
  have hk := scanA_10 b a.length a 1 (a.length + 1) ((a ++ 10 :: b).length + 1) (Nat.le_refl _) (by omega) (by omega)
  rw [show (1 : Int) + cnt a + 1 = 1 + (cnt a + 1) by omega, scanA_shift, (scanA_fuel (by omega) (by omega) : scanA ((a ++ 10 :: b).length + 1) b 1 = scanA (b.length + 1) b 1)] at hk
  simp only [scanR_eq] at he ⊢
  rw [if_neg (by omega)] at he ⊢
  rw [if_neg (by omega), if_neg (by omega), hk]
  generalize scanA (a.length + 1) a 1 = z at he ⊢
  generalize scanA (b.length + 1) b 1 = y
  obtain ⟨ts, o⟩ := z
  obtain ⟨ts', o'⟩ := y
  cases o with
  | some m => simp at he
  | none =>
    cases o' with
    | some m => exact ⟨fun _ => rfl, fun h => by simp at h⟩
    | none => exact ⟨fun h => absurd rfl h, fun _ => rfl⟩
end Go.Proofs.YtoplaknmmglagaaDoor.T
