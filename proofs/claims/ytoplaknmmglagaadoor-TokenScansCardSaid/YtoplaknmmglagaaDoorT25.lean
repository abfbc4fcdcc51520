/-
law11: TokenScans: the source with room behind it, and that it was kept.
-/
import Derived.Test.YtoplaknmmglagaaDoorT24
set_option linter.unusedVariables false
set_option linter.unusedSimpArgs false
namespace Go.Proofs.YtoplaknmmglagaaDoor.T
open Go Go.AX

def tail8 : List UInt8 := [8, 7, 6, 5, 4, 3, 2, 1]
/-- What stands behind the source when k of the eight are laid. -/
def tailK (k : Nat) : List UInt8 := tail8.take k ++ List.replicate (8 - k) 0
theorem tailK_succ : ∀ k, k < 8 → (tailK k).take k ++ [UInt8.ofNat (8 - k)] ++ (tailK k).drop (k + 1) = tailK (k + 1) := by decide
theorem tailK_len : ∀ k, k < 9 → (tailK k).length = 8 := by decide
theorem nat8 : ∀ k, k < 9 → (UInt8.ofNat (8 - k)).toNat = 8 - k := by decide
def roRow (src : List UInt8) (k : Nat) : List (List AV) := src.map byv ++ (tailK k).map byv
theorem roRow_succ (src : List UInt8) {k : Nat} (h : k < 8) : (roRow src k).take (src.length + k) ++ ([.int .u8 (8 - (k : Int))] :: (roRow src k).drop (src.length + k + 1)) = roRow src (k + 1) := by
  have e := tailK_succ k h
  have e2 := nat8 k (by omega)
  have hb : ([.int .u8 (8 - (k : Int))] : List AV) = byv (UInt8.ofNat (8 - k)) := by simp only [byv, e2]; congr 2; omega
  have l1 : src.length = (src.map byv).length := by simp
  unfold roRow
  rw [← e, hb]
  have t1 : (src.map byv ++ (tailK k).map byv).take (src.length + k) = src.map byv ++ ((tailK k).take k).map byv := by
    rw [l1, List.take_length_add_append, List.map_take]
  have t2 : (src.map byv ++ (tailK k).map byv).drop (src.length + k + 1) = ((tailK k).drop (k + 1)).map byv := by
    rw [l1, Nat.add_assoc, List.drop_length_add_append, List.map_drop]
  rw [t1, t2]
  simp [-List.map_take, -List.map_drop]
theorem roRow_len (src : List UInt8) {k : Nat} (h : k < 9) : (roRow src k).length = src.length + 8 := by simp [roRow, tailK_len k h]

/-- Where the laying of the eight stands. -/
structure Ro where
  k : Nat
  g : Nat
  c : Nat
theorem roomy_spec (src : List UInt8) (hlen : src.length ≤ 1000000) : ProcC Tryd.prog 8 [bv src] [] 0 (fun r H c => ∃ g, r = .ref 0 g 1 0 src.length ∧ H = [some (.cells g (roRow src 8))]) := by
  refine ProcC.introK k8 (by show 1 ≤ 26; decide) ?_
  have hw : IntKind.i64.wrap ((src.length : Int) + 8) = (src.length : Int) + 8 := wrap_i64 (by omega) (by omega)
  have h1 : (src.length : Int) ≤ (src.length : Int) + 8 := by omega
  have h2 : (src.length : Int) + 8 ≤ (roomX : Int) := by unfold roomX; omega
  have h2' : src.length + 8 ≤ roomX := by unfold roomX; omega
  have h3 : ((src.length : Int) + 8).toNat = src.length + 8 := by omega
  simp -implicitDefEqProofs [-Int.not_le, -Int.not_lt, -Nat.not_le, -Nat.not_lt, -List.map_take, -List.map_drop, hw, h1, h2, h2', h3]
  have h0 : src.map byv ++ List.replicate 8 [AV.int .u8 0] = roRow src 0 := rfl
  refine WPk_loop (fun q : Ro => ⟨[(0, bv src), (3, .ref 0 q.g 1 0 (src.length + q.k)), (4, .int .u8 (8 - (q.k : Int)))], [some (.cells q.g (roRow src q.k))], q.c⟩) (fun q => q.k ≤ 8) (fun q => 8 - q.k) ⟨0, 0, 1⟩ (Weak.ofL (by simp) (by simp [HLe, roRow, tailK]) (Nat.le_refl _)) (Nat.zero_le _) ?_
  rintro ⟨k, g, c⟩ hk
  simp only at hk
  simp -implicitDefEqProofs [-Int.not_le, -Int.not_lt, -Nat.not_le, -Nat.not_lt, -List.map_take, -List.map_drop]
  refine WPk_split rfl (fun h => ?_) (fun h => ?_)
  · have hk8 : k < 8 := by simp at h; omega
    have hl := roRow_len src (k := k) (by omega)
    have hs := roRow_succ src hk8
    have hfit : src.length + k + 1 ≤ (roRow src k).length := by omega
    have hw8 : IntKind.u8.wrap (8 - (k : Int) - 1) = 8 - (k : Int) - 1 := wrap_u8' (by omega) (by omega)
    have hne : ¬ src.length + k = (roRow src k).length := by omega
    simp -implicitDefEqProofs [-Int.not_le, -Int.not_lt, -Nat.not_le, -Nat.not_lt, -List.map_take, -List.map_drop, hw8, hfit, hne, hs]
    exact ⟨⟨k + 1, g, _⟩, hk8, by simp only; omega, Weak.ofL (by simp; omega) (by simp [HLe]) (Nat.le_refl _)⟩
  · have hk8 : k = 8 := by simp at h; omega
    subst hk8
    have hl := roRow_len src (k := 8) (by omega)
    have hfit : src.length ≤ (roRow src 8).length := by omega
    simp -implicitDefEqProofs [-Int.not_le, -Int.not_lt, -Nat.not_le, -Nat.not_lt, -List.map_take, -List.map_drop, hfit]
theorem kept_spec (src : List UInt8) (g c : Nat) (hlen : src.length ≤ 1000000) : ProcC Tryd.prog 11 [.ref 0 g 1 0 src.length, bv src] [some (.cells g (roRow src 8))] c (fun r H c => r = .bool true ∧ H = [some (.cells g (roRow src 8))]) := by
  refine ProcC.introK k11 (by show 2 ≤ 50; decide) ?_
  have hw : IntKind.i64.wrap ((src.length : Int) + 8) = (src.length : Int) + 8 := wrap_i64 (by omega) (by omega)
  have hl := roRow_len src (k := 8) (by omega)
  simp -implicitDefEqProofs [-Int.not_le, -Int.not_lt, -Nat.not_le, -Nat.not_lt, -List.map_take, -List.map_drop, hw]
  refine capK_some (fun n hn => ?_)
  have hn2 : ¬ (n : Int) < (src.length : Int) + 8 := by omega
  have hfit : src.length + 8 ≤ (roRow src 8).length := by omega
  have h1 : (0 : Int) ≤ (src.length : Int) + 8 := by omega
  have h3 : ((src.length : Int) + 8).toNat = src.length + 8 := by omega
  have h4 : ¬ src.length + 8 ≤ src.length := by omega
  simp -implicitDefEqProofs [-Int.not_le, -Int.not_lt, -Nat.not_le, -Nat.not_lt, -List.map_take, -List.map_drop, hw, hn2, hfit, h1, h3, h4]
  refine WPk_loop (fun k : Nat => ⟨[(1, bv src), (25, .ref 0 g 1 0 (src.length + 8)), (26, .int .i64 ((src.length : Int) + 8)), (27, .int .i64 k)], [some (.cells g (roRow src 8))], c⟩) (fun k => k ≤ src.length + 8) (fun k => src.length + 8 - k) 0 (Weak.ofL (by simp) (by simp [HLe]) (Nat.le_refl _)) (Nat.zero_le _) ?_
  intro k hk
  simp -implicitDefEqProofs [-Int.not_le, -Int.not_lt, -Nat.not_le, -Nat.not_lt, -List.map_take, -List.map_drop]
  refine WPk_split rfl (fun h => ?_) (fun h => ?_)
  case refine_2 =>
    simp -implicitDefEqProofs [-Int.not_le, -Int.not_lt, -Nat.not_le, -Nat.not_lt, -List.map_take, -List.map_drop]
  have hk8 : k < src.length + 8 := by simp at h; omega
  have hk8i : (k : Int) < (src.length : Int) + 8 := by omega
  have hwk : IntKind.i64.wrap ((k : Int) + 1) = (k : Int) + 1 := wrap_i64 (by omega) (by omega)
  have hself : ∀ x : Int, (x != x) = false := fun x => by simp
  have fin : ∃ b : Nat, b ≤ src.length + 8 ∧ src.length + 8 - b < src.length + 8 - k ∧ Weak ⟨[(1, bv src), (25, .ref 0 g 1 0 (src.length + 8)), (26, .int .i64 ((src.length : Int) + 8)), (27, .int .i64 ((k : Int) + 1))], [some (.cells g (roRow src 8))], c⟩ ⟨[(1, bv src), (25, .ref 0 g 1 0 (src.length + 8)), (26, .int .i64 ((src.length : Int) + 8)), (27, .int .i64 (b : Nat))], [some (.cells g (roRow src 8))], c⟩ :=
    ⟨k + 1, hk8, by omega, Weak.ofL (by simp) (by simp [HLe]) (Nat.le_refl _)⟩
  have hw8 : IntKind.i64.wrap (8 + (src.length : Int)) = 8 + (src.length : Int) := wrap_i64 (by omega) (by omega)
  have hw9 : IntKind.i64.wrap (8 + (src.length : Int) - k) = 8 + (src.length : Int) - k := wrap_i64 (by omega) (by omega)
  by_cases hlt : k < src.length
  · have hb := List.getElem?_eq_getElem hlt
    have hr : (roRow src 8)[k]? = some (byv src[k]) := by
      unfold roRow
      rw [List.getElem?_append_left (by simpa using hlt), List.getElem?_map, hb]
      rfl
    have hli : (k : Int) < src.length := by omega
    simp -implicitDefEqProofs [-Int.not_le, -Int.not_lt, -Nat.not_le, -Nat.not_lt, -List.map_take, -List.map_drop, hr, hwk, hw8, hw9, hk8, hk8i, hb, hli, hlt, hself]
    exact fin
  · have hr : (roRow src 8)[k]? = some [.int .u8 (8 + (src.length : Int) - k)] := by
      unfold roRow
      rw [List.getElem?_append_right (by simp; omega), List.length_map, List.getElem?_map]
      obtain ⟨j, rfl⟩ : ∃ j, k = src.length + j := ⟨k - src.length, by omega⟩
      have hj : j < 8 := by omega
      rw [Nat.add_sub_cancel_left]
      have hg : ∀ j, j < 8 → (tailK 8)[j]? = some (UInt8.ofNat (8 - j)) := by decide
      rw [hg j hj]
      simp only [Option.map_some, byv, nat8 j (by omega)]
      congr 3
      omega
    have hli : ¬ (k : Int) < src.length := by omega
    have hw10 : IntKind.u8.wrap (8 + (src.length : Int) - k) = 8 + (src.length : Int) - k := wrap_u8' (by omega) (by omega)
    simp -implicitDefEqProofs [-Int.not_le, -Int.not_lt, -Nat.not_le, -Nat.not_lt, -List.map_take, -List.map_drop, hr, hwk, hw8, hw9, hk8, hw10, hk8i, hli, hlt, hself]
    exact fin
end Go.Proofs.YtoplaknmmglagaaDoor.T
