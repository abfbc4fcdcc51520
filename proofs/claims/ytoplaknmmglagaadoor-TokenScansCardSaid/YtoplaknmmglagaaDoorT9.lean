/-
law11: the sign that stands there.
-/
import Derived.Test.YtoplaknmmglagaaDoorT8
set_option linter.unusedVariables false
set_option linter.unusedSimpArgs false
namespace Go.Proofs.YtoplaknmmglagaaDoor.T
open Go Go.AX

def signs2 : List (List UInt8) := [[38, 38], [124, 124], [61, 61], [33, 61], [60, 61], [62, 61]]
def signs1 : List UInt8 := [40, 41, 123, 125, 91, 93, 44, 59, 46, 61, 43, 45, 42, 47, 37, 60, 62, 33]
def signN (l : List UInt8) : Nat := if l.take 2 ∈ signs2 then 2 else 1
def signOk (l : List UInt8) : Bool := decide (l.take 2 ∈ signs2) || (match l.head? with | some b => decide (b ∈ signs1) | none => false)

theorem sign_cut : ∀ k, k < 6 → (ByteArray.mk #[38, 38, 124, 124, 61, 61, 33, 61, 60, 61, 62, 61]).extract (2 * k) (2 * k + 2) = ⟨(signs2.getD k []).toArray⟩ := by decide

def NoS (l : List UInt8) (k : Nat) : Prop := ∀ j, j < k → l.take 2 ≠ signs2.getD j []
theorem NoS.all {l : List UInt8} (h : NoS l 6) : l.take 2 ∉ signs2 := by
  intro hm
  obtain ⟨j, hj, he⟩ := List.mem_iff_getElem.1 hm
  have hj' : j < 6 := hj
  refine h j hj' ?_
  rw [← he, List.getD_eq_getElem?_getD, List.getElem?_eq_getElem hj]
  rfl

theorem sign_spec {H : Heap} {id g c : Nat} {l : List UInt8} {n : Int} {mi mg : Nat} (hH : At H id (scB g l n mi mg)) (h0 : 0 < l.length) :
    ProcC Tryd.prog 29 [.ptr id g 0 0] H c (fun r H' c' => r = .tup [tokV 4 (l.take (signN l)) 0 0, .bool (signOk l)] ∧ H' = H ∧ c ≤ c') := by
  refine ProcC.mono (post := fun r H' c' => r = .tup [tokV 4 (l.take (signN l)) 0 0, .bool (signOk l)] ∧ (∃ L, H' = H ++ L) ∧ c ≤ c') ?_ ?_
  case refine_2 =>
    rintro r H' c' ⟨rfl, ⟨L, rfl⟩, hc⟩
    refine ⟨H, c', fun i b hi => ?_, Nat.le_refl _, rfl, rfl, hc⟩
    rw [List.getElem?_append_left (List.getElem?_eq_some_iff.1 hi).1]; exact hi
  have h1 := hH.app
  refine ProcC.introK k29 (by show 1 ≤ 42; decide) ?_
  simp -implicitDefEqProofs [-Int.not_le, -Int.not_lt, -Nat.not_le, -Nat.not_lt, -List.map_take, -List.map_drop, h1]
  refine WPk_loop (fun k : Nat => ⟨[(0, .ptr id g 0 0), (2, .ptr H.length c 0 0), (4, .int .i64 (2 * k : Nat))], H ++ [some (.cells c [[.int .u8 0, .str ⟨#[]⟩, .int .i64 0, .int .i64 0]])], c + 1⟩) (fun k => k ≤ 6 ∧ NoS l k) (fun k => 6 - k) 0 (Weak.ofE (by simp) rfl (Nat.le_refl _)) ⟨Nat.zero_le _, fun j h => by omega⟩ ?_
  rintro k ⟨hk, hno⟩
  simp -implicitDefEqProofs [-Int.not_le, -Int.not_lt, -Nat.not_le, -Nat.not_lt, -List.map_take, -List.map_drop, h1]
  refine WPk_split rfl (fun h => ?_) (fun h => ?_)
  · have hk6 : k < 6 := by simp at h; omega
    have hcut := sign_cut k hk6
    have hlen2 : (signs2.getD k []).length = 2 := (by decide : ∀ k, k < 6 → (signs2.getD k []).length = 2) k hk6
    have hmem : signs2.getD k [] ∈ signs2 := (by decide : ∀ k, k < 6 → signs2.getD k [] ∈ signs2) k hk6
    have hno2 : l.take 2 ≠ signs2.getD k [] → NoS l (k + 1) := fun hn j hj => by
      rcases Nat.lt_or_ge j k with h | h
      · exact hno j h
      · rwa [show j = k by omega]
    generalize signs2.getD k [] = p at hcut hlen2 hmem hno2
    have hw : IntKind.i64.wrap (2 * (k : Int) + 2) = 2 * (k : Int) + 2 := wrap_i64 (by omega) (by omega)
    have g1 : (0 : Int) ≤ 2 * (k : Int) := by omega
    have g2 : (0 : Int) ≤ 2 * (k : Int) + 2 := by omega
    have g3 : (2 * (k : Int)).toNat = 2 * k := by omega
    have g4 : (2 * (k : Int) + 2).toNat = 2 * k + 2 := by omega
    have g5 : 2 * k + 2 ≤ 12 := by omega
    have hroom : p.length ≤ roomX := by rw [hlen2]; decide
    simp -implicitDefEqProofs [-Int.not_le, -Int.not_lt, -Nat.not_le, -Nat.not_lt, -List.map_take, -List.map_drop, h1, hw, g1, g2, g3, g4, g5, hcut, hroom]
    refine CallWP.pure (hasPrefix_spec l p) rfl ?_
    rw [hlen2]
    try simp -implicitDefEqProofs [-Int.not_le, -Int.not_lt, -Nat.not_le, -Nat.not_lt, -List.map_take, -List.map_drop, h1, hw]
    refine WPk_split rfl (fun h => ?_) (fun h => ?_)
    · have ht : l.take 2 = p := by simp at h; exact h.2
      have hN : signN l = 2 := by simp [signN, ht, hmem]
      have hO : signOk l = true := by simp [signOk, ht, hmem]
      rw [hN, hO, ht]
      simp -implicitDefEqProofs [-Int.not_le, -Int.not_lt, -Nat.not_le, -Nat.not_lt, -List.map_take, -List.map_drop, h1, hw, hget_app, hget_app0, hset_app, hset_app0]
    · have ht : l.take 2 ≠ p := by
        intro e
        have : 2 ≤ l.length := by have := congrArg List.length e; simp [hlen2] at this; omega
        simp [e, this] at h
      simp -implicitDefEqProofs [-Int.not_le, -Int.not_lt, -Nat.not_le, -Nat.not_lt, -List.map_take, -List.map_drop, h1, hw, hget_app, hget_app0, hset_app, hset_app0]
      exact ⟨k + 1, ⟨by omega, hno2 ht⟩, by omega, Weak.ofE (by simp; omega) rfl (Nat.le_refl _)⟩
  · have hk6 : k = 6 := by simp at h; omega
    subst hk6
    have hall := hno.all
    obtain ⟨b0, hb0⟩ : ∃ b0, l[0]? = some b0 := ⟨_, List.getElem?_eq_getElem h0⟩
    have hN : signN l = 1 := by simp [signN, hall]
    have hO : signOk l = decide (b0 ∈ signs1) := by
      have : l.head? = some b0 := by rw [← hb0, List.head?_eq_getElem?]
      simp [signOk, hall, this]
    rw [hN, hO]
    have h1l : (1 : Int) ≤ l.length := by omega
    have h1n : 1 ≤ l.length := h0
    obtain ⟨i, hi, hp⟩ := indexByte_spec signs1 (by decide) b0
    have hi' : decide (b0 ∈ signs1) = decide (0 ≤ i) := by simp [hi]
    rw [hi']
    simp -implicitDefEqProofs [-Int.not_le, -Int.not_lt, -Nat.not_le, -Nat.not_lt, -List.map_take, -List.map_drop, h1, hb0, h1l, h1n, hget_app, hget_app0, hset_app, hset_app0]
    have hlt := hH.lt
    refine ⟨by omega, CallWP.brw hp rfl (frzs2 (frz_bytes (by simp [Go.AX.rowAt, hget_app, signs1]) rfl) (.int _ _)) ?_⟩
    simp -implicitDefEqProofs [-Int.not_le, -Int.not_lt, -Nat.not_le, -Nat.not_lt, -List.map_take, -List.map_drop, h1, hb0, hget_app, hget_app0, hset_app, hset_app0]
    omega
end Go.Proofs.YtoplaknmmglagaaDoor.T
