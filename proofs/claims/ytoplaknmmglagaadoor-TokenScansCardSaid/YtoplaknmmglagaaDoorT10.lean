/-
law11: the token that stands there.
-/
import Derived.Test.YtoplaknmmglagaaDoorT9
set_option linter.unusedVariables false
set_option linter.unusedSimpArgs false
namespace Go.Proofs.YtoplaknmmglagaaDoor.T
open Go Go.AX

/-- The token at the head: its kind, how long, its number, whether it is one. -/
structure One where
  k : Int
  m : Nat
  x : Int
  ok : Bool
def oneS (l : List UInt8) : One :=
  match l.head? with
  | none => ⟨0, 0, 0, false⟩
  | some b => if letB b.toNat = true then ⟨if l.take (nameN l) ∈ wordsL then 3 else 1, nameN l, 0, decide (nameN l ≤ 24)⟩
    else if digB b.toNat = true then ⟨2, digN l, numX l, numOk l⟩ else ⟨4, signN l, 0, signOk l⟩

theorem At.appAt {H : Heap} {id : Nat} {b : Blk} (h : At H id b) (L : Heap) : At (H ++ L) id b := ⟨h.app L⟩

theorem digN_pos {l : List UInt8} {b : UInt8} (h : l.head? = some b) (hb : digB b.toNat = true) : 1 ≤ digN l := by
  cases l with
  | nil => cases h
  | cons c l => cases h; simp [digN, longS, hb]

theorem one_spec {H : Heap} {id g c : Nat} {l : List UInt8} {n : Int} {mi mg : Nat} (hH : At H id (scB g l n mi mg)) (hM : At H mi (.mp mg (ents wordsL 0))) (hlen : l.length ≤ 140737488351232) (h0 : 0 < l.length) :
    ProcC Tryd.prog 19 [.ptr id g 0 0] H c (fun r H' c' => r = .tup [tokV (oneS l).k (l.take (oneS l).m) (oneS l).x n, .bool (oneS l).ok] ∧ H' = H ∧ c ≤ c') := by
  refine ProcC.mono (post := fun r H' c' => r = .tup [tokV (oneS l).k (l.take (oneS l).m) (oneS l).x n, .bool (oneS l).ok] ∧ (∃ L, H' = H ++ L) ∧ c ≤ c') ?_ ?_
  case refine_2 =>
    rintro r H' c' ⟨rfl, ⟨L, rfl⟩, hc⟩
    refine ⟨H, c', fun i b hi => ?_, Nat.le_refl _, rfl, rfl, hc⟩
    rw [List.getElem?_append_left (List.getElem?_eq_some_iff.1 hi).1]; exact hi
  have h1 := hH.app
  obtain ⟨b0, hb0⟩ : ∃ b0, l[0]? = some b0 := ⟨_, List.getElem?_eq_getElem h0⟩
  have hh : l.head? = some b0 := by rw [← hb0, List.head?_eq_getElem?]
  have hS : oneS l = if letB b0.toNat = true then ⟨if l.take (nameN l) ∈ wordsL then 3 else 1, nameN l, 0, decide (nameN l ≤ 24)⟩
    else if digB b0.toNat = true then ⟨2, digN l, numX l, numOk l⟩ else ⟨4, signN l, 0, signOk l⟩ := by unfold oneS; rw [hh]
  refine ProcC.introK k19 (by show 1 ≤ 39; decide) ?_
  simp -implicitDefEqProofs [-Int.not_le, -Int.not_lt, -Nat.not_le, -Nat.not_lt, -List.map_take, -List.map_drop, h1, hb0]
  refine CallWP.pure (letter_spec _) rfl ?_
  try simp -implicitDefEqProofs [-Int.not_le, -Int.not_lt, -Nat.not_le, -Nat.not_lt, -List.map_take, -List.map_drop, h1]
  refine WPk_split rfl (fun h => ?_) (fun h => ?_)
  · rw [hS, if_pos h]
    simp -implicitDefEqProofs [-Int.not_le, -Int.not_lt, -Nat.not_le, -Nat.not_lt, -List.map_take, -List.map_drop, h1]
    refine CallWP.proc (name_spec (At.appAt hH _) (At.appAt hM _) (by omega)) rfl ?_
    rintro r H' c' ⟨rfl, rfl, hc⟩
    simp -implicitDefEqProofs [-Int.not_le, -Int.not_lt, -Nat.not_le, -Nat.not_lt, -List.map_take, -List.map_drop, h1, hget_app, hget_app0, hset_app, hset_app0]
    omega
  rw [hS, if_neg (by simp [h])]
  simp -implicitDefEqProofs [-Int.not_le, -Int.not_lt, -Nat.not_le, -Nat.not_lt, -List.map_take, -List.map_drop, h1]
  refine CallWP.pure (digit_spec _) rfl ?_
  try simp -implicitDefEqProofs [-Int.not_le, -Int.not_lt, -Nat.not_le, -Nat.not_lt, -List.map_take, -List.map_drop, h1]
  refine WPk_split rfl (fun h => ?_) (fun h => ?_)
  · rw [if_pos h]
    simp -implicitDefEqProofs [-Int.not_le, -Int.not_lt, -Nat.not_le, -Nat.not_lt, -List.map_take, -List.map_drop, h1]
    refine CallWP.proc (number_spec (At.appAt hH _) hlen (digN_pos hh h)) rfl ?_
    rintro r H' c' ⟨rfl, rfl, hc⟩
    simp -implicitDefEqProofs [-Int.not_le, -Int.not_lt, -Nat.not_le, -Nat.not_lt, -List.map_take, -List.map_drop, h1, hget_app, hget_app0, hset_app, hset_app0]
    omega
  · rw [if_neg (by simp [h])]
    simp -implicitDefEqProofs [-Int.not_le, -Int.not_lt, -Nat.not_le, -Nat.not_lt, -List.map_take, -List.map_drop, h1]
    refine CallWP.proc (sign_spec (At.appAt hH _) h0) rfl ?_
    rintro r H' c' ⟨rfl, rfl, hc⟩
    simp -implicitDefEqProofs [-Int.not_le, -Int.not_lt, -Nat.not_le, -Nat.not_lt, -List.map_take, -List.map_drop, h1, hget_app, hget_app0, hset_app, hset_app0]
    omega
end Go.Proofs.YtoplaknmmglagaaDoor.T
