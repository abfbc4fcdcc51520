/-
law11: a name, or a word.
-/
import Derived.Test.YtoplaknmmglagaaDoorT5
set_option linter.unusedVariables false
set_option linter.unusedSimpArgs false
namespace Go.Proofs.YtoplaknmmglagaaDoor.T
open Go Go.AX

/-- A token: kind, text, number, line. -/
abbrev tokV (k : Int) (t : List UInt8) (x n : Int) : AV := .agg [.int .u8 k, sv t, .int .i64 x, .int .i64 n]

def nameN (l : List UInt8) : Nat := longS (fun n => letB n || digB n) l

theorem name_spec {H : Heap} {id g c : Nat} {l : List UInt8} {n : Int} {mi mg : Nat} (hH : At H id (scB g l n mi mg)) (hM : At H mi (.mp mg (ents wordsL 0))) (hlen : l.length ≤ 4611686018427387904) :
    ProcC Tryd.prog 26 [.ptr id g 0 0] H c (fun r H' c' => r = .tup [tokV (if l.take (nameN l) ∈ wordsL then 3 else 1) (l.take (nameN l)) 0 0, .bool (decide (nameN l ≤ 24))] ∧ H' = H ∧ c ≤ c') := by
  refine ProcC.mono (post := fun r H' c' => r = .tup [tokV (if l.take (nameN l) ∈ wordsL then 3 else 1) (l.take (nameN l)) 0 0, .bool (decide (nameN l ≤ 24))] ∧ (∃ L, H' = H ++ L) ∧ c ≤ c') ?_ ?_
  case refine_2 =>
    rintro r H' c' ⟨rfl, ⟨L, rfl⟩, hc⟩
    refine ⟨H, c', fun i b hi => ?_, Nat.le_refl _, rfl, rfl, hc⟩
    rw [List.getElem?_append_left (List.getElem?_eq_some_iff.1 hi).1]; exact hi
  have h1 := hH.app
  have h2 := hM.app
  refine ProcC.introK k26 (by show 1 ≤ 36; decide) ?_
  simp -implicitDefEqProofs [-Int.not_le, -Int.not_lt, -Nat.not_le, -Nat.not_lt, -List.map_take, -List.map_drop, h1, h2]
  refine CallWP.pure (long_spec _ name1_spec l hlen) rfl ?_
  have hm : nameN l ≤ l.length := longS_le _ l
  rw [show longS (fun n => letB n || digB n) l = nameN l from rfl]
  generalize nameN l = m at hm ⊢
  have hmi : (m : Int) ≤ l.length := by omega
  simp -implicitDefEqProofs [-Int.not_le, -Int.not_lt, -Nat.not_le, -Nat.not_lt, -List.map_take, -List.map_drop, h1, h2, hm, hmi, hget_app, hget_app0, hset_app, hset_app0]
  rcases findM_ents (l.take m) wordsL 0 0 with ⟨h3, h4⟩ | ⟨h3, p, v, h4⟩
  · simp -implicitDefEqProofs [-Int.not_le, -Int.not_lt, -Nat.not_le, -Nat.not_lt, -List.map_take, -List.map_drop, h1, h2, hm, hmi, hget_app, hget_app0, hset_app, hset_app0, h3, h4]
    omega
  · simp -implicitDefEqProofs [-Int.not_le, -Int.not_lt, -Nat.not_le, -Nat.not_lt, -List.map_take, -List.map_drop, h1, h2, hm, hmi, hget_app, hget_app0, hset_app, hset_app0, h3, h4]
    omega
end Go.Proofs.YtoplaknmmglagaaDoor.T
