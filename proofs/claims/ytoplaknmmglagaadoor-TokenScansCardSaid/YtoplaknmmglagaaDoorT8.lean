/-
law11: the number that stands there.
-/
import Derived.Test.YtoplaknmmglagaaDoorT7
set_option linter.unusedVariables false
set_option linter.unusedSimpArgs false
namespace Go.Proofs.YtoplaknmmglagaaDoor.T
open Go Go.AX

def digN (l : List UInt8) : Nat := longS digB l
def letAt (l : List UInt8) (k : Nat) : Bool :=
  match l[k]? with
  | some b => letB b.toNat
  | none => false
def numBad (l : List UInt8) : Bool := (decide (1 < digN l) && l.head? == some 48) || letAt l (digN l)
def numX (l : List UInt8) : Int := if numBad l = true then 0 else if numA (l.take (digN l)) 0 < 9223372036854775808 then numA (l.take (digN l)) 0 else 9223372036854775807
def numOk (l : List UInt8) : Bool := !numBad l && decide (numA (l.take (digN l)) 0 < 9223372036854775808)

def numBadX (m : Nat) (b : UInt8) (l : List UInt8) : Bool := (decide (1 < m) && b == 48) || letAt l m
theorem longS_all (p : Int → Bool) : ∀ l : List UInt8, ∀ b ∈ l.take (longS p l), p b.toNat = true
  | [], b, h => by simp [longS] at h
  | c :: l, b, h => by
    unfold longS at h
    split at h
    · rename_i hc
      rw [List.take_succ_cons, List.mem_cons] at h
      rcases h with rfl | h
      · exact hc
      · exact longS_all p l b h
    · simp at h

theorem number_spec {H : Heap} {id g c : Nat} {l : List UInt8} {n : Int} {mi mg : Nat} (hH : At H id (scB g l n mi mg)) (hlen : l.length ≤ 140737488351232) (h0 : 1 ≤ digN l) :
    ProcC Tryd.prog 28 [.ptr id g 0 0] H c (fun r H' c' => r = .tup [tokV 2 (l.take (digN l)) (numX l) 0, .bool (numOk l)] ∧ H' = H ∧ c ≤ c') := by
  refine ProcC.mono (post := fun r H' c' => r = .tup [tokV 2 (l.take (digN l)) (numX l) 0, .bool (numOk l)] ∧ (∃ L, H' = H ++ L) ∧ c ≤ c') ?_ ?_
  case refine_2 =>
    rintro r H' c' ⟨rfl, ⟨L, rfl⟩, hc⟩
    refine ⟨H, c', fun i b hi => ?_, Nat.le_refl _, rfl, rfl, hc⟩
    rw [List.getElem?_append_left (List.getElem?_eq_some_iff.1 hi).1]; exact hi
  have h1 := hH.app
  refine ProcC.introK k28 (by show 1 ≤ 63; decide) ?_
  simp -implicitDefEqProofs [-Int.not_le, -Int.not_lt, -Nat.not_le, -Nat.not_lt, -List.map_take, -List.map_drop, h1]
  refine CallWP.pure (long_spec _ digit_spec l (by omega)) rfl ?_
  have hall : allDig (l.take (digN l)) := longS_all digB l
  have hm : digN l ≤ l.length := longS_le _ l
  have hX : numX l = if numBad l = true then 0 else if numA (l.take (digN l)) 0 < 9223372036854775808 then (numA (l.take (digN l)) 0 : Int) else 9223372036854775807 := rfl
  have hO : numOk l = (!numBad l && decide (numA (l.take (digN l)) 0 < 9223372036854775808)) := rfl
  have hB : numBad l = ((decide (1 < digN l) && l.head? == some 48) || letAt l (digN l)) := rfl
  rw [show longS digB l = digN l from rfl]
  generalize numX l = X at hX ⊢
  generalize numOk l = O at hO ⊢
  generalize numBad l = B at hB hX hO ⊢
  generalize digN l = m at h0 hall hm hB hX hO ⊢
  have hne : l.take m ≠ [] := by
    cases l with
    | nil => simp at hm; omega
    | cons b l => cases m with
      | zero => omega
      | succ m => simp
  have hmi : (m : Int) ≤ l.length := by omega
  simp -implicitDefEqProofs [-Int.not_le, -Int.not_lt, -Nat.not_le, -Nat.not_lt, -List.map_take, -List.map_drop, h1, hm, hmi, hget_app, hget_app0, hset_app, hset_app0]
  have hpos : 0 < l.length := by omega
  obtain ⟨b0, hb0⟩ : ∃ b0, l[0]? = some b0 := ⟨_, List.getElem?_eq_getElem hpos⟩
  have hh : l.head? = some b0 := by rw [← hb0, List.head?_eq_getElem?]
  rw [hh] at hB
  refine WPl_cut ⟨[(2, .ptr H.length c 0 0), (5, .ptr (H.length + 1) (c + 1) 0 0), (50, .bool B)], H ++ [some (.cells c [[.int .u8 0, .str ⟨#[]⟩, .int .i64 0, .int .i64 0]]), some (.cells (c + 1) [[.int .u8 2, .str ⟨(l.take m).toArray⟩, .int .i64 0, .int .i64 0]])], c + 1 + 1⟩ ?_ (fun Q hq => ?_)
  case refine_2 =>
    have hmB : numBadX m b0 l = B := by rw [hB, numBadX]; simp
    refine WPl_split rfl (fun h => ?_) (fun h => ?_)
    · have hm1 : 1 < m := by simp at h; omega
      by_cases h48 : b0 = 48
      · simp -implicitDefEqProofs [-Int.not_le, -Int.not_lt, -Nat.not_le, -Nat.not_lt, -List.map_take, -List.map_drop, h1, hm, hmi, hget_app, hget_app0, hset_app, hset_app0, hb0, h, h48]
        have : B = true := by rw [← hmB]; simp [numBadX, h48, hm1]
        rw [← this]; exact hq
      · have h48' : ((b0.toNat : Int) == 48) = false := by
          have : b0.toNat ≠ 48 := fun e => h48 (UInt8.toNat_inj.1 e)
          simp; omega
        simp -implicitDefEqProofs [-Int.not_le, -Int.not_lt, -Nat.not_le, -Nat.not_lt, -List.map_take, -List.map_drop, h1, hm, hmi, hget_app, hget_app0, hset_app, hset_app0, hb0, h, h48']
        have ht : letAt l m = B := by rw [← hmB]; simp [numBadX, h48]
        refine WPl_split rfl (fun h => ?_) (fun h => ?_)
        · have hlt : m < l.length := by simp at h; omega
          have hb := List.getElem?_eq_getElem hlt
          have hL : letAt l m = letB l[m].toNat := by unfold letAt; rw [hb]
          simp -implicitDefEqProofs [-Int.not_le, -Int.not_lt, -Nat.not_le, -Nat.not_lt, -List.map_take, -List.map_drop, h1, hm, hmi, hget_app, hget_app0, hset_app, hset_app0, hb, h]
          refine CallWP.pure (letter_spec _) rfl ?_
          try simp -implicitDefEqProofs [-Int.not_le, -Int.not_lt, -Nat.not_le, -Nat.not_lt, -List.map_take, -List.map_drop]
          rw [← hL, ht]; exact hq
        · have hlt : l[m]? = none := by simp at h; simp; omega
          have hL : letAt l m = false := by unfold letAt; rw [hlt]
          simp -implicitDefEqProofs [-Int.not_le, -Int.not_lt, -Nat.not_le, -Nat.not_lt, -List.map_take, -List.map_drop, h1, hm, hmi, hget_app, hget_app0, hset_app, hset_app0, h]
          rw [← hL, ht]; exact hq
    · simp -implicitDefEqProofs [-Int.not_le, -Int.not_lt, -Nat.not_le, -Nat.not_lt, -List.map_take, -List.map_drop, h1, hm, hmi, hget_app, hget_app0, hset_app, hset_app0, hb0, h]
      have ht : letAt l m = B := by
        have hm1 : ¬ 1 < m := by simp at h; omega
        rw [← hmB]; simp [numBadX, hm1]
      refine WPl_split rfl (fun h => ?_) (fun h => ?_)
      · have hlt : m < l.length := by simp at h; omega
        have hb := List.getElem?_eq_getElem hlt
        have hL : letAt l m = letB l[m].toNat := by unfold letAt; rw [hb]
        simp -implicitDefEqProofs [-Int.not_le, -Int.not_lt, -Nat.not_le, -Nat.not_lt, -List.map_take, -List.map_drop, h1, hm, hmi, hget_app, hget_app0, hset_app, hset_app0, hb, h]
        refine CallWP.pure (letter_spec _) rfl ?_
        try simp -implicitDefEqProofs [-Int.not_le, -Int.not_lt, -Nat.not_le, -Nat.not_lt, -List.map_take, -List.map_drop]
        rw [← hL, ht]; exact hq
      · have hlt : l[m]? = none := by simp at h; simp; omega
        have hL : letAt l m = false := by unfold letAt; rw [hlt]
        simp -implicitDefEqProofs [-Int.not_le, -Int.not_lt, -Nat.not_le, -Nat.not_lt, -List.map_take, -List.map_drop, h1, hm, hmi, hget_app, hget_app0, hset_app, hset_app0, h]
        rw [← hL, ht]; exact hq
  cases B with
  | true =>
    simp -implicitDefEqProofs [-Int.not_le, -Int.not_lt, -Nat.not_le, -Nat.not_lt, -List.map_take, -List.map_drop, hX, hO]
    omega
  | false =>
    have hall' := hall
    have hll : (l.take m).length ≤ 281474976710656 := by simp; omega
    by_cases hn : numA (l.take m) 0 < 9223372036854775808
    · have hp := parseInt_ok (l.take m) hall hne hll hn
      generalize numA (l.take m) 0 = y at hX hO hn hp
      simp -implicitDefEqProofs [-Int.not_le, -Int.not_lt, -Nat.not_le, -Nat.not_lt, -List.map_take, -List.map_drop, hX, hO, hn]
      refine CallWP.pure hp rfl ?_
      simp -implicitDefEqProofs [-Int.not_le, -Int.not_lt, -Nat.not_le, -Nat.not_lt, -List.map_take, -List.map_drop, hn]
    · have hp := parseInt_range (l.take m) hall hne hll (by omega)
      generalize numA (l.take m) 0 = y at hX hO hn
      simp -implicitDefEqProofs [-Int.not_le, -Int.not_lt, -Nat.not_le, -Nat.not_lt, -List.map_take, -List.map_drop, hX, hO, hn]
      refine CallWP.pure hp rfl ?_
      simp -implicitDefEqProofs [-Int.not_le, -Int.not_lt, -Nat.not_le, -Nat.not_lt, -List.map_take, -List.map_drop, hn]
end Go.Proofs.YtoplaknmmglagaaDoor.T
