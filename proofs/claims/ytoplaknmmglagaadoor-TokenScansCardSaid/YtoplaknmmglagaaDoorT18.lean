/-
law11, plain: where the tokens stand in the source, and of what they are.
-/
import Derived.Test.YtoplaknmmglagaaDoorT17
set_option linter.unusedVariables false
set_option linter.unusedSimpArgs false
namespace Go.Proofs.YtoplaknmmglagaaDoor.T
open Go Go.AX

/-- Of what a token is. -/
structure GoodK (t : Tk) : Prop where
  ne : t.t ≠ []
  nl : cnt t.t = 0
  kind : ((t.k = 1 ∨ t.k = 3) ∧ (∀ b ∈ t.t, (letB b.toNat || digB b.toNat) = true) ∧ (∃ b s, t.t = b :: s ∧ digB b.toNat = false) ∧ t.x = 0 ∧ (t.k = 1 → t.t.length ≤ 24)) ∨
    (t.k = 2 ∧ (∀ b ∈ t.t, digB b.toNat = true) ∧ t.x = numA t.t 0 ∧ numA t.t 0 < 9223372036854775808) ∨
    (t.k = 4 ∧ (∃ b s, t.t = b :: s ∧ letB b.toNat = false ∧ digB b.toNat = false) ∧ t.x = 0 ∧ t.t.length ≤ 2)

theorem goodK {l : List UInt8} (hl : l ≠ []) (ho : (oneS l).ok = true) (n : Int) : GoodK ⟨(oneS l).k, l.take (oneS l).m, (oneS l).x, n⟩ := by
  have hm1 := oneS_pos hl
  have hm2 := oneS_le (l := l)
  have h0 := oneS_cnt ho
  cases l with
  | nil => exact absurd rfl hl
  | cons b l =>
    obtain ⟨t', ht'⟩ : ∃ t', (b :: l).take (oneS (b :: l)).m = b :: t' := by
      obtain ⟨k, hk⟩ : ∃ k, (oneS (b :: l)).m = k + 1 := ⟨(oneS (b :: l)).m - 1, by omega⟩
      exact ⟨l.take k, by rw [hk]; rfl⟩
    have hlen : ((b :: l).take (oneS (b :: l)).m).length = (oneS (b :: l)).m := by rw [List.length_take]; omega
    refine ⟨by simp only; rw [ht']; simp, h0, ?_⟩
    have hS : oneS (b :: l) = if letB b.toNat = true then ⟨if (b :: l).take (nameN (b :: l)) ∈ wordsL then 3 else 1, nameN (b :: l), 0, decide (nameN (b :: l) ≤ 24)⟩
        else if digB b.toNat = true then ⟨2, digN (b :: l), numX (b :: l), numOk (b :: l)⟩ else ⟨4, signN (b :: l), 0, signOk (b :: l)⟩ := rfl
    by_cases hlb : letB b.toNat = true
    · rw [if_pos hlb] at hS
      have hd : digB b.toNat = false := by
        cases hdb : digB b.toNat with
        | false => rfl
        | true =>
          simp only [letB, digB, Bool.or_eq_true, Bool.and_eq_true, decide_eq_true_eq, beq_iff_eq] at hlb hdb
          omega
      refine .inl ⟨?_, ?_, ⟨b, t', ht', hd⟩, by rw [hS], fun _ => ?_⟩
      · rw [hS]; simp only; split <;> simp
      · have := longS_all (fun n => letB n || digB n) (b :: l)
        rw [hS]
        exact this
      · simp only; rw [hlen]
        rw [hS] at ho ⊢
        simpa using ho
    · rw [if_neg hlb] at hS
      by_cases hdb : digB b.toNat = true
      · rw [if_pos hdb] at hS
        have hok : numOk (b :: l) = true := by rw [hS] at ho; exact ho
        have em : (oneS (b :: l)).m = digN (b :: l) := by rw [hS]
        unfold numOk at hok
        simp only [Bool.and_eq_true, Bool.not_eq_true', decide_eq_true_eq] at hok
        refine .inr (.inl ⟨by rw [hS], ?_, ?_, ?_⟩)
        · have := longS_all digB (b :: l)
          rw [em]
          exact this
        · simp only
          rw [em]
          have : (oneS (b :: l)).x = numX (b :: l) := by rw [hS]
          rw [this]
          unfold numX
          rw [hok.1, if_neg (by decide), if_pos hok.2]
        · simp only
          rw [em]
          exact hok.2
      · rw [if_neg hdb] at hS
        refine .inr (.inr ⟨by rw [hS], ⟨b, t', ht', by simpa using hlb, by simpa using hdb⟩, by rw [hS], ?_⟩)
        simp only
        rw [hlen, hS]
        simp only [signN]
        split <;> omega

/-- The tokens stand one behind the other, from a place on, each in its line. -/
def Loc (src : List UInt8) : Nat → List Tk → Prop
  | _, [] => True
  | E, t :: ts => ∃ p, E ≤ p ∧ (src.drop p).take t.t.length = t.t ∧ p + t.t.length ≤ src.length ∧ t.n = 1 + (cnt (src.take p) : Int) ∧ GoodK t ∧ Loc src (p + t.t.length) ts

theorem blankS_suf : ∀ (l : List UInt8) (c : Bool) (n : Int), ∃ j, j ≤ l.length ∧ (blankS c l n).1 = l.drop j
  | [], c, n => ⟨0, Nat.le_refl _, by cases c <;> rfl⟩
  | b :: l, true, n => by
    simp only [blankS]
    split
    · obtain ⟨j, hj, e⟩ := blankS_suf l false (n + 1); exact ⟨j + 1, by simp; omega, by rw [e]; rfl⟩
    · obtain ⟨j, hj, e⟩ := blankS_suf l true n; exact ⟨j + 1, by simp; omega, by rw [e]; rfl⟩
  | b :: l, false, n => by
    simp only [blankS]
    split
    · obtain ⟨j, hj, e⟩ := blankS_suf l false (n + 1); exact ⟨j + 1, by simp; omega, by rw [e]; rfl⟩
    · split
      · obtain ⟨j, hj, e⟩ := blankS_suf l false n; exact ⟨j + 1, by simp; omega, by rw [e]; rfl⟩
      · split
        · obtain ⟨j, hj, e⟩ := blankS_suf l true n; exact ⟨j + 1, by simp; omega, by rw [e]; rfl⟩
        · exact ⟨0, Nat.zero_le _, rfl⟩

theorem cnt_take_le (l : List UInt8) (k : Nat) : cnt (l.take k) ≤ cnt l := by have := cnt_take_drop l k; omega

theorem scanA_loc (src : List UInt8) : ∀ (f : Nat) (q : Nat), q ≤ src.length → Loc src q (scanA f (src.drop q) (1 + (cnt (src.take q) : Int))).1
  | 0, q, _ => by simp [scanA, scanB, Loc]
  | f + 1, q, hq => by
    obtain ⟨j, hj, hd⟩ := blankS_suf (src.drop q) false (1 + (cnt (src.take q) : Int))
    have hc := blankS_cnt (src.drop q) false (1 + (cnt (src.take q) : Int))
    have hl : (src.drop q).length = src.length - q := by simp
    unfold scanA
    generalize blankS false (src.drop q) (1 + (cnt (src.take q) : Int)) = z at hd hc
    obtain ⟨l, m⟩ := z
    simp only at hd hc ⊢
    have hlq : l = src.drop (q + j) := by rw [hd, List.drop_drop]
    have hm : m = 1 + (cnt (src.take (q + j)) : Int) := by
      have h1 := cnt_take_drop src q
      have h2 := cnt_take_drop src (q + j)
      rw [← hlq] at h2
      omega
    by_cases hr : l = []
    · rw [hr, scanB_nil]; trivial
    · cases ho : (oneS l).ok with
      | false => rw [scanB_bad hr ho]; trivial
      | true =>
        rw [scanB_ok hr ho]
        have hle := oneS_le (l := l)
        have hll : l.length = src.length - (q + j) := by rw [hlq]; simp
        have hpl : 0 < l.length := List.length_pos_iff.2 hr
        have hlen : (l.take (oneS l).m).length = (oneS l).m := by rw [List.length_take]; omega
        have h0 := oneS_cnt ho
        have hnx : src.take (q + j + (oneS l).m) = src.take (q + j) ++ l.take (oneS l).m := by rw [List.take_add, ← hlq]
        have hcn : cnt (src.take (q + j + (oneS l).m)) = cnt (src.take (q + j)) := by rw [hnx, cnt_append, h0]; rfl
        have ih := scanA_loc src f (q + j + (oneS l).m) (by omega)
        rw [hcn, ← hm, ← List.drop_drop, ← hlq] at ih
        refine ⟨q + j, by omega, ?_, ?_, hm, goodK hr ho m, ?_⟩
        · simp only; rw [hlen, ← hlq]
        · simp only; rw [hlen]; omega
        · simp only; rw [hlen]; exact ih

theorem scanA_fail : ∀ (f : Nat) (l : List UInt8) (n m : Int), (scanA f l n).2 = some m → n ≤ m ∧ m ≤ n + cnt l
  | 0, l, n, m, h => by simp [scanA, scanB] at h
  | f + 1, l, n, m, h => by
    have hb := (blankS_len l false n).2.1
    have hc := blankS_cnt l false n
    unfold scanA at h
    generalize blankS false l n = z at hb hc h
    obtain ⟨r, k⟩ := z
    simp only at hb hc h
    by_cases hr : r = []
    · subst hr; rw [scanB_nil] at h; cases h
    · cases ho : (oneS r).ok with
      | false =>
        rw [scanB_bad hr ho] at h
        simp only [Option.some.injEq] at h
        subst h
        omega
      | true =>
        rw [scanB_ok hr ho] at h
        have ih := scanA_fail f (r.drop (oneS r).m) k m h
        have := cnt_take_drop r (oneS r).m
        omega

theorem shape_law (src : List UInt8) (hl : src.length ≤ 16384) :
    ((scanR src).e ≠ 0 → (scanR src).ts = [] ∧ (scanR src).e = 6 ∧ 1 ≤ (scanR src).n ∧ (scanR src).n ≤ 1 + cnt src) ∧ Loc src 0 (scanR src).ts := by
  have h1 := scanA_loc src (src.length + 1) 0 (Nat.zero_le _)
  have h2 := scanA_fail (src.length + 1) src 1
  rw [List.drop_zero, List.take_zero] at h1
  have h1' : Loc src 0 (scanA (src.length + 1) src 1).1 := h1
  rw [scanR_eq, if_neg (by omega)]
  generalize scanA (src.length + 1) src 1 = z at h1' h2
  obtain ⟨ts, o⟩ := z
  cases o with
  | some m =>
    have := h2 m rfl
    exact ⟨fun _ => ⟨rfl, rfl, this.1, this.2⟩, trivial⟩
  | none => exact ⟨fun h => absurd rfl h, h1'⟩

/-! ### What the law reckons of a token's text -/

def xSt (x : Int) (b : UInt8) : Int := IntKind.u64.wrap (IntKind.u64.wrap (10 * x) + IntKind.u64.wrap (IntKind.u8.wrap ((b.toNat : Int) - 48)))
def xS (t : List UInt8) : Int := t.foldl xSt 0
def letS (t : List UInt8) : Bool := t.all fun b => letB b.toNat || digB b.toNat
def digS (t : List UInt8) : Bool := t.all fun b => digB b.toNat

theorem wrap_u64 {n : Int} (h0 : 0 ≤ n) (h1 : n < 18446744073709551616) : IntKind.u64.wrap n = n := by
  show Int.emod n (2 ^ 64) = n
  exact Int.emod_eq_of_lt h0 h1
theorem wrap_u8 {n : Int} (h0 : 0 ≤ n) (h1 : n < 256) : IntKind.u8.wrap n = n := by
  show Int.emod n (2 ^ 8) = n
  exact Int.emod_eq_of_lt h0 h1

theorem xS_num : ∀ (t : List UInt8) (acc : Nat), (∀ b ∈ t, digB b.toNat = true) → numA t acc < 9223372036854775808 → t.foldl xSt (acc : Int) = numA t acc
  | [], acc, _, _ => rfl
  | b :: t, acc, h, hn => by
    have hb := (digB_iff b).1 (h b (by simp))
    rw [numA_cons] at hn ⊢
    have hge := numA_ge t (10 * acc + (b.toNat - 48))
    have e : xSt (acc : Int) b = ((10 * acc + (b.toNat - 48) : Nat) : Int) := by
      unfold xSt
      rw [wrap_u64 (n := 10 * (acc : Int)) (by omega) (by omega), wrap_u8 (n := (b.toNat : Int) - 48) (by omega) (by omega), wrap_u64 (n := (b.toNat : Int) - 48) (by omega) (by omega), wrap_u64 (by omega) (by omega)]
      omega
    rw [List.foldl_cons, e]
    exact xS_num t _ (fun c hc => h c (by simp [hc])) hn
end Go.Proofs.YtoplaknmmglagaaDoor.T
