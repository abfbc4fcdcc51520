/-
law11, plain: tokens laid one behind the other with blanks between are scanned to the same tokens.
-/
import Derived.Test.YtoplaknmmglagaaDoorT15
set_option linter.unusedVariables false
set_option linter.unusedSimpArgs false
namespace Go.Proofs.YtoplaknmmglagaaDoor.T
open Go Go.AX

/-- No blank stands at its head. -/
def PostB (l : List UInt8) : Prop := ∀ n : Int, blankS false l n = (l, n)

theorem postB_nil : PostB [] := fun _ => rfl
theorem postB_cons {b : UInt8} {l : List UInt8} : PostB (b :: l) ↔ (b.toNat ≠ 10 ∧ b.toNat ≠ 32 ∧ b.toNat ≠ 9 ∧ b.toNat ≠ 13 ∧ (b :: l).take 2 ≠ [47, 47]) := by
  have hlen := fun (c : Bool) (n : Int) => (blankS_len l c n).1
  constructor
  · intro h
    have h0 := h 0
    simp only [blankS] at h0
    have key : ∀ (c : Bool) (n : Int), blankS c l n ≠ (b :: l, 0) := fun c n e => by
      have := hlen c n; rw [e] at this; simp only [List.length_cons] at this; omega
    split at h0
    · exact absurd h0 (key _ _)
    · split at h0
      · exact absurd h0 (key _ _)
      · split at h0
        · exact absurd h0 (key _ _)
        · rename_i h1 h2 h3
          exact ⟨h1, fun e => h2 (.inl e), fun e => h2 (.inr (.inl e)), fun e => h2 (.inr (.inr e)), h3⟩
  · rintro ⟨h1, h2, h3, h4, h5⟩ n
    simp only [blankS]
    rw [if_neg h1, if_neg (by omega), if_neg h5]

theorem postB_blank : ∀ (l : List UInt8) (c : Bool) (n : Int), PostB (blankS c l n).1
  | [], c, n => by cases c <;> exact postB_nil
  | b :: l, true, n => by
    simp only [blankS]
    split
    · exact postB_blank l false _
    · exact postB_blank l true _
  | b :: l, false, n => by
    by_cases h : b.toNat ≠ 10 ∧ b.toNat ≠ 32 ∧ b.toNat ≠ 9 ∧ b.toNat ≠ 13 ∧ (b :: l).take 2 ≠ [47, 47]
    · have := postB_cons.2 h
      rw [this n]
      exact this
    · simp only [blankS]
      split
      · exact postB_blank l false _
      · split
        · exact postB_blank l false _
        · split
          · exact postB_blank l true _
          · rename_i h1 h2 h3
            exact absurd ⟨h1, fun e => h2 (.inl e), fun e => h2 (.inr (.inl e)), fun e => h2 (.inr (.inr e)), h3⟩ h

/-- What may stand behind a token without turning it. -/
def RestOK (r : List UInt8) : Prop := r = [] ∨ ∃ c s, r = c :: s ∧ stopB c

/-- A token that is scanned anew as it is. -/
structure TokOK (t : Tk) : Prop where
  ne : t.t ≠ []
  post : ∀ r, RestOK r → PostB (t.t ++ r)
  one : ∀ r, RestOK r → oneS (t.t ++ r) = ⟨t.k, t.t.length, t.x, true⟩

theorem longS_full (p : Int → Bool) (r : List UInt8) (hr : r = [] ∨ ∃ c s, r = c :: s ∧ p c.toNat = false) : ∀ t : List UInt8, (∀ b ∈ t, p b.toNat = true) → longS p (t ++ r) = t.length
  | [], _ => by
    rcases hr with rfl | ⟨c, s, rfl, hp⟩
    · rfl
    · simp [longS, hp]
  | b :: t, h => by
    simp only [List.cons_append, longS, h b (by simp), if_true, longS_full p r hr t fun c hc => h c (by simp [hc]), List.length_cons]

theorem restOK_p {r : List UInt8} (h : RestOK r) (p : Int → Bool) (hp : ∀ c : UInt8, stopB c → p c.toNat = false) : r = [] ∨ ∃ c s, r = c :: s ∧ p c.toNat = false := by
  rcases h with rfl | ⟨c, s, rfl, hc⟩
  · exact .inl rfl
  · exact .inr ⟨c, s, rfl, hp c hc⟩

theorem restOK_signs {r : List UInt8} (h : RestOK r) (b : UInt8) : (b :: r).take 2 ∉ signs2 ∧ (b :: r).take 2 ≠ [47, 47] := by
  rcases h with rfl | ⟨c, s, rfl, hc⟩
  · refine ⟨fun hm => ?_, by simp⟩
    obtain ⟨u, v, e, _⟩ := signs2_two _ hm
    simp at e
  · refine ⟨fun hm => ?_, ?_⟩
    · obtain ⟨_, _, q1, q2, q3⟩ := stopB_no hc
      obtain ⟨u, v, e, hv, _⟩ := signs2_two _ hm
      simp at e
      obtain ⟨_, rfl⟩ := e
      rcases hv with h | h | h
      · exact q1 h
      · exact q2 h
      · exact q3 h
    · intro e
      simp at e
      rcases hc with rfl | rfl | rfl <;> exact absurd e.2 (by decide)

theorem letAt_rest {t r : List UInt8} (h : RestOK r) : letAt (t ++ r) t.length = false := by
  unfold letAt
  rw [List.getElem?_append_right (Nat.le_refl _), Nat.sub_self]
  rcases h with rfl | ⟨c, s, rfl, hc⟩
  · rfl
  · exact (stopB_no hc).1

theorem tokOK {l : List UInt8} (hp : PostB l) (hl : l ≠ []) (ho : (oneS l).ok = true) (n : Int) : TokOK ⟨(oneS l).k, l.take (oneS l).m, (oneS l).x, n⟩ := by
  have hm1 := oneS_pos hl
  have hm2 := oneS_le (l := l)
  have hne : l.take (oneS l).m ≠ [] := by
    intro e
    have := congrArg List.length e
    rw [List.length_take] at this
    simp only [List.length_nil] at this
    omega
  cases l with
  | nil => exact absurd rfl hl
  | cons b l =>
    have hb := postB_cons.1 hp
    -- the head stays the head
    obtain ⟨t', ht'⟩ : ∃ t', (b :: l).take (oneS (b :: l)).m = b :: t' := by
      obtain ⟨k, hk⟩ : ∃ k, (oneS (b :: l)).m = k + 1 := ⟨(oneS (b :: l)).m - 1, by omega⟩
      exact ⟨l.take k, by rw [hk]; rfl⟩
    have hpost : ∀ r, RestOK r → PostB ((b :: l).take (oneS (b :: l)).m ++ r) := fun r hr => by
      rw [ht']
      refine postB_cons.2 ⟨hb.1, hb.2.1, hb.2.2.1, hb.2.2.2.1, ?_⟩
      cases t' with
      | nil => exact (restOK_signs hr b).2
      | cons c t'' =>
        have h2 : (b :: l).take 2 = [b, c] := by
          have hk : 2 ≤ (oneS (b :: l)).m := by
            have := congrArg List.length ht'
            rw [List.length_take] at this
            simp only [List.length_cons] at this
            omega
          have h3 := congrArg (List.take 2) ht'
          rw [List.take_take, Nat.min_eq_left hk] at h3
          exact h3
        have := hb.2.2.2.2
        rw [h2] at this
        exact this
    refine ⟨hne, hpost, fun r hr => ?_⟩
    have hh : ∀ t : List UInt8, t = b :: t' → oneS (t ++ r) = if letB b.toNat = true then ⟨if (t ++ r).take (nameN (t ++ r)) ∈ wordsL then 3 else 1, nameN (t ++ r), 0, decide (nameN (t ++ r) ≤ 24)⟩
        else if digB b.toNat = true then ⟨2, digN (t ++ r), numX (t ++ r), numOk (t ++ r)⟩ else ⟨4, signN (t ++ r), 0, signOk (t ++ r)⟩ := fun t e => by subst e; rfl
    have hS : oneS (b :: l) = if letB b.toNat = true then ⟨if (b :: l).take (nameN (b :: l)) ∈ wordsL then 3 else 1, nameN (b :: l), 0, decide (nameN (b :: l) ≤ 24)⟩
        else if digB b.toNat = true then ⟨2, digN (b :: l), numX (b :: l), numOk (b :: l)⟩ else ⟨4, signN (b :: l), 0, signOk (b :: l)⟩ := rfl
    have hlen : ((b :: l).take (oneS (b :: l)).m).length = (oneS (b :: l)).m := by rw [List.length_take]; omega
    have h1 := hh _ ht'
    have htl : ((b :: l).take (oneS (b :: l)).m ++ r).take ((b :: l).take (oneS (b :: l)).m).length = (b :: l).take (oneS (b :: l)).m := List.take_left
    by_cases hlb : letB b.toNat = true
    · rw [if_pos hlb] at hS h1
      have hn : nameN ((b :: l).take (oneS (b :: l)).m ++ r) = ((b :: l).take (oneS (b :: l)).m).length := by
        refine longS_full _ r (restOK_p hr _ fun c hc => by obtain ⟨q1, q2, _⟩ := stopB_no hc; simp [q1, q2]) _ ?_
        rw [hS]
        exact longS_all _ _
      rw [h1, hn, htl]
      rw [hS] at ho hlen ⊢
      simp only [decide_eq_true_eq] at ho hlen ⊢
      rw [hlen]
      simp [ho]
    · rw [if_neg hlb] at hS h1
      by_cases hdb : digB b.toNat = true
      · rw [if_pos hdb] at hS h1
        have hn : digN ((b :: l).take (oneS (b :: l)).m ++ r) = ((b :: l).take (oneS (b :: l)).m).length := by
          refine longS_full _ r (restOK_p hr _ fun c hc => (stopB_no hc).2.1) _ ?_
          rw [hS]
          exact longS_all _ _
        rw [h1]
        have hla := letAt_rest (t := (b :: l).take (oneS (b :: l)).m) hr
        have hhd : ((b :: l).take (oneS (b :: l)).m ++ r).head? = some b := by rw [ht']; rfl
        have hm : (oneS (b :: l)).m = digN (b :: l) := by rw [hS]
        have hok : numOk (b :: l) = true := by rw [hS] at ho; exact ho
        have hbad : numBad (b :: l) = false := by
          unfold numOk at hok
          cases hbb : numBad (b :: l) with
          | false => rfl
          | true => rw [hbb] at hok; simp at hok
        have hbad2 : numBad ((b :: l).take (oneS (b :: l)).m ++ r) = false := by
          unfold numBad at hbad ⊢
          rw [hn, hla, hhd, hlen, hm]
          simp only [List.head?_cons, Bool.or_eq_false_iff] at hbad ⊢
          exact ⟨hbad.1, trivial⟩
        have e1 : numX ((b :: l).take (oneS (b :: l)).m ++ r) = numX (b :: l) := by
          unfold numX
          rw [hbad, hbad2, hn, htl, hm]
        have e2 : numOk ((b :: l).take (oneS (b :: l)).m ++ r) = true := by
          rw [← hok]
          unfold numOk
          rw [hbad, hbad2, hn, htl, hm]
        rw [e1, e2, hn]
        have ek : (oneS (b :: l)).k = 2 := by rw [hS]
        have ex : (oneS (b :: l)).x = numX (b :: l) := by rw [hS]
        rw [ek, ex]
      · rw [if_neg hdb] at hS h1
        have ek : (oneS (b :: l)).k = 4 := by rw [hS]
        have ex : (oneS (b :: l)).x = 0 := by rw [hS]
        have em : (oneS (b :: l)).m = signN (b :: l) := by rw [hS]
        have eo : signOk (b :: l) = true := by rw [hS] at ho; exact ho
        rw [h1, ek, ex, hlen]
        by_cases hs : (b :: l).take 2 ∈ signs2
        · have e2 : signN (b :: l) = 2 := if_pos hs
          have hl2 : 2 ≤ (b :: l).length := by omega
          have h3 : ((b :: l).take (oneS (b :: l)).m ++ r).take 2 = (b :: l).take 2 := by
            rw [em, e2]
            have : ((b :: l).take 2).length = 2 := by rw [List.length_take]; omega
            rw [List.take_append_of_le_length (by omega), List.take_take]; rfl
          have e3 : signN ((b :: l).take (oneS (b :: l)).m ++ r) = 2 := by unfold signN; rw [h3, if_pos hs]
          have e4 : signOk ((b :: l).take (oneS (b :: l)).m ++ r) = true := by unfold signOk; rw [h3, decide_eq_true hs]; rfl
          rw [e3, e4, em, e2]
        · have e2 : signN (b :: l) = 1 := if_neg hs
          have et : (b :: l).take (oneS (b :: l)).m ++ r = b :: r := by rw [em, e2]; rfl
          have hs2 := (restOK_signs hr b).1
          have hb1 : b ∈ signs1 := by
            unfold signOk at eo
            rw [decide_eq_false hs] at eo
            simpa using eo
          have e3 : signN (b :: r) = 1 := if_neg hs2
          have e4 : signOk (b :: r) = true := by unfold signOk; rw [decide_eq_false hs2]; simpa using hb1
          rw [et, e3, e4, em, e2]

theorem scanB_toks : ∀ (f : Nat) (l : List UInt8) (n : Int), PostB l → ∀ t ∈ (scanB f l n).1, TokOK t
  | 0, l, n, _, t, ht => by simp [scanB] at ht
  | f + 1, l, n, hp, t, ht => by
    by_cases hr : l = []
    · subst hr; rw [scanB_nil] at ht; simp at ht
    · cases ho : (oneS l).ok with
      | false => rw [scanB_bad hr ho] at ht; simp at ht
      | true =>
        rw [scanB_ok hr ho] at ht
        rcases List.mem_cons.1 ht with rfl | ht
        · exact tokOK hp hr ho n
        · exact scanB_toks f _ _ (postB_blank _ _ _) t ht

theorem scanR_toks (l : List UInt8) : ∀ t ∈ (scanR l).ts, TokOK t := by
  intro t ht
  rw [scanR_eq] at ht
  split at ht
  · simp at ht
  · have h := scanB_toks (l.length + 1) (blankS false l 1).1 (blankS false l 1).2 (postB_blank _ _ _)
    have h2 : ∀ t ∈ (scanA (l.length + 1) l 1).1, TokOK t := h
    generalize scanA (l.length + 1) l 1 = z at ht h2
    obtain ⟨ts, o⟩ := z
    cases o with
    | some m => simp at ht
    | none => exact h2 t ht

/-! ### Laid anew -/

/-- What may be laid between. -/
def seps : List (List UInt8) := [[32], [10], [9, 32, 13], [32, 47, 47, 32, 120, 32, 61, 32, 48, 55, 32, 38, 32, 10], [10, 10]]
def sepOf (bt : List UInt8) (i : Nat) : List UInt8 :=
  match bt[i]? with
  | some b => seps.getD (b.toNat % 5) []
  | none => [32]

theorem seps_head : ∀ s ∈ seps, ∃ c r, s = c :: r ∧ stopB c := by
  intro s hs
  simp only [seps, List.mem_cons, List.not_mem_nil, or_false] at hs
  rcases hs with rfl | rfl | rfl | rfl | rfl
  · exact ⟨_, _, rfl, .inr (.inl rfl)⟩
  · exact ⟨_, _, rfl, .inl rfl⟩
  · exact ⟨_, _, rfl, .inr (.inr rfl)⟩
  · exact ⟨_, _, rfl, .inr (.inl rfl)⟩
  · exact ⟨_, _, rfl, .inl rfl⟩

theorem seps_blank : ∀ s ∈ seps, ∀ (l : List UInt8) (n : Int), PostB l → blankS false (s ++ l) n = (l, n + cnt s) := by
  intro s hs l n hl
  simp only [seps, List.mem_cons, List.not_mem_nil, or_false] at hs
  rcases hs with rfl | rfl | rfl | rfl | rfl
  · simp [blankS, hl n, cnt]
  · simp [blankS, hl (n + 1), cnt]
  · simp [blankS, hl n, cnt]
  · simp [blankS, hl (n + 1), cnt]
  · simp [blankS, hl (n + 1 + 1), cnt]; omega

theorem sepOf_mem (bt : List UInt8) (i : Nat) : sepOf bt i ∈ seps := by
  unfold sepOf
  split
  · rename_i b _
    have h : b.toNat % 5 < seps.length := Nat.mod_lt _ (by decide)
    rw [List.getD_eq_getElem?_getD, List.getElem?_eq_getElem h]
    exact List.getElem_mem h
  · decide

/-- The tokens laid, from the i-th blanks on. -/
def laidF (bt : List UInt8) : Nat → List Tk → List UInt8
  | _, [] => []
  | i, t :: ts => sepOf bt i ++ (t.t ++ laidF bt (i + 1) ts)
/-- The tokens in the lines in which they are laid. -/
def relab (bt : List UInt8) : Nat → Int → List Tk → List Tk
  | _, _, [] => []
  | i, n, t :: ts => { t with n := n + cnt (sepOf bt i) } :: relab bt (i + 1) (n + cnt (sepOf bt i)) ts

theorem laidF_rest (bt : List UInt8) (i : Nat) (ts : List Tk) : RestOK (laidF bt i ts) := by
  cases ts with
  | nil => exact .inl rfl
  | cons t ts =>
    obtain ⟨c, r, e, hc⟩ := seps_head _ (sepOf_mem bt i)
    exact .inr ⟨c, r ++ (t.t ++ laidF bt (i + 1) ts), by rw [laidF, e]; rfl, hc⟩

theorem laid_scan (bt : List UInt8) : ∀ (ts : List Tk) (i : Nat) (n : Int) (F : Nat), (∀ t ∈ ts, TokOK t) → (laidF bt i ts).length < F → scanA F (laidF bt i ts) n = (relab bt i n ts, none)
  | [], i, n, F, _, _ => by simp [laidF, relab, scanA, blankS, scanB_nil]
  | t :: ts, i, n, F, h, hF => by
    obtain ⟨F, rfl⟩ : ∃ g, F = g + 1 := ⟨F - 1, by omega⟩
    have ht := h t (by simp)
    have hr := laidF_rest bt (i + 1) ts
    have hne : t.t ++ laidF bt (i + 1) ts ≠ [] := by simp [ht.ne]
    have ho := ht.one _ hr
    have hpos : 0 < t.t.length := List.length_pos_iff.2 ht.ne
    simp only [laidF, List.length_append] at hF
    have ih := laid_scan bt ts (i + 1) (n + cnt (sepOf bt i)) F (fun s hs => h s (by simp [hs])) (by omega)
    unfold scanA
    rw [laidF, seps_blank _ (sepOf_mem bt i) _ n (ht.post _ hr)]
    simp only
    rw [scanB_ok hne (by rw [ho]), ho]
    simp only
    rw [List.take_left, List.drop_left, ih]
    rfl

theorem relab_kin (bt : List UInt8) : ∀ (ts : List Tk) (i : Nat) (n : Int), (relab bt i n ts).map kin = ts.map kin
  | [], _, _ => rfl
  | t :: ts, i, n => by simp only [relab, List.map_cons, relab_kin bt ts]; rfl

/-- The line behind the first i blanks. -/
def lnS (bt : List UInt8) : Nat → Int
  | 0 => 1
  | i + 1 => lnS bt i + cnt (sepOf bt i)

theorem relab_line (bt : List UInt8) : ∀ (ts : List Tk) (i k : Nat) (t : Tk), (relab bt i (lnS bt i) ts)[k]? = some t → t.n = lnS bt (i + k + 1)
  | [], i, k, t, h => by simp [relab] at h
  | s :: ts, i, 0, t, h => by simp only [relab, List.getElem?_cons_zero, Option.some.injEq] at h; subst h; rfl
  | s :: ts, i, k + 1, t, h => by
    simp only [relab, List.getElem?_cons_succ] at h
    have := relab_line bt ts (i + 1) k t h
    rw [this]
    congr 1
    omega

theorem laidF_snoc (bt : List UInt8) (t : Tk) : ∀ (ts : List Tk) (i : Nat), laidF bt i (ts ++ [t]) = laidF bt i ts ++ sepOf bt (i + ts.length) ++ t.t
  | [], i => by simp [laidF]
  | s :: ts, i => by
    simp only [List.cons_append, laidF, laidF_snoc bt t ts (i + 1), List.length_cons]
    rw [show i + 1 + ts.length = i + (ts.length + 1) by omega]
    simp

/-- THE THEOREM: laid anew, scanned anew. -/
theorem back_law (src bt : List UInt8) (he : (scanR src).e = 0) (hlen : (laidF bt 0 (scanR src).ts).length ≤ 16384) :
    ∃ ms, scanR (laidF bt 0 (scanR src).ts) = ⟨ms, 0, 0⟩ ∧ ms.map kin = (scanR src).ts.map kin ∧ ms.length = (scanR src).ts.length ∧ ∀ (k : Nat) (t : Tk), ms[k]? = some t → t.n = lnS bt (k + 1) := by
  have h := laid_scan bt (scanR src).ts 0 1 ((laidF bt 0 (scanR src).ts).length + 1) (scanR_toks src) (by omega)
  refine ⟨relab bt 0 1 (scanR src).ts, ?_, relab_kin _ _ _ _, by simpa using congrArg List.length (relab_kin bt (scanR src).ts 0 1), fun k t ht => ?_⟩
  · rw [scanR_eq, if_neg (by omega), h]
  · have := relab_line bt (scanR src).ts 0 k t ht
    simpa using this
end Go.Proofs.YtoplaknmmglagaaDoor.T
