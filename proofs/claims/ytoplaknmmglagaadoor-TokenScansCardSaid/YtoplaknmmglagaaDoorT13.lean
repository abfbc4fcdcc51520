/-
law11, plain: what stands behind a line end does not turn what stands ahead of it.
-/
import Derived.Test.YtoplaknmmglagaaDoorT12
set_option linter.unusedVariables false
set_option linter.unusedSimpArgs false
namespace Go.Proofs.YtoplaknmmglagaaDoor.T
open Go Go.AX

/-- How many line ends there are. -/
def cnt : List UInt8 → Nat
  | [] => 0
  | b :: l => (if b.toNat = 10 then 1 else 0) + cnt l

theorem cnt_append : ∀ (a b : List UInt8), cnt (a ++ b) = cnt a + cnt b
  | [], b => by simp [cnt]
  | c :: a, b => by simp only [List.cons_append, cnt, cnt_append a b]; omega
theorem cnt_take_drop (l : List UInt8) (k : Nat) : cnt (l.take k) + cnt (l.drop k) = cnt l := by rw [← cnt_append, List.take_append_drop]

theorem blankS_cnt : ∀ (l : List UInt8) (c : Bool) (n : Int), (blankS c l n).2 + cnt (blankS c l n).1 = n + cnt l
  | [], c, n => by cases c <;> simp [blankS, cnt]
  | b :: l, true, n => by
    simp only [blankS]
    split
    · rename_i h; have := blankS_cnt l false (n + 1); simp only [cnt, h, if_true]; omega
    · rename_i h; have := blankS_cnt l true n; simp only [cnt, h, if_false]; omega
  | b :: l, false, n => by
    simp only [blankS]
    split
    · rename_i h; have := blankS_cnt l false (n + 1); simp only [cnt, h, if_true]; omega
    · rename_i h
      split
      · have := blankS_cnt l false n; simp only [cnt, h, if_false]; omega
      · split
        · have := blankS_cnt l true n; simp only [cnt, h, if_false]; omega
        · simp

theorem blankS_shift : ∀ (l : List UInt8) (c : Bool) (n d : Int), blankS c l (n + d) = ((blankS c l n).1, (blankS c l n).2 + d)
  | [], c, n, d => by cases c <;> rfl
  | b :: l, true, n, d => by
    simp only [blankS]
    split
    · rw [← blankS_shift l false (n + 1) d]; congr 1; omega
    · exact blankS_shift l true n d
  | b :: l, false, n, d => by
    simp only [blankS]
    split
    · rw [← blankS_shift l false (n + 1) d]; congr 1; omega
    · split
      · exact blankS_shift l false n d
      · split
        · exact blankS_shift l true n d
        · rfl

theorem blankS_10 : ∀ (l : List UInt8) (c : Bool) (b : List UInt8) (n : Int),
    blankS c (l ++ 10 :: b) n = if (blankS c l n).1 = [] then blankS false b ((blankS c l n).2 + 1) else ((blankS c l n).1 ++ 10 :: b, (blankS c l n).2)
  | [], c, b, n => by cases c <;> simp [blankS]
  | x :: l, true, b, n => by
    simp only [List.cons_append, blankS]
    split
    · exact blankS_10 l false b (n + 1)
    · exact blankS_10 l true b n
  | x :: l, false, b, n => by
    have ht : (x :: (l ++ 10 :: b)).take 2 = [47, 47] ↔ (x :: l).take 2 = [47, 47] := by
      cases l with
      | nil => simp
      | cons y l => simp
    simp only [List.cons_append, blankS]
    split
    · exact blankS_10 l false b (n + 1)
    · split
      · exact blankS_10 l false b n
      · by_cases h : (x :: l).take 2 = [47, 47]
        · rw [if_pos (ht.2 h), if_pos h]; exact blankS_10 l true b n
        · rw [if_neg (fun h' => h (ht.1 h')), if_neg h, if_neg (by simp)]; rfl

/-- A byte behind which no token goes on. -/
def stopB (b : UInt8) : Prop := b = 10 ∨ b = 32 ∨ b = 9

theorem stopB_no {b : UInt8} (h : stopB b) : letB b.toNat = false ∧ digB b.toNat = false ∧ b ≠ 38 ∧ b ≠ 124 ∧ b ≠ 61 := by
  rcases h with rfl | rfl | rfl <;> decide

theorem longS_stop (p : Int → Bool) {c : UInt8} (hp : p c.toNat = false) (b : List UInt8) : ∀ l : List UInt8, longS p (l ++ c :: b) = longS p l
  | [] => by simp [longS, hp]
  | x :: l => by simp only [List.cons_append, longS, longS_stop p hp b l]

theorem take_stop {l : List UInt8} {m : Nat} (h : m ≤ l.length) (c : UInt8) (b : List UInt8) : (l ++ c :: b).take m = l.take m ∧ (l ++ c :: b).drop m = l.drop m ++ c :: b :=
  ⟨List.take_append_of_le_length h, List.drop_append_of_le_length h⟩

theorem signs2_two : ∀ s ∈ signs2, ∃ x y, s = [x, y] ∧ (y = 38 ∨ y = 124 ∨ y = 61) ∧ x.toNat ≠ 10 ∧ y.toNat ≠ 10 := by
  intro s hs
  simp only [signs2, List.mem_cons, List.not_mem_nil, or_false] at hs
  rcases hs with rfl | rfl | rfl | rfl | rfl | rfl <;> exact ⟨_, _, rfl, by decide, by decide, by decide⟩

theorem sign_stop {l : List UInt8} (h : l ≠ []) {c : UInt8} (hc : stopB c) (b : List UInt8) : (l ++ c :: b).take 2 ∈ signs2 ↔ l.take 2 ∈ signs2 := by
  obtain ⟨_, _, q1, q2, q3⟩ := stopB_no hc
  cases l with
  | nil => exact absurd rfl h
  | cons x l => cases l with
    | nil =>
      constructor
      · intro hm
        obtain ⟨u, v, e, hv, _⟩ := signs2_two _ hm
        simp at e
        obtain ⟨_, rfl⟩ := e
        rcases hv with h | h | h
        · exact absurd h q1
        · exact absurd h q2
        · exact absurd h q3
      · intro hm
        obtain ⟨u, v, e, hv, _⟩ := signs2_two _ hm
        simp at e
    | cons y l => simp

theorem oneS_stop {l : List UInt8} (h : l ≠ []) {c : UInt8} (hc : stopB c) (b : List UInt8) : oneS (l ++ c :: b) = oneS l := by
  obtain ⟨q1, q2, _⟩ := stopB_no hc
  have h1 : nameN (l ++ c :: b) = nameN l := longS_stop _ (by simp [q1, q2]) b l
  have h2 : digN (l ++ c :: b) = digN l := longS_stop _ q2 b l
  have hh : (l ++ c :: b).head? = l.head? := by cases l with
    | nil => exact absurd rfl h
    | cons x l => rfl
  have t1 := (take_stop (longS_le (fun n => letB n || digB n) l) c b).1
  have t2 := (take_stop (longS_le digB l) c b).1
  have h3 : letAt (l ++ c :: b) (digN l) = letAt l (digN l) := by
    have hle : digN l ≤ l.length := longS_le _ _
    unfold letAt
    rcases Nat.lt_or_ge (digN l) l.length with hlt | hge
    · rw [List.getElem?_append_left hlt]
    · have : digN l = l.length := by omega
      rw [this, List.getElem?_append_right (Nat.le_refl _), Nat.sub_self]
      simp [q1]
  have h4 : numBad (l ++ c :: b) = numBad l := by simp only [numBad, h2, h3, hh]
  have h5 : (l ++ c :: b).take (digN l) = l.take (digN l) := t2
  have h6 : numX (l ++ c :: b) = numX l := by simp only [numX, h2, h4, h5]
  have h7 : numOk (l ++ c :: b) = numOk l := by simp only [numOk, h2, h4, h5]
  have h8 := sign_stop h hc b
  have h9 : signN (l ++ c :: b) = signN l := by simp only [signN, h8]
  have h10 : signOk (l ++ c :: b) = signOk l := by simp only [signOk, h8, hh]
  have h11 : (l ++ c :: b).take (nameN l) = l.take (nameN l) := t1
  unfold oneS
  rw [hh]
  simp only [h1, h2, h6, h7, h9, h10, h11]

theorem longS_mem (p : Int → Bool) (l : List UInt8) (hp : p 10 = false) : cnt (l.take (longS p l)) = 0 := by
  have h := longS_all p l
  generalize l.take (longS p l) = t at h
  induction t with
  | nil => rfl
  | cons b t ih =>
    have hb := h b (by simp)
    have : b.toNat ≠ 10 := by intro e; rw [e] at hb; simp [hp] at hb
    simp [cnt, this, ih fun c hc => h c (by simp [hc])]

theorem oneS_cnt {l : List UInt8} (h : (oneS l).ok = true) : cnt (l.take (oneS l).m) = 0 := by
  cases l with
  | nil => simp [cnt]
  | cons b l =>
    unfold oneS at h ⊢
    simp only [List.head?_cons] at h ⊢
    split
    · exact longS_mem _ _ (by decide)
    · rename_i hl
      rw [if_neg hl] at h
      split
      · exact longS_mem _ _ (by decide)
      · rename_i hd
        rw [if_neg hd] at h
        simp only [signN]
        split
        · rename_i hm
          obtain ⟨u, v, e, _, h1, h2⟩ := signs2_two _ hm
          rw [e]
          simp [cnt, h1, h2]
        · rename_i hm
          simp only [signOk, hm, decide_false, Bool.false_or, List.head?_cons, decide_eq_true_eq] at h
          have : b.toNat ≠ 10 := (by decide : ∀ b ∈ signs1, b.toNat ≠ 10) b h
          simp [cnt, this]

/-- The tokens of what is left, and its line. -/
def scanA (f : Nat) (l : List UInt8) (n : Int) : List Tk × Option Int := scanB f (blankS false l n).1 (blankS false l n).2

theorem scanB_ok {f : Nat} {l : List UInt8} {n : Int} (h : l ≠ []) (ho : (oneS l).ok = true) :
    scanB (f + 1) l n = (⟨(oneS l).k, l.take (oneS l).m, (oneS l).x, n⟩ :: (scanA f (l.drop (oneS l).m) n).1, (scanA f (l.drop (oneS l).m) n).2) := by
  rw [scanB, if_neg h, if_pos ho]; rfl
theorem scanB_bad {f : Nat} {l : List UInt8} {n : Int} (h : l ≠ []) (ho : (oneS l).ok = false) : scanB (f + 1) l n = ([], some n) := by
  rw [scanB, if_neg h, if_neg (by simp [ho])]
theorem scanB_nil {f : Nat} {n : Int} : scanB f [] n = ([], none) := by cases f <;> simp [scanB]

theorem scanB_fuel : ∀ (f g : Nat) (l : List UInt8) (n : Int), l.length < f → l.length < g → scanB f l n = scanB g l n
  | 0, _, l, n, h, _ => by omega
  | _ + 1, 0, l, n, _, h => by omega
  | f + 1, g + 1, l, n, hf, hg => by
    by_cases hl : l = []
    · subst hl; rw [scanB_nil, scanB_nil]
    · cases ho : (oneS l).ok with
      | false => rw [scanB_bad hl ho, scanB_bad hl ho]
      | true =>
        have h1 := oneS_pos hl
        have h2 : 0 < l.length := List.length_pos_iff.2 hl
        have h3 := (blankS_len (l.drop (oneS l).m) false n).1
        have h4 : (l.drop (oneS l).m).length = l.length - (oneS l).m := by simp
        have : scanA f (l.drop (oneS l).m) n = scanA g (l.drop (oneS l).m) n := scanB_fuel f g _ _ (by omega) (by omega)
        rw [scanB_ok hl ho, scanB_ok hl ho, this]

theorem scanA_fuel {f g : Nat} {l : List UInt8} {n : Int} (hf : l.length < f) (hg : l.length < g) : scanA f l n = scanA g l n := by
  have := (blankS_len l false n).1
  exact scanB_fuel f g _ _ (by omega) (by omega)

theorem scanA_shift : ∀ (f : Nat) (l : List UInt8) (n d : Int), scanA f l (n + d) = ((scanA f l n).1.map fun t => { t with n := t.n + d }, (scanA f l n).2.map (· + d))
  | 0, l, n, d => by simp [scanA, scanB]
  | f + 1, l, n, d => by
    unfold scanA
    rw [blankS_shift]
    simp only
    generalize blankS false l n = z
    obtain ⟨l, n⟩ := z
    simp only
    by_cases hl : l = []
    · subst hl; rw [scanB_nil, scanB_nil]; rfl
    · cases ho : (oneS l).ok with
      | false => rw [scanB_bad hl ho, scanB_bad hl ho]; rfl
      | true => rw [scanB_ok hl ho, scanB_ok hl ho, scanA_shift f _ n d]; rfl

/-- A line end between two sources. -/
theorem scanA_10 (b : List UInt8) : ∀ (k : Nat) (l : List UInt8) (n : Int) (f F : Nat), l.length ≤ k → l.length < f → (l ++ 10 :: b).length < F →
    scanA F (l ++ 10 :: b) n = match scanA f l n with
      | (ts, some m) => (ts, some m)
      | (ts, none) => (ts ++ (scanA F b (n + cnt l + 1)).1, (scanA F b (n + cnt l + 1)).2)
  | k, l, n, f, F, hk, hf, hF => by
    have hlen : (l ++ 10 :: b).length = l.length + b.length + 1 := by simp; omega
    obtain ⟨f, rfl⟩ : ∃ g, f = g + 1 := ⟨f - 1, by omega⟩
    obtain ⟨F, rfl⟩ : ∃ g, F = g + 1 := ⟨F - 1, by omega⟩
    have hc := blankS_cnt l false n
    have hbl := (blankS_len l false n).1
    unfold scanA
    rw [blankS_10]
    generalize blankS false l n = z at hc hbl
    obtain ⟨r, m⟩ := z
    simp only at hc hbl ⊢
    by_cases hr : r = []
    · subst hr
      rw [if_pos rfl, scanB_nil]
      have : m = n + cnt l := by simp only [cnt] at hc; omega
      subst this
      simp
    · rw [if_neg hr]
      have hr' : r ++ 10 :: b ≠ [] := by simp
      have ho' := oneS_stop hr (.inl rfl : stopB 10) b
      have hp := oneS_pos hr
      have hle := oneS_le (l := r)
      have hrl : 0 < r.length := List.length_pos_iff.2 hr
      simp only
      cases ho : (oneS r).ok with
      | false => rw [scanB_bad hr' (by rw [ho', ho]), scanB_bad hr ho]
      | true =>
        rw [scanB_ok hr' (by rw [ho', ho]), scanB_ok hr ho, ho', (take_stop hle 10 b).1, (take_stop hle 10 b).2]
        have hdl : (r.drop (oneS r).m).length = r.length - (oneS r).m := by simp
        cases k with
        | zero => omega
        | succ k =>
          have ih := scanA_10 b k (r.drop (oneS r).m) m f F (by omega) (by omega) (by simp; omega)
          have h0 := oneS_cnt ho
          have h1 := cnt_take_drop r (oneS r).m
          have hm : m + cnt (r.drop (oneS r).m) + 1 = n + cnt l + 1 := by omega
          rw [ih, hm]
          cases hA : scanA f (r.drop (oneS r).m) m with
          | mk ts o =>
            cases o with
            | some w => rfl
            | none =>
              have hfu : scanA F b (n + cnt l + 1) = scanA (F + 1) b (n + cnt l + 1) := scanA_fuel (by omega) (by omega)
              rw [hfu]
              rfl
end Go.Proofs.YtoplaknmmglagaaDoor.T
