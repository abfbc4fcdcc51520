/-
law11: the reference: the token at a place.
-/
import Derived.Test.YtoplaknmmglagaaDoorT22
set_option linter.unusedVariables false
set_option linter.unusedSimpArgs false
namespace Go.Proofs.YtoplaknmmglagaaDoor.T
open Go Go.AX

def pAt (p : Int → Bool) (src : List UInt8) (j : Nat) : Bool :=
  match src[j]? with
  | some b => p b.toNat
  | none => false
theorem longS_at (p : Int → Bool) (src : List UInt8) (j : Nat) : longS p (src.drop j) = if pAt p src j = true then longS p (src.drop (j + 1)) + 1 else 0 := by
  unfold pAt
  rcases Nat.lt_or_ge j src.length with h | h
  · rw [List.drop_eq_getElem_cons h, List.getElem?_eq_getElem h, longS]
  · rw [List.drop_eq_nil_of_le h, List.getElem?_eq_none h]
    rfl
theorem pAt_lt {p : Int → Bool} {src : List UInt8} {j : Nat} (h : pAt p src j = true) : j < src.length := by
  rcases Nat.lt_or_ge j src.length with h' | h'
  · exact h'
  · unfold pAt at h; rw [List.getElem?_eq_none h'] at h; cases h
theorem pAt_some {p : Int → Bool} {src : List UInt8} {j : Nat} {b : UInt8} (h : src[j]? = some b) : pAt p src j = p b.toNat := by unfold pAt; rw [h]

theorem frz_tok {al : Bool} {H : Heap} (k : Int) (t : List UInt8) (x n : Int) : Frz al H (tokV k t x n) (tokV k t x n) :=
  .agg _ _ rfl fun j c c' h1 h2 => by
    rw [h1] at h2
    cases h2
    match j with
    | 0 => simp at h1; subst h1; exact .int _ _
    | 1 => simp at h1; subst h1; exact .str _
    | 2 => simp at h1; subst h1; exact .int _ _
    | 3 => simp at h1; subst h1; exact .int _ _
    | j + 4 => simp at h1

abbrev nmB (n : Int) : Bool := letB n || digB n

theorem one2_name (src : List UInt8) (a : Nat) (b0 : UInt8) (hb0 : src[a]? = some b0) (hb : letB b0.toNat = true) (hlen : src.length ≤ 1000000) :
    PureC Tryd.prog false 21 [bv src, .int .i64 a] (.tup [tokV (oneS (src.drop a)).k ((src.drop a).take (oneS (src.drop a)).m) (oneS (src.drop a)).x 0, .bool (oneS (src.drop a)).ok]) := by
  have hal : a < src.length := (List.getElem?_eq_some_iff.1 hb0).1
  have hh : (src.drop a).head? = some b0 := by rw [List.head?_drop]; exact hb0
  have hS : oneS (src.drop a) = ⟨if (src.drop a).take (nameN (src.drop a)) ∈ wordsL then 3 else 1, nameN (src.drop a), 0, decide (nameN (src.drop a) ≤ 24)⟩ := by unfold oneS; rw [hh]; simp only; rw [if_pos hb]
  rw [hS]
  refine PureC.introK k21 (by show 2 ≤ 142; decide) ?_
  simp -implicitDefEqProofs [-Int.not_le, -Int.not_lt, -Nat.not_le, -Nat.not_lt, -List.map_take, -List.map_drop, hb0]
  refine CallWP.pure (letter2_spec _) rfl ?_
  rw [hb]
  simp -implicitDefEqProofs [-Int.not_le, -Int.not_lt, -Nat.not_le, -Nat.not_lt, -List.map_take, -List.map_drop]
  refine WPk_loop (fun j : Nat => ⟨[(0, bv src), (1, .int .i64 a), (4, .ptr 0 0 0 0), (6, .int .i64 j)], [some (.cells 0 [[.int .u8 0, .str ⟨#[]⟩, .int .i64 0, .int .i64 0]])], 1⟩) (fun j => a ≤ j ∧ j ≤ src.length ∧ nameN (src.drop a) = (j - a) + longS nmB (src.drop j)) (fun j => src.length - j) a (Weak.ofE (by simp) rfl (Nat.le_refl _)) ⟨Nat.le_refl _, Nat.le_of_lt hal, by simp [nameN]⟩ ?_
  rintro j ⟨h1, h2, h3⟩
  simp -implicitDefEqProofs [-Int.not_le, -Int.not_lt, -Nat.not_le, -Nat.not_lt, -List.map_take, -List.map_drop]
  refine WPl_cut ⟨[(0, bv src), (1, .int .i64 a), (4, .ptr 0 0 0 0), (6, .int .i64 j), (39, .bool (pAt nmB src j))], [some (.cells 0 [[.int .u8 0, .str ⟨#[]⟩, .int .i64 0, .int .i64 0]])], 1⟩ ?_ (fun Q hq => ?_)
  case refine_2 =>
    refine WPl_split rfl (fun h => ?_) (fun h => ?_)
    · have hlt : j < src.length := by simp at h; omega
      have hli : (j : Int) < src.length := by omega
      have hbj := List.getElem?_eq_getElem hlt
      rw [pAt_some hbj] at hq
      simp -implicitDefEqProofs [-Int.not_le, -Int.not_lt, -Nat.not_le, -Nat.not_lt, -List.map_take, -List.map_drop, h, hlt, hli, hbj]
      refine CallWP.pure (letter2_spec _) rfl ?_
      try simp -implicitDefEqProofs [-Int.not_le, -Int.not_lt, -Nat.not_le, -Nat.not_lt, -List.map_take, -List.map_drop]
      refine WPl_split rfl (fun h => ?_) (fun h => ?_)
      · have hf : letB src[j].toNat = false := by simpa using h
        simp only [nmB, hf, Bool.false_or] at hq
        simp -implicitDefEqProofs [-Int.not_le, -Int.not_lt, -Nat.not_le, -Nat.not_lt, -List.map_take, -List.map_drop, hf, hlt, hli, hbj]
        refine CallWP.pure (digit2_spec _) rfl ?_
        try simp -implicitDefEqProofs [-Int.not_le, -Int.not_lt, -Nat.not_le, -Nat.not_lt, -List.map_take, -List.map_drop]
        exact hq
      · have hf : letB src[j].toNat = true := by simpa using h
        simp only [nmB, hf, Bool.true_or] at hq
        simp -implicitDefEqProofs [-Int.not_le, -Int.not_lt, -Nat.not_le, -Nat.not_lt, -List.map_take, -List.map_drop, hf]
        exact hq
    · have hlt : ¬ j < src.length := by simp at h; omega
      have hn : src[j]? = none := by simp; omega
      have hp : pAt nmB src j = false := by unfold pAt; rw [hn]
      rw [hp] at hq
      simp -implicitDefEqProofs [-Int.not_le, -Int.not_lt, -Nat.not_le, -Nat.not_lt, -List.map_take, -List.map_drop, h, hlt]
      exact hq
  have hat := longS_at nmB src j
  have hw : IntKind.i64.wrap ((j : Int) + 1) = (j : Int) + 1 := wrap_i64 (by omega) (by omega)
  cases hp : pAt nmB src j with
  | true =>
    rw [hp, if_pos rfl] at hat
    have := pAt_lt hp
    simp -implicitDefEqProofs [-Int.not_le, -Int.not_lt, -Nat.not_le, -Nat.not_lt, -List.map_take, -List.map_drop, hw]
    exact ⟨j + 1, ⟨by omega, by omega, by omega⟩, by omega, Weak.ofE (by simp) rfl (Nat.le_refl _)⟩
  | false =>
    rw [hp, if_neg (by decide)] at hat
    have hN : nameN (src.drop a) = j - a := by omega
    rw [hN]
    have hij : (a : Int) ≤ j := by omega
    have hjl : (j : Int) ≤ src.length := by omega
    simp -implicitDefEqProofs [-Int.not_le, -Int.not_lt, -Nat.not_le, -Nat.not_lt, -List.map_take, -List.map_drop, h1, h2, hij, hjl]
    have hdt : List.drop a (List.take j src) = (src.drop a).take (j - a) := List.drop_take
    rw [hdt]
    refine CallWP.pure words2_spec rfl ?_
    refine CallWP.pure (in_spec wordsL _ (by decide)) rfl ?_
    try simp -implicitDefEqProofs [-Int.not_le, -Int.not_lt, -Nat.not_le, -Nat.not_lt, -List.map_take, -List.map_drop]
    have hTl : ((src.drop a).take (j - a)).length = j - a := by rw [List.length_take, List.length_drop]; omega
    have hd24 : decide (j ≤ 24 + a) = decide (((src.drop a).take (j - a)).length ≤ 24) := by rw [hTl, Bool.eq_iff_iff]; simp
    rw [hd24]
    clear hd24 hdt hS hN h3
    generalize (src.drop a).take (j - a) = t at hTl ⊢
    refine WPk_split rfl (fun h => ?_) (fun h => ?_)
    · have hm : t ∈ wordsL := by simpa using h
      have h24 : t.length ≤ 24 := (by decide : ∀ w ∈ wordsL, w.length ≤ 24) t hm
      simp -implicitDefEqProofs [-Int.not_le, -Int.not_lt, -Nat.not_le, -Nat.not_lt, -List.map_take, -List.map_drop, hm, h24]
      exact frz2 (frz_tok _ _ _ _) (.bool _)
    · have hm : t ∉ wordsL := by simpa using h
      simp -implicitDefEqProofs [-Int.not_le, -Int.not_lt, -Nat.not_le, -Nat.not_lt, -List.map_take, -List.map_drop, hm]
      exact frz2 (frz_tok _ _ _ _) (frzB (by rw [Bool.eq_iff_iff]; simp; omega))

theorem one2_num (src : List UInt8) (a : Nat) (b0 : UInt8) (hb0 : src[a]? = some b0) (hb' : letB b0.toNat = false) (hb : digB b0.toNat = true) (hlen : src.length ≤ 1000000) :
    ∃ v, PureC Tryd.prog false 21 [bv src, .int .i64 a] (.tup [v, .bool (oneS (src.drop a)).ok]) ∧ ((oneS (src.drop a)).ok = true → v = tokV (oneS (src.drop a)).k ((src.drop a).take (oneS (src.drop a)).m) (oneS (src.drop a)).x 0) ∧ ∃ k t x, v = tokV k t x 0 := by
  have hal : a < src.length := (List.getElem?_eq_some_iff.1 hb0).1
  have hh : (src.drop a).head? = some b0 := by rw [List.head?_drop]; exact hb0
  have hS : oneS (src.drop a) = ⟨2, digN (src.drop a), numX (src.drop a), numOk (src.drop a)⟩ := by unfold oneS; rw [hh]; simp only; rw [hb', hb]; rfl
  rw [hS]
  simp only
  have hpos := digN_pos hh hb
  refine ⟨tokV 2 ((src.drop a).take (digN (src.drop a))) (numR ((src.drop a).take (digN (src.drop a)))).1 0, ?_, fun hok => ?_, _, _, _, rfl⟩
  case refine_2 =>
    unfold numOk at hok
    simp only [Bool.and_eq_true, Bool.not_eq_true', decide_eq_true_eq] at hok
    unfold numR numX
    rw [if_pos hok.2, hok.1, if_neg (by decide), if_pos hok.2]
  refine PureC.introK k21 (by show 2 ≤ 142; decide) ?_
  simp -implicitDefEqProofs [-Int.not_le, -Int.not_lt, -Nat.not_le, -Nat.not_lt, -List.map_take, -List.map_drop, hb0]
  refine CallWP.pure (letter2_spec _) rfl ?_
  rw [hb']
  simp -implicitDefEqProofs [-Int.not_le, -Int.not_lt, -Nat.not_le, -Nat.not_lt, -List.map_take, -List.map_drop]
  refine CallWP.pure (digit2_spec _) rfl ?_
  rw [hb]
  simp -implicitDefEqProofs [-Int.not_le, -Int.not_lt, -Nat.not_le, -Nat.not_lt, -List.map_take, -List.map_drop]
  refine WPk_loop (fun j : Nat => ⟨[(0, bv src), (1, .int .i64 a), (4, .ptr 0 0 0 0), (6, .int .i64 j)], [some (.cells 0 [[.int .u8 0, .str ⟨#[]⟩, .int .i64 0, .int .i64 0]])], 1⟩) (fun j => a ≤ j ∧ j ≤ src.length ∧ digN (src.drop a) = (j - a) + longS digB (src.drop j)) (fun j => src.length - j) a (Weak.ofE (by simp) rfl (Nat.le_refl _)) ⟨Nat.le_refl _, Nat.le_of_lt hal, by simp [digN]⟩ ?_
  rintro j ⟨h1, h2, h3⟩
  simp -implicitDefEqProofs [-Int.not_le, -Int.not_lt, -Nat.not_le, -Nat.not_lt, -List.map_take, -List.map_drop]
  refine WPl_cut ⟨[(0, bv src), (1, .int .i64 a), (4, .ptr 0 0 0 0), (6, .int .i64 j), (70, .bool (pAt digB src j))], [some (.cells 0 [[.int .u8 0, .str ⟨#[]⟩, .int .i64 0, .int .i64 0]])], 1⟩ ?_ (fun Q hq => ?_)
  case refine_2 =>
    refine WPl_split rfl (fun h => ?_) (fun h => ?_)
    · have hlt : j < src.length := by simp at h; omega
      have hli : (j : Int) < src.length := by omega
      have hbj := List.getElem?_eq_getElem hlt
      rw [pAt_some hbj] at hq
      simp -implicitDefEqProofs [-Int.not_le, -Int.not_lt, -Nat.not_le, -Nat.not_lt, -List.map_take, -List.map_drop, h, hlt, hli, hbj]
      refine CallWP.pure (digit2_spec _) rfl ?_
      try simp -implicitDefEqProofs [-Int.not_le, -Int.not_lt, -Nat.not_le, -Nat.not_lt, -List.map_take, -List.map_drop]
      exact hq
    · have hlt : ¬ j < src.length := by simp at h; omega
      have hn : src[j]? = none := by simp; omega
      have hp : pAt digB src j = false := by unfold pAt; rw [hn]
      rw [hp] at hq
      simp -implicitDefEqProofs [-Int.not_le, -Int.not_lt, -Nat.not_le, -Nat.not_lt, -List.map_take, -List.map_drop, h, hlt]
      exact hq
  have hat := longS_at digB src j
  have hw : IntKind.i64.wrap ((j : Int) + 1) = (j : Int) + 1 := wrap_i64 (by omega) (by omega)
  cases hp : pAt digB src j with
  | true =>
    rw [hp, if_pos rfl] at hat
    have := pAt_lt hp
    simp -implicitDefEqProofs [-Int.not_le, -Int.not_lt, -Nat.not_le, -Nat.not_lt, -List.map_take, -List.map_drop, hw]
    exact ⟨j + 1, ⟨by omega, by omega, by omega⟩, by omega, Weak.ofE (by simp) rfl (Nat.le_refl _)⟩
  | false =>
    rw [hp, if_neg (by decide)] at hat
    have hN : digN (src.drop a) = j - a := by omega
    have hall : allDig ((src.drop a).take (digN (src.drop a))) := longS_all digB _
    have hTl : ((src.drop a).take (j - a)).length = j - a := by rw [List.length_take, List.length_drop]; omega
    have hhT : ((src.drop a).take (j - a)).head? = some b0 := by
      cases hd : src.drop a with
      | nil => rw [hd] at hh; cases hh
      | cons c l =>
        rw [hd] at hh
        obtain ⟨k, hk⟩ : ∃ k, j - a = k + 1 := ⟨j - a - 1, by omega⟩
        rw [hk]
        exact hh
    have hOk : numOk (src.drop a) = ((numR ((src.drop a).take (j - a))).2 && !(pAt letB src j)) := by
      have hlA : letAt (src.drop a) (j - a) = pAt letB src j := by
        unfold letAt pAt
        rw [List.getElem?_drop, show a + (j - a) = j by omega]
        cases src[j]? <;> rfl
      unfold numOk numBad numR
      rw [hN, hhT, hTl, hlA, hh]
      by_cases hlt : numA ((src.drop a).take (j - a)) 0 < 9223372036854775808
      · rw [if_pos hlt]
        simp only [hlt, decide_true, Bool.and_true]
        have : decide (1 < j - a) = !decide (j - a = 1) := by
          rw [Bool.eq_iff_iff]; simp; omega
        rw [this]
        cases decide (j - a = 1) <;> cases (some b0 == some 48) <;> cases pAt letB src j <;> rfl
      · rw [if_neg hlt]
        simp [hlt]
    rw [hOk]
    rw [hN] at hall hpos ⊢
    have hij : (a : Int) ≤ j := by omega
    have hjl : (j : Int) ≤ src.length := by omega
    simp -implicitDefEqProofs [-Int.not_le, -Int.not_lt, -Nat.not_le, -Nat.not_lt, -List.map_take, -List.map_drop, h1, h2, hij, hjl]
    have hdt : List.drop a (List.take j src) = (src.drop a).take (j - a) := List.drop_take
    rw [hdt]
    clear hdt hS hN h3 hOk
    have hne : (src.drop a).take (j - a) ≠ [] := fun e => by rw [e] at hTl; simp at hTl; omega
    generalize (src.drop a).take (j - a) = t at hTl hall hhT hne ⊢
    refine CallWP.pure (number2_spec t hall hne (by omega)) rfl ?_
    generalize numR t = R
    obtain ⟨rn, rb⟩ := R
    cases rb with
    | false =>
      simp -implicitDefEqProofs [-Int.not_le, -Int.not_lt, -Nat.not_le, -Nat.not_lt, -List.map_take, -List.map_drop]
      exact frz2 (frz_tok _ _ _ _) (.bool _)
    | true =>
      simp -implicitDefEqProofs [-Int.not_le, -Int.not_lt, -Nat.not_le, -Nat.not_lt, -List.map_take, -List.map_drop]
      refine WPl_split rfl (fun h => ?_) (fun h => ?_)
      · have hlt : j < src.length := by simp at h; omega
        have hji : ((j : Int) == (src.length : Int)) = false := by simp; omega
        have hbj := List.getElem?_eq_getElem hlt
        have hli : (j : Int) < src.length := by omega
        rw [pAt_some hbj]
        simp -implicitDefEqProofs [-Int.not_le, -Int.not_lt, -Nat.not_le, -Nat.not_lt, -List.map_take, -List.map_drop, hji, hlt, hli, hbj]
        refine CallWP.pure (letter2_spec _) rfl ?_
        try simp -implicitDefEqProofs [-Int.not_le, -Int.not_lt, -Nat.not_le, -Nat.not_lt, -List.map_take, -List.map_drop, hji, hlt]
        exact frz2 (frz_tok _ _ _ _) (.bool _)
      · have hji : ((j : Int) == (src.length : Int)) = true := by simpa using h
        have hlt : j = src.length := by simp at h; omega
        have hn : src[j]? = none := by simp; omega
        have hpn : pAt letB src j = false := by unfold pAt; rw [hn]
        rw [hpn]
        simp -implicitDefEqProofs [-Int.not_le, -Int.not_lt, -Nat.not_le, -Nat.not_lt, -List.map_take, -List.map_drop, hji]
        exact frz2 (frz_tok _ _ _ _) (.bool _)

def NoS2 (l : List UInt8) (i : Nat) : Prop := ∀ j, j < i → ∀ t, signsL[j]? = some t → l.take t.length ≠ t
theorem NoS2.no2 {l : List UInt8} {i : Nat} (h : NoS2 l i) (h6 : 6 ≤ i) : l.take 2 ∉ signs2 := by
  intro hm
  obtain ⟨j, hj, he⟩ := List.mem_iff_getElem.1 hm
  have hg : signsL[j]? = some (signs2[j]'hj) := by
    show (signs2 ++ _)[j]? = _
    rw [List.getElem?_append_left hj, List.getElem?_eq_getElem hj]
  refine h j (Nat.lt_of_lt_of_le hj h6) _ hg ?_
  have h2 : (signs2[j]'hj).length = 2 := (by decide : ∀ j, (h : j < signs2.length) → signs2[j].length = 2) j hj
  rw [h2, he]
theorem signsL_at : ∀ i, i < 24 → (i < 6 → signsL.getD i [] ∈ signs2 ∧ (signsL.getD i []).length = 2) ∧ (6 ≤ i → (signsL.getD i []).length = 1 ∧ ∃ b ∈ signs1, signsL.getD i [] = [b]) := by decide
theorem sgn_found {l : List UInt8} {i : Nat} {s : List UInt8} (hs : signsL[i]? = some s) (hno : NoS2 l i) (hm : l.take s.length = s) : signN l = s.length ∧ signOk l = true := by
  have hi : i < 24 := (List.getElem?_eq_some_iff.1 hs).1
  have hd : signsL.getD i [] = s := by rw [List.getD_eq_getElem?_getD, hs]; rfl
  obtain ⟨q1, q2⟩ := signsL_at i hi
  rw [hd] at q1 q2
  rcases Nat.lt_or_ge i 6 with h | h
  · obtain ⟨q3, q4⟩ := q1 h
    rw [q4] at hm
    have : l.take 2 ∈ signs2 := by rw [hm]; exact q3
    exact ⟨by rw [signN, if_pos this, q4], by simp [signOk, this]⟩
  · obtain ⟨q3, b, q4, q5⟩ := q2 h
    have hn := hno.no2 h
    refine ⟨by rw [signN, if_neg hn, q3], ?_⟩
    have hh : l.head? = some b := by
      subst q5
      cases l with
      | nil => simp at hm
      | cons c l => simp at hm; subst hm; rfl
    unfold signOk
    rw [hh]
    simp [q4]
theorem sgn_none {l : List UInt8} (hno : NoS2 l 24) : signOk l = false := by
  have hn := hno.no2 (by decide)
  unfold signOk
  simp only [hn, decide_false, Bool.false_or]
  cases hl : l.head? with
  | none => rfl
  | some b =>
    simp only [decide_eq_false_iff_not]
    intro hb
    obtain ⟨j, hj, he⟩ := List.mem_iff_getElem.1 hb
    have hj18 : j < 18 := hj
    have hg : signsL[6 + j]? = some [b] := by
      show (signs2 ++ signs1.map fun b => [b])[6 + j]? = _
      rw [List.getElem?_append_right (Nat.le_add_right 6 j), show 6 + j - signs2.length = j from Nat.add_sub_cancel_left 6 j, List.getElem?_map, List.getElem?_eq_getElem hj, he]
      rfl
    refine hno (6 + j) (by omega) _ hg ?_
    cases l with
    | nil => cases hl
    | cons c l => cases hl; rfl

theorem one2_sign (src : List UInt8) (a : Nat) (b0 : UInt8) (hb0 : src[a]? = some b0) (hb' : letB b0.toNat = false) (hb : digB b0.toNat = false) (hlen : src.length ≤ 1000000) :
    ∃ v, PureC Tryd.prog false 21 [bv src, .int .i64 a] (.tup [v, .bool (oneS (src.drop a)).ok]) ∧ ((oneS (src.drop a)).ok = true → v = tokV (oneS (src.drop a)).k ((src.drop a).take (oneS (src.drop a)).m) (oneS (src.drop a)).x 0) ∧ ∃ k t x, v = tokV k t x 0 := by
  have hal : a < src.length := (List.getElem?_eq_some_iff.1 hb0).1
  have hh : (src.drop a).head? = some b0 := by rw [List.head?_drop]; exact hb0
  have hS : oneS (src.drop a) = ⟨4, signN (src.drop a), 0, signOk (src.drop a)⟩ := by unfold oneS; rw [hh]; simp only; rw [hb', hb]; rfl
  rw [hS]
  simp only
  refine ⟨if signOk (src.drop a) = true then tokV 4 ((src.drop a).take (signN (src.drop a))) 0 0 else tokV 0 [] 0 0, ?_, fun hok => if_pos hok, by split <;> exact ⟨_, _, _, rfl⟩⟩
  refine PureC.introK k21 (by show 2 ≤ 142; decide) ?_
  simp -implicitDefEqProofs [-Int.not_le, -Int.not_lt, -Nat.not_le, -Nat.not_lt, -List.map_take, -List.map_drop, hb0]
  refine CallWP.pure (letter2_spec _) rfl ?_
  rw [hb']
  simp -implicitDefEqProofs [-Int.not_le, -Int.not_lt, -Nat.not_le, -Nat.not_lt, -List.map_take, -List.map_drop]
  refine CallWP.pure (digit2_spec _) rfl ?_
  rw [hb]
  simp -implicitDefEqProofs [-Int.not_le, -Int.not_lt, -Nat.not_le, -Nat.not_lt, -List.map_take, -List.map_drop]
  refine CallWP.pure signs_spec rfl ?_
  have hL24 : signsL.length = 24 := by decide
  refine WPk_loop (fun i : Nat => ⟨[(0, bv src), (1, .int .i64 a), (4, .ptr 0 0 0 0), (12, strsV signsL), (13, .int .i64 i)], [some (.cells 0 [[.int .u8 0, .str ⟨#[]⟩, .int .i64 0, .int .i64 0]])], 1⟩) (fun i => i ≤ 24 ∧ NoS2 (src.drop a) i) (fun i => 24 - i) 0 (Weak.ofE (by simp) rfl (Nat.le_refl _)) ⟨Nat.zero_le _, fun j h => by omega⟩ ?_
  rintro i ⟨hi, hno⟩
  have hw : IntKind.i64.wrap ((i : Int) + 1) = (i : Int) + 1 := wrap_i64 (by omega) (by omega)
  simp -implicitDefEqProofs [-Int.not_le, -Int.not_lt, -Nat.not_le, -Nat.not_lt, -List.map_take, -List.map_drop, hL24]
  refine WPk_split rfl (fun h => ?_) (fun h => ?_)
  case refine_2 =>
    have hi24 : i = 24 := by simp at h; omega
    subst hi24
    have hN := sgn_none hno
    rw [hN]
    simp -implicitDefEqProofs [-Int.not_le, -Int.not_lt, -Nat.not_le, -Nat.not_lt, -List.map_take, -List.map_drop]
    exact frz2 (frz_tok _ _ _ _) (.bool _)
  have hi24 : i < 24 := by simp at h; omega
  obtain ⟨s, hs⟩ : ∃ s, signsL[i]? = some s := ⟨_, List.getElem?_eq_getElem (by rw [hL24]; exact hi24)⟩
  have hs2 : s.length ≤ 2 := (by decide : ∀ w ∈ signsL, w.length ≤ 2) s (List.mem_of_getElem? hs)
  have hfound := sgn_found hs hno
  have hno2 : (src.drop a).take s.length ≠ s → NoS2 (src.drop a) (i + 1) := fun hn j hj t ht => by
    rcases Nat.lt_or_ge j i with h | h
    · exact hno j h t ht
    · obtain rfl : j = i := by omega
      rw [hs] at ht; cases ht
      exact hn
  have hw2 : IntKind.i64.wrap ((a : Int) + s.length) = (a : Int) + s.length := wrap_i64 (by omega) (by omega)
  simp -implicitDefEqProofs [-Int.not_le, -Int.not_lt, -Nat.not_le, -Nat.not_lt, -List.map_take, -List.map_drop, hs, hw2]
  refine WPm_cut ⟨[(0, bv src), (1, .int .i64 a), (4, .ptr 0 0 0 0), (12, strsV signsL), (13, .int .i64 i), (135, .bool (decide ((src.drop a).take s.length = s)))], [some (.cells 0 [[.int .u8 0, .str ⟨#[]⟩, .int .i64 0, .int .i64 0]])], 1⟩ ?_ (fun Q hq => ?_)
  case refine_2 =>
    refine WPm_split rfl (fun h => ?_) (fun h => ?_)
    · have hle : a + s.length ≤ src.length := by simp at h; omega
      have hlei : (a : Int) + s.length ≤ src.length := by omega
      have ht : (List.take (a + s.length) src).drop a = (src.drop a).take s.length := by rw [List.drop_take, Nat.add_sub_cancel_left]
      have g1 : (0 : Int) ≤ (a : Int) + s.length := by omega
      have g2 : ((a : Int) + s.length).toNat = a + s.length := by omega
      have g3 : (a : Int) ≤ (a : Int) + s.length := by omega
      simp -implicitDefEqProofs [-Int.not_le, -Int.not_lt, -Nat.not_le, -Nat.not_lt, -List.map_take, -List.map_drop, h, hs, hw2, hlei, hle, g1, g2, g3, ht]
      have he : ((src.drop a).take s.length == s) = decide ((src.drop a).take s.length = s) := by rw [Bool.eq_iff_iff]; simp
      rw [he]
      exact hq
    · have hle : ¬ a + s.length ≤ src.length := by simp at h; omega
      have hn : (src.drop a).take s.length ≠ s := fun e => by
        have := congrArg List.length e
        rw [List.length_take, List.length_drop] at this
        omega
      rw [decide_eq_false hn] at hq
      simp -implicitDefEqProofs [-Int.not_le, -Int.not_lt, -Nat.not_le, -Nat.not_lt, -List.map_take, -List.map_drop, h]
      exact hq
  by_cases hm : (src.drop a).take s.length = s
  · obtain ⟨q1, q2⟩ := hfound hm
    rw [q1, q2, hm]
    simp -implicitDefEqProofs [-Int.not_le, -Int.not_lt, -Nat.not_le, -Nat.not_lt, -List.map_take, -List.map_drop, hm, hs]
    exact frz2 (frz_tok _ _ _ _) (.bool _)
  · have hn := hno2 hm
    simp -implicitDefEqProofs [-Int.not_le, -Int.not_lt, -Nat.not_le, -Nat.not_lt, -List.map_take, -List.map_drop, hm, hw]
    exact ⟨i + 1, ⟨hi24, hn⟩, by omega, Weak.ofE (by simp) rfl (Nat.le_refl _)⟩

theorem one2_spec (src : List UInt8) (a : Nat) (ha : a < src.length) (hlen : src.length ≤ 1000000) :
    ∃ v, PureC Tryd.prog false 21 [bv src, .int .i64 a] (.tup [v, .bool (oneS (src.drop a)).ok]) ∧ ((oneS (src.drop a)).ok = true → v = tokV (oneS (src.drop a)).k ((src.drop a).take (oneS (src.drop a)).m) (oneS (src.drop a)).x 0) ∧ ∃ k t x, v = tokV k t x 0 := by
  have hb0 := List.getElem?_eq_getElem ha
  generalize src[a] = b0 at hb0
  cases h1 : letB b0.toNat with
  | true => exact ⟨_, one2_name src a b0 hb0 h1 hlen, fun _ => rfl, _, _, _, rfl⟩
  | false =>
    cases h2 : digB b0.toNat with
    | true => exact one2_num src a b0 hb0 h1 h2 hlen
    | false => exact one2_sign src a b0 hb0 h1 h2 hlen
end Go.Proofs.YtoplaknmmglagaaDoor.T
