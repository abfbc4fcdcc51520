/-
law11: TokenShape, walked.
-/
import Derived.Test.YtoplaknmmglagaaDoorT19
set_option linter.unusedVariables false
set_option linter.unusedSimpArgs false
namespace Go.Proofs.YtoplaknmmglagaaDoor.T
open Go Go.AX

/-- Where the look at the tokens stands: which one, where in the source. -/
structure Sh where
  i : Nat
  a : Nat
  E : Nat
  c : Nat

theorem letS_true {t : List UInt8} (h : ∀ b ∈ t, (letB b.toNat || digB b.toNat) = true) : letS t = true := List.all_eq_true.2 h
theorem digS_true {t : List UInt8} (h : ∀ b ∈ t, digB b.toNat = true) : digS t = true := List.all_eq_true.2 h
theorem letS_false {t : List UInt8} (h : ∃ b s, t = b :: s ∧ letB b.toNat = false ∧ digB b.toNat = false) : letS t = false := by
  obtain ⟨b, s, rfl, h1, h2⟩ := h
  simp [letS, h1, h2]
theorem digS_false {t : List UInt8} (h : ∃ b s, t = b :: s ∧ digB b.toNat = false) : digS t = false := by
  obtain ⟨b, s, rfl, h1⟩ := h
  simp [digS, h1]

theorem loc_drop {src : List UInt8} {E : Nat} {ts : List Tk} {i : Nat} {t : Tk} (h : ts[i]? = some t) (hL : Loc src E (ts.drop i)) :
    ∃ p, E ≤ p ∧ (src.drop p).take t.t.length = t.t ∧ p + t.t.length ≤ src.length ∧ t.n = 1 + (cnt (src.take p) : Int) ∧ GoodK t ∧ Loc src (p + t.t.length) (ts.drop (i + 1)) := by
  have hi := (List.getElem?_eq_some_iff.1 h)
  obtain ⟨hi1, hi2⟩ := hi
  rw [List.drop_eq_getElem_cons hi1, hi2] at hL
  exact hL

theorem shape_rest (src : List UInt8) (ts : List Tk) (hs : src.length ≤ 8192) (hts : ts.length ≤ src.length) (hL : Loc src 0 ts) (c : Nat) :
    WPk Tryd.prog (.loop K5_50) (blkQ 2 (seqK (WPk Tryd.prog K5_184) (PostX Tryd.prog [ResultVar.tmp 2] fun r H x => Frz false H r (AV.bool true)))) ⟨[(0, bv src), (3, tksV ts), (8, .int .i64 0), (9, .int .i64 1), (10, .int .i64 0)], [], c⟩ := by
  refine WPk_loop (fun q : Sh => ⟨[(0, bv src), (3, tksV ts), (8, .int .i64 q.a), (9, .int .i64 (1 + (cnt (src.take q.a) : Int))), (10, .int .i64 q.i)], [], q.c⟩)
    (fun q => q.i ≤ ts.length ∧ q.a ≤ q.E ∧ q.E ≤ src.length ∧ cnt (src.take q.a) = cnt (src.take q.E) ∧ Loc src q.E (ts.drop q.i)) (fun q => ts.length - q.i) ⟨0, 0, 0, c⟩
    (Weak.ofE (by simp [cnt]) rfl (Nat.le_refl _)) ⟨Nat.zero_le _, Nat.le_refl _, Nat.zero_le _, rfl, hL⟩ ?_
  rintro ⟨i, a, E, c⟩ ⟨hi, haE, hE, hcE, hLo⟩
  simp only at hi haE hE hcE hLo
  simp -implicitDefEqProofs [-Int.not_le, -Int.not_lt, -Nat.not_le, -Nat.not_lt, -List.map_take, -List.map_drop]
  refine WPk_split rfl (fun h => ?_) (fun h => ?_)
  case refine_2 =>
    simp -implicitDefEqProofs [-Int.not_le, -Int.not_lt, -Nat.not_le, -Nat.not_lt, -List.map_take, -List.map_drop]
    refine CallWP.pure works_spec rfl ?_
    try simp -implicitDefEqProofs [-Int.not_le, -Int.not_lt, -Nat.not_le, -Nat.not_lt, -List.map_take, -List.map_drop]
    exact .bool _
  have hi' : i < ts.length := by simpa using h
  obtain ⟨t, ht⟩ : ∃ t, ts[i]? = some t := ⟨_, List.getElem?_eq_getElem hi'⟩
  obtain ⟨p, hp1, hp2, hp3, hp4, hg, hL2⟩ := loc_drop ht hLo
  have hne : t.t ≠ [] := hg.ne
  have hml := cnt_take_mono src hp1
  have htl : t.t.length ≤ 8192 := by omega
  have hne2 : (t.t == []) = false := by simpa using hne
  have hnl : ¬ t.n < 1 + (cnt (src.take a) : Int) := by omega
  simp -implicitDefEqProofs [-Int.not_le, -Int.not_lt, -Nat.not_le, -Nat.not_lt, -List.map_take, -List.map_drop, ht, hne2, hnl]
  refine adv_loop src ts t i c (c + 1) p a hs (by omega) (by omega) hp4 (fun a1 h1 h2 h3 => ?_) (Weak.ofE (by simp) rfl (Nat.le_refl _))
  simp -implicitDefEqProofs [-Int.not_le, -Int.not_lt, -Nat.not_le, -Nat.not_lt, -List.map_take, -List.map_drop]
  refine search_loop src ts t i _ _ p a1 hs hp3 h2 htl hp2 h3 (fun a2 h4 h5 h6 => ?_)
  have hw0 : IntKind.i64.wrap ((a2 : Int) + t.t.length) = (a2 : Int) + t.t.length := wrap_i64 (by omega) (by omega)
  simp -implicitDefEqProofs [-Int.not_le, -Int.not_lt, -Nat.not_le, -Nat.not_lt, -List.map_take, -List.map_drop, hw0]
  have hc1 : (src.take (a2 + t.t.length)) = src.take a2 ++ t.t := by rw [List.take_add, h6]
  have hc2 : (src.take (p + t.t.length)) = src.take p ++ t.t := by rw [List.take_add, hp2]
  have hw1 : IntKind.i64.wrap ((i : Int) + 1) = (i : Int) + 1 := wrap_i64 (by omega) (by omega)
  have hlc : cnt (src.take (a2 + t.t.length)) = cnt (src.take p) := by rw [hc1, cnt_append, h5, hg.nl]; rfl
  have hcc : cnt (src.take (a2 + t.t.length)) = cnt (src.take (p + t.t.length)) := by rw [hc1, hc2, cnt_append, cnt_append, h5]
  have fin : ∀ υ : St, υ.sl = [(0, bv src), (3, tksV ts), (8, .int .i64 ((a2 : Int) + t.t.length)), (9, .int .i64 t.n), (10, .int .i64 ((i : Int) + 1))] →
      ∃ b : Sh, (b.i ≤ ts.length ∧ b.a ≤ b.E ∧ b.E ≤ src.length ∧ cnt (src.take b.a) = cnt (src.take b.E) ∧ Loc src b.E (ts.drop b.i)) ∧ ts.length - b.i < ts.length - i ∧
        Weak υ ⟨[(0, bv src), (3, tksV ts), (8, .int .i64 b.a), (9, .int .i64 (1 + (cnt (src.take b.a) : Int))), (10, .int .i64 b.i)], [], b.c⟩ := fun υ he => by
    refine ⟨⟨i + 1, a2 + t.t.length, p + t.t.length, υ.c⟩, ⟨hi', ?_, hp3, hcc, hL2⟩, ?_, Weak.ofL ?_ (by simp [HLe]) (Nat.le_refl _)⟩
    · simp only; omega
    · simp only; omega
    · rw [he]
      simp only
      rw [hlc, ← hp4]
      simp
  refine chars_loop src ts t i _ _ _ _ htl ?_
  rcases hg.kind with ⟨hk, q1, q2, q3, q4⟩ | ⟨hk, q1, q2, q3⟩ | ⟨hk, q1, q2, q3⟩
  · have hLt := letS_true q1
    have hDf := digS_false q2
    rcases hk with hk | hk
    · have h24 : ¬ (24 : Int) < t.t.length := by have := q4 hk; omega
      simp -implicitDefEqProofs [-Int.not_le, -Int.not_lt, -Nat.not_le, -Nat.not_lt, -List.map_take, -List.map_drop, hk, hLt, hDf, q3, h24, hw1]
      exact fin _ rfl
    · simp -implicitDefEqProofs [-Int.not_le, -Int.not_lt, -Nat.not_le, -Nat.not_lt, -List.map_take, -List.map_drop, hk, hLt, hDf, q3, hw1]
      exact fin _ rfl
  · have hDt := digS_true q1
    have hX : xS t.t = t.x := by rw [q2]; exact xS_num t.t 0 q1 q3
    have hw2 : IntKind.u64.wrap t.x = t.x := wrap_u64 (by omega) (by omega)
    have hneg : ¬ t.x < 0 := by omega
    have hself : (t.x != t.x) = false := by simp
    simp -implicitDefEqProofs [-Int.not_le, -Int.not_lt, -Nat.not_le, -Nat.not_lt, -List.map_take, -List.map_drop, hk, hDt, hX, hw2, hneg, hself, hw1]
    exact fin _ rfl
  · have hLf := letS_false q1
    have h2l : ¬ (2 : Int) < t.t.length := by omega
    simp -implicitDefEqProofs [-Int.not_le, -Int.not_lt, -Nat.not_le, -Nat.not_lt, -List.map_take, -List.map_drop, hk, hLf, q2, h2l, hw1]
    exact fin _ rfl

theorem shape_spec (src : List UInt8) (hl : src.length ≤ 140737488351232) : PureC Tryd.prog false 5 [bv src] (.bool true) := by
  refine PureC.introK k5 (by show 1 ≤ 233; decide) ?_
  simp -implicitDefEqProofs [-Int.not_le, -Int.not_lt, -Nat.not_le, -Nat.not_lt, -List.map_take, -List.map_drop]
  refine WPk_split rfl (fun h => ?_) (fun h => ?_)
  · simp -implicitDefEqProofs [-Int.not_le, -Int.not_lt, -Nat.not_le, -Nat.not_lt, -List.map_take, -List.map_drop]
    refine CallWP.pure works_spec rfl ?_
    try simp -implicitDefEqProofs [-Int.not_le, -Int.not_lt, -Nat.not_le, -Nat.not_lt, -List.map_take, -List.map_drop]
    exact .bool _
  have hs : src.length ≤ 8192 := by simp at h; omega
  simp -implicitDefEqProofs [-Int.not_le, -Int.not_lt, -Nat.not_le, -Nat.not_lt, -List.map_take, -List.map_drop]
  refine CallWP.pure (scan_spec src hl) rfl ?_
  simp -implicitDefEqProofs [-Int.not_le, -Int.not_lt, -Nat.not_le, -Nat.not_lt, -List.map_take, -List.map_drop]
  obtain ⟨hlaw, hloc⟩ := shape_law src (by omega)
  have hcount := scanR_count src
  generalize scanR src = A at hlaw hloc hcount ⊢
  obtain ⟨ts, an, ae⟩ := A
  simp only at hlaw hloc hcount ⊢
  by_cases hae : ae = 0
  case neg =>
    obtain ⟨rfl, rfl, h1, h2⟩ := hlaw hae
    simp -implicitDefEqProofs [-Int.not_le, -Int.not_lt, -Nat.not_le, -Nat.not_lt, -List.map_take, -List.map_drop]
    refine WPk_loop (fun k : Nat => ⟨[(0, bv src), (3, tksV []), (4, .int .i64 an), (5, .int .i64 6), (6, .int .i64 (1 + (cnt (src.take k) : Int))), (7, .int .i64 k)], [], 0⟩) (fun k => k ≤ src.length) (fun k => src.length - k) 0 (Weak.ofE (by simp [cnt]) rfl (Nat.le_refl _)) (Nat.zero_le _) ?_
    intro k hk
    simp -implicitDefEqProofs [-Int.not_le, -Int.not_lt, -Nat.not_le, -Nat.not_lt, -List.map_take, -List.map_drop]
    refine WPk_split rfl (fun h => ?_) (fun h => ?_)
    · have hk' : k < src.length := by simpa using h
      have hb := List.getElem?_eq_getElem hk'
      have hs := cnt_take_succ hb
      have hcb := cnt_le (src.take k)
      have hcb2 : (src.take k).length ≤ src.length := by rw [List.length_take]; omega
      have hw1 : IntKind.i64.wrap ((k : Int) + 1) = (k : Int) + 1 := wrap_i64 (by omega) (by omega)
      have hw2 : IntKind.i64.wrap (1 + (cnt (src.take k) : Int) + 1) = 1 + (cnt (src.take k) : Int) + 1 := wrap_i64 (by omega) (by omega)
      simp -implicitDefEqProofs [-Int.not_le, -Int.not_lt, -Nat.not_le, -Nat.not_lt, -List.map_take, -List.map_drop, hb, hw1]
      refine WPk_split rfl (fun h => ?_) (fun h => ?_)
      · have h10 : src[k].toNat = 10 := by simp at h; omega
        simp -implicitDefEqProofs [-Int.not_le, -Int.not_lt, -Nat.not_le, -Nat.not_lt, -List.map_take, -List.map_drop, hw1, hw2]
        exact ⟨k + 1, by omega, by omega, Weak.ofE (by simp [hs, h10]; omega) rfl (Nat.le_refl _)⟩
      · have h10 : src[k].toNat ≠ 10 := by simp at h; omega
        simp -implicitDefEqProofs [-Int.not_le, -Int.not_lt, -Nat.not_le, -Nat.not_lt, -List.map_take, -List.map_drop, hw1]
        exact ⟨k + 1, by omega, by omega, Weak.ofE (by simp [hs, h10]) rfl (Nat.le_refl _)⟩
    · have hk' : k = src.length := by simp at h; omega
      subst hk'
      rw [List.take_length]
      simp -implicitDefEqProofs [-Int.not_le, -Int.not_lt, -Nat.not_le, -Nat.not_lt, -List.map_take, -List.map_drop, h1, h2]
      refine CallWP.pure works_spec rfl ?_
      try simp -implicitDefEqProofs [-Int.not_le, -Int.not_lt, -Nat.not_le, -Nat.not_lt, -List.map_take, -List.map_drop]
      exact .bool _
  subst hae
  simp -implicitDefEqProofs [-Int.not_le, -Int.not_lt, -Nat.not_le, -Nat.not_lt, -List.map_take, -List.map_drop]
  exact shape_rest src ts hs hcount hloc 0
end Go.Proofs.YtoplaknmmglagaaDoor.T
