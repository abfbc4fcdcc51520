/-
law11: TokenShape's inner rounds.
-/
import Derived.Test.YtoplaknmmglagaaDoorT18
set_option linter.unusedVariables false
set_option linter.unusedSimpArgs false
namespace Go.Proofs.YtoplaknmmglagaaDoor.T
open Go Go.AX

theorem cnt_take_mono (l : List UInt8) {a b : Nat} (h : a ≤ b) : cnt (l.take a) ≤ cnt (l.take b) := by
  have : l.take b = l.take a ++ (l.drop a).take (b - a) := by rw [← List.take_add]; congr 1; omega
  rw [this, cnt_append]
  omega
theorem cnt_take_succ {l : List UInt8} {k : Nat} {b : UInt8} (h : l[k]? = some b) : cnt (l.take (k + 1)) = cnt (l.take k) + if b.toNat = 10 then 1 else 0 := by
  rw [List.take_add_one, h, cnt_append]
  simp [cnt]

theorem adv_loop {Q : Ex → St → Prop} {σ : St} (src : List UInt8) (ts : List Tk) (t : Tk) (i : Int) (g c p a0 : Nat) (hl : src.length ≤ 8192) (hp : p ≤ src.length) (ha : a0 ≤ p) (hn : t.n = 1 + (cnt (src.take p) : Int))
    (hq : ∀ a, a0 ≤ a → a ≤ p → cnt (src.take a) = cnt (src.take p) → Q (.exit 4) ⟨[(0, bv src), (3, tksV ts), (8, .int .i64 a), (9, .int .i64 t.n), (10, .int .i64 i), (11, .ptr 0 g 0 0), (89, .bool false)], [some (.cells g [tkc t])], c⟩)
    (hσ : Weak σ ⟨[(0, bv src), (3, tksV ts), (8, .int .i64 a0), (9, .int .i64 (1 + (cnt (src.take a0) : Int))), (10, .int .i64 i), (11, .ptr 0 g 0 0)], [some (.cells g [tkc t])], c⟩) : WPk Tryd.prog (.loop K5_71) Q σ := by
  refine WPk_loop (fun a : Nat => ⟨[(0, bv src), (3, tksV ts), (8, .int .i64 a), (9, .int .i64 (1 + (cnt (src.take a) : Int))), (10, .int .i64 i), (11, .ptr 0 g 0 0)], [some (.cells g [tkc t])], c⟩) (fun a => a0 ≤ a ∧ a ≤ p) (fun a => p - a) a0 hσ ⟨Nat.le_refl _, ha⟩ ?_
  rintro a ⟨h1, h2⟩
  have hm := cnt_take_mono src h2
  by_cases hlt : 1 + (cnt (src.take a) : Int) < t.n
  · have hap : a < p := by
      rcases Nat.lt_or_ge a p with h | h
      · exact h
      · have := cnt_take_mono src h; omega
    have hal : a < src.length := by omega
    have hali : (a : Int) < src.length := by omega
    have hb := List.getElem?_eq_getElem hal
    have hs := cnt_take_succ hb
    have hcb := cnt_le (src.take a)
    have hcb2 : (src.take a).length ≤ src.length := by rw [List.length_take]; omega
    have hw1 : IntKind.i64.wrap ((a : Int) + 1) = (a : Int) + 1 := wrap_i64 (by omega) (by omega)
    have hw2 : IntKind.i64.wrap (1 + (cnt (src.take a) : Int) + 1) = 1 + (cnt (src.take a) : Int) + 1 := wrap_i64 (by omega) (by omega)
    simp -implicitDefEqProofs [-Int.not_le, -Int.not_lt, -Nat.not_le, -Nat.not_lt, -List.map_take, -List.map_drop, hlt, hal, hali, hb, hw1]
    refine WPk_split rfl (fun h => ?_) (fun h => ?_)
    · have h10 : src[a].toNat = 10 := by simp at h; omega
      simp -implicitDefEqProofs [-Int.not_le, -Int.not_lt, -Nat.not_le, -Nat.not_lt, -List.map_take, -List.map_drop, hw1, hw2]
      exact ⟨a + 1, ⟨by omega, by omega⟩, by omega, Weak.ofE (by simp [hs, h10]; omega) rfl (Nat.le_refl _)⟩
    · have h10 : src[a].toNat ≠ 10 := by simp at h; omega
      simp -implicitDefEqProofs [-Int.not_le, -Int.not_lt, -Nat.not_le, -Nat.not_lt, -List.map_take, -List.map_drop, hw1]
      exact ⟨a + 1, ⟨by omega, by omega⟩, by omega, Weak.ofE (by simp [hs, h10]) rfl (Nat.le_refl _)⟩
  · have he : 1 + (cnt (src.take a) : Int) = t.n := by omega
    have := hq a h1 h2 (by omega)
    rw [← he] at this
    simp -implicitDefEqProofs [-Int.not_le, -Int.not_lt, -Nat.not_le, -Nat.not_lt, -List.map_take, -List.map_drop, hlt]
    exact this

/-- Where a text is looked for. -/
structure Se where
  a : Nat
  f : Bool

theorem search_loop {Q : Ex → St → Prop} (src : List UInt8) (ts : List Tk) (t : Tk) (i : Int) (g c p a0 : Nat) (hl : src.length ≤ 8192) (hp : p + t.t.length ≤ src.length) (ha : a0 ≤ p) (htl : t.t.length ≤ 8192)
    (hat : (src.drop p).take t.t.length = t.t) (hcn : cnt (src.take a0) = cnt (src.take p))
    (hq : ∀ a, a ≤ p → cnt (src.take a) = cnt (src.take p) → (src.drop a).take t.t.length = t.t → Q (.exit 6) ⟨[(0, bv src), (3, tksV ts), (8, .int .i64 a), (9, .int .i64 t.n), (10, .int .i64 i), (11, .ptr 0 g 0 0), (12, .bool true), (110, .bool false)], [some (.cells g [tkc t])], c⟩) :
    WPk Tryd.prog (.loop K5_90) Q ⟨[(0, bv src), (3, tksV ts), (8, .int .i64 a0), (9, .int .i64 t.n), (10, .int .i64 i), (11, .ptr 0 g 0 0), (12, .bool false)], [some (.cells g [tkc t])], c⟩ := by
  refine WPk_loop (fun q : Se => ⟨[(0, bv src), (3, tksV ts), (8, .int .i64 q.a), (9, .int .i64 t.n), (10, .int .i64 i), (11, .ptr 0 g 0 0), (12, .bool q.f)], [some (.cells g [tkc t])], c⟩) (fun q => q.a ≤ p ∧ cnt (src.take q.a) = cnt (src.take p) ∧ (q.f = true → (src.drop q.a).take t.t.length = t.t)) (fun q => 2 * (p - q.a) + if q.f = true then 0 else 1) ⟨a0, false⟩
    (Weak.ofE (by simp) rfl (Nat.le_refl _)) ⟨ha, hcn, fun h => by cases h⟩ ?_
  rintro ⟨a, f⟩ ⟨h1, h2, h3⟩
  simp only at h1 h2 h3
  have hal : a + t.t.length ≤ src.length := by omega
  have hali : (a : Int) + t.t.length ≤ src.length := by omega
  have hw0 : IntKind.i64.wrap ((a : Int) + t.t.length) = (a : Int) + t.t.length := wrap_i64 (by omega) (by omega)
  cases f with
  | true =>
    have := hq a h1 h2 (h3 rfl)
    simp -implicitDefEqProofs [-Int.not_le, -Int.not_lt, -Nat.not_le, -Nat.not_lt, -List.map_take, -List.map_drop, hw0, hal, hali]
    exact this
  | false =>
    have g1 : (0 : Int) ≤ (a : Int) + t.t.length := by omega
    have g2 : ((a : Int) + t.t.length).toNat = a + t.t.length := by omega
    have hsz := szOK_byv src
    have hcut : (src.take (a + t.t.length)).drop a = (src.drop a).take t.t.length := by
      rw [List.drop_take]
      congr 1
      omega
    simp -implicitDefEqProofs [-Int.not_le, -Int.not_lt, -Nat.not_le, -Nat.not_lt, -List.map_take, -List.map_drop, hw0, hal, hali, g1, g2]
    rw [hcut]
    by_cases he : (src.drop a).take t.t.length = t.t
    · rw [he]
      simp -implicitDefEqProofs [-Int.not_le, -Int.not_lt, -Nat.not_le, -Nat.not_lt, -List.map_take, -List.map_drop, beq_self_eq_true]
      exact ⟨⟨a, true⟩, ⟨h1, h2, fun _ => he⟩, by simp, Weak.ofE (by simp) rfl (Nat.le_refl _)⟩
    · have hap : a < p := by
        rcases Nat.lt_or_ge a p with h | h
        · exact h
        · have : a = p := by omega
          rw [this] at he
          exact absurd hat he
      have hal2 : a < src.length := by omega
      have hali2 : (a : Int) < src.length := by omega
      have hb := List.getElem?_eq_getElem hal2
      have hs := cnt_take_succ hb
      have hm := cnt_take_mono src (show a + 1 ≤ p from hap)
      have h10 : src[a].toNat ≠ 10 := by intro e; rw [if_pos e] at hs; omega
      have hne : ((src.drop a).take t.t.length == t.t) = false := by simpa using he
      have h10b : ((src[a].toNat : Int) == 10) = false := by simp; omega
      have hw1 : IntKind.i64.wrap ((a : Int) + 1) = (a : Int) + 1 := wrap_i64 (by omega) (by omega)
      simp -implicitDefEqProofs [-Int.not_le, -Int.not_lt, -Nat.not_le, -Nat.not_lt, -List.map_take, -List.map_drop, hne, hal2, hali2, hb, h10b, hw1]
      refine ⟨⟨a + 1, false⟩, ⟨hap, ?_, fun h => by cases h⟩, by simp; omega, Weak.ofE (by simp) rfl (Nat.le_refl _)⟩
      simp only
      rw [hs, if_neg h10]
      omega

theorem letS_succ {t : List UInt8} {k : Nat} {b : UInt8} (h : t[k]? = some b) : letS (t.take (k + 1)) = (letS (t.take k) && (letB b.toNat || digB b.toNat)) := by
  rw [List.take_add_one, h]; simp [letS]
theorem digS_succ {t : List UInt8} {k : Nat} {b : UInt8} (h : t[k]? = some b) : digS (t.take (k + 1)) = (digS (t.take k) && digB b.toNat) := by
  rw [List.take_add_one, h]; simp [digS]
theorem xS_succ {t : List UInt8} {k : Nat} {b : UInt8} (h : t[k]? = some b) : xS (t.take (k + 1)) = xSt (xS (t.take k)) b := by
  rw [List.take_add_one, h]; simp [xS]

theorem chars_loop {Q : Ex → St → Prop} (src : List UInt8) (ts : List Tk) (t : Tk) (i at' ln : Int) (g c : Nat) (htl : t.t.length ≤ 8192)
    (hq : Q (.exit 8) ⟨[(0, bv src), (3, tksV ts), (8, .int .i64 at'), (9, .int .i64 ln), (10, .int .i64 i), (11, .ptr 0 g 0 0), (13, .int .u64 (xS t.t)), (14, .bool (letS t.t)), (15, .bool (digS t.t)), (16, .int .i64 t.t.length), (141, .bool false)], [some (.cells g [tkc t])], c⟩) :
    WPk Tryd.prog (.loop K5_129) Q ⟨[(0, bv src), (3, tksV ts), (8, .int .i64 at'), (9, .int .i64 ln), (10, .int .i64 i), (11, .ptr 0 g 0 0), (13, .int .u64 0), (14, .bool true), (15, .bool true), (16, .int .i64 0)], [some (.cells g [tkc t])], c⟩ := by
  refine WPk_loop (fun k : Nat => ⟨[(0, bv src), (3, tksV ts), (8, .int .i64 at'), (9, .int .i64 ln), (10, .int .i64 i), (11, .ptr 0 g 0 0), (13, .int .u64 (xS (t.t.take k))), (14, .bool (letS (t.t.take k))), (15, .bool (digS (t.t.take k))), (16, .int .i64 k)], [some (.cells g [tkc t])], c⟩) (fun k => k ≤ t.t.length) (fun k => t.t.length - k) 0
    (Weak.ofE (by simp [xS, letS, digS]) rfl (Nat.le_refl _)) (Nat.zero_le _) ?_
  intro k hk
  simp -implicitDefEqProofs [-Int.not_le, -Int.not_lt, -Nat.not_le, -Nat.not_lt, -List.map_take, -List.map_drop]
  refine WPk_split rfl (fun h => ?_) (fun h => ?_)
  · have hk' : k < t.t.length := by simpa using h
    have hb := List.getElem?_eq_getElem hk'
    have q1 := letS_succ hb
    have q2 := digS_succ hb
    have q3 := xS_succ hb
    have hw1 : IntKind.i64.wrap ((k : Int) + 1) = (k : Int) + 1 := wrap_i64 (by omega) (by omega)
    generalize t.t[k] = b at hb q1 q2 q3
    generalize letS (t.t.take k) = L at q1 ⊢
    generalize digS (t.t.take k) = D at q2 ⊢
    generalize xS (t.t.take k) = X at q3 ⊢
    simp -implicitDefEqProofs [-Int.not_le, -Int.not_lt, -Nat.not_le, -Nat.not_lt, -List.map_take, -List.map_drop]
    refine WPl_cut ⟨[(0, bv src), (3, tksV ts), (8, .int .i64 at'), (9, .int .i64 ln), (10, .int .i64 i), (11, .ptr 0 g 0 0), (13, .int .u64 X), (14, .bool (letS (t.t.take (k + 1)))), (15, .bool D), (16, .int .i64 k)], [some (.cells g [tkc t])], c⟩ ?_ (fun Q hq => ?_)
    case refine_2 =>
      rw [q1] at hq
      cases L with
      | false => simp -implicitDefEqProofs [-Int.not_le, -Int.not_lt, -Nat.not_le, -Nat.not_lt, -List.map_take, -List.map_drop] ; exact hq
      | true =>
        simp -implicitDefEqProofs [-Int.not_le, -Int.not_lt, -Nat.not_le, -Nat.not_lt, -List.map_take, -List.map_drop, ba_get, hb]
        refine CallWP.pure (letter2_spec _) rfl ?_
        try simp -implicitDefEqProofs [-Int.not_le, -Int.not_lt, -Nat.not_le, -Nat.not_lt, -List.map_take, -List.map_drop]
        cases hL : letB b.toNat with
        | true => simp -implicitDefEqProofs [-Int.not_le, -Int.not_lt, -Nat.not_le, -Nat.not_lt, -List.map_take, -List.map_drop, hL] ; rw [hL] at hq; exact hq
        | false =>
          simp -implicitDefEqProofs [-Int.not_le, -Int.not_lt, -Nat.not_le, -Nat.not_lt, -List.map_take, -List.map_drop, ba_get, hb, hL]
          refine CallWP.pure (digit2_spec _) rfl ?_
          try simp -implicitDefEqProofs [-Int.not_le, -Int.not_lt, -Nat.not_le, -Nat.not_lt, -List.map_take, -List.map_drop]
          rw [hL] at hq
          exact hq
    clear hq
    simp -implicitDefEqProofs [-Int.not_le, -Int.not_lt, -Nat.not_le, -Nat.not_lt, -List.map_take, -List.map_drop]
    refine WPl_cut ⟨[(0, bv src), (3, tksV ts), (8, .int .i64 at'), (9, .int .i64 ln), (10, .int .i64 i), (11, .ptr 0 g 0 0), (13, .int .u64 X), (14, .bool (letS (t.t.take (k + 1)))), (15, .bool (digS (t.t.take (k + 1)))), (16, .int .i64 k)], [some (.cells g [tkc t])], c⟩ ?_ (fun Q hq => ?_)
    case refine_2 =>
      rw [q2] at hq
      cases D with
      | false => simp -implicitDefEqProofs [-Int.not_le, -Int.not_lt, -Nat.not_le, -Nat.not_lt, -List.map_take, -List.map_drop] ; exact hq
      | true =>
        simp -implicitDefEqProofs [-Int.not_le, -Int.not_lt, -Nat.not_le, -Nat.not_lt, -List.map_take, -List.map_drop, ba_get, hb]
        refine CallWP.pure (digit2_spec _) rfl ?_
        try simp -implicitDefEqProofs [-Int.not_le, -Int.not_lt, -Nat.not_le, -Nat.not_lt, -List.map_take, -List.map_drop]
        exact hq
    simp -implicitDefEqProofs [-Int.not_le, -Int.not_lt, -Nat.not_le, -Nat.not_lt, -List.map_take, -List.map_drop, ba_get, hb, hw1]
    exact ⟨k + 1, by omega, by omega, Weak.ofE (by simp [q3, xSt]) rfl (Nat.le_refl _)⟩
  · have hk' : k = t.t.length := by simp at h; omega
    subst hk'
    rw [List.take_length]
    simp -implicitDefEqProofs [-Int.not_le, -Int.not_lt, -Nat.not_le, -Nat.not_lt, -List.map_take, -List.map_drop]
    try simp only [h]
    exact hq
end Go.Proofs.YtoplaknmmglagaaDoor.T
