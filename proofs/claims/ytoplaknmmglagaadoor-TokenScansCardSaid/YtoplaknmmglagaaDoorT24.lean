/-
law11: the reference: the tokens of a source.
-/
import Derived.Test.YtoplaknmmglagaaDoorT23
import Derived.Test.YtoplaknmmglagaaDoorT19
set_option linter.unusedVariables false
set_option linter.unusedSimpArgs false
namespace Go.Proofs.YtoplaknmmglagaaDoor.T
open Go Go.AX

/-- Where the blanks behind a place end. -/
def blP (src : List UInt8) (k : Nat) : Nat := src.length - (restS false (src.drop k)).length
theorem blP_spec (src : List UInt8) (k : Nat) (hk : k ≤ src.length) : k ≤ blP src k ∧ blP src k ≤ src.length ∧ blankS false (src.drop k) (1 + (cnt (src.take k) : Int)) = (src.drop (blP src k), 1 + (cnt (src.take (blP src k)) : Int)) := by
  obtain ⟨j, hj, he⟩ := blankS_suf (src.drop k) false 0
  rw [List.length_drop] at hj
  rw [List.drop_drop] at he
  have hr : restS false (src.drop k) = src.drop (k + j) := he
  have hp : blP src k = k + j := by
    unfold blP
    rw [hr, List.length_drop]
    omega
  rw [hp]
  refine ⟨by omega, by omega, ?_⟩
  have h1 := blankS_fst (src.drop k) false (1 + (cnt (src.take k) : Int))
  rw [hr] at h1
  have h2 := blankS_cnt (src.drop k) false (1 + (cnt (src.take k) : Int))
  rw [h1] at h2
  have h3 := cnt_take_drop src k
  have h4 := cnt_take_drop src (k + j)
  refine Prod.ext h1 ?_
  simp only
  omega
theorem blank2_spec (src : List UInt8) (k : Nat) (hk : k ≤ src.length) (hlen : src.length ≤ 1000000) : PureC Tryd.prog false 20 [bv src, .int .i64 k] (.int .i64 (blP src k)) := blank_spec src k hk hlen

theorem tokV_inj {k k' : Int} {t t' : List UInt8} {x x' n n' : Int} (h : tokV k t x n = tokV k' t' x' n') : k = k' ∧ t = t' ∧ x = x' := by
  simp at h
  exact ⟨h.1, h.2.1, h.2.2.1⟩

/-- Where the reference's scan stands. -/
structure Sr where
  ts : List Tk
  p : Nat
  q : Nat
  g : Nat
  c : Nat
def srT (s : Sr) : AV := if s.ts = [] then .nils else .ref 2 s.g 4 0 s.ts.length
def srH (s : Sr) : Heap := if s.ts = [] then [] else [none, none, some (.cells s.g (s.ts.map tkc))]

theorem count_loop {Q : Ex → St → Prop} (src : List UInt8) (T B : AV) (H : Heap) (c q p : Nat) (hp : p ≤ src.length) (hq : q ≤ p) (hlen : src.length ≤ 1000000)
    (hQ : Q .normal ⟨[(0, bv src), (5, T), (6, .int .i64 (1 + (cnt (src.take p) : Int))), (7, .int .i64 p), (8, .int .i64 p), (22, .bool false)], H, c⟩) :
    WPk Tryd.prog (.loop K10_31) (blkQ 2 Q) ⟨[(0, bv src), (5, T), (6, .int .i64 (1 + (cnt (src.take q) : Int))), (7, .int .i64 q), (8, .int .i64 p), (19, B)], H, c⟩ := by
  refine WPk_loop (fun k : Nat => ⟨[(0, bv src), (5, T), (6, .int .i64 (1 + (cnt (src.take k) : Int))), (7, .int .i64 k), (8, .int .i64 p)], H, c⟩) (fun k => k ≤ p) (fun k => p - k) q (Weak.ofE (by simp) rfl (Nat.le_refl _)) hq ?_
  intro k hk
  simp -implicitDefEqProofs [-Int.not_le, -Int.not_lt, -Nat.not_le, -Nat.not_lt, -List.map_take, -List.map_drop]
  refine WPk_split rfl (fun h => ?_) (fun h => ?_)
  · have hk' : k < p := by simpa using h
    have hb := List.getElem?_eq_getElem (show k < src.length by omega)
    have hs := cnt_take_succ hb
    have hcb := cnt_le (src.take k)
    have hcb2 : (src.take k).length ≤ src.length := by rw [List.length_take]; omega
    generalize src[k] = b at hb hs
    have hki : (k : Int) < src.length := by omega
    have hw1 : IntKind.i64.wrap ((k : Int) + 1) = (k : Int) + 1 := wrap_i64 (by omega) (by omega)
    have hw2 : IntKind.i64.wrap (1 + (cnt (src.take k) : Int) + 1) = 1 + (cnt (src.take k) : Int) + 1 := wrap_i64 (by omega) (by omega)
    simp -implicitDefEqProofs [-Int.not_le, -Int.not_lt, -Nat.not_le, -Nat.not_lt, -List.map_take, -List.map_drop, hb, hki, hw1]
    refine WPk_split rfl (fun h => ?_) (fun h => ?_)
    · have h10 : b.toNat = 10 := by simp at h; omega
      simp -implicitDefEqProofs [-Int.not_le, -Int.not_lt, -Nat.not_le, -Nat.not_lt, -List.map_take, -List.map_drop, hw1, hw2]
      exact ⟨k + 1, hk', by omega, Weak.ofE (by simp [hs, h10]; omega) rfl (Nat.le_refl _)⟩
    · have h10 : b.toNat ≠ 10 := by simp at h; omega
      simp -implicitDefEqProofs [-Int.not_le, -Int.not_lt, -Nat.not_le, -Nat.not_lt, -List.map_take, -List.map_drop, hw1]
      exact ⟨k + 1, hk', by omega, Weak.ofE (by simp [hs, h10]) rfl (Nat.le_refl _)⟩
  · have hk' : k = p := by simp at h; omega
    subst hk'
    simp -implicitDefEqProofs [-Int.not_le, -Int.not_lt, -Nat.not_le, -Nat.not_lt, -List.map_take, -List.map_drop]
    exact hQ

theorem scan2_spec (src : List UInt8) (hlen : src.length ≤ 140737488351232) : PureC Tryd.prog false 10 [bv src] (resAV (scanR src)) := by
  refine PureC.introK k10 (by show 1 ≤ 55; decide) ?_
  simp -implicitDefEqProofs [-Int.not_le, -Int.not_lt, -Nat.not_le, -Nat.not_lt, -List.map_take, -List.map_drop]
  refine WPk_split rfl (fun h => ?_) (fun h => ?_)
  · have hlt : 16384 < src.length := by simp at h; omega
    have hR : scanR src = ⟨[], 0, 11⟩ := by simp [scanR, hlt]
    rw [hR]
    simp -implicitDefEqProofs [-Int.not_le, -Int.not_lt, -Nat.not_le, -Nat.not_lt, -List.map_take, -List.map_drop]
    exact frz3 .nils (.int _ _) (.int _ _)
  have hle : src.length ≤ 16384 := by simp at h; omega
  simp -implicitDefEqProofs [-Int.not_le, -Int.not_lt, -Nat.not_le, -Nat.not_lt, -List.map_take, -List.map_drop]
  refine CallWP.pure (blank2_spec src 0 (Nat.zero_le _) (by omega)) rfl ?_
  obtain ⟨-, hb1, hb2⟩ := blP_spec src 0 (Nat.zero_le _)
  have hb2' : blankS false src 1 = (src.drop (blP src 0), 1 + (cnt (src.take (blP src 0)) : Int)) := hb2
  generalize hF : scanB (src.length + 1) (src.drop (blP src 0)) (1 + (cnt (src.take (blP src 0)) : Int)) = F
  have hR1 : ∀ ts, F = (ts, none) → scanR src = ⟨ts, 0, 0⟩ := fun ts e => by unfold scanR; rw [if_neg (by omega), hb2']; simp only; rw [hF, e]
  have hR2 : ∀ ts n, F = (ts, some n) → scanR src = ⟨[], n, 6⟩ := fun ts n e => by unfold scanR; rw [if_neg (by omega), hb2']; simp only; rw [hF, e]
  clear hb2 hb2'
  generalize blP src 0 = p0 at hb1 hF ⊢
  refine WPk_loop (fun s : Sr => ⟨[(0, bv src), (5, srT s), (6, .int .i64 (1 + (cnt (src.take s.q) : Int))), (7, .int .i64 s.q), (8, .int .i64 s.p)], srH s, s.c⟩)
    (fun s => (∃ f, src.length - s.p < f ∧ F = (s.ts ++ (scanB f (src.drop s.p) (1 + (cnt (src.take s.p) : Int))).1, (scanB f (src.drop s.p) (1 + (cnt (src.take s.p) : Int))).2)) ∧ s.q ≤ s.p ∧ s.p ≤ src.length ∧ s.ts.length ≤ s.p)
    (fun s => src.length - s.p) ⟨[], p0, 0, 0, 0⟩ (Weak.ofL (by simp [srT, cnt]) (by simp [srH, HLe]) (Nat.le_refl _)) ?_ ?_
  · refine ⟨⟨src.length + 1, ?_, ?_⟩, Nat.zero_le _, hb1, Nat.zero_le _⟩
    · simp only; omega
    · simp only [List.nil_append]; rw [hF]
  rintro ⟨ts, p, q, g, c⟩ ⟨⟨f, hf, hS⟩, hq, hp, hts⟩
  simp only at hf hS hq hp hts
  simp -implicitDefEqProofs [-Int.not_le, -Int.not_lt, -Nat.not_le, -Nat.not_lt, -List.map_take, -List.map_drop]
  refine WPk_split rfl (fun h => ?_) (fun h => ?_)
  case refine_2 =>
    have hpe : p = src.length := by simp at h; omega
    subst hpe
    rw [List.drop_length, scanB_nil, List.append_nil] at hS
    have hR : scanR src = ⟨ts, 0, 0⟩ := hR1 _ hS
    rw [hR]
    simp -implicitDefEqProofs [-Int.not_le, -Int.not_lt, -Nat.not_le, -Nat.not_lt, -List.map_take, -List.map_drop]
    refine frz3 ?_ (.int _ _) (.int _ _)
    rw [srT, srH]
    by_cases he : ts = []
    · simp only [he, if_true]
      exact .nils
    · simp only [if_neg he]
      exact frz_toks (by simp [Go.AX.rowAt]) rfl
  have hpl : p < src.length := by simpa using h
  simp -implicitDefEqProofs [-Int.not_le, -Int.not_lt, -Nat.not_le, -Nat.not_lt, -List.map_take, -List.map_drop]
  refine count_loop src _ _ _ _ q p hp hq (by omega) ?_
  simp -implicitDefEqProofs [-Int.not_le, -Int.not_lt, -Nat.not_le, -Nat.not_lt, -List.map_take, -List.map_drop]
  obtain ⟨v, hv, hvok, vk, vt, vx, rfl⟩ := one2_spec src p hpl (by omega)
  refine CallWP.pure hv rfl ?_
  have hne : src.drop p ≠ [] := fun e => by
    have := congrArg List.length e
    rw [List.length_drop, List.length_nil] at this
    omega
  have hm1 := oneS_pos hne
  have hm2 := oneS_le (l := src.drop p)
  rw [List.length_drop] at hm2
  obtain ⟨f, rfl⟩ : ∃ k, f = k + 1 := ⟨f - 1, by omega⟩
  cases ho : (oneS (src.drop p)).ok with
  | false =>
    rw [scanB_bad hne ho] at hS
    have hR := hR2 _ _ hS
    rw [hR]
    simp -implicitDefEqProofs [-Int.not_le, -Int.not_lt, -Nat.not_le, -Nat.not_lt, -List.map_take, -List.map_drop, hget_app, hget_app0, hset_app, hset_app0]
    exact frz3 .nils (.int _ _) (.int _ _)
  | true =>
    rw [scanB_ok hne ho] at hS
    have hve := hvok ho
    obtain ⟨rfl, rfl, rfl⟩ := tokV_inj hve
    have hdl : ((src.drop p).take (oneS (src.drop p)).m).length = (oneS (src.drop p)).m := by rw [List.length_take, List.length_drop]; omega
    have hcn := oneS_cnt ho
    have hdd : (src.drop p).drop (oneS (src.drop p)).m = src.drop (p + (oneS (src.drop p)).m) := List.drop_drop
    rw [hdd] at hS
    generalize hT : (src.drop p).take (oneS (src.drop p)).m = t at hdl hS hcn ⊢
    have hck : cnt (src.take (p + (oneS (src.drop p)).m)) = cnt (src.take p) := by rw [List.take_add, cnt_append, hT, hcn]; rfl
    generalize oneS (src.drop p) = o at *
    obtain ⟨ok, om, ox, oo⟩ := o
    simp only at *
    have hbl := blP_spec src (p + om) (by omega)
    rw [hck] at hbl
    obtain ⟨b1, b2, b3⟩ := hbl
    unfold scanA at hS
    rw [b3] at hS
    simp only at hS
    have hw : IntKind.i64.wrap ((p : Int) + om) = (p : Int) + om := wrap_i64 (by omega) (by omega)
    have hbs := blank2_spec src (p + om) (by omega) (by omega)
    rw [Int.natCast_add] at hbs
    by_cases he : ts = []
    · subst he
      have hr40 : 40 ≤ roomX := by decide
      have h1 : srT ⟨[], p, q, g, c⟩ = .nils := rfl
      have h2 : srH ⟨[], p, q, g, c⟩ = [] := rfl
      rw [h1, h2]
      simp -implicitDefEqProofs [-Int.not_le, -Int.not_lt, -Nat.not_le, -Nat.not_lt, -List.map_take, -List.map_drop, hr40, hdl, hw]
      refine CallWP.pure hbs rfl ?_
      refine ⟨⟨[⟨ok, t, ox, 1 + (cnt (src.take p) : Int)⟩], blP src (p + om), p, c + 1 + 1, c + 1 + 1 + 1⟩, ⟨⟨f, ?_, ?_⟩, ?_, ?_, ?_⟩, ?_, Weak.ofL (by simp [srT]) (by simp [srH, HLe]) (Nat.le_refl _)⟩
      · simp only; omega
      · rw [hS]; rfl
      · simp only; omega
      · simp only; omega
      · simp only [List.length_cons, List.length_nil]; omega
      · simp only; omega
    · have hr40 : (ts.length + 1) * 40 ≤ roomX := by unfold roomX; omega
      have htk : List.take ts.length (List.map tkc ts) = List.map tkc ts := List.take_of_length_le (by simp)
      have h1 : srT ⟨ts, p, q, g, c⟩ = .ref 2 g 4 0 ts.length := if_neg he
      have h2 : srH ⟨ts, p, q, g, c⟩ = [none, none, some (.cells g (ts.map tkc))] := if_neg he
      rw [h1, h2]
      simp -implicitDefEqProofs [-Int.not_le, -Int.not_lt, -Nat.not_le, -Nat.not_lt, -List.map_take, -List.map_drop, hr40, hdl, hw]
      refine CallWP.pure hbs rfl ?_
      trace_state
      refine ⟨⟨ts ++ [⟨ok, t, ox, 1 + (cnt (src.take p) : Int)⟩], blP src (p + om), p, c + 1 + 1, c + 1 + 1 + 1⟩, ⟨⟨f, ?_, ?_⟩, ?_, ?_, ?_⟩, ?_, Weak.ofL (by simp [srT]) (by simp [srH, HLe, htk]) (Nat.le_refl _)⟩
      · simp only; omega
      · rw [hS]; simp
      · simp only; omega
      · simp only; omega
      · simp only [List.length_append, List.length_cons, List.length_nil]; omega
      · simp only; omega
end Go.Proofs.YtoplaknmmglagaaDoor.T
