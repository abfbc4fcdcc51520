/-
law11: TokenBack, walked.
-/
import Derived.Test.YtoplaknmmglagaaDoorT16
set_option linter.unusedVariables false
set_option linter.unusedSimpArgs false
namespace Go.Proofs.YtoplaknmmglagaaDoor.T
open Go Go.AX

theorem WPk_cutS {c : Cd} {Q : Ex → St → Prop} {σ : St} (S : St → Prop) (hk : ∀ τ, S τ → Q .normal τ) (h : ∀ Q' : Ex → St → Prop, (∀ τ, S τ → Q' .normal τ) → WPk Tryd.prog c Q' σ) : WPk Tryd.prog c Q σ := h Q hk

theorem scanB_tlen : ∀ (f : Nat) (l : List UInt8) (n : Int), ∀ t ∈ (scanB f l n).1, t.t.length ≤ l.length
  | 0, l, n, t, ht => by simp [scanB] at ht
  | f + 1, l, n, t, ht => by
    by_cases hr : l = []
    · subst hr; rw [scanB_nil] at ht; simp at ht
    · cases ho : (oneS l).ok with
      | false => rw [scanB_bad hr ho] at ht; simp at ht
      | true =>
        rw [scanB_ok hr ho] at ht
        rcases List.mem_cons.1 ht with rfl | ht
        · simp only [List.length_take]; omega
        · have := scanB_tlen f _ _ t ht
          have h1 := (blankS_len (l.drop (oneS l).m) false n).1
          have h4 : (l.drop (oneS l).m).length = l.length - (oneS l).m := by simp
          omega
theorem scanR_tlen (l : List UInt8) : ∀ t ∈ (scanR l).ts, t.t.length ≤ l.length := by
  intro t ht
  rw [scanR_eq] at ht
  split at ht
  · simp at ht
  · have h := scanB_tlen (l.length + 1) (blankS false l 1).1 (blankS false l 1).2
    have h2 : ∀ t ∈ (scanA (l.length + 1) l 1).1, t.t.length ≤ (blankS false l 1).1.length := h
    have h3 := (blankS_len l false 1).1
    generalize scanA (l.length + 1) l 1 = z at ht h2
    obtain ⟨ts, o⟩ := z
    cases o with
    | some m => simp at ht
    | none => have := h2 t ht; omega
theorem sepOf_len (bt : List UInt8) (i : Nat) : 1 ≤ (sepOf bt i).length ∧ (sepOf bt i).length ≤ 14 := (by decide : ∀ s ∈ seps, 1 ≤ s.length ∧ s.length ≤ 14) _ (sepOf_mem bt i)
theorem cnt_le : ∀ l : List UInt8, cnt l ≤ l.length
  | [] => by simp [cnt]
  | x :: l => by have := cnt_le l; simp only [cnt, List.length_cons]; split <;> omega
theorem laidF_len (bt : List UInt8) (M : Nat) : ∀ (ts : List Tk) (i : Nat), (∀ t ∈ ts, t.t.length ≤ M) → (laidF bt i ts).length ≤ ts.length * (14 + M)
  | [], i, _ => by simp [laidF]
  | t :: ts, i, h => by
    have h1 := laidF_len bt M ts (i + 1) fun s hs => h s (by simp [hs])
    have h2 := h t (by simp)
    have h3 := (sepOf_len bt i).2
    simp only [laidF, List.length_append, List.length_cons, Nat.add_mul]
    omega
theorem lnS_bd (bt : List UInt8) : ∀ i, 1 ≤ lnS bt i ∧ lnS bt i ≤ 1 + 14 * i
  | 0 => by simp [lnS]
  | i + 1 => by
    have h1 := lnS_bd bt i
    have h2 := cnt_le (sepOf bt i)
    have h3 := (sepOf_len bt i).2
    simp only [lnS]
    omega

/-- Where the laying stands. -/
structure Bk where
  k : Nat
  gb : Nat
  gl : Nat
  c : Nat
def linesK (bt : List UInt8) (k : Nat) : List (List AV) := (List.range k).map fun i => [.int .i64 (lnS bt (i + 1))]
def sepsV : List (List AV) := seps.map fun s => [sv s]
def bkB (bt : List UInt8) (ts : List Tk) (q : Bk) : AV := if q.k = 0 then .nils else .ref 1 q.gb 1 0 (laidF bt 0 (ts.take q.k)).length
def bkL (q : Bk) : AV := if q.k = 0 then .nils else .ref 3 q.gl 1 0 q.k
def bkH (bt : List UInt8) (ts : List Tk) (q : Bk) : Heap := some (.cells 0 sepsV) :: if q.k = 0 then [] else [some (.cells q.gb ((laidF bt 0 (ts.take q.k)).map byv)), none, some (.cells q.gl (linesK bt q.k))]

theorem sepsV_get {m : Nat} (h : m < 5) : sepsV[m]? = some [sv (seps.getD m [])] := by
  match m, h with
  | 0, _ => rfl
  | 1, _ => rfl
  | 2, _ => rfl
  | 3, _ => rfl
  | 4, _ => rfl
theorem mapbyv (l : List UInt8) : List.map (fun b => [AV.int IntKind.u8 (b.toNat : Int)]) l = l.map byv := rfl
theorem ba_get (l : List UInt8) (j : Nat) : (ByteArray.mk l.toArray)[j]? = l[j]? := by
  by_cases h : j < l.length
  · rw [List.getElem?_eq_getElem h, getElem?_pos _ _ (by simpa [ByteArray.size] using h)]
    rfl
  · rw [List.getElem?_eq_none (by omega), getElem?_neg _ _ (by simpa [ByteArray.size] using h)]
theorem linesK_succ (bt : List UInt8) (k : Nat) : linesK bt (k + 1) = linesK bt k ++ [[.int .i64 (lnS bt (k + 1))]] := by simp [linesK, List.range_succ]
theorem linesK_len (bt : List UInt8) (k : Nat) : (linesK bt k).length = k := by simp [linesK]
theorem laidF_take (bt : List UInt8) (ts : List Tk) {k : Nat} {t : Tk} (h : ts[k]? = some t) : laidF bt 0 (ts.take (k + 1)) = laidF bt 0 (ts.take k) ++ sepOf bt k ++ t.t := by
  have hk : k < ts.length := (List.getElem?_eq_some_iff.1 h).1
  rw [List.take_add_one, h]
  show laidF bt 0 (ts.take k ++ [t]) = _
  rw [laidF_snoc]
  congr 2
  rw [List.length_take, Nat.zero_add, Nat.min_eq_left (by omega)]

theorem sep_loop {Q : Ex → St → Prop} (bt : List UInt8) (ts : List Tk) (s : List UInt8) (T9 T10 : AV) (n : Int) (k : Int) (H : Heap) (c : Nat) (hn0 : 0 ≤ n) (hn1 : n ≤ 1000000) (hs : s.length ≤ 14)
    (hq : Q (.exit 2) ⟨[(1, bv bt), (5, tksV ts), (8, .ref 0 0 1 0 5), (9, T9), (10, T10), (11, .int .i64 (n + cnt s)), (12, .int .i64 k), (13, sv s), (14, .int .i64 s.length), (68, .bool false)], H, c⟩) :
    WPk Tryd.prog (.loop K4_56) Q ⟨[(1, bv bt), (5, tksV ts), (8, .ref 0 0 1 0 5), (9, T9), (10, T10), (11, .int .i64 n), (12, .int .i64 k), (13, sv s), (14, .int .i64 0)], H, c⟩ := by
  refine WPk_loop (fun j : Nat => ⟨[(1, bv bt), (5, tksV ts), (8, .ref 0 0 1 0 5), (9, T9), (10, T10), (11, .int .i64 (n + cnt (s.take j))), (12, .int .i64 k), (13, sv s), (14, .int .i64 j)], H, c⟩) (fun j => j ≤ s.length) (fun j => s.length - j) 0
    (Weak.ofE (by simp [cnt]) rfl (Nat.le_refl _)) (Nat.zero_le _) ?_
  intro j hj
  simp -implicitDefEqProofs [-Int.not_le, -Int.not_lt, -Nat.not_le, -Nat.not_lt, -List.map_take, -List.map_drop]
  refine WPk_split rfl (fun h => ?_) (fun h => ?_)
  · have hj' : j < s.length := by simpa using h
    have hb := List.getElem?_eq_getElem hj'
    have htk : cnt (s.take (j + 1)) = cnt (s.take j) + if s[j].toNat = 10 then 1 else 0 := by rw [List.take_add_one, hb, cnt_append]; simp [cnt]
    have hc1 := cnt_le (s.take j)
    have hc2 : (s.take j).length ≤ s.length := by rw [List.length_take]; omega
    have hw1 : IntKind.i64.wrap ((j : Int) + 1) = (j : Int) + 1 := wrap_i64 (by omega) (by omega)
    have hw2 : IntKind.i64.wrap (n + (cnt (s.take j) : Int) + 1) = n + (cnt (s.take j) : Int) + 1 := wrap_i64 (by omega) (by omega)
    simp -implicitDefEqProofs [-Int.not_le, -Int.not_lt, -Nat.not_le, -Nat.not_lt, -List.map_take, -List.map_drop, ba_get, hb, hw1]
    refine WPk_split rfl (fun h2 => ?_) (fun h2 => ?_)
    · have : s[j].toNat = 10 := by simp at h2; omega
      simp -implicitDefEqProofs [-Int.not_le, -Int.not_lt, -Nat.not_le, -Nat.not_lt, -List.map_take, -List.map_drop, hw1, hw2]
      exact ⟨j + 1, by omega, by omega, Weak.ofE (by simp [htk, this]; omega) rfl (Nat.le_refl _)⟩
    · have : s[j].toNat ≠ 10 := by simp at h2; omega
      simp -implicitDefEqProofs [-Int.not_le, -Int.not_lt, -Nat.not_le, -Nat.not_lt, -List.map_take, -List.map_drop, hw1]
      exact ⟨j + 1, by omega, by omega, Weak.ofE (by simp [htk, this]) rfl (Nat.le_refl _)⟩
  · have hj' : j = s.length := by simp at h; omega
    subst hj'
    rw [List.take_length] at *
    simp -implicitDefEqProofs [-Int.not_le, -Int.not_lt, -Nat.not_le, -Nat.not_lt, -List.map_take, -List.map_drop]
    simp only [h] at *
    exact hq

theorem back_spec (src bt : List UInt8) (hs : src.length ≤ 140737488351232) (hbt : bt.length ≤ 140737488351232) : PureC Tryd.prog false 4 [bv src, bv bt] (.bool true) := by
  refine PureC.introK k4 (by show 2 ≤ 123; decide) ?_
  simp -implicitDefEqProofs [-Int.not_le, -Int.not_lt, -Nat.not_le, -Nat.not_lt, -List.map_take, -List.map_drop]
  refine WPk_split rfl (fun h => ?_) (fun h => ?_)
  · simp -implicitDefEqProofs [-Int.not_le, -Int.not_lt, -Nat.not_le, -Nat.not_lt, -List.map_take, -List.map_drop]
    refine CallWP.pure works_spec rfl ?_
    try simp -implicitDefEqProofs [-Int.not_le, -Int.not_lt, -Nat.not_le, -Nat.not_lt, -List.map_take, -List.map_drop]
    exact .bool _
  have hsz : src.length ≤ 4096 := by simp at h; omega
  simp -implicitDefEqProofs [-Int.not_le, -Int.not_lt, -Nat.not_le, -Nat.not_lt, -List.map_take, -List.map_drop]
  refine CallWP.pure (scan_spec src hs) rfl ?_
  simp -implicitDefEqProofs [-Int.not_le, -Int.not_lt, -Nat.not_le, -Nat.not_lt, -List.map_take, -List.map_drop]
  by_cases hae : (scanR src).e = 0
  case neg =>
    have h1 := (cuts_bad src [] (by simp; omega) hae).1
    have h3 : ((scanR src).e != 0) = true := by simpa using hae
    rw [h1]
    simp -implicitDefEqProofs [-Int.not_le, -Int.not_lt, -Nat.not_le, -Nat.not_lt, -List.map_take, -List.map_drop, h3]
    refine CallWP.pure works_spec rfl ?_
    try simp -implicitDefEqProofs [-Int.not_le, -Int.not_lt, -Nat.not_le, -Nat.not_lt, -List.map_take, -List.map_drop]
    exact .bool _
  have hlaw := back_law src bt hae
  have hcount := scanR_count src
  have htl := scanR_tlen src
  generalize scanR src = A at hae hlaw hcount htl ⊢
  obtain ⟨ts, an, ae⟩ := A
  simp only at hae hlaw hcount htl ⊢
  subst hae
  have hsv : [[AV.str { data := #[32] }], [AV.str { data := #[10] }], [AV.str { data := #[9, 32, 13] }], [AV.str { data := #[32, 47, 47, 32, 120, 32, 61, 32, 48, 55, 32, 38, 32, 10] }], [AV.str { data := #[10, 10] }]] = sepsV := rfl
  simp -implicitDefEqProofs [-Int.not_le, -Int.not_lt, -Nat.not_le, -Nat.not_lt, -List.map_take, -List.map_drop, hsv]
  refine WPk_loop (fun q : Bk => ⟨[(1, bv bt), (5, tksV ts), (8, .ref 0 0 1 0 5), (9, bkB bt ts q), (10, bkL q), (11, .int .i64 (lnS bt q.k)), (12, .int .i64 q.k)], bkH bt ts q, q.c⟩) (fun q => q.k ≤ ts.length) (fun q => ts.length - q.k) ⟨0, 0, 0, 1⟩
    (Weak.ofL (by simp [bkB, bkL, lnS]) (by simp [bkH, HLe]) (Nat.le_refl _)) (Nat.zero_le _) ?_
  rintro ⟨k, gb, gl, c⟩ hk
  simp only at hk
  have hTB : bkB bt ts ⟨k, gb, gl, c⟩ = if k = 0 then .nils else .ref 1 gb 1 0 (laidF bt 0 (ts.take k)).length := rfl
  have hTL : bkL ⟨k, gb, gl, c⟩ = if k = 0 then .nils else .ref 3 gl 1 0 k := rfl
  have hH : bkH bt ts ⟨k, gb, gl, c⟩ = some (.cells 0 sepsV) :: if k = 0 then [] else [some (.cells gb ((laidF bt 0 (ts.take k)).map byv)), none, some (.cells gl (linesK bt k))] := rfl
  generalize hT1 : bkB bt ts ⟨k, gb, gl, c⟩ = TB at *
  generalize hT2 : bkL ⟨k, gb, gl, c⟩ = TL at *
  generalize hT3 : bkH bt ts ⟨k, gb, gl, c⟩ = HH at *
  have h00 : HH[0]? = some (some (.cells 0 sepsV)) := by rw [hH]; rfl
  have hs0 : sepsV[0]? = some [sv [32]] := rfl
  simp -implicitDefEqProofs [-Int.not_le, -Int.not_lt, -Nat.not_le, -Nat.not_lt, -List.map_take, -List.map_drop]
  refine WPk_split rfl (fun h => ?_) (fun h => ?_)
  · have hk' : k < ts.length := by simpa using h
    obtain ⟨t0, ht0⟩ : ∃ t0, ts[k]? = some t0 := ⟨_, List.getElem?_eq_getElem hk'⟩
    simp -implicitDefEqProofs [-Int.not_le, -Int.not_lt, -Nat.not_le, -Nat.not_lt, -List.map_take, -List.map_drop, h00, hs0]
    refine WPk_cutS (fun τ => τ.H = HH ∧ τ.c = c ∧ lk τ.sl 1 = bv bt ∧ lk τ.sl 5 = tksV ts ∧ lk τ.sl 8 = .ref 0 0 1 0 5 ∧ lk τ.sl 9 = TB ∧ lk τ.sl 10 = TL ∧ lk τ.sl 11 = .int .i64 (lnS bt k) ∧ lk τ.sl 12 = .int .i64 k ∧ lk τ.sl 13 = sv (sepOf bt k)) ?_ (fun Q hq => ?_)
    case refine_2 =>
      refine WPk_split rfl (fun h2 => ?_) (fun h2 => ?_)
      · have hkb : k < bt.length := by simpa using h2
        have hb := List.getElem?_eq_getElem hkb
        have hm5 : bt[k].toNat % 5 < 5 := Nat.mod_lt _ (by decide)
        have hmt : Int.tmod (bt[k].toNat : Int) 5 = ((bt[k].toNat % 5 : Nat) : Int) := by rw [Int.tmod_eq_emod_of_nonneg (by omega)]; rfl
        have hm5i : ((bt[k].toNat % 5 : Nat) : Int) < 5 := by omega
        have hm0 : (0 : Int) ≤ ((bt[k].toNat % 5 : Nat) : Int) := by omega
        have hmn : ((bt[k].toNat % 5 : Nat) : Int).toNat = bt[k].toNat % 5 := by omega
        have hsep : sepsV[bt[k].toNat % 5]? = some [sv (sepOf bt k)] := by
          have : sepOf bt k = seps.getD (bt[k].toNat % 5) [] := by unfold sepOf; rw [hb]
          rw [this]
          exact sepsV_get hm5
        have hwb : IntKind.i64.wrap (bt[k].toNat : Int) = bt[k].toNat := wrap_i64 (by omega) (by have := bt[k].toNat_lt; omega)
        generalize bt[k].toNat % 5 = m at hm5 hmt hm5i hm0 hmn hsep
        simp -implicitDefEqProofs [-Int.not_le, -Int.not_lt, -Nat.not_le, -Nat.not_lt, -List.map_take, -List.map_drop, h00, hb, hwb, hmt, hm5i, hm0, hmn, hsep]
        exact hq _ (by simp)
      · have hkb : bt[k]? = none := by simp at h2; simp; omega
        have hsep : sepOf bt k = [32] := by unfold sepOf; rw [hkb]
        simp -implicitDefEqProofs [-Int.not_le, -Int.not_lt, -Nat.not_le, -Nat.not_lt, -List.map_take, -List.map_drop]
        exact hq _ (by simp [hsep])
    clear hT1 hT2 hT3
    rintro ⟨sl, H, c'⟩ ⟨eH, ec, e1, e5, e8, e9, e10, e11, e12, e13⟩
    simp only at eH ec e1 e5 e8 e9 e10 e11 e12 e13
    subst ec
    rw [← eH] at hH
    clear eH h00
    have hcat := laidF_take bt ts ht0
    have hls : lnS bt (k + 1) = lnS bt k + cnt (sepOf bt k) := rfl
    have hlb := lnS_bd bt k
    have hs14 := (sepOf_len bt k).2
    obtain ⟨s0, sr, hse, _⟩ := seps_head _ (sepOf_mem bt k)
    rw [hse] at hcat hls hs14
    rw [hse] at e13
    have hlk : (ts.take k).length = k := by rw [List.length_take]; omega
    have hll : (laidF bt 0 (ts.take k)).length ≤ k * 4110 := by
      have := laidF_len bt 4096 (ts.take k) 0 (fun t ht => by have := htl t (List.mem_of_mem_take ht); omega)
      rw [hlk] at this
      exact this
    have ht0l := htl t0 (List.mem_of_getElem? ht0)
    have hk4 : k ≤ 4096 := by omega
    have hr8 : 8 ≤ roomX := by decide
    have htx : roomX = 70368744177664 := rfl
    by_cases h0 : k = 0
    · subst h0
      rw [if_pos rfl] at hTB hTL hH
      rw [hTB] at e9; rw [hTL] at e10
      subst hH
      have hr1 : (s0 :: sr).length ≤ roomX := by unfold roomX; omega
      have hz1 := szOK_byv (s0 :: sr)
      have hr1' : sr.length + 1 ≤ roomX := by unfold roomX; simp at hs14; omega
      have hz1' := szOK_byv sr
      simp -implicitDefEqProofs [-Int.not_le, -Int.not_lt, -Nat.not_le, -Nat.not_lt, -List.map_take, -List.map_drop, e1, e5, e8, e9, e10, e11, e12, e13, mapbyv, hr1', hz1']
      refine sep_loop bt ts (s0 :: sr) _ _ (lnS bt 0) 0 _ _ (by omega) (by omega) hs14 ?_
      simp -implicitDefEqProofs [-Int.not_le, -Int.not_lt, -Nat.not_le, -Nat.not_lt, -List.map_take, -List.map_drop, e1]
      have hr2 : sr.length + 1 + t0.t.length ≤ roomX := by simp only [List.length_cons] at hs14; omega
      have hzt := szOK_byv t0.t
      simp -implicitDefEqProofs [-Int.not_le, -Int.not_lt, -Nat.not_le, -Nat.not_lt, -List.map_take, -List.map_drop, e1, hr8, ht0, mapbyv, hr2, hzt]
      refine ⟨⟨1, c' + 1 + 1 + 1, c' + 1 + 1, c' + 1 + 1 + 1 + 1⟩, by simp only; omega, by simp only; omega, Weak.ofL ?_ ?_ (Nat.le_refl _)⟩
      · have hL : (laidF bt 0 (ts.take 1)).length = sr.length + 1 + t0.t.length := by
          have := congrArg List.length hcat
          simp [laidF] at this
          omega
        simp [bkB, bkL, hL, hls, hse]
        exact wrap_i64 (by omega) (by omega)
      · have hc1 : laidF bt 0 (ts.take 1) = s0 :: (sr ++ t0.t) := hcat
        have hl1 : linesK bt 1 = [[.int .i64 (lnS bt 0 + (cnt (s0 :: sr) : Int))]] := by rw [← hls]; rfl
        simp only [bkH]
        rw [if_neg (by decide), hc1, hl1]
        simp [HLe, byv]
    · rw [if_neg h0] at hTB hTL hH
      rw [hTB] at e9; rw [hTL] at e10
      subst hH
      have hll2 := linesK_len bt k
      generalize hP : laidF bt 0 (ts.take k) = pre at *
      have hr2 : pre.length + (sr.length + 1) ≤ roomX := by simp only [List.length_cons] at hs14; omega
      have hz1' := szOK_byv sr
      have htp : List.take pre.length (pre.map byv) = pre.map byv := List.take_of_length_le (by simp)
      simp -implicitDefEqProofs [-Int.not_le, -Int.not_lt, -Nat.not_le, -Nat.not_lt, -List.map_take, -List.map_drop, e1, e5, e8, e9, e10, e11, e12, e13, mapbyv, hr2, hz1', htp]
      refine sep_loop bt ts (s0 :: sr) _ _ (lnS bt k) k _ _ (by omega) (by omega) hs14 ?_
      have hrk : (k + 1) * 8 ≤ roomX := by omega
      have htl2 : List.take k (linesK bt k) = linesK bt k := List.take_of_length_le (by omega)
      have hr3 : pre.length + (sr.length + 1) + t0.t.length ≤ roomX := by simp only [List.length_cons] at hs14; omega
      have hzt := szOK_byv t0.t
      have hw1 : IntKind.i64.wrap ((k : Int) + 1) = (k : Int) + 1 := wrap_i64 (by omega) (by omega)
      simp -implicitDefEqProofs [-Int.not_le, -Int.not_lt, -Nat.not_le, -Nat.not_lt, -List.map_take, -List.map_drop, e1, hrk, hll2, htl2, ht0, mapbyv, hr3, hzt, hw1]
      refine ⟨⟨k + 1, c' + 1 + 1 + 1, c' + 1 + 1, c' + 1 + 1 + 1 + 1⟩, by simp only; omega, by simp only; omega, Weak.ofL ?_ ?_ (Nat.le_refl _)⟩
      · have hL : (laidF bt 0 (ts.take (k + 1))).length = pre.length + (sr.length + 1) + t0.t.length := by
          rw [hcat]
          simp
          omega
        simp [bkB, bkL, hL, hls, hse]
      · have hl1 : linesK bt (k + 1) = linesK bt k ++ [[.int .i64 (lnS bt k + (cnt (s0 :: sr) : Int))]] := by rw [← hls]; exact linesK_succ bt k
        have htk : List.take (pre.length + (sr.length + 1)) (pre.map byv ++ [AV.int .u8 s0.toNat] :: sr.map byv) = pre.map byv ++ [AV.int .u8 s0.toNat] :: sr.map byv := List.take_of_length_le (by simp)
        simp only [bkH]
        rw [if_neg (by omega), hcat, hl1, htk]
        simp [HLe, byv]
  · have hk' : k = ts.length := by simp at h; omega
    subst hk'
    rw [List.take_length] at hTB hH
    clear hT1 hT2 hT3 h00 hsv hs0
    by_cases h0 : ts.length = 0
    · have hts : ts = [] := List.length_eq_zero_iff.1 h0
      subst hts
      simp only [List.length_nil, if_true] at hTB hTL hH
      subst hTB hTL hH
      obtain ⟨ms, h1, h2, h3, h4⟩ := hlaw (by simp [laidF])
      have hms : ms = [] := List.length_eq_zero_iff.1 (by rw [h3]; rfl)
      subst hms
      have hsc := scan_spec [] (by simp)
      have h1' : scanR [] = ⟨[], 0, 0⟩ := h1
      rw [h1'] at hsc
      simp -implicitDefEqProofs [-Int.not_le, -Int.not_lt, -Nat.not_le, -Nat.not_lt, -List.map_take, -List.map_drop]
      refine CallWP.brw hsc rfl (frzs1 .nils) ?_
      simp -implicitDefEqProofs [-Int.not_le, -Int.not_lt, -Nat.not_le, -Nat.not_lt, -List.map_take, -List.map_drop]
      refine CallWP.pure (kinds_spec [] [] rfl (by simp)) rfl ?_
      simp -implicitDefEqProofs [-Int.not_le, -Int.not_lt, -Nat.not_le, -Nat.not_lt, -List.map_take, -List.map_drop]
      refine WPk_loop (fun k : Nat => ⟨[(10, .nils), (15, tksV []), (18, .int .i64 k)], [], c⟩) (fun k => k = 0) (fun k => 0) 0 (Weak.ofL (by simp) (by simp [HLe]) (Nat.le_refl _)) rfl ?_
      intro k hk
      subst hk
      simp -implicitDefEqProofs [-Int.not_le, -Int.not_lt, -Nat.not_le, -Nat.not_lt, -List.map_take, -List.map_drop]
      refine CallWP.pure works_spec rfl ?_
      try simp -implicitDefEqProofs [-Int.not_le, -Int.not_lt, -Nat.not_le, -Nat.not_lt, -List.map_take, -List.map_drop]
      exact .bool _
    · rw [if_neg h0] at hTB hTL hH
      subst hTB hTL hH
      have hlen := laidF_len bt 4096 ts 0 (fun t ht => by have := htl t ht; omega)
      have hll2 := linesK_len bt ts.length
      generalize hB : laidF bt 0 ts = B at *
      have hBl : B.length ≤ 16834560 := by
        have : ts.length * (14 + 4096) ≤ 4096 * (14 + 4096) := Nat.mul_le_mul_right _ (by omega)
        exact Nat.le_trans hlen (Nat.le_trans this (by decide))
      have hsc := scan_spec B (by omega)
      simp -implicitDefEqProofs [-Int.not_le, -Int.not_lt, -Nat.not_le, -Nat.not_lt, -List.map_take, -List.map_drop]
      refine WPk_split rfl (fun h5 => ?_) (fun h5 => ?_)
      · simp -implicitDefEqProofs [-Int.not_le, -Int.not_lt, -Nat.not_le, -Nat.not_lt, -List.map_take, -List.map_drop]
        refine CallWP.pure works_spec rfl ?_
        try simp -implicitDefEqProofs [-Int.not_le, -Int.not_lt, -Nat.not_le, -Nat.not_lt, -List.map_take, -List.map_drop]
        exact .bool _
      have hB2 : B.length ≤ 16384 := by simp at h5; omega
      obtain ⟨ms, h1, h2, h3, h4⟩ := hlaw hB2
      rw [h1] at hsc
      simp -implicitDefEqProofs [-Int.not_le, -Int.not_lt, -Nat.not_le, -Nat.not_lt, -List.map_take, -List.map_drop]
      refine CallWP.brw hsc rfl (frzs1 (frz_bytes (by simp [Go.AX.rowAt]) rfl)) ?_
      simp -implicitDefEqProofs [-Int.not_le, -Int.not_lt, -Nat.not_le, -Nat.not_lt, -List.map_take, -List.map_drop]
      refine CallWP.pure (kinds_spec ts ms h2.symm (by omega)) rfl ?_
      simp -implicitDefEqProofs [-Int.not_le, -Int.not_lt, -Nat.not_le, -Nat.not_lt, -List.map_take, -List.map_drop]
      refine WPk_loop (fun k : Nat => ⟨[(10, .ref 3 gl 1 0 ts.length), (15, tksV ms), (18, .int .i64 k)], [none, none, none, some (.cells gl (linesK bt ts.length))], c⟩) (fun k => k ≤ ms.length) (fun k => ms.length - k) 0 (Weak.ofL (by simp) (by simp [HLe]) (Nat.le_refl _)) (Nat.zero_le _) ?_
      intro k hk
      simp -implicitDefEqProofs [-Int.not_le, -Int.not_lt, -Nat.not_le, -Nat.not_lt, -List.map_take, -List.map_drop]
      refine WPk_split rfl (fun h6 => ?_) (fun h6 => ?_)
      · have hk' : k < ms.length := by simpa using h6
        have hb := List.getElem?_eq_getElem hk'
        have hln := h4 k _ hb
        have hkt : (k : Int) < ts.length := by omega
        have hlk : (linesK bt ts.length)[k]? = some [.int .i64 (lnS bt (k + 1))] := by
          unfold linesK
          rw [List.getElem?_map, List.getElem?_range (by omega)]
          rfl
        have hne : (ms[k].n != lnS bt (k + 1)) = false := by rw [hln]; simp
        have hw : IntKind.i64.wrap ((k : Int) + 1) = (k : Int) + 1 := wrap_i64 (by omega) (by omega)
        simp -implicitDefEqProofs [-Int.not_le, -Int.not_lt, -Nat.not_le, -Nat.not_lt, -List.map_take, -List.map_drop, hb, hkt, hlk, hne, hw]
        exact ⟨k + 1, by omega, by omega, Weak.ofE (by simp) rfl (Nat.le_refl _)⟩
      · simp -implicitDefEqProofs [-Int.not_le, -Int.not_lt, -Nat.not_le, -Nat.not_lt, -List.map_take, -List.map_drop]
        refine CallWP.pure works_spec rfl ?_
        try simp -implicitDefEqProofs [-Int.not_le, -Int.not_lt, -Nat.not_le, -Nat.not_lt, -List.map_take, -List.map_drop]
        exact .bool _
end Go.Proofs.YtoplaknmmglagaaDoor.T
