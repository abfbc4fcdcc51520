/-
law11: TokenCuts, walked.
-/
import Derived.Test.YtoplaknmmglagaaDoorT14
set_option linter.unusedVariables false
set_option linter.unusedSimpArgs false
namespace Go.Proofs.YtoplaknmmglagaaDoor.T
open Go Go.AX

theorem scanA_lines : ∀ (f : Nat) (l : List UInt8) (n : Int), (∀ m, (scanA f l n).2 = some m → n ≤ m ∧ m ≤ n + l.length) ∧ ∀ t ∈ (scanA f l n).1, n ≤ t.n ∧ t.n ≤ n + l.length
  | 0, l, n => by simp [scanA, scanB]
  | f + 1, l, n => by
    have hb := blankS_len l false n
    unfold scanA
    generalize blankS false l n = z at hb
    obtain ⟨r, m⟩ := z
    simp only at hb ⊢
    by_cases hr : r = []
    · subst hr; rw [scanB_nil]; simp
    · cases ho : (oneS r).ok with
      | false =>
        rw [scanB_bad hr ho]
        refine ⟨fun k hk => ?_, by simp⟩
        simp only [Option.some.injEq] at hk
        omega
      | true =>
        rw [scanB_ok hr ho]
        have ih := scanA_lines f (r.drop (oneS r).m) m
        have hd : (r.drop (oneS r).m).length ≤ r.length := by simp
        refine ⟨fun k hk => ?_, fun t ht => ?_⟩
        · have := ih.1 k hk; omega
        · rcases List.mem_cons.1 ht with rfl | ht
          · simp only; omega
          · have := ih.2 t ht; omega

theorem scanR_lines (l : List UInt8) (hl : l.length ≤ 16384) : 0 ≤ (scanR l).n ∧ (scanR l).n ≤ 20000 ∧ (∀ t ∈ (scanR l).ts, 0 ≤ t.n ∧ t.n ≤ 20000) := by
  have h := scanA_lines (l.length + 1) l 1
  rw [scanR_eq, if_neg (by omega)]
  generalize scanA (l.length + 1) l 1 = z at h
  obtain ⟨ts, o⟩ := z
  cases o with
  | some m =>
    have := h.1 m rfl
    exact ⟨by simp only; omega, by simp only; omega, by simp⟩
  | none => exact ⟨by simp, by simp, fun t ht => by have := h.2 t ht; omega⟩

theorem scanB_count : ∀ (f : Nat) (l : List UInt8) (n : Int), (scanB f l n).1.length ≤ l.length
  | 0, l, n => by simp [scanB]
  | f + 1, l, n => by
    by_cases hr : l = []
    · subst hr; rw [scanB_nil]; simp
    · cases ho : (oneS l).ok with
      | false => rw [scanB_bad hr ho]; simp
      | true =>
        rw [scanB_ok hr ho]
        have ih := scanB_count f (blankS false (l.drop (oneS l).m) n).1 (blankS false (l.drop (oneS l).m) n).2
        have h1 := (blankS_len (l.drop (oneS l).m) false n).1
        have h2 := oneS_pos hr
        have h3 : 0 < l.length := List.length_pos_iff.2 hr
        have h4 : (l.drop (oneS l).m).length = l.length - (oneS l).m := by simp
        simp only [List.length_cons, scanA]
        omega

theorem scanR_count (l : List UInt8) : (scanR l).ts.length ≤ l.length := by
  rw [scanR_eq]
  split
  · simp
  · have h := scanB_count (l.length + 1) (blankS false l 1).1 (blankS false l 1).2
    have h2 := (blankS_len l false 1).1
    have h3 : (scanA (l.length + 1) l 1).1.length ≤ l.length := Nat.le_trans h h2
    generalize scanA (l.length + 1) l 1 = z at h3
    obtain ⟨ts, o⟩ := z
    cases o with
    | some m => simp
    | none => exact h3

theorem szOK_tkc (l : List Tk) : szOK 4 (l.map tkc) = true := by
  induction l with
  | nil => rfl
  | cons b l ih => simp [szOK]

theorem szOK_app {n : Nat} {a b : List (List AV)} : szOK n (a ++ b) = (szOK n a && szOK n b) := by simp [szOK]

theorem cuts_rest (a b : List UInt8) (hsz : a.length + b.length ≤ 16383) (H : Heap) (c : Nat) :
    WPk Tryd.prog K6_16 (PostX Tryd.prog [ResultVar.tmp 4] fun r H x => Frz false H r (AV.bool true)) ⟨[(0, bv a), (5, tksV (scanR a).ts), (6, .int .i64 (scanR a).n), (7, .int .i64 (scanR a).e), (8, tksV (scanR b).ts), (9, .int .i64 (scanR b).n), (10, .int .i64 (scanR b).e),
      (11, tksV (scanR (a ++ 10 :: b)).ts), (12, .int .i64 (scanR (a ++ 10 :: b)).n), (13, .int .i64 (scanR (a ++ 10 :: b)).e)], H, c⟩ := by
  by_cases hae : (scanR a).e = 0
  case neg =>
    obtain ⟨h1, h2⟩ := cuts_bad a b hsz hae
    rw [h2, h1]
    have h3 : ((scanR a).e != 0) = true := by simpa using hae
    simp -implicitDefEqProofs [-Int.not_le, -Int.not_lt, -Nat.not_le, -Nat.not_lt, -List.map_take, -List.map_drop, h3]
    refine CallWP.pure works_spec rfl ?_
    try simp -implicitDefEqProofs [-Int.not_le, -Int.not_lt, -Nat.not_le, -Nat.not_lt, -List.map_take, -List.map_drop]
    exact .bool _
  have hg := cuts_good a b hsz hae
  have hla := scanR_count a
  have hlb := scanR_count b
  have hlines := scanR_lines b (by omega)
  generalize scanR a = A at hae hg hla ⊢
  generalize scanR b = B at hg hlb hlines ⊢
  generalize scanR (a ++ 10 :: b) = C at hg ⊢
  obtain ⟨ats, an, ae⟩ := A
  obtain ⟨bts, bn, be⟩ := B
  obtain ⟨cts, cn, ce⟩ := C
  simp only at hae hg hla hlb hlines ⊢
  subst hae
  simp -implicitDefEqProofs [-Int.not_le, -Int.not_lt, -Nat.not_le, -Nat.not_lt, -List.map_take, -List.map_drop]
  refine WPk_loop (fun k : Nat => ⟨[(0, bv a), (5, tksV ats), (8, tksV bts), (9, .int .i64 bn), (10, .int .i64 be), (11, tksV cts), (12, .int .i64 cn), (13, .int .i64 ce), (14, .int .i64 (1 + cnt (a.take k) : Nat)), (15, .int .i64 k)], [], c⟩) (fun k => k ≤ a.length) (fun k => a.length - k) 0
    (Weak.ofL (by simp [cnt]) (by simp [HLe]) (Nat.le_refl _)) (Nat.zero_le _) ?_
  intro k hk
  simp -implicitDefEqProofs [-Int.not_le, -Int.not_lt, -Nat.not_le, -Nat.not_lt, -List.map_take, -List.map_drop]
  have hcnt : ∀ l : List UInt8, cnt l ≤ l.length := fun l => by
    induction l with
    | nil => simp [cnt]
    | cons x l ih => simp only [cnt, List.length_cons]; split <;> omega
  refine WPk_split rfl (fun h => ?_) (fun h => ?_)
  · have hk' : k < a.length := by simpa using h
    have hb := List.getElem?_eq_getElem hk'
    have htk : cnt (a.take (k + 1)) = cnt (a.take k) + if a[k].toNat = 10 then 1 else 0 := by rw [List.take_add_one, hb, cnt_append]; simp [cnt]
    have hc1 := hcnt (a.take k)
    have hc2 : (a.take k).length ≤ a.length := by rw [List.length_take]; omega
    have hw1 : IntKind.i64.wrap ((k : Int) + 1) = (k : Int) + 1 := wrap_i64 (by omega) (by omega)
    have hw2 : IntKind.i64.wrap (1 + (cnt (a.take k) : Int) + 1) = 1 + (cnt (a.take k) : Int) + 1 := wrap_i64 (by omega) (by omega)
    simp -implicitDefEqProofs [-Int.not_le, -Int.not_lt, -Nat.not_le, -Nat.not_lt, -List.map_take, -List.map_drop, hb, hw1]
    refine WPk_split rfl (fun h2 => ?_) (fun h2 => ?_)
    · have : a[k].toNat = 10 := by simp at h2; omega
      simp -implicitDefEqProofs [-Int.not_le, -Int.not_lt, -Nat.not_le, -Nat.not_lt, -List.map_take, -List.map_drop, hw1, hw2]
      exact ⟨k + 1, by omega, by omega, Weak.ofE (by simp [htk, this]; omega) rfl (Nat.le_refl _)⟩
    · have : a[k].toNat ≠ 10 := by simp at h2; omega
      simp -implicitDefEqProofs [-Int.not_le, -Int.not_lt, -Nat.not_le, -Nat.not_lt, -List.map_take, -List.map_drop, hw1]
      exact ⟨k + 1, by omega, by omega, Weak.ofE (by simp [htk, this]) rfl (Nat.le_refl _)⟩
  have hk' : k = a.length := by simp at h; omega
  subst hk'
  rw [List.take_length]
  have hca := hcnt a
  generalize cnt a = ca at hg hca ⊢
  simp -implicitDefEqProofs [-Int.not_le, -Int.not_lt, -Nat.not_le, -Nat.not_lt, -List.map_take, -List.map_drop]
  by_cases hbe : be = 0
  case neg =>
    have hC := hg.1 hbe
    simp only [Res.mk.injEq] at hC
    obtain ⟨rfl, rfl, rfl⟩ := hC
    have h3 : (ce != 0) = true := by simpa using hbe
    have hw3 : IntKind.i64.wrap (1 + (ca : Int) + bn) = 1 + (ca : Int) + bn := wrap_i64 (by omega) (by omega)
    have h4 : (bn + ((ca : Int) + 1) == 1 + (ca : Int) + bn) = true := by simp; omega
    simp -implicitDefEqProofs [-Int.not_le, -Int.not_lt, -Nat.not_le, -Nat.not_lt, -List.map_take, -List.map_drop, h3, hw3, h4]
    refine CallWP.pure works_spec rfl ?_
    try simp -implicitDefEqProofs [-Int.not_le, -Int.not_lt, -Nat.not_le, -Nat.not_lt, -List.map_take, -List.map_drop]
    exact .bool _
  have hC := hg.2 hbe
  simp only [Res.mk.injEq] at hC
  obtain ⟨hC, rfl, rfl⟩ := hC
  subst hbe
  have hlc : cts.length = ats.length + bts.length := by rw [hC]; simp
  have hli : (ats.length : Int) ≤ ats.length + bts.length := by omega
  have hln : ats.length ≤ ats.length + bts.length := by omega
  have hw4 : IntKind.i64.wrap ((ats.length : Int) + bts.length) = ats.length + bts.length := wrap_i64 (by omega) (by omega)
  have htake : (cts.map tkc).take ats.length = ats.map tkc := by rw [hC, List.map_append]; exact List.take_left' (by simp)
  obtain ⟨bs', hbs⟩ : ∃ bs', bs' = bts.map fun t => { t with n := t.n + ((ca : Int) + 1) } := ⟨_, rfl⟩
  have hbk : bs'.map kin = bts.map kin := by rw [hbs, List.map_map]; rfl
  have hbl : bs'.length = bts.length := by rw [hbs]; simp
  have hdrop : (cts.map tkc).drop ats.length = bs'.map tkc := by rw [hC, List.map_append, hbs]; exact List.drop_left' (by simp)
  have hall : List.take (ats.length + bts.length) (cts.map tkc) = cts.map tkc := List.take_of_length_le (by simp [hlc])
  have hneq : (((ats.length : Int) + bts.length) != ((ats.length : Int) + bts.length)) = false := by simp
  have hsk : szOK 4 (cts.map tkc) = true := szOK_tkc _
  simp -implicitDefEqProofs [-Int.not_le, -Int.not_lt, -Nat.not_le, -Nat.not_lt, -List.map_take, -List.map_drop, hlc, hw4, hsk, hli, hln, htake, hdrop, hall]
  refine CallWP.pure (same_spec ats (by omega)) rfl ?_
  simp -implicitDefEqProofs [-Int.not_le, -Int.not_lt, -Nat.not_le, -Nat.not_lt, -List.map_take, -List.map_drop, hlc, hw4, hsk, hli, hln, htake, hdrop, hall]
  refine CallWP.pure (kinds_spec bs' bts hbk (by omega)) rfl ?_
  simp -implicitDefEqProofs [-Int.not_le, -Int.not_lt, -Nat.not_le, -Nat.not_lt, -List.map_take, -List.map_drop]
  refine WPk_loop (fun k : Nat => ⟨[(5, tksV ats), (8, tksV bts), (11, tksV cts), (14, .int .i64 (1 + (ca : Int))), (16, .int .i64 k)], [], c⟩) (fun k => k ≤ bts.length) (fun k => bts.length - k) 0 (Weak.ofE (by simp) rfl (Nat.le_refl _)) (Nat.zero_le _) ?_
  intro k hk
  simp -implicitDefEqProofs [-Int.not_le, -Int.not_lt, -Nat.not_le, -Nat.not_lt, -List.map_take, -List.map_drop]
  refine WPk_split rfl (fun h => ?_) (fun h => ?_)
  · have hk' : k < bts.length := by simpa using h
    have hb := List.getElem?_eq_getElem hk'
    have hln2 := hlines.2.2 bts[k] (List.getElem_mem hk')
    have hw5 : IntKind.i64.wrap ((ats.length : Int) + k) = ats.length + k := wrap_i64 (by omega) (by omega)
    have hw6 : IntKind.i64.wrap (1 + (ca : Int) + bts[k].n) = 1 + (ca : Int) + bts[k].n := wrap_i64 (by omega) (by omega)
    have hw7 : IntKind.i64.wrap ((k : Int) + 1) = (k : Int) + 1 := wrap_i64 (by omega) (by omega)
    have htn : ((ats.length : Int) + k).toNat = ats.length + k := by omega
    have hge : (0 : Int) ≤ (ats.length : Int) + k := by omega
    have hidx : cts[ats.length + k]? = some { bts[k] with n := bts[k].n + ((ca : Int) + 1) } := by
      rw [hC, List.getElem?_append_right (by omega)]
      simp [hk']
    have hne : ((bts[k].n + ((ca : Int) + 1)) != 1 + (ca : Int) + bts[k].n) = false := by simp; omega
    simp -implicitDefEqProofs [-Int.not_le, -Int.not_lt, -Nat.not_le, -Nat.not_lt, -List.map_take, -List.map_drop, hb, hw5, hw6, hw7, htn, hge, hidx, hne]
    exact ⟨k + 1, by omega, by omega, Weak.ofE (by simp) rfl (Nat.le_refl _)⟩
  · simp -implicitDefEqProofs [-Int.not_le, -Int.not_lt, -Nat.not_le, -Nat.not_lt, -List.map_take, -List.map_drop]
    refine CallWP.pure works_spec rfl ?_
    try simp -implicitDefEqProofs [-Int.not_le, -Int.not_lt, -Nat.not_le, -Nat.not_lt, -List.map_take, -List.map_drop]
    exact .bool _

theorem cuts_spec (a b : List UInt8) (ha : a.length ≤ 140737488351232) (hb : b.length ≤ 140737488351232) : PureC Tryd.prog false 6 [bv a, bv b] (.bool true) := by
  refine PureC.introK k6 (by show 2 ≤ 151; decide) ?_
  have hw : IntKind.i64.wrap ((a.length : Int) + b.length) = a.length + b.length := wrap_i64 (by omega) (by omega)
  simp -implicitDefEqProofs [-Int.not_le, -Int.not_lt, -Nat.not_le, -Nat.not_lt, -List.map_take, -List.map_drop, hw]
  refine WPk_split rfl (fun h => ?_) (fun h => ?_)
  · simp -implicitDefEqProofs [-Int.not_le, -Int.not_lt, -Nat.not_le, -Nat.not_lt, -List.map_take, -List.map_drop]
    refine CallWP.pure works_spec rfl ?_
    try simp -implicitDefEqProofs [-Int.not_le, -Int.not_lt, -Nat.not_le, -Nat.not_lt, -List.map_take, -List.map_drop]
    exact .bool _
  have hsz : a.length + b.length ≤ 16383 := by simp at h; omega
  simp -implicitDefEqProofs [-Int.not_le, -Int.not_lt, -Nat.not_le, -Nat.not_lt, -List.map_take, -List.map_drop]
  refine CallWP.pure (scan_spec a ha) rfl ?_
  simp -implicitDefEqProofs [-Int.not_le, -Int.not_lt, -Nat.not_le, -Nat.not_lt, -List.map_take, -List.map_drop]
  refine CallWP.pure (scan_spec b hb) rfl ?_
  simp -implicitDefEqProofs [-Int.not_le, -Int.not_lt, -Nat.not_le, -Nat.not_lt, -List.map_take, -List.map_drop]
  have hC := scan_spec (a ++ 10 :: b) (by simp; omega)
  have hr1 : b.length + 1 ≤ roomX := by unfold roomX; omega
  have hr2 : a.length + 1 ≤ roomX := by unfold roomX; omega
  have hr3 : a.length + b.length + 1 ≤ roomX := by unfold roomX; omega
  have hr0 : 1 ≤ roomX := by decide
  have hr4 : 1 + b.length ≤ roomX := by unfold roomX; omega
  have hr5 : a.length + 1 + b.length ≤ roomX := by unfold roomX; omega
  refine CallWP.proc (copyBytes_spec a (by omega)) rfl ?_
  rintro r H c (⟨rfl, rfl, rfl⟩ | ⟨hne, g, rfl, rfl⟩)
  · simp -implicitDefEqProofs [-Int.not_le, -Int.not_lt, -Nat.not_le, -Nat.not_lt, -List.map_take, -List.map_drop, hr0, hr4]
    refine CallWP.brw hC rfl (frzs1 (frz_bytes (by simp [Go.AX.rowAt]) (by simp; omega))) ?_
    simp -implicitDefEqProofs [-Int.not_le, -Int.not_lt, -Nat.not_le, -Nat.not_lt, -List.map_take, -List.map_drop]
    exact cuts_rest [] b hsz _ _
  · simp -implicitDefEqProofs [-Int.not_le, -Int.not_lt, -Nat.not_le, -Nat.not_lt, -List.map_take, -List.map_drop, hr2, hr5]
    have htk : List.take (a.length + 1) (a.map byv ++ [[AV.int .u8 10]]) = a.map byv ++ [[AV.int .u8 10]] := List.take_of_length_le (by simp)
    refine CallWP.brw hC rfl (frzs1 (frz_bytes (by simp [Go.AX.rowAt, htk]) (by simp; omega))) ?_
    simp -implicitDefEqProofs [-Int.not_le, -Int.not_lt, -Nat.not_le, -Nat.not_lt, -List.map_take, -List.map_drop]
    exact cuts_rest a b hsz _ _
end Go.Proofs.YtoplaknmmglagaaDoor.T
