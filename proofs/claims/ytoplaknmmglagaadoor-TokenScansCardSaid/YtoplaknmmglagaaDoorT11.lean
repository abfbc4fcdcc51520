/-
law11: the tokens of a source, as the program gives them.
-/
import Derived.Test.YtoplaknmmglagaaDoorT10
set_option linter.unusedVariables false
set_option linter.unusedSimpArgs false
namespace Go.Proofs.YtoplaknmmglagaaDoor.T
open Go Go.AX

structure Tk where
  k : Int
  t : List UInt8
  x : Int
  n : Int
abbrev tkc (t : Tk) : List AV := [.int .u8 t.k, sv t.t, .int .i64 t.x, .int .i64 t.n]
abbrev tksV (ts : List Tk) : AV := .vec (ts.map tkc)

/-- The tokens of what is left (no blank at its head); the line in which there is none. -/
def scanB : Nat → List UInt8 → Int → List Tk × Option Int
  | 0, _, _ => ([], none)
  | f + 1, l, n => if l = [] then ([], none) else if (oneS l).ok = true then
      (⟨(oneS l).k, l.take (oneS l).m, (oneS l).x, n⟩ :: (scanB f (blankS false (l.drop (oneS l).m) n).1 (blankS false (l.drop (oneS l).m) n).2).1,
        (scanB f (blankS false (l.drop (oneS l).m) n).1 (blankS false (l.drop (oneS l).m) n).2).2)
    else ([], some n)
structure Res where
  ts : List Tk
  n : Int
  e : Int
def scanR (src : List UInt8) : Res :=
  if 16384 < src.length then ⟨[], 0, 11⟩ else
  match scanB (src.length + 1) (blankS false src 1).1 (blankS false src 1).2 with
  | (_, some n) => ⟨[], n, 6⟩
  | (ts, none) => ⟨ts, 0, 0⟩
abbrev resAV (r : Res) : AV := .tup [tksV r.ts, .int .i64 r.n, .int .i64 r.e]

theorem blankS_len : ∀ (l : List UInt8) (b : Bool) (n : Int), (blankS b l n).1.length ≤ l.length ∧ n ≤ (blankS b l n).2 ∧ (blankS b l n).2 + (blankS b l n).1.length ≤ n + l.length
  | [], b, n => by cases b <;> simp [blankS]
  | c :: l, true, n => by
    simp only [blankS, List.length_cons]
    split
    · have := blankS_len l false (n + 1); omega
    · have := blankS_len l true n; omega
  | c :: l, false, n => by
    simp only [blankS, List.length_cons]
    split
    · have := blankS_len l false (n + 1); omega
    · split
      · have := blankS_len l false n; omega
      · split
        · have := blankS_len l true n; omega
        · simp

theorem oneS_pos {l : List UInt8} (h : l ≠ []) : 1 ≤ (oneS l).m := by
  cases l with
  | nil => exact absurd rfl h
  | cons b l =>
    unfold oneS
    simp only [List.head?_cons]
    split
    · rename_i hb
      simp only [nameN, longS, hb, Bool.true_or, if_true]
      omega
    · split
      · rename_i hb; exact digN_pos rfl hb
      · simp only [signN]; split <;> omega

theorem oneS_le {l : List UInt8} : (oneS l).m ≤ l.length := by
  cases l with
  | nil => simp [oneS]
  | cons b l =>
    unfold oneS
    simp only [List.head?_cons]
    split
    · exact longS_le _ _
    · split
      · exact longS_le _ _
      · simp only [signN, List.length_cons]
        split
        · rename_i hm
          cases l with
          | nil => simp [signs2] at hm
          | cons c l => simp
        · omega

def flatA : AV → Bool
  | .int .. => true
  | .bool _ => true
  | .str _ => true
  | _ => false
theorem frz_flat {al : Bool} {H : Heap} {c : AV} (h : flatA c = true) : Frz al H c c := by
  cases c <;> simp [flatA] at h
  · exact .int _ _
  · exact .bool _
  · exact .str _
theorem frz_row {al : Bool} {H : Heap} {id g sz n : Nat} {es : List (List AV)} (h : Go.AX.rowAt H id g = some es) (hn : n = es.length) (hf : ∀ e ∈ es, ∀ c ∈ e, flatA c = true) : Frz al H (.ref id g sz 0 n) (.vec es) := by
  subst hn
  refine .ref id g sz 0 es.length es es h (by simp) rfl (fun i e e' h1 h2 => ?_) (fun i j e e' c c' h1 h2 h3 h4 => ?_)
  · rw [Nat.zero_add] at h1; rw [h1] at h2; cases h2; rfl
  · rw [Nat.zero_add] at h1; rw [h1] at h2; cases h2
    rw [h3] at h4; cases h4
    exact frz_flat (hf e (List.mem_of_getElem? h1) c (List.mem_of_getElem? h3))
theorem frz_toks {al : Bool} {H : Heap} {id g n : Nat} {ts : List Tk} (h : Go.AX.rowAt H id g = some (ts.map tkc)) (hn : n = ts.length) : Frz al H (.ref id g 4 0 n) (tksV ts) :=
  frz_row h (by simpa using hn) fun e he c hc => by
    obtain ⟨t, _, rfl⟩ := List.mem_map.1 he
    simp at hc
    rcases hc with rfl | rfl | rfl | rfl <;> rfl
theorem frz3 {al : Bool} {H : Heap} {a b c a' b' c' : AV} (h1 : Frz al H a a') (h2 : Frz al H b b') (h3 : Frz al H c c') : Frz al H (.tup [a, b, c]) (.tup [a', b', c']) :=
  .tup _ _ rfl fun j x x' hx hx' => by
    match j with
    | 0 => simp at hx hx'; subst hx; subst hx'; exact h1
    | 1 => simp at hx hx'; subst hx; subst hx'; exact h2
    | 2 => simp at hx hx'; subst hx; subst hx'; exact h3
    | j + 3 => simp at hx

/-- Where the scan stands. -/
structure Sc where
  ts : List Tk
  l : List UInt8
  n : Int
  g : Nat
  c : Nat
def scT (q : Sc) : AV := if q.ts = [] then .nils else .ref 5 q.g 4 0 q.ts.length
def scH (q : Sc) : Heap := [none, some (.mp 1 (ents wordsL 0)), some (scB 2 q.l q.n 1 1)] ++ if q.ts = [] then [] else [none, none, some (.cells q.g (q.ts.map tkc))]

theorem scan_spec (src : List UInt8) (hlen : src.length ≤ 140737488351232) : PureC Tryd.prog false 9 [bv src] (resAV (scanR src)) := by
  refine PureC.introK k9 (by show 1 ≤ 52; decide) ?_
  simp -implicitDefEqProofs [-Int.not_le, -Int.not_lt, -Nat.not_le, -Nat.not_lt, -List.map_take, -List.map_drop]
  refine WPk_split rfl (fun h => ?_) (fun h => ?_)
  · have hlt : 16384 < src.length := by simp at h; omega
    have hR : scanR src = ⟨[], 0, 11⟩ := by simp [scanR, hlt]
    rw [hR]
    simp -implicitDefEqProofs [-Int.not_le, -Int.not_lt, -Nat.not_le, -Nat.not_lt, -List.map_take, -List.map_drop]
    exact frz3 .nils (.int _ _) (.int _ _)
  have hle : src.length ≤ 16384 := by simp at h; omega
  simp -implicitDefEqProofs [-Int.not_le, -Int.not_lt, -Nat.not_le, -Nat.not_lt, -List.map_take, -List.map_drop]
  refine CallWP.proc words_spec rfl ?_
  rintro r H c ⟨rfl, rfl, rfl⟩
  simp -implicitDefEqProofs [-Int.not_le, -Int.not_lt, -Nat.not_le, -Nat.not_lt, -List.map_take, -List.map_drop]
  refine CallWP.proc (blanks_spec ⟨rfl⟩ (by omega) (by omega)) rfl ?_
  rintro r H c ⟨rfl, rfl, hc⟩
  simp -implicitDefEqProofs [-Int.not_le, -Int.not_lt, -Nat.not_le, -Nat.not_lt, -List.map_take, -List.map_drop]
  have hb0 := blankS_len src false 1
  have hRR : scanR src = match scanB (src.length + 1) (blankS false src 1).1 (blankS false src 1).2 with
    | (_, some n) => ⟨[], n, 6⟩
    | (ts, none) => ⟨ts, 0, 0⟩ := by unfold scanR; rw [if_neg (by omega)]
  generalize hF : scanB (src.length + 1) (blankS false src 1).1 (blankS false src 1).2 = F at hRR
  generalize blankS false src 1 = z at hb0 hF ⊢
  obtain ⟨zl, zn⟩ := z
  simp only at hb0 hF
  refine WPk_loop (fun q : Sc => ⟨[(2, scT q), (5, .ptr 2 2 0 0)], scH q, q.c⟩) (fun q => (∃ f, q.l.length < f ∧ F = (q.ts ++ (scanB f q.l q.n).1, (scanB f q.l q.n).2)) ∧ 0 ≤ q.n ∧ q.n + q.l.length ≤ 100000 ∧ q.ts.length + q.l.length ≤ src.length ∧ 3 ≤ q.c)
    (fun q => q.l.length) ⟨[], zl, zn, 0, c⟩ (Weak.ofL (by simp [scT]) (by simp [scH, HLe]) (Nat.le_refl _)) ?_ ?_
  · refine ⟨⟨src.length + 1, ?_, ?_⟩, ?_, ?_, ?_, hc⟩ <;> simp only [List.length_nil, List.nil_append]
    · omega
    · rw [← hF]
    · omega
    · omega
    · omega
  rintro ⟨ts, l, n, g, c⟩ ⟨⟨f, hf, hS⟩, hn0, hn1, hts, hc3⟩
  simp only at hf hS hn0 hn1 hts hc3
  have hTS : scT ⟨ts, l, n, g, c⟩ = if ts = [] then .nils else .ref 5 g 4 0 ts.length := rfl
  have hHS : scH ⟨ts, l, n, g, c⟩ = [none, some (.mp 1 (ents wordsL 0)), some (scB 2 l n 1 1)] ++ if ts = [] then [] else [none, none, some (.cells g (ts.map tkc))] := rfl
  have hA : At (scH ⟨ts, l, n, g, c⟩) 2 (scB 2 l n 1 1) := ⟨by rw [hHS]; rfl⟩
  have hM : At (scH ⟨ts, l, n, g, c⟩) 1 (.mp 1 (ents wordsL 0)) := ⟨by rw [hHS]; rfl⟩
  have hL5 : 3 ≤ (scH ⟨ts, l, n, g, c⟩).length := by rw [hHS]; simp
  generalize hT : scT ⟨ts, l, n, g, c⟩ = T at *
  generalize hHH : scH ⟨ts, l, n, g, c⟩ = HH at *
  have h1 := hA.app
  have h1' := hA.get
  simp -implicitDefEqProofs [-Int.not_le, -Int.not_lt, -Nat.not_le, -Nat.not_lt, -List.map_take, -List.map_drop, h1, h1']
  obtain ⟨f, rfl⟩ : ∃ k, f = k + 1 := ⟨f - 1, by omega⟩
  refine WPk_split rfl (fun h => ?_) (fun h => ?_)
  · have hne : l ≠ [] := by rintro rfl; simp at h
    have hpos : 0 < l.length := List.length_pos_iff.2 hne
    have hm1 := oneS_pos hne
    have hm2 := oneS_le (l := l)
    simp only [scanB, if_neg hne] at hS
    simp -implicitDefEqProofs [-Int.not_le, -Int.not_lt, -Nat.not_le, -Nat.not_lt, -List.map_take, -List.map_drop, h1, h1']
    refine CallWP.proc (one_spec hA hM (by omega) hpos) rfl ?_
    rintro r H' c' ⟨rfl, rfl, hc'⟩
    simp -implicitDefEqProofs [-Int.not_le, -Int.not_lt, -Nat.not_le, -Nat.not_lt, -List.map_take, -List.map_drop, h1, h1', hget_app, hget_app0, hset_app, hset_app0]
    generalize oneS l = o at hS hm1 hm2 ⊢
    obtain ⟨ok, om, ox, oo⟩ := o
    simp only at hS hm1 hm2 ⊢
    cases oo with
    | false =>
      simp -implicitDefEqProofs [-Int.not_le, -Int.not_lt, -Nat.not_le, -Nat.not_lt, -List.map_take, -List.map_drop, h1, h1', hget_app, hget_app0, hset_app, hset_app0]
      have hR : scanR src = ⟨[], n, 6⟩ := by rw [hRR, hS]; rfl
      rw [hR]
      exact frz3 .nils (.int _ _) (.int _ _)
    | true =>
      simp -implicitDefEqProofs [-Int.not_le, -Int.not_lt, -Nat.not_le, -Nat.not_lt, -List.map_take, -List.map_drop, h1, h1', hget_app, hget_app0, hset_app, hset_app0]
      simp only [if_true] at hS
      have hbl := blankS_len (l.drop om) false n
      have hdl : (l.drop om).length + om = l.length := by simp; omega
      have hmi : (om : Int) ≤ l.length := by omega
      by_cases he : ts = []
      · subst he
        rw [if_pos rfl] at hTS hHS
        have hr40 : 40 ≤ roomX := by decide
        rw [hTS, hHS]
        simp -implicitDefEqProofs [-Int.not_le, -Int.not_lt, -Nat.not_le, -Nat.not_lt, -List.map_take, -List.map_drop, hr40, hm2, hmi]
        refine CallWP.proc (blanks_spec ⟨rfl⟩ (by omega) (by omega)) rfl ?_
        rintro r H'' c'' ⟨rfl, rfl, hc''⟩
        simp -implicitDefEqProofs [-Int.not_le, -Int.not_lt, -Nat.not_le, -Nat.not_lt, -List.map_take, -List.map_drop]
        refine ⟨⟨[⟨ok, l.take om, ox, n⟩], (blankS false (l.drop om) n).1, (blankS false (l.drop om) n).2, c' + 1 + 1, c''⟩, ⟨⟨f, ?_, ?_⟩, ?_, ?_, ?_, ?_⟩, ?_, Weak.ofL (by simp [scT]) (by simp [scH, HLe]) (Nat.le_refl _)⟩
        · simp only; omega
        · rw [hS]; rfl
        · simp only; omega
        · simp only; omega
        · simp only [List.length_cons, List.length_nil]; omega
        · simp only; omega
        · simp only; omega
      · rw [if_neg he] at hTS hHS
        have hr40 : (ts.length + 1) * 40 ≤ roomX := by unfold roomX; omega
        have htk : List.take ts.length (List.map tkc ts) = List.map tkc ts := List.take_of_length_le (by simp)
        rw [hTS, hHS]
        simp -implicitDefEqProofs [-Int.not_le, -Int.not_lt, -Nat.not_le, -Nat.not_lt, -List.map_take, -List.map_drop, hr40, hm2, hmi]
        refine CallWP.proc (blanks_spec ⟨rfl⟩ (by omega) (by omega)) rfl ?_
        rintro r H'' c'' ⟨rfl, rfl, hc''⟩
        simp -implicitDefEqProofs [-Int.not_le, -Int.not_lt, -Nat.not_le, -Nat.not_lt, -List.map_take, -List.map_drop]
        refine ⟨⟨ts ++ [⟨ok, l.take om, ox, n⟩], (blankS false (l.drop om) n).1, (blankS false (l.drop om) n).2, c' + 1 + 1, c''⟩, ⟨⟨f, ?_, ?_⟩, ?_, ?_, ?_, ?_⟩, ?_, Weak.ofL (by simp [scT]) (by simp [scH, HLe, htk]) (Nat.le_refl _)⟩
        · simp only; omega
        · rw [hS]; simp
        · simp only; omega
        · simp only; omega
        · simp only [List.length_append, List.length_cons, List.length_nil]; omega
        · simp only; omega
        · simp only; omega
  · have hl : l = [] := by
      cases l with
      | nil => rfl
      | cons b l => simp at h
    subst hl
    simp only [scanB, if_true, List.append_nil] at hS
    have hR : scanR src = ⟨ts, 0, 0⟩ := by rw [hRR, hS]
    rw [hR]
    simp -implicitDefEqProofs [-Int.not_le, -Int.not_lt, -Nat.not_le, -Nat.not_lt, -List.map_take, -List.map_drop, h1, h1']
    refine frz3 ?_ (.int _ _) (.int _ _)
    rw [hTS, hHS]
    by_cases he : ts = []
    · subst he
      exact .nils
    · rw [if_neg he, if_neg he]
      exact frz_toks (by simp [Go.AX.rowAt]) rfl
end Go.Proofs.YtoplaknmmglagaaDoor.T
