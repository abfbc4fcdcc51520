/-
law11: TokenScans, walked.
-/
import Derived.Test.YtoplaknmmglagaaDoorT25
set_option linter.unusedVariables false
set_option linter.unusedSimpArgs false
namespace Go.Proofs.YtoplaknmmglagaaDoor.T
open Go Go.AX

theorem frz_bytes2 {al : Bool} {H : Heap} {id g n : Nat} {bs : List UInt8} {ys : List (List AV)} (h : Go.AX.rowAt H id g = some (bs.map byv ++ ys)) (hn : n = bs.length) : Frz al H (.ref id g 1 0 n) (bv bs) := by
  subst hn
  refine .ref id g 1 0 bs.length (bs.map byv ++ ys) (bs.map byv) h (by simp) (by simp) (fun i e e' h1 h2 => ?_) (fun i j e e' c c' h1 h2 h3 h4 => ?_)
  · have hi := (List.getElem?_eq_some_iff.1 h2).1
    rw [Nat.zero_add, List.getElem?_append_left hi] at h1; rw [h1] at h2; cases h2; rfl
  · have hi := (List.getElem?_eq_some_iff.1 h2).1
    rw [Nat.zero_add, List.getElem?_append_left hi] at h1; rw [h1] at h2; cases h2
    rw [h3] at h4; cases h4
    rw [List.getElem?_map, Option.map_eq_some_iff] at h1
    obtain ⟨b, _, rfl⟩ := h1
    match j with
    | 0 => simp at h3; subst h3; exact .int _ _
    | j + 1 => simp at h3

/-- Where the writing over of the source stands. -/
structure Ov where
  i : Nat
  es : List (List AV)
  c : Nat
theorem scans_spec (src : List UInt8) (hl : src.length ≤ 140737488351232) : PureC Tryd.prog false 3 [bv src] (.bool true) := by
  refine PureC.introK k3 (by show 1 ≤ 58; decide) ?_
  simp -implicitDefEqProofs [-Int.not_le, -Int.not_lt, -Nat.not_le, -Nat.not_lt, -List.map_take, -List.map_drop]
  refine WPk_split rfl (fun h => ?_) (fun h => ?_)
  · simp -implicitDefEqProofs [-Int.not_le, -Int.not_lt, -Nat.not_le, -Nat.not_lt, -List.map_take, -List.map_drop]
    refine CallWP.pure works_spec rfl ?_
    try simp -implicitDefEqProofs [-Int.not_le, -Int.not_lt, -Nat.not_le, -Nat.not_lt, -List.map_take, -List.map_drop]
    exact .bool _
  have hs : src.length ≤ 65536 := by simp at h; omega
  simp -implicitDefEqProofs [-Int.not_le, -Int.not_lt, -Nat.not_le, -Nat.not_lt, -List.map_take, -List.map_drop]
  refine CallWP.proc (roomy_spec src (by omega)) rfl ?_
  rintro r H c ⟨g, rfl, rfl⟩
  refine CallWP.brw (scan_spec src hl) rfl (frzs1 (frz_bytes2 (ys := (tailK 8).map byv) (by simp [Go.AX.rowAt, roRow]) rfl)) ?_
  have hcount := scanR_count src
  have hss := scan2_spec src hl
  generalize scanR src = A at hcount hss ⊢
  obtain ⟨ts, an, ae⟩ := A
  simp only at hcount hss ⊢
  simp -implicitDefEqProofs [-Int.not_le, -Int.not_lt, -Nat.not_le, -Nat.not_lt, -List.map_take, -List.map_drop]
  refine CallWP.pure hss rfl ?_
  have hself : ∀ x : Int, (x != x) = false := fun x => by simp
  simp -implicitDefEqProofs [-Int.not_le, -Int.not_lt, -Nat.not_le, -Nat.not_lt, -List.map_take, -List.map_drop, hself]
  refine CallWP.proc (kept_spec src g _ (by omega)) rfl ?_
  rintro r H c' ⟨rfl, rfl⟩
  simp -implicitDefEqProofs [-Int.not_le, -Int.not_lt, -Nat.not_le, -Nat.not_lt, -List.map_take, -List.map_drop]
  refine WPk_loop (fun q : Ov => ⟨[(3, .ref 0 g 1 0 src.length), (4, tksV ts), (7, tksV ts), (10, .int .i64 q.i)], [some (.cells g q.es)], q.c⟩) (fun q => q.i ≤ src.length ∧ q.es.length = src.length + 8 ∧ ∀ e ∈ q.es, e.length = 1) (fun q => src.length - q.i) ⟨0, roRow src 8, c'⟩ (Weak.ofL (by simp) (by simp [HLe]) (Nat.le_refl _))
    ⟨Nat.zero_le _, roRow_len src (by decide), fun e he => ?_⟩ ?_
  · simp only [roRow, List.mem_append, List.mem_map] at he
    rcases he with ⟨b, _, rfl⟩ | ⟨b, _, rfl⟩ <;> rfl
  rintro ⟨i, es, c⟩ ⟨hi, hel, he1⟩
  simp only at hi hel he1
  simp -implicitDefEqProofs [-Int.not_le, -Int.not_lt, -Nat.not_le, -Nat.not_lt, -List.map_take, -List.map_drop]
  refine WPk_split rfl (fun h => ?_) (fun h => ?_)
  case refine_2 =>
    simp -implicitDefEqProofs [-Int.not_le, -Int.not_lt, -Nat.not_le, -Nat.not_lt, -List.map_take, -List.map_drop]
    refine CallWP.pure (same_spec ts (by omega)) rfl ?_
    simp -implicitDefEqProofs [-Int.not_le, -Int.not_lt, -Nat.not_le, -Nat.not_lt, -List.map_take, -List.map_drop]
    refine CallWP.pure works_spec rfl ?_
    try simp -implicitDefEqProofs [-Int.not_le, -Int.not_lt, -Nat.not_le, -Nat.not_lt, -List.map_take, -List.map_drop]
    exact .bool _
  have hi' : i < src.length := by simpa using h
  have hii : (i : Int) < src.length := by omega
  obtain ⟨e, he⟩ : ∃ e, es[i]? = some e := ⟨_, List.getElem?_eq_getElem (by omega)⟩
  have hle : 1 ≤ e.length := Nat.le_of_eq (he1 e (List.mem_of_getElem? he)).symm
  have hw : IntKind.i64.wrap ((i : Int) + 1) = (i : Int) + 1 := wrap_i64 (by omega) (by omega)
  simp -implicitDefEqProofs [-Int.not_le, -Int.not_lt, -Nat.not_le, -Nat.not_lt, -List.map_take, -List.map_drop, hi', hii, he, hle, hw]
  refine ⟨⟨i + 1, _, _⟩, ⟨hi', ?_, ?_⟩, by simp only; omega, Weak.ofL (by simp) (by simp [HLe]) (Nat.le_refl _)⟩
  · simpa using hel
  · intro e1 hm
    rcases List.mem_or_eq_of_mem_set hm with hm | rfl
    · exact he1 e1 hm
    · have := he1 e (List.mem_of_getElem? he)
      simp only [List.length_cons, List.length_tail]
      omega
end Go.Proofs.YtoplaknmmglagaaDoor.T
