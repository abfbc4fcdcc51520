/-
AX, part 12: operations that do not look at one another: the heap's side.
-/
import Derived.Test.YtoplaknmmglagaaDoorAX11
set_option linter.unusedVariables false
set_option linter.unusedSectionVars false
set_option linter.unusedSimpArgs false
namespace Go.AX
variable {P : Program} [GL P]

theorem elemAt_set_ne {H : Heap} {id id' g i : Nat} {x : Option Blk} (h : id ≠ id') : elemAt (H.set id' x) id g i = elemAt H id g i := by
  unfold elemAt; rw [List.getElem?_set_ne (Ne.symm h)]
theorem rowAt_set_ne {H : Heap} {id id' g : Nat} {x : Option Blk} (h : id ≠ id') : rowAt (H.set id' x) id g = rowAt H id g := by
  unfold rowAt; rw [List.getElem?_set_ne (Ne.symm h)]

theorem loadX_set {H : Heap} {t : TypeId} {p : AV} {id : Nat} {x : Option Blk} (h : id ∉ idsA p) : loadX P (H.set id x) t p = loadX P H t p := by
  cases p <;> simp only [loadX]
  rename_i id' g i j
  rw [elemAt_set_ne (by intro e; apply h; simp [idsA, e])]
theorem loadX_imm {H H' : Heap} {t : TypeId} {p : AV} (h : idsA p = []) : loadX P H t p = loadX P H' t p := by
  cases p <;> simp_all [loadX, idsA]
theorem storeX_set {H : Heap} {t : TypeId} {p v : AV} {id : Nat} {x : Option Blk} (h : id ∉ idsA p) : storeX P (H.set id x) t p v = (storeX P H t p v).map fun K => K.set id x := by
  cases p <;> simp only [storeX, Option.map_none]
  rename_i id' g i j
  have hne : id' ≠ id := by intro e; apply h; simp [idsA, e]
  rw [rowAt_set_ne hne]
  split
  · split
    · split
      · rw [List.set_comm _ _ (Ne.symm hne)]; rfl
      · rfl
    · rfl
  · rfl
theorem elemsX_set {H : Heap} {y : AV} {id : Nat} {x : Option Blk} (h : id ∉ idsA y) : elemsX (H.set id x) y = elemsX H y := by
  cases y <;> simp only [elemsX]
  rename_i id' g sz off len
  rw [rowAt_set_ne (by intro e; apply h; simp [idsA, e])]
theorem appX_set {H : Heap} {t : TypeId} {s y : AV} {id : Nat} {x : Option Blk} (hs : id ∉ idsA s) (hy : id ∉ idsA y) (hlt : id < H.length) :
    appX P (H.set id x) t s y = (appX P H t s y).map fun f g => ((f g).1, (f g).2.set id x) := by
  unfold appX
  rw [elemsX_set hy]
  split
  · rfl
  · split
    · split
      · rfl
      · cases s <;> simp only [Option.map_none]
        case nils =>
          split
          · split
            · rfl
            · simp only [Option.map_some, List.length_set]
              congr 1
              funext g
              rw [List.set_append_left _ _ hlt]
          · rfl
        case ref id' g sz off len =>
          have hne : id' ≠ id := by intro e; apply hs; simp [idsA, e]
          rw [rowAt_set_ne hne]
          split
          · split
            · simp only [Option.map_some]
              congr 1
              funext g
              rw [List.set_comm _ _ (Ne.symm hne)]
            · rfl
          · rfl
    · rfl
theorem lenX_imm {H H' : Heap} {t : TypeId} {p : AV} (h : ∀ id g, p ≠ .mref id g) : lenX P H t p = lenX P H' t p := by
  cases p <;> simp_all [lenX]
theorem lenX_set {H : Heap} {t : TypeId} {p : AV} {id : Nat} {x : Option Blk} (h : id ∉ idsA p) : lenX P (H.set id x) t p = lenX P H t p := by
  cases p <;> simp only [lenX]
  rename_i id' g
  rw [List.getElem?_set_ne (by intro e; apply h; simp [idsA, e])]

/-- Operations that look at no heap. -/
theorem opX_pure {op : Op} (h : cl op = 0) (ev : Operand → AV) (H H' : Heap) : opX P op ev H = opX P op ev H' := by
  cases op <;> simp [cl] at h <;> try (simp only [opX]; done)
  case slice t x lo hi mx => cases mx <;> simp only [opX]
  case convert s d x =>
    have hr : ∀ K, cvtR P K s d (ev x) = none := fun K => by
      unfold cvtR
      split
      · rw [if_neg]; intro hh; exact h hh.1
      · rfl
    simp only [opX, hr]
  case call c =>
    obtain ⟨callee, args, tys⟩ := c
    simp only [opX]
    cases callee <;> simp at h
    rename_i b
    cases b <;> simp_all
theorem opX_new_heap {op : Op} (h : cl op = 3) (ev : Operand → AV) (H H' : Heap) : opX P op ev H = opX P op ev H' := by
  cases op <;> simp [cl] at h <;> try (simp only [opX]; done)
  case convert s d x => split at h <;> cases h
  case call c =>
    obtain ⟨callee, args, tys⟩ := c
    cases callee <;> simp at h
    rename_i b
    cases b <;> simp_all

theorem okD_pure {m : Mode} {op : Op} (h : cl op ≠ 1) (h' : cl op ≠ 4) (ev : Operand → AV) (H H' : Heap) : okD P m op ev H = okD P m op ev H' := by
  cases op <;> simp [cl] at h h' <;> simp only [okD]

/-- Whether two operations may be done in either order. -/
def compatB (a : Op) (da : DM) (b : Op) (db : DM) : Bool :=
  match cl a, cl b with
  | 0, _ | _, 0 => true
  | 1, 1 | 1, 2 | 2, 1 | 2, 2 | 1, 6 | 6, 1 | 2, 6 | 6, 2 | 6, 6 => true
  | 3, 3 => true
  | 8, 1 | 8, 2 | 8, 6 | 8, 8 | 1, 8 | 2, 8 | 6, 8 => true
  | 3, 1 | 3, 2 | 3, 4 | 3, 5 => match da.new with | some k => db.avoid.contains k | none => false
  | 1, 3 | 2, 3 | 4, 3 | 5, 3 => match db.new with | some k => da.avoid.contains k | none => false
  | 3, 6 | 4, 6 | 5, 6 => !db.brw
  | 6, 3 | 6, 4 | 6, 5 => !da.brw
  | 1, 4 => da.imm || (da.kd != 0 && db.kd != 0 && da.kd != db.kd)
  | 4, 1 => db.imm || (da.kd != 0 && db.kd != 0 && da.kd != db.kd)
  | 1, 5 | 2, 4 | 2, 5 => da.imm
  | 5, 1 | 4, 2 | 5, 2 => db.imm
  | _, _ => false

abbrev OkOut (P : Program) [GL P] (m : Mode) (op : Op) (ev : Operand → AV) (H : Heap) (c : Nat) (v : AV) (H' : Heap) (c' : Nat) : Prop := okD P m op ev H = true ∧ Out P m op ev H c v H' c'

theorem Out_plain {m : Mode} {op : Op} (h1 : cl op ≠ 6) (h2 : ∀ x, op ≠ .panic x) {ev : Operand → AV} {H : Heap} {c : Nat} {v : AV} {H' : Heap} {c' : Nat} :
    Out P m op ev H c v H' c' ↔ ∃ e, opX P op ev H = some e ∧ (match e with
      | .val x => v = x ∧ H' = H ∧ c' = c
      | .upd x K => v = x ∧ H' = K ∧ c' = c
      | .gen f => v = (f c).1 ∧ H' = (f c).2 ∧ c' = c + 1
      | .new b mk => ∃ id g, m.kept = some (id, g) ∧ v = mk id g ∧ H' = H.set id (some (b g)) ∧ c' = c) := by
  unfold Out
  split
  · rename_i f args tys; exact (h1 rfl).elim
  · rename_i x; exact absurd rfl (h2 x)
  · exact Iff.rfl

theorem opX_val {op : Op} (h : cl op = 0 ∨ cl op = 1 ∨ cl op = 2 ∨ cl op = 8) {ev : Operand → AV} {H : Heap} {e : Eff} (he : opX P op ev H = some e) : ∃ v, e = .val v := by
  cases op
  case slice t x lo hi mx => cases mx <;> simp [opX] at he; obtain ⟨y, _, rfl⟩ := he; exact ⟨_, rfl⟩
  case call c =>
    obtain ⟨callee, args, tys⟩ := c
    simp only [opX] at he
    cases callee <;> try (simp at he; done)
    rename_i b
    cases b <;> simp [cl] at h <;> simp only [reduceCtorEq] at he
    all_goals
      (repeat' split at he) <;> first
        | (simp at he; done)
        | (simp only [Option.map_eq_some_iff] at he; obtain ⟨y, _, rfl⟩ := he; exact ⟨_, rfl⟩)
        | (cases he; exact ⟨_, rfl⟩)
  case build t ps =>
    simp only [opX, Option.bind_eq_some_iff, Option.map_eq_some_iff] at he
    obtain ⟨z, _, pl, _, cs, _, rfl⟩ := he
    exact ⟨_, rfl⟩
  case convert s d x =>
    simp only [opX] at he
    split at he
    · cases he; exact ⟨_, rfl⟩
    · simp only [Option.map_eq_some_iff] at he; obtain ⟨y, _, rfl⟩ := he; exact ⟨_, rfl⟩
  case binOp bo t x y yt =>
    simp only [opX] at he
    split at he
    · cases he; exact ⟨_, rfl⟩
    · simp only [Option.map_eq_some_iff] at he; obtain ⟨y, _, rfl⟩ := he; exact ⟨_, rfl⟩
  all_goals first
    | (simp [cl] at h; done)
    | (simp only [opX, reduceCtorEq] at he; done)
    | (simp only [opX, Option.some.injEq] at he; subst he; exact ⟨_, rfl⟩)
    | (simp only [opX, Option.map_eq_some_iff] at he; obtain ⟨y, _, rfl⟩ := he; exact ⟨_, rfl⟩)
    | (simp only [opX] at he; (repeat' split at he) <;> first
        | (simp at he; done)
        | (simp only [Option.map_eq_some_iff] at he; obtain ⟨y, _, rfl⟩ := he; exact ⟨_, rfl⟩)
        | (cases he; exact ⟨_, rfl⟩))

end Go.AX
