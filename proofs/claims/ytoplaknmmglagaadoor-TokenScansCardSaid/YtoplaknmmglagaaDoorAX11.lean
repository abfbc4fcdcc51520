/-
AX, part 11: a region that draws its order: operations that do not look at one another may be done in any order.
-/
import Derived.Test.YtoplaknmmglagaaDoorAX10
set_option linter.unusedVariables false
set_option linter.unusedSectionVars false
set_option linter.unusedSimpArgs false
namespace Go.AX
variable {P : Program} [GL P]

def evL (P : Program) [GL P] (L : Nat → AV) : Operand → AV
  | .tmp t => L t
  | .const v => ofV v
  | .global g => GL.gl P g
  | .func f => .clo (.func f) [] []
theorem St.ev_eq (σ : St) : (σ.ev P) = evL P (lk σ.sl) := by funext x; cases x <;> rfl

def updO (L : Nat → AV) (d : Option Tmp) (v : AV) : Nat → AV := fun i => if d = some i then v else L i
theorem lk_upd (s : Slots) (d : Option Tmp) (v : AV) : lk (putO s d v) = updO (lk s) d v := by funext i; exact lk_putO s d v i

/-- The classes of operations. -/
def cl (op : Op) : Nat :=
  match op with
  | .load .. => 1
  | .lookup .. => 8
  | .convert s d _ => if s = d then 8 else 0
  | .store .. => 4
  | .alloc _ | .box .. | .buildSlice .. | .makeSlice .. | .makeMap .. => 3
  | .call c => match c.callee with
    | .builtin .len => 2
    | .builtin .append => 5
    | .builtin _ => 0
    | .value _ => 6
    | _ => 7
  | _ => 0

/-- What an operation comes to, by what it looks at. -/
def Out (P : Program) [GL P] (m : Mode) (op : Op) (ev : Operand → AV) (H : Heap) (c : Nat) (v : AV) (H' : Heap) (c' : Nat) : Prop :=
  match op with
  | .call { callee := .value f, args, .. } => H' = H ∧ c' = c ∧ ∃ fid first captured, ev f = .clo (.func fid) first captured ∧
      ((∃ al, (first ++ args.toList.map ev ++ captured).all (·.noRef) = true ∧ PureC P al fid (first ++ args.toList.map ev ++ captured) v) ∨
       (m.brw = true ∧ ∃ args', Frzs true H (first ++ args.toList.map ev ++ captured) args' ∧ PureC P false fid args' v))
  | .panic _ => False
  | op => ∃ e, opX P op ev H = some e ∧ (match e with
    | .val x => v = x ∧ H' = H ∧ c' = c
    | .upd x K => v = x ∧ H' = K ∧ c' = c
    | .gen f => v = (f c).1 ∧ H' = (f c).2 ∧ c' = c + 1
    | .new b mk => ∃ id g, m.kept = some (id, g) ∧ v = mk id g ∧ H' = H.set id (some (b g)) ∧ c' = c)

/-- An operation, guarded or not. -/
def OutG (P : Program) [GL P] (gd : Nat → Option Tmp) (m : Mode) (o : Oper) (L : Nat → AV) (H : Heap) (c : Nat) (v : AV) (H' : Heap) (c' : Nat) : Prop :=
  match o.guard with
  | none => okD P m o.op (evL P L) H = true ∧ Out P m o.op (evL P L) H c v H' c'
  | some (j, want) => match gd j with
    | none => False
    | some d => match L d with
      | .bool b => if b = want then okD P m o.op (evL P L) H = true ∧ Out P m o.op (evL P L) H c v H' c' else v = .tup [] ∧ H' = H ∧ c' = c
      | .tup _ => v = .tup [] ∧ H' = H ∧ c' = c
      | _ => False

theorem opX_new {op : Op} {ev : Operand → AV} {H : Heap} {b : Nat → Blk} {mk : Nat → Nat → AV} (h : opX P op ev H = some (.new b mk)) : isNew op = true := by
  cases op
  case slice t x lo hi mx => cases mx <;> simp [opX] at h
  case call c =>
    obtain ⟨callee, args, tys⟩ := c
    simp only [opX] at h
    (repeat' split at h) <;> simp at h
  case build t ps => simp [opX, Option.bind_eq_some_iff] at h
  all_goals first | rfl | (simp only [opX] at h; (repeat' split at h) <;> simp at h; done)

theorem WPop_out {m : Mode} (hm : m.imp = false) {o : Oper} (hnew : isNew o.op = true → m.kept.isSome = true) {K : St → Prop} {σ : St} (h : WPop P m o K (fun _ _ => False) σ) :
    ∃ v H' c', Out P m o.op (σ.ev P) σ.H σ.c v H' c' ∧ K ⟨putO σ.sl o.dst v, H', c'⟩ := by
  obtain ⟨dst, op, type, pos, after, guard⟩ := o
  unfold WPop at h
  split at h
  · rename_i f args tys hop
    simp only at hop
    subst hop
    split at h
    case h_2 => cases h
    rename_i fid first captured hf
    rcases h with ⟨al, res, hn, hp, hK⟩ | ⟨hb, args', res, hfz, hp, hK⟩ | ⟨hi, _⟩
    · exact ⟨res, σ.H, σ.c, ⟨rfl, rfl, fid, first, captured, hf, .inl ⟨al, hn, hp⟩⟩, hK⟩
    · exact ⟨res, σ.H, σ.c, ⟨rfl, rfl, fid, first, captured, hf, .inr ⟨hb, args', hfz, hp⟩⟩, hK⟩
    · rw [hm] at hi; cases hi
  · split at h <;> cases h
  · rename_i hnc hnp
    split at h
    case h_2 => rw [hm] at h; cases h.1
    rename_i e he
    have hout : ∀ v H' c', (match e with
        | .val x => v = x ∧ H' = σ.H ∧ c' = σ.c
        | .upd x K => v = x ∧ H' = K ∧ c' = σ.c
        | .gen f => v = (f σ.c).1 ∧ H' = (f σ.c).2 ∧ c' = σ.c + 1
        | .new b mk => ∃ id g, m.kept = some (id, g) ∧ v = mk id g ∧ H' = σ.H.set id (some (b g)) ∧ c' = σ.c) → Out P m op (σ.ev P) σ.H σ.c v H' c' := by
      intro v H' c' hv
      unfold Out
      split
      · rename_i f args tys; exact absurd rfl (hnc f args tys)
      · rename_i x; exact absurd rfl (hnp x)
      · exact ⟨e, he, hv⟩
    cases e with
    | val x => exact ⟨x, σ.H, σ.c, hout _ _ _ ⟨rfl, rfl, rfl⟩, h⟩
    | upd x H' => exact ⟨x, H', σ.c, hout _ _ _ ⟨rfl, rfl, rfl⟩, h⟩
    | gen f => exact ⟨_, _, _, hout _ _ _ ⟨rfl, rfl, rfl⟩, h⟩
    | new b mk =>
      have hn : isNew op = true := opX_new he
      obtain ⟨⟨id, g⟩, hk⟩ := Option.isSome_iff_exists.1 (hnew hn)
      refine ⟨_, _, _, hout _ _ _ ⟨id, g, hk, rfl, rfl, rfl⟩, ?_⟩
      simpa [Eff.put, hk] using h

theorem out_WPop {m : Mode} {o : Oper} {K : St → Prop} {Q : Ex → St → Prop} {σ : St} {v : AV} {H' : Heap} {c' : Nat} (h : Out P m o.op (σ.ev P) σ.H σ.c v H' c') (hK : K ⟨putO σ.sl o.dst v, H', c'⟩) : WPop P m o K Q σ := by
  unfold Out at h
  unfold WPop
  split at h
  · rename_i f args tys hop
    obtain ⟨rfl, rfl, fid, first, captured, hf, hc⟩ := h
    rw [hop]
    simp only [hf]
    rcases hc with ⟨al, hn, hp⟩ | ⟨hb, args', hfz, hp⟩
    · exact .inl ⟨al, v, hn, hp, hK⟩
    · exact .inr (.inl ⟨hb, args', v, hfz, hp, hK⟩)
  · cases h
  · rename_i hnc hnp
    obtain ⟨e, he, hv⟩ := h
    split
    · rename_i f args tys hop; exact absurd hop (hnc f args tys)
    · rename_i x hop; exact absurd hop (hnp x)
    · rw [he]
      cases e with
      | val x => obtain ⟨rfl, rfl, rfl⟩ := hv; exact hK
      | upd x H' => obtain ⟨rfl, rfl, rfl⟩ := hv; exact hK
      | gen f => obtain ⟨rfl, rfl, rfl⟩ := hv; exact hK
      | new b mk =>
        obtain ⟨id, g, hk, rfl, rfl, rfl⟩ := hv
        simpa [Eff.put, hk] using hK

/-! ### What an operation looks at -/

theorem list_congr {ev ev' : Operand → AV} (l : List (Nat × Operand)) (h : ∀ x ∈ l.map (·.2), ev x = ev' x) : (l.map fun p => (p.1, ev p.2)) = l.map fun p => (p.1, ev' p.2) :=
  List.map_congr_left fun p hp => by rw [h p.2 (List.mem_map.2 ⟨p, hp, rfl⟩)]

theorem opX_congr {op : Op} {ev ev' : Operand → AV} (h : ∀ x ∈ op.operands, ev x = ev' x) (H : Heap) : opX P op ev H = opX P op ev' H := by
  have arr : ∀ l : Array Operand, (∀ x ∈ l, ev x = ev' x) → l.toList.map ev = l.toList.map ev' := fun l hl => List.map_congr_left fun x hx => hl x (by simpa using hx)
  cases op <;> simp only [Op.operands] at h <;> simp only [opX]
  case build t ps => rw [list_congr ps.toList fun x hx => h x (by simpa using hx)]
  case buildSlice t n ps => rw [list_congr ps.toList fun x hx => h x (by simpa using hx)]
  case makeFunc fn a b => rw [arr a fun x hx => h x (by simp [hx]), arr b fun x hx => h x (by simp [hx])]
  case slice t x lo hi mx => cases lo <;> cases hi <;> cases mx <;> simp_all
  case call c =>
    obtain ⟨callee, args, tys⟩ := c
    have ha : ∀ x ∈ args, ev x = ev' x := fun x hx => h x (by simp [Call.operands, hx])
    have h0 : ∀ (k : Nat) (x : Operand), args[k]? = some x → ev x = ev' x := fun k x hx => ha x (Array.mem_of_getElem? hx)
    simp only [arr args ha]
    split
    · split
      · rename_i t x ht hx; rw [h0 _ _ hx]
      · rfl
    · split
      · rename_i t t' s x ht ht' hs hx; rw [h0 _ _ hs, h0 _ _ hx]
      · rfl
    · rfl
    · rfl
    · rfl
  all_goals (first | rfl | (simp_all; done))

theorem okD_congr {m : Mode} {op : Op} {ev ev' : Operand → AV} (h : ∀ x ∈ op.operands, ev x = ev' x) (H : Heap) : okD P m op ev H = okD P m op ev' H := by
  cases op <;> simp only [Op.operands] at h <;> simp only [okD]
  case load t a => rw [h a (by simp)]
  case store t a x => rw [h a (by simp), h x (by simp)]
  case call c =>
    obtain ⟨callee, args, tys⟩ := c
    have ha : ∀ x ∈ args.toList, ev x = ev' x := fun x hx => h x (by simp [Call.operands]; right; simpa using hx)
    rw [Bool.eq_iff_iff, List.all_eq_true, List.all_eq_true]
    constructor
    · intro hh x hx; have := hh x hx; rwa [ha x hx] at this
    · intro hh x hx; have := hh x hx; rwa [← ha x hx] at this

theorem Out_congr {m : Mode} {op : Op} {ev ev' : Operand → AV} (h : ∀ x ∈ op.operands, ev x = ev' x) {H : Heap} {c : Nat} {v : AV} {H' : Heap} {c' : Nat} (ho : Out P m op ev H c v H' c') : Out P m op ev' H c v H' c' := by
  unfold Out at ho ⊢
  split at ho
  · rename_i f args tys
    obtain ⟨h1, h2, fid, first, captured, hf, hc⟩ := ho
    have hf' : ev' f = .clo (.func fid) first captured := by rw [← h f (by simp [Op.operands, Call.operands]), hf]
    have ha : args.toList.map ev = args.toList.map ev' := List.map_congr_left fun x hx => h x (by simp [Op.operands, Call.operands]; right; simpa using hx)
    rw [ha] at hc
    exact ⟨h1, h2, fid, first, captured, hf', hc⟩
  · exact ho
  · rename_i hnc hnp
    obtain ⟨e, he, hv⟩ := ho
    exact ⟨e, by rw [← opX_congr h H]; exact he, hv⟩

theorem evL_upd {ops : Array Oper} {o : Oper} {L : Nat → AV} {d : Option Tmp} {v : AV} (h : ∀ t, d = some t → t ∉ o.looksAt ops) : ∀ x ∈ o.op.operands, evL P (updO L d v) x = evL P L x := fun x hx => by
  cases x with
  | tmp t =>
    simp only [evL, updO]
    rw [if_neg]
    intro hd
    exact h t hd (List.mem_append_left _ (List.mem_filterMap.2 ⟨.tmp t, by simpa using hx, rfl⟩))
  | _ => rfl

theorem OutG_upd {ops : Array Oper} {m : Mode} {o : Oper} {L : Nat → AV} {d : Option Tmp} {u : AV} (h : ∀ t, d = some t → t ∉ o.looksAt ops) {H : Heap} {c : Nat} {v : AV} {H' : Heap} {c' : Nat} :
    OutG P (fun j => (ops[j]?).bind (·.dst)) m o (updO L d u) H c v H' c' ↔ OutG P (fun j => (ops[j]?).bind (·.dst)) m o L H c v H' c' := by
  have e1 := evL_upd (P := P) (L := L) (v := u) h
  have e2 : ∀ x ∈ o.op.operands, evL P L x = evL P (updO L d u) x := fun x hx => (e1 x hx).symm
  have core : (okD P m o.op (evL P (updO L d u)) H = true ∧ Out P m o.op (evL P (updO L d u)) H c v H' c') ↔ (okD P m o.op (evL P L) H = true ∧ Out P m o.op (evL P L) H c v H' c') := by
    rw [okD_congr e1]
    exact ⟨fun ⟨a, b⟩ => ⟨a, Out_congr e1 b⟩, fun ⟨a, b⟩ => ⟨a, Out_congr e2 b⟩⟩
  unfold OutG
  cases hg : o.guard with
  | none => exact core
  | some p =>
    obtain ⟨j, want⟩ := p
    simp only
    cases hj : (ops[j]?).bind (·.dst) with
    | none => simp
    | some dj =>
      have hne : updO L d u dj = L dj := by
        simp only [updO]
        rw [if_neg]
        intro hd
        refine h dj hd (List.mem_append_right _ ?_)
        simp [hg, hj]
      simp only [hne]
      cases L dj <;> simp only
      split
      · exact core
      · exact Iff.rfl

end Go.AX
