/-
AX, part 14: a region that draws its order comes to what the text's order comes to.
-/
import Derived.Test.YtoplaknmmglagaaDoorAX13
set_option linter.unusedVariables false
set_option linter.unusedSectionVars false
set_option linter.unusedSimpArgs false
namespace Go.AX
variable {P : Program} [GL P]

/-- A state by what its slots hold. -/
structure F where
  L : Nat → AV
  H : Heap
  c : Nat
def toF (σ : St) : F := ⟨lk σ.sl, σ.H, σ.c⟩

abbrev gdOf (ops : Array Oper) : Nat → Option Tmp := fun j => (ops[j]?).bind (·.dst)

theorem Out_c {m : Mode} {op : Op} {ev : Operand → AV} {H : Heap} {c : Nat} {v : AV} {H' : Heap} {c' : Nat} (h : Out P m op ev H c v H' c') : c ≤ c' := by
  unfold Out at h
  split at h
  · exact Nat.le_of_eq h.2.1.symm
  · exact h.elim
  · obtain ⟨e, he, hv⟩ := h
    cases e with
    | val x => exact Nat.le_of_eq hv.2.2.symm
    | upd x K => exact Nat.le_of_eq hv.2.2.symm
    | gen f => rw [hv.2.2]; exact Nat.le_succ _
    | new b mk => obtain ⟨id, g, _, _, _, hc⟩ := hv; exact Nat.le_of_eq hc.symm

/-- What an operation does to the heap's list. -/
theorem Out_heap {m : Mode} {op : Op} {ev : Operand → AV} {H : Heap} {c : Nat} {v : AV} {H' : Heap} {c' : Nat} (h : Out P m op ev H c v H' c') :
    H.length ≤ H'.length ∧ ∀ id, H[id]? = some none → (∀ g, m.kept ≠ some (id, g)) → H'[id]? = some none := by
  have hset : ∀ (id : Nat) (b : Option Blk) (id' : Nat), H[id']? = some none → id' ≠ id → (H.set id b)[id']? = some none := fun id b id' h hne => by rw [List.getElem?_set_ne (Ne.symm hne)]; exact h
  have hrow : ∀ {id g es}, rowAt H id g = some es → ∀ id', H[id']? = some none → id' ≠ id := fun hr id' h e => by
    rw [e, rowAt_spec hr] at h; cases h
  rcases cl_cases op with hc | hc | hc | hc | hc | hc | hc | hc | hc
  case inr.inr.inr.inl =>
    rw [Out_plain (by rw [hc]; decide) (notPanic (by rw [hc]; decide))] at h
    obtain ⟨e, he, hv⟩ := h
    obtain ⟨b, mk, rfl⟩ := opX_cl3 hc he
    obtain ⟨id, g, hk, _, rfl, _⟩ := hv
    exact ⟨by simp, fun id' h' hne => hset _ _ _ h' fun e => hne g (e ▸ hk)⟩
  case inr.inr.inr.inr.inl =>
    obtain ⟨t, p, x, rfl⟩ := cl4 hc
    rw [Out_plain (by rw [hc]; decide) (notPanic (by rw [hc]; decide))] at h
    obtain ⟨e, he, hv⟩ := h
    obtain ⟨K, hst, rfl⟩ := opX_cl4.1 he
    obtain ⟨_, rfl, _⟩ := hv
    unfold storeX at hst
    split at hst
    case h_2 => cases hst
    split at hst
    case h_2 => cases hst
    rename_i hrow' _ _
    split at hst
    case h_2 => cases hst
    split at hst
    case isFalse => cases hst
    cases hst
    exact ⟨by simp, fun id' h' _ => hset _ _ _ h' (hrow hrow' id' h')⟩
  case inr.inr.inr.inr.inr.inl =>
    obtain ⟨args, tys, rfl⟩ := cl5 hc
    rw [Out_plain (by rw [hc]; decide) (notPanic (by rw [hc]; decide))] at h
    obtain ⟨e, he, hv⟩ := h
    obtain ⟨t, t', s, x, f, _, _, _, _, _, happ, rfl⟩ := opX_cl5.1 he
    obtain ⟨_, rfl, _⟩ := hv
    unfold appX at happ
    split at happ
    case h_1 => cases happ
    split at happ
    case h_2 => cases happ
    split at happ
    case isTrue => cases happ
    split at happ
    case h_3 => cases happ
    case h_1 =>
      split at happ
      case isFalse => cases happ
      split at happ
      · cases happ; exact ⟨Nat.le_refl _, fun _ h _ => h⟩
      · cases happ
        refine ⟨by simp, fun id' h' _ => ?_⟩
        show (H ++ _)[id']? = _
        rw [List.getElem?_append_left (List.getElem?_eq_some_iff.1 h').1]
        exact h'
    case h_2 =>
      split at happ
      case h_2 => cases happ
      rename_i hrow'
      split at happ
      case isFalse => cases happ
      cases happ
      exact ⟨by simp, fun id' h' _ => hset _ _ _ h' (hrow hrow' id' h')⟩
  case inr.inr.inr.inr.inr.inr.inr.inl =>
    rw [Out_plain (by rw [hc]; decide) (notPanic (by rw [hc]; decide))] at h
    obtain ⟨e, he, hv⟩ := h
    rw [cl7 hc] at he
    cases he
  all_goals
    obtain ⟨rfl, rfl⟩ := Out_reader (by simp [hc]) h
    exact ⟨Nat.le_refl _, fun _ h _ => h⟩

/-- One operation, as a step. -/
def St1 (P : Program) [GL P] (ops : Array Oper) (md : Nat → Mode) (i : Nat) (f f' : F) : Prop :=
  ∃ o v H' c', ops[i]? = some o ∧ OutG P (gdOf ops) (md i) o f.L f.H f.c v H' c' ∧ f' = ⟨updO f.L o.dst v, H', c'⟩

theorem OutG_cases {gd : Nat → Option Tmp} {m : Mode} {o : Oper} {L : Nat → AV} {H : Heap} {c : Nat} {v : AV} {H' : Heap} {c' : Nat} (h : OutG P gd m o L H c v H' c') :
    (OkOut P m o.op (evL P L) H c v H' c' ∧ ∀ {H2 c2 v2 H3 c3}, OkOut P m o.op (evL P L) H2 c2 v2 H3 c3 → OutG P gd m o L H2 c2 v2 H3 c3) ∨
    (v = .tup [] ∧ H' = H ∧ c' = c ∧ ∀ H2 c2, OutG P gd m o L H2 c2 (.tup []) H2 c2) := by
  unfold OutG at h
  split at h
  · rename_i hg
    exact .inl ⟨h, fun hh => by unfold OutG; rw [hg]; exact hh⟩
  · rename_i j want hg
    split at h
    · cases h
    · rename_i d hd
      split at h
      · rename_i b hb
        split at h
        · rename_i hbw
          exact .inl ⟨h, fun hh => by unfold OutG; simp only [hg, hd, hb, if_pos hbw]; exact hh⟩
        · rename_i hbw
          obtain ⟨rfl, rfl, rfl⟩ := h
          exact .inr ⟨rfl, rfl, rfl, fun H2 c2 => by unfold OutG; simp [hg, hd, hb, hbw]⟩
      · rename_i cs hb
        obtain ⟨rfl, rfl, rfl⟩ := h
        exact .inr ⟨rfl, rfl, rfl, fun H2 c2 => by unfold OutG; simp [hg, hd, hb]⟩
      · cases h

theorem OutG_heap {gd : Nat → Option Tmp} {m : Mode} {o : Oper} {L : Nat → AV} {H : Heap} {c : Nat} {v : AV} {H' : Heap} {c' : Nat} (h : OutG P gd m o L H c v H' c') :
    H.length ≤ H'.length ∧ c ≤ c' ∧ ∀ id, H[id]? = some none → (∀ g, m.kept ≠ some (id, g)) → H'[id]? = some none := by
  rcases OutG_cases h with ⟨⟨_, ho⟩, _⟩ | ⟨_, rfl, rfl, _⟩
  · exact ⟨(Out_heap ho).1, Out_c ho, (Out_heap ho).2⟩
  · exact ⟨Nat.le_refl _, Nat.le_refl _, fun _ h _ => h⟩

theorem updO_comm (L : Nat → AV) {x y : Option Tmp} (v u : AV) (h : ∀ d, x = some d → y ≠ some d) : updO (updO L x v) y u = updO (updO L y u) x v := by
  funext i
  unfold updO
  by_cases h1 : y = some i
  · rw [if_pos h1]
    by_cases h2 : x = some i
    · exact absurd h1 (h i h2)
    · rw [if_neg h2, if_pos h1]
  · rw [if_neg h1]
    by_cases h2 : x = some i
    · rw [if_pos h2, if_pos h2]
    · rw [if_neg h2, if_neg h2, if_neg h1]

/-- Two steps in the other order. -/
theorem swap {ops : Array Oper} {dm : Nat → DM} {n k0 y x : Nat} {oy ox : Oper} (hoy : ops[y]? = some oy) (hox : ops[x]? = some ox) (hap : oy.apart ops ox = true) (hc : compatB oy.op (dm y) ox.op (dm x) = true) (hd : ∀ k, (dm y).new = some k → (dm x).new = some k → False)
    {f f1 f2 : F} (hny : ∀ k, (dm y).new = some k → n + k < f.H.length) (hnx : ∀ k, (dm x).new = some k → n + k < f.H.length)
    (h1 : St1 P ops (fun i => (dm i).mode n k0) y f f1) (h2 : St1 P ops (fun i => (dm i).mode n k0) x f1 f2) :
    ∃ f1', St1 P ops (fun i => (dm i).mode n k0) x f f1' ∧ St1 P ops (fun i => (dm i).mode n k0) y f1' f2 := by
  obtain ⟨a1, a2, a3⟩ := Oper.apart_spec hap
  obtain ⟨o, u, H1, c1, ho, hy, rfl⟩ := h1
  rw [hoy] at ho; cases ho
  obtain ⟨o, v, H2, c2, ho, hx, rfl⟩ := h2
  rw [hox] at ho; cases ho
  simp only at hx
  rw [OutG_upd a1] at hx
  suffices hs : ∃ H1' c1', OutG P (gdOf ops) ((dm x).mode n k0) ox f.L f.H f.c v H1' c1' ∧ OutG P (gdOf ops) ((dm y).mode n k0) oy f.L H1' c1' u H2 c2 by
    obtain ⟨H1', c1', q1, q2⟩ := hs
    refine ⟨_, ⟨ox, v, H1', c1', hox, q1, rfl⟩, oy, u, H2, c2, hoy, ?_, ?_⟩
    · simp only; rw [OutG_upd a3]; exact q2
    · simp only; rw [updO_comm f.L u v a2]
  rcases OutG_cases hy with ⟨hy0, hyk⟩ | ⟨rfl, rfl, rfl, hyk⟩
  case inr => exact ⟨H2, c2, hx, hyk H2 c2⟩
  rcases OutG_cases hx with ⟨hx0, hxk⟩ | ⟨rfl, rfl, rfl, hxk⟩
  case inr => exact ⟨f.H, f.c, hxk _ _, hy⟩
  have hro : ∀ op, (cl op = 0 ∨ cl op = 1 ∨ cl op = 2 ∨ cl op = 6 ∨ cl op = 8) ∨ (cl op = 3 ∨ cl op = 4 ∨ cl op = 5) ∨ cl op = 7 := fun op => by have := cl_cases op; omega
  have h7 : ∀ {op : Op} {m : Mode} {ev H c v H' c'}, cl op = 7 → ¬ Out P m op ev H c v H' c' := fun hc h => by
    rw [Out_plain (by rw [hc]; decide) (notPanic (by rw [hc]; decide))] at h
    obtain ⟨e, he, _⟩ := h
    rw [cl7 hc] at he
    cases he
  rcases hro oy.op with hyr | hyw | hy7
  · -- the first one reads
    obtain ⟨rfl, rfl⟩ := Out_reader hyr hy0.2
    rcases hro ox.op with hxr | hxw | hx7
    · obtain ⟨rfl, rfl⟩ := Out_reader hxr hx0.2
      exact ⟨_, _, hx, hy⟩
    · exact ⟨H2, c2, hx, hyk ((stable hyr hxw hc hx0).1 hy0)⟩
    · exact (h7 hx7 hx0.2).elim
  · rcases hro ox.op with hxr | hxw | hx7
    · obtain ⟨rfl, rfl⟩ := Out_reader hxr hx0.2
      exact ⟨f.H, f.c, hxk ((stable hxr hyw (by rw [compatB_symm]; exact hc) hy0).2 hx0), hy⟩
    · obtain ⟨H1', c1', q1, q2⟩ := commute hyw hxw hc hd hny hnx hy0 hx0
      exact ⟨H1', c1', hxk q1, hyk q2⟩
    · exact (h7 hx7 hx0.2).elim
  · exact (h7 hy7 hy0.2).elim

/-- Steps one behind the other. -/
def Ch (P : Program) [GL P] (ops : Array Oper) (md : Nat → Mode) (K : F → Prop) : List Nat → F → Prop
  | [], f => K f
  | i :: T, f => ∃ f', St1 P ops md i f f' ∧ Ch P ops md K T f'

theorem front {ops : Array Oper} {dm : Nat → DM} {n k0 x : Nat} {ox : Oper} (hox : ops[x]? = some ox) {K : F → Prop} {l2 : List Nat} : ∀ (l1 : List Nat) (f : F),
    (∀ y ∈ l1, ∃ oy, ops[y]? = some oy ∧ oy.apart ops ox = true ∧ compatB oy.op (dm y) ox.op (dm x) = true ∧ (∀ k, (dm y).new = some k → (dm x).new = some k → False) ∧ (∀ k, (dm y).new = some k → n + k < f.H.length)) →
    (∀ k, (dm x).new = some k → n + k < f.H.length) → Ch P ops (fun i => (dm i).mode n k0) K (l1 ++ x :: l2) f →
    ∃ f1, St1 P ops (fun i => (dm i).mode n k0) x f f1 ∧ Ch P ops (fun i => (dm i).mode n k0) K (l1 ++ l2) f1
  | [], f, _, _, h => h
  | y :: l1, f, hl, hx, ⟨f', h1, h2⟩ => by
    obtain ⟨oy, q1, q2, q3, q4, q5⟩ := hl y (by simp)
    have hlen : f.H.length ≤ f'.H.length := by
      obtain ⟨o, v, H', c', _, ho, rfl⟩ := h1
      exact (OutG_heap ho).1
    obtain ⟨f1, h3, h4⟩ := front hox l1 f' (fun z hz => by
      obtain ⟨oz, r1, r2, r3, r4, r5⟩ := hl z (by simp [hz])
      exact ⟨oz, r1, r2, r3, r4, fun k hk => Nat.lt_of_lt_of_le (r5 k hk) hlen⟩) (fun k hk => Nat.lt_of_lt_of_le (hx k hk) hlen) h2
    obtain ⟨f1', h5, h6⟩ := swap q1 hox q2 q3 q4 q5 hx h1 h3
    exact ⟨f1', h5, f1, h6, h4⟩

/-! ### The edges -/

theorem foldl_push {α β : Type} (g : Array β → α → β) : ∀ (l : List α) (A : Array β), (l.foldl (fun acc o => acc.push (g acc o)) A).size = A.size + l.length ∧
    (∀ i, i < A.size → (l.foldl (fun acc o => acc.push (g acc o)) A)[i]? = A[i]?) ∧
    ∀ i o, l[i]? = some o → ∃ B : Array β, B.size = A.size + i ∧ (l.foldl (fun acc o => acc.push (g acc o)) A)[A.size + i]? = some (g B o) ∧ ∀ k, k < B.size → B[k]? = (l.foldl (fun acc o => acc.push (g acc o)) A)[k]?
  | [], A => ⟨by simp, fun _ _ => rfl, fun i o h => by simp at h⟩
  | a :: l, A => by
    obtain ⟨h1, h2, h3⟩ := foldl_push g l (A.push (g A a))
    simp only [List.foldl_cons]
    refine ⟨by rw [h1]; simp; omega, fun i hi => by rw [h2 i (by simp; omega), Array.getElem?_push_lt hi, Array.getElem?_eq_getElem hi], fun i o ho => ?_⟩
    cases i with
    | zero =>
      simp at ho
      subst ho
      refine ⟨A, rfl, by rw [Nat.add_zero, h2 A.size (by simp)]; simp, fun k hk => by rw [h2 k (by simp; omega), Array.getElem?_push_lt hk, Array.getElem?_eq_getElem hk]⟩
    | succ i =>
      obtain ⟨B, b1, b2, b3⟩ := h3 i o (by simpa using ho)
      refine ⟨B, by rw [b1]; simp; omega, ?_, b3⟩
      rw [← b2]
      simp
      congr 1
      omega

theorem testBit_row (acc : Array Nat) (k : Nat) : ∀ (l : List Edge) (s : Nat), (l.foldl (fun s e => if Region.binds .any e then s ||| 2 ^ e.on ||| acc.getD e.on 0 else s) s).testBit k = true →
    s.testBit k = true ∨ ∃ e ∈ l, Region.binds .any e = true ∧ (e.on = k ∨ (acc.getD e.on 0).testBit k = true)
  | [], s, h => .inl h
  | e :: l, s, h => by
    simp only [List.foldl_cons] at h
    rcases testBit_row acc k l _ h with h | ⟨e', h1, h2⟩
    · split at h
      · rename_i hb
        simp only [Nat.testBit_or, Bool.or_eq_true] at h
        rcases h with (h | h) | h
        · exact .inl h
        · refine .inr ⟨e, by simp, hb, .inl ?_⟩
          rw [Nat.testBit_two_pow] at h
          simpa using h
        · exact .inr ⟨e, by simp, hb, .inr h⟩
      · exact .inl h
    · exact .inr ⟨e', by simp [h1], h2⟩

theorem before_bit {ops : Array Oper} {j k : Nat} {o : Oper} (ho : ops[j]? = some o) (h : ((Region.before ops).getD j 0).testBit k = true) :
    ∃ e ∈ o.after, Region.binds .any e = true ∧ (e.on = k ∨ (e.on < j ∧ ((Region.before ops).getD e.on 0).testBit k = true)) := by
  unfold Region.before at h ⊢
  rw [← Array.foldl_toList] at h ⊢
  obtain ⟨h1, h2, h3⟩ := foldl_push (fun (acc : Array Nat) (o : Oper) => o.after.foldl (fun s e => if Region.binds .any e then s ||| 2 ^ e.on ||| acc.getD e.on 0 else s) 0) ops.toList #[]
  obtain ⟨B, b1, b2, b3⟩ := h3 j o (by simpa using ho)
  simp only [List.size_toArray, List.length_nil, Nat.zero_add] at b1 b2
  rw [Array.getD_eq_getD_getElem?, b2] at h
  simp only [Option.getD_some] at h
  rw [← Array.foldl_toList] at h
  rcases testBit_row B k o.after.toList 0 h with h | ⟨e, he, hb, hk⟩
  · simp at h
  · refine ⟨e, by simpa using he, hb, ?_⟩
    rcases hk with hk | hk
    · exact .inl hk
    · refine .inr ?_
      have hlt : e.on < j := by
        rcases Nat.lt_or_ge e.on j with h' | h'
        · exact h'
        · simp [Array.getD_eq_getD_getElem?, Array.getElem?_eq_none (show B.size ≤ e.on by omega)] at hk
      refine ⟨hlt, ?_⟩
      rw [Array.getD_eq_getD_getElem?, ← b3 e.on (by omega), ← Array.getD_eq_getD_getElem?]
      exact hk

/-- May a region that draws be taken in the text's order? -/
def pairB (ops : Array Oper) (dms : List DM) (bef : Nat) (j k : Nat) (oj : Oper) : Bool :=
  match ops[k]? with
  | none => true
  | some ok => (bef.testBit k || (ok.apart ops oj && compatB ok.op (dms.getD k {}) oj.op (dms.getD j {}))) &&
      (match (dms.getD k {}).new, (dms.getD j {}).new with | some a, some b => a != b | _, _ => true)

def commB (ops : Array Oper) (r : RA) : Bool :=
  r.dms.length == ops.size && Region.noSelect ops &&
  (List.range ops.size).all fun j => match ops[j]? with
    | none => true
    | some oj => (oj.after.all fun e => !Region.binds .any e || decide (e.on < j)) &&
      ((r.dms.getD j {}).new.isSome == isNew oj.op) && (match (r.dms.getD j {}).new with | some k => decide (k < r.news) | none => true) &&
      (List.range j).all fun k => pairB ops r.dms ((Region.before ops).getD j 0) j k oj

end Go.AX
