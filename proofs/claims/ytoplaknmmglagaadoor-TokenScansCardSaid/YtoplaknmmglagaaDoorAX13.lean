/-
AX, part 13: two operations that do not look at one another, in either order.
-/
import Derived.Test.YtoplaknmmglagaaDoorAX12
set_option linter.unusedVariables false
set_option linter.unusedSectionVars false
set_option linter.unusedSimpArgs false
namespace Go.AX
variable {P : Program} [GL P]

theorem cl_cases (op : Op) : cl op = 0 ∨ cl op = 1 ∨ cl op = 2 ∨ cl op = 3 ∨ cl op = 4 ∨ cl op = 5 ∨ cl op = 6 ∨ cl op = 7 ∨ cl op = 8 := by
  unfold cl
  (repeat' split) <;> simp

theorem cl1 {op : Op} (h : cl op = 1) : ∃ t a, op = .load t a := by
  cases op <;> simp [cl] at h
  case convert s d x => split at h <;> cases h
  case load t a => exact ⟨t, a, rfl⟩
  case call c => cases hc : c.callee <;> simp [hc] at h; rename_i b; cases b <;> simp at h
theorem cl2 {op : Op} (h : cl op = 2) : ∃ args tys, op = .call { callee := .builtin .len, args := args, argTypes := tys } := by
  cases op <;> simp [cl] at h
  case convert s d x => split at h <;> cases h
  case call c =>
    obtain ⟨callee, args, tys⟩ := c
    cases callee <;> simp at h
    rename_i b
    cases b <;> simp at h
    exact ⟨args, tys, rfl⟩
theorem cl4 {op : Op} (h : cl op = 4) : ∃ t a x, op = .store t a x := by
  cases op <;> simp [cl] at h
  case convert s d x => split at h <;> cases h
  case store t a x => exact ⟨t, a, x, rfl⟩
  case call c => cases hc : c.callee <;> simp [hc] at h; rename_i b; cases b <;> simp at h
theorem cl5 {op : Op} (h : cl op = 5) : ∃ args tys, op = .call { callee := .builtin .append, args := args, argTypes := tys } := by
  cases op <;> simp [cl] at h
  case convert s d x => split at h <;> cases h
  case call c =>
    obtain ⟨callee, args, tys⟩ := c
    cases callee <;> simp at h
    rename_i b
    cases b <;> simp at h
    exact ⟨args, tys, rfl⟩
theorem cl6 {op : Op} (h : cl op = 6) : ∃ f args tys, op = .call { callee := .value f, args := args, argTypes := tys } := by
  cases op <;> simp [cl] at h
  case convert s d x => split at h <;> cases h
  case call c =>
    obtain ⟨callee, args, tys⟩ := c
    cases callee <;> simp at h
    · exact ⟨_, args, tys, rfl⟩
    · rename_i b; cases b <;> simp at h
theorem cl7 {op : Op} (h : cl op = 7) (ev : Operand → AV) (H : Heap) : opX P op ev H = none := by
  cases op <;> simp [cl] at h
  case convert s d x => split at h <;> cases h
  case call c =>
    obtain ⟨callee, args, tys⟩ := c
    cases callee <;> simp at h
    · rfl
    · rename_i b; cases b <;> simp at h

theorem notPanic {op : Op} (h : cl op ≠ 0) : ∀ x, op ≠ .panic x := fun x e => by subst e; exact h rfl

theorem Out_panic {m : Mode} {x : Operand} {ev : Operand → AV} {H : Heap} {c : Nat} {v : AV} {H' : Heap} {c' : Nat} : ¬ Out P m (.panic x) ev H c v H' c' := fun h => by simp [Out] at h

/-- An operation that reads leaves the heap. -/
theorem Out_reader {m : Mode} {op : Op} (h : cl op = 0 ∨ cl op = 1 ∨ cl op = 2 ∨ cl op = 6 ∨ cl op = 8) {ev : Operand → AV} {H : Heap} {c : Nat} {v : AV} {H' : Heap} {c' : Nat} (ho : Out P m op ev H c v H' c') : H' = H ∧ c' = c := by
  by_cases hp : ∃ x, op = .panic x
  · obtain ⟨x, rfl⟩ := hp; exact (Out_panic ho).elim
  · rcases h with h | h | h | h | h
    case inr.inr.inr.inl =>
      obtain ⟨f, args, tys, rfl⟩ := cl6 h
      exact ⟨ho.1, ho.2.1⟩
    all_goals
      rw [Out_plain (by rw [h]; decide) (fun x e => hp ⟨x, e⟩)] at ho
      obtain ⟨e, he, hv⟩ := ho
      obtain ⟨y, rfl⟩ := opX_val (by simp [h]) he
      exact hv.2

/-- What a reader reads. -/
theorem Out_val {m : Mode} {op : Op} (h0 : cl op = 0 ∨ cl op = 1 ∨ cl op = 2) (hp : ∀ x, op ≠ .panic x) {ev : Operand → AV} {H : Heap} {c : Nat} {v : AV} : Out P m op ev H c v H c ↔ opX P op ev H = some (.val v) := by
  have h : cl op = 0 ∨ cl op = 1 ∨ cl op = 2 ∨ cl op = 8 := by omega
  rw [Out_plain (by rcases h0 with h | h | h <;> rw [h] <;> decide) hp]
  constructor
  · rintro ⟨e, he, hv⟩
    obtain ⟨y, rfl⟩ := opX_val h he
    rw [he, hv.1]
  · intro he
    exact ⟨_, he, rfl, rfl, rfl⟩

set_option maxHeartbeats 2000000 in
theorem compatB_symm (a : Op) (da : DM) (b : Op) (db : DM) : compatB a da b db = compatB b db a da := by
  unfold compatB
  rcases cl_cases a with h | h | h | h | h | h | h | h | h <;> rcases cl_cases b with h' | h' | h' | h' | h' | h' | h' | h' | h' <;> simp only [h, h'] <;>
    (cases da.kd == db.kd <;> simp [bne, Bool.and_comm, Bool.and_left_comm, BEq.comm])

/-- One cell of an owned block. -/
def cell1 (H : Heap) (id g i j : Nat) : Option AV := (elemAt H id g i).bind (·[j]?)
theorem loadX_one {t : TypeId} (h : aggT P t = some false) (H : Heap) (id g i j : Nat) : loadX P H t (.ptr id g i j) = cell1 H id g i j := by
  unfold cell1
  simp only [loadX]
  cases elemAt H id g i with
  | none => rfl
  | some e => simp [tk, h]
theorem tk_kind {t : TypeId} {L : List AV} {v : AV} (h : tk P t L = some v) (hk : kindA v ≠ 0) : aggT P t = some false := by
  unfold tk at h
  cases ha : aggT P t with
  | none => simp [ha] at h
  | some b =>
    cases b with
    | false => rfl
    | true =>
      simp only [ha] at h
      split at h
      · split at h
        · cases h; exact absurd rfl hk
        · cases h
      · cases h
theorem loadX_kind {t : TypeId} {H : Heap} {id g i j : Nat} {v : AV} (h : loadX P H t (.ptr id g i j) = some v) (hk : kindA v ≠ 0) : aggT P t = some false := by
  simp only [loadX] at h
  cases he : elemAt H id g i with
  | none => simp [he] at h
  | some e => simp only [he] at h; exact tk_kind h hk

theorem cell1_store {H : Heap} {id' g' i' j' : Nat} {es : List (List AV)} {e1 : List AV} (x : AV) (hrow : H[id']? = some (some (.cells g' es))) (he1 : es[i']? = some e1) (hj : j' < e1.length) (id g i j : Nat) :
    cell1 (H.set id' (some (.cells g' (es.set i' (e1.take j' ++ [x] ++ e1.drop (j' + 1)))))) id g i j = if id = id' ∧ g = g' ∧ i = i' ∧ j = j' then some x else cell1 H id g i j := by
  have hlt : id' < H.length := (List.getElem?_eq_some_iff.1 hrow).1
  have hilt : i' < es.length := (List.getElem?_eq_some_iff.1 he1).1
  unfold cell1 elemAt
  by_cases h1 : id = id'
  · subst h1
    rw [List.getElem?_set_self hlt, hrow]
    by_cases h2 : g' = g
    · subst h2
      simp only [if_true]
      by_cases h3 : i = i'
      · subst h3
        rw [List.getElem?_set_self hilt, he1]
        simp only [Option.bind_some, true_and]
        have htl : (e1.take j').length = j' := by simp; omega
        rw [List.append_assoc]
        by_cases h4 : j = j'
        · subst h4
          rw [if_pos rfl, List.getElem?_append_right (by omega), htl]
          simp
        · rw [if_neg h4]
          by_cases h5 : j < j'
          · rw [List.getElem?_append_left (by omega), List.getElem?_take, if_pos h5]
          · rw [List.getElem?_append_right (by omega), htl, List.getElem?_append_right (by simp; omega), List.getElem?_drop]
            congr 1
            simp
            omega
      · rw [List.getElem?_set_ne (Ne.symm h3), if_neg (by simp [h3])]
    · simp only [if_neg h2]
      rw [if_neg (by intro h; exact h2 h.2.1.symm)]
  · rw [List.getElem?_set_ne (Ne.symm h1), if_neg (by simp [h1])]

/-- Cells of unlike kinds are not one cell. -/
theorem load_store_kinds {H H2 : Heap} {t t' : TypeId} {p p' x old : AV} {kr kw : Nat} (hst : storeX P H t' p' x = some H2) (hold : loadX P H t' p' = some old) (hko : kindA old = kw) (hkx : kindA x = kw) (hk0 : kw ≠ 0) (hne : kr ≠ kw) (hr0 : kr ≠ 0) :
    (∀ v, loadX P H t p = some v → kindA v = kr → loadX P H2 t p = some v) ∧ (∀ v, loadX P H2 t p = some v → kindA v = kr → loadX P H t p = some v) := by
  unfold storeX at hst
  split at hst
  case h_2 => cases hst
  rename_i id' g' i' j'
  split at hst
  case h_2 => cases hst
  rename_i es cs nn hrow hcs hsz
  split at hst
  case h_2 => cases hst
  rename_i e1 he1
  split at hst
  case isFalse => cases hst
  rename_i hfit
  cases hst
  have hrow' := rowAt_spec hrow
  have hcs1 : cs = [x] := by
    cases x <;> simp [AV.cells?, kindA] at hcs hkx <;> first | exact hcs.symm | exact absurd hkx.symm hk0
  subst hcs1
  have hnn : nn = 1 := by simpa using hfit.1.symm
  subst hnn
  have hj : j' < e1.length := by omega
  rw [loadX_one (loadX_kind hold (by rw [hko]; exact hk0))] at hold
  have hc := cell1_store x hrow' he1 hj
  cases p <;> simp only [loadX] <;> try exact ⟨fun v h _ => h, fun v h _ => h⟩
  rename_i id g i j
  refine ⟨fun v h hk => ?_, fun v h hk => ?_⟩
  · have h' : loadX P H t (.ptr id g i j) = some v := h
    have ha := loadX_kind h' (by rw [hk]; exact hr0)
    show loadX P _ t (.ptr id g i j) = some v
    rw [loadX_one ha] at h' ⊢
    rw [hc]
    split
    · rename_i he
      obtain ⟨rfl, rfl, rfl, rfl⟩ := he
      rw [hold] at h'
      cases h'
      exact absurd (hk.symm.trans hko) hne
    · exact h'
  · have h' : loadX P (H.set id' (some (.cells g' (es.set i' (e1.take j' ++ [x] ++ e1.drop (j' + 1)))))) t (.ptr id g i j) = some v := h
    have ha := loadX_kind h' (by rw [hk]; exact hr0)
    show loadX P H t (.ptr id g i j) = some v
    rw [loadX_one ha] at h' ⊢
    rw [hc] at h'
    split at h'
    · cases h'
      exact absurd (hk.symm.trans hkx) hne
    · exact h'

theorem opX_cl3 {op : Op} (h : cl op = 3) {ev : Operand → AV} {H : Heap} {e : Eff} (he : opX P op ev H = some e) : ∃ b mk, e = .new b mk := by
  cases op
  case slice t x lo hi mx => simp [cl] at h
  case convert s d x => simp only [cl] at h; split at h <;> cases h
  case call c => cases hcc : c.callee <;> simp [cl, hcc] at h; rename_i b; cases b <;> simp at h
  all_goals first
    | (simp [cl] at h; done)
    | (simp only [opX, reduceCtorEq] at he; done)
    | (simp only [opX, Option.map_eq_some_iff] at he; obtain ⟨y, _, rfl⟩ := he; exact ⟨_, _, rfl⟩)
    | (simp only [opX, Option.bind_eq_some_iff] at he
       obtain ⟨el, _, z, _, he⟩ := he
       (repeat' split at he) <;> first
         | (simp only [Option.map_eq_some_iff] at he; obtain ⟨y, _, rfl⟩ := he; exact ⟨_, _, rfl⟩)
         | (cases he; exact ⟨_, _, rfl⟩)
         | (simp at he; done))
theorem opX_cl4 {t : TypeId} {p x : Operand} {ev : Operand → AV} {H : Heap} {e : Eff} : opX P (.store t p x) ev H = some e ↔ ∃ K, storeX P H t (ev p) (ev x) = some K ∧ e = .upd .dead K := by
  simp only [opX, Option.map_eq_some_iff]
  constructor <;> (rintro ⟨K, h1, h2⟩; exact ⟨K, h1, h2.symm⟩)
theorem opX_cl5 {args : Array Operand} {tys : Array TypeId} {ev : Operand → AV} {H : Heap} {e : Eff} : opX P (.call { callee := .builtin .append, args := args, argTypes := tys }) ev H = some e ↔
    ∃ t t' s x f, tys[0]? = some t ∧ tys[1]? = some t' ∧ args[0]? = some s ∧ args[1]? = some x ∧ (sliceT P t' || strT P t') = true ∧ appX P H t (ev s) (ev x) = some f ∧ e = .gen f := by
  simp only [opX]
  constructor
  · intro h
    split at h
    · rename_i t t' s x h1 h2 h3 h4
      split at h
      · rename_i h5
        simp only [Option.map_eq_some_iff] at h
        obtain ⟨f, h6, h7⟩ := h
        exact ⟨t, t', s, x, f, h1, h2, h3, h4, h5, h6, h7.symm⟩
      · cases h
    · cases h
  · rintro ⟨t, t', s, x, f, h1, h2, h3, h4, h5, h6, rfl⟩
    simp [h1, h2, h3, h4, h5, h6]

theorem kept_mode {d : DM} {n k0 id g : Nat} (h : (d.mode n k0).kept = some (id, g)) : ∃ k, d.new = some k ∧ id = n + k ∧ g = k0 + k := by
  simp only [DM.mode, Option.map_eq_some_iff, Prod.mk.injEq] at h
  obtain ⟨k, h1, h2, h3⟩ := h
  exact ⟨k, h1, h2.symm, h3.symm⟩

theorem okD_store_ids {d : DM} {n k0 k : Nat} {t : TypeId} {p x : Operand} {ev : Operand → AV} {H : Heap} (hk : k ∈ d.avoid) (h : okD P (d.mode n k0) (.store t p x) ev H = true) : n + k ∉ idsA (ev p) := fun hm => by
  simp only [okD, Bool.and_eq_true, List.all_eq_true] at h
  have := h.1 _ hm
  simp [DM.mode, hk] at this
theorem okD_app_ids {d : DM} {n k0 k : Nat} {args : Array Operand} {tys : Array TypeId} {ev : Operand → AV} {H : Heap} (hk : k ∈ d.avoid) (h : okD P (d.mode n k0) (.call { callee := .builtin .append, args := args, argTypes := tys }) ev H = true)
    {i : Nat} {x : Operand} (hx : args[i]? = some x) : n + k ∉ idsA (ev x) := fun hm => by
  simp only [okD, List.all_eq_true] at h
  have := h x (by simpa using Array.mem_of_getElem? hx) _ hm
  simp [DM.mode, hk] at this
theorem okD_store_set {d : DM} {n k0 k : Nat} {t : TypeId} {p x : Operand} {ev : Operand → AV} {H : Heap} {y : Option Blk} (hne : n + k ∉ idsA (ev p)) : okD P (d.mode n k0) (.store t p x) ev (H.set (n + k) y) = okD P (d.mode n k0) (.store t p x) ev H := by
  simp only [okD, loadX_set hne]

/-- What an operation reads is the same ahead of one that writes elsewhere, and behind it. -/
theorem stable {r wr : Op} {dr dw : DM} {n k0 : Nat} (hr : cl r = 0 ∨ cl r = 1 ∨ cl r = 2 ∨ cl r = 6 ∨ cl r = 8) (hw : cl wr = 3 ∨ cl wr = 4 ∨ cl wr = 5) (hc : compatB r dr wr dw = true) {ev evw : Operand → AV} {H H2 : Heap} {c c2 : Nat} {u v : AV}
    (ho : OkOut P (dw.mode n k0) wr evw H c u H2 c2) : OkOut P (dr.mode n k0) r ev H c v H c ↔ OkOut P (dr.mode n k0) r ev H2 c2 v H2 c2 := by
  by_cases hp : ∃ x, r = .panic x
  · obtain ⟨x, rfl⟩ := hp
    exact ⟨fun h => (Out_panic h.2).elim, fun h => (Out_panic h.2).elim⟩
  have hp' : ∀ x, r ≠ .panic x := fun x e => hp ⟨x, e⟩
  have hwp : ∀ x, wr ≠ .panic x := notPanic (by rcases hw with h | h | h <;> rw [h] <;> decide)
  have hw6 : cl wr ≠ 6 := by rcases hw with h | h | h <;> rw [h] <;> decide
  obtain ⟨hok, hout⟩ := ho
  rw [Out_plain hw6 hwp] at hout
  obtain ⟨e, he, hv⟩ := hout
  -- a new block's place
  have hnew : cl wr = 3 → ∃ id b, H2 = H.set id (some b) ∧ ∃ k, dw.new = some k ∧ id = n + k := fun h3 => by
    have : ∃ b mk, e = .new b mk := opX_cl3 h3 he
    obtain ⟨b, mk, rfl⟩ := this
    obtain ⟨id, g, hk, _, rfl, _⟩ := hv
    simp only [DM.mode, Option.map_eq_some_iff, Prod.mk.injEq] at hk
    obtain ⟨k, hk1, hk2, _⟩ := hk
    exact ⟨id, _, rfl, k, hk1, hk2.symm⟩
  rcases hr with h | h | h | h | h
  · -- it looks at no heap
    simp only [OkOut, Out_val (.inl h) hp', okD_pure (m := dr.mode n k0) (op := r) (by rw [h]; decide) (by rw [h]; decide) ev H H2, opX_pure h ev H H2]
  · -- a load
    obtain ⟨t, a, rfl⟩ := cl1 h
    have key : ∀ (K K' : Heap), (okD P (dr.mode n k0) (.load t a) ev K = true → loadX P K t (ev a) = loadX P K' t (ev a)) → (okD P (dr.mode n k0) (.load t a) ev K = true ∧ opX P (.load t a) ev K = some (.val v)) → (okD P (dr.mode n k0) (.load t a) ev K' = true ∧ opX P (.load t a) ev K' = some (.val v)) := by
      rintro K K' hl ⟨h1, h2⟩
      have e := hl h1
      refine ⟨?_, ?_⟩
      · simp only [okD] at h1 ⊢; rw [← e]; exact h1
      · simp only [opX] at h2 ⊢; rw [← e]; exact h2
    simp only [OkOut, Out_val (.inr (.inl h)) hp']
    rcases hw with h3 | h4 | h5
    · obtain ⟨id, b, rfl, k, hk, rfl⟩ := hnew h3
      have hav : k ∈ dr.avoid := by simpa [compatB, h, h3, hk] using hc
      have hne : ∀ K, okD P (dr.mode n k0) (.load t a) ev K = true → (n + k) ∉ idsA (ev a) := fun K hK hmem => by
        simp only [okD, Bool.and_eq_true, List.all_eq_true] at hK
        have := (hK.1 _ hmem).1
        simp [DM.mode, hav] at this
      exact ⟨key _ _ fun hK => (loadX_set (hne _ hK)).symm, key _ _ fun hK => loadX_set (hne _ hK)⟩
    · by_cases him : dr.imm = true
      · have hnil : ∀ K, okD P (dr.mode n k0) (.load t a) ev K = true → idsA (ev a) = [] := fun K hK => by
          simp only [okD, Bool.and_eq_true, List.all_eq_true] at hK
          apply List.eq_nil_iff_forall_not_mem.2
          intro x hx
          have := (hK.1 _ hx).2
          simp [DM.mode, him] at this
        exact ⟨key _ _ fun hK => loadX_imm (hnil _ hK), key _ _ fun hK => loadX_imm (hnil _ hK)⟩
      · -- by the cells' kinds
        simp only [compatB, h, h4, him, Bool.false_or, Bool.and_eq_true, bne_iff_ne, ne_eq] at hc
        obtain ⟨⟨hk1, hk2⟩, hk3⟩ := hc
        obtain ⟨t', a', x', rfl⟩ := cl4 h4
        simp only [opX] at he
        cases hst : storeX P H t' (evw a') (evw x') with
        | none => simp [hst] at he
        | some K2 =>
          simp only [hst, Option.map_some, Option.some.injEq] at he
          subst he
          obtain ⟨_, rfl, _⟩ := hv
          simp only [okD, Bool.and_eq_true, DM.mode, Bool.or_eq_true, beq_iff_eq, hk2, false_or] at hok
          obtain ⟨_, hkx, hko⟩ := hok
          cases hold : loadX P H t' (evw a') with
          | none => simp [hold] at hko
          | some old =>
            simp only [hold, beq_iff_eq] at hko
            have hk3' : dr.kd ≠ dw.kd := hk3
            obtain ⟨q1, q2⟩ := load_store_kinds (t := t) (p := ev a) hst hold hko hkx hk2 hk3' hk1
            have hkl : ∀ K, okD P (dr.mode n k0) (.load t a) ev K = true → ∃ v, loadX P K t (ev a) = some v ∧ kindA v = dr.kd := fun K hK => by
              simp only [okD, Bool.and_eq_true, DM.mode, Bool.or_eq_true, beq_iff_eq, hk1, false_or] at hK
              cases hl : loadX P K t (ev a) with
              | none => simp [hl] at hK
              | some v => simp only [hl, beq_iff_eq] at hK; exact ⟨v, rfl, hK.2⟩
            refine ⟨key _ _ fun hK => ?_, key _ _ fun hK => ?_⟩
            · obtain ⟨v', hv1, hv2⟩ := hkl _ hK
              rw [hv1, q1 v' hv1 hv2]
            · obtain ⟨v', hv1, hv2⟩ := hkl _ hK
              rw [hv1, q2 v' hv1 hv2]
    · have him : dr.imm = true := by simpa [compatB, h, h5] using hc
      have hnil : ∀ K, okD P (dr.mode n k0) (.load t a) ev K = true → idsA (ev a) = [] := fun K hK => by
        simp only [okD, Bool.and_eq_true, List.all_eq_true] at hK
        apply List.eq_nil_iff_forall_not_mem.2
        intro x hx
        have := (hK.1 _ hx).2
        simp [DM.mode, him] at this
      exact ⟨key _ _ fun hK => loadX_imm (hnil _ hK), key _ _ fun hK => loadX_imm (hnil _ hK)⟩
  · -- len
    obtain ⟨args, tys, rfl⟩ := cl2 h
    have key : ∀ (K K' : Heap), (okD P (dr.mode n k0) (.call { callee := .builtin .len, args := args, argTypes := tys }) ev K = true → ∀ (t : TypeId) (x : Operand), args[0]? = some x → lenX P K t (ev x) = lenX P K' t (ev x)) → (okD P (dr.mode n k0) (.call { callee := .builtin .len, args := args, argTypes := tys }) ev K = true ∧ opX P (.call { callee := .builtin .len, args := args, argTypes := tys }) ev K = some (.val v)) →
        (okD P (dr.mode n k0) (.call { callee := .builtin .len, args := args, argTypes := tys }) ev K' = true ∧ opX P (.call { callee := .builtin .len, args := args, argTypes := tys }) ev K' = some (.val v)) := by
      rintro K K' hl ⟨h1, h2⟩
      refine ⟨h1, ?_⟩
      simp only [opX] at h2 ⊢
      cases ht : tys[0]? with
      | none => simp [ht] at h2
      | some t =>
        cases hx : args[0]? with
        | none => simp [ht, hx] at h2
        | some x =>
          simp only [ht, hx] at h2 ⊢
          rw [← hl h1 t x hx]
          exact h2
    have hmem : ∀ x, args[0]? = some x → x ∈ args.toList := fun x hx => by simpa using Array.mem_of_getElem? hx
    simp only [OkOut, Out_val (.inr (.inr h)) hp']
    rcases hw with h3 | h4 | h5
    · obtain ⟨id, b, rfl, k, hk, rfl⟩ := hnew h3
      have hav : k ∈ dr.avoid := by simpa [compatB, h, h3, hk] using hc
      have hne : ∀ K x, okD P (dr.mode n k0) (.call { callee := .builtin .len, args := args, argTypes := tys }) ev K = true → args[0]? = some x → (n + k) ∉ idsA (ev x) := fun K x hK hx hm => by
        simp only [okD, List.all_eq_true] at hK
        have := hK x (hmem x hx) _ hm
        simp [DM.mode, hav] at this
      exact ⟨key _ _ fun hK t x hx => (lenX_set (hne _ _ hK hx)).symm, key _ _ fun hK t x hx => lenX_set (hne _ _ hK hx)⟩
    all_goals
      have him : dr.imm = true := by first | simpa [compatB, h, h4] using hc | simpa [compatB, h, h5] using hc
      have hnil : ∀ K x, okD P (dr.mode n k0) (.call { callee := .builtin .len, args := args, argTypes := tys }) ev K = true → args[0]? = some x → ∀ id g, ev x ≠ .mref id g := fun K x hK hx id g hm => by
        simp only [okD, List.all_eq_true] at hK
        have := hK x (hmem x hx) id (by rw [hm]; simp [idsA])
        simp [DM.mode, him] at this
      exact ⟨key _ _ fun hK t x hx => lenX_imm (hnil _ _ hK hx), key _ _ fun hK t x hx => lenX_imm (hnil _ _ hK hx)⟩
  · -- a call
    obtain ⟨f, args, tys, rfl⟩ := cl6 h
    have hbrw : dr.brw = false := by rcases hw with h3 | h3 | h3 <;> simpa [compatB, h, h3] using hc
    have hm : (dr.mode n k0).brw = false := hbrw
    simp only [OkOut, okD_pure (m := dr.mode n k0) (op := .call { callee := .value f, args := args, argTypes := tys }) (by rw [h]; decide) (by rw [h]; decide) ev H H2, Out, hm, Bool.false_eq_true, false_and, or_false, true_and]
  · rcases hw with h3 | h3 | h3 <;> simp [compatB, h, h3] at hc

/-- Two operations that write or make memory, in either order. -/
theorem commute {a b : Op} {da db : DM} {n k0 : Nat} (ha : cl a = 3 ∨ cl a = 4 ∨ cl a = 5) (hb : cl b = 3 ∨ cl b = 4 ∨ cl b = 5) (hc : compatB a da b db = true) (hd : ∀ k, da.new = some k → db.new = some k → False) {eva evb : Operand → AV} {H H1 H2 : Heap} {c c1 c2 : Nat} {u v : AV}
    (hna : ∀ k, da.new = some k → n + k < H.length) (hnb : ∀ k, db.new = some k → n + k < H.length)
    (h1 : OkOut P (da.mode n k0) a eva H c u H1 c1) (h2 : OkOut P (db.mode n k0) b evb H1 c1 v H2 c2) : ∃ H1' c1', OkOut P (db.mode n k0) b evb H c v H1' c1' ∧ OkOut P (da.mode n k0) a eva H1' c1' u H2 c2 := by
  have hap : ∀ x, a ≠ .panic x := notPanic (by rcases ha with h | h | h <;> rw [h] <;> decide)
  have hbp : ∀ x, b ≠ .panic x := notPanic (by rcases hb with h | h | h <;> rw [h] <;> decide)
  have ha6 : cl a ≠ 6 := by rcases ha with h | h | h <;> rw [h] <;> decide
  have hb6 : cl b ≠ 6 := by rcases hb with h | h | h <;> rw [h] <;> decide
  simp only [OkOut, Out_plain ha6 hap, Out_plain hb6 hbp] at h1 h2 ⊢
  obtain ⟨oka, ea, hea, hva⟩ := h1
  obtain ⟨okb, eb, heb, hvb⟩ := h2
  rcases ha with ha | ha | ha <;> rcases hb with hb | hb | hb
  · -- two new blocks
    obtain ⟨ba, mka, rfl⟩ := opX_cl3 ha hea
    obtain ⟨bb, mkb, rfl⟩ := opX_cl3 hb heb
    obtain ⟨ida, ga, hka, rfl, rfl, rfl⟩ := hva
    obtain ⟨idb, gb, hkb, rfl, rfl, rfl⟩ := hvb
    obtain ⟨ka, hka1, rfl, rfl⟩ := kept_mode hka
    obtain ⟨kb, hkb1, rfl, rfl⟩ := kept_mode hkb
    have hne : ka ≠ kb := fun e => hd ka hka1 (e ▸ hkb1)
    refine ⟨_, _, ⟨(okD_pure (by rw [hb]; decide) (by rw [hb]; decide) evb _ _).trans okb, .new bb mkb, (opX_new_heap hb evb _ _).trans heb, _, _, hkb, rfl, rfl, rfl⟩, (okD_pure (by rw [ha]; decide) (by rw [ha]; decide) eva _ _).trans oka, .new ba mka, (opX_new_heap ha eva _ _).trans hea, _, _, hka, rfl, ?_, rfl⟩
    rw [List.set_comm _ _ (show n + ka ≠ n + kb by omega)]
  · -- a new block, a store
    obtain ⟨ba, mka, rfl⟩ := opX_cl3 ha hea
    obtain ⟨t, p, x, rfl⟩ := cl4 hb
    obtain ⟨K, hst, rfl⟩ := opX_cl4.1 heb
    obtain ⟨ida, ga, hka, rfl, rfl, rfl⟩ := hva
    obtain ⟨rfl, rfl, rfl⟩ := hvb
    obtain ⟨ka, hka1, rfl, rfl⟩ := kept_mode hka
    have hav : ka ∈ db.avoid := by simpa [compatB, ha, hb, hka1] using hc
    have hne := okD_store_ids hav okb
    rw [storeX_set hne, Option.map_eq_some_iff] at hst
    obtain ⟨K0, hst, rfl⟩ := hst
    rw [okD_store_set hne] at okb
    exact ⟨K0, _, ⟨okb, .upd .dead K0, opX_cl4.2 ⟨K0, hst, rfl⟩, rfl, rfl, rfl⟩, (okD_pure (by rw [ha]; decide) (by rw [ha]; decide) eva _ _).trans oka, .new ba mka, (opX_new_heap ha eva _ _).trans hea, _, _, hka, rfl, rfl, rfl⟩
  · -- a new block, an append
    obtain ⟨ba, mka, rfl⟩ := opX_cl3 ha hea
    obtain ⟨args, tys, rfl⟩ := cl5 hb
    obtain ⟨t, t', s, x, f, q1, q2, q3, q4, q5, happ, rfl⟩ := opX_cl5.1 heb
    obtain ⟨ida, ga, hka, rfl, rfl, rfl⟩ := hva
    obtain ⟨rfl, rfl, rfl⟩ := hvb
    obtain ⟨ka, hka1, rfl, rfl⟩ := kept_mode hka
    have hav : ka ∈ db.avoid := by simpa [compatB, ha, hb, hka1] using hc
    rw [appX_set (okD_app_ids hav okb q3) (okD_app_ids hav okb q4) (hna ka hka1), Option.map_eq_some_iff] at happ
    obtain ⟨f0, happ, rfl⟩ := happ
    exact ⟨_, _, ⟨(okD_pure (by rw [hb]; decide) (by rw [hb]; decide) evb _ _).trans okb, (.gen f0), opX_cl5.2 ⟨t, t', s, x, f0, q1, q2, q3, q4, q5, happ, rfl⟩, rfl, rfl, rfl⟩, (okD_pure (by rw [ha]; decide) (by rw [ha]; decide) eva _ _).trans oka, .new ba mka, (opX_new_heap ha eva _ _).trans hea, _, _, hka, rfl, rfl, rfl⟩
  · -- a store, a new block
    obtain ⟨bb, mkb, rfl⟩ := opX_cl3 hb heb
    obtain ⟨t, p, x, rfl⟩ := cl4 ha
    obtain ⟨K, hst, rfl⟩ := opX_cl4.1 hea
    obtain ⟨rfl, rfl, rfl⟩ := hva
    obtain ⟨idb, gb, hkb, rfl, rfl, rfl⟩ := hvb
    obtain ⟨kb, hkb1, rfl, rfl⟩ := kept_mode hkb
    have hav : kb ∈ da.avoid := by simpa [compatB, ha, hb, hkb1] using hc
    have hne := okD_store_ids hav oka
    refine ⟨_, _, ⟨(okD_pure (by rw [hb]; decide) (by rw [hb]; decide) evb _ _).trans okb, .new bb mkb, (opX_new_heap hb evb _ _).trans heb, _, _, hkb, rfl, rfl, rfl⟩, by rw [okD_store_set hne]; exact oka, (.upd .dead _), opX_cl4.2 ⟨_, by rw [storeX_set hne, hst]; rfl, rfl⟩, rfl, rfl, rfl⟩
  · simp [compatB, ha, hb] at hc
  · simp [compatB, ha, hb] at hc
  · -- an append, a new block
    obtain ⟨bb, mkb, rfl⟩ := opX_cl3 hb heb
    obtain ⟨args, tys, rfl⟩ := cl5 ha
    obtain ⟨t, t', s, x, f, q1, q2, q3, q4, q5, happ, rfl⟩ := opX_cl5.1 hea
    obtain ⟨rfl, rfl, rfl⟩ := hva
    obtain ⟨idb, gb, hkb, rfl, rfl, rfl⟩ := hvb
    obtain ⟨kb, hkb1, rfl, rfl⟩ := kept_mode hkb
    have hav : kb ∈ da.avoid := by simpa [compatB, ha, hb, hkb1] using hc
    refine ⟨_, _, ⟨(okD_pure (by rw [hb]; decide) (by rw [hb]; decide) evb _ _).trans okb, .new bb mkb, (opX_new_heap hb evb _ _).trans heb, _, _, hkb, rfl, rfl, rfl⟩, (okD_pure (by rw [ha]; decide) (by rw [ha]; decide) eva _ _).trans oka, (.gen fun g => ((f g).1, (f g).2.set (n + kb) (some (bb (k0 + kb))))), opX_cl5.2 ⟨t, t', s, x, fun g => ((f g).1, (f g).2.set (n + kb) (some (bb (k0 + kb)))), q1, q2, q3, q4, q5, by rw [appX_set (okD_app_ids hav oka q3) (okD_app_ids hav oka q4) (hnb kb hkb1), happ]; rfl, rfl⟩, rfl, rfl, rfl⟩
  · simp [compatB, ha, hb] at hc
  · simp [compatB, ha, hb] at hc

end Go.AX
