/-
AX, part 8: every operation does in the model what opX says.
-/
import Derived.Test.YtoplaknmmglagaaDoorAX17
set_option linter.unusedVariables false
set_option linter.unusedSimpArgs false
namespace Go.AX
variable {P : Program} {Im : Nat → Prop} {w : World} {G : Gens}

def EffOK0 (P : Program) (Im : Nat → Prop) (w : World) (G : Gens) (H : Heap) (c c0 : Nat) (ρ : Operand → Value) (o : Oper) : Eff → Prop
  | .val x => ∃ v, (execOp ρ o).run P w = .ok (.value v) w ∧ V Im w G x v
  | .upd x H' => x = .dead ∧ ∃ w', (execOp ρ o).run P w = .ok .skip w' ∧ HR G Im w' H' c ∧ Ext c0 G Im w H G Im w' H'
  | .gen f => ∃ v w' G', (execOp ρ o).run P w = .ok (.value v) w' ∧ HR G' Im w' (f c).2 (c + 1) ∧ Ext c0 G Im w H G' Im w' (f c).2 ∧ V Im w' G' (f c).1 v
  | .new b mk => ∃ rv w' l obj, (execOp ρ o).run P w = .ok (.value rv) w' ∧ l.r = w.heap.size ∧ w'.heap = w.heap.push obj ∧ SameOut w w' ∧ (∀ g, (b g).g = g) ∧
      ∀ g, G g = none → BlkOK (setG G g l) Im w' (b g) ∧ ∀ id, V Im w' (setG G g l) (mk id g) rv

def EffOK (P : Program) (Im : Nat → Prop) (w : World) (G : Gens) (H : Heap) (c c0 : Nat) (ρ : Operand → Value) (o : Oper) : Eff → Prop
  | .val x => ∃ v w', (execOp ρ o).run P w = .ok (.value v) w' ∧ HR G Im w' H c ∧ Ext c0 G Im w H G Im w' H ∧ V Im w' G x v
  | .upd x H' => x = .dead ∧ ∃ w', (execOp ρ o).run P w = .ok .skip w' ∧ HR G Im w' H' c ∧ Ext c0 G Im w H G Im w' H'
  | .gen f => ∃ v w' G', (execOp ρ o).run P w = .ok (.value v) w' ∧ HR G' Im w' (f c).2 (c + 1) ∧ Ext c0 G Im w H G' Im w' (f c).2 ∧ V Im w' G' (f c).1 v
  | .new b mk => ∃ rv w' l obj, (execOp ρ o).run P w = .ok (.value rv) w' ∧ l.r = w.heap.size ∧ w'.heap = w.heap.push obj ∧ SameOut w w' ∧ (∀ g, (b g).g = g) ∧
      ∀ g, G g = none → BlkOK (setG G g l) Im w' (b g) ∧ ∀ id, V Im w' (setG G g l) (mk id g) rv

theorem wrap_i64 {n : Int} (h0 : -9223372036854775808 ≤ n) (h1 : n ≤ 9223372036854775807) : IntKind.i64.wrap n = n := by
  have e : (2 ^ 64 : Int) = 18446744073709551616 := by decide
  have e' : (2 ^ 63 : Int) = 9223372036854775808 := by decide
  simp only [IntKind.wrap, IntKind.bits, IntKind.signed, Bool.true_and, decide_eq_true_eq, show (64 : Nat) - 1 = 63 from rfl, e, e']
  split <;> omega

theorem list_parts {ev : Operand → AV} {ρ : Operand → Value} (hev : ∀ x, V Im w G (ev x) (ρ x)) (parts : Array (Nat × Operand)) :
    ∀ (k : Nat) (p : Nat × AV) (q : Nat × Value), (parts.toList.map fun p => (p.1, ev p.2))[k]? = some p → (parts.map fun (i, x) => (i, ρ x)).toList[k]? = some q → p.1 = q.1 ∧ V Im w G p.2 q.2 := fun k p q hp hq => by
  rw [List.getElem?_map] at hp
  rw [Array.toList_map, List.getElem?_map] at hq
  cases h : parts.toList[k]? with
  | none => simp [h] at hp
  | some x =>
    simp only [h, Option.map_some, Option.some.injEq] at hp hq
    subst hp
    subst hq
    exact ⟨rfl, hev _⟩

theorem run_buildSlice {t el : TypeId} {len sz : Nat} {vp : Array (Nat × Value)} {i : TypeInfo} {zv : Value} {arr : Array Value} (hu : P.underlying t = some (.slice el)) (hsz : szT P el = some sz) (hi : P.info? el = some i) (hzv : i.zero = some zv)
    (hmax : len * sz ≤ 16777216) (ha : Instr.fill (fun i => some (i * sz, sz)) ((Array.range (len * sz)).map (zv.cells[· % zv.cells.size]!)) vp.toList = some arr) (w : World) :
    (Instr.buildSlice t len vp).run P w = .ok (.slice (some ⟨w.heap.size, 0, none⟩) len len) (w.alloc (.cells arr el)) := by
  have hm : ¬ (len * sz > 2 ^ 24) := by omega
  by_cases hl0 : len * sz = 0
  · have hr : ∀ f : Nat → Value, (Array.range 0).map f = #[] := fun f => by simp
    rw [hl0, hr] at ha
    simp only [Instr.buildSlice, Sem.run_bind, run_underlying hu, Result.andThen_ok, run_sizeOf' hsz]
    rw [if_neg hm, if_pos hl0]
    simp only [Sem.run_pure, Result.andThen_ok, hl0, hr, ha]
    simp [newRow]
  · simp only [Instr.buildSlice, Sem.run_bind, run_underlying hu, Result.andThen_ok, run_sizeOf' hsz]
    rw [if_neg hm, if_neg hl0]
    simp only [Sem.run_bind, run_zeroValue' hi hzv, Sem.run_pure, Result.andThen_ok, ha]
    simp [newRow]

theorem run_makeSlice {t el : TypeId} {n m : Int} {k k' : IntKind} {i : TypeInfo} {zv : Value} (hu : P.underlying t = some (.slice el)) (hi : P.info? el = some i) (hzv : i.zero = some zv) (hn0 : 0 ≤ n) (hnm : n ≤ m) (hm : m ≤ 70368744177664)
    (hb : (i.bytes : Int) * m ≤ 70368744177664) (w : World) :
    (Instr.makeSlice t (.int k n) (.int k' m)).run P w = .ok (.slice (some ⟨w.heap.size, 0, none⟩) n.toNat m.toNat) (w.alloc (.cells ((Array.range (m.toNat * i.size)).map (zv.cells[· % zv.cells.size]!)) el)) := by
  have hwn : IntKind.i64.wrap n = n := wrap_i64 (by omega) (by omega)
  have hwm : IntKind.i64.wrap m = m := wrap_i64 (by omega) (by omega)
  have h1 : ¬ (m < 0) := by omega
  have h2 : ¬ ((281474976710656 : Int) < (i.bytes : Int) * m) := by omega
  have h3 : ¬ (n < 0) := by omega
  have h4 : ¬ (m < n) := by omega
  by_cases hl0 : m.toNat * i.size = 0
  · have hr : ∀ f : Nat → Value, (Array.range 0).map f = #[] := fun f => by simp
    have hz : (if m.toNat * i.size = 0 then pure #[] else do pure (← zeroValue el).cells : Sem (Array Value)) = pure #[] := by rw [if_pos hl0]
    simp only [Instr.makeSlice, Sem.run_bind, run_underlying hu, Result.andThen_ok, asInt, asIntOf, Sem.run_pure, typeInfo, run_program, hi, hwn, hwm]
    simp only [hl0, hr]
    simp [h1, h2, h3, h4, sizeOf, typeInfo, hi, hl0, newRow]
    rw [hr]
  · simp only [Instr.makeSlice, Sem.run_bind, run_underlying hu, Result.andThen_ok, asInt, asIntOf, Sem.run_pure, typeInfo, run_program, hi, hwn, hwm]
    simp [h1, h2, h3, h4, sizeOf, typeInfo, hi, hl0, newRow, run_zeroValue' hi hzv]

theorem V.setNew {obj : Obj} {H : Heap} {c g : Nat} (hr : HR G Im w H c) {w' : World} (hw' : w'.heap = w.heap.push obj) : ∀ r, Im r → w'.heap[r]? = w.heap[r]? := fun r hir => by
  have hlt := hr.imLt r hir
  rw [hw', Array.getElem?_push_lt hlt, Array.getElem?_eq_getElem hlt]

theorem opX_sound0 {H : Heap} {c c0 : Nat} (hr : HR G Im w H c) (hc0 : c0 ≤ c) {ev : Operand → AV} {ρ : Operand → Value} (hev : ∀ x, V Im w G (ev x) (ρ x)) {o : Oper} {e : Eff} (h : opX P o.op ev H = some e) (hns : ∀ s d x, o.op = .convert s d x → cvtX P s d (ev x) ≠ none) :
    EffOK0 P Im w G H c c0 ρ o e := by
  obtain ⟨dst, op, type, pos, after, guard⟩ := o
  simp only at h
  cases op <;> simp only [opX, reduceCtorEq] at h
  case move x => cases h; exact ⟨_, rfl, hev x⟩
  case assign x => cases h; exact ⟨_, rfl, hev x⟩
  case pick cc a b =>
    split at h
    · rename_i t ht
      cases h
      have := hev cc
      rw [ht] at this
      have hb := this.bool_inv
      refine ⟨if t then ρ a else ρ b, by simp [execOp, hb, asBool], ?_⟩
      cases t
      · exact hev b
      · exact hev a
    · cases h
  case alloc t =>
    cases hz : zeroT P t with
    | none => simp [hz] at h
    | some z =>
      simp only [hz, Option.map_some, Option.some.injEq] at h
      subst h
      obtain ⟨i, zv, hi, hzv, hvs, hcell⟩ := zeroT_spec hz
      refine ⟨.pointer (some ⟨w.heap.size, 0, none⟩), w.alloc (.cells zv.cells t), ⟨w.heap.size, 0, z.length, zv.cells.size⟩, _, ?_, rfl, rfl, ⟨rfl, rfl, rfl⟩, fun g => rfl, fun g hg => ⟨BlkOK.ofNew1 (t := t) hr hg rfl (hvs Im w G) hcell, fun id => ?_⟩⟩
      · simp [execOp, Instr.alloc, run_zeroValue' hi hzv, newVar, newRow]
      · have := V.ptr (Im := Im) (w := w.alloc (.cells zv.cells t)) (G := setG G g ⟨w.heap.size, 0, z.length, zv.cells.size⟩) id g 0 0 _ (setG_same _ _ _)
        simpa using this
  case box t x =>
    cases hz : (ev x).cells? with
    | none => simp [hz] at h
    | some cs =>
      simp only [hz, Option.map_some, Option.some.injEq] at h
      subst h
      obtain ⟨hvs, hcell⟩ := (hev x).cells hz
      refine ⟨.pointer (some ⟨w.heap.size, 0, none⟩), w.alloc (.cells (ρ x).cells t), ⟨w.heap.size, 0, cs.length, (ρ x).cells.size⟩, _, ?_, rfl, rfl, ⟨rfl, rfl, rfl⟩, fun g => rfl, fun g hg => ⟨BlkOK.ofNew1 (t := t) hr hg rfl hvs hcell, fun id => ?_⟩⟩
      · simp [execOp, Instr.box, newVar, newRow]
      · have := V.ptr (Im := Im) (w := w.alloc (.cells (ρ x).cells t)) (G := setG G g ⟨w.heap.size, 0, cs.length, (ρ x).cells.size⟩) id g 0 0 _ (setG_same _ _ _)
        simpa using this
  case build t parts =>
    cases hz : zeroT P t with
    | none => simp [hz] at h
    | some z =>
      cases hp : placesT P t with
      | none => simp [hz, hp] at h
      | some pl =>
        simp only [hz, hp, Option.bind_some] at h
        cases hf : fillX pl z (parts.toList.map fun p => (p.1, ev p.2)) with
        | none => simp [hf] at h
        | some cs =>
          simp only [hf, Option.map_some, Option.some.injEq] at h
          subst h
          obtain ⟨v, hv1, hv2⟩ := build_sound (P := P) hz hp (vparts := parts.map fun (i, x) => (i, ρ x)) (by simp) (list_parts hev parts) hf
          exact ⟨v, by simp only [execOp, Sem.run_bind, hv1, Result.andThen_ok, Sem.run_pure], hv2⟩
  case buildSlice t len parts =>
    cases hel : elT P t with
    | none => simp [hel] at h
    | some el =>
      cases hz : zeroT P el with
      | none => simp [hel, hz] at h
      | some z =>
        simp only [hel, hz, Option.bind_some] at h
        split at h
        case isFalse => cases h
        rename_i hcnd
        obtain ⟨hsz, hz0, hmax⟩ := hcnd
        cases hf : partsX z.length (List.replicate len z) (parts.toList.map fun p => (p.1, ev p.2)) with
        | none => simp [hf] at h
        | some es =>
          simp only [hf, Option.map_some, Option.some.injEq] at h
          subst h
          obtain ⟨i, zv, hi, hzv, hvs, hcell⟩ := zeroT_spec hz
          obtain ⟨arr, ha, hlay⟩ := partsX_sound _ _ _ _ _ (LayE.zeros (hvs Im w G) hcell hz0 len) (by simp) (list_parts hev parts) hf
          have hel' : es.length = len := by
            have hpl : ∀ (ps : List (Nat × AV)) (e1 e2 : List (List AV)), partsX z.length e1 ps = some e2 → e2.length = e1.length := by
              intro ps
              induction ps with
              | nil => intro e1 e2 hh; simp [partsX] at hh; subst hh; rfl
              | cons p ps ih =>
                intro e1 e2 hh
                simp only [partsX] at hh
                split at hh
                · split at hh
                  · rw [ih _ _ hh]; simp
                  · cases hh
                · cases hh
            rw [hpl _ _ _ hf]; simp
          have hrun := run_buildSlice (P := P) (elT_spec hel) hsz hi hzv hmax ha w
          refine ⟨.slice (some ⟨w.heap.size, 0, none⟩) len len, w.alloc (.cells arr el), ⟨w.heap.size, 0, z.length, arr.size⟩, _, by simp only [execOp, Sem.run_bind, hrun, Result.andThen_ok, Sem.run_pure], rfl, rfl, ⟨rfl, rfl, rfl⟩, fun g => rfl, fun g hg => ⟨BlkOK.ofNew (t := el) hr hg rfl (by rw [hlay.1]; exact Nat.le_refl _) hlay.2.1 hlay.2.2, fun id => ?_⟩⟩
          have := V.ref (Im := Im) (w := w.alloc (.cells arr el)) (G := setG G g ⟨w.heap.size, 0, z.length, arr.size⟩) id g 0 len len _ (setG_same _ _ _) (by simp only [Nat.zero_add]; rw [← hlay.1, hel']) (Nat.le_refl _)
          simpa using this
  case load t a =>
    cases hl : loadX P H t (ev a) with
    | none => simp [hl] at h
    | some y =>
      simp only [hl, Option.map_some, Option.some.injEq] at h
      subst h
      obtain ⟨u, hu, hv⟩ := loadX_sound hr (hev a) hl
      exact ⟨u, by simp only [execOp, Sem.run_bind, hu, Result.andThen_ok, Sem.run_pure], hv⟩
  case store t a x =>
    cases hl : storeX P H t (ev a) (ev x) with
    | none => simp [hl] at h
    | some H' =>
      simp only [hl, Option.map_some, Option.some.injEq] at h
      subst h
      obtain ⟨w', hu, h1, h2⟩ := storeX_sound (c0 := c0) hr (hev a) (hev x) hl
      exact ⟨rfl, w', by simp only [execOp, Sem.run_bind, hu, Result.andThen_ok, Sem.run_pure], h1, h2⟩
  case nilCheck x =>
    have hx := hev x
    split at h
    · rename_i id g i j he
      cases h
      rw [he] at hx
      cases hq : ρ x <;> rw [hq] at hx <;> cases hx
      exact ⟨_, by simp [execOp, hq]; rfl, by constructor; assumption⟩
    · rename_i cs he
      cases h
      rw [he] at hx
      obtain ⟨ad, hq, _⟩ := hx.iptr_rd
      exact ⟨_, by simp [execOp, hq]; rfl, by rw [← hq]; exact hx⟩
    · rename_i f a b he
      cases h
      rw [he] at hx
      cases hq : ρ x <;> rw [hq] at hx <;> cases hx
      exact ⟨_, by simp [execOp, hq]; rfl, by constructor <;> assumption⟩
    · cases h
  case binOp bo t x y yt =>
    cases hl : binX P bo t (ev x) (ev y) with
    | none =>
      simp only [hl, Option.map_eq_some_iff] at h
      obtain ⟨z, hz, rfl⟩ := h
      obtain ⟨r, hu, hv⟩ := binX'_sound (P := P) (hev x) (hev y) hz
      exact ⟨r, by
        simp only [execOp, Sem.run_bind] at hu ⊢
        rw [hu]
        rfl, hv⟩
    | some z =>
      simp only [hl, Option.some.injEq] at h
      subst h
      obtain ⟨r, hu, hv⟩ := binX_sound (P := P) (hev x) (hev y) hl x y
      exact ⟨r, by
        simp only [execOp, Sem.run_bind] at hu ⊢
        rw [hu]
        rfl, hv⟩
  case unOp uo t x =>
    cases hl : unX uo (ev x) with
    | none => simp [hl] at h
    | some z =>
      simp only [hl, Option.map_some, Option.some.injEq] at h
      subst h
      obtain ⟨r, hu, hv⟩ := unX_sound (P := P) (hev x) hl
      exact ⟨r, by simp only [execOp, Sem.run_bind, hu, Result.andThen_ok, Sem.run_pure], hv⟩
  case convert s d x =>
    cases hl : cvtX P s d (ev x) with
    | none => exact absurd hl (hns s d x rfl)
    | some z =>
      simp only [hl, Option.some.injEq] at h
      subst h
      obtain ⟨r, hu, hv⟩ := cvtX_sound (P := P) hr (hev x) hl
      exact ⟨r, by simp only [execOp, Sem.run_bind, hu, Result.andThen_ok, Sem.run_pure], hv⟩
  case lookup t x k ok =>
    cases hl : lookX P H t (ev x) (ev k) ok with
    | none => simp [hl] at h
    | some z =>
      simp only [hl, Option.map_some, Option.some.injEq] at h
      subst h
      obtain ⟨r, hu, hv⟩ := lookX_sound (P := P) hr (hev x) (hev k) hl
      exact ⟨r, by simp only [execOp, Sem.run_bind, hu, Result.andThen_ok, Sem.run_pure], hv⟩
  case makeInterface t x =>
    split at h
    case isFalse => cases h
    rename_i hct
    cases h
    refine ⟨.iface t (ρ x), ?_, .ifc t _ _ (hev x)⟩
    unfold concreteT at hct
    cases hu : P.underlying t with
    | none => simp [hu] at hct
    | some d =>
      simp only [execOp, Instr.makeInterface, Sem.run_bind, run_underlying hu, Result.andThen_ok]
      cases d <;> simp_all
  case makeFunc fn a b =>
    cases h
    refine ⟨.func fn (a.map ρ) (b.map ρ), by simp [execOp, Instr.makeFunc], ?_⟩
    have e1 : ∀ l : Array Operand, Vs Im w G (l.toList.map ev) (l.map ρ).toList := fun l => by
      rw [Array.toList_map]
      exact Vs.map _ _ _ fun x _ => hev x
    have := V.clo (Im := Im) (w := w) (G := G) fn (a.toList.map ev) (b.toList.map ev) (a.map ρ).toList (b.map ρ).toList (e1 a).1 (e1 b).1 (e1 a).2 (e1 b).2
    rw [Array.toArray_toList, Array.toArray_toList] at this
    exact this
  case makeSlice t l cc =>
    cases hel : elT P t with
    | none => simp [hel] at h
    | some el =>
      cases hz : zeroT P el with
      | none => simp [hel, hz] at h
      | some z =>
        simp only [hel, hz, Option.bind_some] at h
        split at h
        case h_2 => cases h
        rename_i k n k' m bytes hl hc hby
        split at h
        case isFalse => cases h
        rename_i hcnd
        obtain ⟨hsz, hz0, hn0, hnm, hroom, hbpos⟩ := hcnd
        cases h
        have h1 := hev l
        rw [hl] at h1
        have h2 := hev cc
        rw [hc] at h2
        have e1 := h1.int_inv
        have e2 := h2.int_inv
        obtain ⟨i, zv, hi, hzv, hvs, hcell⟩ := zeroT_spec hz
        have hzs : zv.cells.size = z.length := by simpa using (hvs Im w G).1.symm
        have hib : i.bytes = bytes := by simp [byT, hi] at hby; exact hby
        have his : i.size = z.length := by simp [szT, hi] at hsz; exact hsz
        have hmb : m.toNat ≤ roomX := Nat.le_trans (Nat.le_mul_of_pos_right _ hbpos) hroom
        have hm : m ≤ 70368744177664 := by unfold roomX at hmb; omega
        have hwn : IntKind.i64.wrap n = n := wrap_i64 (by omega) (by omega)
        have hwm : IntKind.i64.wrap m = m := wrap_i64 (by omega) (by omega)
        have hlay := LayE.zeros (Im := Im) (w := w) (G := G) (hvs Im w G) hcell hz0 m.toNat
        have hbig : (i.bytes : Int) * m ≤ 70368744177664 := by
          have : ((m.toNat * bytes : Nat) : Int) ≤ 70368744177664 := by unfold roomX at hroom; omega
          rw [Int.natCast_mul, Int.toNat_of_nonneg (by omega)] at this
          rw [Int.mul_comm, hib]
          omega
        have hrun := run_makeSlice (P := P) (k := k) (k' := k') (elT_spec hel) hi hzv hn0 hnm hm hbig w
        rw [his] at hrun
        rw [← e1, ← e2] at hrun
        refine ⟨_, _, ⟨w.heap.size, 0, z.length, _⟩, _, (by simp only [execOp, Sem.run_bind, hrun, Result.andThen_ok, Sem.run_pure]; rfl), rfl, rfl, (by exact ⟨rfl, rfl, rfl⟩), fun g => rfl, fun g hg => ⟨BlkOK.ofNew hr hg rfl (by rw [hlay.1]; exact Nat.le_refl _) hlay.2.1 hlay.2.2, fun id => ?_⟩⟩
        have := V.ref (Im := Im) (w := w.alloc (.cells ((Array.range (m.toNat * z.length)).map (zv.cells[· % zv.cells.size]!)) el)) (G := setG G g ⟨w.heap.size, 0, z.length, ((Array.range (m.toNat * z.length)).map (zv.cells[· % zv.cells.size]!)).size⟩) id g 0 n.toNat m.toNat _ (setG_same _ _ _) (by simp) (by omega)
        simpa using this
  case slice t x lo hi mx =>
    cases mx with
    | some _ => simp at h
    | none =>
      simp only at h
      cases hl : sliceX P t (ev x) (lo.map ev) (hi.map ev) with
      | none => simp [hl] at h
      | some y =>
        simp only [hl, Option.map_some, Option.some.injEq] at h
        subst h
        have hopt : ∀ a : Option Operand, (a.map ev = none ∧ a.map ρ = none) ∨ ∃ p u, a.map ev = some p ∧ a.map ρ = some u ∧ V Im w G p u := fun a => by
          cases a with
          | none => exact .inl ⟨rfl, rfl⟩
          | some a => exact .inr ⟨_, _, rfl, rfl, hev a⟩
        obtain ⟨r, hu, hv⟩ := sliceX_sound (P := P) (hev x) (hopt lo) (hopt hi) hl
        exact ⟨r, by simp only [execOp, Option.map_none, Sem.run_bind, hu, Result.andThen_ok, Sem.run_pure], hv⟩
  case fieldAddr t x f =>
    cases hl : fldX P t f (ev x) with
    | none => simp [hl] at h
    | some y =>
      simp only [hl, Option.map_some, Option.some.injEq] at h
      subst h
      obtain ⟨r, hu, hv⟩ := fldX_sound (P := P) (hev x) hl
      exact ⟨r, by simp only [execOp, Sem.run_bind, hu, Result.andThen_ok, Sem.run_pure], hv⟩
  case field t x f =>
    cases hl : fieldX P t f (ev x) with
    | none => simp [hl] at h
    | some y =>
      simp only [hl, Option.map_some, Option.some.injEq] at h
      subst h
      obtain ⟨r, hu, hv⟩ := fieldX_sound (P := P) (hev x) hl
      exact ⟨r, by simp only [execOp, Sem.run_bind, hu, Result.andThen_ok, Sem.run_pure], hv⟩
  case indexAddr t x i =>
    cases hl : idxX P t (ev x) (ev i) with
    | none => simp [hl] at h
    | some y =>
      simp only [hl, Option.map_some, Option.some.injEq] at h
      subst h
      obtain ⟨r, hu, hv⟩ := idxX_sound (P := P) (hev x) (hev i) hl
      exact ⟨r, by simp only [execOp, Sem.run_bind, hu, Result.andThen_ok, Sem.run_pure], hv⟩
  case index t x i =>
    split at h
    case h_2 => cases h
    rename_i s k n hs hn
    split at h
    case isFalse => cases h
    rename_i hcnd
    cases hb : s[n.toNat]? with
    | none => simp [hb] at h
    | some b =>
      simp only [hb, Option.map_some, Option.some.injEq] at h
      subst h
      have h1 := hev x
      rw [hs] at h1
      have h2 := hev i
      rw [hn] at h2
      exact ⟨.int .u8 b.toNat, by simp [execOp, h1.str_inv, h2.int_inv, Instr.index, asIntOf, run_underlying (strT_spec hcnd.1), hcnd.2, hb], .int _ _⟩
  case extract x i =>
    split at h
    case h_2 => cases h
    rename_i cs hs
    cases hc : cs[i]? with
    | none => simp [hc] at h
    | some y =>
      simp only [hc, Option.map_some, Option.some.injEq] at h
      subst h
      have h1 := hev x
      rw [hs] at h1
      obtain ⟨vs, hq, hl, hv⟩ := h1.tup_inv
      have hlt : i < vs.length := by rw [← hl]; exact (List.getElem?_eq_some_iff.1 hc).1
      exact ⟨vs[i], by simp [execOp, hq, Instr.extract, hlt], hv i y _ hc (List.getElem?_eq_getElem hlt)⟩
  case call cl =>
    obtain ⟨callee, args, argTypes⟩ := cl
    simp only at h
    split at h
    case h_5 => cases h
    case h_1 =>
      split at h
      case h_2 => cases h
      rename_i t x ht hx
      cases hl : lenX P H t (ev x) with
      | none => simp [hl] at h
      | some y =>
        simp only [hl, Option.map_some, Option.some.injEq] at h
        subst h
        obtain ⟨r, hu, hv⟩ := lenX_sound (P := P) hr (hev x) hl argTypes (args.map ρ) ht (by simp [hx]) type
        exact ⟨r, by simp only [execOp, resolve, Sem.run_bind, Sem.run_pure, Result.andThen_ok, invoke, builtin, hu], hv⟩
    case h_2 =>
      split at h
      case h_2 => cases h
      rename_i t t' s x ht ht' hs hx
      split at h
      case isFalse => cases h
      rename_i htt
      cases hl : appX P H t (ev s) (ev x) with
      | none => simp [hl] at h
      | some f =>
        simp only [hl, Option.map_some, Option.some.injEq] at h
        subst h
        obtain ⟨d', hu', hd⟩ : ∃ d', P.underlying t' = some d' ∧ ((∃ e, d' = .slice e) ∨ d' = .string) := by
          rcases Bool.or_eq_true_iff.1 htt with h | h
          · obtain ⟨e, he⟩ := sliceT_spec h; exact ⟨_, he, .inl ⟨e, rfl⟩⟩
          · exact ⟨_, strT_spec h, .inr rfl⟩
        obtain ⟨v, w', G', hu, h1, h2, h3⟩ := appX_sound (P := P) hr hc0 (hev s) (hev x) hl (ts := argTypes) (as := args.map ρ) ht ht' (by simp [hs]) (by simp [hx]) hu' hd type
        exact ⟨v, w', G', by simp only [execOp, resolve, Sem.run_bind, Sem.run_pure, Result.andThen_ok, invoke, builtin, hu], h1, h2, h3⟩
    case h_3 =>
      split at h
      case h_2 => cases h
      rename_i k x k' y ha
      split at h
      case isFalse => cases h
      rename_i hk
      subst hk
      cases h
      obtain ⟨a, b, rfl, hae, hbe⟩ : ∃ a b, args = #[a, b] ∧ ev a = .int k x ∧ ev b = .int k y := by
        cases args with
        | mk l =>
          rcases l with _ | ⟨a, _ | ⟨b, _ | ⟨c', l⟩⟩⟩ <;> simp at ha
          exact ⟨a, b, rfl, ha.1, ha.2⟩
      have h1 := hev a
      rw [hae] at h1
      have h2 := hev b
      rw [hbe] at h2
      refine ⟨.int k (if y < x then y else x), ?_, .int _ _⟩
      simp [execOp, resolve, invoke, builtin, h1.int_inv, h2.int_inv, run_min_int2]
    case h_4 =>
      split at h
      case h_2 => cases h
      rename_i k x k' y ha
      split at h
      case isFalse => cases h
      rename_i hk
      subst hk
      cases h
      obtain ⟨a, b, rfl, hae, hbe⟩ : ∃ a b, args = #[a, b] ∧ ev a = .int k x ∧ ev b = .int k y := by
        cases args with
        | mk l =>
          rcases l with _ | ⟨a, _ | ⟨b, _ | ⟨c', l⟩⟩⟩ <;> simp at ha
          exact ⟨a, b, rfl, ha.1, ha.2⟩
      have h1 := hev a
      rw [hae] at h1
      have h2 := hev b
      rw [hbe] at h2
      refine ⟨.int k (if y > x then y else x), ?_, .int _ _⟩
      simp [execOp, resolve, invoke, builtin, h1.int_inv, h2.int_inv, run_max_int2]

theorem EffOK0.up {H : Heap} {c c0 : Nat} (hr : HR G Im w H c) {ρ : Operand → Value} {o : Oper} {e : Eff} (h : EffOK0 P Im w G H c c0 ρ o e) : EffOK P Im w G H c c0 ρ o e := by
  cases e with
  | val x => obtain ⟨v, h1, h2⟩ := h; exact ⟨v, w, h1, hr, Ext.refl _ _ _ _ _, h2⟩
  | upd x H' => exact h
  | gen f => exact h
  | new b mk => exact h

theorem opX_sound {H : Heap} {c c0 : Nat} (hr : HR G Im w H c) (hc0 : c0 ≤ c) {ev : Operand → AV} {ρ : Operand → Value} (hev : ∀ x, V Im w G (ev x) (ρ x)) {o : Oper} {e : Eff} (h : opX P o.op ev H = some e) :
    EffOK P Im w G H c c0 ρ o e := by
  by_cases hns : ∀ s d x, o.op = .convert s d x → cvtX P s d (ev x) ≠ none
  · exact (opX_sound0 hr hc0 hev h hns).up hr
  · obtain ⟨s, d, x, ho, hn⟩ : ∃ s d x, o.op = .convert s d x ∧ cvtX P s d (ev x) = none := by
      apply Classical.byContradiction
      intro hh
      exact hns fun s d x ho hn => hh ⟨s, d, x, ho, hn⟩
    obtain ⟨dst, op, type, pos, after, guard⟩ := o
    simp only at ho h
    subst ho
    simp only [opX, hn, Option.map_eq_some_iff] at h
    obtain ⟨z, hz, rfl⟩ := h
    obtain ⟨w', h1, h2, h3, rfl⟩ := cvtR_sound (P := P) (c0 := c0) hr (hev x) hz
    exact ⟨_, w', by simp only [execOp, Sem.run_bind, h1, Result.andThen_ok, Sem.run_pure], h2, h3, hr.mono h3 (hev x)⟩

end Go.AX
