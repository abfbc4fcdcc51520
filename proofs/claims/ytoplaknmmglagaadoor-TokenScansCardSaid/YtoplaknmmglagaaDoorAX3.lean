/-
AX, part 3: the operations that read or reckon do in the model what opX says.
-/
import Derived.Test.YtoplaknmmglagaaDoorAX2
set_option linter.unusedVariables false
set_option linter.unusedSimpArgs false
namespace Go.AX
variable {P : Program} {Im : Nat → Prop} {w : World} {G : Gens}

theorem Addr.add_none (b o n : Nat) : (⟨b, o, .none⟩ : Addr).add n = ⟨b, o + n, .none⟩ := by
  unfold Addr.add; split <;> simp_all
theorem Addr.eta_none {a : Addr} (h : a.spot = .none) : a = ⟨a.block, a.off, .none⟩ := by cases a; simp_all
theorem Addr.add_of {a : Addr} (h : a.spot = .none) (n : Nat) : a.add n = ⟨a.block, a.off + n, .none⟩ := by
  rw [Addr.eta_none h, Addr.add_none]

theorem run_underlying' {t : TypeId} {d : TypeDesc} (h : P.underlying t = some d) (w : World) : (underlying t).run P w = .ok d w := run_underlying h w
theorem run_sizeOf' {t : TypeId} {n : Nat} (h : szT P t = some n) (w : World) : (sizeOf t).run P w = .ok n w := by
  unfold szT at h
  cases hi : P.info? t with
  | none => simp [hi] at h
  | some i => simp [hi] at h; subst h; simp [sizeOf, typeInfo, hi]
theorem run_isAgg' {t : TypeId} {b : Bool} (h : aggT P t = some b) (w : World) : (isAgg t).run P w = .ok b w := by
  unfold aggT at h
  cases hd : P.underlying t with
  | none => simp [hd] at h
  | some d =>
    simp [hd] at h
    unfold isAgg
    rw [Sem.run_bind, run_underlying hd w]
    cases d <;> simp_all [isAggD]

theorem V_cellOf (v : Value) : V Im w G (cellOf v) v := by
  unfold cellOf
  split <;> constructor
theorem V_ofV (v : Value) : V Im w G (ofV v) v := by
  unfold ofV
  split
  · rename_i cs
    split
    · rename_i h
      have := V.agg (Im := Im) (w := w) (G := G) (cs.toList.map cellOf) cs.toList (by simp) (by rw [List.all_eq_true] at h; exact h) (fun j c u a b => by
        rw [List.getElem?_map] at a
        rw [b] at a
        simp at a
        subst a
        exact V_cellOf u)
      simpa using this
    · exact .dead _
  · rename_i vs
    split
    · rename_i h
      have hv : vs = [].toArray := by
        have : vs.toList = [] := by simpa using h
        exact Array.ext' (by simpa using this)
      rw [hv]
      exact .tup [] [] rfl (fun j c u a b => by simp at a)
    · exact .dead _
  · exact V_cellOf _

/-- Cells that can be read at a place. -/
def Rd (Im : Nat → Prop) (w : World) (G : Gens) (b o : Nat) (cs : List AV) : Prop :=
  ∀ (j : Nat) (c : AV), cs[j]? = some c → c.isCell = true ∧ ∃ u, w.cell? ⟨b, o + j, .none⟩ = some u ∧ V Im w G c u

theorem Rd.drop {b o : Nat} {cs : List AV} (h : Rd Im w G b o cs) (n : Nat) : Rd Im w G b (o + n) (cs.drop n) := fun j c hj => by
  rw [List.getElem?_drop] at hj
  have := h _ c hj
  rwa [← Nat.add_assoc] at this
theorem Rd.take {b o : Nat} {cs : List AV} (h : Rd Im w G b o cs) (n : Nat) : Rd Im w G b o (cs.take n) := fun j c hj => by
  rw [List.getElem?_take] at hj
  split at hj
  · exact h j c hj
  · cases hj

/-- The values of cells that can be read. -/
theorem Rd.values {b o : Nat} : ∀ {cs : List AV}, Rd Im w G b o cs → ∃ vs : List Value, Vs Im w G cs vs ∧ (∀ c ∈ cs, c.isCell = true) ∧ (∀ (j : Nat) (v : Value), vs[j]? = some v → w.cell? ⟨b, o + j, .none⟩ = some v)
  | [], _ => ⟨[], Vs.nil, by simp, by simp⟩
  | c :: cs, h => by
    have hcs : Rd Im w G b (o + 1) cs := fun j c hj => by
      have := h (j + 1) c (by simpa using hj)
      rwa [show o + 1 + j = o + (j + 1) by omega]
    obtain ⟨vs, hv, hc, hr⟩ := Rd.values hcs
    obtain ⟨hc0, u, hu, hvu⟩ := h 0 c rfl
    refine ⟨u :: vs, Vs.cons hvu hv, by simpa [hc0] using hc, fun j v hj => ?_⟩
    cases j with
    | zero => simp at hj; subst hj; exact hu
    | succ j =>
      have := hr j v (by simpa using hj)
      rwa [show o + 1 + j = o + (j + 1) by omega] at this

theorem run_loadCells_at (b o : Nat) (vs : List Value) (h : ∀ (j : Nat) (v : Value), vs[j]? = some v → w.cell? ⟨b, o + j, .none⟩ = some v) :
    (loadCells ⟨b, o, .none⟩ vs.length).run P w = .ok vs.toArray w :=
  run_loadCells_list (P := P) w ⟨b, o, .none⟩ vs fun j v hv => by rw [Addr.add_none]; exact h j v hv

theorem tk_sound {b o : Nat} {cs : List AV} {t : TypeId} {x : AV} (h : Rd Im w G b o cs) (ht : tk P t cs = some x) :
    ∃ v, (loadVar t ⟨b, o, .none⟩).run P w = .ok v w ∧ V Im w G x v := by
  unfold tk at ht
  cases ha : aggT P t with
  | none => simp [ha] at ht
  | some a =>
    cases a with
    | true =>
      cases hn : szT P t with
      | none => simp [ha, hn] at ht
      | some n =>
        simp only [ha, hn] at ht
        split at ht
        · rename_i hle
          simp at ht
          subst ht
          obtain ⟨vs, hvs, hc, hr⟩ := Rd.values (h.take n)
          have hlen : vs.length = n := by rw [← hvs.1, List.length_take]; omega
          refine ⟨.agg vs.toArray, ?_, .agg _ _ hvs.1 hc hvs.2⟩
          have := run_loadCells_at (P := P) (w := w) b o vs hr
          rw [hlen] at this
          simp [loadVar, run_isAgg' ha, run_sizeOf' hn, this]
        · cases ht
    | false =>
      simp only [ha] at ht
      obtain ⟨_, u, hu, hv⟩ := h 0 x (by cases cs <;> simp_all)
      exact ⟨u, by simp only [Nat.add_zero] at hu; simp [loadVar, run_isAgg' ha, hu], hv⟩

/-- The cells of an element of a block that is owned. -/
theorem HR.elem {H : Heap} {c : Nat} (hr : HR G Im w H c) {id g i : Nat} {e : List AV} (h : elemAt H id g i = some e) :
    ∃ l, G g = some l ∧ e.length = l.sz ∧ Rd Im w G l.r (l.base + i * l.sz) e := by
  unfold elemAt at h
  split at h
  · rename_i g' es hid
    split at h
    · rename_i hg
      subst hg
      obtain ⟨l, cs, t, hl, ⟨fz, hw, _⟩, hN, hb, hz, hc⟩ := hr.blk id _ hid
      refine ⟨l, hl, hz e (List.mem_of_getElem? h), fun j c hj => ?_⟩
      obtain ⟨h1, u, h2, h3⟩ := hc i j e c h hj
      exact ⟨h1, u, by simp [World.cell?, hw, h2], h3⟩
    · cases h
  · cases h

theorem V.iptr_rd {cs : List AV} {v : Value} (h : V Im w G (.iptr cs) v) : ∃ ad : Addr, v = .pointer (some ad) ∧ ad.spot = .none ∧ Im ad.block ∧ Rd Im w G ad.block ad.off cs := by
  cases h with
  | iptr _ ad us hs him hcell hv => exact ⟨ad, rfl, hs, him, fun j c hj => ⟨(hcell j c hj).1, _, (hcell j c hj).2, (hv j c hj).of_none⟩⟩

theorem loadX_sound {H : Heap} {c : Nat} (hr : HR G Im w H c) {t : TypeId} {x y : AV} {v : Value} (hx : V Im w G x v) (h : loadX P H t x = some y) :
    ∃ u, (Instr.loadAt t v).run P w = .ok u w ∧ V Im w G y u := by
  unfold loadX at h
  split at h
  · obtain ⟨ad, rfl, hs, him, hrd⟩ := hx.iptr_rd
    obtain ⟨u, hu, hv⟩ := tk_sound hrd h
    refine ⟨u, ?_, hv⟩
    rw [← Addr.eta_none hs] at hu
    simp [Instr.loadAt, Instr.sureAddr, hu]
  · rename_i id g i j
    split at h
    · rename_i e he
      obtain ⟨l, hl, hz, hrd⟩ := hr.elem he
      cases hx with
      | ptr _ _ _ _ l' hg =>
        rw [hl] at hg
        cases hg
        obtain ⟨u, hu, hv⟩ := tk_sound (hrd.drop j) h
        exact ⟨u, by simp [Instr.loadAt, Instr.sureAddr, hu], hv⟩
    · cases h
  · cases h

theorem elT_spec {t e : TypeId} (h : elT P t = some e) : P.underlying t = some (.slice e) := by
  unfold elT at h
  split at h
  · rename_i e' he; cases h; exact he
  · cases h
theorem arrT_spec {t e : TypeId} {n : Nat} (h : arrT P t = some (n, e)) : P.underlying t = some (.array n e) := by
  unfold arrT at h
  split at h
  · rename_i n' e' he; cases h; exact he
  · cases h
theorem fldT_spec {t ft : TypeId} {f off : Nat} (h : fldT P t f = some (off, ft)) : ∃ fs fl, P.underlying t = some (.struct fs) ∧ fs[f]? = some fl ∧ fl.offset = off ∧ fl.type = ft := by
  unfold fldT at h
  split at h
  · rename_i fs hfs
    cases hf : fs[f]? with
    | none => simp [hf] at h
    | some fl => simp [hf] at h; exact ⟨fs, fl, hfs, hf, h.1, h.2⟩
  · cases h
theorem intT_spec {t : TypeId} {k : IntKind} (h : intT P t = some k) : P.underlying t = some (.int k) := by
  unfold intT at h
  split at h
  · rename_i k' hk; cases h; exact hk
  · cases h
theorem boolT_spec {t : TypeId} (h : boolT P t = true) : P.underlying t = some .bool := by
  unfold boolT at h
  split at h
  · assumption
  · cases h
theorem sliceT_spec {t : TypeId} (h : sliceT P t = true) : ∃ e, P.underlying t = some (.slice e) := by
  unfold sliceT at h
  split at h
  · exact ⟨_, by assumption⟩
  · cases h
theorem strT_spec {t : TypeId} (h : strT P t = true) : P.underlying t = some .string := by
  unfold strT at h
  split at h
  · assumption
  · cases h
theorem mapT_spec {t : TypeId} (h : mapT P t = true) : ∃ k e, P.underlying t = some (.map k e) := by
  unfold mapT at h
  split at h
  · exact ⟨_, _, by assumption⟩
  · cases h

theorem V.int_inv {k : IntKind} {n : Int} {v : Value} (h : V Im w G (.int k n) v) : v = .int k n := by cases h; rfl
theorem V.bool_inv {b : Bool} {v : Value} (h : V Im w G (.bool b) v) : v = .bool b := by cases h; rfl
theorem V.str_inv {s : ByteArray} {v : Value} (h : V Im w G (.str s) v) : v = .string s := by cases h; rfl

theorem idxX_sound {t : TypeId} {x i y : AV} {v u : Value} (hx : V Im w G x v) (hi : V Im w G i u) (h : idxX P t x i = some y) :
    ∃ r, (Instr.indexAt t v u).run P w = .ok r w ∧ V Im w G y r := by
  unfold idxX at h
  split at h
  case h_2 => cases h
  rename_i k n
  obtain rfl := hi.int_inv
  split at h
  case h_5 => cases h
  case h_1 es =>
    split at h
    case h_2 => cases h
    rename_i sz hsz
    cases he : elT P t with
    | none => simp [he] at hsz
    | some el =>
    simp only [he, Option.bind_some] at hsz
    have hu := elT_spec he
    split at h
    case isFalse => cases h
    rename_i h0
    split at h
    case h_2 => cases h
    rename_i e hn
    split at h
    case isFalse => cases h
    rename_i hz'
    cases h
    have hlt : n.toNat < es.length := (List.getElem?_eq_some_iff.1 hn).1
    cases hx with
    | vec0 a cap => simp at hn
    | vec _ ad cap sz' us hc hs him hzz hcell hv =>
      have hzs : sz' = sz := by rw [← hz', hzz e (List.mem_of_getElem? hn)]
      subst hzs
      refine ⟨.pointer (some (ad.add (n.toNat * sz'))), ?_, ?_⟩
      · have : 0 ≤ n ∧ n < (es.length : Int) := ⟨h0, by omega⟩
        simp [Instr.indexAt, asIntOf, run_underlying hu, this, run_sizeOf' hsz]
      · rw [Addr.add_of hs]
        exact .iptr e ⟨ad.block, ad.off + n.toNat * sz', .none⟩ (fun j => us n.toNat j) rfl him (fun j c hj => hcell _ j e c hn hj) (fun j c hj => hv _ j e c hn hj)
  case h_2 id g sz off len =>
    split at h
    case isFalse => cases h
    rename_i hc
    obtain ⟨hsz, h0, hlt⟩ := hc
    cases h
    cases he : elT P t with
    | none => simp [he] at hsz
    | some el =>
    simp only [he, Option.bind_some] at hsz
    have hu := elT_spec he
    cases hx with
    | ref _ _ _ _ cap l hg hN hcap =>
      refine ⟨.pointer (some ⟨l.r, l.base + off * l.sz + n.toNat * l.sz, .none⟩), ?_, ?_⟩
      · simp [Instr.indexAt, asIntOf, run_underlying hu, h0, hlt, run_sizeOf' hsz, Addr.add_none]
      · have := V.ptr (Im := Im) (w := w) (G := G) id g (off + n.toNat) 0 l hg
        rw [Nat.add_mul, Nat.add_zero, ← Nat.add_assoc] at this
        exact this
  case h_3 id g a b =>
    split at h
    case h_2 => cases h
    rename_i len el ha
    split at h
    case h_2 => cases h
    rename_i sz hsz
    split at h
    case isFalse => cases h
    rename_i hc
    cases h
    cases hx with
    | ptr _ _ _ _ l hg =>
      refine ⟨.pointer (some ⟨l.r, l.base + a * l.sz + b + n.toNat * sz, .none⟩), ?_, ?_⟩
      · simp [Instr.indexAt, asIntOf, run_underlying (arrT_spec ha), Instr.sureAddr, hc, run_sizeOf' hsz, Addr.add_none]
      · have := V.ptr (Im := Im) (w := w) (G := G) id g a (b + n.toNat * sz) l hg
        rw [← Nat.add_assoc] at this
        exact this
  case h_4 cs =>
    split at h
    case h_2 => cases h
    rename_i len el ha
    split at h
    case h_2 => cases h
    rename_i sz hsz
    split at h
    case isFalse => cases h
    rename_i hc
    cases h
    cases hx with
    | iptr _ ad us hs him hcell hv =>
      refine ⟨.pointer (some (ad.add (n.toNat * sz))), ?_, ?_⟩
      · simp [Instr.indexAt, asIntOf, run_underlying (arrT_spec ha), Instr.sureAddr, hc, run_sizeOf' hsz]
      · rw [Addr.add_of hs]
        refine .iptr _ ⟨ad.block, ad.off + n.toNat * sz, .none⟩ (fun j => us (n.toNat * sz + j)) rfl him (fun j c hj => ?_) (fun j c hj => ?_)
        · rw [List.getElem?_drop] at hj
          have := hcell _ c hj
          rw [← Nat.add_assoc] at this
          exact this
        · rw [List.getElem?_drop] at hj
          exact hv _ c hj

theorem fldX_sound {t : TypeId} {f : Nat} {x y : AV} {v : Value} (hx : V Im w G x v) (h : fldX P t f x = some y) :
    ∃ r, (Instr.fieldAt t v f).run P w = .ok r w ∧ V Im w G y r := by
  unfold fldX at h
  split at h
  case h_2 => cases h
  rename_i off ft hf
  obtain ⟨fs, fl, hu, hfl, rfl, rfl⟩ := fldT_spec hf
  split at h
  case h_2 => cases h
  rename_i n hn
  split at h
  case isTrue => cases h
  rename_i hn0
  split at h
  case h_3 => cases h
  case h_1 cs =>
    cases h
    cases hx with
    | iptr _ ad us hs him hcell hv =>
      refine ⟨.pointer (some (ad.add fl.offset)), ?_, ?_⟩
      · simp [Instr.fieldAt, run_underlying hu, hfl, Instr.sureAddr, fieldPlace, run_sizeOf' hn, hn0]
      · rw [Addr.add_of hs]
        refine .iptr _ ⟨ad.block, ad.off + fl.offset, .none⟩ (fun j => us (fl.offset + j)) rfl him (fun j c hj => ?_) (fun j c hj => ?_)
        · rw [List.getElem?_drop] at hj
          have := hcell _ c hj
          rw [← Nat.add_assoc] at this
          exact this
        · rw [List.getElem?_drop] at hj
          exact hv _ c hj
  case h_2 id g i j =>
    cases h
    cases hx with
    | ptr _ _ _ _ l hg =>
      refine ⟨.pointer (some ⟨l.r, l.base + i * l.sz + j + fl.offset, .none⟩), ?_, ?_⟩
      · simp [Instr.fieldAt, run_underlying hu, hfl, Instr.sureAddr, fieldPlace, run_sizeOf' hn, hn0, Addr.add_none]
      · have := V.ptr (Im := Im) (w := w) (G := G) id g i (j + fl.offset) l hg
        rw [← Nat.add_assoc] at this
        exact this

theorem V.agg_inv {cs : List AV} {v : Value} (h : V Im w G (.agg cs) v) : ∃ vs : List Value, v = .agg vs.toArray ∧ cs.length = vs.length ∧ (∀ c ∈ cs, c.isCell = true) ∧ ∀ (j : Nat) (c : AV) (u : Value), cs[j]? = some c → vs[j]? = some u → V Im w G c u := by
  cases h with
  | agg _ vs hl hc hv => exact ⟨vs, rfl, hl, hc, hv⟩
theorem V.tup_inv {cs : List AV} {v : Value} (h : V Im w G (.tup cs) v) : ∃ vs : List Value, v = .tuple vs.toArray ∧ cs.length = vs.length ∧ ∀ (j : Nat) (c : AV) (u : Value), cs[j]? = some c → vs[j]? = some u → V Im w G c u := by
  cases h with
  | tup _ vs hl hv => exact ⟨vs, rfl, hl, hv⟩

theorem fieldX_sound {t : TypeId} {f : Nat} {x y : AV} {v : Value} (hx : V Im w G x v) (h : fieldX P t f x = some y) :
    ∃ r, (Instr.field t v f).run P w = .ok r w ∧ V Im w G y r := by
  unfold fieldX at h
  split at h
  case h_2 => cases h
  rename_i off ft cs hf
  obtain ⟨fs, fl, hu, hfl, rfl, rfl⟩ := fldT_spec hf
  obtain ⟨vs, rfl, hl, hc, hv⟩ := hx.agg_inv
  unfold tk at h
  cases ha : aggT P fl.type with
  | none => simp [ha] at h
  | some a =>
    cases a with
    | true =>
      cases hn : szT P fl.type with
      | none => simp [ha, hn] at h
      | some n =>
        simp only [ha, hn] at h
        split at h
        · rename_i hle
          simp at h
          subst h
          refine ⟨.agg ((vs.drop fl.offset).take n).toArray, ?_, .agg _ _ (by simp [hl]) (fun c hc' => hc c (List.mem_of_mem_drop (List.mem_of_mem_take hc'))) (fun j c u a b => ?_)⟩
          · simp [Instr.field, run_underlying hu, hfl, asAgg, part, run_isAgg' ha, run_sizeOf' hn]
          · rw [List.getElem?_take, List.getElem?_drop] at a b
            split at a
            · rw [if_pos ‹_›] at b; exact hv _ c u a b
            · cases a
        · cases h
    | false =>
      simp only [ha] at h
      have h' : cs[fl.offset]? = some y := by rw [List.head?_drop] at h; exact h
      have hlt : fl.offset < vs.length := by rw [← hl]; exact (List.getElem?_eq_some_iff.1 h').1
      have hu' : vs[fl.offset]? = some vs[fl.offset] := List.getElem?_eq_getElem hlt
      exact ⟨vs[fl.offset], by simp [Instr.field, run_underlying hu, hfl, asAgg, part, run_isAgg' ha, hlt], hv _ y _ h' hu'⟩

end Go.AX
