/-
AX, part 7b: bytes and strings; == on structs and interfaces; maps: what is looked up.
-/
import Derived.Test.YtoplaknmmglagaaDoorAX7
import Derived.Laws.BytesString
import Derived.Laws.StructEq
set_option linter.unusedVariables false
set_option linter.unusedSimpArgs false
namespace Go.AX
variable {P : Program} {Im : Nat → Prop} {w : World} {G : Gens}

theorem bytT_spec {t : TypeId} (h : bytT P t = true) : ∃ e, P.underlying t = some (.slice e) ∧ P.underlying e = some (.int .u8) ∧ szT P e = some 1 := by
  unfold bytT at h
  split at h
  · rename_i e he
    split at h
    · rename_i he'; exact ⟨e, he, he', by simpa using h⟩
    · cases h
  · cases h

theorem bytesX_spec : ∀ {es : List (List AV)} {l : List UInt8}, bytesX es = some l → szOK 1 es = true ∧ l.length = es.length ∧ ∀ {vs : List Value}, Vs Im w G es.flatten vs → ∃ ns : List Int, vs = ns.map (Value.int .u8) ∧ l = ns.map fun n => UInt8.ofNat n.toNat := by
  intro es
  induction es with
  | nil => intro l h; simp only [bytesX, Option.some.injEq] at h; subst h; exact ⟨rfl, rfl, fun {vs} hv => ⟨[], by have := hv.1; simpa using this.symm, rfl⟩⟩
  | cons e es ih =>
    intro l h
    unfold bytesX at h
    split at h
    · rename_i h0; cases h0
    · rename_i n es' heq
      cases heq
      simp only [Option.map_eq_some_iff] at h
      obtain ⟨l', hl', rfl⟩ := h
      obtain ⟨h1, h2, h3⟩ := ih hl'
      refine ⟨by simpa [szOK] using h1, by simp [h2], fun {vs} hv => ?_⟩
      cases vs with
      | nil => have := hv.1; simp at this
      | cons v vs =>
        have hv0 := hv.2 0 _ v rfl rfl
        obtain ⟨ns, hn1, hn2⟩ := h3 (vs := vs) ⟨by have := hv.1; simpa using this, fun j c u hj hu => hv.2 (j + 1) c u (by simpa using hj) (by simpa using hu)⟩
        refine ⟨n :: ns, ?_, by simp [hn2]⟩
        rw [hn1]
        cases hv0
        rfl
    · cases h

theorem foldl_bytes (ns : List Int) : ∀ s : ByteArray, ns.foldl (fun r n => r.push (UInt8.ofNat n.toNat)) s = ⟨(s.data.toList ++ ns.map fun n => UInt8.ofNat n.toNat).toArray⟩ := by
  induction ns with
  | nil => intro s; simp
  | cons n ns ih => intro s; simp only [List.foldl_cons, ih]; congr 1; simp [ByteArray.push]

theorem cvt_bytes {s d : TypeId} (hs : bytT P s = true) (hd : strT P d = true) {a : Option Addr} {n cap : Nat} {es : List (List AV)} {l : List UInt8} (hl : bytesX es = some l) {vs : List Value} (hv : Vs Im w G es.flatten vs) (hn : n = es.length)
    (hf : (Builtin.firstCells 1 es.length (.slice a n cap)).run P w = .ok vs.toArray w) : (convert s d (.slice a n cap)).run P w = .ok (.string ⟨l.toArray⟩) w := by
  obtain ⟨e, h1, h2, _⟩ := bytT_spec hs
  obtain ⟨hz, hll, hb⟩ := bytesX_spec (Im := Im) (w := w) (G := G) hl
  obtain ⟨ns, rfl, rfl⟩ := hb hv
  rw [run_convert_bytes_string w s d e a n cap h1 h2 (strT_spec hd)]
  cases a with
  | none =>
    simp only [Builtin.firstCells, Sem.run_pure, Result.ok.injEq, and_true] at hf
    have : ns = [] := by
      cases ns with
      | nil => rfl
      | cons x xs => simp at hf
    subst this
    rfl
  | some ad =>
    simp only [Builtin.firstCells, Nat.mul_one] at hf
    subst hn
    rw [run_bytesToString w ad es.length cap ns hf, foldl_bytes]
    rfl

theorem cvtX_sound {H : Heap} {c : Nat} (hr : HR G Im w H c) {s d : TypeId} {a z : AV} {u : Value} (ha : V Im w G a u) (h : cvtX P s d a = some z) : ∃ r, (convert s d u).run P w = .ok r w ∧ V Im w G z r := by
  unfold cvtX at h
  split at h
  case h_1 k n =>
    obtain rfl := ha.int_inv
    split at h
    case h_2 => cases h
    rename_i k' hk
    split at h
    case isFalse => cases h
    rename_i hs
    cases h
    obtain ⟨sd, hsd⟩ := Option.isSome_iff_exists.1 hs
    refine ⟨_, ?_, .int _ _⟩
    simp only [convert, Sem.run_bind, run_underlying hsd, run_underlying (intT_spec hk), Result.andThen_ok]
    cases sd <;> simp [Conv.intToInt]
  case h_2 es =>
    split at h
    case isFalse => cases h
    rename_i hsd
    simp only [Option.map_eq_some_iff] at h
    obtain ⟨l, hl, rfl⟩ := h
    obtain ⟨hz, _, _⟩ := bytesX_spec (Im := Im) (w := w) (G := G) hl
    obtain ⟨vs, h1, h2, h3, h4, h5⟩ := elemsX_sound (P := P) (x := .vec es) hr ha rfl hz
    refine ⟨_, ?_, .str _⟩
    cases ha with
    | vec0 a cap => exact cvt_bytes hsd.1 hsd.2 hl h3 rfl (h5 w rfl)
    | vec _ ad cap sz us hc hs him hz hcell hv => exact cvt_bytes hsd.1 hsd.2 hl h3 rfl (h5 w rfl)
  case h_3 =>
    split at h
    case isFalse => cases h
    rename_i hsd
    cases h
    cases ha
    exact ⟨_, cvt_bytes (Im := Im) (G := G) (es := []) (vs := []) hsd.1 hsd.2 rfl Vs.nil rfl rfl, .str _⟩
  case h_4 b =>
    split at h
    case isFalse => cases h
    rename_i hsd
    cases h
    cases ha
    refine ⟨.string b, ?_, .str _⟩
    simp [convert, run_underlying (strT_spec hsd.1), run_underlying (strT_spec hsd.2)]
  case h_5 => cases h

/-- []byte(s) of a slice of bytes: the row's end is marked. -/
theorem cvtR_sound {H : Heap} {c c0 : Nat} (hr : HR G Im w H c) {s d : TypeId} {a z : AV} {u : Value} (ha : V Im w G a u) (h : cvtR P H s d a = some z) : ∃ w', (convert s d u).run P w = .ok u w' ∧ HR G Im w' H c ∧ Ext c0 G Im w H G Im w' H ∧ z = a := by
  unfold cvtR at h
  split at h
  case h_2 => cases h
  rename_i id g sz off len
  split at h
  case isFalse => cases h
  rename_i hcnd
  obtain ⟨rfl, hb, hrow⟩ := hcnd
  cases h
  obtain ⟨es, hrow⟩ := Option.isSome_iff_exists.1 hrow
  obtain ⟨e, h1, h2, _⟩ := bytT_spec hb
  have hid := rowAt_spec hrow
  obtain ⟨l, cs, t, hl, ⟨fz, hw, hfz⟩, hN, hb', hz, hc⟩ := hr.blk id _ hid
  cases ha with
  | ref _ _ _ _ cap l' hl' hN' hcap =>
    rw [hl] at hl'
    cases hl'
    have hlt : l.r < w.heap.size := (Array.getElem?_eq_some_iff.1 hw).1
    have hsh : ∀ q o, w.shape? q = o → (shape q).run P w = .ok o w := fun q o hq => by subst hq; rfl
    have hshape : w.shape? l.r = some (t, cs.size) := by simp [World.shape?, hw]
    refine ⟨w.freeze ⟨l.r, cs.size, none⟩ 1, ?_, ?_⟩
    · simp only [convert, Sem.run_bind, run_underlying h1, run_underlying h2, Result.andThen_ok, BEq.rfl, markStringish]
      show Result.andThen (Result.andThen (Result.ok (w.shape? l.r) w) _) _ = _
      rw [hshape]
      rfl
    · have hother : ∀ r, r ≠ l.r → (w.freeze ⟨l.r, cs.size, none⟩ 1).heap[r]? = w.heap[r]? := fun r hne => by
        simp only [World.freeze, if_neg (show ¬ (1 : Nat) = 0 by decide)]
        rw [Array.getElem?_modify, if_neg (fun e => hne e.symm)]
      have hsize : (w.freeze ⟨l.r, cs.size, none⟩ 1).heap.size = w.heap.size := by simp [World.freeze]
      have hthis : (w.freeze ⟨l.r, cs.size, none⟩ 1).heap[l.r]? = some (.cells cs t (if fz.1 == fz.2 then (cs.size, cs.size + 1) else (min fz.1 cs.size, max fz.2 (cs.size + 1)))) := by
        simp only [World.freeze, if_neg (show ¬ (1 : Nat) = 0 by decide)]
        rw [Array.getElem?_modify, if_pos rfl, hw]
        rfl
      have hfz' : FzOK (if fz.1 == fz.2 then (cs.size, cs.size + 1) else (min fz.1 cs.size, max fz.2 (cs.size + 1))) cs.size := by
        by_cases hf : fz.1 = fz.2
        · simp [hf, FzOK]
        · rcases hfz with h' | h'
          · exact absurd h' hf
          · simp [hf, FzOK]; omega
      have hir : ∀ r, Im r → (w.freeze ⟨l.r, cs.size, none⟩ 1).heap[r]? = w.heap[r]? := fun r hi => hother r fun e => hr.notIm r ⟨id, _, l, hid, hl, e.symm⟩ hi
      obtain ⟨q1, q2⟩ := hr.upd (H' := H) (c' := c) (c0 := c0) (id := id) (b := .cells g es) (l := l) hid hl (Nat.le_refl _) (fun _ _ h => h) (fun _ _ h => .inl h) hl rfl
        (fun i b' hi => by
          by_cases e : i = id
          · subst e; rw [hid] at hi; cases hi; exact .inl ⟨rfl, rfl⟩
          · exact .inr ⟨e, hi⟩) hsize hother
        ⟨l, cs, t, hl, ⟨_, hthis, hfz'⟩, hN, hb', hz, fun i j e c hi hj => by
          obtain ⟨p1, u, p2, p3⟩ := hc i j e c hi hj
          exact ⟨p1, u, p2, p3.mono (fun _ _ h => h) (fun _ h => h) hir⟩⟩ ⟨by simp [World.freeze], by simp [World.freeze], by simp [World.freeze]⟩
      exact ⟨q1, q2, rfl⟩

/-! ### == -/

theorem kdT_agg {t : TypeId} (h : kdT P t ≠ 0) : aggT P t = some false := by
  unfold kdT at h
  unfold aggT
  split at h
  · rename_i k hk; rw [hk]; rfl
  · rename_i hk; rw [hk]; rfl
  · rename_i hk; rw [hk]; rfl
  · exact absurd rfl h

theorem eqK_sound {t : TypeId} {kd : Nat} (hk : kd = kdT P t) {x y : AV} {u v : Value} (hx : V Im w G x u) (hy : V Im w G y v) {r : Bool} (h : eqK kd x y = some r) (d : Nat) : (Op.equalIn (d + 1) t u v).run P w = .ok r w := by
  unfold eqK at h
  unfold kdT at hk
  split at h
  · split at h
    case isFalse => cases h
    rename_i hkk
    subst hkk
    cases h
    cases hx; cases hy
    split at hk <;> first | (rename_i k' hk'; exact run_equalIn_int w d t _ k' _ _ hk') | cases hk
  · cases h
    cases hx; cases hy
    split at hk <;> first | (rename_i hk'; exact run_equalIn_bool' w d t _ _ hk') | cases hk
  · cases h
    cases hx; cases hy
    split at hk <;> first | (rename_i hk'; exact run_equalIn_string w d t _ _ hk') | cases hk
  · cases h

theorem eqFields_sound {d : Nat} : ∀ (fs : List Field) (k : Nat), (∀ i f, fs[i]? = some f → f.name ≠ "_" ∧ f.offset = k + i ∧ kdT P f.type ≠ 0) → ∀ (as bs : List AV) (xs ys : Array Value),
    as.length + k ≤ xs.size → bs.length + k ≤ ys.size → (∀ i c u, as[i]? = some c → xs[k + i]? = some u → V Im w G c u) → (∀ i c u, bs[i]? = some c → ys[k + i]? = some u → V Im w G c u) →
    ∀ r, eqKs (fs.map fun f => kdT P f.type) as bs = some r → (Op.eqFields (d + 1) xs ys fs).run P w = .ok r w
  | [], k, _, as, bs, xs, ys, _, _, _, _, r, h => by simp only [List.map_nil, eqKs, Option.some.injEq] at h; subst h; rfl
  | f :: fs, k, hf, as, bs, xs, ys, hxl, hyl, hx, hy, r, h => by
    cases as with
    | nil => simp [eqKs] at h
    | cons a as =>
      cases bs with
      | nil => simp [eqKs] at h
      | cons b bs =>
        simp only [List.map_cons, eqKs] at h
        split at h
        case h_2 => cases h
        rename_i r1 r2 h1 h2
        cases h
        obtain ⟨hn, ho, hkd⟩ := hf 0 f rfl
        simp only [List.length_cons] at hxl hyl
        have hox : xs[k]? = some xs[k] := Array.getElem?_eq_getElem (by omega)
        have hoy : ys[k]? = some ys[k] := Array.getElem?_eq_getElem (by omega)
        have px : (part f.type xs f.offset).run P w = .ok xs[k] w := by simp [part, run_isAgg' (kdT_agg hkd), ho, hox]
        have py : (part f.type ys f.offset).run P w = .ok ys[k] w := by simp [part, run_isAgg' (kdT_agg hkd), ho, hoy]
        have he := eqK_sound rfl (hx 0 a _ rfl hox) (hy 0 b _ rfl hoy) h1 d
        have ih := eqFields_sound (d := d) fs (k + 1) (fun i g hg => by
          obtain ⟨q1, q2, q3⟩ := hf (i + 1) g (by simpa using hg)
          exact ⟨q1, by omega, q3⟩) as bs xs ys (by omega) (by omega) (fun i c u hc hu => hx (i + 1) c u (by simpa using hc) (by rw [show k + (i + 1) = k + 1 + i by omega]; exact hu))
          (fun i c u hc hu => hy (i + 1) c u (by simpa using hc) (by rw [show k + (i + 1) = k + 1 + i by omega]; exact hu)) r2 h2
        simp only [Op.eqFields, if_pos hn, Sem.run_bind, px, py, he, Result.andThen_ok]
        cases r1 with
        | false => simp
        | true => simpa using ih

theorem run_eq_iface {t : TypeId} {ms : Array (String × TypeId)} (hu : P.underlying t = some (.interface ms)) {u v : Value} {r : Bool} (h : (u = .nilIface ∧ v = .nilIface ∧ r = true) ∨ (u = .nilIface ∧ (∃ a b, v = .iface a b) ∧ r = false) ∨ ((∃ a b, u = .iface a b) ∧ v = .nilIface ∧ r = false)) :
    (Op.equalIn (9999 + 1) t u v).run P w = .ok r w := by
  rw [Op.equalIn]
  simp only [Sem.run_bind, run_underlying hu, Result.andThen_ok]
  rcases h with ⟨rfl, rfl, rfl⟩ | ⟨rfl, ⟨a, b, rfl⟩, rfl⟩ | ⟨⟨a, b, rfl⟩, rfl, rfl⟩ <;> rfl

theorem run_eq_ops {t : TypeId} {u v : Value} {r : Bool} (h : (Op.equalIn (9999 + 1) t u v).run P w = .ok r w) (h1 : binOp .eql t u v = (do pure (.bool (← Op.equal t u v)))) (h2 : binOp .neq t u v = (do pure (.bool (!(← Op.equal t u v))))) :
    (binOp .eql t u v).run P w = .ok (.bool r) w ∧ (binOp .neq t u v).run P w = .ok (.bool (!r)) w := by
  have h' : (Op.equal t u v).run P w = .ok r w := h
  rw [h1, h2]
  simp only [Sem.run_bind, h', Result.andThen_ok, Sem.run_pure, and_self]

theorem eqX_sound {t : TypeId} {x y : Operand} {a b : AV} {u v : Value} {r : Bool} (ha : V Im w G a u) (hb : V Im w G b v) (h : eqX P t x y a b = some r) :
    (∀ op, (eqGuard op t x y u v).run P w = .ok () w) ∧ (binOp .eql t u v).run P w = .ok (.bool r) w ∧ (binOp .neq t u v).run P w = .ok (.bool (!r)) w := by
  unfold eqX at h
  split at h
  · rename_i xs ys
    split at h
    case h_2 => cases h
    rename_i ks hks
    unfold flatT at hks
    split at hks
    case h_2 => cases hks
    rename_i fs hfs
    split at hks
    case isFalse => cases hks
    rename_i hcnd
    simp only [Bool.and_eq_true, List.all_eq_true, Bool.not_eq_true', bne_iff_ne, ne_eq, beq_iff_eq] at hcnd
    obtain ⟨⟨hall, hst⟩, hgd⟩ := hcnd
    cases hks
    have hff : P.fieldsOf t = fs := by simp [Program.fieldsOf, hfs]
    have hu : P.underlying t = some (.struct (P.fieldsOf t)) := by rw [hff]; exact hfs
    cases ha with
    | agg _ va hla _ hva =>
      cases hb with
      | agg _ vb hlb _ hvb =>
        have key : (Op.equalIn 10000 t (.agg va.toArray) (.agg vb.toArray)).run P w = .ok r w := by
          rw [run_equalIn_struct w 9999 t _ _ hu hst, hff]
          refine eqFields_sound (d := 9998) (Im := Im) (G := G) fs.toList 0 (fun i f hf => ?_) xs ys _ _ (by simp [hla]) (by simp [hlb]) (fun i c u hc hu => hva i c u hc (by simpa using hu)) (fun i c u hc hu => hvb i c u hc (by simpa using hu)) r h
          have hm : (f, i) ∈ fs.toList.zipIdx := List.mem_zipIdx_iff_getElem?.2 hf
          obtain ⟨⟨q1, q2⟩, q3⟩ := hall _ hm
          exact ⟨q1, by simpa using q2, q3⟩
        refine ⟨fun op => run_eqGuard_agg w op t x y _ _ hgd, ?_, ?_⟩
        · rw [run_eql_struct, key]; rfl
        · rw [run_neq_struct, key]; rfl
  · split at h
    case isFalse => cases h
    rename_i hi
    cases h
    cases ha; cases hb
    obtain ⟨ms, hu⟩ : ∃ ms, P.underlying t = some (.interface ms) := by
      unfold ifcT at hi; split at hi
      · rename_i ms hms; exact ⟨ms, hms⟩
      · cases hi
    exact ⟨fun op => by cases op <;> rfl, run_eq_ops (run_eq_iface hu (.inr (.inr ⟨⟨_, _, rfl⟩, rfl, rfl⟩))) rfl rfl⟩
  · split at h
    case isFalse => cases h
    rename_i hi
    cases h
    cases ha; cases hb
    obtain ⟨ms, hu⟩ : ∃ ms, P.underlying t = some (.interface ms) := by
      unfold ifcT at hi; split at hi
      · rename_i ms hms; exact ⟨ms, hms⟩
      · cases hi
    exact ⟨fun op => by cases op <;> rfl, run_eq_ops (run_eq_iface hu (.inr (.inl ⟨rfl, ⟨_, _, rfl⟩, rfl⟩))) rfl rfl⟩
  · split at h
    case isFalse => cases h
    rename_i hi
    split at h
    case h_2 => cases h
    cases h
    cases ha; cases hb
    obtain ⟨ms, hu⟩ : ∃ ms, P.underlying t = some (.interface ms) := by
      unfold ifcT at hi; split at hi
      · rename_i ms hms; exact ⟨ms, hms⟩
      · cases hi
    exact ⟨fun op => by cases op <;> cases x <;> rfl, run_eq_ops (run_eq_iface hu (.inl ⟨rfl, rfl, rfl⟩)) rfl rfl⟩
  · cases h

theorem binX'_sound {op : BinOp} {t : TypeId} {x y : Operand} {a b z : AV} {u v : Value} (ha : V Im w G a u) (hb : V Im w G b v) (h : binX' P op t x y a b = some z) :
    ∃ r, (do eqGuard op t x y u v; binOp op t u v : Sem Value).run P w = .ok r w ∧ V Im w G z r := by
  unfold binX' at h
  split at h
  · simp only [Option.map_eq_some_iff] at h
    obtain ⟨r, hr, rfl⟩ := h
    obtain ⟨h1, h2, h3⟩ := eqX_sound ha hb hr
    exact ⟨_, by simp only [Sem.run_bind, h1, Result.andThen_ok]; exact h2, .bool _⟩
  · simp only [Option.map_eq_some_iff] at h
    obtain ⟨r, hr, rfl⟩ := h
    obtain ⟨h1, h2, h3⟩ := eqX_sound ha hb hr
    exact ⟨_, by simp only [Sem.run_bind, h1, Result.andThen_ok]; exact h3, .bool _⟩
  · cases h

/-! ### Maps -/

theorem sameNow_sound {t : TypeId} {td : TypeDesc} (htd : P.underlying t = some td) {x y : AV} {u v : Value} {Im' : Nat → Prop} {G' : Gens} (hx : V Im w G x u) (hy : V Im' w G' y v) {r : Bool} (h : eqK (kdT P t) x y = some r) : Instr.sameNow td u v = some r := by
  unfold eqK at h
  unfold kdT at h
  rw [htd] at h
  split at h
  · rename_i hk
    split at h
    case isFalse => cases h
    rename_i hkk
    subst hkk
    cases h
    cases hx; cases hy
    cases td <;> simp at hk
    simp [Instr.sameNow]
  · rename_i hk
    cases h
    cases hx; cases hy
    cases td <;> simp at hk
    simp [Instr.sameNow]
  · rename_i hk
    cases h
    cases hx; cases hy
    cases td <;> simp at hk
    simp [Instr.sameNow, beq_toListBytes]
  · cases h

theorem findM_sound {t : TypeId} {td : TypeDesc} (htd : P.underlying t = some td) {k : AV} {u : Value} (hk : V Im w G k u) : ∀ (ms : List (AV × AV)) (es : List MapEntry) (i : Nat), ms.length = es.length →
    (∀ (j : Nat) (m : AV × AV) (e : MapEntry), ms[j]? = some m → es[j]? = some e → V Im w Gens.none m.1 e.key ∧ V Im w G m.2 e.val) → ∀ o, findM (kdT P t) ms k i = some o →
    ∃ q, Instr.findNow td u es i = some q ∧ ((o = none ∧ q = none) ∨ ∃ j x v, o = some (i + j, x) ∧ q = some (i + j, v) ∧ j < ms.length ∧ V Im w G x v)
  | [], es, i, hl, _, o, h => by
    simp only [findM, Option.some.injEq] at h
    subst h
    cases es with
    | nil => exact ⟨none, rfl, .inl ⟨rfl, rfl⟩⟩
    | cons _ _ => simp at hl
  | (x, v) :: ms, es, i, hl, hm, o, h => by
    cases es with
    | nil => simp at hl
    | cons e es =>
      obtain ⟨h1, h2⟩ := hm 0 (x, v) e rfl rfl
      simp only [findM] at h
      cases he : eqK (kdT P t) k x with
      | none => simp [he] at h
      | some b =>
        have hs := sameNow_sound htd hk h1 he
        cases b with
        | true =>
          simp only [he, Option.some.injEq] at h
          subst h
          exact ⟨some (i, e.val), by simp [Instr.findNow, hs], .inr ⟨0, v, e.val, rfl, rfl, by simp, h2⟩⟩
        | false =>
          simp only [he] at h
          obtain ⟨q, hq, hc⟩ := findM_sound htd hk ms es (i + 1) (by simpa using hl) (fun j m e' hj he' => hm (j + 1) m e' (by simpa using hj) (by simpa using he')) o h
          refine ⟨q, by simp [Instr.findNow, hs, hq], ?_⟩
          rcases hc with h | ⟨j, x', v', rfl, rfl, hj, hv⟩
          · exact .inl h
          · exact .inr ⟨j + 1, x', v', by congr 2; omega, by congr 2; omega, by simpa using hj, hv⟩

theorem keyT_spec {t : TypeId} {kd : Nat} {el : TypeId} (h : keyT P t = some (kd, el)) : ∃ k td, P.underlying t = some (.map k el) ∧ P.underlying k = some td ∧ kd = kdT P k ∧ kdT P k ≠ 0 := by
  unfold keyT at h
  split at h
  · rename_i k e hk
    split at h
    · cases h
    · rename_i hne
      cases h
      refine ⟨k, ?_⟩
      cases hu : P.underlying k with
      | none => simp [kdT, hu] at hne
      | some td => exact ⟨td, hk, rfl, rfl, hne⟩
  · cases h

theorem run_checkKey {k : TypeId} (h : kdT P k ≠ 0) (b : Bool) (v : Value) : (Instr.checkKey b 10000 k v).run P w = .ok () w := by
  unfold kdT at h
  unfold Instr.checkKey
  split at h
  · rename_i q hq; simp only [Sem.run_bind, run_underlying hq, Result.andThen_ok]; rfl
  · rename_i hq; simp only [Sem.run_bind, run_underlying hq, Result.andThen_ok]; rfl
  · rename_i hq; simp only [Sem.run_bind, run_underlying hq, Result.andThen_ok]; rfl
  · exact absurd rfl h

theorem zeroX_spec {t : TypeId} {z : AV} (h : zeroX P t = some z) : ∃ v, (zeroValue t).run P w = .ok v w ∧ V Im w G z v := by
  unfold zeroX at h
  cases hi : P.info? t with
  | none => simp [hi] at h
  | some i =>
    cases hz : i.zero with
    | none => simp [hi, hz] at h
    | some v =>
      simp only [hi, hz, Option.bind_some, Option.map_some, Option.some.injEq] at h
      subst h
      exact ⟨v, run_zeroValue' hi hz w, V_ofV v⟩

theorem lookX_sound {H : Heap} {c : Nat} (hr : HR G Im w H c) {t : TypeId} {m k z : AV} {mv kv : Value} {ok : Bool} (hm : V Im w G m mv) (hk : V Im w G k kv) (h : lookX P H t m k ok = some z) : ∃ r, (Instr.lookup t mv kv ok).run P w = .ok r w ∧ V Im w G z r := by
  unfold lookX at h
  split at h
  case h_2 => cases h
  rename_i kd el hkt
  obtain ⟨kt, td, hu, htd, rfl, hkd⟩ := keyT_spec hkt
  split at h
  case h_2 => cases h
  rename_i zv hz
  obtain ⟨zr, hzr, hzv⟩ := zeroX_spec (Im := Im) (w := w) (G := G) hz
  have tup : ∀ {x : AV} {v : Value} {b : Bool}, V Im w G x v → V Im w G (.tup [x, .bool b]) (.tuple #[v, .bool b]) := fun {x v b} hx => by
    have := V.tup (Im := Im) (w := w) (G := G) [x, .bool b] [v, .bool b] rfl (fun j c u hc hu => by
      match j with
      | 0 => simp at hc hu; subst hc; subst hu; exact hx
      | 1 => simp at hc hu; subst hc; subst hu; exact .bool b
      | j + 2 => simp at hc)
    exact this
  cases m with
  | nilm =>
    simp only [Option.some.injEq] at h
    cases hm
    subst h
    have : (Instr.findNow td kv [] 0) = some none := rfl
    cases ok
    · exact ⟨zr, by simp [Instr.lookup, run_underlying hu, run_checkKey hkd, Instr.findKey, run_underlying htd, this, hzr], hzv⟩
    · exact ⟨.tuple #[zr, .bool false], by simp [Instr.lookup, run_underlying hu, run_checkKey hkd, Instr.findKey, run_underlying htd, this, hzr], tup hzv⟩
  | mref id g =>
    cases hid : H[id]? with
    | none => simp [hid] at h
    | some o =>
      cases o with
      | none => simp [hid] at h
      | some b =>
        cases b with
        | cells g' es => simp [hid] at h
        | mp g' ms =>
          simp only [hid] at h
          by_cases hg : g' = g
          · subst hg
            simp only [if_true] at h
            obtain ⟨l, es, clock, hl, hw, hsz, _, _, hc⟩ := hr.blk id _ hid
            cases hm with
            | mref _ _ l' hl' =>
              rw [hl] at hl'
              cases hl'
              cases hf : findM (kdT P kt) ms k 0 with
              | none => simp [hf] at h
              | some o =>
                obtain ⟨q, hq, hcase⟩ := findM_sound htd hk ms es.toList 0 (by simpa using hsz.symm) (fun j m e hj he => hc j m e hj (by simpa using he)) o hf
                have hgo : (getObj l.r).run P w = .ok (.map es clock) w := by simp [getObj, Sem.run, hw]
                rcases hcase with ⟨rfl, rfl⟩ | ⟨j, x, v, rfl, rfl, _, hv⟩
                · simp only [hf, Option.some.injEq] at h
                  subst h
                  cases ok
                  · exact ⟨zr, by simp [Instr.lookup, run_underlying hu, hgo, run_checkKey hkd, Instr.findKey, run_underlying htd, hq, hzr], hzv⟩
                  · exact ⟨.tuple #[zr, .bool false], by simp [Instr.lookup, run_underlying hu, hgo, run_checkKey hkd, Instr.findKey, run_underlying htd, hq, hzr], tup hzv⟩
                · simp only [hf, Option.some.injEq] at h
                  subst h
                  cases ok
                  · exact ⟨v, by simp [Instr.lookup, run_underlying hu, hgo, run_checkKey hkd, Instr.findKey, run_underlying htd, hq], hv⟩
                  · exact ⟨.tuple #[v, .bool true], by simp [Instr.lookup, run_underlying hu, hgo, run_checkKey hkd, Instr.findKey, run_underlying htd, hq], tup hv⟩
          · simp [hg] at h
  | _ => simp at h

end Go.AX
