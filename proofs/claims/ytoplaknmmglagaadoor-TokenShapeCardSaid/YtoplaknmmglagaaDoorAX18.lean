/-
AX, part 9b: operations that stand in no region that draws.
-/
import Derived.Test.YtoplaknmmglagaaDoorAX9
import Derived.Lib.ConvBytes
set_option linter.unusedVariables false
set_option linter.unusedSectionVars false
set_option linter.unusedSimpArgs false
namespace Go.AX
variable {P : Program}

/-- What may be said behind a call that leaves what was. -/
theorem HR.after {G : Gens} {Im Im' : Nat → Prop} {w w' : World} {H : Heap} {c c0 : Nat} (hr : HR G Im w H c) (hk : ∀ r, r < w.heap.size → w'.heap[r]? = w.heap[r]?) (hs : w.heap.size ≤ w'.heap.size) (hlt : ∀ r, Im' r → r < w'.heap.size) (hso : SameOut w w') :
    HR G (fun r => Im r ∨ (Im' r ∧ w.heap.size ≤ r)) w' H c ∧ Ext c0 G Im w H G (fun r => Im r ∨ (Im' r ∧ w.heap.size ≤ r)) w' H := by
  have hown : ∀ r, Owned G H r → r < w.heap.size := fun r ⟨i, b, l, hi, hl, e⟩ => e ▸ hr.lt _ _ hl
  refine ⟨⟨fun i b hi => (hr.blk i b hi).mono (fun _ _ h => h) (fun _ h => .inl h) (fun r hir => hk r (hr.imLt r hir)) (fun l hl => hk _ (hr.lt _ _ hl)), hr.inj, fun r ho hi => ?_, hr.fresh, fun g l h => Nat.lt_of_lt_of_le (hr.lt g l h) hs, fun r hi => ?_⟩,
    ⟨fun _ _ h => h, fun _ h => .inl h, fun r h => ?_, fun r hlt _ => hk r hlt, hs, fun _ h => .inl h, fun _ _ => rfl, hso⟩⟩
  · rcases hi with hi | ⟨_, hi⟩
    · exact hr.notIm r ho hi
    · have := hown r ho; omega
  · rcases hi with hi | ⟨hi, _⟩
    · exact Nat.lt_of_lt_of_le (hr.imLt r hi) hs
    · exact hlt r hi
  · rcases h with h | ⟨_, h⟩
    · exact .inl h
    · exact .inr (.inr h)

theorem Ext.le {c0 c1 : Nat} (h : c0 ≤ c1) {G G' : Gens} {Im Im' : Nat → Prop} {w w' : World} {H H' : Heap} (e : Ext c1 G Im w H G' Im' w' H') : Ext c0 G Im w H G' Im' w' H' :=
  { e with old := fun g hg => e.old g (Nat.lt_of_lt_of_le hg h) }


variable {Im : Nat → Prop} {w : World} {G : Gens}

theorem G_next {H : Heap} {c : Nat} (hr : HR G Im w H c) : G c = none := by
  cases hg : G c with
  | none => rfl
  | some l => exact absurd (hr.fresh _ l hg) (Nat.lt_irrefl _)

theorem mapNew_sound {H : Heap} {c c0 : Nat} (hr : HR G Im w H c) (hc0 : c0 ≤ c) : ∃ w' G', w' = w.alloc (.map #[] 0) ∧ HR G' Im w' (H ++ [some (.mp c [])]) (c + 1) ∧ Ext c0 G Im w H G' Im w' (H ++ [some (.mp c [])]) ∧ V Im w' G' (.mref H.length c) (.map (some w.heap.size)) := by
  have hG := G_next hr
  obtain ⟨h1, h2⟩ := hr.new (H' := H ++ [some (.mp c [])]) (c' := c + 1) (c0 := c0) (id := H.length) (b := .mp c []) (l := ⟨w.heap.size, 0, 0, 0⟩) (obj := .map #[] 0) (w' := w.alloc (.map #[] 0)) rfl hG (Nat.lt_succ_self _) (Nat.le_succ _) hc0 (fun _ _ hh => getElem?_push_some hh) rfl rfl
    ⟨_, #[], 0, setG_same _ _ _, by show (w.heap.push (.map #[] 0))[w.heap.size]? = _; simp, rfl, fun e he => by simp at he, by simp, fun i m e hm => by simp at hm⟩ ⟨rfl, rfl, rfl⟩
  exact ⟨_, _, rfl, h1, h2, V.mref (Im := Im) H.length c ⟨w.heap.size, 0, 0, 0⟩ (setG_same _ _ _)⟩

/-- A string's bytes in new memory that nobody writes. -/
theorem bytes_sound {H : Heap} {c c0 : Nat} (hr : HR G Im w H c) (e : TypeId) (s : ByteArray) (hs : s.size ≤ roomX) : ∃ Im', HR G Im' (Lib.bytesWorld w e s) H c ∧ Ext c0 G Im w H G Im' (Lib.bytesWorld w e s) H ∧
    V Im' (Lib.bytesWorld w e s) G (.vec (s.data.toList.map byv)) (.slice (some ⟨w.heap.size, 0, none⟩) s.size (grownCap w s.size 0 e)) := by
  obtain ⟨h1, h2⟩ := hr.after (c0 := c0) (w' := Lib.bytesWorld w e s) (Im' := fun r => r = w.heap.size) (fun r hr => Lib.bytesWorld_at_old w e s r hr) (by rw [Lib.bytesWorld_size]; omega) (fun r h => by rw [Lib.bytesWorld_size]; omega) ⟨by simp [Lib.bytesWorld, World.freeze]; rfl, by simp [Lib.bytesWorld, World.freeze]; rfl, by simp [Lib.bytesWorld, World.freeze]⟩
  refine ⟨_, h1, h2, ?_⟩
  have hlen : (s.data.toList.map byv).length = s.size := by rw [List.length_map, Array.length_toList]; rfl
  have := V.vec (Im := fun r => Im r ∨ (r = w.heap.size ∧ w.heap.size ≤ r)) (w := Lib.bytesWorld w e s) (G := G) (s.data.toList.map byv) ⟨w.heap.size, 0, none⟩ (grownCap w s.size 0 e) 1 (fun i _ => .int .u8 (s.data.toList.getD i 0).toNat) (by rw [hlen]; exact grownCap_ge _ _ _ _) rfl (.inr ⟨rfl, Nat.le_refl _⟩)
    (fun e he => by obtain ⟨b, _, rfl⟩ := List.mem_map.1 he; rfl)
    (fun i j e' c hi hj => by
      rw [List.getElem?_map, Option.map_eq_some_iff] at hi
      obtain ⟨b, hb, rfl⟩ := hi
      have hlt : i < s.size := by have := (List.getElem?_eq_some_iff.1 hb).1; rw [Array.length_toList] at this; exact this
      cases j with
      | succ j => simp [byv] at hj
      | zero =>
        simp [byv] at hj
        subst hj
        refine ⟨rfl, ?_⟩
        have := Lib.bytesWorld_cell w e s i hlt
        simpa using this)
    (fun i j e' c hi hj => by
      rw [List.getElem?_map, Option.map_eq_some_iff] at hi
      obtain ⟨b, hb, rfl⟩ := hi
      cases j with
      | succ j => simp [byv] at hj
      | zero =>
        simp [byv] at hj
        subst hj
        have : s.data.toList.getD i 0 = b := by simp [List.getD, hb]
        rw [this]
        exact .int _ _)
  rwa [hlen] at this

theorem sameBits_scalar {kd : Nat} {x y : AV} {u v : Value} {G' : Gens} {Im' : Nat → Prop} (hx : V Im w G x u) (hy : V Im' w G' y v) (h : eqK kd x y = some true) (n : Nat) : Instr.sameBits n u v = true := by
  unfold eqK at h
  split at h
  · split at h
    case isFalse => cases h
    rename_i hk
    subst hk
    cases hx; cases hy
    simp at h
    cases n <;> simp [Instr.sameBits, h]
  · cases hx; cases hy
    simp at h
    cases n <;> simp [Instr.sameBits, h]
  · cases hx; cases hy
    simp only [Option.some.injEq] at h
    rw [← beq_toListBytes] at h
    cases n <;> simpa [Instr.sameBits] using h
  · cases h

theorem bytes_ext {a b : ByteArray} (h : a.toList = b.toList) : a = b := by
  rw [ByteArray.toList_eq, ByteArray.toList_eq] at h
  obtain ⟨⟨x⟩⟩ := a
  obtain ⟨⟨y⟩⟩ := b
  simp only at h
  rw [h]

/-- Keys that can be told apart are the same value. -/
theorem eqK_true {kd : Nat} {x y : AV} {u v : Value} {G' : Gens} {Im' : Nat → Prop} (hx : V Im w G x u) (hy : V Im' w G' y v) (h : eqK kd x y = some true) : u = v := by
  unfold eqK at h
  split at h
  · split at h
    case isFalse => cases h
    rename_i hk
    subst hk
    cases hx; cases hy
    simp at h
    rw [h]
  · cases hx; cases hy
    simp at h
    rw [h]
  · cases hx; cases hy
    simp only [Option.some.injEq] at h
    exact congrArg _ (bytes_ext (eq_of_beq h))
  · cases h

theorem eqK_none {kd : Nat} {x y : AV} {r : Bool} (h : eqK kd x y = some r) {v : Value} (hx : V Im w G x v) : V Im w Gens.none x v := by
  unfold eqK at h
  split at h
  · cases hx; exact .int _ _
  · cases hx; exact .bool _
  · cases hx; exact .str _
  · cases h

theorem findM_at {kd : Nat} {k : AV} : ∀ (ms : List (AV × AV)) (i : Nat) (j : Nat) (x : AV), findM kd ms k i = some (some (j, x)) → ∃ n p, j = i + n ∧ ms[n]? = some p ∧ p.2 = x ∧ eqK kd k p.1 = some true
  | [], i, j, x, h => by simp [findM] at h
  | (y, v) :: ms, i, j, x, h => by
    simp only [findM] at h
    cases he : eqK kd k y with
    | none => simp [he] at h
    | some b =>
      cases b with
      | true => simp only [he, Option.some.injEq, Prod.mk.injEq] at h; obtain ⟨rfl, rfl⟩ := h; exact ⟨0, (y, v), rfl, rfl, rfl, he⟩
      | false =>
        simp only [he] at h
        obtain ⟨n, p, rfl, h1, h2, h3⟩ := findM_at ms (i + 1) j x h
        exact ⟨n + 1, p, by omega, by simpa using h1, h2, h3⟩

def wset (w : World) (r : Nat) (o : Obj) : World := { w with heap := w.heap.setIfInBounds r o }
theorem setObj_other (w : World) (r : Nat) (o : Obj) (k : Nat) (h : k ≠ r) : (wset w r o).heap[k]? = w.heap[k]? := by
  simp [wset, Array.getElem?_setIfInBounds, Ne.symm h]

theorem updM_sound {H : Heap} {c c0 : Nat} (hr : HR G Im w H c) {t : TypeId} {kd : Nat} {el : TypeId} (hkt : keyT P t = some (kd, el)) {id g : Nat} {ms ms' : List (AV × AV)} (hid : H[id]? = some (some (.mp g ms))) {mv kv vv : Value} (hm : V Im w G (.mref id g) mv) {k v : AV} (hk : V Im w G k kv) (hv : V Im w G v vv)
    (h : updM kd ms k v = some ms') : ∃ w', (Instr.mapUpdate t mv kv vv).run P w = .ok () w' ∧ HR G Im w' (H.set id (some (.mp g ms'))) c ∧ Ext c0 G Im w H G Im w' (H.set id (some (.mp g ms'))) := by
  obtain ⟨kt, td, hu, htd, rfl, hkd⟩ := keyT_spec hkt
  obtain ⟨l, es, clock, hl, hw, hsz, hborn, hpw, hc⟩ := hr.blk id _ hid
  cases hm with
  | mref _ _ l' hl' =>
    rw [hl] at hl'
    cases hl'
    have hgo : (getObj l.r).run P w = .ok (.map es clock) w := by simp [getObj, Sem.run, hw]
    have hset : ∀ o, (setObj l.r o).run P w = .ok () (wset w l.r o) := fun o => by simp [setObj, Sem.run, hw, wset]
    have hlt : l.r < w.heap.size := (Array.getElem?_eq_some_iff.1 hw).1
    have hat : ∀ o, (wset w l.r o).heap[l.r]? = some o := fun o => by simp [wset, hlt]
    have hir : ∀ o, ∀ r, Im r → (wset w l.r o).heap[r]? = w.heap[r]? := fun o r hi => setObj_other w l.r o r fun e => hr.notIm r ⟨id, _, l, hid, hl, e.symm⟩ hi
    have fin : ∀ (es' : Array MapEntry) (clock' : Nat), es'.size = ms'.length → (∀ e ∈ es', e.born < clock') → (es'.toList.map (·.born)).Pairwise (· ≠ ·) →
        (∀ (i : Nat) (m : AV × AV) (e : MapEntry), ms'[i]? = some m → es'[i]? = some e → V Im w Gens.none m.1 e.key ∧ V Im w G m.2 e.val) →
        HR G Im (wset w l.r (.map es' clock')) (H.set id (some (.mp g ms'))) c ∧ Ext c0 G Im w H G Im (wset w l.r (.map es' clock')) (H.set id (some (.mp g ms'))) := by
      intro es' clock' h1 h2 h3 h4
      exact hr.upd (c' := c) (c0 := c0) (id := id) (b := .mp g ms') (l := l) hid hl (Nat.le_refl _) (fun _ _ h => h) (fun _ _ h => .inl h) hl rfl (fun k b' hk => getElem?_set_some hk) (by simp [wset]) (fun r hne => setObj_other w l.r _ r hne)
        ⟨l, es', clock', hl, hat _, h1, h2, h3, fun i m e hi he => ⟨(h4 i m e hi he).1.mono (fun _ _ h => h) (fun _ h => h) (hir _), (h4 i m e hi he).2.mono (fun _ _ h => h) (fun _ h => h) (hir _)⟩⟩ ⟨rfl, rfl, rfl⟩
    have hc' : ∀ (j : Nat) (m : AV × AV) (e : MapEntry), ms[j]? = some m → es.toList[j]? = some e → V Im w Gens.none m.1 e.key ∧ V Im w G m.2 e.val := fun j m e hj he => hc j m e hj (by simpa using he)
    unfold updM at h
    split at h
    · rename_i r i x hkk hf
      split at h
      case h_2 => cases h
      rename_i p hp
      cases h
      obtain ⟨q, hq, hcase⟩ := findM_sound htd hk ms es.toList 0 (by simpa using hsz.symm) hc' _ hf
      simp only [Nat.zero_add] at hcase
      rcases hcase with ⟨h, _⟩ | ⟨j, x', v', ho, rfl, hj, hv'⟩
      · cases h
      · simp only [Option.some.injEq, Prod.mk.injEq] at ho
        obtain ⟨rfl, rfl⟩ := ho
        obtain ⟨n, p', hn, hp', _, hek⟩ := findM_at ms 0 _ _ hf
        rw [Nat.zero_add] at hn
        subst hn
        rw [hp'] at hp
        cases hp
        have hjl : i < es.size := by omega
        have hej : es[i]? = some es[i] := Array.getElem?_eq_getElem hjl
        have hkey := (hc i p _ hp' hej).1
        have hsame : Instr.sameBits 10000 es[i].key kv = true := by
          have e := eqK_true hk hkey hek
          rw [← e]
          have hkk' : eqK (kdT P kt) k k = some true := by
            unfold eqK at hkk ⊢
            split at hkk <;> simp_all
          exact sameBits_scalar hk hk hkk' _
        obtain ⟨q1, q2⟩ := fin (es.modify i fun e => { e with key := kv, val := vv }) clock (by rw [Array.size_modify, List.length_set, hsz]) (fun e he => by
            obtain ⟨q, hi, rfl⟩ := Array.mem_iff_getElem.1 he
            simp only [Array.size_modify] at hi
            simp only [Array.getElem_modify]
            have := hborn _ (Array.getElem_mem hi)
            split
            · exact this
            · exact this) (by
            have : (es.modify i fun e => { e with key := kv, val := vv }).toList.map (·.born) = es.toList.map (·.born) := by
              apply List.ext_getElem
              · simp
              · intro i h1 h2
                simp only [List.getElem_map, Array.getElem_toList, Array.getElem_modify]
                split <;> rfl
            rw [this]; exact hpw) (fun q m e hi he => by
            rw [Array.getElem?_modify] at he
            rw [List.getElem?_set] at hi
            by_cases hij : i = q
            · rw [if_pos hij] at he hi
              rw [if_pos (by omega)] at hi
              cases hi
              rw [← hij, hej] at he
              cases he
              exact ⟨by rw [eqK_true hk hkey hek]; exact hkey, hv⟩
            · rw [if_neg hij] at he hi
              exact hc q m e hi he)
        refine ⟨_, ?_, q1, q2⟩
        simp [Instr.mapUpdate, run_underlying hu, hgo, run_checkKey hkd, Instr.findKey, run_underlying htd, hq, Instr.keyThatStays, hej, hsame, hset]
    · rename_i r hkk hf
      cases h
      obtain ⟨q, hq, hcase⟩ := findM_sound htd hk ms es.toList 0 (by simpa using hsz.symm) hc' _ hf
      rcases hcase with ⟨_, rfl⟩ | ⟨j, x', v', ho, _⟩
      · obtain ⟨q1, q2⟩ := fin (es.push { key := kv, val := vv, born := clock }) (clock + 1) (by simp [hsz]) (fun e he => by
            rcases Array.mem_push.1 he with h | h
            · exact Nat.lt_succ_of_lt (hborn e h)
            · subst h; exact Nat.lt_succ_self _) (by
            simp only [Array.toList_push, List.map_append, List.map_cons, List.map_nil]
            refine List.pairwise_append.2 ⟨hpw, by simp, fun a ha b hb => ?_⟩
            obtain ⟨e, he, rfl⟩ := List.mem_map.1 ha
            simp only [List.mem_singleton] at hb
            subst hb
            exact Nat.ne_of_lt (hborn e (by simpa using he))) (fun i m e hi he => by
            rcases Nat.lt_trichotomy i ms.length with hlt' | heq | hgt
            · rw [List.getElem?_append_left hlt'] at hi
              rw [Array.getElem?_push_lt (by omega)] at he
              exact hc i m e hi (by rw [Array.getElem?_eq_getElem (by omega)]; exact he)
            · subst heq
              rw [List.getElem?_append_right (Nat.le_refl _)] at hi
              simp at hi
              subst hi
              rw [← hsz] at he
              simp at he
              subst he
              exact ⟨eqK_none hkk hk, hv⟩
            · rw [List.getElem?_eq_none (by simp; omega)] at hi; cases hi)
        refine ⟨_, ?_, q1, q2⟩
        simp [Instr.mapUpdate, run_underlying hu, hgo, run_checkKey hkd, Instr.findKey, run_underlying htd, hq, hset]
      · cases ho
    · cases h

theorem impX_sound {H : Heap} {c c0 : Nat} (hr : HR G Im w H c) (hc0 : c0 ≤ c) {ev : Operand → AV} {ρ : Operand → Value} (hev : ∀ x, V Im w G (ev x) (ρ x)) {o : Oper} {v : AV} {H' : Heap} {c' : Nat} (h : impX P o.op ev H c = some (v, H', c')) :
    ∃ nx w' G' Im' u, (execOp ρ o).run P w = .ok nx w' ∧ (nx = .value u ∨ (nx = .skip ∧ v = .dead)) ∧ HR G' Im' w' H' c' ∧ Ext c0 G Im w H G' Im' w' H' ∧ V Im' w' G' v u ∧ c ≤ c' := by
  obtain ⟨dst, op, type, pos, after, guard⟩ := o
  simp only at h
  cases op <;> simp only [impX, reduceCtorEq] at h
  case makeMap t r =>
    split at h
    case isFalse => cases h
    rename_i hmp
    obtain ⟨e, e', hu⟩ := mapT_spec hmp
    obtain ⟨w', G', rfl, h1, h2, h3⟩ := mapNew_sound (c0 := c0) hr hc0
    cases r with
    | none =>
      simp only [Option.map_none, Option.some.injEq, Prod.mk.injEq] at h
      obtain ⟨rfl, rfl, rfl⟩ := h
      exact ⟨_, _, G', Im, _, by simp [execOp, Instr.makeMap, newObj, Sem.run], .inl rfl, h1, h2, h3, Nat.le_succ _⟩
    | some x =>
      simp only [Option.map_some] at h
      split at h
      · rename_i hh; cases hh
      · rename_i k n hh
        simp only [Option.some.injEq] at hh
        simp only [Option.some.injEq, Prod.mk.injEq] at h
        obtain ⟨rfl, rfl, rfl⟩ := h
        have hx := hev x
        rw [hh] at hx
        have := hx.int_inv
        exact ⟨_, _, G', Im, _, by simp [execOp, Instr.makeMap, run_underlying hu, this, asInt, asIntOf, newObj, Sem.run], .inl rfl, h1, h2, h3, Nat.le_succ _⟩
      · cases h
  case mapUpdate t m k x =>
    split at h
    case h_2 => cases h
    rename_i kd el id g hkt hm
    split at h
    case h_2 => cases h
    rename_i g' ms hid
    split at h
    case isFalse => cases h
    rename_i hg
    subst hg
    simp only [Option.map_eq_some_iff, Prod.mk.injEq] at h
    obtain ⟨ms', hms, rfl, rfl, rfl⟩ := h
    have hmv := hev m
    rw [hm] at hmv
    obtain ⟨w', hrun, h1, h2⟩ := updM_sound (P := P) (c0 := c0) hr hkt hid hmv (hev k) (hev x) hms
    exact ⟨_, w', G, Im, undef, by simp only [execOp, Sem.run_bind, hrun, Result.andThen_ok, Sem.run_pure], .inr ⟨rfl, rfl⟩, h1, h2, .dead _, Nat.le_refl _⟩
  case convert s d x =>
    have hx := hev x
    split at h
    · rename_i b hb
      split at h
      case isFalse => cases h
      rename_i hcnd
      obtain ⟨hs, hd, hsz⟩ := hcnd
      simp only [Option.some.injEq, Prod.mk.injEq] at h
      obtain ⟨rfl, rfl, rfl⟩ := h
      rw [hb] at hx
      have hxe := hx.str_inv
      obtain ⟨e, h1, h2, _⟩ := bytT_spec hd
      obtain ⟨Im', q1, q2, q3⟩ := bytes_sound (c0 := c0) hr e b hsz
      have hrun := Lib.run_convert_string_bytes (P := P) w s d e b (strT_spec hs) h1 h2
      exact ⟨_, _, G, Im', _, by simp only [execOp, hxe, Sem.run_bind, hrun, Result.andThen_ok, Sem.run_pure], .inl rfl, q1, q2, q3, Nat.le_refl _⟩
    · rename_i id g sz off len hb
      split at h
      case isFalse => cases h
      rename_i hcnd
      obtain ⟨hs, hd, hsz1⟩ := hcnd
      split at h
      case h_2 => cases h
      rename_i es hes
      simp only [Option.map_eq_some_iff, Prod.mk.injEq] at h
      obtain ⟨l, hl, rfl, rfl, rfl⟩ := h
      rw [hb] at hx
      obtain ⟨hz, _, _⟩ := bytesX_spec (Im := Im) (w := w) (G := G) hl
      obtain ⟨vs, h1, h2, h3, h4, h5⟩ := elemsX_sound (P := P) hr hx hes hz
      obtain ⟨a, n, cap, hq⟩ : ∃ a n cap, ρ x = .slice a n cap := by
        cases hq : ρ x <;> rw [hq] at hx <;> cases hx
        exact ⟨_, _, _, rfl⟩
      rw [hq] at h1 h5
      have hn : n = es.length := by
        simp [Builtin.lenOf] at h1
        exact h1
      have hrun := cvt_bytes hs hd hl h3 hn (h5 w rfl)
      exact ⟨_, w, G, Im, _, by simp only [execOp, hq, Sem.run_bind, hrun, Result.andThen_ok, Sem.run_pure], .inl rfl, hr, Ext.refl _ _ _ _ _, .str _, Nat.le_refl _⟩
    · cases h

end Go.AX
