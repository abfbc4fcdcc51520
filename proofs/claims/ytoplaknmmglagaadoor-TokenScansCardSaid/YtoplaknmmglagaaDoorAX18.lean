/-
AX, part 9b: operations that stand in no region that draws.
-/
import Derived.Test.YtoplaknmmglagaaDoorAX9
import Derived.Lib.ConvBytes
set_option linter.unusedVariables false
set_option linter.unusedSectionVars false
set_option linter.unusedSimpArgs false
namespace Go.AX
variable {P : Program}

/-- What may be said behind a call that leaves what was. -/
theorem HR.after {G : Gens} {Im Im' : Nat → Prop} {w w' : World} {H : Heap} {c c0 : Nat} (hr : HR G Im w H c) (hk : ∀ r, r < w.heap.size → w'.heap[r]? = w.heap[r]?) (hs : w.heap.size ≤ w'.heap.size) (hlt : ∀ r, Im' r → r < w'.heap.size) (hso : SameOut w w') :
    HR G (fun r => Im r ∨ (Im' r ∧ w.heap.size ≤ r)) w' H c ∧ Ext c0 G Im w H G (fun r => Im r ∨ (Im' r ∧ w.heap.size ≤ r)) w' H := by
  have hown : ∀ r, Owned G H r → r < w.heap.size := fun r ⟨i, b, l, hi, hl, e⟩ => e ▸ hr.lt _ _ hl
  refine ⟨⟨fun i b hi => (hr.blk i b hi).mono (fun _ _ h => h) (fun _ h => .inl h) (fun r hir => hk r (hr.imLt r hir)) (fun l hl => hk _ (hr.lt _ _ hl)), hr.inj, fun r ho hi => ?_, hr.fresh, fun g l h => Nat.lt_of_lt_of_le (hr.lt g l h) hs, fun r hi => ?_⟩,
    ⟨fun _ _ h => h, fun _ h => .inl h, fun r h => ?_, fun r hlt _ => hk r hlt, hs, fun _ h => .inl h, fun _ _ => rfl, hso⟩⟩
  · rcases hi with hi | ⟨_, hi⟩
    · exact hr.notIm r ho hi
    · have := hown r ho; omega
  · rcases hi with hi | ⟨hi, _⟩
    · exact Nat.lt_of_lt_of_le (hr.imLt r hi) hs
    · exact hlt r hi
  · rcases h with h | ⟨_, h⟩
    · exact .inl h
    · exact .inr (.inr h)

theorem Ext.le {c0 c1 : Nat} (h : c0 ≤ c1) {G G' : Gens} {Im Im' : Nat → Prop} {w w' : World} {H H' : Heap} (e : Ext c1 G Im w H G' Im' w' H') : Ext c0 G Im w H G' Im' w' H' :=
  { e with old := fun g hg => e.old g (Nat.lt_of_lt_of_le hg h) }


variable {Im : Nat → Prop} {w : World} {G : Gens}

theorem G_next {H : Heap} {c : Nat} (hr : HR G Im w H c) : G c = none := by
  cases hg : G c with
  | none => rfl
  | some l => exact absurd (hr.fresh _ l hg) (Nat.lt_irrefl _)

theorem mapNew_sound {H : Heap} {c c0 : Nat} (hr : HR G Im w H c) (hc0 : c0 ≤ c) : ∃ w' G', w' = w.alloc (.map #[] 0) ∧ HR G' Im w' (H ++ [some (.mp c [])]) (c + 1) ∧ Ext c0 G Im w H G' Im w' (H ++ [some (.mp c [])]) ∧ V Im w' G' (.mref H.length c) (.map (some w.heap.size)) := by
  have hG := G_next hr
  obtain ⟨h1, h2⟩ := hr.new (H' := H ++ [some (.mp c [])]) (c' := c + 1) (c0 := c0) (id := H.length) (b := .mp c []) (l := ⟨w.heap.size, 0, 0, 0⟩) (obj := .map #[] 0) (w' := w.alloc (.map #[] 0)) rfl hG (Nat.lt_succ_self _) (Nat.le_succ _) hc0 (fun _ _ hh => getElem?_push_some hh) rfl rfl
    ⟨_, #[], 0, setG_same _ _ _, by show (w.heap.push (.map #[] 0))[w.heap.size]? = _; simp, rfl, fun e he => by simp at he, by simp, fun i m e hm => by simp at hm⟩ ⟨rfl, rfl, rfl⟩
  exact ⟨_, _, rfl, h1, h2, V.mref (Im := Im) H.length c ⟨w.heap.size, 0, 0, 0⟩ (setG_same _ _ _)⟩

/-- A string's bytes in new memory that nobody writes. -/
theorem bytes_sound {H : Heap} {c c0 : Nat} (hr : HR G Im w H c) (e : TypeId) (s : ByteArray) (hs : s.size ≤ roomX) : ∃ Im', HR G Im' (Lib.bytesWorld w e s) H c ∧ Ext c0 G Im w H G Im' (Lib.bytesWorld w e s) H ∧
    V Im' (Lib.bytesWorld w e s) G (.vec (s.data.toList.map byv)) (.slice (some ⟨w.heap.size, 0, none⟩) s.size (grownCap w s.size 0 e)) := by
  obtain ⟨h1, h2⟩ := hr.after (c0 := c0) (w' := Lib.bytesWorld w e s) (Im' := fun r => r = w.heap.size) (fun r hr => Lib.bytesWorld_at_old w e s r hr) (by rw [Lib.bytesWorld_size]; omega) (fun r h => by rw [Lib.bytesWorld_size]; omega) ⟨by simp [Lib.bytesWorld, World.freeze]; rfl, by simp [Lib.bytesWorld, World.freeze]; rfl, by simp [Lib.bytesWorld, World.freeze]⟩
  refine ⟨_, h1, h2, ?_⟩
  have hlen : (s.data.toList.map byv).length = s.size := by rw [List.length_map, Array.length_toList]; rfl
  have := V.vec (Im := fun r => Im r ∨ (r = w.heap.size ∧ w.heap.size ≤ r)) (w := Lib.bytesWorld w e s) (G := G) (s.data.toList.map byv) ⟨w.heap.size, 0, none⟩ (grownCap w s.size 0 e) 1 (fun i _ => .int .u8 (s.data.toList.getD i 0).toNat) (by rw [hlen]; exact grownCap_ge _ _ _ _) rfl (.inr ⟨rfl, Nat.le_refl _⟩)
    (fun e he => by obtain ⟨b, _, rfl⟩ := List.mem_map.1 he; rfl)
    (fun i j e' c hi hj => by
      rw [List.getElem?_map, Option.map_eq_some_iff] at hi
      obtain ⟨b, hb, rfl⟩ := hi
      have hlt : i < s.size := by have := (List.getElem?_eq_some_iff.1 hb).1; rw [Array.length_toList] at this; exact this
      cases j with
      | succ j => simp [byv] at hj
      | zero =>
        simp [byv] at hj
        subst hj
        refine ⟨rfl, ?_⟩
        have := Lib.bytesWorld_cell w e s i hlt
        simpa using this)
    (fun i j e' c hi hj => by
      rw [List.getElem?_map, Option.map_eq_some_iff] at hi
      obtain ⟨b, hb, rfl⟩ := hi
      cases j with
      | succ j => simp [byv] at hj
      | zero =>
        simp [byv] at hj
        subst hj
        have : s.data.toList.getD i 0 = b := by simp [List.getD, hb]
        rw [this]
        exact .int _ _)
  rwa [hlen] at this

theorem sameBits_scalar {kd : Nat} {x y : AV} {u v : Value} {G' : Gens} {Im' : Nat → Prop} (hx : V Im w G x u) (hy : V Im' w G' y v) (h : eqK kd x y = some true) (n : Nat) : Instr.sameBits n u v = true := by
  unfold eqK at h
  split at h
  · split at h
    case isFalse => cases h
    rename_i hk
    subst hk
    cases hx; cases hy
    simp at h
    cases n <;> simp [Instr.sameBits, h]
  · cases hx; cases hy
    simp at h
    cases n <;> simp [Instr.sameBits, h]
  · cases hx; cases hy
    simp only [Option.some.injEq] at h
    rw [← beq_toListBytes] at h
    cases n <;> simpa [Instr.sameBits] using h
  · cases h

theorem bytes_ext {a b : ByteArray} (h : a.toList = b.toList) : a = b := by
  rw [ByteArray.toList_eq, ByteArray.toList_eq] at h
  obtain ⟨⟨x⟩⟩ := a
  obtain ⟨⟨y⟩⟩ := b
  simp only at h
  rw [h]

/-- Keys that can be told apart are the same value. -/
theorem eqK_true {kd : Nat} {x y : AV} {u v : Value} {G' : Gens} {Im' : Nat → Prop} (hx : V Im w G x u) (hy : V Im' w G' y v) (h : eqK kd x y = some true) : u = v := by
  unfold eqK at h
  split at h
  · split at h
    case isFalse => cases h
    rename_i hk
    subst hk
    cases hx; cases hy
    simp at h
    rw [h]
  · cases hx; cases hy
    simp at h
    rw [h]
  · cases hx; cases hy
    simp only [Option.some.injEq] at h
    exact congrArg _ (bytes_ext (eq_of_beq h))
  · cases h

theorem eqK_none {kd : Nat} {x y : AV} {r : Bool} (h : eqK kd x y = some r) {v : Value} (hx : V Im w G x v) : V Im w Gens.none x v := by
  unfold eqK at h
  split at h
  · cases hx; exact .int _ _
  · cases hx; exact .bool _
  · cases hx; exact .str _
  · cases h

theorem findM_at {kd : Nat} {k : AV} : ∀ (ms : List (AV × AV)) (i : Nat) (j : Nat) (x : AV), findM kd ms k i = some (some (j, x)) → ∃ n p, j = i + n ∧ ms[n]? = some p ∧ p.2 = x ∧ eqK kd k p.1 = some true
  | [], i, j, x, h => by simp [findM] at h
  | (y, v) :: ms, i, j, x, h => by
    simp only [findM] at h
    cases he : eqK kd k y with
    | none => simp [he] at h
    | some b =>
      cases b with
      | true => simp only [he, Option.some.injEq, Prod.mk.injEq] at h; obtain ⟨rfl, rfl⟩ := h; exact ⟨0, (y, v), rfl, rfl, rfl, he⟩
      | false =>
        simp only [he] at h
        obtain ⟨n, p, rfl, h1, h2, h3⟩ := findM_at ms (i + 1) j x h
        exact ⟨n + 1, p, by omega, by simpa using h1, h2, h3⟩

def wset (w : World) (r : Nat) (o : Obj) : World := { w with heap := w.heap.setIfInBounds r o }
theorem setObj_other (w : World) (r : Nat) (o : Obj) (k : Nat) (h : k ≠ r) : (wset w r o).heap[k]? = w.heap[k]? := by
  simp [wset, Array.getElem?_setIfInBounds, Ne.symm h]

theorem updM_sound {H : Heap} {c c0 : Nat} (hr : HR G Im w H c) {t : TypeId} {kd : Nat} {el : TypeId} (hkt : keyT P t = some (kd, el)) {id g : Nat} {ms ms' : List (AV × AV)} (hid : H[id]? = some (some (.mp g ms))) {mv kv vv : Value} (hm : V Im w G (.mref id g) mv) {k v : AV} (hk : V Im w G k kv) (hv : V Im w G v vv)
    (h : updM kd ms k v = some ms') : ∃ w', (Instr.mapUpdate t mv kv vv).run P w = .ok () w' ∧ HR G Im w' (H.set id (some (.mp g ms'))) c ∧ Ext c0 G Im w H G Im w' (H.set id (some (.mp g ms'))) := by
  obtain ⟨kt, td, hu, htd, rfl, hkd⟩ := keyT_spec hkt
  obtain ⟨l, es, clock, hl, hw, hsz, hborn, hpw, hc⟩ := hr.blk id _ hid
  cases hm with
  | mref _ _ l' hl' =>
    rw [hl] at hl'
    cases hl'
    have hgo : (getObj l.r).run P w = .ok (.map es clock) w := by simp [getObj, Sem.run, hw]
    have hset : ∀ o, (setObj l.r o).run P w = .ok () (wset w l.r o) := fun o => by simp [setObj, Sem.run, hw, wset]
    have hlt : l.r < w.heap.size := (Array.getElem?_eq_some_iff.1 hw).1
    have hat : ∀ o, (wset w l.r o).heap[l.r]? = some o := fun o => by simp [wset, hlt]
    have hir : ∀ o, ∀ r, Im r → (wset w l.r o).heap[r]? = w.heap[r]? := fun o r hi => setObj_other w l.r o r fun e => hr.notIm r ⟨id, _, l, hid, hl, e.symm⟩ hi
    have fin : ∀ (es' : Array MapEntry) (clock' : Nat), es'.size = ms'.length → (∀ e ∈ es', e.born < clock') → (es'.toList.map (·.born)).Pairwise (· ≠ ·) →
        (∀ (i : Nat) (m : AV × AV) (e : MapEntry), ms'[i]? = some m → es'[i]? = some e → V Im w Gens.none m.1 e.key ∧ V Im w G m.2 e.val) →
        HR G Im (wset w l.r (.map es' clock')) (H.set id (some (.mp g ms'))) c ∧ Ext c0 G Im w H G Im (wset w l.r (.map es' clock')) (H.set id (some (.mp g ms'))) := by
      intro es' clock' h1 h2 h3 h4
      exact hr.upd (c' := c) (c0 := c0) (id := id) (b := .mp g ms') (l := l) hid hl (Nat.le_refl _) (fun _ _ h => h) (fun _ _ h => .inl h) hl rfl (fun k b' hk => getElem?_set_some hk) (by simp [wset]) (fun r hne => setObj_other w l.r _ r hne)
        ⟨l, es', clock', hl, hat _, h1, h2, h3, fun i m e hi he => ⟨(h4 i m e hi he).1.mono (fun _ _ h => h) (fun _ h => h) (hir _), (h4 i m e hi he).2.mono (fun _ _ h => h) (fun _ h => h) (hir _)⟩⟩ ⟨rfl, rfl, rfl⟩
    have hc' : ∀ (j : Nat) (m : AV × AV) (e : MapEntry), ms[j]? = some m → es.toList[j]? = some e → V Im w Gens.none m.1 e.key ∧ V Im w G m.2 e.val := fun j m e hj he => hc j m e hj (by simpa using he)
    unfold updM at h
    split at h
    · rename_i r i x hkk hf
      split at h
      case h_2 => cases h
      rename_i p hp
      cases h
      obtain ⟨q, hq, hcase⟩ := findM_sound htd hk ms es.toList 0 (by simpa using hsz.symm) hc' _ hf
      simp only [Nat.zero_add] at hcase
      rcases hcase with ⟨h, _⟩ | ⟨j, x', v', ho, rfl, hj, hv'⟩
      · cases h
      · simp only [Option.some.injEq, Prod.mk.injEq] at ho
        obtain ⟨rfl, rfl⟩ := ho
        obtain ⟨n, p', hn, hp', _, hek⟩ := findM_at ms 0 _ _ hf
        rw [Nat.zero_add] at hn
        subst hn
        rw [hp'] at hp
        cases hp
        have hjl : i < es.size := by omega
        have hej : es[i]? = some es[i] := Array.getElem?_eq_getElem hjl
        have hkey := (hc i p _ hp' hej).1
        have hsame : Instr.sameBits 10000 es[i].key kv = true := by
          have e := eqK_true hk hkey hek
          rw [← e]
          have hkk' : eqK (kdT P kt) k k = some true := by
            unfold eqK at hkk ⊢
            split at hkk <;> simp_all
          exact sameBits_scalar hk hk hkk' _
        obtain ⟨q1, q2⟩ := fin (es.modify i fun e => { e with key := kv, val := vv }) clock (by rw [Array.size_modify, List.length_set, hsz]) (fun e he => by
            obtain ⟨q, hi, rfl⟩ := Array.mem_iff_getElem.1 he
            simp only [Array.size_modify] at hi
            simp only [Array.getElem_modify]
            have := hborn _ (Array.getElem_mem hi)
            split
            · exact this
            · exact this) (by
            have : (es.modify i fun e => { e with key := kv, val := vv }).toList.map (·.born) = es.toList.map (·.born) := by
              apply List.ext_getElem
              · simp
              · intro i h1 h2
                simp only [List.getElem_map, Array.getElem_toList, Array.getElem_modify]
                split <;> rfl
            rw [this]; exact hpw) (fun q m e hi he => by
            rw [Array.getElem?_modify] at he
            rw [List.getElem?_set] at hi
            by_cases hij : i = q
            · rw [if_pos hij] at he hi
              rw [if_pos (by omega)] at hi
              cases hi
              rw [← hij, hej] at he
              cases he
              exact ⟨by rw [eqK_true hk hkey hek]; exact hkey, hv⟩
            · rw [if_neg hij] at he hi
              exact hc q m e hi he)
        refine ⟨_, ?_, q1, q2⟩
        simp [Instr.mapUpdate, run_underlying hu, hgo, run_checkKey hkd, Instr.findKey, run_underlying htd, hq, Instr.keyThatStays, hej, hsame, hset]
    · rename_i r hkk hf
      cases h
      obtain ⟨q, hq, hcase⟩ := findM_sound htd hk ms es.toList 0 (by simpa using hsz.symm) hc' _ hf
      rcases hcase with ⟨_, rfl⟩ | ⟨j, x', v', ho, _⟩
      · obtain ⟨q1, q2⟩ := fin (es.push { key := kv, val := vv, born := clock }) (clock + 1) (by simp [hsz]) (fun e he => by
            rcases Array.mem_push.1 he with h | h
            · exact Nat.lt_succ_of_lt (hborn e h)
            · subst h; exact Nat.lt_succ_self _) (by
            simp only [Array.toList_push, List.map_append, List.map_cons, List.map_nil]
            refine List.pairwise_append.2 ⟨hpw, by simp, fun a ha b hb => ?_⟩
            obtain ⟨e, he, rfl⟩ := List.mem_map.1 ha
            simp only [List.mem_singleton] at hb
            subst hb
            exact Nat.ne_of_lt (hborn e (by simpa using he))) (fun i m e hi he => by
            rcases Nat.lt_trichotomy i ms.length with hlt' | heq | hgt
            · rw [List.getElem?_append_left hlt'] at hi
              rw [Array.getElem?_push_lt (by omega)] at he
              exact hc i m e hi (by rw [Array.getElem?_eq_getElem (by omega)]; exact he)
            · subst heq
              rw [List.getElem?_append_right (Nat.le_refl _)] at hi
              simp at hi
              subst hi
              rw [← hsz] at he
              simp at he
              subst he
              exact ⟨eqK_none hkk hk, hv⟩
            · rw [List.getElem?_eq_none (by simp; omega)] at hi; cases hi)
        refine ⟨_, ?_, q1, q2⟩
        simp [Instr.mapUpdate, run_underlying hu, hgo, run_checkKey hkd, Instr.findKey, run_underlying htd, hq, hset]
      · cases ho
    · cases h

/-! ### Rows that are written within what is known of them -/

theorem HR.rowWrite {H : Heap} {c c0 : Nat} (hr : HR G Im w H c) {id g : Nat} {es xs : List (List AV)} (hrow : rowAt H id g = some es) {l : Loc} (hl : G g = some l) {cur : Array Value} {ty : TypeId} {fz : Nat × Nat}
    (hw : w.heap[l.r]? = some (.cells cur ty fz)) (hfz : FzOK fz cur.size) (hN : cur.size = l.N) (hb : l.base + es.length * l.sz ≤ l.N) (hz : ∀ e ∈ xs, e.length = l.sz) {vs : List Value} (hvs : Vs Im w G xs.flatten vs)
    (hvc : ∀ c ∈ xs.flatten, c.isCell = true) {k : Nat} (hk : k + xs.length ≤ es.length) :
    HR G Im (w.setRow l.r (cur.toList.take (l.base + k * l.sz) ++ vs ++ cur.toList.drop (l.base + k * l.sz + vs.length)).toArray) (H.set id (some (.cells g (es.take k ++ xs ++ es.drop (k + xs.length))))) c ∧
    Ext c0 G Im w H G Im (w.setRow l.r (cur.toList.take (l.base + k * l.sz) ++ vs ++ cur.toList.drop (l.base + k * l.sz + vs.length)).toArray) (H.set id (some (.cells g (es.take k ++ xs ++ es.drop (k + xs.length))))) := by
  have hid := rowAt_spec hrow
  obtain ⟨l', cur', ty', hl', ⟨fz', hw', _⟩, _, _, hzs, hc⟩ := hr.blk id _ hid
  rw [hl] at hl'
  cases hl'
  rw [hw] at hw'
  cases hw'
  have hvl : vs.length = xs.length * l.sz := by rw [← hvs.1, flatten_len _ hz]
  have hm : (k + xs.length) * l.sz ≤ es.length * l.sz := Nat.mul_le_mul_right _ hk
  rw [Nat.add_mul] at hm
  have hfit : l.base + k * l.sz + vs.length ≤ cur.size := by rw [hN, hvl]; omega
  obtain ⟨hg1, hg2, hg3⟩ := setRow_get w l.r (l.base + k * l.sz) cur ty fz vs hw hfit
  have hir : ∀ r, Im r → (w.setRow l.r (cur.toList.take (l.base + k * l.sz) ++ vs ++ cur.toList.drop (l.base + k * l.sz + vs.length)).toArray).heap[r]? = w.heap[r]? := fun r hi =>
    setRow_other w l.r r _ fun e => hr.notIm r ⟨id, _, l, hid, hl, e.symm⟩ hi
  refine hr.upd (b := .cells g (es.take k ++ xs ++ es.drop (k + xs.length))) (l := l) hid hl (Nat.le_refl _) (fun _ _ h => h) (fun _ _ h => .inl h) hl rfl (fun k b' hk => getElem?_set_some hk) (by simp) (fun r hne => setRow_other w l.r r _ hne) ?_ ⟨rfl, rfl, rfl⟩
  have htk : (es.take k).length = k := by rw [List.length_take]; omega
  refine ⟨l, _, ty, hl, ⟨fz, hg1, by rw [hg2]; exact hfz⟩, by rw [hg2]; exact hN, ?_, fun e he => ?_, fun i j e cc hi hj => ?_⟩
  · have : (es.take k ++ xs ++ es.drop (k + xs.length)).length = es.length := by simp; omega
    rw [this]; exact hb
  · rcases List.mem_append.1 he with he | he
    · rcases List.mem_append.1 he with he | he
      · exact hzs e (List.mem_of_mem_take he)
      · exact hz e he
    · exact hzs e (List.mem_of_mem_drop he)
  · have hold : ∀ i e, es[i]? = some e → e[j]? = some cc → (i < k ∨ k + xs.length ≤ i) → cc.isCell = true ∧ ∃ u, ((cur.toList.take (l.base + k * l.sz) ++ vs ++ cur.toList.drop (l.base + k * l.sz + vs.length)).toArray)[l.base + i * l.sz + j]? = some u ∧ V Im (w.setRow l.r (cur.toList.take (l.base + k * l.sz) ++ vs ++ cur.toList.drop (l.base + k * l.sz + vs.length)).toArray) G cc u := by
      intro i e hi hj hcase
      obtain ⟨q1, u, q2, q3⟩ := hc i j e cc hi hj
      refine ⟨q1, u, ?_, q3.mono (fun _ _ h => h) (fun _ h => h) hir⟩
      rw [hg3]
      have hjl : j < l.sz := by rw [← hzs e (List.mem_of_getElem? hi)]; exact (List.getElem?_eq_some_iff.1 hj).1
      rw [if_neg]
      · exact q2
      · rintro ⟨h1, h2⟩
        rcases hcase with h | h
        · have := Nat.mul_le_mul_right l.sz (show i + 1 ≤ k from h)
          rw [Nat.add_mul] at this
          omega
        · have := Nat.mul_le_mul_right l.sz h
          rw [Nat.add_mul] at this
          omega
    rcases Nat.lt_or_ge i k with hik | hik
    · rw [List.append_assoc, List.getElem?_append_left (by omega), List.getElem?_take, if_pos hik] at hi
      exact hold i e hi hj (.inl hik)
    · rw [List.append_assoc, List.getElem?_append_right (by omega), htk] at hi
      rcases Nat.lt_or_ge (i - k) xs.length with h2 | h2
      · rw [List.getElem?_append_left h2] at hi
        have hf := flatten_get xs (i - k) j e cc hz hi hj
        have hlt : (i - k) * l.sz + j < vs.length := by rw [← hvs.1]; exact (List.getElem?_eq_some_iff.1 hf).1
        refine ⟨hvc cc (List.mem_of_getElem? hf), vs[(i - k) * l.sz + j], ?_, (hvs.2 _ cc _ hf (List.getElem?_eq_getElem hlt)).mono (fun _ _ h => h) (fun _ h => h) hir⟩
        rw [hg3]
        have he : l.base + i * l.sz + j = l.base + k * l.sz + ((i - k) * l.sz + j) := by
          have : i * l.sz = k * l.sz + (i - k) * l.sz := by rw [← Nat.add_mul]; congr 1; omega
          omega
        rw [he, if_pos (by omega), Nat.add_sub_cancel_left]
        exact List.getElem?_eq_getElem hlt
      · rw [List.getElem?_append_right h2, List.getElem?_drop] at hi
        rw [show k + xs.length + (i - k - xs.length) = i by omega] at hi
        exact hold i e hi hj (.inr (by omega))

theorem bindT {t el : TypeId} {sz : Nat} (h : (elT P t).bind (szT P) = some sz) : ∃ el, P.underlying t = some (.slice el) ∧ szT P el = some sz := by
  cases he : elT P t with
  | none => simp [he] at h
  | some el => exact ⟨el, elT_spec he, by simpa [he] using h⟩

theorem sliceR_sound {H : Heap} {c : Nat} (hr : HR G Im w H c) {t : TypeId} {x a : AV} {xv u : Value} {z : AV} (hx : V Im w G x xv) (ha : V Im w G a u) (h : sliceR P H t x (some a) = some z) :
    ∃ v, (Instr.sliceAt t xv none (some u) none).run P w = .ok v w ∧ V Im w G z v := by
  unfold sliceR at h
  split at h
  case h_2 => cases h
  rename_i id g sz off len k n heq
  cases heq
  split at h
  case h_2 => cases h
  rename_i es hrow
  split at h
  case isFalse => cases h
  rename_i hcnd
  obtain ⟨hbt, hsz0, hn0, hle⟩ := hcnd
  cases h
  obtain ⟨el, hu, hszT⟩ := bindT (el := t) hbt
  obtain ⟨l, cur, ty, fz, hl, hw, hfz, hN, hb, hzs, hrd⟩ := rowAt_rows hr hrow
  have hue := ha.int_inv
  subst hue
  cases hx with
  | ref _ _ _ _ cap l' hl' hN' hcap =>
    rw [hl] at hl'
    cases hl'
    have hcapE : es.length ≤ off + cap := by
      rw [← hN'] at hb
      have : es.length * l.sz ≤ (off + cap) * l.sz := by omega
      exact Nat.le_of_mul_le_mul_right this (Nat.pos_of_ne_zero hsz0)
    have e := run_sliceBounds_of (P := P) (w := w) (isSlice := true) (len := len) (cap := cap) (l := 0) (h := n.toNat) (lo := none) (hi := some (.int k n)) (.inl ⟨rfl, rfl⟩) (.inr ⟨k, by rw [Int.toNat_of_nonneg hn0]⟩) (Nat.zero_le _) (by omega)
    refine ⟨_, run_sliceAt_of hu hszT e, ?_⟩
    have hadd : (if cap = 0 then (some ⟨l.r, l.base + off * l.sz, .none⟩ : Option Addr) else (some ⟨l.r, l.base + off * l.sz, .none⟩ : Option Addr).map (·.add (0 * l.sz))) = some ⟨l.r, l.base + off * l.sz, .none⟩ := by
      rw [Option.map_some, Addr.add_none]; simp
    rw [hadd]
    exact .ref id g off n.toNat cap l hl hN' (by omega)

theorem one_of_cells {xs : List AV} {vs : List Value} (hvs : Vs Im w G xs vs) (hvc : ∀ c ∈ xs, c.isCell = true) : ∀ v ∈ vs, v.oneCell' = true := fun v hv => by
  obtain ⟨k, hk⟩ := List.mem_iff_getElem?.1 hv
  have hklt : k < xs.length := by rw [hvs.1]; exact (List.getElem?_eq_some_iff.1 hk).1
  exact (hvs.2 k _ v (List.getElem?_eq_getElem hklt) hk).oneCell (hvc _ (List.getElem_mem hklt))

theorem appR_sound {H : Heap} {c c0 : Nat} (hr : HR G Im w H c) {t t' : TypeId} {d' : TypeDesc} {s x z : AV} {H' : Heap} {sv xv : Value} (hs : V Im w G s sv) (hx : V Im w G x xv) (h : appR P H t s x = some (z, H'))
    {ts : Array TypeId} {as : Array Value} (h0 : ts[0]? = some t) (h1 : ts[1]? = some t') (ha0 : as[0]? = some sv) (ha1 : as[1]? = some xv) (hu' : P.underlying t' = some d') (hd : (∃ e, d' = .slice e) ∨ d' = .string) (rt : TypeId) :
    ∃ v w', (Builtin.append_ ts rt as).run P w = .ok v w' ∧ HR G Im w' H' c ∧ Ext c0 G Im w H G Im w' H' ∧ V Im w' G z v := by
  unfold appR at h
  split at h
  case h_2 => cases h
  rename_i id g sz off len sz' xs hbt hxs
  split at h
  case h_2 => cases h
  rename_i es hrow
  split at h
  case isFalse => cases h
  rename_i hcnd
  obtain ⟨rfl, hsz0, hok, hle⟩ := hcnd
  cases h
  obtain ⟨el, hu, hszT⟩ := bindT (el := t) hbt
  obtain ⟨i, hi, his⟩ : ∃ i, P.info? el = some i ∧ i.size = sz' := by
    simp only [szT, Option.map_eq_some_iff] at hszT
    exact hszT
  obtain ⟨l, cur, ty, fz, hl, hw, hfz, hN, hb, hzs, hrd⟩ := rowAt_rows hr hrow
  cases hs with
  | ref _ _ _ _ cap l' hl' hN' hcap =>
    rw [hl] at hl'
    cases hl'
    obtain ⟨vs, hlen, hvl, hvs, hvc, hfirst⟩ := elemsX_sound (P := P) hr hx hxs hok
    rw [← his] at hfirst
    have hzz := szOK_spec hok
    have hcapE : es.length ≤ off + cap := by
      rw [← hN'] at hb
      have : es.length * l.sz ≤ (off + cap) * l.sz := by omega
      exact Nat.le_of_mul_le_mul_right this (Nat.pos_of_ne_zero hsz0)
    have hm : (off + len + xs.length) * l.sz ≤ es.length * l.sz := Nat.mul_le_mul_right _ hle
    rw [Nat.add_mul, Nat.add_mul] at hm
    have hrun := run_append_room' (P := P) (w := w) (n := xs.length) (sLen := len) (sCap := cap) (news := vs) h0 h1 l.r (l.base + off * l.sz) ha0 ha1 hu hu' hd hi hlen (hfirst w rfl) (by omega) hw hfz (by rw [his, hN, hvl]; omega) (one_of_cells hvs hvc) rt
    obtain ⟨q1, q2⟩ := hr.rowWrite (c0 := c0) hrow hl hw hfz hN hb hzz hvs hvc (k := off + len) (by omega)
    rw [his] at hrun
    rw [Nat.add_mul, ← Nat.add_assoc] at q1 q2
    exact ⟨_, _, hrun, q1, q2, .ref id g off (len + xs.length) cap l hl hN' (by omega)⟩

theorem copyX_sound {H : Heap} {c c0 : Nat} (hr : HR G Im w H c) {t : TypeId} {s x z : AV} {H' : Heap} {sv xv : Value} (hs : V Im w G s sv) (hx : V Im w G x xv) (h : copyX P H t s x = some (z, H'))
    {ts : Array TypeId} {as : Array Value} (h0 : ts[0]? = some t) (ha0 : as[0]? = some sv) (ha1 : as[1]? = some xv) (rt : TypeId) :
    ∃ v w', (Builtin.copy_ ts rt as).run P w = .ok v w' ∧ HR G Im w' H' c ∧ Ext c0 G Im w H G Im w' H' ∧ V Im w' G z v := by
  unfold copyX at h
  split at h
  case h_2 => cases h
  rename_i id g sz off len sz' xs hbt hxs
  split at h
  case h_2 => cases h
  rename_i es hrow
  split at h
  case isFalse => cases h
  rename_i hcnd
  obtain ⟨rfl, hsz0, hok, hxl, hle⟩ := hcnd
  cases h
  obtain ⟨el, hu, hszT⟩ := bindT (el := t) hbt
  obtain ⟨l, cur, ty, fz, hl, hw, hfz, hN, hb, hzs, hrd⟩ := rowAt_rows hr hrow
  cases hs with
  | ref _ _ _ _ cap l' hl' hN' hcap =>
    rw [hl] at hl'
    cases hl'
    obtain ⟨vs, hlen, hvl, hvs, hvc, hfirst⟩ := elemsX_sound (P := P) hr hx hxs hok
    have hzz := szOK_spec hok
    have hm : (off + len) * l.sz ≤ es.length * l.sz := Nat.mul_le_mul_right _ hle
    have hm2 : xs.length * l.sz ≤ len * l.sz := Nat.mul_le_mul_right _ hxl
    rw [Nat.add_mul] at hm
    have hst := run_storeCells_fz P l.r (l.base + off * l.sz) ty fz vs 0 cur w hw hfz (by rw [hN, hvl]; omega) (one_of_cells hvs hvc)
    simp only [Nat.add_zero] at hst
    obtain ⟨q1, q2⟩ := hr.rowWrite (c0 := c0) hrow hl hw hfz hN hb hzz hvs hvc (k := off) (by omega)
    have hmin : Nat.min xs.length len = xs.length := Nat.min_eq_left hxl
    refine ⟨_, _, ?_, q1, q2, .int _ _⟩
    simp [Builtin.copy_, h0, ha0, ha1, run_underlying hu, run_sizeOf' hszT, hlen, hmin, hfirst w rfl, hst, goInt]

theorem capX_sound {H : Heap} {c : Nat} (hr : HR G Im w H c) {ev : Operand → AV} {ρ : Operand → Value} (hev : ∀ x, V Im w G (ev x) (ρ x)) {o : Oper} {lo : Nat} (h : capX P o.op ev H = some lo) :
    ∃ n : Nat, lo ≤ n ∧ (execOp ρ o).run P w = .ok (.value (.int .i64 n)) w := by
  obtain ⟨dst, op, type, pos, after, guard⟩ := o
  simp only at h
  cases op <;> simp only [capX, reduceCtorEq] at h
  case call k =>
    obtain ⟨callee, args, tys⟩ := k
    simp only at h
    split at h
    case h_2 => cases h
    rename_i t x ht hx
    split at h
    case h_2 => cases h
    rename_i id g sz off len he
    split at h
    case h_2 => cases h
    rename_i es hrow
    split at h
    case isFalse => cases h
    rename_i hcnd
    cases h
    obtain ⟨hsl, hsz0⟩ := hcnd
    obtain ⟨e, hu⟩ := sliceT_spec hsl
    have hv := hev x
    rw [he] at hv
    obtain ⟨l, cur, ty, fz, hl, hw, hfz, hN, hb, hzs, hrd⟩ := rowAt_rows hr hrow
    generalize hq : ρ x = xv at hv
    cases hv with
    | ref _ _ _ _ cap l' hl' hN' hcap =>
      rw [hl] at hl'
      cases hl'
      have hcapE : es.length ≤ off + cap := by
        rw [← hN'] at hb
        have : es.length * l.sz ≤ (off + cap) * l.sz := by omega
        exact Nat.le_of_mul_le_mul_right this (Nat.pos_of_ne_zero hsz0)
      refine ⟨cap, by omega, ?_⟩
      have hx0 : (args.map ρ)[0]? = some (.slice (some ⟨l.r, l.base + off * l.sz, none⟩) len cap) := by simp [hx, hq]
      have hrun : (Builtin.cap_ tys type (args.map ρ)).run P w = .ok (.int .i64 cap) w := by
        simp [Builtin.cap_, ht, hx0, run_underlying hu, goInt]
      simp only [execOp, resolve, Sem.run_bind, Sem.run_pure, Result.andThen_ok, invoke, builtin, hrun]

theorem impX_sound {H : Heap} {c c0 : Nat} (hr : HR G Im w H c) (hc0 : c0 ≤ c) {ev : Operand → AV} {ρ : Operand → Value} (hev : ∀ x, V Im w G (ev x) (ρ x)) {o : Oper} {v : AV} {H' : Heap} {c' : Nat} (h : impX P o.op ev H c = some (v, H', c')) :
    ∃ nx w' G' Im' u, (execOp ρ o).run P w = .ok nx w' ∧ (nx = .value u ∨ (nx = .skip ∧ v = .dead)) ∧ HR G' Im' w' H' c' ∧ Ext c0 G Im w H G' Im' w' H' ∧ V Im' w' G' v u ∧ c ≤ c' := by
  obtain ⟨dst, op, type, pos, after, guard⟩ := o
  simp only at h
  cases op <;> simp only [impX, reduceCtorEq] at h
  case makeMap t r =>
    split at h
    case isFalse => cases h
    rename_i hmp
    obtain ⟨e, e', hu⟩ := mapT_spec hmp
    obtain ⟨w', G', rfl, h1, h2, h3⟩ := mapNew_sound (c0 := c0) hr hc0
    cases r with
    | none =>
      simp only [Option.map_none, Option.some.injEq, Prod.mk.injEq] at h
      obtain ⟨rfl, rfl, rfl⟩ := h
      exact ⟨_, _, G', Im, _, by simp [execOp, Instr.makeMap, newObj, Sem.run], .inl rfl, h1, h2, h3, Nat.le_succ _⟩
    | some x =>
      simp only [Option.map_some] at h
      split at h
      · rename_i hh; cases hh
      · rename_i k n hh
        simp only [Option.some.injEq] at hh
        simp only [Option.some.injEq, Prod.mk.injEq] at h
        obtain ⟨rfl, rfl, rfl⟩ := h
        have hx := hev x
        rw [hh] at hx
        have := hx.int_inv
        exact ⟨_, _, G', Im, _, by simp [execOp, Instr.makeMap, run_underlying hu, this, asInt, asIntOf, newObj, Sem.run], .inl rfl, h1, h2, h3, Nat.le_succ _⟩
      · cases h
  case mapUpdate t m k x =>
    split at h
    case h_2 => cases h
    rename_i kd el id g hkt hm
    split at h
    case h_2 => cases h
    rename_i g' ms hid
    split at h
    case isFalse => cases h
    rename_i hg
    subst hg
    simp only [Option.map_eq_some_iff, Prod.mk.injEq] at h
    obtain ⟨ms', hms, rfl, rfl, rfl⟩ := h
    have hmv := hev m
    rw [hm] at hmv
    obtain ⟨w', hrun, h1, h2⟩ := updM_sound (P := P) (c0 := c0) hr hkt hid hmv (hev k) (hev x) hms
    exact ⟨_, w', G, Im, undef, by simp only [execOp, Sem.run_bind, hrun, Result.andThen_ok, Sem.run_pure], .inr ⟨rfl, rfl⟩, h1, h2, .dead _, Nat.le_refl _⟩
  case convert s d x =>
    have hx := hev x
    split at h
    · rename_i b hb
      split at h
      case isFalse => cases h
      rename_i hcnd
      obtain ⟨hs, hd, hsz⟩ := hcnd
      simp only [Option.some.injEq, Prod.mk.injEq] at h
      obtain ⟨rfl, rfl, rfl⟩ := h
      rw [hb] at hx
      have hxe := hx.str_inv
      obtain ⟨e, h1, h2, _⟩ := bytT_spec hd
      obtain ⟨Im', q1, q2, q3⟩ := bytes_sound (c0 := c0) hr e b hsz
      have hrun := Lib.run_convert_string_bytes (P := P) w s d e b (strT_spec hs) h1 h2
      exact ⟨_, _, G, Im', _, by simp only [execOp, hxe, Sem.run_bind, hrun, Result.andThen_ok, Sem.run_pure], .inl rfl, q1, q2, q3, Nat.le_refl _⟩
    · rename_i id g sz off len hb
      split at h
      case isFalse => cases h
      rename_i hcnd
      obtain ⟨hs, hd, hsz1⟩ := hcnd
      split at h
      case h_2 => cases h
      rename_i es hes
      simp only [Option.map_eq_some_iff, Prod.mk.injEq] at h
      obtain ⟨l, hl, rfl, rfl, rfl⟩ := h
      rw [hb] at hx
      obtain ⟨hz, _, _⟩ := bytesX_spec (Im := Im) (w := w) (G := G) hl
      obtain ⟨vs, h1, h2, h3, h4, h5⟩ := elemsX_sound (P := P) hr hx hes hz
      obtain ⟨a, n, cap, hq⟩ : ∃ a n cap, ρ x = .slice a n cap := by
        cases hq : ρ x <;> rw [hq] at hx <;> cases hx
        exact ⟨_, _, _, rfl⟩
      rw [hq] at h1 h5
      have hn : n = es.length := by
        simp [Builtin.lenOf] at h1
        exact h1
      have hrun := cvt_bytes hs hd hl h3 hn (h5 w rfl)
      exact ⟨_, w, G, Im, _, by simp only [execOp, hq, Sem.run_bind, hrun, Result.andThen_ok, Sem.run_pure], .inl rfl, hr, Ext.refl _ _ _ _ _, .str _, Nat.le_refl _⟩
    · cases h
  case slice t x lo hi mx =>
    cases lo with
    | some _ => cases mx <;> simp at h
    | none =>
      cases mx with
      | some _ => simp at h
      | none =>
        simp only [Option.map_eq_some_iff, Prod.mk.injEq] at h
        obtain ⟨z, hz, rfl, rfl, rfl⟩ := h
        cases hi with
        | none => simp only [Option.map_none, sliceR] at hz; split at hz <;> simp at *
        | some y =>
          obtain ⟨r, hu, hv⟩ := sliceR_sound (P := P) hr (hev x) (hev y) hz
          exact ⟨_, w, G, Im, r, by simp only [execOp, Option.map_none, Option.map_some, Sem.run_bind, hu, Result.andThen_ok, Sem.run_pure], .inl rfl, hr, Ext.refl _ _ _ _ _, hv, Nat.le_refl _⟩
  case call k =>
    obtain ⟨callee, args, tys⟩ := k
    simp only at h
    split at h
    case h_3 => cases h
    · split at h
      case h_2 => cases h
      rename_i t t' s x ht ht' hs hx
      split at h
      case isFalse => cases h
      rename_i htt
      simp only [Option.map_eq_some_iff, Prod.mk.injEq, Prod.exists] at h
      obtain ⟨z, H2, ha, rfl, rfl, rfl⟩ := h
      obtain ⟨d', hu', hd⟩ : ∃ d', P.underlying t' = some d' ∧ ((∃ e, d' = .slice e) ∨ d' = .string) := by
        rcases Bool.or_eq_true_iff.1 htt with h | h
        · obtain ⟨e, he⟩ := sliceT_spec h; exact ⟨_, he, .inl ⟨e, rfl⟩⟩
        · exact ⟨_, strT_spec h, .inr rfl⟩
      obtain ⟨u, w', hrun, q1, q2, q3⟩ := appR_sound (P := P) (c0 := c0) hr (hev s) (hev x) ha (ts := tys) (as := args.map ρ) ht ht' (by simp [hs]) (by simp [hx]) hu' hd type
      exact ⟨_, w', G, Im, u, by simp only [execOp, resolve, Sem.run_bind, Sem.run_pure, Result.andThen_ok, invoke, builtin, hrun], .inl rfl, q1, q2, q3, Nat.le_refl _⟩
    · split at h
      case h_2 => cases h
      rename_i t s x ht hs hx
      simp only [Option.map_eq_some_iff, Prod.mk.injEq, Prod.exists] at h
      obtain ⟨z, H2, ha, rfl, rfl, rfl⟩ := h
      obtain ⟨u, w', hrun, q1, q2, q3⟩ := copyX_sound (P := P) (c0 := c0) hr (hev s) (hev x) ha (ts := tys) (as := args.map ρ) ht (by simp [hs]) (by simp [hx]) type
      exact ⟨_, w', G, Im, u, by simp only [execOp, resolve, Sem.run_bind, Sem.run_pure, Result.andThen_ok, invoke, builtin, hrun], .inl rfl, q1, q2, q3, Nat.le_refl _⟩

end Go.AX
