/-
AX, part 5: what makes or writes memory.
-/
import Derived.Test.YtoplaknmmglagaaDoorAX4
import Derived.Laws.CopyRow
import Derived.Laws.Append
set_option linter.unusedVariables false
set_option linter.unusedSimpArgs false
namespace Go.AX
variable {P : Program} {Im : Nat → Prop} {w : World} {G : Gens}

def setG (G : Gens) (g : Nat) (l : Loc) : Gens := fun x => if x = g then some l else G x
theorem setG_same (G : Gens) (g : Nat) (l : Loc) : setG G g l g = some l := by simp [setG]
theorem setG_ne {G : Gens} {g x : Nat} (l : Loc) (h : x ≠ g) : setG G g l x = G x := by simp [setG, h]
theorem setG_sub {G : Gens} {g : Nat} (l : Loc) (h : G g = none) : ∀ x m, G x = some m → setG G g l x = some m := fun x m hx => by
  by_cases e : x = g
  · subst e; rw [h] at hx; cases hx
  · rw [setG_ne l e]; exact hx

theorem BlkOK.mono {G G' : Gens} {Im Im' : Nat → Prop} {w w' : World} {b : Blk} (h : BlkOK G Im w b) (hG : ∀ g l, G g = some l → G' g = some l) (hI : ∀ r, Im r → Im' r)
    (hk : ∀ r, Im r → w'.heap[r]? = w.heap[r]?) (hb : ∀ l, G b.g = some l → w'.heap[l.r]? = w.heap[l.r]?) : BlkOK G' Im' w' b := by
  cases b with
  | cells g es =>
    obtain ⟨l, cs, t, hl, hw, hN, hb', hz, hc⟩ := h
    refine ⟨l, cs, t, hG _ _ hl, by rw [hb l hl]; exact hw, hN, hb', hz, fun i j e c hi hj => ?_⟩
    obtain ⟨h1, u, h2, h3⟩ := hc i j e c hi hj
    exact ⟨h1, u, h2, h3.mono hG hI hk⟩
  | mp g ms =>
    obtain ⟨l, es, clock, hl, hw, hsz, hborn, hpw, hc⟩ := h
    refine ⟨l, es, clock, hG _ _ hl, by rw [hb l hl]; exact hw, hsz, hborn, hpw, fun i m e hi he => ?_⟩
    obtain ⟨h1, h2⟩ := hc i m e hi he
    exact ⟨h1.mono (fun _ _ h => h) hI hk, h2.mono hG hI hk⟩

theorem BlkOK.gen {G : Gens} {Im : Nat → Prop} {w : World} {b : Blk} (h : BlkOK G Im w b) : ∃ l, G b.g = some l := by
  cases b with
  | cells g es => obtain ⟨l, _, _, hl, _⟩ := h; exact ⟨l, hl⟩
  | mp g ms => obtain ⟨l, _, _, hl, _⟩ := h; exact ⟨l, hl⟩

/-- A block more in memory, under a new generation, at one place of the heap. -/
theorem HR.new {H H' : Heap} {c c' c0 g id : Nat} {b : Blk} {l : Loc} {obj : Obj} {w' : World} (hr : HR G Im w H c) (hlr : l.r = w.heap.size) (hg : G g = none) (hgc : g < c') (hc : c ≤ c') (h0 : c0 ≤ g)
    (hH : ∀ (i : Nat) (b' : Blk), H'[i]? = some (some b') → (i = id ∧ b' = b) ∨ (i ≠ id ∧ H[i]? = some (some b'))) (hbg : b.g = g) (hw' : w'.heap = w.heap.push obj) (hb : BlkOK (setG G g l) Im w' b) (hso : SameOut w w') :
    HR (setG G g l) Im w' H' c' ∧ Ext c0 G Im w H (setG G g l) Im w' H' := by
  have hsz : w'.heap.size = w.heap.size + 1 := by rw [hw']; simp
  have hold : ∀ r, r < w.heap.size → w'.heap[r]? = w.heap[r]? := fun r hlt => by rw [hw', Array.getElem?_push_lt hlt, Array.getElem?_eq_getElem hlt]
  have hsub := setG_sub l hg
  have hgne : ∀ (i : Nat) (b' : Blk) (l' : Loc), H[i]? = some (some b') → setG G g l b'.g = some l' → G b'.g = some l' := fun i b' l' hi hl' => by
    obtain ⟨m, hm⟩ := (hr.blk i b' hi).gen
    rw [hsub _ _ hm] at hl'
    rw [← hl', hm]
  have hown : ∀ r, Owned (setG G g l) H' r → Owned G H r ∨ w.heap.size ≤ r := by
    rintro r ⟨i, b', l', hi, hl', rfl⟩
    rcases hH i b' hi with ⟨rfl, rfl⟩ | ⟨hne, hi'⟩
    · rw [hbg, setG_same] at hl'
      cases hl'
      exact .inr (by omega)
    · exact .inl ⟨i, b', l', hi', hgne i b' l' hi' hl', rfl⟩
  refine ⟨⟨fun i b' hi => ?_, fun i j b' b'' l' l'' hi hj hl' hl'' heq => ?_, fun r ho hi => ?_, fun g' l' h => ?_, fun g' l' h => ?_, fun r h => ?_⟩,
    ⟨hsub, fun _ h => h, fun _ h => .inl h, fun r hlt _ => hold r hlt, by omega, hown, fun g' hlt => ?_, hso⟩⟩
  · rcases hH i b' hi with ⟨rfl, rfl⟩ | ⟨hne, hi'⟩
    · exact hb
    · exact (hr.blk i b' hi').mono hsub (fun _ h => h) (fun r hir => hold r (hr.imLt r hir)) (fun l' hl' => hold _ (hr.lt _ _ hl'))
  · rcases hH i b' hi with ⟨rfl, rfl⟩ | ⟨hne, hi'⟩ <;> rcases hH j b'' hj with ⟨rfl, rfl⟩ | ⟨hne', hj'⟩
    · rfl
    · rw [hbg, setG_same] at hl'
      cases hl'
      have := hr.lt _ _ (hgne _ _ _ hj' hl'')
      omega
    · rw [hbg, setG_same] at hl''
      cases hl''
      have := hr.lt _ _ (hgne _ _ _ hi' hl')
      omega
    · exact hr.inj i j b' b'' l' l'' hi' hj' (hgne _ _ _ hi' hl') (hgne _ _ _ hj' hl'') heq
  · rcases hown r ho with h | h
    · exact hr.notIm r h hi
    · have := hr.imLt r hi; omega
  · by_cases e : g' = g
    · omega
    · rw [setG_ne l e] at h; exact Nat.lt_of_lt_of_le (hr.fresh _ _ h) hc
  · by_cases e : g' = g
    · subst e; rw [setG_same] at h; cases h; omega
    · rw [setG_ne l e] at h; have := hr.lt _ _ h; omega
  · have := hr.imLt r h; omega
  · exact setG_ne l (by omega)

/-- An owned block that is written: its content turns, and perhaps its generation. -/
theorem HR.upd {H H' : Heap} {c c' c0 id : Nat} {b b0 : Blk} {l l0 : Loc} {w' : World} {G' : Gens} (hr : HR G Im w H c) (hid : H[id]? = some (some b0)) (hl0 : G b0.g = some l0) (hc : c ≤ c')
    (hG : ∀ g m, G g = some m → G' g = some m) (hG' : ∀ g m, G' g = some m → G g = some m ∨ (g = b.g ∧ g < c' ∧ c0 ≤ g ∧ G g = none)) (hl : G' b.g = some l) (hlr : l.r = l0.r)
    (hH : ∀ (i : Nat) (b' : Blk), H'[i]? = some (some b') → (i = id ∧ b' = b) ∨ (i ≠ id ∧ H[i]? = some (some b'))) (hsz : w'.heap.size = w.heap.size) (hw' : ∀ r, r ≠ l0.r → w'.heap[r]? = w.heap[r]?)
    (hb : BlkOK G' Im w' b) (hso : SameOut w w') : HR G' Im w' H' c' ∧ Ext c0 G Im w H G' Im w' H' := by
  have ho0 : Owned G H l0.r := ⟨id, b0, l0, hid, hl0, rfl⟩
  have hgne : ∀ (i : Nat) (b' : Blk) (l' : Loc), H[i]? = some (some b') → G' b'.g = some l' → G b'.g = some l' := fun i b' l' hi hl' => by
    obtain ⟨m, hm⟩ := (hr.blk i b' hi).gen
    rw [hG _ _ hm] at hl'
    rw [← hl', hm]
  have hown : ∀ r, Owned G' H' r → Owned G H r := by
    rintro r ⟨i, b', l', hi, hl', rfl⟩
    rcases hH i b' hi with ⟨rfl, rfl⟩ | ⟨hne, hi'⟩
    · rw [hl] at hl'; cases hl'; rw [hlr]; exact ho0
    · exact ⟨i, b', l', hi', hgne i b' l' hi' hl', rfl⟩
  have hir : ∀ r, Im r → w'.heap[r]? = w.heap[r]? := fun r hi => hw' r fun e => hr.notIm r (e ▸ ho0) hi
  refine ⟨⟨fun i b' hi => ?_, fun i j b' b'' l' l'' hi hj hl' hl'' heq => ?_, fun r ho hi => hr.notIm r (hown r ho) hi, fun g' l' h => ?_, fun g' l' h => ?_, fun r h => by rw [hsz]; exact hr.imLt r h⟩,
    ⟨hG, fun _ h => h, fun _ h => .inl h, fun r hlt hn => hw' r fun e => hn (e ▸ ho0), by omega, fun r h => .inl (hown r h), fun g' hlt => ?_, hso⟩⟩
  · rcases hH i b' hi with ⟨rfl, rfl⟩ | ⟨hne, hi'⟩
    · exact hb
    · exact (hr.blk i b' hi').mono hG (fun _ h => h) hir (fun l' hl' => hw' _ fun e => hne (hr.inj i id b' b0 l' l0 hi' hid hl' hl0 e))
  · rcases hH i b' hi with ⟨rfl, rfl⟩ | ⟨hne, hi'⟩ <;> rcases hH j b'' hj with ⟨rfl, rfl⟩ | ⟨hne', hj'⟩
    · rfl
    · rw [hl] at hl'; cases hl'
      exact absurd (hr.inj _ _ b'' b0 l'' l0 hj' hid (hgne _ _ _ hj' hl'') hl0 (by rw [← heq, hlr])) hne'
    · rw [hl] at hl''; cases hl''
      exact absurd (hr.inj _ _ b' b0 l' l0 hi' hid (hgne _ _ _ hi' hl') hl0 (by rw [heq, hlr])) hne
    · exact hr.inj i j b' b'' l' l'' hi' hj' (hgne _ _ _ hi' hl') (hgne _ _ _ hj' hl'') heq
  · rcases hG' g' l' h with h | ⟨rfl, h, _⟩
    · exact Nat.lt_of_lt_of_le (hr.fresh _ _ h) hc
    · exact h
  · rw [hsz]
    rcases hG' g' l' h with h | ⟨rfl, _⟩
    · exact hr.lt _ _ h
    · rw [hl] at h; cases h; rw [hlr]; exact hr.lt _ _ hl0
  · cases hgg : G g' with
    | some m => rw [hG _ _ hgg]
    | none =>
      cases hgg' : G' g' with
      | none => rfl
      | some m =>
        rcases hG' _ _ hgg' with h | ⟨_, _, h, _⟩
        · rw [h] at hgg; cases hgg
        · omega

/-- Forgetting blocks. -/
theorem HR.weak {H H' : Heap} {c c' : Nat} (hr : HR G Im w H c) (hH : ∀ (i : Nat) (b : Blk), H'[i]? = some (some b) → H[i]? = some (some b)) (hc : c ≤ c') : HR G Im w H' c' where
  blk := fun i b h => hr.blk i b (hH i b h)
  inj := fun i j b b' l l' hi hj => hr.inj i j b b' l l' (hH _ _ hi) (hH _ _ hj)
  notIm := fun r ⟨i, b, l, hi, hl, e⟩ => hr.notIm r ⟨i, b, l, hH _ _ hi, hl, e⟩
  fresh := fun g l h => Nat.lt_of_lt_of_le (hr.fresh g l h) hc
  lt := hr.lt
  imLt := hr.imLt

theorem Ext.weak {c0 : Nat} {H H' : Heap} (hH : ∀ (i : Nat) (b : Blk), H'[i]? = some (some b) → H[i]? = some (some b)) : Ext c0 G Im w H G Im w H' where
  gen := fun _ _ h => h
  im := fun _ h => h
  imNew := fun _ h => .inl h
  keep := fun _ _ _ => rfl
  size := Nat.le_refl _
  own := fun r ⟨i, b, l, hi, hl, e⟩ => .inl ⟨i, b, l, hH _ _ hi, hl, e⟩
  old := fun _ _ => rfl
  out := .refl _

theorem getElem?_set_some {H : Heap} {id : Nat} {b : Blk} {i : Nat} {b' : Blk} (h : (H.set id (some b))[i]? = some (some b')) : (i = id ∧ b' = b) ∨ (i ≠ id ∧ H[i]? = some (some b')) := by
  rw [List.getElem?_set] at h
  split at h
  · rename_i e
    subst e
    split at h
    · simp at h; exact .inl ⟨rfl, h.symm⟩
    · cases h
  · rename_i e; exact .inr ⟨fun x => e x.symm, h⟩
theorem getElem?_push_some {H : Heap} {b : Blk} {i : Nat} {b' : Blk} (h : (H ++ [some b])[i]? = some (some b')) : (i = H.length ∧ b' = b) ∨ (i ≠ H.length ∧ H[i]? = some (some b')) := by
  rcases Nat.lt_trichotomy i H.length with hlt | rfl | hgt
  · rw [List.getElem?_append_left hlt] at h; exact .inr ⟨by omega, h⟩
  · simp at h; exact .inl ⟨rfl, h.symm⟩
  · rw [List.getElem?_eq_none (by simp; omega)] at h; cases h

/-- A row of cells stored, of which none is frozen. -/
theorem run_storeCells_fz (P : Program) (g o : Nat) (t : TypeId) (fz : Nat × Nat) : ∀ (vs : List Value) (i : Nat) (cur : Array Value) (w : World), w.heap[g]? = some (.cells cur t fz) → FzOK fz cur.size → o + i + vs.length ≤ cur.size → (∀ v ∈ vs, v.oneCell' = true) →
    (storeCells ⟨g, o, none⟩ vs i).run P w = .ok () (w.setRow g (cur.toList.take (o + i) ++ vs ++ cur.toList.drop (o + i + vs.length)).toArray)
  | [], i, cur, w, hg, hf, _, _ => by
    simp only [storeCells, List.append_nil, List.length_nil, Nat.add_zero, List.take_append_drop, Array.toArray_toList]
    rw [setRow_self w g cur t fz hg]
    rfl
  | v :: rest, i, cur, w, hg, hf, hl, h1 => by
    have hi : o + i < cur.size := by simp at hl; omega
    have hadd : (⟨g, o, none⟩ : Addr).add i = ⟨g, o + i, none⟩ := by unfold Addr.add; split <;> simp_all
    have hcell : w.cell? ⟨g, o + i, none⟩ = some cur[o + i] := by simp [World.cell?, hg, hi]
    have hfro : w.frozen? ⟨g, o + i, none⟩ = false := by
      have := hf.not (o + i) hi
      simp only [World.frozen?, hg]
      cases hh : (decide (fz.1 ≤ o + i) && decide (o + i < fz.2)) with
      | false => rfl
      | true => simp only [Bool.and_eq_true, decide_eq_true_eq] at hh; exact absurd hh this
    have hst : (store ((⟨g, o, none⟩ : Addr).add i) v).run P w = .ok () (w.setRow g (cur.setIfInBounds (o + i) v)) := by
      rw [hadd, run_store P w _ v _ (h1 v (by simp)), hcell]
      simp [hfro, setCell_eq_setRow w g (o + i) cur t fz v hg]
    have ih := run_storeCells_fz P g o t fz rest (i + 1) (cur.setIfInBounds (o + i) v) (w.setRow g (cur.setIfInBounds (o + i) v)) (setRow_heap w g cur _ t _ hg) (by simpa using hf) (by simp at hl ⊢; omega) (fun x hx => h1 x (by simp [hx]))
    simp only [storeCells, Sem.run_bind, hst, Result.andThen_ok, ih, setRow_setRow]
    congr 3
    have e := list_seg_step cur.toList (o + i) v rest (by simp at hl ⊢; omega)
    simpa [Array.toList_setIfInBounds, Nat.add_assoc] using e

/-- setRow: the cells behind a store. -/
theorem setRow_get (w : World) (r o : Nat) (cur : Array Value) (t : TypeId) (fz : Nat × Nat) (vs : List Value) (hg : w.heap[r]? = some (.cells cur t fz)) (hl : o + vs.length ≤ cur.size) :
    (w.setRow r (cur.toList.take o ++ vs ++ cur.toList.drop (o + vs.length)).toArray).heap[r]? = some (.cells (cur.toList.take o ++ vs ++ cur.toList.drop (o + vs.length)).toArray t fz) ∧
    (cur.toList.take o ++ vs ++ cur.toList.drop (o + vs.length)).toArray.size = cur.size ∧
    ∀ k, (cur.toList.take o ++ vs ++ cur.toList.drop (o + vs.length)).toArray[k]? = if o ≤ k ∧ k < o + vs.length then vs[k - o]? else cur[k]? := by
  refine ⟨setRow_heap w r cur _ t fz hg, by simp; omega, fun k => ?_⟩
  have ht : (cur.toList.take o).length = o := by simp; omega
  simp only [List.getElem?_toArray, List.append_assoc]
  by_cases h1 : k < o
  · rw [List.getElem?_append_left (by omega), List.getElem?_take, if_pos h1, if_neg (by omega)]
    simp
  · rw [List.getElem?_append_right (by omega), ht]
    by_cases h2 : k < o + vs.length
    · rw [List.getElem?_append_left (by omega), if_pos ⟨by omega, h2⟩]
    · rw [List.getElem?_append_right (by omega), List.getElem?_drop, if_neg (by omega), show o + vs.length + (k - o - vs.length) = k by omega]
      simp

theorem rowAt_spec {H : Heap} {id g : Nat} {es : List (List AV)} (h : rowAt H id g = some es) : H[id]? = some (some (.cells g es)) := by
  unfold rowAt at h
  split at h
  · rename_i g' es' hid
    split at h
    · rename_i hg; subst hg; cases h; exact hid
    · cases h
  · cases h

theorem storeX_sound {H H' : Heap} {c c0 : Nat} (hr : HR G Im w H c) {t : TypeId} {p x : AV} {pv xv : Value} (hp : V Im w G p pv) (hx : V Im w G x xv) (h : storeX P H t p x = some H') :
    ∃ w', (Instr.storeAt t pv xv).run P w = .ok () w' ∧ HR G Im w' H' c ∧ Ext c0 G Im w H G Im w' H' := by
  unfold storeX at h
  split at h
  case h_2 => cases h
  rename_i id g i j
  split at h
  case h_2 => cases h
  rename_i es cs n hrow hcs hn
  split at h
  case h_2 => cases h
  rename_i e hei
  split at h
  case isFalse => cases h
  rename_i hlen
  obtain ⟨hlen, hfit⟩ := hlen
  cases h
  have hid := rowAt_spec hrow
  obtain ⟨l, cur, ty, hl, ⟨fz, hw, hfz⟩, hN, hbase, hz, hc⟩ := hr.blk id _ hid
  cases hp with
  | ptr _ _ _ _ l' hl' =>
    rw [hl] at hl'
    cases hl'
    obtain ⟨hvs, hcell⟩ := hx.cells hcs
    have hel := hz e (List.mem_of_getElem? hei)
    have hilt : i < es.length := (List.getElem?_eq_some_iff.1 hei).1
    have hi1 : i * l.sz + l.sz ≤ es.length * l.sz := by rw [← Nat.succ_mul]; exact Nat.mul_le_mul_right _ hilt
    have hvl : xv.cells.toList.length = n := by rw [← hvs.1, hlen]
    have h1 : ∀ v ∈ xv.cells.toList, v.oneCell' = true := fun v hv => by
      obtain ⟨k, hk⟩ := List.mem_iff_getElem?.1 hv
      have hklt : k < cs.length := by rw [hvs.1]; exact (List.getElem?_eq_some_iff.1 hk).1
      have hck : cs[k]? = some cs[k] := List.getElem?_eq_getElem hklt
      exact (hvs.2 k _ v hck hk).oneCell (hcell _ (List.getElem_mem hklt))
    have hoff : l.base + i * l.sz + j + xv.cells.toList.length ≤ cur.size := by rw [hvl, hN]; omega
    have hst := run_storeCells_fz P l.r (l.base + i * l.sz + j) ty fz xv.cells.toList 0 cur w hw hfz (by simpa using hoff) h1
    simp only [Nat.add_zero] at hst
    obtain ⟨hg1, hg2, hg3⟩ := setRow_get w l.r (l.base + i * l.sz + j) cur ty fz xv.cells.toList hw hoff
    have hrun : (Instr.storeAt t (.pointer (some ⟨l.r, l.base + i * l.sz + j, .none⟩)) xv).run P w = .ok () (w.setRow l.r (cur.toList.take (l.base + i * l.sz + j) ++ xv.cells.toList ++ cur.toList.drop (l.base + i * l.sz + j + xv.cells.toList.length)).toArray) := by
      have : xv.cells.size = n := by simpa using hvl
      simp only [Instr.storeAt, Instr.sureAddr, storeVar, Sem.run_bind, Sem.run_pure, Result.andThen_ok, run_sizeOf' hn, this, ne_eq, not_true_eq_false, if_false]
      exact hst
    refine ⟨_, hrun, ?_⟩
    · refine hr.upd (b := .cells g (es.set i (e.take j ++ cs ++ e.drop (j + n)))) (l := l) hid hl (Nat.le_refl _) (fun _ _ h => h) (fun _ _ h => .inl h) hl rfl (fun k b' hk => getElem?_set_some hk) (by simp) (fun r hne => setRow_other w l.r r _ hne) ?_ ⟨rfl, rfl, rfl⟩
      have hir : ∀ r, Im r → (w.setRow l.r (cur.toList.take (l.base + i * l.sz + j) ++ xv.cells.toList ++ cur.toList.drop (l.base + i * l.sz + j + xv.cells.toList.length)).toArray).heap[r]? = w.heap[r]? := fun r hi =>
        setRow_other w l.r r _ fun e => hr.notIm r ⟨id, _, l, hid, hl, e.symm⟩ hi
      have hnl : (e.take j ++ cs ++ e.drop (j + n)).length = l.sz := by simp; omega
      refine ⟨l, _, ty, hl, ⟨fz, hg1, by rw [hg2]; exact hfz⟩, by rw [hg2]; exact hN, by simpa using hbase, fun e' he' => ?_, fun i' j' e' c' hi' hj' => ?_⟩
      · rcases List.mem_or_eq_of_mem_set he' with h | h
        · exact hz e' h
        · subst h; exact hnl
      · rw [hg3]
        rw [List.getElem?_set] at hi'
        split at hi'
        · rename_i hii
          subst hii
          cases hi'
          have htl : (e.take j).length = j := by simp; omega
          rw [List.append_assoc] at hj'
          by_cases ha : j' < j
          · rw [List.getElem?_append_left (by omega), List.getElem?_take, if_pos ha] at hj'
            obtain ⟨q1, u, q2, q3⟩ := hc i j' e c' hei hj'
            rw [if_neg (by omega)]
            exact ⟨q1, u, q2, q3.mono (fun _ _ h => h) (fun _ h => h) hir⟩
          · rw [List.getElem?_append_right (by omega), htl] at hj'
            by_cases hb : j' - j < cs.length
            · rw [List.getElem?_append_left hb] at hj'
              have hvk : xv.cells.toList[j' - j]? = some (xv.cells.toList[j' - j]'(by rw [← hvs.1]; exact hb)) := List.getElem?_eq_getElem _
              rw [if_pos (by omega), show l.base + i * l.sz + j' - (l.base + i * l.sz + j) = j' - j by omega]
              exact ⟨hcell _ (List.mem_of_getElem? hj'), _, hvk, (hvs.2 _ _ _ hj' hvk).mono (fun _ _ h => h) (fun _ h => h) hir⟩
            · rw [List.getElem?_append_right (by omega), List.getElem?_drop, show j + n + (j' - j - cs.length) = j' by omega] at hj'
              obtain ⟨q1, u, q2, q3⟩ := hc i j' e c' hei hj'
              rw [if_neg (by omega)]
              exact ⟨q1, u, q2, q3.mono (fun _ _ h => h) (fun _ h => h) hir⟩
        · rename_i hii
          obtain ⟨q1, u, q2, q3⟩ := hc i' j' e' c' hi' hj'
          have hj'lt : j' < l.sz := by rw [← hz e' (List.mem_of_getElem? hi')]; exact (List.getElem?_eq_some_iff.1 hj').1
          have hne : ¬ (l.base + i * l.sz + j ≤ l.base + i' * l.sz + j' ∧ l.base + i' * l.sz + j' < l.base + i * l.sz + j + xv.cells.toList.length) := by
            rcases Nat.lt_or_gt_of_ne hii with h | h
            · have : (i + 1) * l.sz ≤ i' * l.sz := Nat.mul_le_mul_right _ h
              rw [Nat.succ_mul] at this
              omega
            · have : (i' + 1) * l.sz ≤ i * l.sz := Nat.mul_le_mul_right _ h
              rw [Nat.succ_mul] at this
              omega
          rw [if_neg hne]
          exact ⟨q1, u, q2, q3.mono (fun _ _ h => h) (fun _ h => h) hir⟩

end Go.AX
