/-
AX, part 6: new blocks, struct values, append.
-/
import Derived.Test.YtoplaknmmglagaaDoorAX5
set_option linter.unusedVariables false
set_option linter.unusedSimpArgs false
namespace Go.AX
variable {P : Program} {Im : Nat → Prop} {w : World} {G : Gens}

theorem zeroT_spec {t : TypeId} {z : List AV} (h : zeroT P t = some z) : ∃ i zv, P.info? t = some i ∧ i.zero = some zv ∧ (∀ (Im : Nat → Prop) (w : World) (G : Gens), Vs Im w G z zv.cells.toList) ∧ ∀ c ∈ z, c.isCell = true := by
  unfold zeroT at h
  cases hi : P.info? t with
  | none => simp [hi] at h
  | some i =>
    cases hz : i.zero with
    | none => simp [hi, hz] at h
    | some zv =>
      simp only [hi, hz, Option.bind_some] at h
      exact ⟨i, zv, rfl, hz, fun Im w G => ((V_ofV zv).cells h).1, ((V_ofV (Im := fun _ => False) (w := default) (G := Gens.none) zv).cells h).2⟩

theorem run_zeroValue' {t : TypeId} {i : TypeInfo} {zv : Value} (hi : P.info? t = some i) (hz : i.zero = some zv) (w : World) : (zeroValue t).run P w = .ok zv w := by
  simp [zeroValue, typeInfo, hi, hz]

/-- A new row, as a block. -/
theorem BlkOK.ofNew {H : Heap} {c g sz : Nat} {arr : Array Value} {t : TypeId} {es : List (List AV)} {w' : World} (hr : HR G Im w H c) (hg : G g = none) (hw' : w'.heap = w.heap.push (.cells arr t)) (hsz : es.length * sz ≤ arr.size)
    (hz : ∀ e ∈ es, e.length = sz) (hc : ∀ (i j : Nat) (e : List AV) (c : AV), es[i]? = some e → e[j]? = some c → c.isCell = true ∧ ∃ u, arr[i * sz + j]? = some u ∧ V Im w G c u) :
    BlkOK (setG G g ⟨w.heap.size, 0, sz, arr.size⟩) Im w' (.cells g es) := by
  refine ⟨_, arr, t, setG_same _ _ _, ⟨(0, 0), by rw [hw']; simp, FzOK.zero⟩, rfl, by simpa using hsz, hz, fun i j e c hi hj => ?_⟩
  obtain ⟨h1, u, h2, h3⟩ := hc i j e c hi hj
  refine ⟨h1, u, by simpa using h2, h3.mono (setG_sub _ hg) (fun _ h => h) fun r hir => ?_⟩
  have hlt := hr.imLt r hir
  rw [hw', Array.getElem?_push_lt hlt, Array.getElem?_eq_getElem hlt]

theorem BlkOK.ofNew1 {H : Heap} {c g : Nat} {t : TypeId} {cs : List AV} {vs : Array Value} {w' : World} (hr : HR G Im w H c) (hg : G g = none) (hw' : w'.heap = w.heap.push (.cells vs t)) (hv : Vs Im w G cs vs.toList) (hc : ∀ c ∈ cs, c.isCell = true) :
    BlkOK (setG G g ⟨w.heap.size, 0, cs.length, vs.size⟩) Im w' (.cells g [cs]) := by
  have hl : cs.length = vs.size := by simpa using hv.1
  refine BlkOK.ofNew hr hg hw' (by simp [hl]) (by simp) fun i j e c hi hj => ?_
  cases i with
  | succ i => simp at hi
  | zero =>
    simp at hi
    subst hi
    have hjlt : j < vs.size := by rw [← hl]; exact (List.getElem?_eq_some_iff.1 hj).1
    exact ⟨hc c (List.mem_of_getElem? hj), vs[j], by simp [hjlt], hv.2 j c _ hj (by simp [hjlt])⟩

theorem foldl_put (off : Nat) : ∀ (vs : List Value) (k0 : Nat) (arr : Array Value), off + k0 + vs.length ≤ arr.size →
    ((vs.zipIdx k0).foldl (fun cs (x : Value × Nat) => cs.setIfInBounds (off + x.2) x.1) arr).size = arr.size ∧
    ∀ k, ((vs.zipIdx k0).foldl (fun cs (x : Value × Nat) => cs.setIfInBounds (off + x.2) x.1) arr)[k]? = if off + k0 ≤ k ∧ k < off + k0 + vs.length then vs[k - (off + k0)]? else arr[k]?
  | [], k0, arr, h => by simp <;> (try (intro k h1 h2; omega))
  | v :: vs, k0, arr, h => by
    simp only [List.zipIdx_cons, List.foldl_cons]
    simp only [List.length_cons] at h
    obtain ⟨h1, h2⟩ := foldl_put off vs (k0 + 1) (arr.setIfInBounds (off + k0) v) (by simp; omega)
    refine ⟨by rw [h1]; simp, fun k => ?_⟩
    rw [h2]
    by_cases ha : k = off + k0
    · subst ha
      rw [if_neg (by omega), if_pos (by simp)]
      have hlt : off + k0 < arr.size := by omega
      simp [hlt]
    · rw [Array.getElem?_setIfInBounds_ne (by omega)]
      by_cases hb : off + (k0 + 1) ≤ k ∧ k < off + (k0 + 1) + vs.length
      · rw [if_pos hb, if_pos (by simp; omega), show k - (off + k0) = (k - (off + (k0 + 1))) + 1 by omega]
        simp
      · rw [if_neg hb, if_neg (by simp; omega)]

theorem fold_cells (off : Nat) (v : Value) (arr : Array Value) (h : off + v.cells.size ≤ arr.size) :
    (v.cells.zipIdx.foldl (fun cs (c, j) => cs.setIfInBounds (off + j) c) arr).size = arr.size ∧
    ∀ k, (v.cells.zipIdx.foldl (fun cs (c, j) => cs.setIfInBounds (off + j) c) arr)[k]? = if off ≤ k ∧ k < off + v.cells.size then v.cells[k - off]? else arr[k]? := by
  have := foldl_put off v.cells.toList 0 arr (by simpa using h)
  rw [← Array.foldl_toList, Array.toList_zipIdx]
  simpa using this

/-- Lists of cells beside arrays. -/
def Lay (Im : Nat → Prop) (w : World) (G : Gens) (z : List AV) (arr : Array Value) : Prop := z.length = arr.size ∧ ∀ (k : Nat) (c : AV), z[k]? = some c → c.isCell = true ∧ ∃ u, arr[k]? = some u ∧ V Im w G c u

theorem Lay.vs {z : List AV} {arr : Array Value} (h : Lay Im w G z arr) : Vs Im w G z arr.toList ∧ ∀ c ∈ z, c.isCell = true := by
  refine ⟨⟨by simpa using h.1, fun j c u hj hu => ?_⟩, fun c hc => ?_⟩
  · obtain ⟨_, u', hu', hv⟩ := h.2 j c hj
    rw [Array.getElem?_toList, hu'] at hu
    cases hu
    exact hv
  · obtain ⟨k, hk⟩ := List.mem_iff_getElem?.1 hc
    exact (h.2 k c hk).1
theorem Lay.of_vs {z : List AV} {arr : Array Value} (h : Vs Im w G z arr.toList) (hc : ∀ c ∈ z, c.isCell = true) : Lay Im w G z arr := by
  refine ⟨by simpa using h.1, fun k c hk => ⟨hc c (List.mem_of_getElem? hk), ?_⟩⟩
  have hlt : k < arr.size := by have := (List.getElem?_eq_some_iff.1 hk).1; rw [h.1] at this; simpa using this
  exact ⟨arr[k], by simp [hlt], h.2 k c _ hk (by simp [hlt])⟩

theorem fillX_sound {pl : List (Nat × Nat)} : ∀ (parts : List (Nat × AV)) (vparts : List (Nat × Value)) (z z' : List AV) (arr : Array Value), Lay Im w G z arr →
    parts.length = vparts.length → (∀ (k : Nat) (p : Nat × AV) (q : Nat × Value), parts[k]? = some p → vparts[k]? = some q → p.1 = q.1 ∧ V Im w G p.2 q.2) → fillX pl z parts = some z' →
    ∃ arr', Instr.fill (pl.toArray[·]?) arr vparts = some arr' ∧ Lay Im w G z' arr'
  | [], [], z, z', arr, hl, _, _, h => by simp [fillX] at h; subst h; exact ⟨arr, rfl, hl⟩
  | [], _ :: _, _, _, _, _, h, _, _ => by simp at h
  | _ :: _, [], _, _, _, _, h, _, _ => by simp at h
  | (f, x) :: parts, (f', v) :: vparts, z, z', arr, hl, hlen, hp, h => by
    obtain ⟨hf, hv⟩ := hp 0 _ _ rfl rfl
    simp only at hf hv
    subst hf
    simp only [fillX] at h
    split at h
    case h_2 => cases h
    rename_i off n hpl
    split at h
    case h_2 => cases h
    rename_i cs hcs
    split at h
    case isFalse => cases h
    rename_i hc
    obtain ⟨rfl, hfit⟩ := hc
    obtain ⟨hvs, hcell⟩ := hv.cells hcs
    have hvl : v.cells.size = cs.length := by simpa using hvs.1.symm
    have hfit' : off + v.cells.size ≤ arr.size := by rw [hvl, ← hl.1]; exact hfit
    obtain ⟨s1, s2⟩ := fold_cells off v arr hfit'
    have hlay : Lay Im w G (z.take off ++ cs ++ z.drop (off + cs.length)) (v.cells.zipIdx.foldl (fun cs (c, j) => cs.setIfInBounds (off + j) c) arr) := by
      refine ⟨by rw [s1, ← hl.1]; simp; omega, fun k c hk => ?_⟩
      rw [s2]
      have htl : (z.take off).length = off := by simp; omega
      rw [List.append_assoc] at hk
      by_cases ha : k < off
      · rw [List.getElem?_append_left (by omega), List.getElem?_take, if_pos ha] at hk
        rw [if_neg (by omega)]
        exact hl.2 k c hk
      · rw [List.getElem?_append_right (by omega), htl] at hk
        by_cases hb : k - off < cs.length
        · rw [List.getElem?_append_left hb] at hk
          rw [if_pos (by omega)]
          exact (Lay.of_vs hvs hcell).2 _ c hk
        · rw [List.getElem?_append_right (by omega), List.getElem?_drop, show off + cs.length + (k - off - cs.length) = k by omega] at hk
          rw [if_neg (by omega)]
          exact hl.2 k c hk
    obtain ⟨arr', ha1, ha2⟩ := fillX_sound parts vparts _ z' _ hlay (by simpa using hlen) (fun k p q hk hq => hp (k + 1) p q (by simpa using hk) (by simpa using hq)) h
    refine ⟨arr', ?_, ha2⟩
    have hnot : ¬ ((v.cells.size ≠ cs.length || decide (off + v.cells.size > arr.size)) = true) := by simp [hvl]; rw [← hl.1]; omega
    have hpl' : pl.toArray[f]? = some (off, cs.length) := by simpa using hpl
    unfold Instr.fill
    simp only [hpl']
    rw [if_neg hnot]
    exact ha1

theorem build_sound {t : TypeId} {z cs : List AV} {pl : List (Nat × Nat)} {parts : List (Nat × AV)} {vparts : Array (Nat × Value)} (hz : zeroT P t = some z) (hpl : placesT P t = some pl)
    (hlen : parts.length = vparts.toList.length) (hp : ∀ (k : Nat) (p : Nat × AV) (q : Nat × Value), parts[k]? = some p → vparts.toList[k]? = some q → p.1 = q.1 ∧ V Im w G p.2 q.2) (h : fillX pl z parts = some cs) :
    ∃ v, (Instr.build t vparts).run P w = .ok v w ∧ V Im w G (.agg cs) v := by
  obtain ⟨i, zv, hi, hzv, hvs, hcell⟩ := zeroT_spec hz
  obtain ⟨arr', ha1, ha2⟩ := fillX_sound parts vparts.toList z cs zv.cells (Lay.of_vs (hvs Im w G) hcell) hlen hp h
  unfold placesT at hpl
  split at hpl
  case h_2 => cases hpl
  rename_i fs hu
  refine ⟨.agg arr', run_build w t vparts arr' ?_, ?_⟩
  · simp only [Program.built, hi, hu, hzv, hpl]
    exact ha1
  · have := ha2.vs
    have h2 := V.agg (G := G) cs arr'.toList this.1.1 this.2 this.1.2
    simpa using h2

/-- Elements beside an array. -/
def LayE (Im : Nat → Prop) (w : World) (G : Gens) (sz : Nat) (es : List (List AV)) (arr : Array Value) : Prop :=
  es.length * sz = arr.size ∧ (∀ e ∈ es, e.length = sz) ∧ ∀ (i j : Nat) (e : List AV) (c : AV), es[i]? = some e → e[j]? = some c → c.isCell = true ∧ ∃ u, arr[i * sz + j]? = some u ∧ V Im w G c u

theorem LayE.zeros {z : List AV} {zv : Value} (hvs : Vs Im w G z zv.cells.toList) (hcell : ∀ c ∈ z, c.isCell = true) (hz0 : z.length ≠ 0) (n : Nat) :
    LayE Im w G z.length (List.replicate n z) ((Array.range (n * z.length)).map (zv.cells[· % zv.cells.size]!)) := by
  have hl : zv.cells.size = z.length := by simpa using hvs.1.symm
  refine ⟨by simp, fun e he => by rw [List.eq_of_mem_replicate he], fun i j e c hi hj => ?_⟩
  have hi' := List.getElem?_eq_some_iff.1 hi
  obtain ⟨hlt, he⟩ := hi'
  simp at hlt he
  subst he
  have hj' := (List.getElem?_eq_some_iff.1 hj).1
  have hlt2 : i * z.length + j < n * z.length := by
    have : (i + 1) * z.length ≤ n * z.length := Nat.mul_le_mul_right _ hlt
    rw [Nat.succ_mul] at this
    omega
  have hmod : (i * z.length + j) % z.length = j := by rw [Nat.add_comm, Nat.add_mul_mod_self_right, Nat.mod_eq_of_lt hj']
  have hjv : j < zv.cells.size := by omega
  refine ⟨hcell c (List.mem_of_getElem? hj), zv.cells[j], ?_, hvs.2 j c _ hj (by simp [hjv])⟩
  simp [hlt2, hl, hmod]
  rw [getElem!_pos zv.cells j hjv]

theorem LayE.set {sz i : Nat} {es : List (List AV)} {arr : Array Value} {cs : List AV} {v : Value} (h : LayE Im w G sz es arr) (hcs : cs.length = sz) (hi : i < es.length) (hvs : Vs Im w G cs v.cells.toList) (hcell : ∀ c ∈ cs, c.isCell = true) :
    i * sz + v.cells.size ≤ arr.size ∧ LayE Im w G sz (es.set i cs) (v.cells.zipIdx.foldl (fun cs (c, j) => cs.setIfInBounds (i * sz + j) c) arr) := by
  have hvl : v.cells.size = cs.length := by simpa using hvs.1.symm
  have hfit : i * sz + v.cells.size ≤ arr.size := by
    rw [← h.1, hvl, hcs]
    have : (i + 1) * sz ≤ es.length * sz := Nat.mul_le_mul_right _ hi
    rwa [Nat.succ_mul] at this
  obtain ⟨s1, s2⟩ := fold_cells (i * sz) v arr hfit
  refine ⟨hfit, by rw [s1]; simpa using h.1, fun e he => ?_, fun i' j' e' c' hi' hj' => ?_⟩
  · rcases List.mem_or_eq_of_mem_set he with h' | h'
    · exact h.2.1 e h'
    · subst h'; exact hcs
  · rw [s2]
    rw [List.getElem?_set] at hi'
    split at hi'
    · rename_i hii
      subst hii
      cases hi'
      have hjlt := (List.getElem?_eq_some_iff.1 hj').1
      rw [if_pos (by omega), show i * sz + j' - i * sz = j' by omega]
      exact (Lay.of_vs hvs hcell).2 _ c' hj'
    · rename_i hii
      have hjlt : j' < sz := by rw [← h.2.1 e' (List.mem_of_getElem? hi')]; exact (List.getElem?_eq_some_iff.1 hj').1
      have hne : ¬ (i * sz ≤ i' * sz + j' ∧ i' * sz + j' < i * sz + v.cells.size) := by
        rcases Nat.lt_or_gt_of_ne hii with h | h
        · have : (i + 1) * sz ≤ i' * sz := Nat.mul_le_mul_right _ h
          rw [Nat.succ_mul] at this
          omega
        · have : (i' + 1) * sz ≤ i * sz := Nat.mul_le_mul_right _ h
          rw [Nat.succ_mul] at this
          omega
      rw [if_neg hne]
      exact h.2.2 i' j' e' c' hi' hj'

theorem partsX_sound {sz : Nat} : ∀ (parts : List (Nat × AV)) (vparts : List (Nat × Value)) (es es' : List (List AV)) (arr : Array Value), LayE Im w G sz es arr →
    parts.length = vparts.length → (∀ (k : Nat) (p : Nat × AV) (q : Nat × Value), parts[k]? = some p → vparts[k]? = some q → p.1 = q.1 ∧ V Im w G p.2 q.2) → partsX sz es parts = some es' →
    ∃ arr', Instr.fill (fun i => some (i * sz, sz)) arr vparts = some arr' ∧ LayE Im w G sz es' arr'
  | [], [], es, es', arr, hl, _, _, h => by simp [partsX] at h; subst h; exact ⟨arr, rfl, hl⟩
  | [], _ :: _, _, _, _, _, h, _, _ => by simp at h
  | _ :: _, [], _, _, _, _, h, _, _ => by simp at h
  | (f, x) :: parts, (f', v) :: vparts, es, es', arr, hl, hlen, hp, h => by
    obtain ⟨hf, hv⟩ := hp 0 _ _ rfl rfl
    simp only at hf hv
    subst hf
    simp only [partsX] at h
    split at h
    case h_2 => cases h
    rename_i cs hcs
    split at h
    case isFalse => cases h
    rename_i hc
    obtain ⟨hcl, hfit⟩ := hc
    obtain ⟨hvs, hcell⟩ := hv.cells hcs
    have hvl : v.cells.size = cs.length := by simpa using hvs.1.symm
    obtain ⟨hfit', hl'⟩ := hl.set hcl hfit hvs hcell
    obtain ⟨arr', ha1, ha2⟩ := partsX_sound parts vparts _ es' _ hl' (by simpa using hlen) (fun k p q hk hq => hp (k + 1) p q (by simpa using hk) (by simpa using hq)) h
    refine ⟨arr', ?_, ha2⟩
    simp only [Instr.fill]
    rw [if_neg (by simp [hvl, hcl]; rw [hvl, hcl] at hfit'; omega)]
    exact ha1

end Go.AX
