/-
AX, part 7: append.
-/
import Derived.Test.YtoplaknmmglagaaDoorAX6
set_option linter.unusedVariables false
set_option linter.unusedSimpArgs false
namespace Go.AX
variable {P : Program} {Im : Nat → Prop} {w : World} {G : Gens}

theorem flatten_len {sz : Nat} : ∀ (es : List (List AV)), (∀ e ∈ es, e.length = sz) → es.flatten.length = es.length * sz
  | [], _ => by simp
  | e :: es, h => by simp [h e (by simp), flatten_len es fun x hx => h x (by simp [hx]), Nat.succ_mul, Nat.add_comm]

theorem flatten_get {sz : Nat} : ∀ (es : List (List AV)) (i j : Nat) (e : List AV) (c : AV), (∀ e ∈ es, e.length = sz) → es[i]? = some e → e[j]? = some c → es.flatten[i * sz + j]? = some c
  | [], i, j, e, c, _, h, _ => by simp at h
  | e0 :: es, 0, j, e, c, hz, h, hj => by
    simp at h
    subst h
    simp only [List.flatten_cons, Nat.zero_mul, Nat.zero_add]
    rw [List.getElem?_append_left (List.getElem?_eq_some_iff.1 hj).1]
    exact hj
  | e0 :: es, i + 1, j, e, c, hz, h, hj => by
    have h0 := hz e0 (by simp)
    have := flatten_get es i j e c (fun x hx => hz x (by simp [hx])) (by simpa using h) hj
    simp only [List.flatten_cons]
    rw [List.getElem?_append_right (by rw [h0, Nat.succ_mul]; omega), h0, show (i + 1) * sz + j - sz = i * sz + j by rw [Nat.succ_mul]; omega]
    exact this

theorem flatten_back {sz : Nat} : ∀ (es : List (List AV)) (k : Nat) (c : AV), (∀ e ∈ es, e.length = sz) → es.flatten[k]? = some c → ∃ i j e, k = i * sz + j ∧ es[i]? = some e ∧ e[j]? = some c
  | [], k, c, _, h => by simp at h
  | e0 :: es, k, c, hz, h => by
    have h0 := hz e0 (by simp)
    simp only [List.flatten_cons] at h
    by_cases hk : k < e0.length
    · rw [List.getElem?_append_left hk] at h
      exact ⟨0, k, e0, by simp, rfl, h⟩
    · rw [List.getElem?_append_right (by omega)] at h
      obtain ⟨i, j, e, h1, h2, h3⟩ := flatten_back es _ c (fun x hx => hz x (by simp [hx])) h
      exact ⟨i + 1, j, e, by rw [Nat.succ_mul]; omega, by simpa using h2, h3⟩

theorem szOK_spec {sz : Nat} {es : List (List AV)} (h : szOK sz es = true) : ∀ e ∈ es, e.length = sz := fun e he => by
  have := List.all_eq_true.1 h e he
  simpa using this

/-- Rows that can be read, from a place on. -/
theorem rows_rd {b o sz : Nat} {es : List (List AV)} (hz : ∀ e ∈ es, e.length = sz)
    (h : ∀ (i j : Nat) (e : List AV) (c : AV), es[i]? = some e → e[j]? = some c → c.isCell = true ∧ ∃ u, w.cell? ⟨b, o + i * sz + j, .none⟩ = some u ∧ V Im w G c u) : Rd Im w G b o es.flatten := fun k c hk => by
  obtain ⟨i, j, e, rfl, h2, h3⟩ := flatten_back es k c hz hk
  have := h i j e c h2 h3
  rwa [← Nat.add_assoc]

theorem run_firstCells_heap {b o sz n len cap : Nat} {vs : List Value} (hl : vs.length = n * sz) (h : ∀ (j : Nat) (v : Value), vs[j]? = some v → w.cell? ⟨b, o + j, .none⟩ = some v) (W : World) (hW : W.heap = w.heap) :
    (Builtin.firstCells sz n (.slice (some ⟨b, o, .none⟩) len cap)).run P W = .ok vs.toArray W :=
  run_firstCells_some W sz n _ len cap vs hl fun j v hv => by
    rw [Addr.add_none, World.cell?_of_block (w := w) (w' := W) (by rw [hW])]
    exact h j v hv

theorem rowAt_rows {H : Heap} {c : Nat} (hr : HR G Im w H c) {id g : Nat} {es : List (List AV)} (h : rowAt H id g = some es) : ∃ l cur t fz, G g = some l ∧ w.heap[l.r]? = some (.cells cur t fz) ∧ FzOK fz cur.size ∧ cur.size = l.N ∧ l.base + es.length * l.sz ≤ l.N ∧ (∀ e ∈ es, e.length = l.sz) ∧
    ∀ (off len : Nat), off + len ≤ es.length → Rd Im w G l.r (l.base + off * l.sz) ((es.drop off).take len).flatten := by
  obtain ⟨l, cur, t, hl, ⟨fz, hw, hfz⟩, hN, hb, hz, hc⟩ := hr.blk id _ (rowAt_spec h)
  refine ⟨l, cur, t, fz, hl, hw, hfz, hN, hb, hz, fun off len hle => rows_rd (fun e he => hz e (List.mem_of_mem_drop (List.mem_of_mem_take he))) fun i j e c hi hj => ?_⟩
  rw [List.getElem?_take, List.getElem?_drop] at hi
  split at hi
  · obtain ⟨h1, u, h2, h3⟩ := hc (off + i) j e c hi hj
    refine ⟨h1, u, ?_, h3⟩
    have : l.base + off * l.sz + i * l.sz + j = l.base + (off + i) * l.sz + j := by rw [Nat.add_mul]; omega
    rw [this]
    simp [World.cell?, hw, h2]
  · cases hi

theorem elemsX_sound {H : Heap} {c sz : Nat} (hr : HR G Im w H c) {x : AV} {xv : Value} {xs : List (List AV)} (hx : V Im w G x xv) (h : elemsX H x = some xs) (hz : szOK sz xs = true) :
    ∃ vs : List Value, (Builtin.lenOf xv).run P w = .ok xs.length w ∧ vs.length = xs.length * sz ∧ Vs Im w G xs.flatten vs ∧ (∀ c ∈ xs.flatten, c.isCell = true) ∧
      ∀ W : World, W.heap = w.heap → (Builtin.firstCells sz xs.length xv).run P W = .ok vs.toArray W := by
  have hzz := szOK_spec hz
  unfold elemsX at h
  split at h
  case h_5 => cases h
  case h_1 es =>
    cases h
    cases hx with
    | vec0 a cap =>
      refine ⟨[], rfl, by simp, Vs.nil, by simp, fun W hW => ?_⟩
      cases a with
      | none => simp [Builtin.firstCells]
      | some ad => simp [Builtin.firstCells, loadCells, loadCellsFrom]
    | vec _ ad cap sz' us hc hs him hzs hcell hv =>
      by_cases he : xs = []
      · subst he
        refine ⟨[], rfl, by simp, Vs.nil, by simp, fun W hW => by simp [Builtin.firstCells, loadCells, loadCellsFrom]⟩
      · obtain ⟨e0, he0⟩ := List.exists_mem_of_ne_nil xs he
        have hszz : sz' = sz := by rw [← hzs e0 he0, hzz e0 he0]
        subst hszz
        obtain ⟨vs, hvs, hcc, hrd⟩ := Rd.values (rows_rd hzs fun i j e c hi hj => ⟨(hcell i j e c hi hj).1, _, (hcell i j e c hi hj).2, (hv i j e c hi hj).of_none⟩ : Rd Im w G ad.block ad.off xs.flatten)
        have hl : vs.length = xs.length * sz' := by rw [← hvs.1, flatten_len xs hzs]
        refine ⟨vs, rfl, hl, hvs, hcc, fun W hW => ?_⟩
        rw [Addr.eta_none hs]
        exact run_firstCells_heap hl hrd W hW
  case h_2 =>
    cases h
    cases hx
    exact ⟨[], rfl, by simp, Vs.nil, by simp, fun W hW => by simp [Builtin.firstCells]⟩
  case h_3 id g sz' off len =>
    split at h
    case h_2 => cases h
    rename_i es hrow
    split at h
    case isFalse => cases h
    rename_i hle
    cases h
    obtain ⟨l, cur, t, fz, hl, hw, hfz, hN, hb, hzs, hrd⟩ := rowAt_rows hr hrow
    cases hx with
    | ref _ _ _ _ cap l' hl' hN' hcap =>
      rw [hl] at hl'
      cases hl'
      have hlen : ((es.drop off).take len).length = len := by simp; omega
      obtain ⟨vs, hvs, hcc, hr'⟩ := Rd.values (hrd off len hle)
      by_cases hn : len = 0
      · subst hn
        refine ⟨[], ?_, by simp, by simpa using Vs.nil, by simp, fun W hW => by simp [Builtin.firstCells, loadCells, loadCellsFrom]⟩
        rw [hlen]; rfl
      · have hne : (es.drop off).take len ≠ [] := by intro h0; rw [h0] at hlen; simp at hlen; omega
        obtain ⟨e0, he0⟩ := List.exists_mem_of_ne_nil _ hne
        have hszz : l.sz = sz := by rw [← hzz e0 he0, hzs e0 (List.mem_of_mem_drop (List.mem_of_mem_take he0))]
        have hl : vs.length = ((es.drop off).take len).length * sz := by rw [← hvs.1, flatten_len _ hzz]
        refine ⟨vs, by rw [hlen]; rfl, hl, hvs, hcc, fun W hW => ?_⟩
        exact run_firstCells_heap hl hr' W hW
  case h_4 s =>
    cases h
    obtain rfl := hx.str_inv
    have hlen : (s.data.toList.map fun b : UInt8 => [AV.int .u8 b.toNat]).length = s.size := by simp
    have hfl : ∀ l : List UInt8, (l.map fun b : UInt8 => [AV.int .u8 b.toNat]).flatten = l.map fun b => AV.int .u8 b.toNat := fun l => by induction l <;> simp_all
    refine ⟨s.data.toList.map fun b => Value.int .u8 b.toNat, by rw [hlen]; rfl, ?_, ?_, ?_, fun W hW => ?_⟩
    · rw [List.length_map, List.length_map]
      cases hs : s.data.toList with
      | nil => simp
      | cons b l =>
        have := hzz [AV.int .u8 b.toNat] (by rw [hs]; simp)
        simp at this
        subst this
        simp
    · rw [hfl]
      exact Vs.map _ _ _ fun b _ => .int _ _
    · rw [hfl]
      intro c hc
      obtain ⟨b, _, rfl⟩ := List.mem_map.1 hc
      rfl
    · rw [hlen]
      have hx : (s.extract 0 s.size).data = s.data := by
        rw [ByteArray.extract_zero_size]
      simp only [Builtin.firstCells]
      show Result.ok _ W = _
      rw [hx]
      congr 1
      apply Array.ext'
      simp

section
variable {t t' el : TypeId} {d' : TypeDesc} {i : TypeInfo} {ts : Array TypeId} {as : Array Value} {xv : Value} {n sLen sCap : Nat} {news : List Value}
theorem run_append_room' (h0 : ts[0]? = some t) (h1 : ts[1]? = some t') (r o : Nat) (ha0 : as[0]? = some (.slice (some ⟨r, o, .none⟩) sLen sCap)) (ha1 : as[1]? = some xv) (hu : P.underlying t = some (.slice el))
    (hu' : P.underlying t' = some d') (hd : (∃ e, d' = .slice e) ∨ d' = .string) (hi : P.info? el = some i) (hlen : (Builtin.lenOf xv).run P w = .ok n w) (hfirst : (Builtin.firstCells i.size n xv).run P w = .ok news.toArray w)
    (hroom : sLen + n ≤ sCap) {cur : Array Value} {ty : TypeId} {fz : Nat × Nat} (hg : w.heap[r]? = some (.cells cur ty fz)) (hfz : FzOK fz cur.size) (hfit : o + sLen * i.size + news.length ≤ cur.size) (hone : ∀ v ∈ news, v.oneCell' = true) (rt : TypeId) :
    (Builtin.append_ ts rt as).run P w = .ok (.slice (some ⟨r, o, .none⟩) (sLen + n) sCap) (w.setRow r (cur.toList.take (o + sLen * i.size) ++ news ++ cur.toList.drop (o + sLen * i.size + news.length)).toArray) := by
  have hst := run_storeCells_fz P r (o + sLen * i.size) ty fz news 0 cur w hg hfz (by simpa using hfit) hone
  simp only [Nat.add_zero] at hst
  rcases hd with ⟨e, rfl⟩ | rfl <;>
    simp [Builtin.append_, h0, h1, ha0, ha1, run_underlying hu, run_underlying hu', sizeOf, typeInfo, hi, hlen, hroom, hfirst, Addr.add_none, hst]

theorem run_append_grow' (h0 : ts[0]? = some t) (h1 : ts[1]? = some t') (base : Option Addr) (ha0 : as[0]? = some (.slice base sLen sCap)) (ha1 : as[1]? = some xv) (hu : P.underlying t = some (.slice el))
    (hu' : P.underlying t' = some d') (hd : (∃ e, d' = .slice e) ∨ d' = .string) (hi : P.info? el = some i) {zv : Value} (hzv : i.zero = some zv) (hlen : (Builtin.lenOf xv).run P w = .ok n w)
    (hfirst : ∀ W : World, W.heap = w.heap → (Builtin.firstCells i.size n xv).run P W = .ok news.toArray W) {olds : List Value} (hold : ∀ W : World, W.heap = w.heap → (Builtin.firstCells i.size sLen (.slice base sLen sCap)).run P W = .ok olds.toArray W)
    (hroom : sCap < sLen + n) (hb : 0 < i.bytes) (hbig : (sLen + n) * i.bytes ≤ roomX) (rt : TypeId) :
    ∃ nc, sLen + n ≤ nc ∧ (Builtin.append_ ts rt as).run P w = .ok (.slice (some ⟨w.heap.size, 0, .none⟩) (sLen + n) nc) (w.drew.alloc (.cells (olds.toArray ++ news.toArray ++ Builtin.zeroCells zv.cells (nc - (sLen + n))) el)) := by
  refine ⟨grownCap w (sLen + n) sCap el, grownCap_ge _ _ _ _, ?_⟩
  have hn : ¬ (sLen + n ≤ sCap) := by omega
  have hle : sLen + n ≤ (sLen + n) * i.bytes := Nat.le_mul_of_pos_right _ hb
  have h63 : ¬ (9223372036854775807 < ((sLen : Int) + (n : Int))) := by unfold roomX at hbig; omega
  have hfit : Builtin.nextslicecap (sLen + n) sCap * i.bytes ≤ 281474976710656 := growslice_fits (bytes := i.bytes) hroom (by unfold roomX at hbig; omega)
  have h48 : ¬ (281474976710656 < Builtin.nextslicecap (sLen + n) sCap * i.bytes) := by omega
  have e1 := hold w.drew rfl
  have e2 := hfirst w.drew rfl
  rcases hd with ⟨e, rfl⟩ | rfl <;>
    simp [Builtin.append_, h0, h1, ha0, ha1, run_underlying hu, run_underlying hu', sizeOf, typeInfo, zeroValue, hi, hzv, hlen, hn, h63, h48, Question.forced, e1, e2, newRow, grownCap] <;>
    (congr 2; apply Array.ext'; simp [List.append_assoc])
end

theorem appX_sound {H : Heap} {c c0 : Nat} (hr : HR G Im w H c) (hc0 : c0 ≤ c) {t t' : TypeId} {d' : TypeDesc} {s x : AV} {sv xv : Value} {f : Nat → AV × Heap} (hs : V Im w G s sv) (hx : V Im w G x xv)
    (h : appX P H t s x = some f) {ts : Array TypeId} {as : Array Value} (h0 : ts[0]? = some t) (h1 : ts[1]? = some t') (ha0 : as[0]? = some sv) (ha1 : as[1]? = some xv) (hu' : P.underlying t' = some d') (hd : (∃ e, d' = .slice e) ∨ d' = .string) (rt : TypeId) :
    ∃ v w' G', (Builtin.append_ ts rt as).run P w = .ok v w' ∧ HR G' Im w' (f c).2 (c + 1) ∧ Ext c0 G Im w H G' Im w' (f c).2 ∧ V Im w' G' (f c).1 v := by
  have hGc : G c = none := by
    cases hg : G c with
    | none => rfl
    | some l => exact absurd (hr.fresh c l hg) (Nat.lt_irrefl _)
  unfold appX at h
  split at h
  case h_1 => cases h
  rename_i el hel
  split at h
  case h_2 => cases h
  rename_i sz bytes z xs hsz hby hz hxs
  split at h
  case isTrue => cases h
  rename_i hcond
  simp only [not_or] at hcond
  obtain ⟨hsz0, hby0, hzl, hok⟩ := hcond
  have hok' : szOK sz xs = true := by cases hh : szOK sz xs <;> simp_all
  have hzl' : z.length = sz := Classical.not_not.1 hzl
  have hu := elT_spec hel
  obtain ⟨i, zv, hi, hzv, hzvs, hzcell⟩ := zeroT_spec hz
  have hisz : i.size = sz := by simp [szT, hi] at hsz; exact hsz
  have hiby : i.bytes = bytes := by simp [byT, hi] at hby; exact hby
  obtain ⟨vs, hlen, hvl, hvs, hvc, hfirst⟩ := elemsX_sound (P := P) hr hx hxs hok'
  have hzz := szOK_spec hok'
  rw [← hisz] at hfirst
  split at h
  case h_3 => cases h
  case h_1 =>
    split at h
    case isFalse => cases h
    rename_i hbig
    cases hs
    split at h
    · cases h
      refine ⟨.slice none 0 0, w, G, ?_, hr.weak (fun _ _ h => h) (Nat.le_succ _), Ext.refl _ _ _ _ _, .nils⟩
      have hf0 := hfirst w rfl
      simp only [List.length_nil] at hf0 hlen
      rcases hd with ⟨e, rfl⟩ | rfl <;>
        simp [Builtin.append_, h0, h1, ha0, ha1, run_underlying hu, run_underlying hu', sizeOf, typeInfo, hi, hlen, hf0]
    · rename_i hne
      cases h
      have hpos : 0 < xs.length := by cases xs with | nil => exact absurd rfl hne | cons _ _ => simp
      obtain ⟨nc, hnc, hrun⟩ := run_append_grow' (P := P) (w := w) (n := xs.length) (sLen := 0) (sCap := 0) (news := vs) h0 h1 .none ha0 ha1 hu hu' hd hi hzv hlen hfirst (olds := []) (fun W _ => by simp [Builtin.firstCells]) (by omega) (by omega) (by rw [hiby]; simpa using hbig) rt
      simp only [Nat.zero_add] at hrun hnc
      have hw' : (w.drew.alloc (.cells (([] : List Value).toArray ++ vs.toArray ++ Builtin.zeroCells zv.cells (nc - xs.length)) el)).heap = w.heap.push (.cells (([] : List Value).toArray ++ vs.toArray ++ Builtin.zeroCells zv.cells (nc - xs.length)) el) := rfl
      have hzs : zv.cells.size = sz := by have := (hzvs Im w G).1; rw [hzl'] at this; simpa using this.symm
      have hasz : (([] : List Value).toArray ++ vs.toArray ++ Builtin.zeroCells zv.cells (nc - xs.length)).size = nc * sz := by
        simp [size_zeroCells, hvl, hzs, Nat.sub_mul]
        have : xs.length * sz ≤ nc * sz := Nat.mul_le_mul_right _ hnc
        omega
      have hb := BlkOK.ofNew (g := c) (sz := sz) (es := xs) hr hGc hw' (by rw [hasz]; exact Nat.mul_le_mul_right _ hnc) hzz (fun i j e cc hi hj => by
        have hf := flatten_get xs i j e cc hzz hi hj
        have hlt : i * sz + j < vs.length := by rw [← hvs.1]; exact (List.getElem?_eq_some_iff.1 hf).1
        refine ⟨hvc cc (List.mem_of_getElem? hf), vs[i * sz + j], ?_, hvs.2 _ cc _ hf (List.getElem?_eq_getElem hlt)⟩
        simp [Array.getElem?_append, hlt])
      obtain ⟨h1', h2'⟩ := hr.new (H' := H ++ [some (.cells c xs)]) (c' := c + 1) (c0 := c0) (g := c) (id := H.length) rfl hGc (Nat.lt_succ_self _) (Nat.le_succ _) hc0 (fun _ _ hh => getElem?_push_some hh) rfl hw' hb ⟨rfl, rfl, rfl⟩
      refine ⟨_, _, _, hrun, h1', h2', ?_⟩
      have := V.ref (Im := Im) (w := w.drew.alloc (.cells (([] : List Value).toArray ++ vs.toArray ++ Builtin.zeroCells zv.cells (nc - xs.length)) el)) (G := setG G c ⟨w.heap.size, 0, sz, (([] : List Value).toArray ++ vs.toArray ++ Builtin.zeroCells zv.cells (nc - xs.length)).size⟩) H.length c 0 xs.length nc _ (setG_same _ _ _) (by simp only [Nat.zero_add]; rw [hasz]) hnc
      simpa using this
  case h_2 id g sz' off len =>
    split at h
    case h_2 => cases h
    rename_i es hrow
    split at h
    case isFalse => cases h
    rename_i hc
    obtain ⟨rfl, hle', hbig⟩ := hc
    have hle := Nat.le_of_eq hle'
    cases h
    have hid := rowAt_spec hrow
    obtain ⟨l, cur, ty, fz, hl, hw, hfz, hN, hb, hzs, hrd⟩ := rowAt_rows hr hrow
    cases hs with
    | ref _ _ _ _ cap l' hl' hN' hcap =>
      rw [hl] at hl'
      cases hl'
      obtain ⟨ovs, hovs, hoc, hord⟩ := Rd.values (hrd off len hle)
      have hdt : ∀ e ∈ (es.drop off).take len, e.length = l.sz := fun e he => hzs e (List.mem_of_mem_drop (List.mem_of_mem_take he))
      have hlen0 : ((es.drop off).take len).length = len := by simp; omega
      have hol : ovs.length = len * l.sz := by rw [← hovs.1, flatten_len _ hdt, hlen0]
      have hzz' : ∀ e ∈ (es.drop off).take len ++ xs, e.length = l.sz := fun e he => by rcases List.mem_append.1 he with h | h; exact hdt e h; exact hzz e h
      have hcont : ∀ (i j : Nat) (e : List AV) (cc : AV), ((es.drop off).take len ++ xs)[i]? = some e → e[j]? = some cc → cc.isCell = true ∧ ∃ u, (ovs ++ vs)[i * l.sz + j]? = some u ∧ V Im w G cc u := fun i j e cc hi hj => by
        have hf := flatten_get _ i j e cc hzz' hi hj
        rw [List.flatten_append] at hf
        have hvv := hovs.append hvs
        have hlt : i * l.sz + j < (ovs ++ vs).length := by rw [← hvv.1]; exact (List.getElem?_eq_some_iff.1 hf).1
        refine ⟨?_, (ovs ++ vs)[i * l.sz + j], List.getElem?_eq_getElem hlt, hvv.2 _ cc _ hf (List.getElem?_eq_getElem hlt)⟩
        rcases List.mem_append.1 (List.mem_of_getElem? hf) with h | h
        · exact hoc cc h
        · exact hvc cc h
      by_cases hroom : len + xs.length ≤ cap
      · -- there is room: in place
        have hone : ∀ v ∈ vs, v.oneCell' = true := fun v hv => by
          obtain ⟨k, hk⟩ := List.mem_iff_getElem?.1 hv
          have hklt : k < xs.flatten.length := by rw [hvs.1]; exact (List.getElem?_eq_some_iff.1 hk).1
          have hck : xs.flatten[k]? = some xs.flatten[k] := List.getElem?_eq_getElem hklt
          exact (hvs.2 k _ v hck hk).oneCell (hvc _ (List.getElem_mem hklt))
        have hm1 : (len + xs.length) * l.sz ≤ cap * l.sz := Nat.mul_le_mul_right _ hroom
        rw [Nat.add_mul] at hm1 hN'
        have hfit : l.base + off * l.sz + len * l.sz + vs.length ≤ cur.size := by rw [hN, hvl]; omega
        have hrun := run_append_room' (P := P) (w := w) (n := xs.length) (sLen := len) (sCap := cap) (news := vs) h0 h1 l.r (l.base + off * l.sz) ha0 ha1 hu hu' hd hi hlen (hfirst w rfl) hroom hw hfz (by rw [hisz]; exact hfit) hone rt
        rw [hisz] at hrun
        obtain ⟨hg1, hg2, hg3⟩ := setRow_get w l.r (l.base + off * l.sz + len * l.sz) cur ty fz vs hw hfit
        have hir : ∀ r, Im r → (w.setRow l.r (cur.toList.take (l.base + off * l.sz + len * l.sz) ++ vs ++ cur.toList.drop (l.base + off * l.sz + len * l.sz + vs.length)).toArray).heap[r]? = w.heap[r]? := fun r hi =>
          setRow_other w l.r r _ fun e => hr.notIm r ⟨id, _, l, hid, hl, e.symm⟩ hi
        have hsub := setG_sub ⟨l.r, l.base + off * l.sz, l.sz, l.N⟩ hGc
        have hblk : BlkOK (setG G c ⟨l.r, l.base + off * l.sz, l.sz, l.N⟩) Im (w.setRow l.r (cur.toList.take (l.base + off * l.sz + len * l.sz) ++ vs ++ cur.toList.drop (l.base + off * l.sz + len * l.sz + vs.length)).toArray) (.cells c ((es.drop off).take len ++ xs)) := by
          refine ⟨_, _, ty, setG_same _ _ _, ⟨fz, hg1, by rw [hg2]; exact hfz⟩, by rw [hg2]; exact hN, ?_, hzz', fun i j e cc hi hj => ?_⟩
          · show l.base + off * l.sz + ((es.drop off).take len ++ xs).length * l.sz ≤ l.N
            rw [List.length_append, hlen0, Nat.add_mul]; omega
          · obtain ⟨q1, u, q2, q3⟩ := hcont i j e cc hi hj
            refine ⟨q1, u, ?_, q3.mono hsub (fun _ h => h) hir⟩
            rw [hg3]
            dsimp only
            have hlt := (List.getElem?_eq_some_iff.1 q2).1
            rw [List.length_append] at hlt
            by_cases ha : i * l.sz + j < ovs.length
            · rw [List.getElem?_append_left ha] at q2
              rw [if_neg (by omega)]
              have := hord _ _ q2
              simp only [World.cell?, hw, Option.isSome_none, Bool.false_eq_true, if_false] at this
              rw [show l.base + off * l.sz + i * l.sz + j = l.base + off * l.sz + (i * l.sz + j) by omega]
              exact this
            · rw [List.getElem?_append_right (by omega)] at q2
              rw [if_pos (by omega), show l.base + off * l.sz + i * l.sz + j - (l.base + off * l.sz + len * l.sz) = i * l.sz + j - ovs.length by omega]
              exact q2
        obtain ⟨h1', h2'⟩ := hr.upd (H' := H.set id (some (.cells c ((es.drop off).take len ++ xs)))) (c' := c + 1) (c0 := c0) (b := .cells c ((es.drop off).take len ++ xs)) (l := ⟨l.r, l.base + off * l.sz, l.sz, l.N⟩) hid hl (Nat.le_succ _) hsub
          (fun g' m hm => by
            by_cases e : g' = c
            · exact .inr ⟨e, by omega, by omega, by rw [e]; exact hGc⟩
            · rw [setG_ne _ e] at hm; exact .inl hm) (setG_same _ _ _) rfl (fun _ _ hh => getElem?_set_some hh) (by simp) (fun r hne => setRow_other w l.r r _ hne) hblk ⟨rfl, rfl, rfl⟩
        refine ⟨_, _, _, hrun, h1', h2', ?_⟩
        have := V.ref (Im := Im) (w := w.setRow l.r (cur.toList.take (l.base + off * l.sz + len * l.sz) ++ vs ++ cur.toList.drop (l.base + off * l.sz + len * l.sz + vs.length)).toArray) (G := setG G c ⟨l.r, l.base + off * l.sz, l.sz, l.N⟩) id c 0 (len + xs.length) cap _ (setG_same _ _ _) (by simp only [Nat.zero_add]; omega) hroom
        simpa using this
      · -- a new row
        obtain ⟨nc, hnc, hrun⟩ := run_append_grow' (P := P) (w := w) (n := xs.length) (sLen := len) (sCap := cap) (news := vs) h0 h1 _ ha0 ha1 hu hu' hd hi hzv hlen hfirst (olds := ovs) (fun W hW => by rw [hisz]; exact run_firstCells_heap hol hord W hW) (by omega) (by omega) (by rw [hiby]; exact hbig) rt
        have hw' : (w.drew.alloc (.cells (ovs.toArray ++ vs.toArray ++ Builtin.zeroCells zv.cells (nc - (len + xs.length))) el)).heap = w.heap.push (.cells (ovs.toArray ++ vs.toArray ++ Builtin.zeroCells zv.cells (nc - (len + xs.length))) el) := rfl
        have hzs' : zv.cells.size = l.sz := by have := (hzvs Im w G).1; rw [hzl'] at this; simpa using this.symm
        have hasz : (ovs.toArray ++ vs.toArray ++ Builtin.zeroCells zv.cells (nc - (len + xs.length))).size = nc * l.sz := by
          simp [size_zeroCells, hvl, hol, hzs', Nat.sub_mul]
          have : (len + xs.length) * l.sz ≤ nc * l.sz := Nat.mul_le_mul_right _ hnc
          rw [Nat.add_mul] at this ⊢
          omega
        have hblk := BlkOK.ofNew (g := c) (sz := l.sz) (es := (es.drop off).take len ++ xs) hr hGc hw' (by rw [hasz, List.length_append, hlen0]; exact Nat.mul_le_mul_right _ hnc) hzz' (fun i j e cc hi hj => by
          obtain ⟨q1, u, q2, q3⟩ := hcont i j e cc hi hj
          refine ⟨q1, u, ?_, q3⟩
          have hlt := (List.getElem?_eq_some_iff.1 q2).1
          rw [← Array.getElem?_toList]
          simp only [Array.toList_append]
          rw [List.getElem?_append_left hlt]
          exact q2)
        obtain ⟨h1', h2'⟩ := hr.new (H' := H.set id (some (.cells c ((es.drop off).take len ++ xs)))) (c' := c + 1) (c0 := c0) (g := c) (id := id) rfl hGc (Nat.lt_succ_self _) (Nat.le_succ _) hc0 (fun _ _ hh => getElem?_set_some hh) rfl hw' hblk ⟨rfl, rfl, rfl⟩
        refine ⟨_, _, _, hrun, h1', h2', ?_⟩
        have := V.ref (Im := Im) (w := w.drew.alloc (.cells (ovs.toArray ++ vs.toArray ++ Builtin.zeroCells zv.cells (nc - (len + xs.length))) el)) (G := setG G c ⟨w.heap.size, 0, l.sz, (ovs.toArray ++ vs.toArray ++ Builtin.zeroCells zv.cells (nc - (len + xs.length))).size⟩) id c 0 (len + xs.length) nc _ (setG_same _ _ _) (by simp only [Nat.zero_add]; rw [hasz]) hnc
        simpa using this

end Go.AX
