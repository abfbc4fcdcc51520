/-
AX, part 9: the calculus is sound: regions in the text's order, calls, the code.
-/
import Derived.Test.YtoplaknmmglagaaDoorAX8
set_option linter.unusedVariables false
set_option linter.unusedSectionVars false
set_option linter.unusedSimpArgs false
namespace Go.AX
variable {P : Program} [GL P]

/-- Where a call began. -/
structure Base where
  c0 : Nat
  G : Gens
  Im : Nat → Prop
  w : World
  H : Heap

/-- An abstract state stands for a state of the model. -/
structure Sim (P : Program) [GL P] (n : Nat) (B : Base) (G : Gens) (Im : Nat → Prop) (σ : St) (a : Act) (w : World) : Prop where
  hr : HR G Im w σ.H σ.c
  ext : Ext B.c0 B.G B.Im B.w B.H G Im w σ.H
  sl : ∀ i, V Im w G (lk σ.sl i) (a.tmps.getD i undef)
  size : a.tmps.size = n
  defers : a.defers = []
  c0 : B.c0 ≤ σ.c
  glob : Glob P Im w

def Rel (P : Program) [GL P] (n : Nat) (B : Base) (σ : St) (a : Act) (w : World) : Prop := ∃ G Im, Sim P n B G Im σ a w

/-- What holds of the model where 'Q' holds of an abstract state. -/
def RQ (P : Program) [GL P] (n : Nat) (B : Base) (Q : Ex → St → Prop) : Exit → Act → World → Prop
  | .normal, a, w => ∃ σ, Rel P n B σ a w ∧ Q .normal σ
  | .exit id, a, w => ∃ σ, Rel P n B σ a w ∧ Q (.exit id) σ
  | .ret, a, w => ∃ σ, Rel P n B σ a w ∧ Q .ret σ
  | .panic chain, a, w => ∃ σ G Im v u, Sim P n B G Im σ a w ∧ Q (.panic v) σ ∧ chain = [{ v := u, recovered := false }] ∧ V Im w G v u
  | _, _, _ => False

theorem Glob.ext {G G' : Gens} {Im Im' : Nat → Prop} {w w' : World} {H H' : Heap} {c c0 : Nat} (h : Glob P Im w) (hr : HR G Im w H c) (e : Ext c0 G Im w H G' Im' w' H') : Glob P Im' w' := fun g => hr.mono0 e (h g)
theorem Glob.sub {Im Im' : Nat → Prop} {w : World} (h : Glob P Im w) (hi : ∀ r, Im r → Im' r) : Glob P Im' w := fun g => (h g).mono (fun _ _ h => h) hi (fun _ _ => rfl)

theorem RQ.mono {n : Nat} {B : Base} {Q Q' : Ex → St → Prop} (h : ∀ e σ, Q e σ → Q' e σ) {e : Exit} {a : Act} {w : World} (hq : RQ P n B Q e a w) : RQ P n B Q' e a w := by
  cases e with
  | normal => obtain ⟨σ, r, q⟩ := hq; exact ⟨σ, r, h _ _ q⟩
  | exit id => obtain ⟨σ, r, q⟩ := hq; exact ⟨σ, r, h _ _ q⟩
  | ret => obtain ⟨σ, r, q⟩ := hq; exact ⟨σ, r, h _ _ q⟩
  | panic ch => obtain ⟨σ, G, Im, v, u, r, q, e1, e2⟩ := hq; exact ⟨σ, G, Im, v, u, r, h _ _ q, e1, e2⟩
  | goto l => exact hq
  | outgrown => exact hq

theorem lk_putO (s : Slots) (d : Option Tmp) (v : AV) (i : Nat) : lk (putO s d v) i = if d = some i then v else lk s i := by
  cases d with
  | none => simp [putO]
  | some d => simp only [putO, lk, Option.some.injEq]

theorem Sim.ev {n : Nat} {B : Base} {G : Gens} {Im : Nat → Prop} {σ : St} {a : Act} {w : World} (h : Sim P n B G Im σ a w) (x : Operand) : V Im w G (σ.ev P x) (a.eval x) := by
  cases x with
  | tmp t => exact h.sl t
  | const v => exact V_ofV v
  | global g => exact (h.glob g).of_none
  | func f => exact .clo (.func f) [] [] [] [] rfl rfl (fun j c u a => by simp at a) (fun j c u a => by simp at a)

theorem put_sl {n : Nat} {G : Gens} {Im : Nat → Prop} {w : World} {s : Slots} {a : Act} {d : Option Tmp} {x : AV} {v : Value} (h : ∀ i, V Im w G (lk s i) (a.tmps.getD i undef)) (hn : a.tmps.size = n) (hd : ∀ t, d = some t → t < n) (hv : V Im w G x v) :
    (∀ i, V Im w G (lk (putO s d x) i) ((a.put d v).tmps.getD i undef)) ∧ (a.put d v).tmps.size = n := by
  cases d with
  | none => exact ⟨by simpa [putO, Act.put] using h, by simpa [Act.put] using hn⟩
  | some t =>
    have ht := hd t rfl
    refine ⟨fun i => ?_, by simpa [Act.put] using hn⟩
    rw [lk_putO]
    by_cases hi : t = i
    · subst hi
      rw [if_pos rfl]
      have : (a.put (some t) v).tmps.getD t undef = v := by simp [Act.put, hn, ht]
      rw [this]
      exact hv
    · rw [if_neg (by simpa using hi)]
      have : (a.put (some t) v).tmps.getD i undef = a.tmps.getD i undef := by simp [Act.put, Array.getElem?_setIfInBounds_ne hi]
      rw [this]
      exact h i

theorem put_defers (a : Act) (d : Option Tmp) (v : Value) : (a.put d v).defers = a.defers := by cases d <;> rfl

/-- A step of the heap and the world, with a value put. -/
theorem Sim.step {n : Nat} {B : Base} {G G' : Gens} {Im Im' : Nat → Prop} {σ : St} {a : Act} {w w' : World} (h : Sim P n B G Im σ a w) {H' : Heap} {c' : Nat} (hr : HR G' Im' w' H' c') (e : Ext B.c0 G Im w σ.H G' Im' w' H') (hc : σ.c ≤ c') {d : Option Tmp} (hd : ∀ t, d = some t → t < n)
    {x : AV} {v : Value} (hv : V Im' w' G' x v) : Sim P n B G' Im' { sl := putO σ.sl d x, H := H', c := c' } (a.put d v) w' := by
  obtain ⟨h1, h2⟩ := put_sl (w := w') (G := G') (Im := Im') (fun i => h.hr.mono e (h.sl i)) h.size hd hv
  exact ⟨hr, h.ext.trans e, h1, h2, by rw [put_defers]; exact h.defers, Nat.le_trans h.c0 hc, h.glob.ext h.hr e⟩

theorem Sim.put {n : Nat} {B : Base} {G : Gens} {Im : Nat → Prop} {σ : St} {a : Act} {w : World} (h : Sim P n B G Im σ a w) {d : Option Tmp} (hd : ∀ t, d = some t → t < n)
    {x : AV} {v : Value} (hv : V Im w G x v) : Sim P n B G Im { σ with sl := putO σ.sl d x } (a.put d v) w :=
  h.step h.hr (Ext.refl _ _ _ _ _) (Nat.le_refl _) hd hv

/-! ### Frozen views -/

theorem V.noRef {Im : Nat → Prop} {w : World} {G : Gens} {x : AV} {v : Value} (h : V Im w G x v) : x.noRef = true → V Im w Gens.none x v := by
  have all : ∀ (cs : List AV), AV.noRef.noRefs cs = true → ∀ c ∈ cs, c.noRef = true := by
    intro cs
    induction cs with
    | nil => intro _ c hc; cases hc
    | cons d cs ih =>
      intro hh c hc
      simp only [AV.noRef.noRefs, Bool.and_eq_true] at hh
      rcases List.mem_cons.1 hc with rfl | hc
      · exact hh.1
      · exact ih hh.2 c hc
  induction h with
  | dead v => intro _; exact .dead v
  | int k n => intro _; exact .int k n
  | bool b => intro _; exact .bool b
  | str s => intro _; exact .str s
  | nilp => intro _; exact .nilp
  | nils => intro _; exact .nils
  | nilm => intro _; exact .nilm
  | nilf => intro _; exact .nilf
  | nili => intro _; exact .nili
  | vec0 a cap => intro _; exact .vec0 a cap
  | vec es ad cap sz us hc hs him hz hcell hv ih => intro _; exact .vec es ad cap sz us hc hs him hz hcell hv
  | iptr cs ad us hs him hcell hv ih => intro _; exact .iptr cs ad us hs him hcell hv
  | ref id g off len cap l hg hN hc => intro hh; simp [AV.noRef] at hh
  | ptr id g i j l hg => intro hh; simp [AV.noRef] at hh
  | mref id g l hg => intro hh; simp [AV.noRef] at hh
  | agg cs vs hl hcell hv ih => intro hh; simp only [AV.noRef] at hh; exact .agg cs vs hl hcell fun j c u a b => ih j c u a b (all cs hh c (List.mem_of_getElem? a))
  | tup cs vs hl hv ih => intro hh; simp only [AV.noRef] at hh; exact .tup cs vs hl fun j c u a b => ih j c u a b (all cs hh c (List.mem_of_getElem? a))
  | clo fn fs cs vf vc h1 h2 hvf hvc ihf ihc =>
    intro hh
    simp only [AV.noRef, Bool.and_eq_true] at hh
    exact .clo fn fs cs vf vc h1 h2 (fun j c u a b => ihf j c u a b (all fs hh.1 c (List.mem_of_getElem? a))) (fun j c u a b => ihc j c u a b (all cs hh.2 c (List.mem_of_getElem? a)))
  | ifc t x u hv ih => intro hh; simp only [AV.noRef] at hh; exact .ifc t x u (ih hh)

theorem Frz.isCell {al : Bool} {H : Heap} {x y : AV} (h : Frz al H x y) : x.isCell = true → y.isCell = true := by
  cases h <;> first | exact fun _ => rfl | (intro hh; simp [AV.isCell] at hh)

/-- A value seen as one that nobody writes. -/
theorem Frz.sound {al : Bool} {Im : Nat → Prop} {w : World} {G : Gens} {H : Heap} {c : Nat} (hr : HR G Im w H c) {x y : AV} (h : Frz al H x y) : ∀ {v : Value}, V Im w G x v → V (fun r => (al = true ∧ Im r) ∨ Owned G H r) w Gens.none y v := by
  induction h with
  | int k n => intro v hv; cases hv; exact .int k n
  | bool b => intro v hv; cases hv; exact .bool b
  | str s => intro v hv; cases hv; exact .str s
  | nilp => intro v hv; cases hv; exact .nilp
  | nils => intro v hv; cases hv; exact .vec0 _ _
  | nilsl => intro v hv; cases hv; exact .nils
  | nilm => intro v hv; cases hv; exact .nilm
  | nilf => intro v hv; cases hv; exact .nilf
  | nili => intro v hv; cases hv; exact .nili
  | vec0 =>
    intro v hv
    cases hv with
    | vec0 a cap => exact .vec0 a cap
    | vec _ ad cap sz us hc hs him hz hcell hv => exact .vec0 _ _
  | vec es hal => intro v hv; exact (hv.noRef rfl).mono (fun _ _ h => h) (fun r hr => .inl ⟨hal, hr⟩) (fun _ _ => rfl)
  | iptr cs hal => intro v hv; exact (hv.noRef rfl).mono (fun _ _ h => h) (fun r hr => .inl ⟨hal, hr⟩) (fun _ _ => rfl)
  | ref id g sz off len es es' hrow hle hl' he hvv ih =>
    intro v hv
    obtain ⟨l, cur, t, hl, ⟨fz, hw, _⟩, hN, hb, hz, hc⟩ := hr.blk id _ (rowAt_spec hrow)
    cases hv with
    | ref _ _ _ _ cap l' hl'' hN' hcap =>
      rw [hl] at hl''
      cases hl''
      have hown : Owned G H l.r := ⟨id, _, l, rowAt_spec hrow, hl, rfl⟩
      have hlen' : ∀ e' ∈ es', e'.length = l.sz := fun e' he' => by
        obtain ⟨i, hi⟩ := List.mem_iff_getElem?.1 he'
        have hlt : i < es'.length := (List.getElem?_eq_some_iff.1 hi).1
        have hlt2 : off + i < es.length := by omega
        rw [← he i _ e' (List.getElem?_eq_getElem hlt2) hi, hz _ (List.getElem_mem hlt2)]
      have hget : ∀ (i j : Nat) (e' : List AV) (c' : AV), es'[i]? = some e' → e'[j]? = some c' → ∃ e c0, es[off + i]? = some e ∧ e[j]? = some c0 ∧ Frz al H c0 c' := fun i j e' c' hi hj => by
        have hlt : i < es'.length := (List.getElem?_eq_some_iff.1 hi).1
        have hlt2 : off + i < es.length := by omega
        have hes := List.getElem?_eq_getElem hlt2
        have hjl : j < (es[off + i]).length := by rw [he i _ e' hes hi]; exact (List.getElem?_eq_some_iff.1 hj).1
        have hec := List.getElem?_eq_getElem hjl
        exact ⟨_, _, hes, hec, hvv i j _ e' _ c' hes hi hec hj⟩
      subst hl'
      refine .vec es' ⟨l.r, l.base + off * l.sz, none⟩ cap l.sz (fun i j => (w.cell? ⟨l.r, l.base + off * l.sz + i * l.sz + j, none⟩).getD undef) hcap rfl (.inr hown) hlen' (fun i j e' c' hi hj => ?_) (fun i j e' c' hi hj => ?_)
      · obtain ⟨e, c0, h1, h2, h3⟩ := hget i j e' c' hi hj
        obtain ⟨q1, u, q2, q3⟩ := hc (off + i) j e c0 h1 h2
        refine ⟨h3.isCell q1, ?_⟩
        have : w.cell? ⟨l.r, l.base + off * l.sz + i * l.sz + j, none⟩ = some u := by
          rw [show l.base + off * l.sz + i * l.sz + j = l.base + (off + i) * l.sz + j by rw [Nat.add_mul]; omega]
          simp [World.cell?, hw, q2]
        rw [this]; rfl
      · obtain ⟨e, c0, h1, h2, h3⟩ := hget i j e' c' hi hj
        obtain ⟨q1, u, q2, q3⟩ := hc (off + i) j e c0 h1 h2
        have : w.cell? ⟨l.r, l.base + off * l.sz + i * l.sz + j, none⟩ = some u := by
          rw [show l.base + off * l.sz + i * l.sz + j = l.base + (off + i) * l.sz + j by rw [Nat.add_mul]; omega]
          simp [World.cell?, hw, q2]
        rw [this]
        have hlt : i < es'.length := (List.getElem?_eq_some_iff.1 hi).1
        exact ih i j e e' c0 c' h1 hi h2 hj q3
  | ptr id g i j e cs' hel hl hvv ih =>
    intro v hv
    obtain ⟨l, hl', hz, hrd⟩ := hr.elem hel
    cases hv with
    | ptr _ _ _ _ l' hl'' =>
      rw [hl'] at hl''
      cases hl''
      have hown : Owned G H l.r := by
        unfold elemAt at hel
        split at hel
        · rename_i g' es hid
          split at hel
          · rename_i hg; subst hg; exact ⟨id, _, l, hid, hl', rfl⟩
          · cases hel
        · cases hel
      have hget : ∀ (k : Nat) (c' : AV), cs'[k]? = some c' → ∃ c0, e[j + k]? = some c0 ∧ Frz al H c0 c' ∧ ∀ {v}, V Im w G c0 v → V (fun r => (al = true ∧ Im r) ∨ Owned G H r) w Gens.none c' v := fun k c' hk => by
        have hlt : j + k < e.length := by have := (List.getElem?_eq_some_iff.1 hk).1; omega
        have hec := List.getElem?_eq_getElem hlt
        exact ⟨_, hec, hvv k _ c' hec hk, ih k _ c' hec hk⟩
      refine .iptr cs' ⟨l.r, l.base + i * l.sz + j, none⟩ (fun k => (w.cell? ⟨l.r, l.base + i * l.sz + j + k, none⟩).getD undef) rfl (.inr hown) (fun k c' hk => ?_) (fun k c' hk => ?_)
      · obtain ⟨c0, h1, h2, h3⟩ := hget k c' hk
        obtain ⟨q1, u, q2, q3⟩ := hrd (j + k) c0 h1
        rw [← Nat.add_assoc] at q2
        exact ⟨h2.isCell q1, by rw [q2]; rfl⟩
      · obtain ⟨c0, h1, h2, h3⟩ := hget k c' hk
        obtain ⟨q1, u, q2, q3⟩ := hrd (j + k) c0 h1
        rw [← Nat.add_assoc] at q2
        rw [q2]
        exact h3 q3
  | agg cs cs' hl hvv ih =>
    intro v hv
    obtain ⟨vs, rfl, hl2, hcell, hv2⟩ := hv.agg_inv
    have hget : ∀ (j : Nat) (c' : AV), cs'[j]? = some c' → ∃ c0, cs[j]? = some c0 := fun j c' hj => by
      have hlt : j < cs.length := by rw [hl]; exact (List.getElem?_eq_some_iff.1 hj).1
      exact ⟨_, List.getElem?_eq_getElem hlt⟩
    refine .agg cs' vs (by omega) (fun c' hc' => ?_) fun j c' u hj hu => ?_
    · obtain ⟨j, hj⟩ := List.mem_iff_getElem?.1 hc'
      obtain ⟨c0, hc0⟩ := hget j c' hj
      exact (hvv j c0 c' hc0 hj).isCell (hcell c0 (List.mem_of_getElem? hc0))
    · obtain ⟨c0, hc0⟩ := hget j c' hj
      exact ih j c0 c' hc0 hj (hv2 j c0 u hc0 hu)
  | tup cs cs' hl hvv ih =>
    intro v hv
    obtain ⟨vs, rfl, hl2, hv2⟩ := hv.tup_inv
    refine .tup cs' vs (by omega) fun j c' u hj hu => ?_
    have hlt : j < cs.length := by rw [hl]; exact (List.getElem?_eq_some_iff.1 hj).1
    have hc0 := List.getElem?_eq_getElem hlt
    exact ih j _ c' hc0 hj (hv2 j _ u hc0 hu)
  | clo fn a b a' b' hl hl' hva hvb iha ihb =>
    intro v hv
    cases hv with
    | clo _ _ _ vf vc h1 h2 hvf hvc =>
      refine .clo fn a' b' vf vc (by omega) (by omega) (fun j c' u hj hu => ?_) (fun j c' u hj hu => ?_)
      · have hlt : j < a.length := by rw [hl]; exact (List.getElem?_eq_some_iff.1 hj).1
        have hc0 := List.getElem?_eq_getElem hlt
        exact iha j _ c' hc0 hj (hvf j _ u hc0 hu)
      · have hlt : j < b.length := by rw [hl']; exact (List.getElem?_eq_some_iff.1 hj).1
        have hc0 := List.getElem?_eq_getElem hlt
        exact ihb j _ c' hc0 hj (hvc j _ u hc0 hu)
  | ifc t x y hxy ih =>
    intro v hv
    cases hv with
    | ifc _ _ u hu => exact .ifc t y u (ih hu)

theorem Frzs.sound {al : Bool} {Im : Nat → Prop} {w : World} {G : Gens} {H : Heap} {c : Nat} (hr : HR G Im w H c) {xs ys : List AV} (h : Frzs al H xs ys) {vs : List Value} (hv : Vs Im w G xs vs) : Vs (fun r => (al = true ∧ Im r) ∨ Owned G H r) w Gens.none ys vs := by
  refine ⟨by rw [← h.1, hv.1], fun j c' u hj hu => ?_⟩
  have hlt : j < xs.length := by rw [h.1]; exact (List.getElem?_eq_some_iff.1 hj).1
  have hc0 := List.getElem?_eq_getElem hlt
  exact (h.2 j _ c' hc0 hj).sound hr (hv.2 j _ u hc0 hu)

end Go.AX
