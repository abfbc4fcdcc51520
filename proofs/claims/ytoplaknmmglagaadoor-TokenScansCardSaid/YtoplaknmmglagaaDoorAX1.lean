/-
AX, part 1: abstract values, how they stand for the model's values in a world, heaps of owned blocks; what a step may change (Ext).
-/
import Derived.Orders
import Derived.Laws.Tables
import Derived.Laws.Rows
import Derived.Laws.AppendOwn
import Derived.Laws.Slices
import Derived.Laws.Small
import Derived.Laws.Cells
import Derived.Deep.Heap
import Derived.KernelRfl
set_option linter.unusedVariables false
set_option linter.unusedSimpArgs false
namespace Go.AX

/-- Abstract values. 'vec': a slice that nobody writes any more: its elements, each as its cells; 'iptr': a pointer to cells that nobody writes; 'ref', 'ptr': a slice of, a pointer into, a block that the call owns: its place in the heap's list and its generation. -/
inductive AV where
  | dead
  | int (k : IntKind) (n : Int)
  | bool (b : Bool)
  | str (s : ByteArray)
  | nilp | nils | nilm | nilf | nili
  | vec (es : List (List AV))
  | iptr (cs : List AV)
  | ref (id g sz off len : Nat)
  | ptr (id g i j : Nat)
  | mref (id g : Nat)
  | agg (cs : List AV)
  | tup (cs : List AV)
  | clo (fn : Fn) (first captured : List AV)
  | ifc (t : TypeId) (v : AV)
  deriving Inhabited

def AV.isCell : AV → Bool
  | .dead | .agg _ | .tup _ => false
  | _ => true

def AV.cells? : AV → Option (List AV)
  | .agg cs => some cs
  | .dead | .tup _ => none
  | v => some [v]

structure Loc where
  r : Nat
  base : Nat
  sz : Nat
  N : Nat

abbrev Gens := Nat → Option Loc
def Gens.none : Gens := fun _ => Option.none

/-- What an abstract value stands for. -/
inductive V (Im : Nat → Prop) (w : World) : Gens → AV → Value → Prop
  | dead {G} (v : Value) : V Im w G .dead v
  | int {G} (k : IntKind) (n : Int) : V Im w G (.int k n) (.int k n)
  | bool {G} (b : Bool) : V Im w G (.bool b) (.bool b)
  | str {G} (s : ByteArray) : V Im w G (.str s) (.string s)
  | nilp {G} : V Im w G .nilp (.pointer .none)
  | nils {G} : V Im w G .nils (.slice .none 0 0)
  | nilm {G} : V Im w G .nilm (.map .none)
  | nilf {G} : V Im w G .nilf .nilFunc
  | nili {G} : V Im w G .nili .nilIface
  | vec0 {G} (a : Option Addr) (cap : Nat) : V Im w G (.vec []) (.slice a 0 cap)
  | vec {G} (es : List (List AV)) (ad : Addr) (cap sz : Nat) (us : Nat → Nat → Value) (hc : es.length ≤ cap) (hs : ad.spot = .none) (him : Im ad.block)
      (hz : ∀ e ∈ es, e.length = sz)
      (hcell : ∀ (i j : Nat) (e : List AV) (c : AV), es[i]? = some e → e[j]? = some c → c.isCell = true ∧ w.cell? ⟨ad.block, ad.off + i * sz + j, .none⟩ = some (us i j))
      (hv : ∀ (i j : Nat) (e : List AV) (c : AV), es[i]? = some e → e[j]? = some c → V Im w Gens.none c (us i j)) : V Im w G (.vec es) (.slice (some ad) es.length cap)
  | iptr {G} (cs : List AV) (ad : Addr) (us : Nat → Value) (hs : ad.spot = .none) (him : Im ad.block)
      (hcell : ∀ (j : Nat) (c : AV), cs[j]? = some c → c.isCell = true ∧ w.cell? ⟨ad.block, ad.off + j, .none⟩ = some (us j))
      (hv : ∀ (j : Nat) (c : AV), cs[j]? = some c → V Im w Gens.none c (us j)) : V Im w G (.iptr cs) (.pointer (some ad))
  | ref {G} (id g off len cap : Nat) (l : Loc) (hg : G g = some l) (hN : l.base + (off + cap) * l.sz = l.N) (hc : len ≤ cap) :
      V Im w G (.ref id g l.sz off len) (.slice (some ⟨l.r, l.base + off * l.sz, .none⟩) len cap)
  | ptr {G} (id g i j : Nat) (l : Loc) (hg : G g = some l) : V Im w G (.ptr id g i j) (.pointer (some ⟨l.r, l.base + i * l.sz + j, .none⟩))
  | mref {G} (id g : Nat) (l : Loc) (hg : G g = some l) : V Im w G (.mref id g) (.map (some l.r))
  | agg {G} (cs : List AV) (vs : List Value) (hl : cs.length = vs.length) (hcell : ∀ c ∈ cs, c.isCell = true)
      (hv : ∀ (j : Nat) (c : AV) (u : Value), cs[j]? = some c → vs[j]? = some u → V Im w G c u) : V Im w G (.agg cs) (.agg vs.toArray)
  | tup {G} (cs : List AV) (vs : List Value) (hl : cs.length = vs.length)
      (hv : ∀ (j : Nat) (c : AV) (u : Value), cs[j]? = some c → vs[j]? = some u → V Im w G c u) : V Im w G (.tup cs) (.tuple vs.toArray)
  | clo {G} (fn : Fn) (fs cs : List AV) (vf vc : List Value) (hlf : fs.length = vf.length) (hlc : cs.length = vc.length)
      (hvf : ∀ (j : Nat) (c : AV) (u : Value), fs[j]? = some c → vf[j]? = some u → V Im w G c u)
      (hvc : ∀ (j : Nat) (c : AV) (u : Value), cs[j]? = some c → vc[j]? = some u → V Im w G c u) : V Im w G (.clo fn fs cs) (.func fn vf.toArray vc.toArray)
  | ifc {G} (t : TypeId) (x : AV) (u : Value) (hv : V Im w G x u) : V Im w G (.ifc t x) (.iface t u)

/-- Lists of abstract values and of values, one by one. -/
def Vs (Im : Nat → Prop) (w : World) (G : Gens) (as : List AV) (vs : List Value) : Prop :=
  as.length = vs.length ∧ ∀ (j : Nat) (c : AV) (u : Value), as[j]? = some c → vs[j]? = some u → V Im w G c u

theorem V.mono {Im Im' : Nat → Prop} {w w' : World} {G : Gens} {x : AV} {v : Value} (h : V Im w G x v) :
    ∀ {G' : Gens}, (∀ g l, G g = some l → G' g = some l) → (∀ r, Im r → Im' r) → (∀ r, Im r → w'.heap[r]? = w.heap[r]?) → V Im' w' G' x v := by
  have cellEq : (∀ r, Im r → w'.heap[r]? = w.heap[r]?) → ∀ a : Addr, Im a.block → w'.cell? a = w.cell? a := fun hk a ha => World.cell?_of_block (hk _ ha)
  induction h with
  | dead v => intros; exact .dead v
  | int k n => intros; exact .int k n
  | bool b => intros; exact .bool b
  | str s => intros; exact .str s
  | nilp => intros; exact .nilp
  | nils => intros; exact .nils
  | nilm => intros; exact .nilm
  | nilf => intros; exact .nilf
  | nili => intros; exact .nili
  | vec0 a cap => intros; exact .vec0 a cap
  | vec es ad cap sz us hc hs him hz hcell hv ih =>
    intro G' hG hI hk
    refine .vec es ad cap sz us hc hs (hI _ him) hz (fun i j e c he hj => ⟨(hcell i j e c he hj).1, ?_⟩) (fun i j e c he hj => ih i j e c he hj (fun _ _ h => h) hI hk)
    rw [cellEq hk ⟨ad.block, _, .none⟩ him]; exact (hcell i j e c he hj).2
  | iptr cs ad us hs him hcell hv ih =>
    intro G' hG hI hk
    refine .iptr cs ad us hs (hI _ him) (fun j c hj => ⟨(hcell j c hj).1, ?_⟩) (fun j c hj => ih j c hj (fun _ _ h => h) hI hk)
    rw [cellEq hk ⟨ad.block, _, .none⟩ him]; exact (hcell j c hj).2
  | ref id g off len cap l hg hN hc => intro G' hG hI hk; exact .ref id g off len cap l (hG _ _ hg) hN hc
  | ptr id g i j l hg => intro G' hG hI hk; exact .ptr id g i j l (hG _ _ hg)
  | mref id g l hg => intro G' hG hI hk; exact .mref id g l (hG _ _ hg)
  | agg cs vs hl hcell hv ih => intro G' hG hI hk; exact .agg cs vs hl hcell (fun j c u a b => ih j c u a b hG hI hk)
  | tup cs vs hl hv ih => intro G' hG hI hk; exact .tup cs vs hl (fun j c u a b => ih j c u a b hG hI hk)
  | clo fn fs cs vf vc h1 h2 hvf hvc ihf ihc => intro G' hG hI hk; exact .clo fn fs cs vf vc h1 h2 (fun j c u a b => ihf j c u a b hG hI hk) (fun j c u a b => ihc j c u a b hG hI hk)
  | ifc t x u hv ih => intro G' hG hI hk; exact .ifc t x u (ih hG hI hk)

/-- A value without references into owned blocks stands in any generations. -/
theorem V.of_none {Im : Nat → Prop} {w : World} {G : Gens} {x : AV} {v : Value} (h : V Im w Gens.none x v) : V Im w G x v :=
  h.mono (fun g l h => by simp [Gens.none] at h) (fun _ h => h) (fun _ _ => rfl)

theorem Vs.mono {Im Im' : Nat → Prop} {w w' : World} {G G' : Gens} {xs : List AV} {vs : List Value} (h : Vs Im w G xs vs)
    (hG : ∀ g l, G g = some l → G' g = some l) (hI : ∀ r, Im r → Im' r) (hk : ∀ r, Im r → w'.heap[r]? = w.heap[r]?) : Vs Im' w' G' xs vs :=
  ⟨h.1, fun j c u a b => (h.2 j c u a b).mono hG hI hk⟩

theorem Vs.nil {Im : Nat → Prop} {w : World} {G : Gens} : Vs Im w G [] [] := ⟨rfl, fun j c u h => by simp at h⟩
theorem Vs.cons {Im : Nat → Prop} {w : World} {G : Gens} {x : AV} {v : Value} {xs : List AV} {vs : List Value} (h : V Im w G x v) (t : Vs Im w G xs vs) :
    Vs Im w G (x :: xs) (v :: vs) := by
  refine ⟨by simp [t.1], fun j c u a b => ?_⟩
  cases j with
  | zero => simp at a b; subst a b; exact h
  | succ j => simp at a b; exact t.2 j c u a b
theorem Vs.append {Im : Nat → Prop} {w : World} {G : Gens} {xs ys : List AV} {vs us : List Value} (h : Vs Im w G xs vs) (t : Vs Im w G ys us) :
    Vs Im w G (xs ++ ys) (vs ++ us) := by
  refine ⟨by simp [h.1, t.1], fun j c u a b => ?_⟩
  by_cases hj : j < xs.length
  · rw [List.getElem?_append_left hj] at a
    rw [List.getElem?_append_left (h.1 ▸ hj)] at b
    exact h.2 j c u a b
  · have hj' : xs.length ≤ j := by omega
    rw [List.getElem?_append_right hj'] at a
    rw [List.getElem?_append_right (h.1 ▸ hj'), ← h.1] at b
    exact t.2 _ c u a b
theorem Vs.map {Im : Nat → Prop} {w : World} {G : Gens} {α : Type} (l : List α) (f : α → AV) (g : α → Value) (h : ∀ x ∈ l, V Im w G (f x) (g x)) : Vs Im w G (l.map f) (l.map g) := by
  induction l with
  | nil => exact Vs.nil
  | cons x l ih => exact Vs.cons (h x (by simp)) (ih fun y hy => h y (by simp [hy]))

theorem V.oneCell {Im : Nat → Prop} {w : World} {G : Gens} {x : AV} {v : Value} (h : V Im w G x v) (hc : x.isCell = true) : v.oneCell' = true := by
  cases h <;> first | rfl | (simp [AV.isCell] at hc)

theorem V.cells {Im : Nat → Prop} {w : World} {G : Gens} {x : AV} {v : Value} {cs : List AV} (h : V Im w G x v) (hc : x.cells? = some cs) :
    Vs Im w G cs v.cells.toList ∧ ∀ c ∈ cs, c.isCell = true := by
  cases h <;> simp only [AV.cells?, Option.some.injEq, reduceCtorEq] at hc <;> subst hc
  case agg vs hl hcell hv => exact ⟨⟨by simpa [Value.cells] using hl, by simpa [Value.cells] using hv⟩, hcell⟩
  all_goals
    refine ⟨Vs.cons ?_ Vs.nil, by simp [AV.isCell]⟩
    first
      | exact .int _ _ | exact .bool _ | exact .str _ | exact .nilp | exact .nils | exact .nilm | exact .nilf | exact .nili | exact .vec0 _ _
      | exact .vec _ _ _ _ _ (by assumption) (by assumption) (by assumption) (by assumption) (by assumption) (by assumption)
      | exact .iptr _ _ _ (by assumption) (by assumption) (by assumption) (by assumption)
      | exact .ref _ _ _ _ _ _ (by assumption) (by assumption) (by assumption)
      | exact .ptr _ _ _ _ _ (by assumption)
      | exact .mref _ _ _ (by assumption)
      | exact .clo _ _ _ _ _ (by assumption) (by assumption) (by assumption) (by assumption)
      | exact .ifc _ _ _ (by assumption)

/-- A block of the abstract heap: a row of elements, each as its cells; or a map's entries. -/
inductive Blk where
  | cells (g : Nat) (es : List (List AV))
  | mp (g : Nat) (ms : List (AV × AV))

def Blk.g : Blk → Nat
  | .cells g _ => g
  | .mp g _ => g

abbrev Heap := List (Option Blk)

/-- No cell of a row is frozen. -/
def FzOK (fz : Nat × Nat) (n : Nat) : Prop := fz.1 = fz.2 ∨ n ≤ fz.1
theorem FzOK.zero {n : Nat} : FzOK (0, 0) n := .inl rfl
theorem FzOK.not {fz : Nat × Nat} {n : Nat} (h : FzOK fz n) : ∀ k, k < n → ¬ (fz.1 ≤ k ∧ k < fz.2) := fun k hk ⟨h1, h2⟩ => by
  rcases h with h | h <;> omega

def BlkOK (G : Gens) (Im : Nat → Prop) (w : World) : Blk → Prop
  | .cells g es => ∃ l cs t, G g = some l ∧ (∃ fz, w.heap[l.r]? = some (.cells cs t fz) ∧ FzOK fz cs.size) ∧ cs.size = l.N ∧ l.base + es.length * l.sz ≤ l.N ∧ (∀ e ∈ es, e.length = l.sz) ∧
      ∀ (i j : Nat) (e : List AV) (c : AV), es[i]? = some e → e[j]? = some c → c.isCell = true ∧ ∃ u, cs[l.base + i * l.sz + j]? = some u ∧ V Im w G c u
  | .mp g ms => ∃ l es clock, G g = some l ∧ w.heap[l.r]? = some (.map es clock) ∧ es.size = ms.length ∧ (∀ e ∈ es, e.born < clock) ∧ (es.toList.map (·.born)).Pairwise (· ≠ ·) ∧
      ∀ (i : Nat) (m : AV × AV) (e : MapEntry), ms[i]? = some m → es[i]? = some e → V Im w Gens.none m.1 e.key ∧ V Im w G m.2 e.val

/-- The blocks that a heap owns. -/
def Owned (G : Gens) (H : Heap) (r : Nat) : Prop := ∃ (id : Nat) (b : Blk) (l : Loc), H[id]? = some (some b) ∧ G b.g = some l ∧ l.r = r

structure HR (G : Gens) (Im : Nat → Prop) (w : World) (H : Heap) (c : Nat) : Prop where
  blk : ∀ (id : Nat) (b : Blk), H[id]? = some (some b) → BlkOK G Im w b
  inj : ∀ (i j : Nat) (b b' : Blk) (l l' : Loc), H[i]? = some (some b) → H[j]? = some (some b') → G b.g = some l → G b'.g = some l' → l.r = l'.r → i = j
  notIm : ∀ r, Owned G H r → ¬ Im r
  fresh : ∀ g l, G g = some l → g < c
  lt : ∀ g l, G g = some l → l.r < w.heap.size
  imLt : ∀ r, Im r → r < w.heap.size

/-- The outside world and the output have not turned. -/
def SameOut (w w' : World) : Prop := w'.os = w.os ∧ w'.output = w.output ∧ w'.tape = w.tape
theorem SameOut.refl (w : World) : SameOut w w := ⟨rfl, rfl, rfl⟩
theorem SameOut.trans {a b c : World} (h : SameOut a b) (k : SameOut b c) : SameOut a c := ⟨k.1.trans h.1, k.2.1.trans h.2.1, k.2.2.trans h.2.2⟩

/-- What may have changed from one state to a later one. -/
structure Ext (c0 : Nat) (G : Gens) (Im : Nat → Prop) (w : World) (H : Heap) (G' : Gens) (Im' : Nat → Prop) (w' : World) (H' : Heap) : Prop where
  gen : ∀ g l, G g = some l → G' g = some l
  im : ∀ r, Im r → Im' r
  imNew : ∀ r, Im' r → Im r ∨ Owned G H r ∨ w.heap.size ≤ r
  keep : ∀ r, r < w.heap.size → ¬ Owned G H r → w'.heap[r]? = w.heap[r]?
  size : w.heap.size ≤ w'.heap.size
  own : ∀ r, Owned G' H' r → Owned G H r ∨ w.heap.size ≤ r
  old : ∀ g, g < c0 → G' g = G g
  out : SameOut w w'

theorem Ext.refl (c0 : Nat) (G : Gens) (Im : Nat → Prop) (w : World) (H : Heap) : Ext c0 G Im w H G Im w H :=
  ⟨fun _ _ h => h, fun _ h => h, fun _ h => .inl h, fun _ _ _ => rfl, Nat.le_refl _, fun _ h => .inl h, fun _ _ => rfl, .refl _⟩

theorem Ext.trans {c0 : Nat} {G G' G'' : Gens} {Im Im' Im'' : Nat → Prop} {w w' w'' : World} {H H' H'' : Heap} (a : Ext c0 G Im w H G' Im' w' H') (b : Ext c0 G' Im' w' H' G'' Im'' w'' H'') :
    Ext c0 G Im w H G'' Im'' w'' H'' where
  gen := fun g l h => b.gen g l (a.gen g l h)
  im := fun r h => b.im r (a.im r h)
  imNew := fun r h => by
    rcases b.imNew r h with h | h | h
    · exact a.imNew r h
    · rcases a.own r h with h | h
      · exact .inr (.inl h)
      · exact .inr (.inr h)
    · exact .inr (.inr (Nat.le_trans a.size h))
  keep := fun r hr hn => by
    rw [b.keep r (Nat.lt_of_lt_of_le hr a.size) (fun ho => by rcases a.own r ho with h | h; exact hn h; omega), a.keep r hr hn]
  size := Nat.le_trans a.size b.size
  own := fun r h => by
    rcases b.own r h with h | h
    · exact a.own r h
    · exact .inr (Nat.le_trans a.size h)
  old := fun g hg => by rw [b.old g hg, a.old g hg]
  out := a.out.trans b.out

/-- What stands for a value goes on standing for it. -/
theorem HR.mono {G G' : Gens} {Im Im' : Nat → Prop} {w w' : World} {H H' : Heap} {c c0 : Nat} (hr : HR G Im w H c) (e : Ext c0 G Im w H G' Im' w' H') {x : AV} {v : Value} (h : V Im w G x v) :
    V Im' w' G' x v :=
  h.mono e.gen e.im fun r hi => e.keep r (hr.imLt r hi) fun ho => hr.notIm r ho hi

theorem HR.monos {G G' : Gens} {Im Im' : Nat → Prop} {w w' : World} {H H' : Heap} {c c0 : Nat} (hr : HR G Im w H c) (e : Ext c0 G Im w H G' Im' w' H') {xs : List AV} {vs : List Value} (h : Vs Im w G xs vs) :
    Vs Im' w' G' xs vs := ⟨h.1, fun j c u a b => hr.mono e (h.2 j c u a b)⟩

theorem HR.mono0 {G G' : Gens} {Im Im' : Nat → Prop} {w w' : World} {H H' : Heap} {c c0 : Nat} (hr : HR G Im w H c) (e : Ext c0 G Im w H G' Im' w' H') {x : AV} {v : Value} (h : V Im w Gens.none x v) :
    V Im' w' Gens.none x v :=
  h.mono (fun _ _ h => h) e.im fun r hi => e.keep r (hr.imLt r hi) fun ho => hr.notIm r ho hi

end Go.AX
