/-
law11: from the rows' words to the calculus' contracts: what comes in, what the listed variables hold, what is left.
-/
import Derived.Test.YtoplaknmmglagaaDoorT15
import Derived.Test.YtoplaknmmglagaaDoorTie
import Derived.Test.YtoplaknmmglagaaDoorCards
import Derived.ProofKit
import Derived.LaidMore
import Derived.OpenShut
import Derived.Stop.Joined
import Derived.Stop.LaidErr
import Derived.SizedLaws
import Derived.Carry
import Derived.SevenTiedAt
set_option linter.unusedVariables false
namespace Go.Proofs.YtoplaknmmglagaaDoor.T
open Go Go.AX Go.ChangeShapes Go.WideShapes Go.ChangeAt Go.WideMaps Go.WideElems Go.RowKit

theorem own : ownKnob Tryd.prog.godebug = none := by kernel_rfl
theorem laidOut : laidOutB Tryd.prog = true := by kernel_rfl
abbrev laidL : List (String × DataW Unit) := Rows.tokenCutsRow.laid

theorem gErr : Tryd.prog.globalNamed "strconv.ErrRange" = some 2 := by kernel_rfl
theorem gErrType : (Tryd.prog.globals[2]?).map (·.type) = some 54 := by kernel_rfl
theorem row74 : ∀ u, Tryd.prog.typeName? 3 u = some "*errors.errorString" → u = 74 := typeName_ptr_named (P := Tryd.prog) (nm := "errors.errorString") (tp := 74) (by kernel_rfl) (by kernel_rfl) (by decide)
theorem cells76 : Tryd.prog.cellsOf 76 = 1 := by kernel_rfl
theorem cells9 : Tryd.prog.cellsOf 9 = 1 := by kernel_rfl
theorem cells5 : Tryd.prog.cellsOf 5 = 1 := by kernel_rfl
theorem bytes5 : Tryd.prog.bytesOf 5 = 1 := by kernel_rfl

theorem err_cell {W : World} (h : laidMetH Tryd.prog laidL W) : ∃ u, W.cell? ⟨2, 0, none⟩ = some (.iface 74 u) := by
  rw [MakeChecks.laidMetH_plain _ _ _ (by kernel_rfl)] at h
  have h3 := laidMet.tail (laidMet.tail (laidMet.tail h))
  obtain ⟨a, s, hv, _⟩ := laid_sentinel h3 gErr gErrType Tryd.underlying54 row74 Tryd.underlying74 Tryd.underlying76 rfl rfl Tryd.underlying9 cells76 cells9
  have := World.var?_cell gErr hv 0
  exact ⟨_, by simpa using this⟩

/-- Blocks that were there before the call: nobody writes them. -/
abbrev Im0 (W : World) : Nat → Prop := fun r => r < W.heap.size

theorem glob0 {W : World} (h : laidMetH Tryd.prog laidL W) : Glob Tryd.prog (Im0 W) W := by
  intro g
  by_cases hg : g = 2
  · subst hg
    obtain ⟨u, hu⟩ := err_cell h
    have hlt : 2 < W.heap.size := by
      simp only [World.cell?] at hu
      cases hh : W.heap[2]? with
      | none => simp [hh] at hu
      | some o => exact (Array.getElem?_eq_some_iff.1 hh).1
    refine .iptr [.ifc 74 .dead] ⟨2, 0, none⟩ (fun _ => .iface 74 u) rfl hlt (fun j c hj => ?_) (fun j c hj => ?_)
    · match j with
      | 0 => simp at hj; subst hj; exact ⟨rfl, hu⟩
      | j + 1 => simp at hj
    · match j with
      | 0 => simp at hj; subst hj; exact .ifc _ _ _ (.dead _)
      | j + 1 => simp at hj
  · have : (GL.gl Tryd.prog g : AV) = .dead := by
      show (if g = 2 then AV.iptr [.ifc 74 .dead] else AV.dead) = .dead
      rw [if_neg hg]
    rw [this]
    exact .dead _

/-- A slice of bytes that came in. -/
theorem bytes_in {H : Type} {enc : TypeId × Value → H} {W : World} {a : Option Addr} {len cap : Nat} {d : DataW H} {p : List MemPlace} (h : DataW.Trod enc Tryd.prog W 0 (fun _ => true) true 22 (.slice a len cap) d p)
    {ts : List TypeId} {ds : List (DataW H)} (hsz : (DataW.weightsEach Tryd.prog ts ds).all (· ≤ reachBytes) = true) {j : Nat} (ht : ts[j]? = some 22) (hd : ds[j]? = some d) :
    ∃ l : List UInt8, V (Im0 W) W Gens.none (bv l) (.slice a len cap) ∧ l.length ≤ 140737488351232 := by
  have hlt : ∀ x ∈ p, x.block < W.heap.size := by obtain ⟨m, hm⟩ := h; exact DataW.trod_lt m _ _ _ hm
  obtain ⟨fuel, hf⟩ := h
  rcases open_ints Tryd.underlying22 Tryd.underlying5 cells5 hf with ⟨hcs, _⟩ | ⟨x, l, c, zs, hcs, _, hl, hm, hz, hx, hcell, hwz⟩
  · simp [Value.cells] at hcs
    obtain ⟨rfl, rfl, rfl⟩ := hcs
    exact ⟨[], .vec0 _ _, by simp⟩
  · simp [Value.cells] at hcs
    obtain ⟨rfl, rfl, rfl⟩ := hcs
    simp only [Prod.mk.injEq] at hx
    obtain ⟨hx1, hx2⟩ := hx
    have hz' : zs.length = cap := by simpa using hz
    have hs := sized_slice hsz ht (by rw [hd, hx1]) Tryd.underlying22
    rw [bytes5] at hs
    have hlits : (lits (H := H) .u8 (zs.take len)).length = len := by simp [lits]; omega
    have hll : len ≤ 140737488351232 := by
      have h2 : reachBytes = 140737488351232 := by decide
      omega
    have hr : ∀ n ∈ zs, 0 ≤ n ∧ n < 256 := fun n hn => by
      have := hwz n hn
      simp [Lit.wf, IntKind.min, IntKind.max, IntKind.signed, IntKind.bits] at this
      omega
    obtain ⟨bs, hbs⟩ : ∃ bs : List UInt8, bs = (zs.take len).map fun n => UInt8.ofNat n.toNat := ⟨_, rfl⟩
    have hbl : bs.length = len := by rw [hbs]; simp; omega
    refine ⟨bs, ?_, by omega⟩
    by_cases h0 : len = 0
    · subst h0
      have : bs = [] := List.length_eq_zero_iff.1 hbl
      rw [this]
      exact .vec0 _ _
    have hsp : x.spot = none := by
      have := hcell 0 (by omega)
      simp only [World.cell?, Addr.add] at this
      cases hx : x.spot with
      | none => rfl
      | some s =>
        simp only [if_true, hx] at this
        split at this <;> simp at this
    have hbk : x.block < W.heap.size := by
      have := hcell 0 (by omega)
      simp only [World.cell?, Addr.add] at this
      cases hh : W.heap[x.block]? with
      | none => simp [hh] at this
      | some o => exact (Array.getElem?_eq_some_iff.1 hh).1
    have key := V.vec (Im := Im0 W) (w := W) (G := Gens.none) (bs.map byv) x cap 1 (fun i _ => .int .u8 (zs.getD i 0)) (by simp; omega) hsp hbk
      (fun e he => by obtain ⟨b, _, rfl⟩ := List.mem_map.1 he; rfl)
      (fun i j e c hi hj => by
        rw [List.getElem?_map, Option.map_eq_some_iff] at hi
        obtain ⟨b, hb, rfl⟩ := hi
        have hib := (List.getElem?_eq_some_iff.1 hb).1
        cases j with
        | succ j => simp [byv] at hj
        | zero =>
          simp [byv] at hj
          subst hj
          refine ⟨rfl, ?_⟩
          have := hcell i (by omega)
          rw [← this]
          simp only [Addr.add, Nat.mul_one, Nat.add_zero]
          by_cases hi0 : i = 0
          · subst hi0; rw [if_pos rfl, Nat.add_zero, ← hsp]
          · rw [if_neg hi0])
      (fun i j e c hi hj => by
        rw [List.getElem?_map, Option.map_eq_some_iff] at hi
        obtain ⟨b, hb, rfl⟩ := hi
        cases j with
        | succ j => simp [byv] at hj
        | zero =>
          simp [byv] at hj
          subst hj
          have hib := (List.getElem?_eq_some_iff.1 hb).1
          have hz2 : i < zs.length := by omega
          have hbv : b = UInt8.ofNat (zs.getD i 0).toNat := by
            rw [hbs, List.getElem?_map, List.getElem?_take, if_pos (by omega), List.getElem?_eq_getElem hz2] at hb
            simp at hb
            rw [← hb]
            simp [hz2]
          have hrr := hr (zs.getD i 0) (by simp [List.getD, hz2])
          have : ((b.toNat : Nat) : Int) = zs.getD i 0 := by
            rw [hbv]
            generalize zs.getD i 0 = y at hrr
            rw [UInt8.toNat_ofNat']
            omega
          rw [this]
          exact .int _ _)
    rw [show (bs.map byv).length = len by simp [hbl]] at key
    exact key

/-- What a contract says of a call whose result is a bool. -/
theorem pure_calls {f : FuncId} {args : List AV} (h : PureC Tryd.prog false f args (.bool true)) {W : World} (hL : laidMetH Tryd.prog laidL W) {vs : List Value} (hv : Vs (Im0 W) W Gens.none args vs) :
    Calls Tryd.prog f vs.toArray W fun e W' => e = .returned (.bool true) ∧ Below W.heap.size W W' := by
  refine (h.2 (Im0 W) W vs (fun r h => h) (glob0 hL) hv).mono ?_
  rintro e W' ⟨v, Im', rfl, hvr, _, _, h1, h2, h3⟩
  cases hvr
  exact ⟨rfl, ⟨h3.1, h3.2.2, h3.2.1, h2, h1⟩⟩

theorem door_met (os : Os) (args : Array Value) : laidMetH Tryd.prog laidL ((World.doorLaid Tryd.prog 400 os).forCall (fun _ _ => 0) ⟨#[], args, []⟩).memory :=
  laidMetH_of_parts3 (fuel := 8) (laidMet_of_run' 8 (by kernel_rfl) (by kernel_rfl)) (by kernel_rfl) (by kernel_rfl)
end Go.Proofs.YtoplaknmmglagaaDoor.T
