/-
AX, part 4: slices, arithmetic, comparisons, conversions, struct values.
-/
import Derived.Test.YtoplaknmmglagaaDoorAX3
import Derived.WalkSpells
set_option linter.unusedVariables false
set_option linter.unusedSimpArgs false
namespace Go.AX
variable {P : Program} {Im : Nat → Prop} {w : World} {G : Gens}

/-- A bound that is given stands for an int. -/
theorem bndX_sound {x : Option AV} {d n : Nat} {v : Option Value} (h : bndX x d = some n) (hv : (x = none ∧ v = none) ∨ ∃ a u, x = some a ∧ v = some u ∧ V Im w G a u) :
    (x = none ∧ v = none ∧ n = d) ∨ ∃ k, v = some (.int k n) := by
  rcases hv with ⟨rfl, rfl⟩ | ⟨a, u, rfl, rfl, hv⟩
  · simp [bndX] at h; exact .inl ⟨rfl, rfl, h.symm⟩
  · unfold bndX at h
    split at h
    · rename_i hh; cases hh
    · rename_i k m d' hh
      cases hh
      obtain rfl := hv.int_inv
      split at h
      · rename_i h0
        cases h
        exact .inr ⟨_, by rw [Int.toNat_of_nonneg h0]⟩
      · cases h
    · cases h

theorem run_sliceBounds_of {isSlice : Bool} {len cap l h : Nat} {lo hi : Option Value} (hlo : (lo = none ∧ l = 0) ∨ ∃ k, lo = some (.int k l)) (hhi : (hi = none ∧ h = len) ∨ ∃ k, hi = some (.int k h))
    (h1 : l ≤ h) (h2 : h ≤ cap) : (Instr.sliceBounds isSlice len cap lo hi none).run P w = .ok (l, h, cap) w := by
  have b : ∀ (k : IntKind) (n y : Nat) (c : BoundsCode), n ≤ y → (Instr.sliceBound (.int k n) y c).run P w = .ok n w := fun k n y c hle => by
    have : ((0 : Int) ≤ (n : Int) ∧ (n : Int) ≤ (y : Int)) := ⟨by omega, by omega⟩
    simp [Instr.sliceBound, asIntOf, this]
  rcases hlo with ⟨rfl, rfl⟩ | ⟨k, rfl⟩ <;> rcases hhi with ⟨rfl, rfl⟩ | ⟨k', rfl⟩
  · simp [Instr.sliceBounds]
  · simp [Instr.sliceBounds, b k' h cap _ h2]
  · simp [Instr.sliceBounds, b k l _ _ h1]
  · simp [Instr.sliceBounds, b k' h cap _ h2, b k l _ _ h1]


theorem run_sliceAt_of {t el : TypeId} {sz len cap l h m : Nat} {a : Option Addr} {lo hi : Option Value} (hu : P.underlying t = some (.slice el)) (hsz : szT P el = some sz)
    (e : (Instr.sliceBounds true len cap lo hi none).run P w = .ok (l, h, m) w) :
    (Instr.sliceAt t (.slice a len cap) lo hi none).run P w = .ok (.slice (if m = l then a else a.map (·.add (l * sz))) (h - l) (m - l)) w := by
  simp [Instr.sliceAt, Instr.slice, run_underlying hu, e, run_sizeOf' hsz]

theorem sliceX_sound {t : TypeId} {x y : AV} {lo hi : Option AV} {v : Value} {vlo vhi : Option Value} (hx : V Im w G x v)
    (hlo : (lo = none ∧ vlo = none) ∨ ∃ a u, lo = some a ∧ vlo = some u ∧ V Im w G a u) (hhi : (hi = none ∧ vhi = none) ∨ ∃ a u, hi = some a ∧ vhi = some u ∧ V Im w G a u)
    (h : sliceX P t x lo hi = some y) : ∃ r, (Instr.sliceAt t v vlo vhi none).run P w = .ok r w ∧ V Im w G y r := by
  unfold sliceX at h
  split at h
  case h_5 => cases h
  case h_1 s =>
    obtain rfl := hx.str_inv
    split at h
    case isFalse => cases h
    rename_i hst
    split at h
    case h_2 => cases h
    rename_i l hh hl hhh
    split at h
    case isFalse => cases h
    rename_i hc
    cases h
    have e := run_sliceBounds_of (P := P) (w := w) (isSlice := false) (len := s.size) (cap := s.size) (by rcases bndX_sound hl hlo with ⟨_, a, b⟩ | b; exact .inl ⟨a, b⟩; exact .inr b)
      (by rcases bndX_sound hhh hhi with ⟨_, a, b⟩ | b; exact .inl ⟨a, b⟩; exact .inr b) hc.1 hc.2
    exact ⟨.string (s.extract l hh), by simp [Instr.sliceAt, Instr.slice, run_underlying (strT_spec hst), e], .str _⟩
  case h_2 es =>
    split at h
    case h_2 => cases h
    rename_i sz l hh hsz hl hhh
    split at h
    case isFalse => cases h
    rename_i hc
    obtain ⟨hc1, hc2, hc3⟩ := hc
    cases h
    cases he : elT P t with
    | none => simp [he] at hsz
    | some el =>
    simp only [he, Option.bind_some] at hsz
    have hu := elT_spec he
    have hb1 := bndX_sound hl hlo
    have hb2 := bndX_sound hhh hhi
    cases hx with
    | vec0 a cap =>
      simp only [List.length_nil, Nat.le_zero] at hc2
      subst hc2
      obtain rfl : l = 0 := by omega
      have e := run_sliceBounds_of (P := P) (w := w) (isSlice := true) (len := 0) (cap := cap) (by rcases hb1 with ⟨_, a, b⟩ | b; exact .inl ⟨a, b⟩; exact .inr b)
        (by rcases hb2 with ⟨_, a, b⟩ | b; exact .inl ⟨a, b⟩; exact .inr b) hc1 (Nat.zero_le _)
      exact ⟨_, run_sliceAt_of hu hsz e, .vec0 _ _⟩
    | vec _ ad cap sz' us hcap hs him hzz hcell hv =>
      have e := run_sliceBounds_of (P := P) (w := w) (isSlice := true) (len := es.length) (cap := cap) (by rcases hb1 with ⟨_, a, b⟩ | b; exact .inl ⟨a, b⟩; exact .inr b)
        (by rcases hb2 with ⟨_, a, b⟩ | b; exact .inl ⟨a, b⟩; exact .inr b) hc1 (by omega)
      refine ⟨_, run_sliceAt_of hu hsz e, ?_⟩
      simp only [Option.map_some]
      have hlen : ((es.take hh).drop l).length = hh - l := by simp; omega
      by_cases hcl : cap = l
      · obtain rfl : hh = l := by omega
        have : (es.take hh).drop hh = [] := by rw [List.drop_eq_nil_iff]; simp; omega
        rw [this, Nat.sub_self]
        exact .vec0 _ _
      · by_cases hz0 : hh - l = 0
        · have : (es.take hh).drop l = [] := List.eq_nil_of_length_eq_zero (by rw [hlen, hz0])
          rw [this, hz0]
          exact .vec0 _ _
        · have hzsz : sz' = sz := by
            have : es ≠ [] := by intro hn; subst hn; simp at hc2; omega
            obtain ⟨e0, he0⟩ := List.exists_mem_of_ne_nil es this
            rw [← hzz e0 he0]
            have := List.all_eq_true.1 hc3 e0 he0
            simpa using this
          subst hzsz
          rw [if_neg hcl, Addr.add_of hs, ← hlen]
          refine .vec _ ⟨ad.block, ad.off + l * sz', .none⟩ _ sz' (fun i j => us (l + i) j) (by rw [hlen]; omega) rfl him (fun e he => hzz e (List.mem_of_mem_take (List.mem_of_mem_drop he))) (fun i j e c hi hj => ?_) (fun i j e c hi hj => ?_)
          · rw [List.getElem?_drop, List.getElem?_take] at hi
            split at hi
            · have := hcell _ j e c hi hj
              rw [Nat.add_mul, ← Nat.add_assoc] at this
              exact this
            · cases hi
          · rw [List.getElem?_drop, List.getElem?_take] at hi
            split at hi
            · exact hv _ j e c hi hj
            · cases hi
  case h_3 id g sz off len =>
    split at h
    case h_2 => cases h
    rename_i l hh hl hhh
    split at h
    case isFalse => cases h
    rename_i hc
    obtain ⟨hsz, hc1, hc2⟩ := hc
    cases h
    cases he : elT P t with
    | none => simp [he] at hsz
    | some el =>
    simp only [he, Option.bind_some] at hsz
    have hu := elT_spec he
    have hb1 := bndX_sound hl hlo
    have hb2 := bndX_sound hhh hhi
    cases hx with
    | ref _ _ _ _ cap ll hg hN hcap =>
      have e := run_sliceBounds_of (P := P) (w := w) (isSlice := true) (len := len) (cap := cap) (by rcases hb1 with ⟨_, a, b⟩ | b; exact .inl ⟨a, b⟩; exact .inr b)
        (by rcases hb2 with ⟨_, a, b⟩ | b; exact .inl ⟨a, b⟩; exact .inr b) hc1 (by omega)
      refine ⟨_, run_sliceAt_of hu hsz e, ?_⟩
      simp only [Option.map_some]
      split
      · rename_i hl0
        subst hl0
        have hadd : (if cap = 0 then (some ⟨ll.r, ll.base + off * ll.sz, .none⟩ : Option Addr) else some ((⟨ll.r, ll.base + off * ll.sz, .none⟩ : Addr).add (0 * ll.sz))) = some ⟨ll.r, ll.base + off * ll.sz, .none⟩ := by
          rw [Addr.add_none]; simp
        rw [hadd]
        exact .ref id g off hh cap ll hg hN (by omega)
      · rename_i hl0
        split
        · rename_i hll
          subst hll
          rw [Nat.sub_self]
          exact .vec0 _ _
        · rename_i hll
          have hcl : cap ≠ l := by omega
          rw [if_neg hcl, Addr.add_none, Nat.add_assoc, ← Nat.add_mul]
          exact .ref id g (off + l) (hh - l) (cap - l) ll hg (by rw [show off + l + (cap - l) = off + cap by omega]; exact hN) (by omega)
  case h_4 =>
    split at h
    case h_2 => cases h
    rename_i sz hsz hl hhh
    cases h
    cases he : elT P t with
    | none => simp [he] at hsz
    | some el =>
    simp only [he, Option.bind_some] at hsz
    cases hx
    have e := run_sliceBounds_of (P := P) (w := w) (isSlice := true) (len := 0) (cap := 0) (by rcases bndX_sound hl hlo with ⟨_, a, b⟩ | b; exact .inl ⟨a, b⟩; exact .inr b)
      (by rcases bndX_sound hhh hhi with ⟨_, a, b⟩ | b; exact .inl ⟨a, b⟩; exact .inr b) (Nat.le_refl _) (Nat.le_refl _)
    exact ⟨_, run_sliceAt_of (elT_spec he) hsz e, .nils⟩

theorem intX_sound {op : BinOp} {k : IntKind} {x y : Int} {z : AV} (h : intX op k x y = some z) (hop : op ≠ .shl ∧ op ≠ .shr) (t : TypeId) :
    ∃ r, (binOp op t (.int k x) (.int k y)).run P w = .ok r w ∧ V Im w G z r := by
  cases op <;> simp only [intX, bitX, Option.map_some, Option.map_none, Option.some.injEq, reduceCtorEq, ne_eq, not_true_eq_false, false_and, and_false] at h hop
  case quo => split at h <;> (try cases h); rename_i h0; exact ⟨_, by simp [binOp, Op.intDiv, h0], .int _ _⟩
  case rem => split at h <;> (try cases h); rename_i h0; exact ⟨_, by simp [binOp, Op.intDiv, h0], .int _ _⟩
  all_goals
    subst h
    first
      | exact ⟨_, by simp [binOp, Op.intArith, Op.intBits, Op.intCmp], .int _ _⟩
      | exact ⟨_, by simp [binOp, Op.intArith, Op.intBits, Op.intCmp], .bool _⟩

theorem run_eqGuard_int {op : BinOp} {t : TypeId} {x y : Operand} {k k' : IntKind} {a b : Int} : (eqGuard op t x y (.int k a) (.int k' b)).run P w = .ok () w := by cases op <;> rfl
theorem run_eqGuard_bool {op : BinOp} {t : TypeId} {x y : Operand} {a b : Bool} : (eqGuard op t x y (.bool a) (.bool b)).run P w = .ok () w := by cases op <;> rfl
theorem run_eqGuard_str {op : BinOp} {t : TypeId} {x y : Operand} {a b : ByteArray} : (eqGuard op t x y (.string a) (.string b)).run P w = .ok () w := by cases op <;> rfl
theorem run_eqGuard_slice {op : BinOp} {t : TypeId} {x y : Operand} {a b : Option Addr} {n c n' c' : Nat} : (eqGuard op t x y (.slice a n c) (.slice b n' c')).run P w = .ok () w := by cases op <;> rfl
theorem run_eqGuard_map {op : BinOp} {t : TypeId} {x y : Operand} {a b : Option Nat} : (eqGuard op t x y (.map a) (.map b)).run P w = .ok () w := by cases op <;> rfl

theorem run_equal_slice_nil {t e : TypeId} (hu : P.underlying t = some (.slice e)) (a : Option Addr) (n c n' c' : Nat) (w : World) : (Op.equal t (.slice a n c) (.slice .none n' c')).run P w = .ok a.isNone w := by
  unfold Op.equal Op.maxDepth
  unfold Op.equalIn
  simp only [Sem.run_bind, run_underlying hu, Result.andThen_ok]
  cases a <;> rfl
theorem run_equal_map_nil {t k e : TypeId} (hu : P.underlying t = some (.map k e)) (a : Option Nat) (w : World) : (Op.equal t (.map a) (.map .none)).run P w = .ok a.isNone w := by
  unfold Op.equal Op.maxDepth
  unfold Op.equalIn
  simp only [Sem.run_bind, run_underlying hu, Result.andThen_ok]
  cases a <;> rfl
theorem run_binOp_slice_nil {t e : TypeId} (hu : P.underlying t = some (.slice e)) (a : Option Addr) (n c n' c' : Nat) (w : World) :
    (binOp .eql t (.slice a n c) (.slice .none n' c')).run P w = .ok (.bool a.isNone) w ∧ (binOp .neq t (.slice a n c) (.slice .none n' c')).run P w = .ok (.bool (!a.isNone)) w := by
  have h := run_equal_slice_nil hu a n c n' c' w
  constructor
  · show ((Op.equal t (.slice a n c) (.slice .none n' c')) >>= fun r => pure (Value.bool r)).run P w = _
    rw [Sem.run_bind, h]; rfl
  · show ((Op.equal t (.slice a n c) (.slice .none n' c')) >>= fun r => pure (Value.bool (!r))).run P w = _
    rw [Sem.run_bind, h]; rfl
theorem run_binOp_map_nil {t k e : TypeId} (hu : P.underlying t = some (.map k e)) (a : Option Nat) (w : World) :
    (binOp .eql t (.map a) (.map .none)).run P w = .ok (.bool a.isNone) w ∧ (binOp .neq t (.map a) (.map .none)).run P w = .ok (.bool (!a.isNone)) w := by
  have h := run_equal_map_nil hu a w
  constructor
  · show ((Op.equal t (.map a) (.map .none)) >>= fun r => pure (Value.bool r)).run P w = _
    rw [Sem.run_bind, h]; rfl
  · show ((Op.equal t (.map a) (.map .none)) >>= fun r => pure (Value.bool (!r))).run P w = _
    rw [Sem.run_bind, h]; rfl

theorem binX_sound {op : BinOp} {t : TypeId} {a b z : AV} {u v : Value} (ha : V Im w G a u) (hb : V Im w G b v) (h : binX P op t a b = some z) (x y : Operand) :
    ∃ r, (do eqGuard op t x y u v; binOp op t u v : Sem Value).run P w = .ok r w ∧ V Im w G z r := by
  unfold binX at h
  split at h
  case h_1 k n k' m =>
    obtain rfl := ha.int_inv
    obtain rfl := hb.int_inv
    simp only [Sem.run_bind, run_eqGuard_int, Result.andThen_ok]
    split at h
    · split at h
      · rename_i h0; cases h; exact ⟨_, by simp [binOp, Op.shift, show ¬ m < 0 by omega], .int _ _⟩
      · cases h
    · split at h
      · rename_i h0; cases h; exact ⟨_, by simp [binOp, Op.shift, show ¬ m < 0 by omega], .int _ _⟩
      · cases h
    · rename_i h1 h2
      split at h
      · rename_i hk
        subst hk
        exact intX_sound h ⟨h1, h2⟩ t
      · cases h
  case h_2 p q =>
    obtain rfl := ha.bool_inv
    obtain rfl := hb.bool_inv
    simp only [Sem.run_bind, run_eqGuard_bool, Result.andThen_ok]
    split at h
    case isFalse => cases h
    rename_i ht
    split at h
    · cases h; exact ⟨_, run_eql_bool w t p q (boolT_spec ht), .bool _⟩
    · cases h; exact ⟨_, run_neq_bool w t p q (boolT_spec ht), .bool _⟩
    · cases h
  case h_3 p q =>
    obtain rfl := ha.str_inv
    obtain rfl := hb.str_inv
    simp only [Sem.run_bind, run_eqGuard_str, Result.andThen_ok]
    split at h
    · cases h; exact ⟨_, by simp [binOp, Op.stringOp], .bool _⟩
    · cases h; exact ⟨_, by simp [binOp, Op.stringOp], .bool _⟩
    · cases h
  case h_4 =>
    split at h
    case isFalse => cases h
    rename_i ht
    obtain ⟨e, hu⟩ := sliceT_spec ht
    cases ha
    cases hb
    simp only [Sem.run_bind, run_eqGuard_slice, Result.andThen_ok]
    split at h
    · cases h; exact ⟨_, (run_binOp_slice_nil hu _ _ _ _ _ w).1, .bool _⟩
    · cases h; exact ⟨_, (run_binOp_slice_nil hu _ _ _ _ _ w).2, .bool _⟩
    · cases h
  case h_5 =>
    split at h
    case isFalse => cases h
    rename_i ht
    obtain ⟨e, hu⟩ := sliceT_spec ht
    cases ha
    cases hb
    simp only [Sem.run_bind, run_eqGuard_slice, Result.andThen_ok]
    split at h
    · cases h; exact ⟨_, (run_binOp_slice_nil hu _ _ _ _ _ w).1, .bool _⟩
    · cases h; exact ⟨_, (run_binOp_slice_nil hu _ _ _ _ _ w).2, .bool _⟩
    · cases h
  case h_6 =>
    split at h
    case isFalse => cases h
    rename_i ht
    obtain ⟨e, hu⟩ := sliceT_spec ht
    cases ha
    cases hb
    simp only [Sem.run_bind, run_eqGuard_slice, Result.andThen_ok]
    split at h
    · cases h; exact ⟨_, (run_binOp_slice_nil hu _ _ _ _ _ w).1, .bool _⟩
    · cases h; exact ⟨_, (run_binOp_slice_nil hu _ _ _ _ _ w).2, .bool _⟩
    · cases h
  case h_7 =>
    split at h
    case isFalse => cases h
    rename_i ht
    obtain ⟨e, e', hu⟩ := mapT_spec ht
    cases ha
    cases hb
    simp only [Sem.run_bind, run_eqGuard_map, Result.andThen_ok]
    split at h
    · cases h; exact ⟨_, (run_binOp_map_nil hu _ w).1, .bool _⟩
    · cases h; exact ⟨_, (run_binOp_map_nil hu _ w).2, .bool _⟩
    · cases h
  case h_8 =>
    split at h
    case isFalse => cases h
    rename_i ht
    obtain ⟨e, e', hu⟩ := mapT_spec ht
    cases ha
    cases hb
    simp only [Sem.run_bind, run_eqGuard_map, Result.andThen_ok]
    split at h
    · cases h; exact ⟨_, (run_binOp_map_nil hu _ w).1, .bool _⟩
    · cases h; exact ⟨_, (run_binOp_map_nil hu _ w).2, .bool _⟩
    · cases h
  case h_9 => cases h

theorem unX_sound {op : UnOp} {a z : AV} {u : Value} (ha : V Im w G a u) (h : unX op a = some z) : ∃ r, (Op.unary op u).run P w = .ok r w ∧ V Im w G z r := by
  unfold unX at h
  split at h
  · obtain rfl := ha.bool_inv; cases h; exact ⟨_, by simp [Op.unary], .bool _⟩
  · obtain rfl := ha.int_inv; cases h; exact ⟨_, by simp [Op.unary, Op.intArith], .int _ _⟩
  · cases h

theorem lenX_sound {H : Heap} {c : Nat} (hr : HR G Im w H c) {t : TypeId} {a z : AV} {u : Value} (ha : V Im w G a u) (h : lenX P H t a = some z) (ts : Array TypeId) (as : Array Value) (ht : ts[0]? = some t) (hx : as[0]? = some u) (ty : TypeId) :
    ∃ r, (Builtin.len_ ts ty as).run P w = .ok r w ∧ V Im w G z r := by
  unfold lenX at h
  split at h
  case h_1 s =>
    obtain rfl := ha.str_inv
    split at h
    · rename_i hs; cases h; exact ⟨_, by simp [Builtin.len_, ht, hx, run_underlying (strT_spec hs), goInt], .int _ _⟩
    · cases h
  case h_2 es =>
    split at h
    · rename_i hs
      obtain ⟨e, hu⟩ := sliceT_spec hs
      cases h
      cases ha <;> exact ⟨_, by simp [Builtin.len_, ht, hx, run_underlying hu, goInt], .int _ _⟩
    · cases h
  case h_3 =>
    split at h
    · rename_i hs
      obtain ⟨e, hu⟩ := sliceT_spec hs
      cases h
      cases ha
      exact ⟨_, by simp [Builtin.len_, ht, hx, run_underlying hu, goInt], .int _ _⟩
    · cases h
  case h_4 =>
    split at h
    · rename_i hs
      obtain ⟨e, hu⟩ := sliceT_spec hs
      cases h
      cases ha
      exact ⟨_, by simp [Builtin.len_, ht, hx, run_underlying hu, goInt], .int _ _⟩
    · cases h
  case h_5 =>
    split at h
    · rename_i hs
      obtain ⟨e, e', hu⟩ := mapT_spec hs
      cases h
      cases ha
      exact ⟨_, by simp [Builtin.len_, ht, hx, run_underlying hu, goInt], .int _ _⟩
    · cases h
  case h_6 id g =>
    split at h
    case isFalse => cases h
    rename_i hs
    obtain ⟨e, e', hu⟩ := mapT_spec hs
    split at h
    case h_2 => cases h
    rename_i g' ms hid
    split at h
    case isFalse => cases h
    rename_i hg
    subst hg
    cases h
    obtain ⟨l, es, clock, hl, hw, hsz, _⟩ := hr.blk id _ hid
    cases ha with
    | mref _ _ l' hl' =>
      rw [hl] at hl'
      cases hl'
      refine ⟨.int .i64 es.size, ?_, by rw [hsz]; exact .int _ _⟩
      simp [Builtin.len_, ht, hx, run_underlying hu, goInt, getObj, Sem.run, hw]
  case h_7 => cases h

end Go.AX
