/-
AX, part 10: one operation, calls, regions in the text's order.
-/
import Derived.Test.YtoplaknmmglagaaDoorAX18
set_option linter.unusedVariables false
set_option linter.unusedSectionVars false
set_option linter.unusedSimpArgs false
namespace Go.AX
variable {P : Program} [GL P]

theorem V.clo_inv {Im : Nat → Prop} {w : World} {G : Gens} {fn : Fn} {fs cs : List AV} {v : Value} (h : V Im w G (.clo fn fs cs) v) : ∃ vf vc : List Value, v = .func fn vf.toArray vc.toArray ∧ Vs Im w G fs vf ∧ Vs Im w G cs vc := by
  cases h with
  | clo _ _ _ vf vc h1 h2 h3 h4 => exact ⟨vf, vc, rfl, ⟨h1, h3⟩, ⟨h2, h4⟩⟩

theorem run_callFunc {f : FuncId} (h : Enters P f) (args : Array Value) (w : World) : (callFunc f args).run P w = .ok (.enter f args) w := by
  obtain ⟨fn, hf, hb, hn⟩ := h
  have hb' : fn.body.isNone = false := by cases hh : fn.body <;> simp_all
  simp only [callFunc, Sem.run_bind, run_program, Result.andThen_ok, hf]
  rw [if_neg (by simp [hn]), if_neg (by simp [hb'])]
  rfl

/-- Behind an operation: a state, of which 'K' holds; generations below have not turned, but for the one that was kept. -/
def Aft (P : Program) [GL P] (n : Nat) (B : Base) (G : Gens) (c : Nat) (m : Mode) (K : St → Prop) (a : Act) (w : World) : Prop :=
  ∃ σ G' Im', Sim P n B G' Im' σ a w ∧ K σ ∧ ∀ g, g < c → (∀ id, m.kept ≠ some (id, g)) → G' g = G g

/-- The places kept for new blocks are free. -/
def KeptOK (G : Gens) (c0 : Nat) (σ : St) (m : Mode) : Prop := ∀ id g, m.kept = some (id, g) → σ.H[id]? = some none ∧ G g = none ∧ g < σ.c ∧ c0 ≤ g

theorem CallWP_sound {n : Nat} {B : Base} {G : Gens} {Im : Nat → Prop} {σ : St} {a : Act} {w : World} (hs : Sim P n B G Im σ a w) {m : Mode} {f : FuncId} {args : List AV} {vs : List Value} (hv : Vs Im w G args vs) {K : AV → Heap → Nat → Prop} (h : CallWP P m f args K σ.H σ.c) :
    Enters P f ∧ Calls P f vs.toArray w fun e w' => ∃ v r H' c' G' Im', e = .returned v ∧ K r H' c' ∧ HR G' Im' w' H' c' ∧ Ext σ.c G Im w σ.H G' Im' w' H' ∧ V Im' w' G' r v ∧ σ.c ≤ c' := by
  have hlt0 : ∀ r, ((true = true ∧ Im r) ∨ Owned G σ.H r) → r < w.heap.size := fun r h => by
    rcases h with ⟨_, h⟩ | ⟨i, b, l, hi, hl, e⟩
    · exact hs.hr.imLt r h
    · exact e ▸ hs.hr.lt _ _ hl
  rcases h with ⟨al, res, hn, ⟨hE, hp⟩, hK⟩ | ⟨_, args', res, hf, ⟨hE, hp⟩, hK⟩ | ⟨_, post, ⟨hE, hp⟩, hK⟩
  · refine ⟨hE, (hp Im w vs hs.hr.imLt hs.glob ⟨hv.1, fun j c u hj hu => (hv.2 j c u hj hu).noRef (List.all_eq_true.1 hn c (List.mem_of_getElem? hj))⟩).mono ?_⟩
    rintro e w' ⟨v, Im', rfl, hvr, him, hil, hk, hsz, hso⟩
    obtain ⟨h1, h2⟩ := hs.hr.after (c0 := σ.c) hk hsz hil hso
    refine ⟨v, res, σ.H, σ.c, G, _, rfl, hK, h1, h2, ?_, Nat.le_refl _⟩
    exact (hvr.mono (fun _ _ h => h) (fun r hr => by rcases him r hr with ⟨_, h⟩ | h; exact .inl h; exact .inr ⟨hr, h⟩) (fun _ _ => rfl)).of_none
  · refine ⟨hE, (hp _ w vs hlt0 (hs.glob.sub fun r h => .inl ⟨rfl, h⟩) (hf.sound hs.hr hv)).mono ?_⟩
    rintro e w' ⟨v, Im', rfl, hvr, him, hil, hk, hsz, hso⟩
    obtain ⟨h1, h2⟩ := hs.hr.after (c0 := σ.c) hk hsz hil hso
    refine ⟨v, res, σ.H, σ.c, G, _, rfl, hK, h1, h2, ?_, Nat.le_refl _⟩
    exact (hvr.mono (fun _ _ h => h) (fun r hr => by rcases him r hr with ⟨h, _⟩ | h; cases h; exact .inr ⟨hr, h⟩) (fun _ _ => rfl)).of_none
  · refine ⟨hE, (hp G Im w vs hs.hr hs.glob hv).mono ?_⟩
    rintro e w' ⟨v, r, H', c', G', Im', rfl, hpost, hr', hext, hvr, hc⟩
    exact ⟨v, r, H', c', G', Im', rfl, hK _ _ _ hpost, hr', hext, hvr, hc⟩

theorem WPop_sound {n : Nat} {B : Base} {G : Gens} {Im : Nat → Prop} {σ : St} {a : Act} {w : World} (hs : Sim P n B G Im σ a w) {m : Mode} {o : Oper} (hd : ∀ t, o.dst = some t → t < n) (hk : KeptOK G B.c0 σ m) {K : St → Prop} {Q : Ex → St → Prop} (h : WPop P m o K Q σ) :
    o.wp P a w (Aft P n B G σ.c m K) (RQ P n B Q) := by
  unfold WPop at h
  split at h
  · rename_i f args tys hop
    split at h
    case h_2 => cases h
    rename_i fid first captured hf
    have hfv := hs.ev f
    rw [hf] at hfv
    obtain ⟨vf, vc, hfe, hvf, hvc⟩ : ∃ vf vc : List Value, a.eval f = .func (.func fid) vf.toArray vc.toArray ∧ Vs Im w G first vf ∧ Vs Im w G captured vc := by
      exact hfv.clo_inv
    have hargs : Vs Im w G (args.toList.map (σ.ev P)) (args.toList.map a.eval) := Vs.map _ _ _ fun x _ => hs.ev x
    obtain ⟨hE, hc⟩ := CallWP_sound hs ((hvf.append hargs).append hvc) h
    have hrun : (execOp a.eval o).run P w = .ok (.enter fid (vf ++ args.toList.map a.eval ++ vc).toArray) w := by
      obtain ⟨dst, op, type, pos, after, guard⟩ := o
      simp only at hop
      subst hop
      have he : (vf.toArray ++ args.map a.eval) ++ vc.toArray = (vf ++ args.toList.map a.eval ++ vc).toArray := by
        apply Array.ext'
        simp
      simp only [execOp, resolve, Sem.run_bind, hfe, Deferred.ofValue, Sem.run_pure, Result.andThen_ok, invoke, run_callFunc hE, he]
    unfold Oper.wp
    rw [hrun, Oper.upon_enter]
    refine hc.mono ?_
    rintro e w' ⟨v, r, H', c', G', Im', rfl, hK, hr', hext, hvr, hcc⟩
    exact ⟨_, G', Im', hs.step hr' (hext.le hs.c0) hcc hd hvr, hK, fun g hg _ => hext.old g hg⟩
  · rename_i x hop
    split at h
    case h_2 => cases h
    rename_i t v hx
    have hxv := hs.ev x
    rw [hx] at hxv
    obtain ⟨u, hq⟩ : ∃ u, a.eval x = .iface t u := by
      cases hq : a.eval x <;> rw [hq] at hxv <;> cases hxv
      exact ⟨_, rfl⟩
    unfold Oper.wp
    have hrun : (execOp a.eval o).run P w = .halt (.panic (.iface t u)) w := by
      obtain ⟨dst, op, type, pos, after, guard⟩ := o
      simp only at hop
      subst hop
      simp [execOp, hq, Instr.panic]
    rw [hrun, Oper.upon_panic]
    exact ⟨σ, G, Im, _, _, hs, h, rfl, by rw [← hq]; exact hxv⟩
  · rename_i hnc hnp
    split at h
    case h_2 =>
      obtain ⟨_, h⟩ := h
      split at h
      case h_2 =>
        split at h
        case h_2 => cases h
        rename_i lo hcap
        obtain ⟨n, hn, hrun⟩ := capX_sound hs.hr (ev := σ.ev P) (ρ := a.eval) hs.ev (o := o) hcap
        unfold Oper.wp
        rw [hrun, Oper.upon_value]
        exact ⟨_, G, Im, hs.put (d := o.dst) hd (.int .i64 n), h n hn, fun _ _ _ => rfl⟩
      rename_i v H' c' hi
      obtain ⟨nx, w', G', Im', u, hrun, hnx, h1, h2, h3, h4⟩ := impX_sound (c0 := σ.c) hs.hr (Nat.le_refl _) (ev := (σ.ev P)) (ρ := a.eval) hs.ev (o := o) hi
      unfold Oper.wp
      rw [hrun]
      rcases hnx with rfl | ⟨rfl, rfl⟩
      · rw [Oper.upon_value]
        exact ⟨_, G', Im', hs.step h1 (h2.le hs.c0) h4 hd h3, h, fun g hg _ => h2.old g hg⟩
      · rw [Oper.upon_skip]
        exact ⟨_, G', Im', hs.step h1 (h2.le hs.c0) h4 hd (.dead _), h, fun g hg _ => h2.old g hg⟩
    rename_i e he
    have := opX_sound (c0 := σ.c) hs.hr (Nat.le_refl _) (ev := σ.ev P) (ρ := a.eval) hs.ev (o := o) he
    unfold Oper.wp
    cases e with
    | val x =>
      obtain ⟨v, w', hrun, h1, h2, hv⟩ := this
      rw [hrun, Oper.upon_value]
      exact ⟨_, G, Im, hs.step h1 (h2.le hs.c0) (Nat.le_refl _) hd hv, h, fun _ _ _ => rfl⟩
    | upd x H' =>
      obtain ⟨rfl, w', hrun, h1, h2⟩ := this
      rw [hrun, Oper.upon_skip]
      exact ⟨_, G, Im, hs.step h1 (h2.le hs.c0) (Nat.le_refl _) hd (.dead _), h, fun _ _ _ => rfl⟩
    | gen f =>
      obtain ⟨v, w', G', hrun, h1, h2, h3⟩ := this
      rw [hrun, Oper.upon_value]
      exact ⟨_, G', Im, hs.step h1 (h2.le hs.c0) (Nat.le_succ _) hd h3, h, fun g hg _ => h2.old g hg⟩
    | new b mk =>
      obtain ⟨rv, w', l, obj, hrun, hl, hw', hso, hbg, hb⟩ := this
      rw [hrun, Oper.upon_value]
      cases hkk : m.kept with
      | none =>
        have hG : G σ.c = none := by
          cases hg : G σ.c with
          | none => rfl
          | some l => exact absurd (hs.hr.fresh _ l hg) (Nat.lt_irrefl _)
        obtain ⟨hb1, hb2⟩ := hb σ.c hG
        obtain ⟨h1, h2⟩ := hs.hr.new (H' := σ.H ++ [some (b σ.c)]) (c' := σ.c + 1) (c0 := B.c0) (id := σ.H.length) hl hG (Nat.lt_succ_self _) (Nat.le_succ _) hs.c0 (fun _ _ hh => getElem?_push_some hh) (hbg _) hw' hb1 hso
        refine ⟨_, _, Im, hs.step h1 h2 (Nat.le_succ _) hd (hb2 σ.H.length), ?_, fun g hg _ => setG_ne _ (by omega)⟩
        simpa [Eff.put, hkk] using h
      | some p =>
        obtain ⟨id, g⟩ := p
        obtain ⟨k1, k2, k3, k4⟩ := hk id g hkk
        obtain ⟨hb1, hb2⟩ := hb g k2
        obtain ⟨h1, h2⟩ := hs.hr.new (H' := σ.H.set id (some (b g))) (c' := σ.c) (c0 := B.c0) (id := id) hl k2 k3 (Nat.le_refl _) k4 (fun _ _ hh => getElem?_set_some hh) (hbg _) hw' hb1 hso
        refine ⟨_, _, Im, hs.step h1 h2 (Nat.le_refl _) hd (hb2 id), ?_, fun g' hg hne => setG_ne _ fun e => hne id (by rw [hkk, e])⟩
        simpa [Eff.put, hkk] using h

theorem tup_nil_undef {Im : Nat → Prop} {w : World} {G : Gens} : V Im w G (.tup []) undef := by
  have := V.tup (Im := Im) (w := w) (G := G) [] [] rfl (fun j c u h => by simp at h)
  exact this

/-- An operation, guarded or not. -/
theorem WPg_sound {n : Nat} {B : Base} {G : Gens} {Im : Nat → Prop} {σ : St} {a : Act} {w : World} (hs : Sim P n B G Im σ a w) {ops : Array Oper} {i : Nat} {o : Oper} (hi : ops[i]? = some o) (hd : ∀ t, o.dst = some t → t < n) (hdn : ∀ (j : Nat) (o : Oper) t, ops[j]? = some o → o.dst = some t → t < n)
    {m : Mode} {X : (St → Prop) → St → Prop} {K : St → Prop} {Q : Ex → St → Prop} (hX : X K σ → o.wp P a w (Aft P n B G σ.c m K) (RQ P n B Q)) (h : WPg (fun j => (ops[j]?).bind (·.dst)) o X K σ) :
    wpOp P ops (RQ P n B Q) i (Aft P n B G σ.c m K) a w := by
  unfold wpOp
  simp only [hi]
  unfold WPg at h
  cases hg : o.guard with
  | none =>
    simp only [hg] at h
    rw [if_pos (by simp [Region.wanted, hg])]
    exact .inl (hX h)
  | some p =>
    obtain ⟨j, want⟩ := p
    simp only [hg] at h
    split at h
    · cases h
    · rename_i d hd'
      have hdlt : d < a.tmps.size := by
        cases ho : ops[j]? with
        | none => simp [ho] at hd'
        | some o' => simp [ho] at hd'; rw [hs.size]; exact hdn j o' d ho hd'
      have hv := hs.sl d
      have hget : a.tmps[d]? = some (a.tmps.getD d undef) := by simp [hdlt]
      split at h
      · rename_i b hb
        rw [hb] at hv
        have he := hv.bool_inv
        have hy : yielded ops a.tmps j = some b := by
          unfold yielded
          rw [hd', Option.bind_some, hget, he]
        by_cases hbw : b = want
        · rw [if_pos (by simp [Region.wanted, hg, hy, hbw])]
          exact .inl (hX (h.1 hbw))
        · rw [if_neg (by simp [Region.wanted, hg, hy, hbw])]
          exact ⟨_, G, Im, hs.put hd tup_nil_undef, h.2 hbw, fun _ _ _ => rfl⟩
      · rename_i cs hb
        rw [hb] at hv
        obtain ⟨vs, he, _⟩ := hv.tup_inv
        have hy : yielded ops a.tmps j = none := by
          unfold yielded
          rw [hd', Option.bind_some, hget, he]
        rw [if_neg (by simp [Region.wanted, hg, hy])]
        exact ⟨_, G, Im, hs.put hd tup_nil_undef, h, fun _ _ _ => rfl⟩
      · cases h

theorem WPf_sound {n : Nat} {B : Base} {ops : Array Oper} (hdn : ∀ (j : Nat) (o : Oper) t, ops[j]? = some o → o.dst = some t → t < n) {K : St → Prop} {Q : Ex → St → Prop} (hK : ∀ σ a w, Rel P n B σ a w → K σ → RQ P n B Q .normal a w) :
    ∀ (l : List Oper) (k : Nat), ops.toList.drop k = l → ∀ (σ : St) (a : Act) (w : World), Rel P n B σ a w → WPf P (fun j => (ops[j]?).bind (·.dst)) Q l K σ → wpOps P ops (RQ P n B Q) (List.range' k l.length) a w
  | [], k, _, σ, a, w, hr, h => hK σ a w hr h
  | o :: l, k, hk, σ, a, w, ⟨G, Im, hs⟩, h => by
    have hlt : k < ops.toList.length := by
      rcases Nat.lt_or_ge k ops.toList.length with h' | h'
      · exact h'
      · rw [List.drop_eq_nil_of_le h'] at hk; cases hk
    have hi : ops[k]? = some o := by
      rw [← Array.getElem?_toList]
      have : (ops.toList.drop k)[0]? = some o := by rw [hk]; rfl
      rwa [List.getElem?_drop, Nat.add_zero] at this
    have hk' : ops.toList.drop (k + 1) = l := by
      rw [← List.drop_drop (i := 1) (j := k), hk]
      rfl
    simp only [List.length_cons, List.range'_succ]
    rw [wpOps_cons]
    simp only [WPf] at h
    refine wpOp_mono (fun a' w' ⟨σ', G', Im', hr', h', _⟩ => WPf_sound hdn hK l (k + 1) hk' σ' a' w' ⟨G', Im', hr'⟩ h') (WPg_sound (m := {}) hs hi (fun t ht => hdn k o t hi ht) hdn (fun hx => WPop_sound hs (fun t ht => hdn k o t hi ht) (fun id g hh => by cases hh) hx) h)

end Go.AX
