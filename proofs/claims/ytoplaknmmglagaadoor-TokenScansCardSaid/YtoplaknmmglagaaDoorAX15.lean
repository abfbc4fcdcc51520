/-
AX, part 15: the calculus is sound: a region that draws, the code, calls.
-/
import Derived.Test.YtoplaknmmglagaaDoorAX14
set_option linter.unusedVariables false
set_option linter.unusedSectionVars false
set_option linter.unusedSimpArgs false
namespace Go.AX
variable {P : Program} [GL P]

theorem lk_keep (s : Slots) (l : List Nat) (i : Nat) : lk (l.map fun i => (i, lk s i)) i = .dead ∨ lk (l.map fun i => (i, lk s i)) i = lk s i := by
  induction l with
  | nil => exact .inl rfl
  | cons j l ih =>
    simp only [List.map_cons, lk]
    by_cases h : j = i
    · subst h; rw [if_pos rfl]; exact .inr rfl
    · rw [if_neg h]; exact ih

theorem Weak.keep (σ : St) (l : List Nat) : Weak σ (σ.keep l) := ⟨fun i => lk_keep σ.sl l i, fun _ _ h => h, Nat.le_refl _⟩
theorem Weak.refl (σ : St) : Weak σ σ := ⟨fun i => .inr rfl, fun _ _ h => h, Nat.le_refl _⟩

theorem Rel.weak {n : Nat} {B : Base} {σ τ : St} {a : Act} {w : World} (h : Rel P n B σ a w) (hw : Weak σ τ) : Rel P n B τ a w := by
  obtain ⟨G, Im, hs⟩ := h
  refine ⟨G, Im, hs.hr.weak hw.H hw.c, hs.ext.trans (Ext.weak hw.H), fun i => ?_, hs.size, hs.defers, Nat.le_trans hs.c0 hw.c, hs.glob⟩
  rcases hw.sl i with e | e
  · rw [e]; exact .dead _
  · rw [e]; exact hs.sl i

theorem V.heap {Im : Nat → Prop} {w w' : World} (h : w'.heap = w.heap) {G : Gens} {x : AV} {v : Value} (hv : V Im w G x v) : V Im w' G x v := hv.mono (fun _ _ h => h) (fun _ h => h) (fun r _ => by rw [h])

theorem Sim.heap {n : Nat} {B : Base} {G : Gens} {Im : Nat → Prop} {σ : St} {a : Act} {w w' : World} (hs : Sim P n B G Im σ a w) (h : w'.heap = w.heap) (ho : SameOut w w') : Sim P n B G Im σ a w' := by
  refine ⟨⟨fun i b hi => (hs.hr.blk i b hi).mono (fun _ _ h => h) (fun _ h => h) (fun r _ => by rw [h]) (fun l _ => by rw [h]), hs.hr.inj, hs.hr.notIm, hs.hr.fresh, fun g l hg => by rw [h]; exact hs.hr.lt g l hg, fun r hr => by rw [h]; exact hs.hr.imLt r hr⟩,
    ⟨hs.ext.gen, hs.ext.im, hs.ext.imNew, fun r h1 h2 => by rw [h]; exact hs.ext.keep r h1 h2, by rw [h]; exact hs.ext.size, hs.ext.own, hs.ext.old, hs.ext.out.trans ho⟩, fun i => (hs.sl i).heap h, hs.size, hs.defers, hs.c0, fun g => (hs.glob g).heap h⟩

theorem outG_WPg {gd : Nat → Option Tmp} {m : Mode} {o : Oper} {σ : St} {v : AV} {H' : Heap} {c' : Nat} {K : St → Prop} {Q : Ex → St → Prop} (h : OutG P gd m o (lk σ.sl) σ.H σ.c v H' c') (hK : K ⟨putO σ.sl o.dst v, H', c'⟩) :
    WPg gd o (fun K τ => WPop P m o K Q τ) K σ := by
  unfold OutG at h
  rw [← St.ev_eq] at h
  unfold WPg
  cases hg : o.guard with
  | none =>
    simp only [hg] at h
    exact out_WPop h.2 hK
  | some q =>
    obtain ⟨j, want⟩ := q
    simp only [hg] at h
    cases hd : gd j with
    | none => simp [hd] at h
    | some d =>
      simp only [hd] at h
      cases hb : lk σ.sl d with
      | bool b =>
        simp only [hb] at h
        by_cases hbw : b = want
        · rw [if_pos hbw] at h
          simp only [hd, hb]
          exact ⟨fun _ => out_WPop h.2 hK, fun hne => absurd hbw hne⟩
        · rw [if_neg hbw] at h
          obtain ⟨rfl, rfl, rfl⟩ := h
          simp only [hd, hb]
          exact ⟨fun hne => absurd hne hbw, fun _ => hK⟩
      | tup cs =>
        simp only [hb] at h
        obtain ⟨rfl, rfl, rfl⟩ := h
        simp only [hd, hb]
        exact hK
      | _ => simp [hb] at h

theorem WPg_outG {gd : Nat → Option Tmp} {m : Mode} (hm : m.imp = false) {o : Oper} (hnew : isNew o.op = true → m.kept.isSome = true) {σ : St} {K : St → Prop}
    (h : WPg gd o (fun K τ => okD P m o.op (τ.ev P) τ.H = true ∧ WPop P m o K (fun _ _ => False) τ) K σ) : ∃ v H' c', OutG P gd m o (lk σ.sl) σ.H σ.c v H' c' ∧ K ⟨putO σ.sl o.dst v, H', c'⟩ := by
  unfold WPg at h
  unfold OutG
  rw [← St.ev_eq]
  cases hg : o.guard with
  | none =>
    simp only [hg] at h
    obtain ⟨v, H', c', h1, h2⟩ := WPop_out hm hnew h.2
    exact ⟨v, H', c', ⟨h.1, h1⟩, h2⟩
  | some q =>
    obtain ⟨j, want⟩ := q
    simp only [hg] at h
    cases hd : gd j with
    | none => simp [hd] at h
    | some d =>
      simp only [hd] at h
      cases hb : lk σ.sl d with
      | bool b =>
        simp only [hb] at h
        by_cases hbw : b = want
        · obtain ⟨v, H', c', h1, h2⟩ := WPop_out hm hnew (h.1 hbw).2
          exact ⟨v, H', c', by simp only [hd, hb, if_pos hbw]; exact ⟨(h.1 hbw).1, h1⟩, h2⟩
        · exact ⟨.tup [], σ.H, σ.c, by simp only [hd, hb, if_neg hbw]; trivial, h.2 hbw⟩
      | tup cs =>
        simp only [hb] at h
        exact ⟨.tup [], σ.H, σ.c, by simp only [hd, hb]; trivial, h⟩
      | _ => simp [hb] at h

section draw
variable {ops : Array Oper} {r : RA}

theorem commB_spec (h : commB ops r = true) : r.dms.length = ops.size ∧ Region.noSelect ops = true ∧ ∀ (j : Nat) (oj : Oper), ops[j]? = some oj →
    (∀ e ∈ oj.after, Region.binds .any e = true → e.on < j) ∧ (r.dms.getD j {}).new.isSome = isNew oj.op ∧ (∀ k, (r.dms.getD j {}).new = some k → k < r.news) ∧
    ∀ (k : Nat) (ok : Oper), k < j → ops[k]? = some ok → (((Region.before ops).getD j 0).testBit k = true ∨ (ok.apart ops oj = true ∧ compatB ok.op (r.dms.getD k {}) oj.op (r.dms.getD j {}) = true)) ∧
      ∀ x, (r.dms.getD k {}).new = some x → (r.dms.getD j {}).new = some x → False := by
  unfold commB at h
  simp only [Bool.and_eq_true, beq_iff_eq] at h
  obtain ⟨⟨h1, h2⟩, h3⟩ := h
  refine ⟨h1, h2, fun j oj hj => ?_⟩
  have hlt : j < ops.size := (Array.getElem?_eq_some_iff.1 hj).1
  have := List.all_eq_true.1 h3 j (List.mem_range.2 hlt)
  simp only [hj, Bool.and_eq_true] at this
  obtain ⟨⟨⟨q1, q2⟩, q3⟩, q4⟩ := this
  refine ⟨fun e he hb => ?_, by simpa using q2, fun k hk => by rw [hk] at q3; simpa using q3, fun k ok hk hok => ?_⟩
  · have := Array.all_eq_true_iff_forall_mem.1 q1 e he
    simpa [hb] using this
  · have := List.all_eq_true.1 q4 k (List.mem_range.2 hk)
    unfold pairB at this
    simp only [hok, Bool.and_eq_true, Bool.or_eq_true] at this
    refine ⟨this.1, fun x h1 h2 => ?_⟩
    have h3 := this.2
    rw [h1, h2] at h3
    simp at h3

theorem getD_false {listed : Array Bool} {j : Nat} (h : listed.getD j true = false) : listed.getD j false = false := by
  rcases Nat.lt_or_ge j listed.size with h' | h'
  · simp [h'] at h ⊢; exact h
  · simp [h']

theorem any_sound (hcomm : commB ops r = true) {n : Nat} {B : Base} (hdn : ∀ (j : Nat) (o : Oper) t, ops[j]? = some o → o.dst = some t → t < n) {n0 k0 : Nat} {KF : F → Prop} {Q : Ex → St → Prop} (hK : ∀ σ a w, Rel P n B σ a w → KF (toF σ) → RQ P n B Q .normal a w) :
    ∀ (fuel : Nat) (listed : Array Bool) (T : List Nat) (σ : St) (a : Act) (w : World) (G : Gens) (Im : Nat → Prop), listed.size = ops.size → (∀ i, i ∈ T ↔ i < ops.size ∧ listed.getD i true = false) → T.Pairwise (· < ·) → T.length = fuel →
      (∀ (j : Nat) (o : Oper), ops[j]? = some o → listed.getD j false = true → ∀ e ∈ o.after, Region.binds .any e = true → listed.getD e.on false = true) → Sim P n B G Im σ a w → n0 + r.news ≤ σ.H.length →
      (∀ i ∈ T, KeptOK G B.c0 σ ((r.dms.getD i {}).mode n0 k0)) → Ch P ops (fun i => (r.dms.getD i {}).mode n0 k0) KF T (toF σ) → wpAny P .any ops (RQ P n B Q) fuel listed a w := by
  obtain ⟨hlen, hsel, hspec⟩ := commB_spec hcomm
  intro fuel
  induction fuel with
  | zero =>
    intro listed T σ a w G Im hsz hT hsort hTl hcl hs hH hfree hch
    have hT0 : T = [] := List.eq_nil_of_length_eq_zero hTl
    subst hT0
    refine ⟨?_, hK σ a w ⟨G, Im, hs⟩ hch⟩
    apply List.eq_nil_iff_forall_not_mem.2
    intro j hj
    obtain ⟨h1, o, ho, _⟩ := mem_ready.1 hj
    have := (hT j).2 ⟨(Array.getElem?_eq_some_iff.1 ho).1, h1⟩
    cases this
  | succ fuel ih =>
    intro listed T σ a w G Im hsz hT hsort hTl hcl hs hH hfree hch
    -- what is listed is closed
    have hlst : ∀ j, j < ops.size → listed.getD j true = true → listed.getD j false = true := fun j hj h => by
      simp [hsz, hj] at h ⊢; exact h
    have hclo : ∀ j, ∀ (o : Oper) k, ops[j]? = some o → listed.getD j false = true → ((Region.before ops).getD j 0).testBit k = true → listed.getD k false = true := by
      intro j
      induction j using Nat.strongRecOn with
      | _ j ihj =>
        intro o k ho hl hb
        obtain ⟨e, he, hbi, hk⟩ := before_bit ho hb
        have hle := hcl j o ho hl e he hbi
        rcases hk with rfl | ⟨hlt, hk⟩
        · exact hle
        · have hon : e.on < ops.size := Nat.lt_trans hlt (Array.getElem?_eq_some_iff.1 ho).1
          exact ihj e.on hlt _ k (Array.getElem?_eq_getElem hon) hle hk
    refine ⟨fun hnil => ?_, fun i hi => ?_⟩
    · cases T with
      | nil => simp at hTl
      | cons t T' =>
        obtain ⟨ht1, ht2⟩ := (hT t).1 (by simp)
        have hto := Array.getElem?_eq_getElem ht1
        have : t ∈ Region.ready .any ops listed := mem_ready.2 ⟨ht2, _, hto, fun e he hb => by
          have hlt := (hspec t _ hto).1 e he hb
          have hon : e.on < ops.size := Nat.lt_trans hlt ht1
          cases hh : listed.getD e.on true with
          | true => exact hlst e.on hon hh
          | false =>
            have hm := (hT e.on).2 ⟨hon, hh⟩
            rcases List.mem_cons.1 hm with h | h
            · omega
            · have := (List.pairwise_cons.1 hsort).1 _ h; omega⟩
        rw [hnil] at this
        cases this
    · obtain ⟨hiu, oi, hoi, hall⟩ := mem_ready.1 hi
      have hisz : i < ops.size := (Array.getElem?_eq_some_iff.1 hoi).1
      have hiT : i ∈ T := (hT i).2 ⟨hisz, hiu⟩
      obtain ⟨l1, l2, rfl⟩ := List.append_of_mem hiT
      have hsort' := List.pairwise_append.1 hsort
      have hl1 : ∀ y ∈ l1, y < i := fun y hy => hsort'.2.2 y hy i (by simp)
      have hl2 : ∀ y ∈ l2, i < y := fun y hy => (List.pairwise_cons.1 hsort'.2.1).1 y hy
      have hnews : ∀ (j k : Nat), (r.dms.getD j {}).new = some k → j < ops.size → n0 + k < σ.H.length := fun j k hk hj => by
        have := (hspec j _ (Array.getElem?_eq_getElem hj)).2.2.1 k hk
        omega
      have hdist : ∀ (j k x : Nat), j ≠ k → j < ops.size → k < ops.size → (r.dms.getD j {}).new = some x → (r.dms.getD k {}).new = some x → False := fun j k x hne hj hk h1 h2 => by
        rcases Nat.lt_or_gt_of_ne hne with h | h
        · exact ((hspec k _ (Array.getElem?_eq_getElem hk)).2.2.2 j _ h (Array.getElem?_eq_getElem hj)).2 x h1 h2
        · exact ((hspec j _ (Array.getElem?_eq_getElem hj)).2.2.2 k _ h (Array.getElem?_eq_getElem hk)).2 x h2 h1
      obtain ⟨f1, hst, hch'⟩ := front hoi l1 (toF σ) (fun y hy => by
        obtain ⟨hy1, hy2⟩ := (hT y).1 (by simp [hy])
        have hoy := Array.getElem?_eq_getElem hy1
        obtain ⟨hp, hn⟩ := (hspec i oi hoi).2.2.2 y _ (hl1 y hy) hoy
        rcases hp with hp | ⟨hp1, hp2⟩
        · exfalso
          obtain ⟨e, he, hb, hk⟩ := before_bit hoi hp
          have hle := hall e he hb
          have hyl : listed.getD y false = true := by
            rcases hk with rfl | ⟨hlt, hk⟩
            · exact hle
            · have hon : e.on < ops.size := Nat.lt_trans hlt hisz
              exact hclo e.on _ y (Array.getElem?_eq_getElem hon) hle hk
          rw [getD_false hy2] at hyl
          cases hyl
        · exact ⟨_, hoy, hp1, hp2, fun k h1 h2 => hn k h1 h2, fun k hk => hnews y k hk hy1⟩) (fun k hk => hnews i k hk hisz) hch
      obtain ⟨o, v, H', c', ho, hout, rfl⟩ := hst
      rw [hoi] at ho
      cases ho
      obtain ⟨g1, g2, g3⟩ := OutG_heap hout
      have hwg := outG_WPg (K := fun τ => toF τ = ⟨updO (lk σ.sl) oi.dst v, H', c'⟩) (Q := Q) hout (by unfold toF; rw [lk_upd])
      refine wpOp_mono (fun a' w' ⟨σ', G', Im', hs', hf', hg'⟩ => ?_) (WPg_sound hs hoi (fun t ht => hdn i oi t hoi ht) hdn (fun hx => WPop_sound hs (fun t ht => hdn i oi t hoi ht) (hfree i (by simp)) hx) hwg)
      have hH' : σ'.H = H' := congrArg F.H hf'
      have hc' : σ'.c = c' := congrArg F.c hf'
      refine ih (listed.setIfInBounds i true) (l1 ++ l2) σ' a' w' G' Im' (by simpa using hsz) (fun j => ?_) ?_ (by simp at hTl ⊢; omega) (fun j o hj hl e he hb => ?_) hs' (by rw [hH']; exact Nat.le_trans hH g1) (fun j hj => ?_) (by rw [hf']; exact hch')
      · have := hT j
        simp only [List.mem_append, List.mem_cons] at this ⊢
        by_cases hji : j = i
        · subst hji
          constructor
          · rintro (h | h)
            · have := hl1 _ h; omega
            · have := hl2 _ h; omega
          · rintro ⟨_, h⟩
            simp [hsz, hisz] at h
        · rw [getD_set_ne true (Ne.symm hji), ← this]
          simp [hji]
      · refine List.pairwise_append.2 ⟨hsort'.1, (List.pairwise_cons.1 hsort'.2.1).2, fun x hx y hy => hsort'.2.2 x hx y (by simp [hy])⟩
      · by_cases hji : j = i
        · subst hji
          rw [hoi] at hj
          cases hj
          exact getD_set_true (hall e he hb)
        · rw [getD_set_ne false (Ne.symm hji)] at hl
          exact getD_set_true (hcl j o hj hl e he hb)
      · have hjT : j ∈ l1 ++ i :: l2 := by simp only [List.mem_append, List.mem_cons] at hj ⊢; rcases hj with h | h; exact .inl h; exact .inr (.inr h)
        have hjsz := ((hT j).1 hjT).1
        have hji : j ≠ i := fun e => by
          subst e
          rcases List.mem_append.1 hj with h | h
          · have := hl1 _ h; omega
          · have := hl2 _ h; omega
        intro id g hk
        obtain ⟨p1, p2, p3, p4⟩ := hfree j hjT id g hk
        obtain ⟨kj, hkj, rfl, rfl⟩ := kept_mode hk
        refine ⟨?_, ?_, ?_, p4⟩
        · rw [hH']
          exact g3 _ p1 fun g hkg => by
            obtain ⟨ki, hki, he, _⟩ := kept_mode hkg
            exact hdist j i kj hji hjsz hisz hkj (by rw [hki]; congr 1; omega)
        · rw [hg' _ p3 fun id hkg => by
            obtain ⟨ki, hki, _, he⟩ := kept_mode hkg
            exact hdist j i kj hji hjsz hisz hkj (by rw [hki]; congr 1; omega)]
          exact p2
        · rw [hc']; exact Nat.lt_of_lt_of_le p3 g2

theorem WPd_ch (hcomm : commB ops r = true) {n0 k0 : Nat} {K : St → Prop} {KF : F → Prop} (hK : ∀ σ, K σ → KF (toF σ)) : ∀ (l : List Oper) (k : Nat), ops.toList.drop k = l → ∀ σ : St,
    WPd P (gdOf ops) (l.zip ((r.dms.drop k).map (DM.mode n0 k0))) K σ → Ch P ops (fun i => (r.dms.getD i {}).mode n0 k0) KF (List.range' k l.length) (toF σ)
  | [], k, _, σ, h => hK σ h
  | o :: l, k, hk, σ, h => by
    obtain ⟨hlen, hsel, hspec⟩ := commB_spec hcomm
    have hlt : k < ops.toList.length := by
      rcases Nat.lt_or_ge k ops.toList.length with h' | h'
      · exact h'
      · rw [List.drop_eq_nil_of_le h'] at hk; cases hk
    have hi : ops[k]? = some o := by
      rw [← Array.getElem?_toList]
      have : (ops.toList.drop k)[0]? = some o := by rw [hk]; rfl
      rwa [List.getElem?_drop, Nat.add_zero] at this
    have hk' : ops.toList.drop (k + 1) = l := by
      rw [← List.drop_drop (i := 1) (j := k), hk]
      rfl
    have hkd : k < r.dms.length := by rw [hlen]; simpa using hlt
    have hd : (r.dms.drop k) = r.dms[k] :: r.dms.drop (k + 1) := List.drop_eq_getElem_cons hkd
    have hg : r.dms.getD k {} = r.dms[k] := by simp [hkd]
    rw [hd] at h
    simp only [List.map_cons, List.zip_cons_cons, WPd] at h
    obtain ⟨v, H', c', h1, h2⟩ := WPg_outG rfl (fun hn => by
      have := (hspec k o hi).2.1
      rw [hg, hn] at this
      simp only [DM.mode, Option.isSome_map]
      exact this) h
    simp only [List.length_cons, List.range'_succ, Ch]
    refine ⟨_, ⟨o, v, H', c', hi, by show OutG P (gdOf ops) ((r.dms.getD k {}).mode n0 k0) o _ _ _ v H' c'; rw [hg]; exact h1, rfl⟩, ?_⟩
    have := WPd_ch hcomm hK l (k + 1) hk' _ h2
    unfold toF at this
    rw [lk_upd] at this
    exact this
end draw

end Go.AX
