/-
AX, part 16: the calculus is sound: code, functions.
-/
import Derived.Test.YtoplaknmmglagaaDoorAX15
import Derived.Deep.LoopGhost
import Derived.Scope
set_option linter.unusedVariables false
set_option linter.unusedSectionVars false
set_option linter.unusedSimpArgs false
namespace Go.AX
variable {P : Program} [GL P]

def okOps (n : Nat) (ops : Array Oper) : Bool := ops.toList.all fun o => match o.dst with
  | some t => decide (t < n)
  | none => true

/-- What of a function's code the kernel looks at. -/
def okC (n : Nat) (ann : Ann) : Code → Bool
  | .region id ops draw => okOps n ops && (!draw || match ann[id]? with
    | some r => commB ops r
    | none => false)
  | .seq a b => okC n ann a && okC n ann b
  | .cond _ a b => okC n ann a && okC n ann b
  | .block _ b => okC n ann b
  | .scope b => okC n ann b
  | .loop b => okC n ann b
  | _ => true

theorem okOps_spec {n : Nat} {ops : Array Oper} (h : okOps n ops = true) : ∀ (j : Nat) (o : Oper) t, ops[j]? = some o → o.dst = some t → t < n := by
  intro j o t hj ht
  have := List.all_eq_true.1 h o (by
    have := Array.mem_of_getElem? hj
    simpa using this)
  simpa [ht] using this

theorem Rel.keep {n : Nat} {B : Base} {σ : St} {a : Act} {w : World} (h : Rel P n B σ a w) (ann : Ann) (id : Nat) : Rel P n B (keepA ann id σ) a w := by
  unfold keepA
  split
  · exact h.weak (Weak.keep _ _)
  · exact h

theorem getElem?_replicate_none {H : Heap} {k i : Nat} {b : Blk} (h : (H ++ List.replicate k none)[i]? = some (some b)) : H[i]? = some (some b) := by
  rcases Nat.lt_or_ge i H.length with hi | hi
  · rwa [List.getElem?_append_left hi] at h
  · rw [List.getElem?_append_right hi, List.getElem?_replicate] at h
    split at h <;> simp at h

theorem region_draw_sound (hm : P.follows .mixedOrders = true) {n id : Nat} {ops : Array Oper} {r : RA} (hok : okOps n ops = true) (hcomm : commB ops r = true) {B : Base} {Q : Ex → St → Prop} {σ : St} {a : Act} {w : World} (h : Rel P n B σ a w)
    (hw : WPd P (gdOf ops) (ops.toList.zip (r.dms.map (DM.mode σ.H.length σ.c))) (fun τ => Q .normal (τ.keep r.live)) { σ with H := σ.H ++ List.replicate r.news none, c := σ.c + r.news }) :
    (Code.region id ops true).wp P (RQ P n B Q) a w := by
  refine wp_region_any hm ?_
  obtain ⟨G, Im, hs⟩ := h
  have hwk : ∀ (i : Nat) (b : Blk), (σ.H ++ List.replicate r.news none)[i]? = some (some b) → σ.H[i]? = some (some b) := fun i b h => getElem?_replicate_none h
  have hs' : Sim P n B G Im { σ with H := σ.H ++ List.replicate r.news none, c := σ.c + r.news } a { w with drawn := w.drawn + 1 } := by
    refine Sim.heap (w := w) ?_ rfl ⟨rfl, rfl, rfl⟩
    exact ⟨hs.hr.weak hwk (Nat.le_add_right _ _), hs.ext.trans (Ext.weak hwk), hs.sl, hs.size, hs.defers, Nat.le_trans hs.c0 (Nat.le_add_right _ _), hs.glob⟩
  have hch := WPd_ch (P := P) (r := r) hcomm (K := fun τ => Q .normal (τ.keep r.live)) (KF := fun f => Q .normal ⟨r.live.map fun i => (i, f.L i), f.H, f.c⟩) (fun τ h => h) ops.toList 0 rfl _ hw
  refine any_sound hcomm (okOps_spec hok) (KF := fun f => Q .normal ⟨r.live.map fun i => (i, f.L i), f.H, f.c⟩) (n0 := σ.H.length) (k0 := σ.c) (fun τ a w hr hq => ⟨τ.keep r.live, hr.weak (Weak.keep _ _), hq⟩)
    ops.size _ (List.range' 0 ops.size) _ a _ G Im (by simp) (fun i => ?_) List.pairwise_lt_range' (by simp) (fun j o hj hl => ?_) hs' (by simp) (fun i _ => ?_) ?_
  · simp only [List.mem_range'_1, Nat.zero_add, Nat.zero_le, true_and]
    constructor
    · intro h; exact ⟨h, by simp [h]⟩
    · exact fun h => h.1
  · have hj' := (Array.getElem?_eq_some_iff.1 hj).1
    simp [hj'] at hl
  · intro id g hk
    obtain ⟨k, hk', rfl, rfl⟩ := kept_mode hk
    obtain ⟨hlen, _, hspec⟩ := commB_spec hcomm
    have hi : i < ops.size := by
      rcases Nat.lt_or_ge i ops.size with h | h
      · exact h
      · rw [← hlen] at h; simp [h] at hk'
    have hlt := (hspec i _ (Array.getElem?_eq_getElem hi)).2.2.1 k hk'
    refine ⟨?_, ?_, by show σ.c + k < σ.c + r.news; omega, Nat.le_trans hs.c0 (Nat.le_add_right _ _)⟩
    · show (σ.H ++ List.replicate r.news none)[σ.H.length + k]? = some none
      rw [List.getElem?_append_right (by omega), List.getElem?_replicate, if_pos (by omega)]
    · cases hG : G (σ.c + k) with
      | none => rfl
      | some l => have := hs.hr.fresh _ _ hG; omega
  · simpa using hch

theorem WPc_sound (hm : P.follows .mixedOrders = true) {n : Nat} {ann : Ann} : ∀ (c : Code), okC n ann c = true → ∀ {B : Base} {Q : Ex → St → Prop} {σ : St} {a : Act} {w : World}, Rel P n B σ a w → WPc P ann c Q σ → c.wp P (RQ P n B Q) a w := by
  intro c
  induction c with
  | skip => intro _ B Q σ a w hr h; exact wp_skip ⟨σ, hr, h⟩
  | exit id => intro _ B Q σ a w hr h; exact wp_exit ⟨σ, hr, h⟩
  | label l => intro _ B Q σ a w hr h; exact wp_label ⟨σ, hr, h⟩
  | scope body ih =>
    intro hok B Q σ a w hr h
    simp only [okC] at hok
    refine wp_scope_straight (wp_mono (ih hok hr h) fun e a w hq => ?_)
    cases e with
    | goto l => exact hq
    | normal => exact hq
    | exit id => exact hq
    | ret => exact hq
    | panic ch => exact hq
    | outgrown => exact hq
  | ret => intro _ B Q σ a w hr h; exact wp_ret ⟨σ, hr, h⟩
  | region id ops draw =>
    intro hok B Q σ a w hr h
    simp only [okC, Bool.and_eq_true, Bool.or_eq_true, Bool.not_eq_true'] at hok
    cases draw with
    | true =>
      simp only [WPc, if_true] at h
      cases hra : ann[id]? with
      | none => simp [hra] at h
      | some r =>
        simp only [hra] at h hok
        exact region_draw_sound hm hok.1 (by simpa using hok.2) hr h
    | false =>
      simp only [WPc, Bool.false_eq_true, if_false] at h
      refine wp_region ?_
      rw [List.range_eq_range', ← Array.length_toList]
      exact WPf_sound (okOps_spec hok.1) (fun σ a w hr hk => ⟨_, hr.keep ann id, hk⟩) ops.toList 0 rfl σ a w hr h
  | seq x y ihx ihy =>
    intro hok B Q σ a w hr h
    simp only [okC, Bool.and_eq_true] at hok
    refine wp_seq (wp_mono (ihx hok.1 hr h) fun e a w hq => ?_)
    cases e with
    | normal => obtain ⟨τ, r, q⟩ := hq; exact ihy hok.2 r q
    | exit id => exact hq
    | goto l => exact hq
    | ret => exact hq
    | panic ch => exact hq
    | outgrown => exact hq
  | cond c x y ihx ihy =>
    intro hok B Q σ a w hr h
    simp only [okC, Bool.and_eq_true] at hok
    simp only [WPc] at h
    obtain ⟨G, Im, hs⟩ := hr
    have hv := hs.ev c
    cases hc : (σ.ev P) c with
    | bool t =>
      simp only [hc] at h
      rw [hc] at hv
      have he : a.eval c = .bool t := by generalize a.eval c = u at hv; cases hv; rfl
      exact wp_cond_split he (fun ht => ihx hok.1 ⟨G, Im, hs⟩ (h.1 ht)) (fun ht => ihy hok.2 ⟨G, Im, hs⟩ (h.2 ht))
    | _ => simp [hc] at h
  | block id body ih =>
    intro hok B Q σ a w hr h
    simp only [okC] at hok
    refine wp_block (wp_mono (ih hok hr h) fun e a w hq => ?_)
    cases e with
    | normal => exact hq
    | exit i =>
      obtain ⟨τ, r, q⟩ := hq
      simp only [Exit.inBlock]
      by_cases hi : i = id
      · simp only [hi, if_true] at q ⊢; exact ⟨τ, r, q⟩
      · simp only [hi, if_false] at q ⊢; exact ⟨τ, r, q⟩
    | goto l => exact hq
    | ret => exact hq
    | panic ch => exact hq
    | outgrown => exact hq
  | loop body ih =>
    intro hok B Q σ a w hr h
    simp only [okC] at hok
    obtain ⟨I, ⟨n0, τ, hwk, h0⟩, hround⟩ := h
    refine wp_loop_ghost (fun k a w => ∃ τ, Rel P n B τ a w ∧ I k τ) n0 ⟨τ, hr.weak hwk, h0⟩ ?_
    rintro k a w ⟨τ, hr, hI⟩
    refine wp_mono (ih hok hr (hround k τ hI)) fun e a w hq => ?_
    cases e with
    | normal => obtain ⟨υ, r, m, υ', hlt, hw, hI'⟩ := hq; exact ⟨m, hlt, υ', r.weak hw, hI'⟩
    | exit id => exact hq
    | goto l => exact hq
    | ret => exact hq
    | panic ch => exact hq
    | outgrown => exact hq
  | _ => intro _ B Q σ a w hr h; exact h.elim

/-- The slots that a call begins with. -/
def entry : List AV → Nat → Slots
  | [], _ => []
  | x :: xs, k => (k, x) :: entry xs (k + 1)

theorem lk_entry : ∀ (xs : List AV) (k i : Nat), lk (entry xs k) i = if k ≤ i then xs.getD (i - k) .dead else .dead
  | [], k, i => by simp [entry, lk]
  | x :: xs, k, i => by
    simp only [entry, lk]
    by_cases h : k = i
    · subst h; simp
    · rw [if_neg h, lk_entry xs (k + 1) i]
      by_cases h2 : k ≤ i
      · have : i - k = (i - (k + 1)) + 1 := by omega
        rw [if_pos h2, if_pos (by omega), this]
        simp
      · rw [if_neg h2, if_neg (by omega)]

def resV (P : Program) (σ : St) : ResultVar → Option AV
  | .tmp t => some (lk σ.sl t)
  | .cell a t => loadX P σ.H t (lk σ.sl a)

def resVs (P : Program) (σ : St) : List ResultVar → Option (List AV)
  | [] => some []
  | r :: rs => match resV P σ r, resVs P σ rs with
    | some x, some xs => some (x :: xs)
    | _, _ => none

def resX (P : Program) (rs : List ResultVar) (σ : St) : Option AV :=
  match resVs P σ rs with
  | some [x] => some x
  | some xs => some (.tup xs)
  | none => none

def PostX (P : Program) (rs : List ResultVar) (post : AV → Heap → Nat → Prop) : Ex → St → Prop
  | .normal, σ => ∃ r, resX P rs σ = some r ∧ post r σ.H σ.c
  | .ret, σ => ∃ r, resX P rs σ = some r ∧ post r σ.H σ.c
  | _, _ => False

section res
variable {n : Nat} {B : Base} {G : Gens} {Im : Nat → Prop} {σ : St} {a : Act} {w : World}

theorem loadVar_sound {H : Heap} {c : Nat} (hr : HR G Im w H c) {t : TypeId} {x y : AV} {v : Value} (hx : V Im w G x v) (h : loadX P H t x = some y) :
    ∃ u, (asAddr v >>= fun a => loadVar t a).run P w = .ok u w ∧ V Im w G y u := by
  unfold loadX at h
  split at h
  · obtain ⟨ad, rfl, hs, him, hrd⟩ := hx.iptr_rd
    obtain ⟨u, hu, hv⟩ := tk_sound hrd h
    refine ⟨u, ?_, hv⟩
    rw [← Addr.eta_none hs] at hu
    simp [asAddr, hu]
  · rename_i id g i j
    split at h
    · rename_i e he
      obtain ⟨l, hl, hz, hrd⟩ := hr.elem he
      cases hx with
      | ptr _ _ _ _ l' hg =>
        rw [hl] at hg
        cases hg
        obtain ⟨u, hu, hv⟩ := tk_sound (hrd.drop j) h
        exact ⟨u, by simp [asAddr, hu], hv⟩
    · cases h
  · cases h

def resSem (tmps : Array Value) : ResultVar → Sem Value
  | .tmp t => pure (tmps.getD t undef)
  | .cell a t => do loadVar t (← asAddr (tmps.getD a undef))

theorem resVs_sound (hs : Sim P n B G Im σ a w) : ∀ (rs : List ResultVar) (xs : List AV), resVs P σ rs = some xs → ∃ vs, (rs.mapM (resSem a.tmps)).run P w = .ok vs w ∧ Vs Im w G xs vs := by
  intro rs
  induction rs with
  | nil => intro xs h; simp only [resVs, Option.some.injEq] at h; subst h; exact ⟨[], by simp, rfl, fun j c u hj => by simp at hj⟩
  | cons r rs ih =>
    intro xs h
    simp only [resVs] at h
    split at h
    · rename_i x xs' hx hxs
      cases h
      obtain ⟨vs, h1, h2⟩ := ih _ hxs
      have : ∃ v, (resSem a.tmps r).run P w = .ok v w ∧ V Im w G x v := by
        cases r with
        | tmp t => simp only [resV, Option.some.injEq] at hx; subst hx; exact ⟨_, rfl, hs.sl t⟩
        | cell y t => exact loadVar_sound hs.hr (hs.sl y) hx
      obtain ⟨v, h3, h4⟩ := this
      refine ⟨v :: vs, ?_, by simp [h2.1], fun j c u hj hu => ?_⟩
      · rw [List.mapM_cons, Sem.run_bind, h3]
        simp [h1]
      · cases j with
        | zero => simp at hj hu; subst hj; subst hu; exact h4
        | succ j => exact h2.2 j c u (by simpa using hj) (by simpa using hu)
    · cases h

theorem resX_sound {fn : Func} (hs : Sim P n B G Im σ a w) {x : AV} (h : resX P fn.results.toList σ = some x) : ∃ v, (results fn a.tmps).run P w = .ok v w ∧ V Im w G x v := by
  unfold resX at h
  have key : ∀ xs, resVs P σ fn.results.toList = some xs → ∃ vs : List Value, (results fn a.tmps).run P w = .ok (if h : vs.toArray.size = 1 then vs.toArray[0] else .tuple vs.toArray) w ∧ Vs Im w G xs vs := by
    intro xs hxs
    obtain ⟨vs, h1, h2⟩ := resVs_sound hs _ _ hxs
    refine ⟨vs, ?_, h2⟩
    unfold results
    rw [Array.mapM_eq_mapM_toList, Sem.run_bind, Sem.run_map]
    show Result.andThen (Result.andThen (Sem.run P (fn.results.toList.mapM (resSem a.tmps)) w) _) _ = _
    rw [h1]
    simp
  split at h
  · rename_i y hy
    cases h
    obtain ⟨vs, h1, h2⟩ := key _ hy
    have hl := h2.1
    match vs, hl with
    | [v], _ => exact ⟨v, by simpa using h1, h2.2 0 _ _ rfl rfl⟩
  · rename_i ys hne hy
    cases h
    obtain ⟨vs, h1, h2⟩ := key _ hy
    refine ⟨.tuple vs.toArray, ?_, .tup _ _ h2.1 h2.2⟩
    have : ¬ vs.toArray.size = 1 := by
      intro hl
      have : ys.length = 1 := by rw [h2.1]; simpa using hl
      match ys, this with
      | [y], _ => exact hne y rfl
    rw [h1, dif_neg this]
  · cases h
end res

theorem sim_entry {G : Gens} {Im : Nat → Prop} {w : World} {H : Heap} {c n : Nat} {args : List AV} {vs : List Value} (hr : HR G Im w H c) (hgl : Glob P Im w) (hv : Vs Im w G args vs) (hn : args.length ≤ n) :
    Sim P n ⟨c, G, Im, w, H⟩ G Im ⟨entry args 0, H, c⟩ { tmps := vs.toArray ++ Array.replicate (n - vs.toArray.size) undef, defers := [] } w := by
  refine ⟨hr, Ext.refl _ _ _ _ _, fun i => ?_, ?_, rfl, Nat.le_refl _, hgl⟩
  · rw [lk_entry, if_pos (Nat.zero_le _), Nat.sub_zero]
    rcases Nat.lt_or_ge i args.length with h | h
    · have h' : i < vs.length := by rw [← hv.1]; exact h
      have h1 : args.getD i .dead = args[i] := by simp [h]
      have h2 : (vs.toArray ++ Array.replicate (n - vs.toArray.size) undef).getD i undef = vs[i] := by
        simp [Array.getD, Array.getElem_append, h']
        intro hh; omega
      rw [h1, h2]
      exact hv.2 i _ _ (List.getElem?_eq_getElem h) (List.getElem?_eq_getElem h')
    · rw [show args.getD i .dead = .dead by simp [h]]
      exact .dead _
  · have := hv.1
    simp
    omega

/-- What a function's text is asked for. -/
structure FnOK (P : Program) (f : FuncId) (fn : Func) (c : Code) (ann : Ann) : Prop where
  hf : P.funcs[f]? = some fn
  hb : fn.body = some c
  hn : (fn.name == "runtime.NumGoroutine") = false
  ok : okC fn.ntmps ann c = true
  ord : P.follows .mixedOrders = true

theorem FnOK.enters {f : FuncId} {fn : Func} {c : Code} {ann : Ann} (h : FnOK P f fn c ann) : Enters P f := ⟨fn, h.hf, by rw [h.hb]; rfl, h.hn⟩

theorem ProcC.intro {f : FuncId} {fn : Func} {c : Code} {ann : Ann} (hF : FnOK P f fn c ann) {args : List AV} {H : Heap} {k : Nat} {post : AV → Heap → Nat → Prop} (hl : args.length ≤ fn.ntmps)
    (h : WPc P ann c (PostX P fn.results.toList post) ⟨entry args 0, H, k⟩) : ProcC P f args H k post := by
  refine ⟨hF.enters, fun G Im w vs hr hgl hv => calls_of_wp hF.hf hF.hb ?_⟩
  refine wp_mono (WPc_sound hF.ord c hF.ok ⟨G, Im, sim_entry hr hgl hv hl⟩ h) fun e a w' hq => ?_
  have key : ∀ σ, Rel P fn.ntmps ⟨k, G, Im, w, H⟩ σ a w' → (∃ r, resX P fn.results.toList σ = some r ∧ post r σ.H σ.c) → a.defers = [] ∧ ∃ v, (results fn a.tmps).run P w' = .ok v w' ∧
      ∃ v' r H' c' G' Im', Ending.returned v = .returned v' ∧ post r H' c' ∧ HR G' Im' w' H' c' ∧ Ext k G Im w H G' Im' w' H' ∧ V Im' w' G' r v' ∧ k ≤ c' := by
    rintro σ ⟨G', Im', hs⟩ ⟨r, hr, hp⟩
    obtain ⟨v, h1, h2⟩ := resX_sound hs hr
    exact ⟨hs.defers, v, h1, v, r, σ.H, σ.c, G', Im', rfl, hp, hs.hr, hs.ext, h2, hs.c0⟩
  cases e with
  | normal => obtain ⟨σ, hr, q⟩ := hq; exact key σ hr q
  | ret => obtain ⟨σ, hr, q⟩ := hq; exact key σ hr q
  | exit id => obtain ⟨σ, hr, q⟩ := hq; exact q.elim
  | panic ch => obtain ⟨σ, G, Im, v, u, r, q, _⟩ := hq; exact q.elim
  | goto l => exact hq
  | outgrown => exact hq.elim

theorem HR.nil {Im : Nat → Prop} {w : World} (h : ∀ r, Im r → r < w.heap.size) : HR Gens.none Im w [] 0 where
  blk := fun i b h => by simp at h
  inj := fun i j b b' l l' h => by simp at h
  notIm := fun r ⟨i, b, l, hi, _⟩ => by simp at hi
  fresh := fun g l h => by cases h
  lt := fun g l h => by cases h
  imLt := h

theorem PureC.intro {f : FuncId} {fn : Func} {c : Code} {ann : Ann} (hF : FnOK P f fn c ann) {al : Bool} {args : List AV} {res : AV} (hl : args.length ≤ fn.ntmps)
    (h : WPc P ann c (PostX P fn.results.toList (fun r H _ => Frz al H r res)) ⟨entry args 0, [], 0⟩) : PureC P al f args res := by
  refine ⟨hF.enters, fun Im w vs him hgl hv => ?_⟩
  refine ((ProcC.intro hF hl h).2 Gens.none Im w vs (HR.nil him) hgl hv).mono fun e w' => ?_
  rintro ⟨v, r, H', c', G', Im', rfl, hp, hr, hx, hv, _⟩
  have hown : ∀ q, Owned G' H' q → w.heap.size ≤ q := fun q hq => by
    rcases hx.own q hq with ⟨i, b, l, hi, _⟩ | h
    · simp at hi
    · exact h
  have hno : ∀ q, ¬ Owned Gens.none ([] : Heap) q := fun q ⟨i, b, l, hi, _⟩ => by simp at hi
  refine ⟨v, _, rfl, hp.sound hr hv, fun q hq => ?_, fun q hq => ?_, fun q hq => hx.keep q hq (hno q), hx.size, hx.out⟩
  · rcases hq with ⟨ha, hq⟩ | hq
    · rcases hx.imNew q hq with h | h | h
      · exact .inl ⟨ha, h⟩
      · exact absurd h (hno q)
      · exact .inr h
    · exact .inr (hown q hq)
  · rcases hq with ⟨ha, hq⟩ | ⟨i, b, l, hi, hl, rfl⟩
    · exact hr.imLt q hq
    · exact hr.lt _ _ hl

end Go.AX
