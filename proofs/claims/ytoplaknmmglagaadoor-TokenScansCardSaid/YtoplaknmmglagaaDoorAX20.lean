/-
AX, part 18: a function's code in a smaller form, for the walk.
-/
import Derived.Test.YtoplaknmmglagaaDoorAX19
set_option linter.unusedVariables false
set_option linter.unusedSectionVars false
set_option linter.unusedSimpArgs false
namespace Go.AX
variable {P : Program} [GL P]

/-- An operation: its guard as the slot that is looked at. -/
structure Op1 where
  dst : Option Tmp
  op : Op
  gd : Option (Tmp × Bool)

inductive Cd where
  | skip
  | ret
  | exit (id : Nat)
  | reg (live : Option (List Nat)) (ops : List Op1)
  | draw (r : RA) (ops : List Op1)
  | seq (a b : Cd)
  | cond (x : Operand) (a b : Cd)
  | block (id : Nat) (b : Cd)
  | loop (b : Cd)

def WP1 (P : Program) [GL P] (m : Mode) (dst : Option Tmp) (op : Op) (K : St → Prop) (Q : Ex → St → Prop) (σ : St) : Prop :=
  match op with
  | .call { callee := .value f, args, .. } => callK P m (args.toList.map (σ.ev P)) dst σ K (σ.ev P f)
  | .panic x => panK σ Q (σ.ev P x)
  | op => effK P m op dst (σ.ev P) σ K (opX P op (σ.ev P) σ.H)

def WPl (P : Program) [GL P] (Q : Ex → St → Prop) : List Op1 → (St → Prop) → St → Prop
  | [], K, σ => K σ
  | o :: l, K, σ => match o.gd with
    | none => WP1 P {} o.dst o.op (WPl P Q l K) Q σ
    | some (t, want) => WPgK want (WP1 P {} o.dst o.op (WPl P Q l K) Q σ) (WPl P Q l K { σ with sl := putO σ.sl o.dst (.tup []) }) (some (lk σ.sl t))

def WPm (P : Program) [GL P] : List (Op1 × Mode) → (St → Prop) → St → Prop
  | [], K, σ => K σ
  | (o, m) :: l, K, σ => match o.gd with
    | none => okD P m o.op (σ.ev P) σ.H = true ∧ WP1 P m o.dst o.op (WPm P l K) (fun _ _ => False) σ
    | some (t, want) => WPgK want (okD P m o.op (σ.ev P) σ.H = true ∧ WP1 P m o.dst o.op (WPm P l K) (fun _ _ => False) σ) (WPm P l K { σ with sl := putO σ.sl o.dst (.tup []) }) (some (lk σ.sl t))

def keepL (live : Option (List Nat)) (σ : St) : St :=
  match live with
  | some l => σ.keep l
  | none => σ

def seqK (W : (Ex → St → Prop) → St → Prop) (Q : Ex → St → Prop) : Ex → St → Prop
  | .normal, τ => W Q τ
  | ex, τ => Q ex τ

def WPk (P : Program) [GL P] : Cd → (Ex → St → Prop) → St → Prop
  | .skip, Q, σ => Q .normal σ
  | .ret, Q, σ => Q .ret σ
  | .exit id, Q, σ => Q (.exit id) σ
  | .reg live ops, Q, σ => WPl P Q ops (fun τ => Q .normal (keepL live τ)) σ
  | .draw r ops, Q, σ => WPm P (ops.zip (r.dms.map (DM.mode σ.H.length σ.c))) (fun τ => Q .normal (τ.keep r.live)) { σ with H := σ.H ++ List.replicate r.news none, c := σ.c + r.news }
  | .seq a b, Q, σ => WPk P a (fun ex τ => match ex with
      | .normal => WPk P b Q τ
      | ex => Q ex τ) σ
  | .cond x a b, Q, σ => condK (WPk P a Q σ) (WPk P b Q σ) (σ.ev P x)
  | .block id b, Q, σ => WPk P b (blkQ id Q) σ
  | .loop b, Q, σ => ∃ I : Nat → St → Prop, (∃ n τ, Weak σ τ ∧ I n τ) ∧ ∀ n τ, I n τ → WPk P b (fun ex υ => match ex with
      | .normal => ∃ m υ', m < n ∧ Weak υ υ' ∧ I m υ'
      | ex => Q ex υ) τ

/-- The smaller form. -/
def cmpO (gd : Nat → Option Tmp) (o : Oper) : Option Op1 :=
  match o.guard with
  | none => some ⟨o.dst, o.op, none⟩
  | some (j, want) => (gd j).map fun t => ⟨o.dst, o.op, some (t, want)⟩
def cmpOs (gd : Nat → Option Tmp) : List Oper → Option (List Op1)
  | [] => some []
  | o :: l => match cmpO gd o, cmpOs gd l with
    | some x, some y => some (x :: y)
    | _, _ => none
def cmpC (ann : Ann) : Code → Option Cd
  | .skip => some .skip
  | .ret => some .ret
  | .exit id => some (.exit id)
  | .region id ops draw => match cmpOs (gdOf ops) ops.toList with
    | some l => if draw then (ann[id]?).map fun r => .draw r l else some (.reg ((ann[id]?).map (·.live)) l)
    | none => none
  | .seq a b => match cmpC ann a, cmpC ann b with
    | some x, some y => some (.seq x y)
    | _, _ => none
  | .cond x a b => match cmpC ann a, cmpC ann b with
    | some c, some d => some (.cond x c d)
    | _, _ => none
  | .block id b => (cmpC ann b).map (.block id)
  | .loop b => (cmpC ann b).map .loop
  | .label _ => some .skip
  | .scope b => cmpC ann b
  | _ => none

theorem WP1_eq {m : Mode} {o : Oper} {K : St → Prop} {Q : Ex → St → Prop} {σ : St} : WPop P m o K Q σ = WP1 P m o.dst o.op K Q σ := by
  obtain ⟨dst, op, ty, pos, after, g⟩ := o
  exact WPop_eq

theorem WP1_mono {m : Mode} {dst : Option Tmp} {op : Op} {K K' : St → Prop} {Q Q' : Ex → St → Prop} {σ : St} (hK : ∀ σ, K σ → K' σ) (hQ : ∀ ex σ, Q ex σ → Q' ex σ) (h : WP1 P m dst op K Q σ) : WP1 P m dst op K' Q' σ := by
  unfold WP1 at h ⊢
  split at h
  · unfold callK at h ⊢
    split at h
    · rcases h with ⟨al, res, h1, h2, h3⟩ | ⟨h0, args', res, h1, h2, h3⟩ | ⟨h0, post, h1, h2⟩
      · exact .inl ⟨al, res, h1, h2, hK _ h3⟩
      · exact .inr (.inl ⟨h0, args', res, h1, h2, hK _ h3⟩)
      · exact .inr (.inr ⟨h0, post, h1, fun r H' c' hp => hK _ (h2 r H' c' hp)⟩)
    · exact h
  · unfold panK at h ⊢
    split at h
    · exact hQ _ _ h
    · exact h
  · unfold effK at h ⊢
    split at h
    · exact hK _ h
    · refine ⟨h.1, ?_⟩
      have h2 := h.2
      split at h2
      · exact hK _ h2
      · split at h2
        · exact fun n hn => hK _ (h2 n hn)
        · exact h2

theorem WPl_sound {gd : Nat → Option Tmp} {Q : Ex → St → Prop} : ∀ (l : List Oper) (l' : List Op1), cmpOs gd l = some l' → ∀ (K K' : St → Prop) (σ : St), (∀ σ, K σ → K' σ) → WPl P Q l' K σ → WPf P gd Q l K' σ
  | [], l', hc, K, K', σ, hK, h => by simp only [cmpOs, Option.some.injEq] at hc; subst hc; exact hK _ h
  | o :: l, l', hc, K, K', σ, hK, h => by
    simp only [cmpOs] at hc
    split at hc
    case h_2 => cases hc
    rename_i x y hx hy
    cases hc
    unfold cmpO at hx
    show WPg gd o (fun K τ => WPop P {} o K Q τ) (WPf P gd Q l K') σ
    unfold WPg
    cases hg : o.guard with
    | none =>
      simp only [hg, Option.some.injEq] at hx
      subst hx
      simp only [WPl] at h
      simp only [WP1_eq]
      exact WP1_mono (fun σ h => WPl_sound l y hy K K' σ hK h) (fun _ _ h => h) h
    | some p =>
      obtain ⟨j, want⟩ := p
      simp only [hg, Option.map_eq_some_iff] at hx
      obtain ⟨t, ht, rfl⟩ := hx
      simp only [WPl] at h
      simp only [ht]
      cases hb : lk σ.sl t with
      | bool b =>
        rw [hb] at h
        exact ⟨fun e => by simp only [WP1_eq]; exact WP1_mono (fun σ h => WPl_sound l y hy K K' σ hK h) (fun _ _ h => h) (h.1 e), fun e => WPl_sound l y hy K K' _ hK (h.2 e)⟩
      | tup cs => rw [hb] at h; exact WPl_sound l y hy K K' _ hK h
      | _ => rw [hb] at h; exact h.elim

theorem WPm_sound {gd : Nat → Option Tmp} : ∀ (l : List Oper) (l' : List Op1), cmpOs gd l = some l' → ∀ (ms : List Mode) (K K' : St → Prop) (σ : St), (∀ σ, K σ → K' σ) → WPm P (l'.zip ms) K σ → WPd P gd (l.zip ms) K' σ
  | [], l', hc, ms, K, K', σ, hK, h => by simp only [cmpOs, Option.some.injEq] at hc; subst hc; exact hK _ h
  | o :: l, l', hc, [], K, K', σ, hK, h => by
    simp only [cmpOs] at hc
    split at hc
    case h_2 => cases hc
    cases hc
    exact hK _ h
  | o :: l, l', hc, m :: ms, K, K', σ, hK, h => by
    simp only [cmpOs] at hc
    split at hc
    case h_2 => cases hc
    rename_i x y hx hy
    cases hc
    unfold cmpO at hx
    show WPg gd o (fun K τ => okD P m o.op (τ.ev P) τ.H = true ∧ WPop P m o K (fun _ _ => False) τ) (WPd P gd (l.zip ms) K') σ
    simp only [List.zip_cons_cons] at h
    unfold WPg
    cases hg : o.guard with
    | none =>
      simp only [hg, Option.some.injEq] at hx
      subst hx
      simp only [WPm] at h
      simp only [WP1_eq]
      exact ⟨h.1, WP1_mono (fun σ h => WPm_sound l y hy ms K K' σ hK h) (fun _ _ h => h) h.2⟩
    | some p =>
      obtain ⟨j, want⟩ := p
      simp only [hg, Option.map_eq_some_iff] at hx
      obtain ⟨t, ht, rfl⟩ := hx
      simp only [WPm] at h
      simp only [ht]
      cases hb : lk σ.sl t with
      | bool b =>
        rw [hb] at h
        exact ⟨fun e => by simp only [WP1_eq]; exact ⟨(h.1 e).1, WP1_mono (fun σ h => WPm_sound l y hy ms K K' σ hK h) (fun _ _ h => h) (h.1 e).2⟩, fun e => WPm_sound l y hy ms K K' _ hK (h.2 e)⟩
      | tup cs => rw [hb] at h; exact WPm_sound l y hy ms K K' _ hK h
      | _ => rw [hb] at h; exact h.elim

theorem WPl_mono {Q Q' : Ex → St → Prop} (hQ : ∀ ex σ, Q ex σ → Q' ex σ) : ∀ (l : List Op1) (K K' : St → Prop) (σ : St), (∀ σ, K σ → K' σ) → WPl P Q l K σ → WPl P Q' l K' σ
  | [], K, K', σ, hK, h => hK _ h
  | ⟨d, op, none⟩ :: l, K, K', σ, hK, h => by
    simp only [WPl] at h ⊢
    exact WP1_mono (fun σ h => WPl_mono hQ l K K' σ hK h) hQ h
  | ⟨d, op, some (t, want)⟩ :: l, K, K', σ, hK, h => by
    simp only [WPl] at h ⊢
    cases hb : lk σ.sl t with
    | bool b =>
      rw [hb] at h
      exact ⟨fun e => WP1_mono (fun σ h => WPl_mono hQ l K K' σ hK h) hQ (h.1 e), fun e => WPl_mono hQ l K K' _ hK (h.2 e)⟩
    | tup cs => rw [hb] at h; exact WPl_mono hQ l K K' _ hK h
    | _ => rw [hb] at h; exact h.elim

theorem WPm_mono : ∀ (l : List (Op1 × Mode)) (K K' : St → Prop) (σ : St), (∀ σ, K σ → K' σ) → WPm P l K σ → WPm P l K' σ
  | [], K, K', σ, hK, h => hK _ h
  | (⟨d, op, none⟩, m) :: l, K, K', σ, hK, h => by
    simp only [WPm] at h ⊢
    exact ⟨h.1, WP1_mono (fun σ h => WPm_mono l K K' σ hK h) (fun _ _ h => h) h.2⟩
  | (⟨d, op, some (t, want)⟩, m) :: l, K, K', σ, hK, h => by
    simp only [WPm] at h ⊢
    cases hb : lk σ.sl t with
    | bool b =>
      rw [hb] at h
      exact ⟨fun e => ⟨(h.1 e).1, WP1_mono (fun σ h => WPm_mono l K K' σ hK h) (fun _ _ h => h) (h.1 e).2⟩, fun e => WPm_mono l K K' _ hK (h.2 e)⟩
    | tup cs => rw [hb] at h; exact WPm_mono l K K' _ hK h
    | _ => rw [hb] at h; exact h.elim

theorem WPk_mono : ∀ (c : Cd) (Q Q' : Ex → St → Prop) (σ : St), (∀ ex σ, Q ex σ → Q' ex σ) → WPk P c Q σ → WPk P c Q' σ := by
  intro c
  induction c with
  | skip => intro Q Q' σ hQ h; exact hQ _ _ h
  | ret => intro Q Q' σ hQ h; exact hQ _ _ h
  | exit id => intro Q Q' σ hQ h; exact hQ _ _ h
  | reg live ops => intro Q Q' σ hQ h; exact WPl_mono hQ ops _ _ σ (fun σ h => hQ _ _ h) h
  | draw r ops => intro Q Q' σ hQ h; exact WPm_mono _ _ _ _ (fun σ h => hQ _ _ h) h
  | seq a b iha ihb =>
    intro Q Q' σ hQ h
    exact iha _ _ σ (fun ex υ h => by
      cases ex with
      | normal => exact ihb _ _ υ hQ h
      | _ => exact hQ _ _ h) h
  | cond x a b iha ihb =>
    intro Q Q' σ hQ h
    simp only [WPk] at h ⊢
    unfold condK at h ⊢
    split at h
    · exact ⟨fun e => iha _ _ σ hQ (h.1 e), fun e => ihb _ _ σ hQ (h.2 e)⟩
    · exact h
  | block id b ih =>
    intro Q Q' σ hQ h
    exact ih _ _ σ (fun ex υ h => by
      cases ex with
      | exit i => simp only [blkQ] at h ⊢; split at h <;> rename_i hi <;> simp only [hi, if_true, if_false] <;> exact hQ _ _ h
      | _ => exact hQ _ _ h) h
  | loop b ih =>
    intro Q Q' σ hQ h
    obtain ⟨I, h0, h1⟩ := h
    exact ⟨I, h0, fun n τ hI => ih _ _ τ (fun ex υ h => by
      cases ex with
      | normal => exact h
      | _ => exact hQ _ _ h) (h1 n τ hI)⟩

theorem WPk_sound {ann : Ann} : ∀ (c : Code) (d : Cd), cmpC ann c = some d → ∀ (Q : Ex → St → Prop) (σ : St), WPk P d Q σ → WPc P ann c Q σ := by
  intro c
  induction c with
  | skip => intro d hd Q σ h; cases hd; exact h
  | ret => intro d hd Q σ h; cases hd; exact h
  | exit id => intro d hd Q σ h; cases hd; exact h
  | label l => intro d hd Q σ h; cases hd; exact h
  | scope b ih => intro d hd Q σ h; exact ih _ hd _ _ h
  | region id ops draw =>
    intro d hd Q σ h
    simp only [cmpC] at hd
    split at hd
    case h_2 => cases hd
    rename_i l hl
    cases draw with
    | true =>
      simp only [if_true, Option.map_eq_some_iff] at hd
      obtain ⟨r, hr, rfl⟩ := hd
      simp only [WPc, if_true, hr]
      exact WPm_sound _ _ hl _ _ _ _ (fun _ h => h) h
    | false =>
      simp only [Bool.false_eq_true, if_false, Option.some.injEq] at hd
      subst hd
      simp only [WPc, Bool.false_eq_true, if_false]
      refine WPl_sound _ _ hl _ _ _ (fun τ h => ?_) h
      unfold keepA
      cases ha : ann[id]? with
      | none => simp only [ha] at h; exact h
      | some r => simp only [ha] at h; exact h
  | seq a b iha ihb =>
    intro d hd Q σ h
    simp only [cmpC] at hd
    split at hd
    case h_2 => cases hd
    rename_i x y hx hy
    cases hd
    simp only [WPc]
    refine iha _ hx _ _ (WPk_mono x _ _ σ (fun ex τ h => ?_) h)
    cases ex with
    | normal => exact ihb _ hy _ _ h
    | _ => exact h
  | cond x a b iha ihb =>
    intro d hd Q σ h
    simp only [cmpC] at hd
    split at hd
    case h_2 => cases hd
    rename_i c1 c2 hx hy
    cases hd
    simp only [WPk] at h
    rw [WPc_cond]
    unfold condK at h ⊢
    split at h
    · exact ⟨fun e => iha _ hx _ _ (h.1 e), fun e => ihb _ hy _ _ (h.2 e)⟩
    · exact h
  | block id b ih =>
    intro d hd Q σ h
    simp only [cmpC, Option.map_eq_some_iff] at hd
    obtain ⟨x, hx, rfl⟩ := hd
    rw [WPc_block]
    exact ih _ hx _ _ h
  | loop b ih =>
    intro d hd Q σ h
    simp only [cmpC, Option.map_eq_some_iff] at hd
    obtain ⟨x, hx, rfl⟩ := hd
    obtain ⟨I, h0, h1⟩ := h
    exact ⟨I, h0, fun n τ hI => ih _ hx _ _ (h1 n τ hI)⟩
  | _ => intro d hd; simp [cmpC] at hd

/-! ### Steps -/

theorem WPk_seq {a b : Cd} {Q : Ex → St → Prop} {σ : St} : WPk P (.seq a b) Q σ = WPk P a (seqK (WPk P b) Q) σ := by
  show WPk P a _ σ = _
  congr 1
  funext ex τ
  cases ex <;> rfl
theorem seqK_normal {W : (Ex → St → Prop) → St → Prop} {Q : Ex → St → Prop} {τ : St} : seqK W Q .normal τ = W Q τ := rfl
theorem seqK_exit {W : (Ex → St → Prop) → St → Prop} {Q : Ex → St → Prop} {τ : St} {i : Nat} : seqK W Q (.exit i) τ = Q (.exit i) τ := rfl
theorem seqK_ret {W : (Ex → St → Prop) → St → Prop} {Q : Ex → St → Prop} {τ : St} : seqK W Q .ret τ = Q .ret τ := rfl
theorem seqK_panic {W : (Ex → St → Prop) → St → Prop} {Q : Ex → St → Prop} {τ : St} {v : AV} : seqK W Q (.panic v) τ = Q (.panic v) τ := rfl
def keepQ (live : Option (List Nat)) (Q : Ex → St → Prop) : St → Prop := fun τ => Q .normal (keepL live τ)
theorem keepQ_eq {live : Option (List Nat)} {Q : Ex → St → Prop} {τ : St} : keepQ live Q τ = Q .normal (keepL live τ) := rfl
theorem WPk_reg {live : Option (List Nat)} {ops : List Op1} {Q : Ex → St → Prop} {σ : St} : WPk P (.reg live ops) Q σ = WPl P Q ops (keepQ live Q) σ := rfl
theorem WPk_draw {r : RA} {ops : List Op1} {Q : Ex → St → Prop} {σ : St} : WPk P (.draw r ops) Q σ = WPm P (ops.zip (r.dms.map (DM.mode σ.H.length σ.c))) (keepQ (some r.live) Q) { σ with H := σ.H ++ List.replicate r.news none, c := σ.c + r.news } := rfl
theorem WPk_block {id : Nat} {b : Cd} {Q : Ex → St → Prop} {σ : St} : WPk P (.block id b) Q σ = WPk P b (blkQ id Q) σ := rfl
theorem WPk_skip {Q : Ex → St → Prop} {σ : St} : WPk P .skip Q σ = Q .normal σ := rfl
theorem WPk_ret {Q : Ex → St → Prop} {σ : St} : WPk P .ret Q σ = Q .ret σ := rfl
theorem WPk_exit {id : Nat} {Q : Ex → St → Prop} {σ : St} : WPk P (.exit id) Q σ = Q (.exit id) σ := rfl
theorem WPk_true {x : Operand} {a b : Cd} {Q : Ex → St → Prop} {σ : St} (h : σ.ev P x = .bool true) : WPk P (.cond x a b) Q σ = WPk P a Q σ := by simp only [WPk, h]; simp [condK]
theorem WPk_false {x : Operand} {a b : Cd} {Q : Ex → St → Prop} {σ : St} (h : σ.ev P x = .bool false) : WPk P (.cond x a b) Q σ = WPk P b Q σ := by simp only [WPk, h]; simp [condK]
theorem WPk_split {x : Operand} {a b : Cd} {Q : Ex → St → Prop} {σ : St} {t : Bool} (hb : σ.ev P x = .bool t) (h1 : t = true → WPk P a Q σ) (h2 : t = false → WPk P b Q σ) : WPk P (.cond x a b) Q σ := by
  simp only [WPk, hb]; exact Grd.intro h1 h2

theorem WPl_nil {Q : Ex → St → Prop} {K : St → Prop} {σ : St} : WPl P Q [] K σ = K σ := rfl
theorem WPl_do {Q : Ex → St → Prop} {d : Option Tmp} {op : Op} {l : List Op1} {K : St → Prop} {σ : St} : WPl P Q (⟨d, op, none⟩ :: l) K σ = WP1 P {} d op (WPl P Q l K) Q σ := rfl
theorem WPl_yes {Q : Ex → St → Prop} {d : Option Tmp} {op : Op} {t : Tmp} {want : Bool} {l : List Op1} {K : St → Prop} {σ : St} (h : guardB want (some (lk σ.sl t)) = some true) : WPl P Q (⟨d, op, some (t, want)⟩ :: l) K σ = WP1 P {} d op (WPl P Q l K) Q σ := by
  simp only [WPl]
  cases hb : lk σ.sl t <;> simp [hb, guardB] at h
  subst h
  rename_i b
  cases b <;> simp [WPgK]
theorem WPl_no {Q : Ex → St → Prop} {d : Option Tmp} {op : Op} {t : Tmp} {want : Bool} {l : List Op1} {K : St → Prop} {σ : St} (h : guardB want (some (lk σ.sl t)) = some false) : WPl P Q (⟨d, op, some (t, want)⟩ :: l) K σ = WPl P Q l K { σ with sl := putO σ.sl d (.tup []) } := by
  simp only [WPl]
  cases hb : lk σ.sl t <;> simp [hb, guardB] at h
  · rename_i b; cases b <;> cases want <;> simp_all [WPgK]
  · rfl
theorem WPl_split {Q : Ex → St → Prop} {d : Option Tmp} {op : Op} {t : Tmp} {want b : Bool} {l : List Op1} {K : St → Prop} {σ : St} (hb : lk σ.sl t = .bool b) (h1 : b = want → WP1 P {} d op (WPl P Q l K) Q σ) (h2 : b = (!want) → WPl P Q l K { σ with sl := putO σ.sl d (.tup []) }) :
    WPl P Q (⟨d, op, some (t, want)⟩ :: l) K σ := by
  simp only [WPl, hb]; exact Grd.intro h1 h2
theorem WPm_nil {K : St → Prop} {σ : St} : WPm P [] K σ = K σ := rfl
theorem WPm_do {d : Option Tmp} {op : Op} {m : Mode} {l : List (Op1 × Mode)} {K : St → Prop} {σ : St} : WPm P ((⟨d, op, none⟩, m) :: l) K σ = (okD P m op (σ.ev P) σ.H = true ∧ WP1 P m d op (WPm P l K) (fun _ _ => False) σ) := rfl
theorem WPm_yes {d : Option Tmp} {op : Op} {t : Tmp} {want : Bool} {m : Mode} {l : List (Op1 × Mode)} {K : St → Prop} {σ : St} (h : guardB want (some (lk σ.sl t)) = some true) :
    WPm P ((⟨d, op, some (t, want)⟩, m) :: l) K σ = (okD P m op (σ.ev P) σ.H = true ∧ WP1 P m d op (WPm P l K) (fun _ _ => False) σ) := by
  simp only [WPm]
  cases hb : lk σ.sl t <;> simp [hb, guardB] at h
  subst h
  rename_i b
  cases b <;> simp [WPgK]
theorem WPm_no {d : Option Tmp} {op : Op} {t : Tmp} {want : Bool} {m : Mode} {l : List (Op1 × Mode)} {K : St → Prop} {σ : St} (h : guardB want (some (lk σ.sl t)) = some false) :
    WPm P ((⟨d, op, some (t, want)⟩, m) :: l) K σ = WPm P l K { σ with sl := putO σ.sl d (.tup []) } := by
  simp only [WPm]
  cases hb : lk σ.sl t <;> simp [hb, guardB] at h
  · rename_i b; cases b <;> cases want <;> simp_all [WPgK]
  · rfl
theorem WPm_split {d : Option Tmp} {op : Op} {t : Tmp} {want b : Bool} {m : Mode} {l : List (Op1 × Mode)} {K : St → Prop} {σ : St} (hb : lk σ.sl t = .bool b)
    (h1 : b = want → okD P m op (σ.ev P) σ.H = true ∧ WP1 P m d op (WPm P l K) (fun _ _ => False) σ) (h2 : b = (!want) → WPm P l K { σ with sl := putO σ.sl d (.tup []) }) : WPm P ((⟨d, op, some (t, want)⟩, m) :: l) K σ := by
  simp only [WPm, hb]; exact Grd.intro h1 h2

/-- A loop: states that a family describes, with a measure. -/
theorem WPk_loop {body : Cd} {Q : Ex → St → Prop} {σ : St} {α : Type} (st : α → St) (I : α → Prop) (μ : α → Nat) (a : α) (h0 : Weak σ (st a)) (hI : I a)
    (hr : ∀ a, I a → WPk P body (seqK (fun _ υ => ∃ b, I b ∧ μ b < μ a ∧ Weak υ (st b)) Q) (st a)) : WPk P (.loop body) Q σ := by
  refine ⟨fun n τ => ∃ a, I a ∧ μ a = n ∧ τ = st a, ⟨μ a, st a, h0, a, hI, rfl, rfl⟩, ?_⟩
  rintro n τ ⟨a, hI, rfl, rfl⟩
  refine WPk_mono _ _ _ _ (fun ex υ h => ?_) (hr a hI)
  cases ex with
  | normal => obtain ⟨b, hb, hlt, hw⟩ := h; exact ⟨μ b, st b, hlt, hw, b, hb, rfl, rfl⟩
  | _ => exact h

/-- A region whose ways all come to one state. -/
theorem WPl_cut {live : List Nat} {ops : List Op1} {Q : Ex → St → Prop} {σ : St} (τ : St) (hk : Q .normal τ) (h : ∀ Q' : Ex → St → Prop, Q' .normal τ → WPl P Q' ops (keepQ (some live) Q') σ) : WPl P Q ops (keepQ (some live) Q) σ := h Q hk
theorem WPm_cut {live : List Nat} {ops : List (Op1 × Mode)} {Q : Ex → St → Prop} {σ : St} (τ : St) (hk : Q .normal τ) (h : ∀ Q' : Ex → St → Prop, Q' .normal τ → WPm P ops (keepQ (some live) Q') σ) : WPm P ops (keepQ (some live) Q) σ := h Q hk

theorem WPk_cut {c : Cd} {Q : Ex → St → Prop} {σ : St} (τ : St) (hk : Q .normal τ) (h : ∀ Q' : Ex → St → Prop, Q' .normal τ → WPk P c Q' σ) : WPk P c Q σ := h Q hk

/-- What a function's text is asked for, in the smaller form. -/
structure FnK (P : Program) (f : FuncId) (n : Nat) (rs : List ResultVar) (d : Cd) : Prop where
  ok : ∃ fn c ann, FnOK P f fn c ann ∧ cmpC ann c = some d ∧ fn.ntmps = n ∧ fn.results.toList = rs

theorem ProcC.introK {f : FuncId} {n : Nat} {rs : List ResultVar} {d : Cd} (hF : FnK P f n rs d) {args : List AV} {H : Heap} {k : Nat} {post : AV → Heap → Nat → Prop} (hl : args.length ≤ n)
    (h : WPk P d (PostX P rs post) ⟨entry args 0, H, k⟩) : ProcC P f args H k post := by
  obtain ⟨fn, c, ann, hG, hc, rfl, rfl⟩ := hF.ok
  exact ProcC.intro hG hl (WPk_sound _ _ hc _ _ h)
theorem PureC.introK {f : FuncId} {n : Nat} {rs : List ResultVar} {d : Cd} (hF : FnK P f n rs d) {al : Bool} {args : List AV} {res : AV} (hl : args.length ≤ n)
    (h : WPk P d (PostX P rs (fun r H _ => Frz al H r res)) ⟨entry args 0, [], 0⟩) : PureC P al f args res := by
  obtain ⟨fn, c, ann, hG, hc, rfl, rfl⟩ := hF.ok
  exact PureC.intro hG hl (WPk_sound _ _ hc _ _ h)

theorem PostX_ret {rs : List ResultVar} {post : AV → Heap → Nat → Prop} {σ : St} : PostX P rs post .ret σ = ∃ r, resX P rs σ = some r ∧ post r σ.H σ.c := rfl
theorem PostX_normal {rs : List ResultVar} {post : AV → Heap → Nat → Prop} {σ : St} : PostX P rs post .normal σ = ∃ r, resX P rs σ = some r ∧ post r σ.H σ.c := rfl

theorem CallWP.pure {m : Mode} {f : FuncId} {args : List AV} {K : AV → Heap → Nat → Prop} {H : Heap} {c : Nat} {al : Bool} {res : AV} (h : PureC P al f args res) (hn : args.all (·.noRef) = true) (hK : K res H c) : CallWP P m f args K H c := .inl ⟨al, res, hn, h, hK⟩
theorem CallWP.brw {m : Mode} {f : FuncId} {args args' : List AV} {K : AV → Heap → Nat → Prop} {H : Heap} {c : Nat} {res : AV} (h : PureC P false f args' res) (hm : m.brw = true) (hf : Frzs true H args args') (hK : K res H c) : CallWP P m f args K H c := .inr (.inl ⟨hm, args', res, hf, h, hK⟩)
theorem CallWP.proc {m : Mode} {f : FuncId} {args : List AV} {K : AV → Heap → Nat → Prop} {H : Heap} {c : Nat} {post : AV → Heap → Nat → Prop} (h : ProcC P f args H c post) (hm : m.imp = true) (hK : ∀ r H' c', post r H' c' → K r H' c') : CallWP P m f args K H c := .inr (.inr ⟨hm, post, h, hK⟩)

attribute [simp] WPk_true WPk_false seqK_normal seqK_exit seqK_ret seqK_panic blkQ_normal blkQ_exit blkQ_ret blkQ_panic keepQ_eq keepL WPk_draw WPl_nil WPl_do WPl_yes WPl_no WPm_nil WPm_do WPm_yes WPm_no guardB WP1 panK_ifc effK_some effK_none impK_some impK_none callK_clo PostX_ret PostX_normal
attribute [simp] opX St.keep lk putO St.ev Eff.put AV.cells? fldX fieldX loadX storeX elemAt rowAt tk binX binX' eqX eqKs eqK unX intX bitX ofV cellOf partsX AV.isCell idxX sliceX bndX cvtX cvtR lenX elemsX appX fillX lookX impX sliceR appR copyX capX entry resX resVs resV okD idsA DM.mode byv

end Go.AX
