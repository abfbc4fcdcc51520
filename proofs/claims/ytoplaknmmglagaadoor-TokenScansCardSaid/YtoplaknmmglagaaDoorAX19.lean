/-
AX, part 17: what proofs over the calculus use: loops, weaker states, heaps.
-/
import Derived.Test.YtoplaknmmglagaaDoorAX16
set_option linter.unusedVariables false
set_option linter.unusedSectionVars false
set_option linter.unusedSimpArgs false
namespace Go.AX
variable {P : Program} [GL P]

theorem lk_of_all : ∀ (s : Slots) (f : Nat → AV), (∀ p ∈ s, f p.1 = p.2) → ∀ i, lk s i = .dead ∨ lk s i = f i
  | [], f, _, i => .inl rfl
  | (k, v) :: s, f, h, i => by
    simp only [lk]
    by_cases hk : k = i
    · subst hk; rw [if_pos rfl]; exact .inr (h (k, v) (by simp)).symm
    · rw [if_neg hk]; exact lk_of_all s f (fun p hp => h p (by simp [hp])) i

/-- A weaker state: its slots stand in the stronger one. -/
theorem Weak.of {σ τ : St} (hs : ∀ p ∈ τ.sl, lk σ.sl p.1 = p.2) (hH : ∀ (id : Nat) (b : Blk), τ.H[id]? = some (some b) → σ.H[id]? = some (some b)) (hc : σ.c ≤ τ.c) : Weak σ τ :=
  ⟨lk_of_all τ.sl _ hs, hH, hc⟩

/-- A heap of which some blocks are forgotten. -/
def HLe : Heap → Heap → Prop
  | [], _ => True
  | none :: t, _ :: s => HLe t s
  | some b :: t, x :: s => x = some b ∧ HLe t s
  | none :: t, [] => HLe t []
  | some _ :: _, [] => False

theorem HLe.get : ∀ {t s : Heap}, HLe t s → ∀ (id : Nat) (b : Blk), t[id]? = some (some b) → s[id]? = some (some b)
  | [], _, _, id, b, h => by simp at h
  | none :: t, x :: s, hh, id, b, h => by
    cases id with
    | zero => simp at h
    | succ id => simpa using HLe.get (t := t) (s := s) hh id b (by simpa using h)
  | some y :: t, x :: s, hh, id, b, h => by
    cases id with
    | zero => simp at h ⊢; rw [hh.1, h]
    | succ id => simpa using HLe.get (t := t) (s := s) hh.2 id b (by simpa using h)
  | none :: t, [], hh, id, b, h => by
    cases id with
    | zero => simp at h
    | succ id => have := HLe.get (t := t) (s := []) hh id b (by simpa using h); simp at this
  | some _ :: _, [], hh, _, _, _ => hh.elim

theorem Weak.ofL {σ τ : St} (hs : ∀ p ∈ τ.sl, lk σ.sl p.1 = p.2) (hH : HLe τ.H σ.H) (hc : σ.c ≤ τ.c) : Weak σ τ := Weak.of hs (fun id b h => hH.get id b h) hc
theorem Weak.ofE {σ τ : St} (hs : ∀ p ∈ τ.sl, lk σ.sl p.1 = p.2) (hH : τ.H = σ.H) (hc : σ.c ≤ τ.c) : Weak σ τ := Weak.of hs (fun id b h => by rw [← hH]; exact h) hc

/-- A loop: states that a family describes, with a measure. -/
theorem WPc_loop {ann : Ann} {body : Code} {Q : Ex → St → Prop} {σ : St} {α : Type} (st : α → St) (I : α → Prop) (μ : α → Nat) (a : α) (h0 : Weak σ (st a)) (hI : I a)
    (hr : ∀ a, I a → WPc P ann body (fun ex υ => match ex with
      | .normal => ∃ b, I b ∧ μ b < μ a ∧ Weak υ (st b)
      | ex => Q ex υ) (st a)) : WPc P ann (.loop body) Q σ := by
  refine ⟨fun n τ => ∃ a, I a ∧ μ a = n ∧ τ = st a, ⟨μ a, st a, h0, a, hI, rfl, rfl⟩, ?_⟩
  rintro n τ ⟨a, hI, rfl, rfl⟩
  have := hr a hI
  have mono : ∀ (c : Code) (Q Q' : Ex → St → Prop) (σ : St), (∀ ex υ, Q ex υ → Q' ex υ) → WPc P ann c Q σ → WPc P ann c Q' σ := by
    have hg : ∀ (gd : Nat → Option Tmp) (o : Oper) (X Y : (St → Prop) → St → Prop) (K K' : St → Prop) (σ : St), (∀ σ, K σ → K' σ) → (∀ σ, X K σ → Y K' σ) → WPg gd o X K σ → WPg gd o Y K' σ := by
      intro gd o X Y K K' σ hK hXY h
      unfold WPg at h ⊢
      split at h
      · rename_i hg; exact hXY _ h
      · split at h
        · exact h
        · split at h
          · exact ⟨fun e => hXY _ (h.1 e), fun e => hK _ (h.2 e)⟩
          · exact hK _ h
          · exact h
    have hcall : ∀ (m : Mode) (f : FuncId) (args : List AV) (K K' : AV → Heap → Nat → Prop) (H : Heap) (c : Nat), (∀ r H c, K r H c → K' r H c) → CallWP P m f args K H c → CallWP P m f args K' H c := by
      intro m f args K K' H c hK h
      rcases h with ⟨al, res, h1, h2, h3⟩ | ⟨h0, args', res, h1, h2, h3⟩ | ⟨h0, post, h1, h2⟩
      · exact .inl ⟨al, res, h1, h2, hK _ _ _ h3⟩
      · exact .inr (.inl ⟨h0, args', res, h1, h2, hK _ _ _ h3⟩)
      · exact .inr (.inr ⟨h0, post, h1, fun r H' c' hp => hK _ _ _ (h2 r H' c' hp)⟩)
    have hop : ∀ (m : Mode) (o : Oper) (K K' : St → Prop) (Q Q' : Ex → St → Prop) (σ : St), (∀ σ, K σ → K' σ) → (∀ ex σ, Q ex σ → Q' ex σ) → WPop P m o K Q σ → WPop P m o K' Q' σ := by
      intro m o K K' Q Q' σ hK hQ h
      unfold WPop at h ⊢
      split at h
      · split at h
        · exact hcall _ _ _ _ _ _ _ (fun _ _ _ h => hK _ h) h
        · exact h
      · split at h
        · exact hQ _ _ h
        · exact h
      · split at h
        · exact hK _ h
        · refine ⟨h.1, ?_⟩
          have h2 := h.2
          split at h2
          · exact hK _ h2
          · split at h2
            · exact fun n hn => hK _ (h2 n hn)
            · exact h2
    have hf : ∀ (gd : Nat → Option Tmp) (Q Q' : Ex → St → Prop) (hQ : ∀ ex σ, Q ex σ → Q' ex σ) (l : List Oper) (K K' : St → Prop) (σ : St), (∀ σ, K σ → K' σ) → WPf P gd Q l K σ → WPf P gd Q' l K' σ := by
      intro gd Q Q' hQ l
      induction l with
      | nil => intro K K' σ hK h; exact hK _ h
      | cons o l ih => intro K K' σ hK h; exact hg gd o _ _ _ _ σ (fun σ h => ih K K' σ hK h) (fun σ h => hop _ _ _ _ _ _ _ (fun σ h => ih K K' σ hK h) hQ h) h
    have hd : ∀ (gd : Nat → Option Tmp) (l : List (Oper × Mode)) (K K' : St → Prop) (σ : St), (∀ σ, K σ → K' σ) → WPd P gd l K σ → WPd P gd l K' σ := by
      intro gd l
      induction l with
      | nil => intro K K' σ hK h; exact hK _ h
      | cons p l ih =>
        obtain ⟨o, m⟩ := p
        intro K K' σ hK h
        exact hg gd o _ _ _ _ σ (fun σ h => ih K K' σ hK h) (fun σ h => ⟨h.1, hop _ _ _ _ _ _ _ (fun σ h => ih K K' σ hK h) (fun _ _ h => h) h.2⟩) h
    intro c
    induction c with
    | skip => intro Q Q' σ hQ h; exact hQ _ _ h
    | exit id => intro Q Q' σ hQ h; exact hQ _ _ h
    | label l => intro Q Q' σ hQ h; exact hQ _ _ h
    | scope b ih => intro Q Q' σ hQ h; exact ih _ _ σ hQ h
    | ret => intro Q Q' σ hQ h; exact hQ _ _ h
    | region id ops draw =>
      intro Q Q' σ hQ h
      simp only [WPc] at h ⊢
      split at h
      · rename_i hdr
        rw [if_pos hdr]
        split at h
        · exact hd _ _ _ _ _ (fun σ h => hQ _ _ h) h
        · exact h
      · rename_i hdr
        rw [if_neg hdr]
        exact hf _ _ _ hQ _ _ _ _ (fun σ h => hQ _ _ h) h
    | seq x y ihx ihy =>
      intro Q Q' σ hQ h
      exact ihx _ _ σ (fun ex υ h => by
        cases ex with
        | normal => exact ihy _ _ υ hQ h
        | _ => exact hQ _ _ h) h
    | cond x a b iha ihb =>
      intro Q Q' σ hQ h
      simp only [WPc] at h ⊢
      split at h
      · exact ⟨fun e => iha _ _ σ hQ (h.1 e), fun e => ihb _ _ σ hQ (h.2 e)⟩
      · exact h
    | block id b ih =>
      intro Q Q' σ hQ h
      exact ih _ _ σ (fun ex υ h => by
        cases ex with
        | exit i => simp only at h ⊢; split at h <;> rename_i hi <;> simp only [hi, if_true, if_false] <;> exact hQ _ _ h
        | _ => exact hQ _ _ h) h
    | loop b ih =>
      intro Q Q' σ hQ h
      obtain ⟨I, h0, h1⟩ := h
      exact ⟨I, h0, fun n τ hI => ih _ _ τ (fun ex υ h => by
        cases ex with
        | normal => exact h
        | _ => exact hQ _ _ h) (h1 n τ hI)⟩
    | _ => intro Q Q' σ hQ h; exact h.elim
  refine mono _ _ _ _ (fun ex υ h => ?_) this
  cases ex with
  | normal => obtain ⟨b, hb, hlt, hw⟩ := h; exact ⟨μ b, st b, hlt, hw, b, hb, rfl, rfl⟩
  | _ => exact h

/-- A contract that says less. -/
theorem ProcC.mono {f : FuncId} {args : List AV} {H : Heap} {c : Nat} {post post' : AV → Heap → Nat → Prop} (h : ProcC P f args H c post)
    (hp : ∀ r H' c', post r H' c' → ∃ H2 c2, (∀ (id : Nat) (b : Blk), H2[id]? = some (some b) → H'[id]? = some (some b)) ∧ c' ≤ c2 ∧ post' r H2 c2) : ProcC P f args H c post' := by
  refine ⟨h.1, fun G Im w vs hr hgl hv => (h.2 G Im w vs hr hgl hv).mono ?_⟩
  rintro e w' ⟨v, r, H', c', G', Im', rfl, hpo, hr', hx, hvr, hc⟩
  obtain ⟨H2, c2, h1, h2, h3⟩ := hp _ _ _ hpo
  exact ⟨v, r, H2, c2, G', Im', rfl, h3, hr'.weak h1 h2, hx.trans (Ext.weak h1), hvr, Nat.le_trans hc h2⟩

/-! ### Stepping, for simp: what comes later is left alone -/

/-- Two ways on; simp looks into neither. -/
def Grd (b want : Bool) (A B : Prop) : Prop := (b = want → A) ∧ (b ≠ want → B)
@[congr] theorem Grd_cg {b b' want : Bool} {A B : Prop} (h : b = b') : Grd b want A B = Grd b' want A B := by rw [h]
theorem Grd.intro {b want : Bool} {A B : Prop} (h1 : b = want → A) (h2 : b = (!want) → B) : Grd b want A B := ⟨h1, fun h => h2 (by cases b <;> cases want <;> simp_all)⟩
@[simp] theorem Grd_tt {A B : Prop} : Grd true true A B = A := by simp [Grd]
@[simp] theorem Grd_ff {A B : Prop} : Grd false false A B = A := by simp [Grd]
@[simp] theorem Grd_tf {A B : Prop} : Grd true false A B = B := by simp [Grd]
@[simp] theorem Grd_ft {A B : Prop} : Grd false true A B = B := by simp [Grd]

@[congr] theorem WPc_cg {ann : Ann} {c : Code} {Q : Ex → St → Prop} {σ σ' : St} (h : σ = σ') : WPc P ann c Q σ = WPc P ann c Q σ' := by rw [h]
@[congr] theorem WPf_cg {gd : Nat → Option Tmp} {Q : Ex → St → Prop} {l : List Oper} {K : St → Prop} {σ σ' : St} (h : σ = σ') : WPf P gd Q l K σ = WPf P gd Q l K σ' := by rw [h]
@[congr] theorem WPd_cg {gd : Nat → Option Tmp} {l l' : List (Oper × Mode)} {K : St → Prop} {σ σ' : St} (hl : l = l') (h : σ = σ') : WPd P gd l K σ = WPd P gd l' K σ' := by rw [h, hl]
@[congr] theorem WPg_cg {gd : Nat → Option Tmp} {o : Oper} {X : (St → Prop) → St → Prop} {K : St → Prop} {σ σ' : St} (h : σ = σ') : WPg gd o X K σ = WPg gd o X K σ' := by rw [h]
@[congr] theorem WPop_cg {m m' : Mode} {o : Oper} {K : St → Prop} {Q : Ex → St → Prop} {σ σ' : St} (hm : m = m') (h : σ = σ') : WPop P m o K Q σ = WPop P m' o K Q σ' := by rw [h, hm]

/-- How a guard goes. -/
def guardX (gd : Nat → Option Tmp) (j : Nat) (σ : St) : Option AV := (gd j).map (lk σ.sl)
def WPgK (want : Bool) (A B : Prop) : Option AV → Prop
  | some (.bool b) => Grd b want A B
  | some (.tup _) => B
  | _ => False
@[congr] theorem WPgK_cg {want : Bool} {A B : Prop} {x y : Option AV} (h : x = y) : WPgK want A B x = WPgK want A B y := by rw [h]
theorem WPgK_bool {want b : Bool} {A B : Prop} : WPgK want A B (some (.bool b)) = Grd b want A B := rfl
theorem WPgK_tup {want : Bool} {A B : Prop} {cs : List AV} : WPgK want A B (some (.tup cs)) = B := rfl

theorem WPg_none {gd : Nat → Option Tmp} {dst : Option Tmp} {op : Op} {ty : TypeId} {pos : String} {after : Array Edge} {X : (St → Prop) → St → Prop} {K : St → Prop} {σ : St} :
    WPg gd ⟨dst, op, ty, pos, after, none⟩ X K σ = X K σ := rfl
theorem WPg_some {gd : Nat → Option Tmp} {dst : Option Tmp} {op : Op} {ty : TypeId} {pos : String} {after : Array Edge} {j : Nat} {want : Bool} {X : (St → Prop) → St → Prop} {K : St → Prop} {σ : St} :
    WPg gd ⟨dst, op, ty, pos, after, some (j, want)⟩ X K σ = WPgK want (X K σ) (K { σ with sl := putO σ.sl dst (.tup []) }) (guardX gd j σ) := by
  unfold WPg guardX
  simp only
  cases gd j with
  | none => rfl
  | some d =>
    simp only [Option.map_some]
    cases lk σ.sl d <;> rfl

theorem WPf_nil {gd : Nat → Option Tmp} {Q : Ex → St → Prop} {K : St → Prop} {σ : St} : WPf P gd Q [] K σ = K σ := rfl
theorem WPf_cons {gd : Nat → Option Tmp} {Q : Ex → St → Prop} {o : Oper} {l : List Oper} {K : St → Prop} {σ : St} : WPf P gd Q (o :: l) K σ = WPg gd o (fun K τ => WPop P {} o K Q τ) (WPf P gd Q l K) σ := rfl
theorem WPd_nil {gd : Nat → Option Tmp} {K : St → Prop} {σ : St} : WPd P gd [] K σ = K σ := rfl
theorem WPd_cons {gd : Nat → Option Tmp} {o : Oper} {m : Mode} {l : List (Oper × Mode)} {K : St → Prop} {σ : St} :
    WPd P gd ((o, m) :: l) K σ = WPg gd o (fun K τ => okD P m o.op (τ.ev P) τ.H = true ∧ WPop P m o K (fun _ _ => False) τ) (WPd P gd l K) σ := rfl

/-- The value of a slot that guards. -/
def guardB (want : Bool) : Option AV → Option Bool
  | some (.bool b) => some (b == want)
  | some (.tup _) => some false
  | _ => none
theorem WPf_do {gd : Nat → Option Tmp} {Q : Ex → St → Prop} {dst : Option Tmp} {op : Op} {ty : TypeId} {pos : String} {after : Array Edge} {l : List Oper} {K : St → Prop} {σ : St} :
    WPf P gd Q (⟨dst, op, ty, pos, after, none⟩ :: l) K σ = WPop P {} ⟨dst, op, ty, pos, after, none⟩ (WPf P gd Q l K) Q σ := rfl
theorem WPf_yes {gd : Nat → Option Tmp} {Q : Ex → St → Prop} {dst : Option Tmp} {op : Op} {ty : TypeId} {pos : String} {after : Array Edge} {j : Nat} {want : Bool} {l : List Oper} {K : St → Prop} {σ : St} (h : guardB want (guardX gd j σ) = some true) :
    WPf P gd Q (⟨dst, op, ty, pos, after, some (j, want)⟩ :: l) K σ = WPop P {} ⟨dst, op, ty, pos, after, some (j, want)⟩ (WPf P gd Q l K) Q σ := by
  rw [WPf_cons, WPg_some]
  unfold guardB at h
  split at h
  · rename_i b hb; rw [hb]; simp at h; subst h; cases b <;> simp [WPgK]
  · cases h
  · cases h
theorem WPf_no {gd : Nat → Option Tmp} {Q : Ex → St → Prop} {dst : Option Tmp} {op : Op} {ty : TypeId} {pos : String} {after : Array Edge} {j : Nat} {want : Bool} {l : List Oper} {K : St → Prop} {σ : St} (h : guardB want (guardX gd j σ) = some false) :
    WPf P gd Q (⟨dst, op, ty, pos, after, some (j, want)⟩ :: l) K σ = WPf P gd Q l K { σ with sl := putO σ.sl dst (.tup []) } := by
  rw [WPf_cons, WPg_some]
  unfold guardB at h
  split at h
  · rename_i b hb; rw [hb]; simp at h; cases b <;> cases want <;> simp_all [WPgK]
  · rename_i cs hb; rw [hb]; rfl
  · cases h
theorem WPf_split {gd : Nat → Option Tmp} {Q : Ex → St → Prop} {dst : Option Tmp} {op : Op} {ty : TypeId} {pos : String} {after : Array Edge} {j : Nat} {want b : Bool} {l : List Oper} {K : St → Prop} {σ : St} (hb : guardX gd j σ = some (.bool b))
    (h1 : b = want → WPop P {} ⟨dst, op, ty, pos, after, some (j, want)⟩ (WPf P gd Q l K) Q σ) (h2 : b = (!want) → WPf P gd Q l K { σ with sl := putO σ.sl dst (.tup []) }) : WPf P gd Q (⟨dst, op, ty, pos, after, some (j, want)⟩ :: l) K σ := by
  rw [WPf_cons, WPg_some, hb]
  exact Grd.intro h1 h2
theorem WPd_do {gd : Nat → Option Tmp} {dst : Option Tmp} {op : Op} {ty : TypeId} {pos : String} {after : Array Edge} {m : Mode} {l : List (Oper × Mode)} {K : St → Prop} {σ : St} :
    WPd P gd ((⟨dst, op, ty, pos, after, none⟩, m) :: l) K σ = (okD P m op (σ.ev P) σ.H = true ∧ WPop P m ⟨dst, op, ty, pos, after, none⟩ (WPd P gd l K) (fun _ _ => False) σ) := rfl
theorem WPd_yes {gd : Nat → Option Tmp} {dst : Option Tmp} {op : Op} {ty : TypeId} {pos : String} {after : Array Edge} {j : Nat} {want : Bool} {m : Mode} {l : List (Oper × Mode)} {K : St → Prop} {σ : St} (h : guardB want (guardX gd j σ) = some true) :
    WPd P gd ((⟨dst, op, ty, pos, after, some (j, want)⟩, m) :: l) K σ = (okD P m op (σ.ev P) σ.H = true ∧ WPop P m ⟨dst, op, ty, pos, after, some (j, want)⟩ (WPd P gd l K) (fun _ _ => False) σ) := by
  rw [WPd_cons, WPg_some]
  unfold guardB at h
  split at h
  · rename_i b hb; rw [hb]; simp at h; subst h; cases b <;> simp [WPgK]
  · cases h
  · cases h
theorem WPd_no {gd : Nat → Option Tmp} {dst : Option Tmp} {op : Op} {ty : TypeId} {pos : String} {after : Array Edge} {j : Nat} {want : Bool} {m : Mode} {l : List (Oper × Mode)} {K : St → Prop} {σ : St} (h : guardB want (guardX gd j σ) = some false) :
    WPd P gd ((⟨dst, op, ty, pos, after, some (j, want)⟩, m) :: l) K σ = WPd P gd l K { σ with sl := putO σ.sl dst (.tup []) } := by
  rw [WPd_cons, WPg_some]
  unfold guardB at h
  split at h
  · rename_i b hb; rw [hb]; simp at h; cases b <;> cases want <;> simp_all [WPgK]
  · rename_i cs hb; rw [hb]; rfl
  · cases h
theorem WPd_split {gd : Nat → Option Tmp} {dst : Option Tmp} {op : Op} {ty : TypeId} {pos : String} {after : Array Edge} {j : Nat} {want b : Bool} {m : Mode} {l : List (Oper × Mode)} {K : St → Prop} {σ : St} (hb : guardX gd j σ = some (.bool b))
    (h1 : b = want → okD P m op (σ.ev P) σ.H = true ∧ WPop P m ⟨dst, op, ty, pos, after, some (j, want)⟩ (WPd P gd l K) (fun _ _ => False) σ) (h2 : b = (!want) → WPd P gd l K { σ with sl := putO σ.sl dst (.tup []) }) :
    WPd P gd ((⟨dst, op, ty, pos, after, some (j, want)⟩, m) :: l) K σ := by
  rw [WPd_cons, WPg_some, hb]
  exact Grd.intro h1 h2

/-- What an operation comes to. -/
def effK (P : Program) (m : Mode) (op : Op) (dst : Option Tmp) (ev : Operand → AV) (σ : St) (K : St → Prop) : Option Eff → Prop
  | some e => K (e.put m.kept dst σ)
  | none => m.imp = true ∧ match impX P op ev σ.H σ.c with
    | some (v, H', c') => K { sl := putO σ.sl dst v, H := H', c := c' }
    | none => match capX P op ev σ.H with
      | some lo => ∀ n : Nat, lo ≤ n → K { sl := putO σ.sl dst (.int .i64 n), H := σ.H, c := σ.c }
      | none => False
@[congr] theorem effK_cg {m : Mode} {op : Op} {dst : Option Tmp} {ev : Operand → AV} {σ : St} {K : St → Prop} {x y : Option Eff} (h : x = y) : effK P m op dst ev σ K x = effK P m op dst ev σ K y := by rw [h]
theorem effK_some {m : Mode} {op : Op} {dst : Option Tmp} {ev : Operand → AV} {σ : St} {K : St → Prop} {e : Eff} : effK P m op dst ev σ K (some e) = K (e.put m.kept dst σ) := rfl
def capK (dst : Option Tmp) (σ : St) (K : St → Prop) : Option Nat → Prop
  | some lo => ∀ n : Nat, lo ≤ n → K { sl := putO σ.sl dst (.int .i64 n), H := σ.H, c := σ.c }
  | none => False
@[congr] theorem capK_cg {dst : Option Tmp} {σ : St} {K : St → Prop} {x y : Option Nat} (h : x = y) : capK dst σ K x = capK dst σ K y := by rw [h]
theorem capK_some {dst : Option Tmp} {σ : St} {K : St → Prop} {lo : Nat} (h : ∀ n : Nat, lo ≤ n → K { sl := putO σ.sl dst (.int .i64 n), H := σ.H, c := σ.c }) : capK dst σ K (some lo) := h
def impK (P : Program) (op : Op) (ev : Operand → AV) (dst : Option Tmp) (σ : St) (K : St → Prop) : Option (AV × Heap × Nat) → Prop
  | some (v, H', c') => K { sl := putO σ.sl dst v, H := H', c := c' }
  | none => capK dst σ K (capX P op ev σ.H)
@[congr] theorem impK_cg {op : Op} {ev : Operand → AV} {dst : Option Tmp} {σ : St} {K : St → Prop} {x y : Option (AV × Heap × Nat)} (h : x = y) : impK P op ev dst σ K x = impK P op ev dst σ K y := by rw [h]
theorem impK_some {op : Op} {ev : Operand → AV} {dst : Option Tmp} {σ : St} {K : St → Prop} {v : AV} {H' : Heap} {c' : Nat} : impK P op ev dst σ K (some (v, H', c')) = K { sl := putO σ.sl dst v, H := H', c := c' } := rfl
theorem impK_none {op : Op} {ev : Operand → AV} {dst : Option Tmp} {σ : St} {K : St → Prop} : impK P op ev dst σ K none = capK dst σ K (capX P op ev σ.H) := rfl
theorem effK_none {m : Mode} {op : Op} {dst : Option Tmp} {ev : Operand → AV} {σ : St} {K : St → Prop} : effK P m op dst ev σ K none = (m.imp = true ∧ impK P op ev dst σ K (impX P op ev σ.H σ.c)) := by
  unfold effK impK capK
  cases impX P op ev σ.H σ.c with
  | some p => rfl
  | none => cases capX P op ev σ.H <;> rfl

/-- A call, by what is called. -/
def callK (P : Program) [GL P] (m : Mode) (args : List AV) (dst : Option Tmp) (σ : St) (K : St → Prop) : AV → Prop
  | .clo (.func fid) first captured => CallWP P m fid (first ++ args ++ captured) (fun r H c => K { sl := putO σ.sl dst r, H := H, c := c }) σ.H σ.c
  | _ => False
@[congr] theorem callK_cg {m : Mode} {args args' : List AV} {dst : Option Tmp} {σ : St} {K : St → Prop} {x y : AV} (ha : args = args') (h : x = y) : callK P m args dst σ K x = callK P m args' dst σ K y := by rw [h, ha]
theorem callK_clo {m : Mode} {args : List AV} {dst : Option Tmp} {σ : St} {K : St → Prop} {fid : FuncId} {a b : List AV} :
    callK P m args dst σ K (.clo (.func fid) a b) = CallWP P m fid (a ++ args ++ b) (fun r H c => K { sl := putO σ.sl dst r, H := H, c := c }) σ.H σ.c := rfl
@[congr] theorem CallWP_cg {m : Mode} {f : FuncId} {args args' : List AV} {K : AV → Heap → Nat → Prop} {H H' : Heap} {c c' : Nat} (ha : args = args') (hH : H = H') (hc : c = c') : CallWP P m f args K H c = CallWP P m f args' K H' c' := by rw [ha, hH, hc]

def panK (σ : St) (Q : Ex → St → Prop) : AV → Prop
  | .ifc t v => Q (.panic (.ifc t v)) σ
  | _ => False
@[congr] theorem panK_cg {σ : St} {Q : Ex → St → Prop} {x y : AV} (h : x = y) : panK σ Q x = panK σ Q y := by rw [h]
theorem panK_ifc {σ : St} {Q : Ex → St → Prop} {t : TypeId} {v : AV} : panK σ Q (.ifc t v) = Q (.panic (.ifc t v)) σ := rfl
theorem WPop_eq {m : Mode} {dst : Option Tmp} {op : Op} {ty : TypeId} {pos : String} {after : Array Edge} {g : Option (Nat × Bool)} {K : St → Prop} {Q : Ex → St → Prop} {σ : St} :
    WPop P m ⟨dst, op, ty, pos, after, g⟩ K Q σ = match op with
      | .call { callee := .value f, args, .. } => callK P m (args.toList.map (σ.ev P)) dst σ K (σ.ev P f)
      | .panic x => panK σ Q (σ.ev P x)
      | op => effK P m op dst (σ.ev P) σ K (opX P op (σ.ev P) σ.H) := by
  unfold WPop
  simp only
  split
  · rename_i f args tys
    show _ = callK P m (args.toList.map (σ.ev P)) dst σ K (σ.ev P f)
    unfold callK
    generalize σ.ev P f = x
    cases x <;> first | rfl | (rename_i fn a b; cases fn <;> rfl)
  · rename_i x
    show _ = panK σ Q (σ.ev P x)
    unfold panK
    generalize σ.ev P x = y
    cases y <;> rfl
  · rename_i h1 h2
    have key : ∀ o : Op, (∀ f args tys, o = .call { callee := .value f, args := args, argTypes := tys } → False) → (∀ x, o = .panic x → False) → (match o with
      | .call { callee := .value f, args, .. } => callK P m (args.toList.map (σ.ev P)) dst σ K (σ.ev P f)
      | .panic x => panK σ Q (σ.ev P x)
      | op => effK P m op dst (σ.ev P) σ K (opX P op (σ.ev P) σ.H)) = effK P m o dst (σ.ev P) σ K (opX P o (σ.ev P) σ.H) := by
      intro o q1 q2
      split
      · exact (q1 _ _ _ rfl).elim
      · exact (q2 _ rfl).elim
      · rfl
    rw [key _ h1 h2]
    unfold effK
    cases opX P _ (σ.ev P) σ.H <;> rfl

/-- Code, by what it begins with. -/
def condK (A B : Prop) : AV → Prop
  | .bool t => Grd t true A B
  | _ => False
@[congr] theorem condK_cg {A B : Prop} {x y : AV} (h : x = y) : condK A B x = condK A B y := by rw [h]
theorem condK_bool {A B : Prop} {t : Bool} : condK A B (.bool t) = Grd t true A B := rfl
theorem WPc_cond {ann : Ann} {x : Operand} {a b : Code} {Q : Ex → St → Prop} {σ : St} : WPc P ann (.cond x a b) Q σ = condK (WPc P ann a Q σ) (WPc P ann b Q σ) (σ.ev P x) := by
  show (match σ.ev P x with
    | .bool t => (t = true → WPc P ann a Q σ) ∧ (t = false → WPc P ann b Q σ)
    | _ => False) = _
  unfold condK
  cases σ.ev P x <;> try rfl
  rename_i t
  simp only [Grd]
  cases t <;> simp
theorem WPc_true {ann : Ann} {x : Operand} {a b : Code} {Q : Ex → St → Prop} {σ : St} (h : σ.ev P x = .bool true) : WPc P ann (.cond x a b) Q σ = WPc P ann a Q σ := by rw [WPc_cond, h]; simp [condK]
theorem WPc_false {ann : Ann} {x : Operand} {a b : Code} {Q : Ex → St → Prop} {σ : St} (h : σ.ev P x = .bool false) : WPc P ann (.cond x a b) Q σ = WPc P ann b Q σ := by rw [WPc_cond, h]; simp [condK]
theorem WPc_split {ann : Ann} {x : Operand} {a b : Code} {Q : Ex → St → Prop} {σ : St} {t : Bool} (hb : σ.ev P x = .bool t) (h1 : t = true → WPc P ann a Q σ) (h2 : t = false → WPc P ann b Q σ) : WPc P ann (.cond x a b) Q σ := by
  rw [WPc_cond, hb]; exact Grd.intro h1 h2
theorem WPc_skip {ann : Ann} {Q : Ex → St → Prop} {σ : St} : WPc P ann .skip Q σ = Q .normal σ := rfl
theorem WPc_exit {ann : Ann} {Q : Ex → St → Prop} {σ : St} {i : Nat} : WPc P ann (.exit i) Q σ = Q (.exit i) σ := rfl
theorem WPc_ret {ann : Ann} {Q : Ex → St → Prop} {σ : St} : WPc P ann .ret Q σ = Q .ret σ := rfl
/-- What follows in a sequence; in a block. -/
def seqQ (P : Program) [GL P] (ann : Ann) (b : Code) (Q : Ex → St → Prop) : Ex → St → Prop
  | .normal, τ => WPc P ann b Q τ
  | ex, τ => Q ex τ
def blkQ (id : Nat) (Q : Ex → St → Prop) : Ex → St → Prop
  | .exit i, τ => if i = id then Q .normal τ else Q (.exit i) τ
  | ex, τ => Q ex τ
theorem WPc_seq {ann : Ann} {a b : Code} {Q : Ex → St → Prop} {σ : St} : WPc P ann (.seq a b) Q σ = WPc P ann a (seqQ P ann b Q) σ := by
  show WPc P ann a _ σ = _
  congr 1
  funext ex τ
  cases ex <;> rfl
theorem WPc_block {ann : Ann} {id : Nat} {b : Code} {Q : Ex → St → Prop} {σ : St} : WPc P ann (.block id b) Q σ = WPc P ann b (blkQ id Q) σ := by
  show WPc P ann b _ σ = _
  congr 1
  funext ex τ
  cases ex <;> rfl
theorem seqQ_normal {ann : Ann} {b : Code} {Q : Ex → St → Prop} {τ : St} : seqQ P ann b Q .normal τ = WPc P ann b Q τ := rfl
theorem seqQ_exit {ann : Ann} {b : Code} {Q : Ex → St → Prop} {τ : St} {i : Nat} : seqQ P ann b Q (.exit i) τ = Q (.exit i) τ := rfl
theorem seqQ_ret {ann : Ann} {b : Code} {Q : Ex → St → Prop} {τ : St} : seqQ P ann b Q .ret τ = Q .ret τ := rfl
theorem seqQ_panic {ann : Ann} {b : Code} {Q : Ex → St → Prop} {τ : St} {v : AV} : seqQ P ann b Q (.panic v) τ = Q (.panic v) τ := rfl
theorem blkQ_normal {id : Nat} {Q : Ex → St → Prop} {τ : St} : blkQ id Q .normal τ = Q .normal τ := rfl
theorem blkQ_exit {id i : Nat} {Q : Ex → St → Prop} {τ : St} : blkQ id Q (.exit i) τ = if i = id then Q .normal τ else Q (.exit i) τ := rfl
theorem blkQ_ret {id : Nat} {Q : Ex → St → Prop} {τ : St} : blkQ id Q .ret τ = Q .ret τ := rfl
theorem blkQ_panic {id : Nat} {Q : Ex → St → Prop} {τ : St} {v : AV} : blkQ id Q (.panic v) τ = Q (.panic v) τ := rfl
/-- Behind a region. -/
def keepK (ann : Ann) (id : Nat) (Q : Ex → St → Prop) : St → Prop := fun τ => Q .normal (keepA ann id τ)
theorem keepK_eq {ann : Ann} {id : Nat} {Q : Ex → St → Prop} {τ : St} : keepK ann id Q τ = Q .normal (keepA ann id τ) := rfl
theorem WPc_region {ann : Ann} {id : Nat} {ops : Array Oper} {Q : Ex → St → Prop} {σ : St} : WPc P ann (.region id ops false) Q σ = WPf P (gdOf ops) Q ops.toList (keepK ann id Q) σ := rfl
def drawK (P : Program) [GL P] (ops : Array Oper) (Q : Ex → St → Prop) (σ : St) : Option RA → Prop
  | some r => WPd P (gdOf ops) (ops.toList.zip (r.dms.map (DM.mode σ.H.length σ.c))) (fun τ => Q .normal (τ.keep r.live)) { σ with H := σ.H ++ List.replicate r.news none, c := σ.c + r.news }
  | none => False
theorem WPc_draw {ann : Ann} {id : Nat} {ops : Array Oper} {Q : Ex → St → Prop} {σ : St} : WPc P ann (.region id ops true) Q σ = drawK P ops Q σ ann[id]? := by
  show (if true = true then _ else _) = _
  unfold drawK
  rw [if_pos rfl]
  cases ann[id]? <;> rfl
@[congr] theorem drawK_cg {ops : Array Oper} {Q : Ex → St → Prop} {σ : St} {x y : Option RA} (h : x = y) : drawK P ops Q σ x = drawK P ops Q σ y := by rw [h]
theorem drawK_some {ops : Array Oper} {Q : Ex → St → Prop} {σ : St} {r : RA} : drawK P ops Q σ (some r) = WPd P (gdOf ops) (ops.toList.zip (r.dms.map (DM.mode σ.H.length σ.c))) (fun τ => Q .normal (τ.keep r.live)) { σ with H := σ.H ++ List.replicate r.news none, c := σ.c + r.news } := rfl

/-! ### Heaps, for simp -/

theorem hget_app (H L : Heap) (k : Nat) : (H ++ L)[H.length + k]? = L[k]? := by
  rw [List.getElem?_append_right (Nat.le_add_right _ _)]; congr 1; omega
theorem hget_app0 (H L : Heap) : (H ++ L)[H.length]? = L[0]? := by
  rw [List.getElem?_append_right (Nat.le_refl _), Nat.sub_self]
theorem hset_app (H L : Heap) (k : Nat) (x : Option Blk) : (H ++ L).set (H.length + k) x = H ++ L.set k x := by
  rw [List.set_append_right _ _ (Nat.le_add_right _ _)]; congr 2; omega
theorem hset_app0 (H L : Heap) (x : Option Blk) : (H ++ L).set H.length x = H ++ L.set 0 x := by
  rw [List.set_append_right _ _ (Nat.le_refl _), Nat.sub_self]

/-- A block known to lie in a heap. -/
structure At (H : Heap) (id : Nat) (b : Blk) : Prop where
  get : H[id]? = some (some b)

theorem At.lt {H : Heap} {id : Nat} {b : Blk} (h : At H id b) : id < H.length := (List.getElem?_eq_some_iff.1 h.get).1
theorem At.app {H : Heap} {id : Nat} {b : Blk} (h : At H id b) (L : Heap) : (H ++ L)[id]? = some (some b) := by
  rw [List.getElem?_append_left h.lt]; exact h.get
theorem At.setApp {H : Heap} {id : Nat} {b : Blk} (h : At H id b) (L : Heap) (x : Option Blk) : (H ++ L).set id x = H.set id x ++ L := by
  rw [List.set_append_left _ _ h.lt]
theorem At.set {H : Heap} {id : Nat} {b : Blk} (h : At H id b) (b' : Blk) : At (H.set id (some b')) id b' := ⟨by rw [List.getElem?_set_self h.lt]⟩
theorem At.ne {H : Heap} {id j : Nat} {b : Blk} (h : At H id b) (x : Option Blk) (hne : j ≠ id) : At (H.set j x) id b := ⟨by rw [List.getElem?_set_ne hne]; exact h.get⟩

/-! ### Rows of bytes -/

abbrev bv (l : List UInt8) : AV := .vec (l.map byv)
abbrev sv (l : List UInt8) : AV := .str ⟨l.toArray⟩

@[simp] theorem bytesX_byv (l : List UInt8) : bytesX (l.map byv) = some l := by
  induction l with
  | nil => rfl
  | cons b l ih =>
    show Option.map _ (bytesX (l.map byv)) = _
    rw [ih]
    simp
@[simp] theorem szOK_byv (l : List UInt8) : szOK 1 (l.map byv) = true := by
  induction l with
  | nil => rfl
  | cons b l ih => simp [szOK, byv]
@[simp] theorem szOK_cons (sz : Nat) (e : List AV) (es : List (List AV)) : szOK sz (e :: es) = (e.length == sz && szOK sz es) := rfl
@[simp] theorem szOK_nil (sz : Nat) : szOK sz [] = true := rfl
@[simp] theorem take_byv (l : List UInt8) (n : Nat) : (l.map byv).take n = (l.take n).map byv := List.map_take.symm
@[simp] theorem drop_byv (l : List UInt8) (n : Nat) : (l.map byv).drop n = (l.drop n).map byv := List.map_drop.symm
@[simp] theorem ba_toList (l : List UInt8) : (⟨l.toArray⟩ : ByteArray).toList = l := by rw [ByteArray.toList_eq]
@[simp] theorem ba_size (l : List UInt8) : (⟨l.toArray⟩ : ByteArray).size = l.length := by simp [ByteArray.size]
@[simp] theorem byv_length (b : UInt8) : (byv b).length = 1 := rfl

end Go.AX
