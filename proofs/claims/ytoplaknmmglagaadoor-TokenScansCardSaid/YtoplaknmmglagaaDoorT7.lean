/-
law11: strconv.ParseInt of digits; bytes.IndexByte; the number, the sign that stands there.
-/
import Derived.Test.YtoplaknmmglagaaDoorT6
import Derived.Test.YtoplaknmmglagaaDoorShelf
set_option linter.unusedVariables false
set_option linter.unusedSimpArgs false
namespace Go.Proofs.YtoplaknmmglagaaDoor.T
open Go Go.AX Go.RowKit

theorem VsOne {Im : Nat → Prop} {w : World} {G : Gens} {a : AV} {xs : List AV} {vs : List Value} (h : Vs Im w G (a :: xs) vs) : ∃ v us, vs = v :: us ∧ V Im w G a v ∧ Vs Im w G xs us := by
  cases vs with
  | nil => have := h.1; simp at this
  | cons v us => exact ⟨v, us, rfl, h.2 0 _ _ rfl rfl, by have := h.1; simpa using this, fun j c u hc hu => h.2 (j + 1) c u (by simpa using hc) (by simpa using hu)⟩
theorem VsNone {Im : Nat → Prop} {w : World} {G : Gens} {vs : List Value} (h : Vs Im w G [] vs) : vs = [] := by
  cases vs with
  | nil => rfl
  | cons v us => have := h.1; simp at this

/-- What digits come to. -/
def numA : List UInt8 → Nat → Nat
  | [], acc => acc
  | b :: l, acc => numA l (10 * acc + (b.toNat - 48))
theorem numA_nil (acc : Nat) : numA [] acc = acc := rfl
theorem numA_cons (b : UInt8) (l : List UInt8) (acc : Nat) : numA (b :: l) acc = numA l (10 * acc + (b.toNat - 48)) := rfl
def allDig (l : List UInt8) : Prop := ∀ b ∈ l, digB b.toNat = true

theorem numA_ge (l : List UInt8) : ∀ (acc : Nat), acc ≤ numA l acc := by
  induction l with
  | nil => intro acc; rw [numA_nil]; exact Nat.le_refl _
  | cons b l ih => intro acc; rw [numA_cons]; exact Nat.le_trans (by omega) (ih _)

theorem digB_iff (b : UInt8) : digB b.toNat = true ↔ 48 ≤ b.toNat ∧ b.toNat ≤ 57 := by
  simp only [digB, Bool.and_eq_true, decide_eq_true_eq]; omega

theorem parseUintM_dig (M : Nat) (hM : M = 18446744073709551615) (l : List UInt8) : ∀ (acc : Nat), allDig l → acc ≤ M →
    (numA l acc ≤ M → Lib.parseUintM M acc l = .ok (numA l acc)) ∧ (M < numA l acc → Lib.parseUintM M acc l = .range) := by
  induction l with
  | nil => intro acc _ h; exact ⟨fun _ => rfl, fun h' => by rw [numA_nil] at h'; omega⟩
  | cons b l ih =>
    intro acc hd h
    have hb := (digB_iff b).1 (hd b (by simp))
    have hge := numA_ge l (10 * acc + (b.toNat - 48))
    rw [numA_cons]
    simp only [Lib.parseUintM, if_pos hb]
    by_cases h1 : 1844674407370955162 ≤ acc
    · rw [if_pos h1]
      exact ⟨fun h' => by omega, fun _ => rfl⟩
    · rw [if_neg h1]
      by_cases h2 : M < acc * 10 + (b.toNat - 48)
      · rw [if_pos h2]
        exact ⟨fun h' => by omega, fun _ => rfl⟩
      · rw [if_neg h2]
        have e : acc * 10 + (b.toNat - 48) = 10 * acc + (b.toNat - 48) := by omega
        rw [e]
        exact ih _ (fun c hc => hd c (by simp [hc])) (by omega)

theorem parseIntB_eq (c : UInt8) (r : List UInt8) (h1 : c.toNat ≠ 43) (h2 : c.toNat ≠ 45) (K : Nat) (hK : K = 2 ^ 63) :
    (∀ u, Lib.parseUintM (2 ^ 64 - 1) 0 (c :: r) = .ok u → Lib.parseIntB 64 (c :: r) = if K ≤ u then .range else .ok (u : Int)) ∧
    (Lib.parseUintM (2 ^ 64 - 1) 0 (c :: r) = .range → Lib.parseIntB 64 (c :: r) = .range) := by
  subst hK
  simp only [Lib.parseIntB, h1, h2, or_self, if_false, not_false_eq_true, true_and, false_and, Lib.parseUintB, reduceCtorEq]
  exact ⟨fun u h => by rw [h], fun h => by rw [h]⟩

theorem parseIntB_dig (l : List UInt8) (hd : allDig l) (hne : l ≠ []) (K : Nat) (hK : K = 9223372036854775808) : (numA l 0 < K → Lib.parseIntB 64 l = .ok (numA l 0)) ∧ (K ≤ numA l 0 → Lib.parseIntB 64 l = .range) := by
  cases l with
  | nil => exact absurd rfl hne
  | cons c r =>
    have hc := (digB_iff c).1 (hd c (by simp))
    have hp := parseUintM_dig (2 ^ 64 - 1) (by decide) (c :: r) 0 hd (by omega)
    obtain ⟨e1, e2⟩ := parseIntB_eq c r (by omega) (by omega) K (by rw [hK])
    generalize numA (c :: r) 0 = n at hp
    generalize hM : 2 ^ 64 - 1 = M at hp e1 e2
    have hM' : M = 18446744073709551615 := by rw [← hM]
    by_cases h' : n ≤ M
    · rw [e1 n (hp.1 h')]
      exact ⟨fun h => by rw [if_neg (by omega)], fun h => by rw [if_pos h]⟩
    · rw [e2 (hp.2 (by omega))]
      exact ⟨fun h => by omega, fun h => rfl⟩

theorem intSat_dig (l : List UInt8) (hd : allDig l) : Lib.intSat 64 l = 9223372036854775807 := by
  unfold Lib.intSat
  rw [if_neg]
  · rfl
  · cases l with
    | nil => simp
    | cons c r =>
      have hc := (digB_iff c).1 (hd c (by simp))
      simp
      omega

theorem enters36 : Go.AX.Enters Tryd.prog 36 := ⟨Tryd.f36, Tryd.func36, by kernel_rfl, by kernel_rfl⟩
theorem enters37 : Go.AX.Enters Tryd.prog 37 := ⟨Tryd.f37, Tryd.func37, by kernel_rfl, by kernel_rfl⟩

theorem below_old {w w' : World} (h : Below w.heap.size w w') : (∀ r, r < w.heap.size → w'.heap[r]? = w.heap[r]?) ∧ w.heap.size ≤ w'.heap.size ∧ SameOut w w' := ⟨h.block, h.size, h.os, h.output, h.tape⟩

theorem parseInt_ok (l : List UInt8) (hd : allDig l) (hne : l ≠ []) (hlen : l.length ≤ 281474976710656) (h : numA l 0 < 9223372036854775808) :
    PureC Tryd.prog false 36 [sv l, .int .i64 10, .int .i64 64] (.tup [.int .i64 (numA l 0), .nili]) := by
  refine ⟨enters36, fun Im w vs him hgl hv => ?_⟩
  obtain ⟨v0, vs, rfl, h0, hv⟩ := VsOne hv
  obtain ⟨v1, vs, rfl, h1, hv⟩ := VsOne hv
  obtain ⟨v2, vs, rfl, h2, hv⟩ := VsOne hv
  obtain rfl := VsNone hv
  cases h0; cases h1; cases h2
  refine (Tryd.strconv_ParseInt_10_at64_ok ⟨l.toArray⟩ (by simp [ByteArray.size]; omega) (numA l 0) (by simpa using (parseIntB_dig l hd hne _ rfl).1 h) w).mono ?_
  rintro e w' ⟨rfl, hw⟩
  have hb : Below w.heap.size w w' := by
    rcases hw with rfl | ⟨t, rfl⟩
    · exact Below.refl _ _
    · exact Lib.bytesWorld_below _ _ _
  obtain ⟨q1, q2, q3⟩ := below_old hb
  refine ⟨_, fun _ => False, rfl, .tup _ [.int .i64 (numA l 0), .nilIface] rfl ?_, fun r h => h.elim, fun r h => h.elim, q1, q2, q3⟩
  intro j c u hc hu
  match j with
  | 0 => simp at hc hu; subst hc; subst hu; exact .int _ _
  | 1 => simp at hc hu; subst hc; subst hu; exact .nili
  | j + 2 => simp at hc

theorem glob2 {Im : Nat → Prop} {w : World} (h : Glob Tryd.prog Im w) : ∃ t u, w.cell? ⟨2, 0, none⟩ = some (.iface t u) := by
  have := h 2
  have e : (GL.gl Tryd.prog 2 : AV) = .iptr [.ifc 74 .dead] := rfl
  rw [e] at this
  cases this with
  | iptr cs ad us hs him hcell hv =>
    obtain ⟨_, h1⟩ := hcell 0 _ rfl
    have h2 := hv 0 _ rfl
    generalize us 0 = u at h1 h2
    cases h2
    exact ⟨_, _, h1⟩

theorem parseInt_range (l : List UInt8) (hd : allDig l) (hne : l ≠ []) (hlen : l.length ≤ 281474976710656) (h : 9223372036854775808 ≤ numA l 0) :
    PureC Tryd.prog false 36 [sv l, .int .i64 10, .int .i64 64] (.tup [.int .i64 9223372036854775807, .ifc 63 .dead]) := by
  refine ⟨enters36, fun Im w vs him hgl hv => ?_⟩
  obtain ⟨v0, vs, rfl, h0, hv⟩ := VsOne hv
  obtain ⟨v1, vs, rfl, h1, hv⟩ := VsOne hv
  obtain ⟨v2, vs, rfl, h2, hv⟩ := VsOne hv
  obtain rfl := VsNone hv
  cases h0; cases h1; cases h2
  obtain ⟨t, u, hcell⟩ := glob2 hgl
  have p1 := (parseIntB_dig l hd hne _ rfl).2 h
  have p2 := intSat_dig l hd
  refine (Tryd.strconv_ParseInt_10_at64_range ⟨l.toArray⟩ (by simp [ByteArray.size]; omega) (by simpa using p1) _ w hcell (.inr ⟨t, u, rfl⟩)).mono ?_
  rintro e w' ⟨N, rfl, _, _, hb⟩
  obtain ⟨q1, q2, q3⟩ := below_old hb
  have p2' : Lib.intSat 64 (ByteArray.mk l.toArray).data.toList = 9223372036854775807 := by simpa using p2
  rw [p2']
  refine ⟨_, fun _ => False, rfl, .tup _ [.int .i64 9223372036854775807, .iface 63 (.pointer (some ⟨N, 0, none⟩))] rfl ?_, fun r h => h.elim, fun r h => h.elim, q1, q2, q3⟩
  intro j c u hc hu
  match j with
  | 0 => simp at hc hu; subst hc; subst hu; exact .int _ _
  | 1 => simp at hc hu; subst hc; subst hu; exact .ifc _ _ _ (.dead _)
  | j + 2 => simp at hc

theorem indexByte_ge (l : List UInt8) (c : UInt8) : (0 ≤ Lib.indexByte l c ↔ c ∈ l) ∧ -1 ≤ Lib.indexByte l c := by
  induction l with
  | nil => simp [Lib.indexByte]
  | cons b l ih =>
    obtain ⟨ih1, ih2⟩ := ih
    simp only [Lib.indexByte]
    by_cases h : b = c
    · subst h; simp
    · have h' : (b == c) = false := by simpa using h
      rw [h']
      simp only [Bool.false_eq_true, if_false, List.mem_cons]
      by_cases h3 : Lib.indexByte l c = -1
      · rw [if_pos (by simpa using h3)]
        have : ¬ c ∈ l := fun hm => by have := ih1.2 hm; omega
        simp [this, Ne.symm h]
      · rw [if_neg (by simpa using h3)]
        have : c ∈ l := ih1.1 (by omega)
        simp [this]; omega

theorem indexByte_spec (l : List UInt8) (hne : l ≠ []) (c : UInt8) : ∃ i : Int, (0 ≤ i ↔ c ∈ l) ∧ PureC Tryd.prog false 37 [bv l, .int .u8 c.toNat] (.int .i64 i) := by
  refine ⟨Lib.indexByte l c, (indexByte_ge l c).1, enters37, fun Im w vs him hgl hv => ?_⟩
  obtain ⟨v0, vs, rfl, h0, hv⟩ := VsOne hv
  obtain ⟨v1, vs, rfl, h1, hv⟩ := VsOne hv
  obtain rfl := VsNone hv
  cases h1
  have h0' : V Im w Gens.none (.vec (l.map byv)) v0 := h0
  clear h0
  generalize hes : l.map byv = es at h0'
  cases h0' with
  | vec0 a cap => exact absurd (List.map_eq_nil_iff.1 hes) hne
  | vec es ad cap sz us hc hs him' hz hcell hvv =>
    subst hes
    have hsz : sz = 1 := by
      cases l with
      | nil => exact absurd rfl hne
      | cons b l => have := hz (byv b) (by simp); simpa using this.symm
    subst hsz
    obtain ⟨bl, off, sp⟩ := ad
    simp only at hs
    subst hs
    refine (Tryd.bytes_IndexByte bl off (l.map byv).length cap (l.map fun b => (b.toNat : Int)) c.toNat w (by simp) (fun i hi => ?_)).mono ?_
    · have hi0 : i < l.length := by simpa using hi
      have hi' : (l.map byv)[i]? = some (byv l[i]) := by simp [hi0]
      obtain ⟨_, h2⟩ := hcell i 0 _ _ hi' rfl
      have h3 := hvv i 0 _ _ hi' rfl
      rw [Nat.mul_one, Nat.add_zero] at h2
      rw [h2]
      generalize us i 0 = u at h3
      cases h3
      simp [hi0]
    · rintro e w' ⟨rfl, rfl⟩
      refine ⟨_, fun _ => False, rfl, ?_, fun r h => h.elim, fun r h => h.elim, fun r _ => rfl, Nat.le_refl _, .refl _⟩
      have e1 : Lib.bytesOf (l.map fun b => (b.toNat : Int)) = l := by
        simp [Lib.bytesOf, Function.comp_def]
      have e2 : ((c.toNat : Int).toNat).toUInt8 = c := by simp
      rw [e1, e2]
      exact .int _ _
end Go.Proofs.YtoplaknmmglagaaDoor.T
