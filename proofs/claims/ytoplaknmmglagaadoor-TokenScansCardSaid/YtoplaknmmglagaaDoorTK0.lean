/-
law11: each function's code in the smaller form, node by node.
-/
import Derived.Test.YtoplaknmmglagaaDoorTF
import Derived.Test.YtoplaknmmglagaaDoorAX20
set_option linter.unusedVariables false
namespace Go.Proofs.YtoplaknmmglagaaDoor.T
open Go Go.AX

@[simp] def R3_1 : List Op1 := [⟨some 2, .assign (.const (.bool false)), none⟩]
def K3_1 : Cd := .reg (some ([0])) R3_1
@[simp] theorem W3_1 {Q : Ex → St → Prop} {σ : St} : WPk Tryd.prog K3_1 Q σ = WPl Tryd.prog Q R3_1 (keepQ (some ([0])) Q) σ := rfl
@[simp] def R3_4 : List Op1 := [⟨some 11, .move (.tmp 0), none⟩, ⟨some 12, .call { callee := .builtin .len, args := #[.tmp 11], argTypes := #[22] }, none⟩, ⟨some 13, .binOp .gtr 3 (.tmp 12) (.const (.int .i64 65536)) 3, none⟩]
def K3_4 : Cd := .reg (some ([0, 13])) R3_4
@[simp] theorem W3_4 {Q : Ex → St → Prop} {σ : St} : WPk Tryd.prog K3_4 Q σ = WPl Tryd.prog Q R3_4 (keepQ (some ([0, 13])) Q) σ := rfl
@[simp] def R3_7 : List Op1 := [⟨some 14, .call { callee := .value (.func 7), args := #[], argTypes := #[] }, none⟩, ⟨some 2, .assign (.tmp 14), none⟩]
def K3_7 : Cd := .reg (some ([2])) R3_7
@[simp] theorem W3_7 {Q : Ex → St → Prop} {σ : St} : WPk Tryd.prog K3_7 Q σ = WPl Tryd.prog Q R3_7 (keepQ (some ([2])) Q) σ := rfl
def K3_8 : Cd := .ret
@[simp] theorem W3_8 {Q : Ex → St → Prop} {σ : St} : WPk Tryd.prog K3_8 Q σ = Q .ret σ := rfl
def K3_6 : Cd := .seq K3_7 K3_8
@[simp] theorem W3_6 {Q : Ex → St → Prop} {σ : St} : WPk Tryd.prog K3_6 Q σ = WPk Tryd.prog K3_7 (seqK (WPk Tryd.prog K3_8) Q) σ := WPk_seq
def K3_9 : Cd := .skip
@[simp] theorem W3_9 {Q : Ex → St → Prop} {σ : St} : WPk Tryd.prog K3_9 Q σ = Q .normal σ := rfl
def K3_5 : Cd := .cond (.tmp 13) K3_6 K3_9
@[simp] theorem W3_5 {Q : Ex → St → Prop} {σ : St} : WPk Tryd.prog K3_5 Q σ = WPk Tryd.prog (.cond (.tmp 13) K3_6 K3_9) Q σ := rfl
def K3_3 : Cd := .seq K3_4 K3_5
@[simp] theorem W3_3 {Q : Ex → St → Prop} {σ : St} : WPk Tryd.prog K3_3 Q σ = WPk Tryd.prog K3_4 (seqK (WPk Tryd.prog K3_5) Q) σ := WPk_seq
@[simp] def R3_11 : List Op1 := [⟨some 15, .move (.tmp 0), none⟩, ⟨some 16, .call { callee := .value (.func 8), args := #[.tmp 15], argTypes := #[22] }, none⟩, ⟨some 3, .assign (.tmp 16), none⟩]
def K3_11 : Cd := .reg (some ([0, 3])) R3_11
@[simp] theorem W3_11 {Q : Ex → St → Prop} {σ : St} : WPk Tryd.prog K3_11 Q σ = WPl Tryd.prog Q R3_11 (keepQ (some ([0, 3])) Q) σ := rfl
@[simp] def R3_13 : List Op1 := [⟨some 18, .move (.tmp 3), none⟩, ⟨some 19, .call { callee := .value (.func 9), args := #[.tmp 18], argTypes := #[22] }, none⟩, ⟨some 17, .move (.tmp 19), none⟩, ⟨some 20, .extract (.tmp 17) 0, none⟩, ⟨some 21, .extract (.tmp 17) 1, none⟩, ⟨some 22, .extract (.tmp 17) 2, none⟩, ⟨some 4, .assign (.tmp 20), none⟩, ⟨some 5, .assign (.tmp 21), none⟩, ⟨some 6, .assign (.tmp 22), none⟩]
def K3_13 : Cd := .reg (some ([0, 3, 4, 5, 6])) R3_13
@[simp] theorem W3_13 {Q : Ex → St → Prop} {σ : St} : WPk Tryd.prog K3_13 Q σ = WPl Tryd.prog Q R3_13 (keepQ (some ([0, 3, 4, 5, 6])) Q) σ := rfl
@[simp] def R3_15 : List Op1 := [⟨some 24, .move (.tmp 0), none⟩, ⟨some 25, .call { callee := .value (.func 10), args := #[.tmp 24], argTypes := #[22] }, none⟩, ⟨some 23, .move (.tmp 25), none⟩, ⟨some 26, .extract (.tmp 23) 0, none⟩, ⟨some 27, .extract (.tmp 23) 1, none⟩, ⟨some 28, .extract (.tmp 23) 2, none⟩, ⟨some 7, .assign (.tmp 26), none⟩, ⟨some 8, .assign (.tmp 27), none⟩, ⟨some 9, .assign (.tmp 28), none⟩]
def K3_15 : Cd := .reg (some ([0, 3, 4, 5, 6, 7, 8, 9])) R3_15
@[simp] theorem W3_15 {Q : Ex → St → Prop} {σ : St} : WPk Tryd.prog K3_15 Q σ = WPl Tryd.prog Q R3_15 (keepQ (some ([0, 3, 4, 5, 6, 7, 8, 9])) Q) σ := rfl
@[simp] def R3_18 : List Op1 := [⟨some 29, .move (.tmp 5), none⟩, ⟨some 30, .move (.tmp 8), none⟩, ⟨some 31, .binOp .neq 3 (.tmp 29) (.tmp 30) 3, none⟩, ⟨some 32, .move (.tmp 31), none⟩, ⟨some 33, .move (.tmp 6), some (32, false)⟩, ⟨some 34, .move (.tmp 9), some (32, false)⟩, ⟨some 35, .binOp .neq 26 (.tmp 33) (.tmp 34) 26, some (32, false)⟩, ⟨some 36, .pick (.tmp 32) (.const (.bool true)) (.tmp 35), none⟩, ⟨some 37, .move (.tmp 36), none⟩, ⟨some 38, .move (.tmp 3), some (37, false)⟩, ⟨some 39, .move (.tmp 0), some (37, false)⟩, ⟨some 40, .call { callee := .value (.func 11), args := #[.tmp 38, .tmp 39], argTypes := #[22, 22] }, some (37, false)⟩, ⟨some 41, .unOp .not 4 (.tmp 40), some (37, false)⟩, ⟨some 42, .pick (.tmp 37) (.const (.bool true)) (.tmp 41), none⟩]
def K3_18 : Cd := .reg (some ([3, 4, 7, 42])) R3_18
@[simp] theorem W3_18 {Q : Ex → St → Prop} {σ : St} : WPk Tryd.prog K3_18 Q σ = WPl Tryd.prog Q R3_18 (keepQ (some ([3, 4, 7, 42])) Q) σ := rfl
@[simp] def R3_21 : List Op1 := [⟨some 2, .assign (.const (.bool false)), none⟩]
def K3_21 : Cd := .reg (some ([2])) R3_21
@[simp] theorem W3_21 {Q : Ex → St → Prop} {σ : St} : WPk Tryd.prog K3_21 Q σ = WPl Tryd.prog Q R3_21 (keepQ (some ([2])) Q) σ := rfl
def K3_22 : Cd := .ret
@[simp] theorem W3_22 {Q : Ex → St → Prop} {σ : St} : WPk Tryd.prog K3_22 Q σ = Q .ret σ := rfl
def K3_20 : Cd := .seq K3_21 K3_22
@[simp] theorem W3_20 {Q : Ex → St → Prop} {σ : St} : WPk Tryd.prog K3_20 Q σ = WPk Tryd.prog K3_21 (seqK (WPk Tryd.prog K3_22) Q) σ := WPk_seq
def K3_23 : Cd := .skip
@[simp] theorem W3_23 {Q : Ex → St → Prop} {σ : St} : WPk Tryd.prog K3_23 Q σ = Q .normal σ := rfl
def K3_19 : Cd := .cond (.tmp 42) K3_20 K3_23
@[simp] theorem W3_19 {Q : Ex → St → Prop} {σ : St} : WPk Tryd.prog K3_19 Q σ = WPk Tryd.prog (.cond (.tmp 42) K3_20 K3_23) Q σ := rfl
def K3_17 : Cd := .seq K3_18 K3_19
@[simp] theorem W3_17 {Q : Ex → St → Prop} {σ : St} : WPk Tryd.prog K3_17 Q σ = WPk Tryd.prog K3_18 (seqK (WPk Tryd.prog K3_19) Q) σ := WPk_seq
@[simp] def R3_26 : List Op1 := [⟨some 10, .assign (.const (.int .i64 0)), none⟩]
def K3_26 : Cd := .reg (some ([3, 4, 7, 10])) R3_26
@[simp] theorem W3_26 {Q : Ex → St → Prop} {σ : St} : WPk Tryd.prog K3_26 Q σ = WPl Tryd.prog Q R3_26 (keepQ (some ([3, 4, 7, 10])) Q) σ := rfl
@[simp] def R3_31 : List Op1 := [⟨some 43, .move (.tmp 10), none⟩, ⟨some 44, .move (.tmp 3), none⟩, ⟨some 45, .call { callee := .builtin .len, args := #[.tmp 44], argTypes := #[22] }, none⟩, ⟨some 46, .binOp .lss 3 (.tmp 43) (.tmp 45) 3, none⟩]
def K3_31 : Cd := .reg (some ([3, 4, 7, 10, 46])) R3_31
@[simp] theorem W3_31 {Q : Ex → St → Prop} {σ : St} : WPk Tryd.prog K3_31 Q σ = WPl Tryd.prog Q R3_31 (keepQ (some ([3, 4, 7, 10, 46])) Q) σ := rfl
def K3_33 : Cd := .skip
@[simp] theorem W3_33 {Q : Ex → St → Prop} {σ : St} : WPk Tryd.prog K3_33 Q σ = Q .normal σ := rfl
def K3_34 : Cd := .exit 0
@[simp] theorem W3_34 {Q : Ex → St → Prop} {σ : St} : WPk Tryd.prog K3_34 Q σ = Q (.exit 0) σ := rfl
def K3_32 : Cd := .cond (.tmp 46) K3_33 K3_34
@[simp] theorem W3_32 {Q : Ex → St → Prop} {σ : St} : WPk Tryd.prog K3_32 Q σ = WPk Tryd.prog (.cond (.tmp 46) K3_33 K3_34) Q σ := rfl
def K3_30 : Cd := .seq K3_31 K3_32
@[simp] theorem W3_30 {Q : Ex → St → Prop} {σ : St} : WPk Tryd.prog K3_30 Q σ = WPk Tryd.prog K3_31 (seqK (WPk Tryd.prog K3_32) Q) σ := WPk_seq
@[simp] def R3_37 : List Op1 := [⟨some 49, .move (.tmp 3), none⟩, ⟨some 50, .move (.tmp 10), none⟩, ⟨some 51, .indexAddr 22 (.tmp 49) (.tmp 50), none⟩, ⟨none, .store 5 (.tmp 51) (.const (.int .u8 122)), none⟩]
def K3_37 : Cd := .reg (some ([3, 4, 7, 10])) R3_37
@[simp] theorem W3_37 {Q : Ex → St → Prop} {σ : St} : WPk Tryd.prog K3_37 Q σ = WPl Tryd.prog Q R3_37 (keepQ (some ([3, 4, 7, 10])) Q) σ := rfl
def K3_36 : Cd := .block 1 K3_37
@[simp] theorem W3_36 {Q : Ex → St → Prop} {σ : St} : WPk Tryd.prog K3_36 Q σ = WPk Tryd.prog K3_37 (blkQ 1 Q) σ := rfl
@[simp] def R3_38 : List Op1 := [⟨some 47, .move (.tmp 10), none⟩, ⟨some 48, .binOp .add 3 (.tmp 47) (.const (.int .i64 1)) 3, none⟩, ⟨some 10, .assign (.tmp 48), none⟩]
def K3_38 : Cd := .reg (some ([3, 4, 7, 10])) R3_38
@[simp] theorem W3_38 {Q : Ex → St → Prop} {σ : St} : WPk Tryd.prog K3_38 Q σ = WPl Tryd.prog Q R3_38 (keepQ (some ([3, 4, 7, 10])) Q) σ := rfl
def K3_35 : Cd := .seq K3_36 K3_38
@[simp] theorem W3_35 {Q : Ex → St → Prop} {σ : St} : WPk Tryd.prog K3_35 Q σ = WPk Tryd.prog K3_36 (seqK (WPk Tryd.prog K3_38) Q) σ := WPk_seq
def K3_29 : Cd := .seq K3_30 K3_35
@[simp] theorem W3_29 {Q : Ex → St → Prop} {σ : St} : WPk Tryd.prog K3_29 Q σ = WPk Tryd.prog K3_30 (seqK (WPk Tryd.prog K3_35) Q) σ := WPk_seq
def K3_28 : Cd := .loop K3_29
@[simp] theorem W3_28 {Q : Ex → St → Prop} {σ : St} : WPk Tryd.prog K3_28 Q σ = WPk Tryd.prog (.loop K3_29) Q σ := rfl
def K3_27 : Cd := .block 0 K3_28
@[simp] theorem W3_27 {Q : Ex → St → Prop} {σ : St} : WPk Tryd.prog K3_27 Q σ = WPk Tryd.prog K3_28 (blkQ 0 Q) σ := rfl
def K3_25 : Cd := .seq K3_26 K3_27
@[simp] theorem W3_25 {Q : Ex → St → Prop} {σ : St} : WPk Tryd.prog K3_25 Q σ = WPk Tryd.prog K3_26 (seqK (WPk Tryd.prog K3_27) Q) σ := WPk_seq
@[simp] def R3_40 : List Op1 := [⟨some 52, .move (.tmp 4), none⟩, ⟨some 53, .move (.tmp 7), none⟩, ⟨some 54, .call { callee := .value (.func 12), args := #[.tmp 52, .tmp 53], argTypes := #[25, 25] }, none⟩, ⟨some 55, .move (.tmp 54), none⟩, ⟨some 56, .call { callee := .value (.func 7), args := #[], argTypes := #[] }, some (55, true)⟩, ⟨some 57, .pick (.tmp 55) (.tmp 56) (.const (.bool false)), none⟩, ⟨some 2, .assign (.tmp 57), none⟩]
def K3_40 : Cd := .reg (some ([2])) R3_40
@[simp] theorem W3_40 {Q : Ex → St → Prop} {σ : St} : WPk Tryd.prog K3_40 Q σ = WPl Tryd.prog Q R3_40 (keepQ (some ([2])) Q) σ := rfl
def K3_41 : Cd := .ret
@[simp] theorem W3_41 {Q : Ex → St → Prop} {σ : St} : WPk Tryd.prog K3_41 Q σ = Q .ret σ := rfl
def K3_39 : Cd := .seq K3_40 K3_41
@[simp] theorem W3_39 {Q : Ex → St → Prop} {σ : St} : WPk Tryd.prog K3_39 Q σ = WPk Tryd.prog K3_40 (seqK (WPk Tryd.prog K3_41) Q) σ := WPk_seq
def K3_24 : Cd := .seq K3_25 K3_39
@[simp] theorem W3_24 {Q : Ex → St → Prop} {σ : St} : WPk Tryd.prog K3_24 Q σ = WPk Tryd.prog K3_25 (seqK (WPk Tryd.prog K3_39) Q) σ := WPk_seq
def K3_16 : Cd := .seq K3_17 K3_24
@[simp] theorem W3_16 {Q : Ex → St → Prop} {σ : St} : WPk Tryd.prog K3_16 Q σ = WPk Tryd.prog K3_17 (seqK (WPk Tryd.prog K3_24) Q) σ := WPk_seq
def K3_14 : Cd := .seq K3_15 K3_16
@[simp] theorem W3_14 {Q : Ex → St → Prop} {σ : St} : WPk Tryd.prog K3_14 Q σ = WPk Tryd.prog K3_15 (seqK (WPk Tryd.prog K3_16) Q) σ := WPk_seq
def K3_12 : Cd := .seq K3_13 K3_14
@[simp] theorem W3_12 {Q : Ex → St → Prop} {σ : St} : WPk Tryd.prog K3_12 Q σ = WPk Tryd.prog K3_13 (seqK (WPk Tryd.prog K3_14) Q) σ := WPk_seq
def K3_10 : Cd := .seq K3_11 K3_12
@[simp] theorem W3_10 {Q : Ex → St → Prop} {σ : St} : WPk Tryd.prog K3_10 Q σ = WPk Tryd.prog K3_11 (seqK (WPk Tryd.prog K3_12) Q) σ := WPk_seq
def K3_2 : Cd := .seq K3_3 K3_10
@[simp] theorem W3_2 {Q : Ex → St → Prop} {σ : St} : WPk Tryd.prog K3_2 Q σ = WPk Tryd.prog K3_3 (seqK (WPk Tryd.prog K3_10) Q) σ := WPk_seq
def K3_0 : Cd := .seq K3_1 K3_2
@[simp] theorem W3_0 {Q : Ex → St → Prop} {σ : St} : WPk Tryd.prog K3_0 Q σ = WPk Tryd.prog K3_1 (seqK (WPk Tryd.prog K3_2) Q) σ := WPk_seq
theorem k3 : FnK Tryd.prog 3 (58) ([.tmp 2]) K3_0 := ⟨_, _, _, ok3, by kernel_rfl, by kernel_rfl, by kernel_rfl⟩
-- ROOT 3 0 42
@[simp] def R4_1 : List Op1 := [⟨some 4, .assign (.const (.bool false)), none⟩]
def K4_1 : Cd := .reg (some ([0, 1])) R4_1
@[simp] theorem W4_1 {Q : Ex → St → Prop} {σ : St} : WPk Tryd.prog K4_1 Q σ = WPl Tryd.prog Q R4_1 (keepQ (some ([0, 1])) Q) σ := rfl
@[simp] def R4_4 : List Op1 := [⟨some 19, .move (.tmp 0), none⟩, ⟨some 20, .call { callee := .builtin .len, args := #[.tmp 19], argTypes := #[22] }, none⟩, ⟨some 21, .binOp .gtr 3 (.tmp 20) (.const (.int .i64 4096)) 3, none⟩]
def K4_4 : Cd := .reg (some ([0, 1, 21])) R4_4
@[simp] theorem W4_4 {Q : Ex → St → Prop} {σ : St} : WPk Tryd.prog K4_4 Q σ = WPl Tryd.prog Q R4_4 (keepQ (some ([0, 1, 21])) Q) σ := rfl
@[simp] def R4_7 : List Op1 := [⟨some 22, .call { callee := .value (.func 7), args := #[], argTypes := #[] }, none⟩, ⟨some 4, .assign (.tmp 22), none⟩]
def K4_7 : Cd := .reg (some ([4])) R4_7
@[simp] theorem W4_7 {Q : Ex → St → Prop} {σ : St} : WPk Tryd.prog K4_7 Q σ = WPl Tryd.prog Q R4_7 (keepQ (some ([4])) Q) σ := rfl
def K4_8 : Cd := .ret
@[simp] theorem W4_8 {Q : Ex → St → Prop} {σ : St} : WPk Tryd.prog K4_8 Q σ = Q .ret σ := rfl
def K4_6 : Cd := .seq K4_7 K4_8
@[simp] theorem W4_6 {Q : Ex → St → Prop} {σ : St} : WPk Tryd.prog K4_6 Q σ = WPk Tryd.prog K4_7 (seqK (WPk Tryd.prog K4_8) Q) σ := WPk_seq
def K4_9 : Cd := .skip
@[simp] theorem W4_9 {Q : Ex → St → Prop} {σ : St} : WPk Tryd.prog K4_9 Q σ = Q .normal σ := rfl
def K4_5 : Cd := .cond (.tmp 21) K4_6 K4_9
@[simp] theorem W4_5 {Q : Ex → St → Prop} {σ : St} : WPk Tryd.prog K4_5 Q σ = WPk Tryd.prog (.cond (.tmp 21) K4_6 K4_9) Q σ := rfl
def K4_3 : Cd := .seq K4_4 K4_5
@[simp] theorem W4_3 {Q : Ex → St → Prop} {σ : St} : WPk Tryd.prog K4_3 Q σ = WPk Tryd.prog K4_4 (seqK (WPk Tryd.prog K4_5) Q) σ := WPk_seq
@[simp] def R4_11 : List Op1 := [⟨some 24, .move (.tmp 0), none⟩, ⟨some 25, .call { callee := .value (.func 9), args := #[.tmp 24], argTypes := #[22] }, none⟩, ⟨some 23, .move (.tmp 25), none⟩, ⟨some 26, .extract (.tmp 23) 0, none⟩, ⟨some 27, .extract (.tmp 23) 1, none⟩, ⟨some 28, .extract (.tmp 23) 2, none⟩, ⟨some 5, .assign (.tmp 26), none⟩, ⟨some 6, .assign (.tmp 27), none⟩, ⟨some 7, .assign (.tmp 28), none⟩]
def K4_11 : Cd := .reg (some ([1, 5, 7])) R4_11
@[simp] theorem W4_11 {Q : Ex → St → Prop} {σ : St} : WPk Tryd.prog K4_11 Q σ = WPl Tryd.prog Q R4_11 (keepQ (some ([1, 5, 7])) Q) σ := rfl
@[simp] def R4_14 : List Op1 := [⟨some 29, .move (.tmp 7), none⟩, ⟨some 30, .binOp .neq 26 (.tmp 29) (.const (.int .i64 0)) 26, none⟩]
def K4_14 : Cd := .reg (some ([1, 5, 30])) R4_14
@[simp] theorem W4_14 {Q : Ex → St → Prop} {σ : St} : WPk Tryd.prog K4_14 Q σ = WPl Tryd.prog Q R4_14 (keepQ (some ([1, 5, 30])) Q) σ := rfl
@[simp] def R4_17 : List Op1 := [⟨some 31, .move (.tmp 5), none⟩, ⟨some 32, .call { callee := .builtin .len, args := #[.tmp 31], argTypes := #[25] }, none⟩, ⟨some 33, .binOp .eql 3 (.tmp 32) (.const (.int .i64 0)) 3, none⟩, ⟨some 34, .move (.tmp 33), none⟩, ⟨some 35, .call { callee := .value (.func 7), args := #[], argTypes := #[] }, some (34, true)⟩, ⟨some 36, .pick (.tmp 34) (.tmp 35) (.const (.bool false)), none⟩, ⟨some 4, .assign (.tmp 36), none⟩]
def K4_17 : Cd := .reg (some ([4])) R4_17
@[simp] theorem W4_17 {Q : Ex → St → Prop} {σ : St} : WPk Tryd.prog K4_17 Q σ = WPl Tryd.prog Q R4_17 (keepQ (some ([4])) Q) σ := rfl
def K4_18 : Cd := .ret
@[simp] theorem W4_18 {Q : Ex → St → Prop} {σ : St} : WPk Tryd.prog K4_18 Q σ = Q .ret σ := rfl
def K4_16 : Cd := .seq K4_17 K4_18
@[simp] theorem W4_16 {Q : Ex → St → Prop} {σ : St} : WPk Tryd.prog K4_16 Q σ = WPk Tryd.prog K4_17 (seqK (WPk Tryd.prog K4_18) Q) σ := WPk_seq
def K4_19 : Cd := .skip
@[simp] theorem W4_19 {Q : Ex → St → Prop} {σ : St} : WPk Tryd.prog K4_19 Q σ = Q .normal σ := rfl
def K4_15 : Cd := .cond (.tmp 30) K4_16 K4_19
@[simp] theorem W4_15 {Q : Ex → St → Prop} {σ : St} : WPk Tryd.prog K4_15 Q σ = WPk Tryd.prog (.cond (.tmp 30) K4_16 K4_19) Q σ := rfl
def K4_13 : Cd := .seq K4_14 K4_15
@[simp] theorem W4_13 {Q : Ex → St → Prop} {σ : St} : WPk Tryd.prog K4_13 Q σ = WPk Tryd.prog K4_14 (seqK (WPk Tryd.prog K4_15) Q) σ := WPk_seq
@[simp] def R4_21 : List Op1 := [⟨some 37, .buildSlice 32 5 #[(0, .const (.string { data := #[32] })), (1, .const (.string { data := #[10] })), (2, .const (.string { data := #[9, 32, 13] })), (3, .const (.string { data := #[32, 47, 47, 32, 120, 32, 61, 32, 48, 55, 32, 38, 32, 10] })), (4, .const (.string { data := #[10, 10] }))], none⟩, ⟨some 8, .assign (.tmp 37), none⟩]
def K4_21 : Cd := .reg (some ([1, 5, 8])) R4_21
@[simp] theorem W4_21 {Q : Ex → St → Prop} {σ : St} : WPk Tryd.prog K4_21 Q σ = WPl Tryd.prog Q R4_21 (keepQ (some ([1, 5, 8])) Q) σ := rfl
@[simp] def R4_23 : List Op1 := [⟨some 9, .assign (.const (.slice none 0 0)), none⟩]
def K4_23 : Cd := .reg (some ([1, 5, 8, 9])) R4_23
@[simp] theorem W4_23 {Q : Ex → St → Prop} {σ : St} : WPk Tryd.prog K4_23 Q σ = WPl Tryd.prog Q R4_23 (keepQ (some ([1, 5, 8, 9])) Q) σ := rfl
@[simp] def R4_25 : List Op1 := [⟨some 10, .assign (.const (.slice none 0 0)), none⟩]
def K4_25 : Cd := .reg (some ([1, 5, 8, 9, 10])) R4_25
@[simp] theorem W4_25 {Q : Ex → St → Prop} {σ : St} : WPk Tryd.prog K4_25 Q σ = WPl Tryd.prog Q R4_25 (keepQ (some ([1, 5, 8, 9, 10])) Q) σ := rfl
@[simp] def R4_27 : List Op1 := [⟨some 11, .assign (.const (.int .i64 1)), none⟩]
def K4_27 : Cd := .reg (some ([1, 5, 8, 9, 10, 11])) R4_27
@[simp] theorem W4_27 {Q : Ex → St → Prop} {σ : St} : WPk Tryd.prog K4_27 Q σ = WPl Tryd.prog Q R4_27 (keepQ (some ([1, 5, 8, 9, 10, 11])) Q) σ := rfl
@[simp] def R4_30 : List Op1 := [⟨some 12, .assign (.const (.int .i64 0)), none⟩]
def K4_30 : Cd := .reg (some ([1, 5, 8, 9, 10, 11, 12])) R4_30
@[simp] theorem W4_30 {Q : Ex → St → Prop} {σ : St} : WPk Tryd.prog K4_30 Q σ = WPl Tryd.prog Q R4_30 (keepQ (some ([1, 5, 8, 9, 10, 11, 12])) Q) σ := rfl
@[simp] def R4_35 : List Op1 := [⟨some 38, .move (.tmp 12), none⟩, ⟨some 39, .move (.tmp 5), none⟩, ⟨some 40, .call { callee := .builtin .len, args := #[.tmp 39], argTypes := #[25] }, none⟩, ⟨some 41, .binOp .lss 3 (.tmp 38) (.tmp 40) 3, none⟩]
def K4_35 : Cd := .reg (some ([1, 5, 8, 9, 10, 11, 12, 41])) R4_35
@[simp] theorem W4_35 {Q : Ex → St → Prop} {σ : St} : WPk Tryd.prog K4_35 Q σ = WPl Tryd.prog Q R4_35 (keepQ (some ([1, 5, 8, 9, 10, 11, 12, 41])) Q) σ := rfl
def K4_37 : Cd := .skip
@[simp] theorem W4_37 {Q : Ex → St → Prop} {σ : St} : WPk Tryd.prog K4_37 Q σ = Q .normal σ := rfl
def K4_38 : Cd := .exit 0
@[simp] theorem W4_38 {Q : Ex → St → Prop} {σ : St} : WPk Tryd.prog K4_38 Q σ = Q (.exit 0) σ := rfl
def K4_36 : Cd := .cond (.tmp 41) K4_37 K4_38
@[simp] theorem W4_36 {Q : Ex → St → Prop} {σ : St} : WPk Tryd.prog K4_36 Q σ = WPk Tryd.prog (.cond (.tmp 41) K4_37 K4_38) Q σ := rfl
def K4_34 : Cd := .seq K4_35 K4_36
@[simp] theorem W4_34 {Q : Ex → St → Prop} {σ : St} : WPk Tryd.prog K4_34 Q σ = WPk Tryd.prog K4_35 (seqK (WPk Tryd.prog K4_36) Q) σ := WPk_seq
@[simp] def R4_42 : List Op1 := [⟨some 44, .move (.tmp 8), none⟩, ⟨some 45, .indexAddr 32 (.tmp 44) (.const (.int .i64 0)), none⟩, ⟨some 46, .load 9 (.tmp 45), none⟩, ⟨some 13, .assign (.tmp 46), none⟩]
def K4_42 : Cd := .reg (some ([1, 5, 8, 9, 10, 11, 12, 13])) R4_42
@[simp] theorem W4_42 {Q : Ex → St → Prop} {σ : St} : WPk Tryd.prog K4_42 Q σ = WPl Tryd.prog Q R4_42 (keepQ (some ([1, 5, 8, 9, 10, 11, 12, 13])) Q) σ := rfl
@[simp] def R4_45 : List Op1 := [⟨some 47, .move (.tmp 12), none⟩, ⟨some 48, .move (.tmp 1), none⟩, ⟨some 49, .call { callee := .builtin .len, args := #[.tmp 48], argTypes := #[22] }, none⟩, ⟨some 50, .binOp .lss 3 (.tmp 47) (.tmp 49) 3, none⟩]
def K4_45 : Cd := .reg (some ([1, 5, 8, 9, 10, 11, 12, 13, 50])) R4_45
@[simp] theorem W4_45 {Q : Ex → St → Prop} {σ : St} : WPk Tryd.prog K4_45 Q σ = WPl Tryd.prog Q R4_45 (keepQ (some ([1, 5, 8, 9, 10, 11, 12, 13, 50])) Q) σ := rfl
@[simp] def R4_47 : List Op1 := [⟨some 51, .move (.tmp 8), none⟩, ⟨some 52, .move (.tmp 1), none⟩, ⟨some 53, .move (.tmp 12), none⟩, ⟨some 54, .indexAddr 22 (.tmp 52) (.tmp 53), none⟩, ⟨some 55, .load 5 (.tmp 54), none⟩, ⟨some 56, .convert 5 3 (.tmp 55), none⟩, ⟨some 57, .move (.tmp 8), none⟩, ⟨some 58, .call { callee := .builtin .len, args := #[.tmp 57], argTypes := #[32] }, none⟩, ⟨some 59, .binOp .rem 3 (.tmp 56) (.tmp 58) 3, none⟩, ⟨some 60, .indexAddr 32 (.tmp 51) (.tmp 59), none⟩, ⟨some 61, .load 9 (.tmp 60), none⟩, ⟨some 13, .assign (.tmp 61), none⟩]
def K4_47 : Cd := .reg (some ([1, 5, 8, 9, 10, 11, 12, 13])) R4_47
@[simp] theorem W4_47 {Q : Ex → St → Prop} {σ : St} : WPk Tryd.prog K4_47 Q σ = WPl Tryd.prog Q R4_47 (keepQ (some ([1, 5, 8, 9, 10, 11, 12, 13])) Q) σ := rfl
def K4_48 : Cd := .skip
@[simp] theorem W4_48 {Q : Ex → St → Prop} {σ : St} : WPk Tryd.prog K4_48 Q σ = Q .normal σ := rfl
def K4_46 : Cd := .cond (.tmp 50) K4_47 K4_48
@[simp] theorem W4_46 {Q : Ex → St → Prop} {σ : St} : WPk Tryd.prog K4_46 Q σ = WPk Tryd.prog (.cond (.tmp 50) K4_47 K4_48) Q σ := rfl
def K4_44 : Cd := .seq K4_45 K4_46
@[simp] theorem W4_44 {Q : Ex → St → Prop} {σ : St} : WPk Tryd.prog K4_44 Q σ = WPk Tryd.prog K4_45 (seqK (WPk Tryd.prog K4_46) Q) σ := WPk_seq
@[simp] def R4_50 : List Op1 := [⟨some 62, .move (.tmp 9), none⟩, ⟨some 63, .move (.tmp 13), none⟩, ⟨some 64, .call { callee := .builtin .append, args := #[.tmp 62, .tmp 63], argTypes := #[22, 9] }, none⟩, ⟨some 9, .assign (.tmp 64), none⟩]
def K4_50 : Cd := .reg (some ([1, 5, 8, 9, 10, 11, 12, 13])) R4_50
@[simp] theorem W4_50 {Q : Ex → St → Prop} {σ : St} : WPk Tryd.prog K4_50 Q σ = WPl Tryd.prog Q R4_50 (keepQ (some ([1, 5, 8, 9, 10, 11, 12, 13])) Q) σ := rfl
@[simp] def R4_53 : List Op1 := [⟨some 14, .assign (.const (.int .i64 0)), none⟩]
def K4_53 : Cd := .reg (some ([1, 5, 8, 9, 10, 11, 12, 13, 14])) R4_53
@[simp] theorem W4_53 {Q : Ex → St → Prop} {σ : St} : WPk Tryd.prog K4_53 Q σ = WPl Tryd.prog Q R4_53 (keepQ (some ([1, 5, 8, 9, 10, 11, 12, 13, 14])) Q) σ := rfl
@[simp] def R4_58 : List Op1 := [⟨some 65, .move (.tmp 14), none⟩, ⟨some 66, .move (.tmp 13), none⟩, ⟨some 67, .call { callee := .builtin .len, args := #[.tmp 66], argTypes := #[9] }, none⟩, ⟨some 68, .binOp .lss 3 (.tmp 65) (.tmp 67) 3, none⟩]
def K4_58 : Cd := .reg (some ([1, 5, 8, 9, 10, 11, 12, 13, 14, 68])) R4_58
@[simp] theorem W4_58 {Q : Ex → St → Prop} {σ : St} : WPk Tryd.prog K4_58 Q σ = WPl Tryd.prog Q R4_58 (keepQ (some ([1, 5, 8, 9, 10, 11, 12, 13, 14, 68])) Q) σ := rfl
def K4_60 : Cd := .skip
@[simp] theorem W4_60 {Q : Ex → St → Prop} {σ : St} : WPk Tryd.prog K4_60 Q σ = Q .normal σ := rfl
def K4_61 : Cd := .exit 2
@[simp] theorem W4_61 {Q : Ex → St → Prop} {σ : St} : WPk Tryd.prog K4_61 Q σ = Q (.exit 2) σ := rfl
def K4_59 : Cd := .cond (.tmp 68) K4_60 K4_61
@[simp] theorem W4_59 {Q : Ex → St → Prop} {σ : St} : WPk Tryd.prog K4_59 Q σ = WPk Tryd.prog (.cond (.tmp 68) K4_60 K4_61) Q σ := rfl
def K4_57 : Cd := .seq K4_58 K4_59
@[simp] theorem W4_57 {Q : Ex → St → Prop} {σ : St} : WPk Tryd.prog K4_57 Q σ = WPk Tryd.prog K4_58 (seqK (WPk Tryd.prog K4_59) Q) σ := WPk_seq
@[simp] def R4_65 : List Op1 := [⟨some 71, .move (.tmp 13), none⟩, ⟨some 72, .move (.tmp 14), none⟩, ⟨some 73, .index 9 (.tmp 71) (.tmp 72), none⟩, ⟨some 74, .binOp .eql 5 (.tmp 73) (.const (.int .u8 10)) 5, none⟩]
def K4_65 : Cd := .reg (some ([1, 5, 8, 9, 10, 11, 12, 13, 14, 74])) R4_65
@[simp] theorem W4_65 {Q : Ex → St → Prop} {σ : St} : WPk Tryd.prog K4_65 Q σ = WPl Tryd.prog Q R4_65 (keepQ (some ([1, 5, 8, 9, 10, 11, 12, 13, 14, 74])) Q) σ := rfl
@[simp] def R4_67 : List Op1 := [⟨some 75, .move (.tmp 11), none⟩, ⟨some 76, .binOp .add 3 (.tmp 75) (.const (.int .i64 1)) 3, none⟩, ⟨some 11, .assign (.tmp 76), none⟩]
def K4_67 : Cd := .reg (some ([1, 5, 8, 9, 10, 11, 12, 13, 14])) R4_67
@[simp] theorem W4_67 {Q : Ex → St → Prop} {σ : St} : WPk Tryd.prog K4_67 Q σ = WPl Tryd.prog Q R4_67 (keepQ (some ([1, 5, 8, 9, 10, 11, 12, 13, 14])) Q) σ := rfl
def K4_68 : Cd := .skip
@[simp] theorem W4_68 {Q : Ex → St → Prop} {σ : St} : WPk Tryd.prog K4_68 Q σ = Q .normal σ := rfl
def K4_66 : Cd := .cond (.tmp 74) K4_67 K4_68
@[simp] theorem W4_66 {Q : Ex → St → Prop} {σ : St} : WPk Tryd.prog K4_66 Q σ = WPk Tryd.prog (.cond (.tmp 74) K4_67 K4_68) Q σ := rfl
def K4_64 : Cd := .seq K4_65 K4_66
@[simp] theorem W4_64 {Q : Ex → St → Prop} {σ : St} : WPk Tryd.prog K4_64 Q σ = WPk Tryd.prog K4_65 (seqK (WPk Tryd.prog K4_66) Q) σ := WPk_seq
def K4_63 : Cd := .block 3 K4_64
@[simp] theorem W4_63 {Q : Ex → St → Prop} {σ : St} : WPk Tryd.prog K4_63 Q σ = WPk Tryd.prog K4_64 (blkQ 3 Q) σ := rfl
@[simp] def R4_69 : List Op1 := [⟨some 69, .move (.tmp 14), none⟩, ⟨some 70, .binOp .add 3 (.tmp 69) (.const (.int .i64 1)) 3, none⟩, ⟨some 14, .assign (.tmp 70), none⟩]
def K4_69 : Cd := .reg (some ([1, 5, 8, 9, 10, 11, 12, 13, 14])) R4_69
@[simp] theorem W4_69 {Q : Ex → St → Prop} {σ : St} : WPk Tryd.prog K4_69 Q σ = WPl Tryd.prog Q R4_69 (keepQ (some ([1, 5, 8, 9, 10, 11, 12, 13, 14])) Q) σ := rfl
def K4_62 : Cd := .seq K4_63 K4_69
@[simp] theorem W4_62 {Q : Ex → St → Prop} {σ : St} : WPk Tryd.prog K4_62 Q σ = WPk Tryd.prog K4_63 (seqK (WPk Tryd.prog K4_69) Q) σ := WPk_seq
def K4_56 : Cd := .seq K4_57 K4_62
@[simp] theorem W4_56 {Q : Ex → St → Prop} {σ : St} : WPk Tryd.prog K4_56 Q σ = WPk Tryd.prog K4_57 (seqK (WPk Tryd.prog K4_62) Q) σ := WPk_seq
def K4_55 : Cd := .loop K4_56
@[simp] theorem W4_55 {Q : Ex → St → Prop} {σ : St} : WPk Tryd.prog K4_55 Q σ = WPk Tryd.prog (.loop K4_56) Q σ := rfl
def K4_54 : Cd := .block 2 K4_55
@[simp] theorem W4_54 {Q : Ex → St → Prop} {σ : St} : WPk Tryd.prog K4_54 Q σ = WPk Tryd.prog K4_55 (blkQ 2 Q) σ := rfl
def K4_52 : Cd := .seq K4_53 K4_54
@[simp] theorem W4_52 {Q : Ex → St → Prop} {σ : St} : WPk Tryd.prog K4_52 Q σ = WPk Tryd.prog K4_53 (seqK (WPk Tryd.prog K4_54) Q) σ := WPk_seq
@[simp] def R4_71 : List Op1 := [⟨some 77, .move (.tmp 10), none⟩, ⟨some 78, .move (.tmp 11), none⟩, ⟨some 79, .buildSlice 33 1 #[(0, .tmp 78)], none⟩, ⟨some 80, .call { callee := .builtin .append, args := #[.tmp 77, .tmp 79], argTypes := #[33, 33] }, none⟩, ⟨some 10, .assign (.tmp 80), none⟩]
def K4_71 : Cd := .reg (some ([1, 5, 8, 9, 10, 11, 12])) R4_71
@[simp] theorem W4_71 {Q : Ex → St → Prop} {σ : St} : WPk Tryd.prog K4_71 Q σ = WPl Tryd.prog Q R4_71 (keepQ (some ([1, 5, 8, 9, 10, 11, 12])) Q) σ := rfl
@[simp] def R4_72 : List Op1 := [⟨some 81, .move (.tmp 9), none⟩, ⟨some 82, .move (.tmp 5), none⟩, ⟨some 83, .move (.tmp 12), none⟩, ⟨some 84, .indexAddr 25 (.tmp 82) (.tmp 83), none⟩, ⟨some 85, .fieldAddr 35 (.tmp 84) 1, none⟩, ⟨some 86, .load 9 (.tmp 85), none⟩, ⟨some 87, .call { callee := .builtin .append, args := #[.tmp 81, .tmp 86], argTypes := #[22, 9] }, none⟩, ⟨some 9, .assign (.tmp 87), none⟩]
def K4_72 : Cd := .reg (some ([1, 5, 8, 9, 10, 11, 12])) R4_72
@[simp] theorem W4_72 {Q : Ex → St → Prop} {σ : St} : WPk Tryd.prog K4_72 Q σ = WPl Tryd.prog Q R4_72 (keepQ (some ([1, 5, 8, 9, 10, 11, 12])) Q) σ := rfl
def K4_70 : Cd := .seq K4_71 K4_72
@[simp] theorem W4_70 {Q : Ex → St → Prop} {σ : St} : WPk Tryd.prog K4_70 Q σ = WPk Tryd.prog K4_71 (seqK (WPk Tryd.prog K4_72) Q) σ := WPk_seq
def K4_51 : Cd := .seq K4_52 K4_70
@[simp] theorem W4_51 {Q : Ex → St → Prop} {σ : St} : WPk Tryd.prog K4_51 Q σ = WPk Tryd.prog K4_52 (seqK (WPk Tryd.prog K4_70) Q) σ := WPk_seq
def K4_49 : Cd := .seq K4_50 K4_51
@[simp] theorem W4_49 {Q : Ex → St → Prop} {σ : St} : WPk Tryd.prog K4_49 Q σ = WPk Tryd.prog K4_50 (seqK (WPk Tryd.prog K4_51) Q) σ := WPk_seq
def K4_43 : Cd := .seq K4_44 K4_49
@[simp] theorem W4_43 {Q : Ex → St → Prop} {σ : St} : WPk Tryd.prog K4_43 Q σ = WPk Tryd.prog K4_44 (seqK (WPk Tryd.prog K4_49) Q) σ := WPk_seq
def K4_41 : Cd := .seq K4_42 K4_43
@[simp] theorem W4_41 {Q : Ex → St → Prop} {σ : St} : WPk Tryd.prog K4_41 Q σ = WPk Tryd.prog K4_42 (seqK (WPk Tryd.prog K4_43) Q) σ := WPk_seq
def K4_40 : Cd := .block 1 K4_41
@[simp] theorem W4_40 {Q : Ex → St → Prop} {σ : St} : WPk Tryd.prog K4_40 Q σ = WPk Tryd.prog K4_41 (blkQ 1 Q) σ := rfl
@[simp] def R4_73 : List Op1 := [⟨some 42, .move (.tmp 12), none⟩, ⟨some 43, .binOp .add 3 (.tmp 42) (.const (.int .i64 1)) 3, none⟩, ⟨some 12, .assign (.tmp 43), none⟩]
def K4_73 : Cd := .reg (some ([1, 5, 8, 9, 10, 11, 12])) R4_73
@[simp] theorem W4_73 {Q : Ex → St → Prop} {σ : St} : WPk Tryd.prog K4_73 Q σ = WPl Tryd.prog Q R4_73 (keepQ (some ([1, 5, 8, 9, 10, 11, 12])) Q) σ := rfl
def K4_39 : Cd := .seq K4_40 K4_73
@[simp] theorem W4_39 {Q : Ex → St → Prop} {σ : St} : WPk Tryd.prog K4_39 Q σ = WPk Tryd.prog K4_40 (seqK (WPk Tryd.prog K4_73) Q) σ := WPk_seq
def K4_33 : Cd := .seq K4_34 K4_39
@[simp] theorem W4_33 {Q : Ex → St → Prop} {σ : St} : WPk Tryd.prog K4_33 Q σ = WPk Tryd.prog K4_34 (seqK (WPk Tryd.prog K4_39) Q) σ := WPk_seq
def K4_32 : Cd := .loop K4_33
@[simp] theorem W4_32 {Q : Ex → St → Prop} {σ : St} : WPk Tryd.prog K4_32 Q σ = WPk Tryd.prog (.loop K4_33) Q σ := rfl
def K4_31 : Cd := .block 0 K4_32
@[simp] theorem W4_31 {Q : Ex → St → Prop} {σ : St} : WPk Tryd.prog K4_31 Q σ = WPk Tryd.prog K4_32 (blkQ 0 Q) σ := rfl
def K4_29 : Cd := .seq K4_30 K4_31
@[simp] theorem W4_29 {Q : Ex → St → Prop} {σ : St} : WPk Tryd.prog K4_29 Q σ = WPk Tryd.prog K4_30 (seqK (WPk Tryd.prog K4_31) Q) σ := WPk_seq
@[simp] def R4_76 : List Op1 := [⟨some 88, .move (.tmp 9), none⟩, ⟨some 89, .call { callee := .builtin .len, args := #[.tmp 88], argTypes := #[22] }, none⟩, ⟨some 90, .binOp .gtr 3 (.tmp 89) (.const (.int .i64 16384)) 3, none⟩]
def K4_76 : Cd := .reg (some ([5, 9, 10, 90])) R4_76
@[simp] theorem W4_76 {Q : Ex → St → Prop} {σ : St} : WPk Tryd.prog K4_76 Q σ = WPl Tryd.prog Q R4_76 (keepQ (some ([5, 9, 10, 90])) Q) σ := rfl
@[simp] def R4_79 : List Op1 := [⟨some 91, .call { callee := .value (.func 7), args := #[], argTypes := #[] }, none⟩, ⟨some 4, .assign (.tmp 91), none⟩]
def K4_79 : Cd := .reg (some ([4])) R4_79
@[simp] theorem W4_79 {Q : Ex → St → Prop} {σ : St} : WPk Tryd.prog K4_79 Q σ = WPl Tryd.prog Q R4_79 (keepQ (some ([4])) Q) σ := rfl
def K4_80 : Cd := .ret
@[simp] theorem W4_80 {Q : Ex → St → Prop} {σ : St} : WPk Tryd.prog K4_80 Q σ = Q .ret σ := rfl
def K4_78 : Cd := .seq K4_79 K4_80
@[simp] theorem W4_78 {Q : Ex → St → Prop} {σ : St} : WPk Tryd.prog K4_78 Q σ = WPk Tryd.prog K4_79 (seqK (WPk Tryd.prog K4_80) Q) σ := WPk_seq
def K4_81 : Cd := .skip
@[simp] theorem W4_81 {Q : Ex → St → Prop} {σ : St} : WPk Tryd.prog K4_81 Q σ = Q .normal σ := rfl
def K4_77 : Cd := .cond (.tmp 90) K4_78 K4_81
@[simp] theorem W4_77 {Q : Ex → St → Prop} {σ : St} : WPk Tryd.prog K4_77 Q σ = WPk Tryd.prog (.cond (.tmp 90) K4_78 K4_81) Q σ := rfl
def K4_75 : Cd := .seq K4_76 K4_77
@[simp] theorem W4_75 {Q : Ex → St → Prop} {σ : St} : WPk Tryd.prog K4_75 Q σ = WPk Tryd.prog K4_76 (seqK (WPk Tryd.prog K4_77) Q) σ := WPk_seq
@[simp] def R4_83 : List Op1 := [⟨some 93, .move (.tmp 9), none⟩, ⟨some 94, .call { callee := .value (.func 9), args := #[.tmp 93], argTypes := #[22] }, none⟩, ⟨some 92, .move (.tmp 94), none⟩, ⟨some 95, .extract (.tmp 92) 0, none⟩, ⟨some 96, .extract (.tmp 92) 1, none⟩, ⟨some 97, .extract (.tmp 92) 2, none⟩, ⟨some 15, .assign (.tmp 95), none⟩, ⟨some 16, .assign (.tmp 96), none⟩, ⟨some 17, .assign (.tmp 97), none⟩]
def K4_83 : Cd := .reg (some ([5, 10, 15, 17])) R4_83
@[simp] theorem W4_83 {Q : Ex → St → Prop} {σ : St} : WPk Tryd.prog K4_83 Q σ = WPl Tryd.prog Q R4_83 (keepQ (some ([5, 10, 15, 17])) Q) σ := rfl
@[simp] def R4_86 : List Op1 := [⟨some 98, .move (.tmp 17), none⟩, ⟨some 99, .binOp .neq 26 (.tmp 98) (.const (.int .i64 0)) 26, none⟩, ⟨some 100, .move (.tmp 99), none⟩, ⟨some 101, .move (.tmp 5), some (100, false)⟩, ⟨some 102, .move (.tmp 15), some (100, false)⟩, ⟨some 103, .call { callee := .value (.func 13), args := #[.tmp 101, .tmp 102], argTypes := #[25, 25] }, some (100, false)⟩, ⟨some 104, .unOp .not 4 (.tmp 103), some (100, false)⟩, ⟨some 105, .pick (.tmp 100) (.const (.bool true)) (.tmp 104), none⟩]
def K4_86 : Cd := .reg (some ([10, 15, 105])) R4_86
@[simp] theorem W4_86 {Q : Ex → St → Prop} {σ : St} : WPk Tryd.prog K4_86 Q σ = WPl Tryd.prog Q R4_86 (keepQ (some ([10, 15, 105])) Q) σ := rfl
@[simp] def R4_89 : List Op1 := [⟨some 4, .assign (.const (.bool false)), none⟩]
def K4_89 : Cd := .reg (some ([4])) R4_89
@[simp] theorem W4_89 {Q : Ex → St → Prop} {σ : St} : WPk Tryd.prog K4_89 Q σ = WPl Tryd.prog Q R4_89 (keepQ (some ([4])) Q) σ := rfl
def K4_90 : Cd := .ret
@[simp] theorem W4_90 {Q : Ex → St → Prop} {σ : St} : WPk Tryd.prog K4_90 Q σ = Q .ret σ := rfl
def K4_88 : Cd := .seq K4_89 K4_90
@[simp] theorem W4_88 {Q : Ex → St → Prop} {σ : St} : WPk Tryd.prog K4_88 Q σ = WPk Tryd.prog K4_89 (seqK (WPk Tryd.prog K4_90) Q) σ := WPk_seq
def K4_91 : Cd := .skip
@[simp] theorem W4_91 {Q : Ex → St → Prop} {σ : St} : WPk Tryd.prog K4_91 Q σ = Q .normal σ := rfl
def K4_87 : Cd := .cond (.tmp 105) K4_88 K4_91
@[simp] theorem W4_87 {Q : Ex → St → Prop} {σ : St} : WPk Tryd.prog K4_87 Q σ = WPk Tryd.prog (.cond (.tmp 105) K4_88 K4_91) Q σ := rfl
def K4_85 : Cd := .seq K4_86 K4_87
@[simp] theorem W4_85 {Q : Ex → St → Prop} {σ : St} : WPk Tryd.prog K4_85 Q σ = WPk Tryd.prog K4_86 (seqK (WPk Tryd.prog K4_87) Q) σ := WPk_seq
@[simp] def R4_94 : List Op1 := [⟨some 18, .assign (.const (.int .i64 0)), none⟩]
def K4_94 : Cd := .reg (some ([10, 15, 18])) R4_94
@[simp] theorem W4_94 {Q : Ex → St → Prop} {σ : St} : WPk Tryd.prog K4_94 Q σ = WPl Tryd.prog Q R4_94 (keepQ (some ([10, 15, 18])) Q) σ := rfl
@[simp] def R4_99 : List Op1 := [⟨some 106, .move (.tmp 18), none⟩, ⟨some 107, .move (.tmp 15), none⟩, ⟨some 108, .call { callee := .builtin .len, args := #[.tmp 107], argTypes := #[25] }, none⟩, ⟨some 109, .binOp .lss 3 (.tmp 106) (.tmp 108) 3, none⟩]
def K4_99 : Cd := .reg (some ([10, 15, 18, 109])) R4_99
@[simp] theorem W4_99 {Q : Ex → St → Prop} {σ : St} : WPk Tryd.prog K4_99 Q σ = WPl Tryd.prog Q R4_99 (keepQ (some ([10, 15, 18, 109])) Q) σ := rfl
def K4_101 : Cd := .skip
@[simp] theorem W4_101 {Q : Ex → St → Prop} {σ : St} : WPk Tryd.prog K4_101 Q σ = Q .normal σ := rfl
def K4_102 : Cd := .exit 4
@[simp] theorem W4_102 {Q : Ex → St → Prop} {σ : St} : WPk Tryd.prog K4_102 Q σ = Q (.exit 4) σ := rfl
def K4_100 : Cd := .cond (.tmp 109) K4_101 K4_102
@[simp] theorem W4_100 {Q : Ex → St → Prop} {σ : St} : WPk Tryd.prog K4_100 Q σ = WPk Tryd.prog (.cond (.tmp 109) K4_101 K4_102) Q σ := rfl
def K4_98 : Cd := .seq K4_99 K4_100
@[simp] theorem W4_98 {Q : Ex → St → Prop} {σ : St} : WPk Tryd.prog K4_98 Q σ = WPk Tryd.prog K4_99 (seqK (WPk Tryd.prog K4_100) Q) σ := WPk_seq
@[simp] def R4_106 : List Op1 := [⟨some 112, .move (.tmp 15), none⟩, ⟨some 113, .move (.tmp 18), none⟩, ⟨some 114, .indexAddr 25 (.tmp 112) (.tmp 113), none⟩, ⟨some 115, .fieldAddr 35 (.tmp 114) 3, none⟩, ⟨some 116, .load 3 (.tmp 115), none⟩, ⟨some 117, .move (.tmp 10), none⟩, ⟨some 118, .move (.tmp 18), none⟩, ⟨some 119, .indexAddr 33 (.tmp 117) (.tmp 118), none⟩, ⟨some 120, .load 3 (.tmp 119), none⟩, ⟨some 121, .binOp .neq 3 (.tmp 116) (.tmp 120) 3, none⟩]
def K4_106 : Cd := .draw ({ live := [10, 15, 18, 121], dms := [{ brw := true }, { brw := true }, { brw := true }, { brw := true }, { brw := true }, { brw := true }, { brw := true }, { brw := true }, { brw := true }, { brw := true }] }) R4_106
@[simp] theorem W4_106 {Q : Ex → St → Prop} {σ : St} : WPk Tryd.prog K4_106 Q σ = WPk Tryd.prog (.draw ({ live := [10, 15, 18, 121], dms := [{ brw := true }, { brw := true }, { brw := true }, { brw := true }, { brw := true }, { brw := true }, { brw := true }, { brw := true }, { brw := true }, { brw := true }] }) R4_106) Q σ := rfl
@[simp] def R4_109 : List Op1 := [⟨some 4, .assign (.const (.bool false)), none⟩]
def K4_109 : Cd := .reg (some ([4])) R4_109
@[simp] theorem W4_109 {Q : Ex → St → Prop} {σ : St} : WPk Tryd.prog K4_109 Q σ = WPl Tryd.prog Q R4_109 (keepQ (some ([4])) Q) σ := rfl
def K4_110 : Cd := .ret
@[simp] theorem W4_110 {Q : Ex → St → Prop} {σ : St} : WPk Tryd.prog K4_110 Q σ = Q .ret σ := rfl
def K4_108 : Cd := .seq K4_109 K4_110
@[simp] theorem W4_108 {Q : Ex → St → Prop} {σ : St} : WPk Tryd.prog K4_108 Q σ = WPk Tryd.prog K4_109 (seqK (WPk Tryd.prog K4_110) Q) σ := WPk_seq
def K4_111 : Cd := .skip
@[simp] theorem W4_111 {Q : Ex → St → Prop} {σ : St} : WPk Tryd.prog K4_111 Q σ = Q .normal σ := rfl
def K4_107 : Cd := .cond (.tmp 121) K4_108 K4_111
@[simp] theorem W4_107 {Q : Ex → St → Prop} {σ : St} : WPk Tryd.prog K4_107 Q σ = WPk Tryd.prog (.cond (.tmp 121) K4_108 K4_111) Q σ := rfl
def K4_105 : Cd := .seq K4_106 K4_107
@[simp] theorem W4_105 {Q : Ex → St → Prop} {σ : St} : WPk Tryd.prog K4_105 Q σ = WPk Tryd.prog K4_106 (seqK (WPk Tryd.prog K4_107) Q) σ := WPk_seq
def K4_104 : Cd := .block 5 K4_105
@[simp] theorem W4_104 {Q : Ex → St → Prop} {σ : St} : WPk Tryd.prog K4_104 Q σ = WPk Tryd.prog K4_105 (blkQ 5 Q) σ := rfl
@[simp] def R4_112 : List Op1 := [⟨some 110, .move (.tmp 18), none⟩, ⟨some 111, .binOp .add 3 (.tmp 110) (.const (.int .i64 1)) 3, none⟩, ⟨some 18, .assign (.tmp 111), none⟩]
def K4_112 : Cd := .reg (some ([10, 15, 18])) R4_112
@[simp] theorem W4_112 {Q : Ex → St → Prop} {σ : St} : WPk Tryd.prog K4_112 Q σ = WPl Tryd.prog Q R4_112 (keepQ (some ([10, 15, 18])) Q) σ := rfl
def K4_103 : Cd := .seq K4_104 K4_112
@[simp] theorem W4_103 {Q : Ex → St → Prop} {σ : St} : WPk Tryd.prog K4_103 Q σ = WPk Tryd.prog K4_104 (seqK (WPk Tryd.prog K4_112) Q) σ := WPk_seq
def K4_97 : Cd := .seq K4_98 K4_103
@[simp] theorem W4_97 {Q : Ex → St → Prop} {σ : St} : WPk Tryd.prog K4_97 Q σ = WPk Tryd.prog K4_98 (seqK (WPk Tryd.prog K4_103) Q) σ := WPk_seq
def K4_96 : Cd := .loop K4_97
@[simp] theorem W4_96 {Q : Ex → St → Prop} {σ : St} : WPk Tryd.prog K4_96 Q σ = WPk Tryd.prog (.loop K4_97) Q σ := rfl
def K4_95 : Cd := .block 4 K4_96
@[simp] theorem W4_95 {Q : Ex → St → Prop} {σ : St} : WPk Tryd.prog K4_95 Q σ = WPk Tryd.prog K4_96 (blkQ 4 Q) σ := rfl
def K4_93 : Cd := .seq K4_94 K4_95
@[simp] theorem W4_93 {Q : Ex → St → Prop} {σ : St} : WPk Tryd.prog K4_93 Q σ = WPk Tryd.prog K4_94 (seqK (WPk Tryd.prog K4_95) Q) σ := WPk_seq
@[simp] def R4_114 : List Op1 := [⟨some 122, .call { callee := .value (.func 7), args := #[], argTypes := #[] }, none⟩, ⟨some 4, .assign (.tmp 122), none⟩]
def K4_114 : Cd := .reg (some ([4])) R4_114
@[simp] theorem W4_114 {Q : Ex → St → Prop} {σ : St} : WPk Tryd.prog K4_114 Q σ = WPl Tryd.prog Q R4_114 (keepQ (some ([4])) Q) σ := rfl
def K4_115 : Cd := .ret
@[simp] theorem W4_115 {Q : Ex → St → Prop} {σ : St} : WPk Tryd.prog K4_115 Q σ = Q .ret σ := rfl
def K4_113 : Cd := .seq K4_114 K4_115
@[simp] theorem W4_113 {Q : Ex → St → Prop} {σ : St} : WPk Tryd.prog K4_113 Q σ = WPk Tryd.prog K4_114 (seqK (WPk Tryd.prog K4_115) Q) σ := WPk_seq
def K4_92 : Cd := .seq K4_93 K4_113
@[simp] theorem W4_92 {Q : Ex → St → Prop} {σ : St} : WPk Tryd.prog K4_92 Q σ = WPk Tryd.prog K4_93 (seqK (WPk Tryd.prog K4_113) Q) σ := WPk_seq
def K4_84 : Cd := .seq K4_85 K4_92
@[simp] theorem W4_84 {Q : Ex → St → Prop} {σ : St} : WPk Tryd.prog K4_84 Q σ = WPk Tryd.prog K4_85 (seqK (WPk Tryd.prog K4_92) Q) σ := WPk_seq
def K4_82 : Cd := .seq K4_83 K4_84
@[simp] theorem W4_82 {Q : Ex → St → Prop} {σ : St} : WPk Tryd.prog K4_82 Q σ = WPk Tryd.prog K4_83 (seqK (WPk Tryd.prog K4_84) Q) σ := WPk_seq
def K4_74 : Cd := .seq K4_75 K4_82
@[simp] theorem W4_74 {Q : Ex → St → Prop} {σ : St} : WPk Tryd.prog K4_74 Q σ = WPk Tryd.prog K4_75 (seqK (WPk Tryd.prog K4_82) Q) σ := WPk_seq
def K4_28 : Cd := .seq K4_29 K4_74
@[simp] theorem W4_28 {Q : Ex → St → Prop} {σ : St} : WPk Tryd.prog K4_28 Q σ = WPk Tryd.prog K4_29 (seqK (WPk Tryd.prog K4_74) Q) σ := WPk_seq
def K4_26 : Cd := .seq K4_27 K4_28
@[simp] theorem W4_26 {Q : Ex → St → Prop} {σ : St} : WPk Tryd.prog K4_26 Q σ = WPk Tryd.prog K4_27 (seqK (WPk Tryd.prog K4_28) Q) σ := WPk_seq
def K4_24 : Cd := .seq K4_25 K4_26
@[simp] theorem W4_24 {Q : Ex → St → Prop} {σ : St} : WPk Tryd.prog K4_24 Q σ = WPk Tryd.prog K4_25 (seqK (WPk Tryd.prog K4_26) Q) σ := WPk_seq
def K4_22 : Cd := .seq K4_23 K4_24
@[simp] theorem W4_22 {Q : Ex → St → Prop} {σ : St} : WPk Tryd.prog K4_22 Q σ = WPk Tryd.prog K4_23 (seqK (WPk Tryd.prog K4_24) Q) σ := WPk_seq
def K4_20 : Cd := .seq K4_21 K4_22
@[simp] theorem W4_20 {Q : Ex → St → Prop} {σ : St} : WPk Tryd.prog K4_20 Q σ = WPk Tryd.prog K4_21 (seqK (WPk Tryd.prog K4_22) Q) σ := WPk_seq
def K4_12 : Cd := .seq K4_13 K4_20
@[simp] theorem W4_12 {Q : Ex → St → Prop} {σ : St} : WPk Tryd.prog K4_12 Q σ = WPk Tryd.prog K4_13 (seqK (WPk Tryd.prog K4_20) Q) σ := WPk_seq
def K4_10 : Cd := .seq K4_11 K4_12
@[simp] theorem W4_10 {Q : Ex → St → Prop} {σ : St} : WPk Tryd.prog K4_10 Q σ = WPk Tryd.prog K4_11 (seqK (WPk Tryd.prog K4_12) Q) σ := WPk_seq
def K4_2 : Cd := .seq K4_3 K4_10
@[simp] theorem W4_2 {Q : Ex → St → Prop} {σ : St} : WPk Tryd.prog K4_2 Q σ = WPk Tryd.prog K4_3 (seqK (WPk Tryd.prog K4_10) Q) σ := WPk_seq
def K4_0 : Cd := .seq K4_1 K4_2
@[simp] theorem W4_0 {Q : Ex → St → Prop} {σ : St} : WPk Tryd.prog K4_0 Q σ = WPk Tryd.prog K4_1 (seqK (WPk Tryd.prog K4_2) Q) σ := WPk_seq
theorem k4 : FnK Tryd.prog 4 (123) ([.tmp 4]) K4_0 := ⟨_, _, _, ok4, by kernel_rfl, by kernel_rfl, by kernel_rfl⟩
-- ROOT 4 0 116
@[simp] def R5_1 : List Op1 := [⟨some 2, .assign (.const (.bool false)), none⟩]
def K5_1 : Cd := .reg (some ([0])) R5_1
@[simp] theorem W5_1 {Q : Ex → St → Prop} {σ : St} : WPk Tryd.prog K5_1 Q σ = WPl Tryd.prog Q R5_1 (keepQ (some ([0])) Q) σ := rfl
@[simp] def R5_4 : List Op1 := [⟨some 17, .move (.tmp 0), none⟩, ⟨some 18, .call { callee := .builtin .len, args := #[.tmp 17], argTypes := #[22] }, none⟩, ⟨some 19, .binOp .gtr 3 (.tmp 18) (.const (.int .i64 8192)) 3, none⟩]
def K5_4 : Cd := .reg (some ([0, 19])) R5_4
@[simp] theorem W5_4 {Q : Ex → St → Prop} {σ : St} : WPk Tryd.prog K5_4 Q σ = WPl Tryd.prog Q R5_4 (keepQ (some ([0, 19])) Q) σ := rfl
@[simp] def R5_7 : List Op1 := [⟨some 20, .call { callee := .value (.func 7), args := #[], argTypes := #[] }, none⟩, ⟨some 2, .assign (.tmp 20), none⟩]
def K5_7 : Cd := .reg (some ([2])) R5_7
@[simp] theorem W5_7 {Q : Ex → St → Prop} {σ : St} : WPk Tryd.prog K5_7 Q σ = WPl Tryd.prog Q R5_7 (keepQ (some ([2])) Q) σ := rfl
def K5_8 : Cd := .ret
@[simp] theorem W5_8 {Q : Ex → St → Prop} {σ : St} : WPk Tryd.prog K5_8 Q σ = Q .ret σ := rfl
def K5_6 : Cd := .seq K5_7 K5_8
@[simp] theorem W5_6 {Q : Ex → St → Prop} {σ : St} : WPk Tryd.prog K5_6 Q σ = WPk Tryd.prog K5_7 (seqK (WPk Tryd.prog K5_8) Q) σ := WPk_seq
def K5_9 : Cd := .skip
@[simp] theorem W5_9 {Q : Ex → St → Prop} {σ : St} : WPk Tryd.prog K5_9 Q σ = Q .normal σ := rfl
def K5_5 : Cd := .cond (.tmp 19) K5_6 K5_9
@[simp] theorem W5_5 {Q : Ex → St → Prop} {σ : St} : WPk Tryd.prog K5_5 Q σ = WPk Tryd.prog (.cond (.tmp 19) K5_6 K5_9) Q σ := rfl
def K5_3 : Cd := .seq K5_4 K5_5
@[simp] theorem W5_3 {Q : Ex → St → Prop} {σ : St} : WPk Tryd.prog K5_3 Q σ = WPk Tryd.prog K5_4 (seqK (WPk Tryd.prog K5_5) Q) σ := WPk_seq
@[simp] def R5_11 : List Op1 := [⟨some 22, .move (.tmp 0), none⟩, ⟨some 23, .call { callee := .value (.func 9), args := #[.tmp 22], argTypes := #[22] }, none⟩, ⟨some 21, .move (.tmp 23), none⟩, ⟨some 24, .extract (.tmp 21) 0, none⟩, ⟨some 25, .extract (.tmp 21) 1, none⟩, ⟨some 26, .extract (.tmp 21) 2, none⟩, ⟨some 3, .assign (.tmp 24), none⟩, ⟨some 4, .assign (.tmp 25), none⟩, ⟨some 5, .assign (.tmp 26), none⟩]
def K5_11 : Cd := .reg (some ([0, 3, 4, 5])) R5_11
@[simp] theorem W5_11 {Q : Ex → St → Prop} {σ : St} : WPk Tryd.prog K5_11 Q σ = WPl Tryd.prog Q R5_11 (keepQ (some ([0, 3, 4, 5])) Q) σ := rfl
@[simp] def R5_14 : List Op1 := [⟨some 27, .move (.tmp 5), none⟩, ⟨some 28, .binOp .neq 26 (.tmp 27) (.const (.int .i64 0)) 26, none⟩]
def K5_14 : Cd := .reg (some ([0, 3, 4, 5, 28])) R5_14
@[simp] theorem W5_14 {Q : Ex → St → Prop} {σ : St} : WPk Tryd.prog K5_14 Q σ = WPl Tryd.prog Q R5_14 (keepQ (some ([0, 3, 4, 5, 28])) Q) σ := rfl
@[simp] def R5_17 : List Op1 := [⟨some 6, .assign (.const (.int .i64 1)), none⟩]
def K5_17 : Cd := .reg (some ([0, 3, 4, 5, 6])) R5_17
@[simp] theorem W5_17 {Q : Ex → St → Prop} {σ : St} : WPk Tryd.prog K5_17 Q σ = WPl Tryd.prog Q R5_17 (keepQ (some ([0, 3, 4, 5, 6])) Q) σ := rfl
@[simp] def R5_20 : List Op1 := [⟨some 7, .assign (.const (.int .i64 0)), none⟩]
def K5_20 : Cd := .reg (some ([0, 3, 4, 5, 6, 7])) R5_20
@[simp] theorem W5_20 {Q : Ex → St → Prop} {σ : St} : WPk Tryd.prog K5_20 Q σ = WPl Tryd.prog Q R5_20 (keepQ (some ([0, 3, 4, 5, 6, 7])) Q) σ := rfl
@[simp] def R5_25 : List Op1 := [⟨some 29, .move (.tmp 7), none⟩, ⟨some 30, .move (.tmp 0), none⟩, ⟨some 31, .call { callee := .builtin .len, args := #[.tmp 30], argTypes := #[22] }, none⟩, ⟨some 32, .binOp .lss 3 (.tmp 29) (.tmp 31) 3, none⟩]
def K5_25 : Cd := .reg (some ([0, 3, 4, 5, 6, 7, 32])) R5_25
@[simp] theorem W5_25 {Q : Ex → St → Prop} {σ : St} : WPk Tryd.prog K5_25 Q σ = WPl Tryd.prog Q R5_25 (keepQ (some ([0, 3, 4, 5, 6, 7, 32])) Q) σ := rfl
def K5_27 : Cd := .skip
@[simp] theorem W5_27 {Q : Ex → St → Prop} {σ : St} : WPk Tryd.prog K5_27 Q σ = Q .normal σ := rfl
def K5_28 : Cd := .exit 0
@[simp] theorem W5_28 {Q : Ex → St → Prop} {σ : St} : WPk Tryd.prog K5_28 Q σ = Q (.exit 0) σ := rfl
def K5_26 : Cd := .cond (.tmp 32) K5_27 K5_28
@[simp] theorem W5_26 {Q : Ex → St → Prop} {σ : St} : WPk Tryd.prog K5_26 Q σ = WPk Tryd.prog (.cond (.tmp 32) K5_27 K5_28) Q σ := rfl
def K5_24 : Cd := .seq K5_25 K5_26
@[simp] theorem W5_24 {Q : Ex → St → Prop} {σ : St} : WPk Tryd.prog K5_24 Q σ = WPk Tryd.prog K5_25 (seqK (WPk Tryd.prog K5_26) Q) σ := WPk_seq
@[simp] def R5_32 : List Op1 := [⟨some 35, .move (.tmp 0), none⟩, ⟨some 36, .move (.tmp 7), none⟩, ⟨some 37, .indexAddr 22 (.tmp 35) (.tmp 36), none⟩, ⟨some 38, .load 5 (.tmp 37), none⟩, ⟨some 39, .binOp .eql 5 (.tmp 38) (.const (.int .u8 10)) 5, none⟩]
def K5_32 : Cd := .reg (some ([0, 3, 4, 5, 6, 7, 39])) R5_32
@[simp] theorem W5_32 {Q : Ex → St → Prop} {σ : St} : WPk Tryd.prog K5_32 Q σ = WPl Tryd.prog Q R5_32 (keepQ (some ([0, 3, 4, 5, 6, 7, 39])) Q) σ := rfl
@[simp] def R5_34 : List Op1 := [⟨some 40, .move (.tmp 6), none⟩, ⟨some 41, .binOp .add 3 (.tmp 40) (.const (.int .i64 1)) 3, none⟩, ⟨some 6, .assign (.tmp 41), none⟩]
def K5_34 : Cd := .reg (some ([0, 3, 4, 5, 6, 7])) R5_34
@[simp] theorem W5_34 {Q : Ex → St → Prop} {σ : St} : WPk Tryd.prog K5_34 Q σ = WPl Tryd.prog Q R5_34 (keepQ (some ([0, 3, 4, 5, 6, 7])) Q) σ := rfl
def K5_35 : Cd := .skip
@[simp] theorem W5_35 {Q : Ex → St → Prop} {σ : St} : WPk Tryd.prog K5_35 Q σ = Q .normal σ := rfl
def K5_33 : Cd := .cond (.tmp 39) K5_34 K5_35
@[simp] theorem W5_33 {Q : Ex → St → Prop} {σ : St} : WPk Tryd.prog K5_33 Q σ = WPk Tryd.prog (.cond (.tmp 39) K5_34 K5_35) Q σ := rfl
def K5_31 : Cd := .seq K5_32 K5_33
@[simp] theorem W5_31 {Q : Ex → St → Prop} {σ : St} : WPk Tryd.prog K5_31 Q σ = WPk Tryd.prog K5_32 (seqK (WPk Tryd.prog K5_33) Q) σ := WPk_seq
def K5_30 : Cd := .block 1 K5_31
@[simp] theorem W5_30 {Q : Ex → St → Prop} {σ : St} : WPk Tryd.prog K5_30 Q σ = WPk Tryd.prog K5_31 (blkQ 1 Q) σ := rfl
@[simp] def R5_36 : List Op1 := [⟨some 33, .move (.tmp 7), none⟩, ⟨some 34, .binOp .add 3 (.tmp 33) (.const (.int .i64 1)) 3, none⟩, ⟨some 7, .assign (.tmp 34), none⟩]
def K5_36 : Cd := .reg (some ([0, 3, 4, 5, 6, 7])) R5_36
@[simp] theorem W5_36 {Q : Ex → St → Prop} {σ : St} : WPk Tryd.prog K5_36 Q σ = WPl Tryd.prog Q R5_36 (keepQ (some ([0, 3, 4, 5, 6, 7])) Q) σ := rfl
def K5_29 : Cd := .seq K5_30 K5_36
@[simp] theorem W5_29 {Q : Ex → St → Prop} {σ : St} : WPk Tryd.prog K5_29 Q σ = WPk Tryd.prog K5_30 (seqK (WPk Tryd.prog K5_36) Q) σ := WPk_seq
def K5_23 : Cd := .seq K5_24 K5_29
@[simp] theorem W5_23 {Q : Ex → St → Prop} {σ : St} : WPk Tryd.prog K5_23 Q σ = WPk Tryd.prog K5_24 (seqK (WPk Tryd.prog K5_29) Q) σ := WPk_seq
def K5_22 : Cd := .loop K5_23
@[simp] theorem W5_22 {Q : Ex → St → Prop} {σ : St} : WPk Tryd.prog K5_22 Q σ = WPk Tryd.prog (.loop K5_23) Q σ := rfl
def K5_21 : Cd := .block 0 K5_22
@[simp] theorem W5_21 {Q : Ex → St → Prop} {σ : St} : WPk Tryd.prog K5_21 Q σ = WPk Tryd.prog K5_22 (blkQ 0 Q) σ := rfl
def K5_19 : Cd := .seq K5_20 K5_21
@[simp] theorem W5_19 {Q : Ex → St → Prop} {σ : St} : WPk Tryd.prog K5_19 Q σ = WPk Tryd.prog K5_20 (seqK (WPk Tryd.prog K5_21) Q) σ := WPk_seq
@[simp] def R5_38 : List Op1 := [⟨some 42, .move (.tmp 3), none⟩, ⟨some 43, .call { callee := .builtin .len, args := #[.tmp 42], argTypes := #[25] }, none⟩, ⟨some 44, .binOp .eql 3 (.tmp 43) (.const (.int .i64 0)) 3, none⟩, ⟨some 45, .move (.tmp 44), none⟩, ⟨some 46, .move (.tmp 5), some (45, true)⟩, ⟨some 47, .binOp .eql 26 (.tmp 46) (.const (.int .i64 6)) 26, some (45, true)⟩, ⟨some 48, .pick (.tmp 45) (.tmp 47) (.const (.bool false)), none⟩, ⟨some 49, .move (.tmp 48), none⟩, ⟨some 50, .move (.tmp 4), some (49, true)⟩, ⟨some 51, .binOp .geq 3 (.tmp 50) (.const (.int .i64 1)) 3, some (49, true)⟩, ⟨some 52, .pick (.tmp 49) (.tmp 51) (.const (.bool false)), none⟩, ⟨some 53, .move (.tmp 52), none⟩, ⟨some 54, .move (.tmp 4), some (53, true)⟩, ⟨some 55, .move (.tmp 6), some (53, true)⟩, ⟨some 56, .binOp .leq 3 (.tmp 54) (.tmp 55) 3, some (53, true)⟩, ⟨some 57, .pick (.tmp 53) (.tmp 56) (.const (.bool false)), none⟩, ⟨some 58, .move (.tmp 57), none⟩, ⟨some 59, .call { callee := .value (.func 7), args := #[], argTypes := #[] }, some (58, true)⟩, ⟨some 60, .pick (.tmp 58) (.tmp 59) (.const (.bool false)), none⟩, ⟨some 2, .assign (.tmp 60), none⟩]
def K5_38 : Cd := .reg (some ([2])) R5_38
@[simp] theorem W5_38 {Q : Ex → St → Prop} {σ : St} : WPk Tryd.prog K5_38 Q σ = WPl Tryd.prog Q R5_38 (keepQ (some ([2])) Q) σ := rfl
def K5_39 : Cd := .ret
@[simp] theorem W5_39 {Q : Ex → St → Prop} {σ : St} : WPk Tryd.prog K5_39 Q σ = Q .ret σ := rfl
def K5_37 : Cd := .seq K5_38 K5_39
@[simp] theorem W5_37 {Q : Ex → St → Prop} {σ : St} : WPk Tryd.prog K5_37 Q σ = WPk Tryd.prog K5_38 (seqK (WPk Tryd.prog K5_39) Q) σ := WPk_seq
def K5_18 : Cd := .seq K5_19 K5_37
@[simp] theorem W5_18 {Q : Ex → St → Prop} {σ : St} : WPk Tryd.prog K5_18 Q σ = WPk Tryd.prog K5_19 (seqK (WPk Tryd.prog K5_37) Q) σ := WPk_seq
def K5_16 : Cd := .seq K5_17 K5_18
@[simp] theorem W5_16 {Q : Ex → St → Prop} {σ : St} : WPk Tryd.prog K5_16 Q σ = WPk Tryd.prog K5_17 (seqK (WPk Tryd.prog K5_18) Q) σ := WPk_seq
def K5_40 : Cd := .skip
@[simp] theorem W5_40 {Q : Ex → St → Prop} {σ : St} : WPk Tryd.prog K5_40 Q σ = Q .normal σ := rfl
def K5_15 : Cd := .cond (.tmp 28) K5_16 K5_40
@[simp] theorem W5_15 {Q : Ex → St → Prop} {σ : St} : WPk Tryd.prog K5_15 Q σ = WPk Tryd.prog (.cond (.tmp 28) K5_16 K5_40) Q σ := rfl
def K5_13 : Cd := .seq K5_14 K5_15
@[simp] theorem W5_13 {Q : Ex → St → Prop} {σ : St} : WPk Tryd.prog K5_13 Q σ = WPk Tryd.prog K5_14 (seqK (WPk Tryd.prog K5_15) Q) σ := WPk_seq
@[simp] def R5_42 : List Op1 := [⟨some 8, .assign (.const (.int .i64 0)), none⟩]
def K5_42 : Cd := .reg (some ([0, 3, 8])) R5_42
@[simp] theorem W5_42 {Q : Ex → St → Prop} {σ : St} : WPk Tryd.prog K5_42 Q σ = WPl Tryd.prog Q R5_42 (keepQ (some ([0, 3, 8])) Q) σ := rfl
@[simp] def R5_44 : List Op1 := [⟨some 9, .assign (.const (.int .i64 1)), none⟩]
def K5_44 : Cd := .reg (some ([0, 3, 8, 9])) R5_44
@[simp] theorem W5_44 {Q : Ex → St → Prop} {σ : St} : WPk Tryd.prog K5_44 Q σ = WPl Tryd.prog Q R5_44 (keepQ (some ([0, 3, 8, 9])) Q) σ := rfl
@[simp] def R5_47 : List Op1 := [⟨some 10, .assign (.const (.int .i64 0)), none⟩]
def K5_47 : Cd := .reg (some ([0, 3, 8, 9, 10])) R5_47
@[simp] theorem W5_47 {Q : Ex → St → Prop} {σ : St} : WPk Tryd.prog K5_47 Q σ = WPl Tryd.prog Q R5_47 (keepQ (some ([0, 3, 8, 9, 10])) Q) σ := rfl
@[simp] def R5_52 : List Op1 := [⟨some 61, .move (.tmp 10), none⟩, ⟨some 62, .move (.tmp 3), none⟩, ⟨some 63, .call { callee := .builtin .len, args := #[.tmp 62], argTypes := #[25] }, none⟩, ⟨some 64, .binOp .lss 3 (.tmp 61) (.tmp 63) 3, none⟩]
def K5_52 : Cd := .reg (some ([0, 3, 8, 9, 10, 64])) R5_52
@[simp] theorem W5_52 {Q : Ex → St → Prop} {σ : St} : WPk Tryd.prog K5_52 Q σ = WPl Tryd.prog Q R5_52 (keepQ (some ([0, 3, 8, 9, 10, 64])) Q) σ := rfl
def K5_54 : Cd := .skip
@[simp] theorem W5_54 {Q : Ex → St → Prop} {σ : St} : WPk Tryd.prog K5_54 Q σ = Q .normal σ := rfl
def K5_55 : Cd := .exit 2
@[simp] theorem W5_55 {Q : Ex → St → Prop} {σ : St} : WPk Tryd.prog K5_55 Q σ = Q (.exit 2) σ := rfl
def K5_53 : Cd := .cond (.tmp 64) K5_54 K5_55
@[simp] theorem W5_53 {Q : Ex → St → Prop} {σ : St} : WPk Tryd.prog K5_53 Q σ = WPk Tryd.prog (.cond (.tmp 64) K5_54 K5_55) Q σ := rfl
def K5_51 : Cd := .seq K5_52 K5_53
@[simp] theorem W5_51 {Q : Ex → St → Prop} {σ : St} : WPk Tryd.prog K5_51 Q σ = WPk Tryd.prog K5_52 (seqK (WPk Tryd.prog K5_53) Q) σ := WPk_seq
@[simp] def R5_59 : List Op1 := [⟨some 67, .move (.tmp 3), none⟩, ⟨some 68, .move (.tmp 10), none⟩, ⟨some 69, .indexAddr 25 (.tmp 67) (.tmp 68), none⟩, ⟨some 70, .load 35 (.tmp 69), none⟩, ⟨some 11, .alloc 35, none⟩, ⟨none, .store 35 (.tmp 11) (.tmp 70), none⟩]
def K5_59 : Cd := .reg (some ([0, 3, 8, 9, 10, 11])) R5_59
@[simp] theorem W5_59 {Q : Ex → St → Prop} {σ : St} : WPk Tryd.prog K5_59 Q σ = WPl Tryd.prog Q R5_59 (keepQ (some ([0, 3, 8, 9, 10, 11])) Q) σ := rfl
@[simp] def R5_62 : List Op1 := [⟨some 71, .fieldAddr 35 (.tmp 11) 1, none⟩, ⟨some 72, .load 9 (.tmp 71), none⟩, ⟨some 73, .binOp .eql 9 (.tmp 72) (.const (.string { data := #[] })) 9, none⟩, ⟨some 74, .move (.tmp 73), none⟩, ⟨some 75, .fieldAddr 35 (.tmp 11) 3, some (74, false)⟩, ⟨some 76, .load 3 (.tmp 75), some (74, false)⟩, ⟨some 77, .move (.tmp 9), some (74, false)⟩, ⟨some 78, .binOp .lss 3 (.tmp 76) (.tmp 77) 3, some (74, false)⟩, ⟨some 79, .pick (.tmp 74) (.const (.bool true)) (.tmp 78), none⟩]
def K5_62 : Cd := .reg (some ([0, 3, 8, 9, 10, 11, 79])) R5_62
@[simp] theorem W5_62 {Q : Ex → St → Prop} {σ : St} : WPk Tryd.prog K5_62 Q σ = WPl Tryd.prog Q R5_62 (keepQ (some ([0, 3, 8, 9, 10, 11, 79])) Q) σ := rfl
@[simp] def R5_65 : List Op1 := [⟨some 2, .assign (.const (.bool false)), none⟩]
def K5_65 : Cd := .reg (some ([2])) R5_65
@[simp] theorem W5_65 {Q : Ex → St → Prop} {σ : St} : WPk Tryd.prog K5_65 Q σ = WPl Tryd.prog Q R5_65 (keepQ (some ([2])) Q) σ := rfl
def K5_66 : Cd := .ret
@[simp] theorem W5_66 {Q : Ex → St → Prop} {σ : St} : WPk Tryd.prog K5_66 Q σ = Q .ret σ := rfl
def K5_64 : Cd := .seq K5_65 K5_66
@[simp] theorem W5_64 {Q : Ex → St → Prop} {σ : St} : WPk Tryd.prog K5_64 Q σ = WPk Tryd.prog K5_65 (seqK (WPk Tryd.prog K5_66) Q) σ := WPk_seq
def K5_67 : Cd := .skip
@[simp] theorem W5_67 {Q : Ex → St → Prop} {σ : St} : WPk Tryd.prog K5_67 Q σ = Q .normal σ := rfl
def K5_63 : Cd := .cond (.tmp 79) K5_64 K5_67
@[simp] theorem W5_63 {Q : Ex → St → Prop} {σ : St} : WPk Tryd.prog K5_63 Q σ = WPk Tryd.prog (.cond (.tmp 79) K5_64 K5_67) Q σ := rfl
def K5_61 : Cd := .seq K5_62 K5_63
@[simp] theorem W5_61 {Q : Ex → St → Prop} {σ : St} : WPk Tryd.prog K5_61 Q σ = WPk Tryd.prog K5_62 (seqK (WPk Tryd.prog K5_63) Q) σ := WPk_seq
@[simp] def R5_73 : List Op1 := [⟨some 80, .move (.tmp 9), none⟩, ⟨some 81, .fieldAddr 35 (.tmp 11) 3, none⟩, ⟨some 82, .load 3 (.tmp 81), none⟩, ⟨some 83, .binOp .lss 3 (.tmp 80) (.tmp 82) 3, none⟩, ⟨some 84, .move (.tmp 83), none⟩, ⟨some 85, .move (.tmp 8), some (84, true)⟩, ⟨some 86, .move (.tmp 0), some (84, true)⟩, ⟨some 87, .call { callee := .builtin .len, args := #[.tmp 86], argTypes := #[22] }, some (84, true)⟩, ⟨some 88, .binOp .lss 3 (.tmp 85) (.tmp 87) 3, some (84, true)⟩, ⟨some 89, .pick (.tmp 84) (.tmp 88) (.const (.bool false)), none⟩]
def K5_73 : Cd := .reg (some ([0, 3, 8, 9, 10, 11, 89])) R5_73
@[simp] theorem W5_73 {Q : Ex → St → Prop} {σ : St} : WPk Tryd.prog K5_73 Q σ = WPl Tryd.prog Q R5_73 (keepQ (some ([0, 3, 8, 9, 10, 11, 89])) Q) σ := rfl
def K5_75 : Cd := .skip
@[simp] theorem W5_75 {Q : Ex → St → Prop} {σ : St} : WPk Tryd.prog K5_75 Q σ = Q .normal σ := rfl
def K5_76 : Cd := .exit 4
@[simp] theorem W5_76 {Q : Ex → St → Prop} {σ : St} : WPk Tryd.prog K5_76 Q σ = Q (.exit 4) σ := rfl
def K5_74 : Cd := .cond (.tmp 89) K5_75 K5_76
@[simp] theorem W5_74 {Q : Ex → St → Prop} {σ : St} : WPk Tryd.prog K5_74 Q σ = WPk Tryd.prog (.cond (.tmp 89) K5_75 K5_76) Q σ := rfl
def K5_72 : Cd := .seq K5_73 K5_74
@[simp] theorem W5_72 {Q : Ex → St → Prop} {σ : St} : WPk Tryd.prog K5_72 Q σ = WPk Tryd.prog K5_73 (seqK (WPk Tryd.prog K5_74) Q) σ := WPk_seq
@[simp] def R5_80 : List Op1 := [⟨some 90, .move (.tmp 0), none⟩, ⟨some 91, .move (.tmp 8), none⟩, ⟨some 92, .indexAddr 22 (.tmp 90) (.tmp 91), none⟩, ⟨some 93, .load 5 (.tmp 92), none⟩, ⟨some 94, .binOp .eql 5 (.tmp 93) (.const (.int .u8 10)) 5, none⟩]
def K5_80 : Cd := .reg (some ([0, 3, 8, 9, 10, 11, 94])) R5_80
@[simp] theorem W5_80 {Q : Ex → St → Prop} {σ : St} : WPk Tryd.prog K5_80 Q σ = WPl Tryd.prog Q R5_80 (keepQ (some ([0, 3, 8, 9, 10, 11, 94])) Q) σ := rfl
@[simp] def R5_82 : List Op1 := [⟨some 95, .move (.tmp 9), none⟩, ⟨some 96, .binOp .add 3 (.tmp 95) (.const (.int .i64 1)) 3, none⟩, ⟨some 9, .assign (.tmp 96), none⟩]
def K5_82 : Cd := .reg (some ([0, 3, 8, 9, 10, 11])) R5_82
@[simp] theorem W5_82 {Q : Ex → St → Prop} {σ : St} : WPk Tryd.prog K5_82 Q σ = WPl Tryd.prog Q R5_82 (keepQ (some ([0, 3, 8, 9, 10, 11])) Q) σ := rfl
def K5_83 : Cd := .skip
@[simp] theorem W5_83 {Q : Ex → St → Prop} {σ : St} : WPk Tryd.prog K5_83 Q σ = Q .normal σ := rfl
def K5_81 : Cd := .cond (.tmp 94) K5_82 K5_83
@[simp] theorem W5_81 {Q : Ex → St → Prop} {σ : St} : WPk Tryd.prog K5_81 Q σ = WPk Tryd.prog (.cond (.tmp 94) K5_82 K5_83) Q σ := rfl
def K5_79 : Cd := .seq K5_80 K5_81
@[simp] theorem W5_79 {Q : Ex → St → Prop} {σ : St} : WPk Tryd.prog K5_79 Q σ = WPk Tryd.prog K5_80 (seqK (WPk Tryd.prog K5_81) Q) σ := WPk_seq
@[simp] def R5_84 : List Op1 := [⟨some 97, .move (.tmp 8), none⟩, ⟨some 98, .binOp .add 3 (.tmp 97) (.const (.int .i64 1)) 3, none⟩, ⟨some 8, .assign (.tmp 98), none⟩]
def K5_84 : Cd := .reg (some ([0, 3, 8, 9, 10, 11])) R5_84
@[simp] theorem W5_84 {Q : Ex → St → Prop} {σ : St} : WPk Tryd.prog K5_84 Q σ = WPl Tryd.prog Q R5_84 (keepQ (some ([0, 3, 8, 9, 10, 11])) Q) σ := rfl
def K5_78 : Cd := .seq K5_79 K5_84
@[simp] theorem W5_78 {Q : Ex → St → Prop} {σ : St} : WPk Tryd.prog K5_78 Q σ = WPk Tryd.prog K5_79 (seqK (WPk Tryd.prog K5_84) Q) σ := WPk_seq
def K5_77 : Cd := .block 5 K5_78
@[simp] theorem W5_77 {Q : Ex → St → Prop} {σ : St} : WPk Tryd.prog K5_77 Q σ = WPk Tryd.prog K5_78 (blkQ 5 Q) σ := rfl
def K5_71 : Cd := .seq K5_72 K5_77
@[simp] theorem W5_71 {Q : Ex → St → Prop} {σ : St} : WPk Tryd.prog K5_71 Q σ = WPk Tryd.prog K5_72 (seqK (WPk Tryd.prog K5_77) Q) σ := WPk_seq
def K5_70 : Cd := .loop K5_71
@[simp] theorem W5_70 {Q : Ex → St → Prop} {σ : St} : WPk Tryd.prog K5_70 Q σ = WPk Tryd.prog (.loop K5_71) Q σ := rfl
def K5_69 : Cd := .block 4 K5_70
@[simp] theorem W5_69 {Q : Ex → St → Prop} {σ : St} : WPk Tryd.prog K5_69 Q σ = WPk Tryd.prog K5_70 (blkQ 4 Q) σ := rfl
@[simp] def R5_86 : List Op1 := [⟨some 12, .assign (.const (.bool false)), none⟩]
def K5_86 : Cd := .reg (some ([0, 3, 8, 9, 10, 11, 12])) R5_86
@[simp] theorem W5_86 {Q : Ex → St → Prop} {σ : St} : WPk Tryd.prog K5_86 Q σ = WPl Tryd.prog Q R5_86 (keepQ (some ([0, 3, 8, 9, 10, 11, 12])) Q) σ := rfl
@[simp] def R5_92 : List Op1 := [⟨some 99, .move (.tmp 8), none⟩, ⟨some 100, .fieldAddr 35 (.tmp 11) 1, none⟩, ⟨some 101, .load 9 (.tmp 100), none⟩, ⟨some 102, .call { callee := .builtin .len, args := #[.tmp 101], argTypes := #[9] }, none⟩, ⟨some 103, .binOp .add 3 (.tmp 99) (.tmp 102) 3, none⟩, ⟨some 104, .move (.tmp 0), none⟩, ⟨some 105, .call { callee := .builtin .len, args := #[.tmp 104], argTypes := #[22] }, none⟩, ⟨some 106, .binOp .leq 3 (.tmp 103) (.tmp 105) 3, none⟩, ⟨some 107, .move (.tmp 106), none⟩, ⟨some 108, .move (.tmp 12), some (107, true)⟩, ⟨some 109, .unOp .not 4 (.tmp 108), some (107, true)⟩, ⟨some 110, .pick (.tmp 107) (.tmp 109) (.const (.bool false)), none⟩]
def K5_92 : Cd := .reg (some ([0, 3, 8, 9, 10, 11, 12, 110])) R5_92
@[simp] theorem W5_92 {Q : Ex → St → Prop} {σ : St} : WPk Tryd.prog K5_92 Q σ = WPl Tryd.prog Q R5_92 (keepQ (some ([0, 3, 8, 9, 10, 11, 12, 110])) Q) σ := rfl
def K5_94 : Cd := .skip
@[simp] theorem W5_94 {Q : Ex → St → Prop} {σ : St} : WPk Tryd.prog K5_94 Q σ = Q .normal σ := rfl
def K5_95 : Cd := .exit 6
@[simp] theorem W5_95 {Q : Ex → St → Prop} {σ : St} : WPk Tryd.prog K5_95 Q σ = Q (.exit 6) σ := rfl
def K5_93 : Cd := .cond (.tmp 110) K5_94 K5_95
@[simp] theorem W5_93 {Q : Ex → St → Prop} {σ : St} : WPk Tryd.prog K5_93 Q σ = WPk Tryd.prog (.cond (.tmp 110) K5_94 K5_95) Q σ := rfl
def K5_91 : Cd := .seq K5_92 K5_93
@[simp] theorem W5_91 {Q : Ex → St → Prop} {σ : St} : WPk Tryd.prog K5_91 Q σ = WPk Tryd.prog K5_92 (seqK (WPk Tryd.prog K5_93) Q) σ := WPk_seq
@[simp] def R5_98 : List Op1 := [⟨some 111, .move (.tmp 0), none⟩, ⟨some 112, .move (.tmp 8), none⟩, ⟨some 113, .move (.tmp 8), none⟩, ⟨some 114, .fieldAddr 35 (.tmp 11) 1, none⟩, ⟨some 115, .load 9 (.tmp 114), none⟩, ⟨some 116, .call { callee := .builtin .len, args := #[.tmp 115], argTypes := #[9] }, none⟩, ⟨some 117, .binOp .add 3 (.tmp 113) (.tmp 116) 3, none⟩, ⟨some 118, .slice 22 (.tmp 111) (some (.tmp 112)) (some (.tmp 117)) none, none⟩, ⟨some 119, .convert 22 9 (.tmp 118), none⟩, ⟨some 120, .fieldAddr 35 (.tmp 11) 1, none⟩, ⟨some 121, .load 9 (.tmp 120), none⟩, ⟨some 122, .binOp .eql 9 (.tmp 119) (.tmp 121) 9, none⟩]
def K5_98 : Cd := .draw ({ live := [0, 3, 8, 9, 10, 11, 12, 122], dms := [{ brw := true }, { brw := true }, { brw := true }, { brw := true }, { brw := true }, { brw := true }, { brw := true }, { brw := true }, { brw := true }, { brw := true }, { brw := true }, { brw := true }] }) R5_98
@[simp] theorem W5_98 {Q : Ex → St → Prop} {σ : St} : WPk Tryd.prog K5_98 Q σ = WPk Tryd.prog (.draw ({ live := [0, 3, 8, 9, 10, 11, 12, 122], dms := [{ brw := true }, { brw := true }, { brw := true }, { brw := true }, { brw := true }, { brw := true }, { brw := true }, { brw := true }, { brw := true }, { brw := true }, { brw := true }, { brw := true }] }) R5_98) Q σ := rfl
@[simp] def R5_100 : List Op1 := [⟨some 12, .assign (.const (.bool true)), none⟩]
def K5_100 : Cd := .reg (some ([0, 3, 8, 9, 10, 11, 12])) R5_100
@[simp] theorem W5_100 {Q : Ex → St → Prop} {σ : St} : WPk Tryd.prog K5_100 Q σ = WPl Tryd.prog Q R5_100 (keepQ (some ([0, 3, 8, 9, 10, 11, 12])) Q) σ := rfl
@[simp] def R5_102 : List Op1 := [⟨some 123, .move (.tmp 0), none⟩, ⟨some 124, .move (.tmp 8), none⟩, ⟨some 125, .indexAddr 22 (.tmp 123) (.tmp 124), none⟩, ⟨some 126, .load 5 (.tmp 125), none⟩, ⟨some 127, .binOp .eql 5 (.tmp 126) (.const (.int .u8 10)) 5, none⟩]
def K5_102 : Cd := .reg (some ([0, 3, 8, 9, 10, 11, 12, 127])) R5_102
@[simp] theorem W5_102 {Q : Ex → St → Prop} {σ : St} : WPk Tryd.prog K5_102 Q σ = WPl Tryd.prog Q R5_102 (keepQ (some ([0, 3, 8, 9, 10, 11, 12, 127])) Q) σ := rfl
@[simp] def R5_105 : List Op1 := [⟨some 2, .assign (.const (.bool false)), none⟩]
def K5_105 : Cd := .reg (some ([2])) R5_105
@[simp] theorem W5_105 {Q : Ex → St → Prop} {σ : St} : WPk Tryd.prog K5_105 Q σ = WPl Tryd.prog Q R5_105 (keepQ (some ([2])) Q) σ := rfl
def K5_106 : Cd := .ret
@[simp] theorem W5_106 {Q : Ex → St → Prop} {σ : St} : WPk Tryd.prog K5_106 Q σ = Q .ret σ := rfl
def K5_104 : Cd := .seq K5_105 K5_106
@[simp] theorem W5_104 {Q : Ex → St → Prop} {σ : St} : WPk Tryd.prog K5_104 Q σ = WPk Tryd.prog K5_105 (seqK (WPk Tryd.prog K5_106) Q) σ := WPk_seq
@[simp] def R5_107 : List Op1 := [⟨some 128, .move (.tmp 8), none⟩, ⟨some 129, .binOp .add 3 (.tmp 128) (.const (.int .i64 1)) 3, none⟩, ⟨some 8, .assign (.tmp 129), none⟩]
def K5_107 : Cd := .reg (some ([0, 3, 8, 9, 10, 11, 12])) R5_107
@[simp] theorem W5_107 {Q : Ex → St → Prop} {σ : St} : WPk Tryd.prog K5_107 Q σ = WPl Tryd.prog Q R5_107 (keepQ (some ([0, 3, 8, 9, 10, 11, 12])) Q) σ := rfl
def K5_103 : Cd := .cond (.tmp 127) K5_104 K5_107
@[simp] theorem W5_103 {Q : Ex → St → Prop} {σ : St} : WPk Tryd.prog K5_103 Q σ = WPk Tryd.prog (.cond (.tmp 127) K5_104 K5_107) Q σ := rfl
def K5_101 : Cd := .seq K5_102 K5_103
@[simp] theorem W5_101 {Q : Ex → St → Prop} {σ : St} : WPk Tryd.prog K5_101 Q σ = WPk Tryd.prog K5_102 (seqK (WPk Tryd.prog K5_103) Q) σ := WPk_seq
def K5_99 : Cd := .cond (.tmp 122) K5_100 K5_101
@[simp] theorem W5_99 {Q : Ex → St → Prop} {σ : St} : WPk Tryd.prog K5_99 Q σ = WPk Tryd.prog (.cond (.tmp 122) K5_100 K5_101) Q σ := rfl
def K5_97 : Cd := .seq K5_98 K5_99
@[simp] theorem W5_97 {Q : Ex → St → Prop} {σ : St} : WPk Tryd.prog K5_97 Q σ = WPk Tryd.prog K5_98 (seqK (WPk Tryd.prog K5_99) Q) σ := WPk_seq
def K5_96 : Cd := .block 7 K5_97
@[simp] theorem W5_96 {Q : Ex → St → Prop} {σ : St} : WPk Tryd.prog K5_96 Q σ = WPk Tryd.prog K5_97 (blkQ 7 Q) σ := rfl
def K5_90 : Cd := .seq K5_91 K5_96
@[simp] theorem W5_90 {Q : Ex → St → Prop} {σ : St} : WPk Tryd.prog K5_90 Q σ = WPk Tryd.prog K5_91 (seqK (WPk Tryd.prog K5_96) Q) σ := WPk_seq
def K5_89 : Cd := .loop K5_90
@[simp] theorem W5_89 {Q : Ex → St → Prop} {σ : St} : WPk Tryd.prog K5_89 Q σ = WPk Tryd.prog (.loop K5_90) Q σ := rfl
def K5_88 : Cd := .block 6 K5_89
@[simp] theorem W5_88 {Q : Ex → St → Prop} {σ : St} : WPk Tryd.prog K5_88 Q σ = WPk Tryd.prog K5_89 (blkQ 6 Q) σ := rfl
@[simp] def R5_110 : List Op1 := [⟨some 130, .move (.tmp 12), none⟩, ⟨some 131, .unOp .not 4 (.tmp 130), none⟩]
def K5_110 : Cd := .reg (some ([0, 3, 8, 9, 10, 11, 131])) R5_110
@[simp] theorem W5_110 {Q : Ex → St → Prop} {σ : St} : WPk Tryd.prog K5_110 Q σ = WPl Tryd.prog Q R5_110 (keepQ (some ([0, 3, 8, 9, 10, 11, 131])) Q) σ := rfl
@[simp] def R5_113 : List Op1 := [⟨some 2, .assign (.const (.bool false)), none⟩]
def K5_113 : Cd := .reg (some ([2])) R5_113
@[simp] theorem W5_113 {Q : Ex → St → Prop} {σ : St} : WPk Tryd.prog K5_113 Q σ = WPl Tryd.prog Q R5_113 (keepQ (some ([2])) Q) σ := rfl
def K5_114 : Cd := .ret
@[simp] theorem W5_114 {Q : Ex → St → Prop} {σ : St} : WPk Tryd.prog K5_114 Q σ = Q .ret σ := rfl
def K5_112 : Cd := .seq K5_113 K5_114
@[simp] theorem W5_112 {Q : Ex → St → Prop} {σ : St} : WPk Tryd.prog K5_112 Q σ = WPk Tryd.prog K5_113 (seqK (WPk Tryd.prog K5_114) Q) σ := WPk_seq
def K5_115 : Cd := .skip
@[simp] theorem W5_115 {Q : Ex → St → Prop} {σ : St} : WPk Tryd.prog K5_115 Q σ = Q .normal σ := rfl
def K5_111 : Cd := .cond (.tmp 131) K5_112 K5_115
@[simp] theorem W5_111 {Q : Ex → St → Prop} {σ : St} : WPk Tryd.prog K5_111 Q σ = WPk Tryd.prog (.cond (.tmp 131) K5_112 K5_115) Q σ := rfl
def K5_109 : Cd := .seq K5_110 K5_111
@[simp] theorem W5_109 {Q : Ex → St → Prop} {σ : St} : WPk Tryd.prog K5_109 Q σ = WPk Tryd.prog K5_110 (seqK (WPk Tryd.prog K5_111) Q) σ := WPk_seq
@[simp] def R5_117 : List Op1 := [⟨some 132, .move (.tmp 8), none⟩, ⟨some 133, .fieldAddr 35 (.tmp 11) 1, none⟩, ⟨some 134, .load 9 (.tmp 133), none⟩, ⟨some 135, .call { callee := .builtin .len, args := #[.tmp 134], argTypes := #[9] }, none⟩, ⟨some 136, .binOp .add 3 (.tmp 132) (.tmp 135) 3, none⟩, ⟨some 8, .assign (.tmp 136), none⟩]
def K5_117 : Cd := .reg (some ([0, 3, 8, 9, 10, 11])) R5_117
@[simp] theorem W5_117 {Q : Ex → St → Prop} {σ : St} : WPk Tryd.prog K5_117 Q σ = WPl Tryd.prog Q R5_117 (keepQ (some ([0, 3, 8, 9, 10, 11])) Q) σ := rfl
@[simp] def R5_119 : List Op1 := [⟨some 13, .assign (.const (.int .u64 0)), none⟩]
def K5_119 : Cd := .reg (some ([0, 3, 8, 9, 10, 11, 13])) R5_119
@[simp] theorem W5_119 {Q : Ex → St → Prop} {σ : St} : WPk Tryd.prog K5_119 Q σ = WPl Tryd.prog Q R5_119 (keepQ (some ([0, 3, 8, 9, 10, 11, 13])) Q) σ := rfl
@[simp] def R5_121 : List Op1 := [⟨some 14, .assign (.const (.bool true)), none⟩]
def K5_121 : Cd := .reg (some ([0, 3, 8, 9, 10, 11, 13, 14])) R5_121
@[simp] theorem W5_121 {Q : Ex → St → Prop} {σ : St} : WPk Tryd.prog K5_121 Q σ = WPl Tryd.prog Q R5_121 (keepQ (some ([0, 3, 8, 9, 10, 11, 13, 14])) Q) σ := rfl
@[simp] def R5_123 : List Op1 := [⟨some 15, .assign (.const (.bool true)), none⟩]
def K5_123 : Cd := .reg (some ([0, 3, 8, 9, 10, 11, 13, 14, 15])) R5_123
@[simp] theorem W5_123 {Q : Ex → St → Prop} {σ : St} : WPk Tryd.prog K5_123 Q σ = WPl Tryd.prog Q R5_123 (keepQ (some ([0, 3, 8, 9, 10, 11, 13, 14, 15])) Q) σ := rfl
@[simp] def R5_126 : List Op1 := [⟨some 16, .assign (.const (.int .i64 0)), none⟩]
def K5_126 : Cd := .reg (some ([0, 3, 8, 9, 10, 11, 13, 14, 15, 16])) R5_126
@[simp] theorem W5_126 {Q : Ex → St → Prop} {σ : St} : WPk Tryd.prog K5_126 Q σ = WPl Tryd.prog Q R5_126 (keepQ (some ([0, 3, 8, 9, 10, 11, 13, 14, 15, 16])) Q) σ := rfl
@[simp] def R5_131 : List Op1 := [⟨some 137, .move (.tmp 16), none⟩, ⟨some 138, .fieldAddr 35 (.tmp 11) 1, none⟩, ⟨some 139, .load 9 (.tmp 138), none⟩, ⟨some 140, .call { callee := .builtin .len, args := #[.tmp 139], argTypes := #[9] }, none⟩, ⟨some 141, .binOp .lss 3 (.tmp 137) (.tmp 140) 3, none⟩]
def K5_131 : Cd := .reg (some ([0, 3, 8, 9, 10, 11, 13, 14, 15, 16, 141])) R5_131
@[simp] theorem W5_131 {Q : Ex → St → Prop} {σ : St} : WPk Tryd.prog K5_131 Q σ = WPl Tryd.prog Q R5_131 (keepQ (some ([0, 3, 8, 9, 10, 11, 13, 14, 15, 16, 141])) Q) σ := rfl
def K5_133 : Cd := .skip
@[simp] theorem W5_133 {Q : Ex → St → Prop} {σ : St} : WPk Tryd.prog K5_133 Q σ = Q .normal σ := rfl
def K5_134 : Cd := .exit 8
@[simp] theorem W5_134 {Q : Ex → St → Prop} {σ : St} : WPk Tryd.prog K5_134 Q σ = Q (.exit 8) σ := rfl
def K5_132 : Cd := .cond (.tmp 141) K5_133 K5_134
@[simp] theorem W5_132 {Q : Ex → St → Prop} {σ : St} : WPk Tryd.prog K5_132 Q σ = WPk Tryd.prog (.cond (.tmp 141) K5_133 K5_134) Q σ := rfl
def K5_130 : Cd := .seq K5_131 K5_132
@[simp] theorem W5_130 {Q : Ex → St → Prop} {σ : St} : WPk Tryd.prog K5_130 Q σ = WPk Tryd.prog K5_131 (seqK (WPk Tryd.prog K5_132) Q) σ := WPk_seq
@[simp] def R5_138 : List Op1 := [⟨some 144, .move (.tmp 14), none⟩, ⟨some 145, .move (.tmp 144), none⟩, ⟨some 146, .fieldAddr 35 (.tmp 11) 1, some (145, true)⟩, ⟨some 147, .load 9 (.tmp 146), some (145, true)⟩, ⟨some 148, .move (.tmp 16), some (145, true)⟩, ⟨some 149, .index 9 (.tmp 147) (.tmp 148), some (145, true)⟩, ⟨some 150, .call { callee := .value (.func 14), args := #[.tmp 149], argTypes := #[5] }, some (145, true)⟩, ⟨some 151, .move (.tmp 150), some (145, true)⟩, ⟨some 152, .fieldAddr 35 (.tmp 11) 1, some (151, false)⟩, ⟨some 153, .load 9 (.tmp 152), some (151, false)⟩, ⟨some 154, .move (.tmp 16), some (151, false)⟩, ⟨some 155, .index 9 (.tmp 153) (.tmp 154), some (151, false)⟩, ⟨some 156, .call { callee := .value (.func 15), args := #[.tmp 155], argTypes := #[5] }, some (151, false)⟩, ⟨some 157, .pick (.tmp 151) (.const (.bool true)) (.tmp 156), some (145, true)⟩, ⟨some 158, .pick (.tmp 145) (.tmp 157) (.const (.bool false)), none⟩, ⟨some 14, .assign (.tmp 158), none⟩]
def K5_138 : Cd := .reg (some ([0, 3, 8, 9, 10, 11, 13, 14, 15, 16])) R5_138
@[simp] theorem W5_138 {Q : Ex → St → Prop} {σ : St} : WPk Tryd.prog K5_138 Q σ = WPl Tryd.prog Q R5_138 (keepQ (some ([0, 3, 8, 9, 10, 11, 13, 14, 15, 16])) Q) σ := rfl
@[simp] def R5_140 : List Op1 := [⟨some 159, .move (.tmp 15), none⟩, ⟨some 160, .move (.tmp 159), none⟩, ⟨some 161, .fieldAddr 35 (.tmp 11) 1, some (160, true)⟩, ⟨some 162, .load 9 (.tmp 161), some (160, true)⟩, ⟨some 163, .move (.tmp 16), some (160, true)⟩, ⟨some 164, .index 9 (.tmp 162) (.tmp 163), some (160, true)⟩, ⟨some 165, .call { callee := .value (.func 15), args := #[.tmp 164], argTypes := #[5] }, some (160, true)⟩, ⟨some 166, .pick (.tmp 160) (.tmp 165) (.const (.bool false)), none⟩, ⟨some 15, .assign (.tmp 166), none⟩]
def K5_140 : Cd := .reg (some ([0, 3, 8, 9, 10, 11, 13, 14, 15, 16])) R5_140
@[simp] theorem W5_140 {Q : Ex → St → Prop} {σ : St} : WPk Tryd.prog K5_140 Q σ = WPl Tryd.prog Q R5_140 (keepQ (some ([0, 3, 8, 9, 10, 11, 13, 14, 15, 16])) Q) σ := rfl
@[simp] def R5_141 : List Op1 := [⟨some 167, .move (.tmp 13), none⟩, ⟨some 168, .binOp .mul 36 (.const (.int .u64 10)) (.tmp 167) 36, none⟩, ⟨some 169, .fieldAddr 35 (.tmp 11) 1, none⟩, ⟨some 170, .load 9 (.tmp 169), none⟩, ⟨some 171, .move (.tmp 16), none⟩, ⟨some 172, .index 9 (.tmp 170) (.tmp 171), none⟩, ⟨some 173, .binOp .sub 5 (.tmp 172) (.const (.int .u8 48)) 5, none⟩, ⟨some 174, .convert 5 36 (.tmp 173), none⟩, ⟨some 175, .binOp .add 36 (.tmp 168) (.tmp 174) 36, none⟩, ⟨some 13, .assign (.tmp 175), none⟩]
def K5_141 : Cd := .reg (some ([0, 3, 8, 9, 10, 11, 13, 14, 15, 16])) R5_141
@[simp] theorem W5_141 {Q : Ex → St → Prop} {σ : St} : WPk Tryd.prog K5_141 Q σ = WPl Tryd.prog Q R5_141 (keepQ (some ([0, 3, 8, 9, 10, 11, 13, 14, 15, 16])) Q) σ := rfl
def K5_139 : Cd := .seq K5_140 K5_141
@[simp] theorem W5_139 {Q : Ex → St → Prop} {σ : St} : WPk Tryd.prog K5_139 Q σ = WPk Tryd.prog K5_140 (seqK (WPk Tryd.prog K5_141) Q) σ := WPk_seq
def K5_137 : Cd := .seq K5_138 K5_139
@[simp] theorem W5_137 {Q : Ex → St → Prop} {σ : St} : WPk Tryd.prog K5_137 Q σ = WPk Tryd.prog K5_138 (seqK (WPk Tryd.prog K5_139) Q) σ := WPk_seq
def K5_136 : Cd := .block 9 K5_137
@[simp] theorem W5_136 {Q : Ex → St → Prop} {σ : St} : WPk Tryd.prog K5_136 Q σ = WPk Tryd.prog K5_137 (blkQ 9 Q) σ := rfl
@[simp] def R5_142 : List Op1 := [⟨some 142, .move (.tmp 16), none⟩, ⟨some 143, .binOp .add 3 (.tmp 142) (.const (.int .i64 1)) 3, none⟩, ⟨some 16, .assign (.tmp 143), none⟩]
def K5_142 : Cd := .reg (some ([0, 3, 8, 9, 10, 11, 13, 14, 15, 16])) R5_142
@[simp] theorem W5_142 {Q : Ex → St → Prop} {σ : St} : WPk Tryd.prog K5_142 Q σ = WPl Tryd.prog Q R5_142 (keepQ (some ([0, 3, 8, 9, 10, 11, 13, 14, 15, 16])) Q) σ := rfl
def K5_135 : Cd := .seq K5_136 K5_142
@[simp] theorem W5_135 {Q : Ex → St → Prop} {σ : St} : WPk Tryd.prog K5_135 Q σ = WPk Tryd.prog K5_136 (seqK (WPk Tryd.prog K5_142) Q) σ := WPk_seq
def K5_129 : Cd := .seq K5_130 K5_135
@[simp] theorem W5_129 {Q : Ex → St → Prop} {σ : St} : WPk Tryd.prog K5_129 Q σ = WPk Tryd.prog K5_130 (seqK (WPk Tryd.prog K5_135) Q) σ := WPk_seq
def K5_128 : Cd := .loop K5_129
@[simp] theorem W5_128 {Q : Ex → St → Prop} {σ : St} : WPk Tryd.prog K5_128 Q σ = WPk Tryd.prog (.loop K5_129) Q σ := rfl
def K5_127 : Cd := .block 8 K5_128
@[simp] theorem W5_127 {Q : Ex → St → Prop} {σ : St} : WPk Tryd.prog K5_127 Q σ = WPk Tryd.prog K5_128 (blkQ 8 Q) σ := rfl
def K5_125 : Cd := .seq K5_126 K5_127
@[simp] theorem W5_125 {Q : Ex → St → Prop} {σ : St} : WPk Tryd.prog K5_125 Q σ = WPk Tryd.prog K5_126 (seqK (WPk Tryd.prog K5_127) Q) σ := WPk_seq
@[simp] def R5_144 : List Op1 := [⟨some 176, .fieldAddr 35 (.tmp 11) 0, none⟩, ⟨some 177, .load 5 (.tmp 176), none⟩]
def K5_144 : Cd := .reg (some ([0, 3, 8, 9, 10, 11, 13, 14, 15, 177])) R5_144
@[simp] theorem W5_144 {Q : Ex → St → Prop} {σ : St} : WPk Tryd.prog K5_144 Q σ = WPl Tryd.prog Q R5_144 (keepQ (some ([0, 3, 8, 9, 10, 11, 13, 14, 15, 177])) Q) σ := rfl
@[simp] def R5_148 : List Op1 := [⟨some 179, .binOp .eql 5 (.tmp 177) (.const (.int .u8 1)) 5, none⟩, ⟨some 178, .assign (.tmp 179), none⟩]
def K5_148 : Cd := .reg (some ([0, 3, 8, 9, 10, 11, 13, 14, 15, 177, 178])) R5_148
@[simp] theorem W5_148 {Q : Ex → St → Prop} {σ : St} : WPk Tryd.prog K5_148 Q σ = WPl Tryd.prog Q R5_148 (keepQ (some ([0, 3, 8, 9, 10, 11, 13, 14, 15, 177, 178])) Q) σ := rfl
def K5_150 : Cd := .skip
@[simp] theorem W5_150 {Q : Ex → St → Prop} {σ : St} : WPk Tryd.prog K5_150 Q σ = Q .normal σ := rfl
@[simp] def R5_151 : List Op1 := [⟨some 180, .binOp .eql 5 (.tmp 177) (.const (.int .u8 3)) 5, none⟩, ⟨some 178, .assign (.tmp 180), none⟩]
def K5_151 : Cd := .reg (some ([0, 3, 8, 9, 10, 11, 13, 14, 15, 177, 178])) R5_151
@[simp] theorem W5_151 {Q : Ex → St → Prop} {σ : St} : WPk Tryd.prog K5_151 Q σ = WPl Tryd.prog Q R5_151 (keepQ (some ([0, 3, 8, 9, 10, 11, 13, 14, 15, 177, 178])) Q) σ := rfl
def K5_149 : Cd := .cond (.tmp 178) K5_150 K5_151
@[simp] theorem W5_149 {Q : Ex → St → Prop} {σ : St} : WPk Tryd.prog K5_149 Q σ = WPk Tryd.prog (.cond (.tmp 178) K5_150 K5_151) Q σ := rfl
def K5_147 : Cd := .seq K5_148 K5_149
@[simp] theorem W5_147 {Q : Ex → St → Prop} {σ : St} : WPk Tryd.prog K5_147 Q σ = WPk Tryd.prog K5_148 (seqK (WPk Tryd.prog K5_149) Q) σ := WPk_seq
@[simp] def R5_154 : List Op1 := [⟨some 181, .move (.tmp 14), none⟩, ⟨some 182, .unOp .not 4 (.tmp 181), none⟩, ⟨some 183, .move (.tmp 182), none⟩, ⟨some 184, .move (.tmp 15), some (183, false)⟩, ⟨some 185, .pick (.tmp 183) (.const (.bool true)) (.tmp 184), none⟩, ⟨some 186, .move (.tmp 185), none⟩, ⟨some 187, .fieldAddr 35 (.tmp 11) 2, some (186, false)⟩, ⟨some 188, .load 2 (.tmp 187), some (186, false)⟩, ⟨some 189, .binOp .neq 2 (.tmp 188) (.const (.int .i64 0)) 2, some (186, false)⟩, ⟨some 190, .pick (.tmp 186) (.const (.bool true)) (.tmp 189), none⟩, ⟨some 191, .move (.tmp 190), none⟩, ⟨some 192, .fieldAddr 35 (.tmp 11) 0, some (191, false)⟩, ⟨some 193, .load 5 (.tmp 192), some (191, false)⟩, ⟨some 194, .binOp .eql 5 (.tmp 193) (.const (.int .u8 1)) 5, some (191, false)⟩, ⟨some 195, .move (.tmp 194), some (191, false)⟩, ⟨some 196, .fieldAddr 35 (.tmp 11) 1, some (195, true)⟩, ⟨some 197, .load 9 (.tmp 196), some (195, true)⟩, ⟨some 198, .call { callee := .builtin .len, args := #[.tmp 197], argTypes := #[9] }, some (195, true)⟩, ⟨some 199, .binOp .gtr 3 (.tmp 198) (.const (.int .i64 24)) 3, some (195, true)⟩, ⟨some 200, .pick (.tmp 195) (.tmp 199) (.const (.bool false)), some (191, false)⟩, ⟨some 201, .pick (.tmp 191) (.const (.bool true)) (.tmp 200), none⟩]
def K5_154 : Cd := .reg (some ([0, 3, 8, 9, 10, 201])) R5_154
@[simp] theorem W5_154 {Q : Ex → St → Prop} {σ : St} : WPk Tryd.prog K5_154 Q σ = WPl Tryd.prog Q R5_154 (keepQ (some ([0, 3, 8, 9, 10, 201])) Q) σ := rfl
@[simp] def R5_157 : List Op1 := [⟨some 2, .assign (.const (.bool false)), none⟩]
def K5_157 : Cd := .reg (some ([2])) R5_157
@[simp] theorem W5_157 {Q : Ex → St → Prop} {σ : St} : WPk Tryd.prog K5_157 Q σ = WPl Tryd.prog Q R5_157 (keepQ (some ([2])) Q) σ := rfl
def K5_158 : Cd := .ret
@[simp] theorem W5_158 {Q : Ex → St → Prop} {σ : St} : WPk Tryd.prog K5_158 Q σ = Q .ret σ := rfl
def K5_156 : Cd := .seq K5_157 K5_158
@[simp] theorem W5_156 {Q : Ex → St → Prop} {σ : St} : WPk Tryd.prog K5_156 Q σ = WPk Tryd.prog K5_157 (seqK (WPk Tryd.prog K5_158) Q) σ := WPk_seq
def K5_159 : Cd := .skip
@[simp] theorem W5_159 {Q : Ex → St → Prop} {σ : St} : WPk Tryd.prog K5_159 Q σ = Q .normal σ := rfl
def K5_155 : Cd := .cond (.tmp 201) K5_156 K5_159
@[simp] theorem W5_155 {Q : Ex → St → Prop} {σ : St} : WPk Tryd.prog K5_155 Q σ = WPk Tryd.prog (.cond (.tmp 201) K5_156 K5_159) Q σ := rfl
def K5_153 : Cd := .seq K5_154 K5_155
@[simp] theorem W5_153 {Q : Ex → St → Prop} {σ : St} : WPk Tryd.prog K5_153 Q σ = WPk Tryd.prog K5_154 (seqK (WPk Tryd.prog K5_155) Q) σ := WPk_seq
@[simp] def R5_161 : List Op1 := [⟨some 203, .binOp .eql 5 (.tmp 177) (.const (.int .u8 2)) 5, none⟩, ⟨some 202, .assign (.tmp 203), none⟩]
def K5_161 : Cd := .reg (some ([0, 3, 8, 9, 10, 11, 13, 14, 15, 177, 202])) R5_161
@[simp] theorem W5_161 {Q : Ex → St → Prop} {σ : St} : WPk Tryd.prog K5_161 Q σ = WPl Tryd.prog Q R5_161 (keepQ (some ([0, 3, 8, 9, 10, 11, 13, 14, 15, 177, 202])) Q) σ := rfl
@[simp] def R5_164 : List Op1 := [⟨some 204, .move (.tmp 15), none⟩, ⟨some 205, .unOp .not 4 (.tmp 204), none⟩, ⟨some 206, .move (.tmp 205), none⟩, ⟨some 207, .fieldAddr 35 (.tmp 11) 2, some (206, false)⟩, ⟨some 208, .load 2 (.tmp 207), some (206, false)⟩, ⟨some 209, .convert 2 36 (.tmp 208), some (206, false)⟩, ⟨some 210, .move (.tmp 13), some (206, false)⟩, ⟨some 211, .binOp .neq 36 (.tmp 209) (.tmp 210) 36, some (206, false)⟩, ⟨some 212, .pick (.tmp 206) (.const (.bool true)) (.tmp 211), none⟩, ⟨some 213, .move (.tmp 212), none⟩, ⟨some 214, .fieldAddr 35 (.tmp 11) 2, some (213, false)⟩, ⟨some 215, .load 2 (.tmp 214), some (213, false)⟩, ⟨some 216, .binOp .lss 2 (.tmp 215) (.const (.int .i64 0)) 2, some (213, false)⟩, ⟨some 217, .pick (.tmp 213) (.const (.bool true)) (.tmp 216), none⟩]
def K5_164 : Cd := .reg (some ([0, 3, 8, 9, 10, 217])) R5_164
@[simp] theorem W5_164 {Q : Ex → St → Prop} {σ : St} : WPk Tryd.prog K5_164 Q σ = WPl Tryd.prog Q R5_164 (keepQ (some ([0, 3, 8, 9, 10, 217])) Q) σ := rfl
@[simp] def R5_167 : List Op1 := [⟨some 2, .assign (.const (.bool false)), none⟩]
def K5_167 : Cd := .reg (some ([2])) R5_167
@[simp] theorem W5_167 {Q : Ex → St → Prop} {σ : St} : WPk Tryd.prog K5_167 Q σ = WPl Tryd.prog Q R5_167 (keepQ (some ([2])) Q) σ := rfl
def K5_168 : Cd := .ret
@[simp] theorem W5_168 {Q : Ex → St → Prop} {σ : St} : WPk Tryd.prog K5_168 Q σ = Q .ret σ := rfl
def K5_166 : Cd := .seq K5_167 K5_168
@[simp] theorem W5_166 {Q : Ex → St → Prop} {σ : St} : WPk Tryd.prog K5_166 Q σ = WPk Tryd.prog K5_167 (seqK (WPk Tryd.prog K5_168) Q) σ := WPk_seq
def K5_169 : Cd := .skip
@[simp] theorem W5_169 {Q : Ex → St → Prop} {σ : St} : WPk Tryd.prog K5_169 Q σ = Q .normal σ := rfl
def K5_165 : Cd := .cond (.tmp 217) K5_166 K5_169
@[simp] theorem W5_165 {Q : Ex → St → Prop} {σ : St} : WPk Tryd.prog K5_165 Q σ = WPk Tryd.prog (.cond (.tmp 217) K5_166 K5_169) Q σ := rfl
def K5_163 : Cd := .seq K5_164 K5_165
@[simp] theorem W5_163 {Q : Ex → St → Prop} {σ : St} : WPk Tryd.prog K5_163 Q σ = WPk Tryd.prog K5_164 (seqK (WPk Tryd.prog K5_165) Q) σ := WPk_seq
@[simp] def R5_171 : List Op1 := [⟨some 219, .binOp .eql 5 (.tmp 177) (.const (.int .u8 4)) 5, none⟩, ⟨some 218, .assign (.tmp 219), none⟩]
def K5_171 : Cd := .reg (some ([0, 3, 8, 9, 10, 11, 14, 218])) R5_171
@[simp] theorem W5_171 {Q : Ex → St → Prop} {σ : St} : WPk Tryd.prog K5_171 Q σ = WPl Tryd.prog Q R5_171 (keepQ (some ([0, 3, 8, 9, 10, 11, 14, 218])) Q) σ := rfl
@[simp] def R5_174 : List Op1 := [⟨some 220, .move (.tmp 14), none⟩, ⟨some 221, .move (.tmp 220), none⟩, ⟨some 222, .fieldAddr 35 (.tmp 11) 1, some (221, false)⟩, ⟨some 223, .load 9 (.tmp 222), some (221, false)⟩, ⟨some 224, .call { callee := .builtin .len, args := #[.tmp 223], argTypes := #[9] }, some (221, false)⟩, ⟨some 225, .binOp .gtr 3 (.tmp 224) (.const (.int .i64 2)) 3, some (221, false)⟩, ⟨some 226, .pick (.tmp 221) (.const (.bool true)) (.tmp 225), none⟩, ⟨some 227, .move (.tmp 226), none⟩, ⟨some 228, .fieldAddr 35 (.tmp 11) 2, some (227, false)⟩, ⟨some 229, .load 2 (.tmp 228), some (227, false)⟩, ⟨some 230, .binOp .neq 2 (.tmp 229) (.const (.int .i64 0)) 2, some (227, false)⟩, ⟨some 231, .pick (.tmp 227) (.const (.bool true)) (.tmp 230), none⟩]
def K5_174 : Cd := .reg (some ([0, 3, 8, 9, 10, 231])) R5_174
@[simp] theorem W5_174 {Q : Ex → St → Prop} {σ : St} : WPk Tryd.prog K5_174 Q σ = WPl Tryd.prog Q R5_174 (keepQ (some ([0, 3, 8, 9, 10, 231])) Q) σ := rfl
@[simp] def R5_177 : List Op1 := [⟨some 2, .assign (.const (.bool false)), none⟩]
def K5_177 : Cd := .reg (some ([2])) R5_177
@[simp] theorem W5_177 {Q : Ex → St → Prop} {σ : St} : WPk Tryd.prog K5_177 Q σ = WPl Tryd.prog Q R5_177 (keepQ (some ([2])) Q) σ := rfl
def K5_178 : Cd := .ret
@[simp] theorem W5_178 {Q : Ex → St → Prop} {σ : St} : WPk Tryd.prog K5_178 Q σ = Q .ret σ := rfl
def K5_176 : Cd := .seq K5_177 K5_178
@[simp] theorem W5_176 {Q : Ex → St → Prop} {σ : St} : WPk Tryd.prog K5_176 Q σ = WPk Tryd.prog K5_177 (seqK (WPk Tryd.prog K5_178) Q) σ := WPk_seq
def K5_179 : Cd := .skip
@[simp] theorem W5_179 {Q : Ex → St → Prop} {σ : St} : WPk Tryd.prog K5_179 Q σ = Q .normal σ := rfl
def K5_175 : Cd := .cond (.tmp 231) K5_176 K5_179
@[simp] theorem W5_175 {Q : Ex → St → Prop} {σ : St} : WPk Tryd.prog K5_175 Q σ = WPk Tryd.prog (.cond (.tmp 231) K5_176 K5_179) Q σ := rfl
def K5_173 : Cd := .seq K5_174 K5_175
@[simp] theorem W5_173 {Q : Ex → St → Prop} {σ : St} : WPk Tryd.prog K5_173 Q σ = WPk Tryd.prog K5_174 (seqK (WPk Tryd.prog K5_175) Q) σ := WPk_seq
@[simp] def R5_181 : List Op1 := [⟨some 2, .assign (.const (.bool false)), none⟩]
def K5_181 : Cd := .reg (some ([2])) R5_181
@[simp] theorem W5_181 {Q : Ex → St → Prop} {σ : St} : WPk Tryd.prog K5_181 Q σ = WPl Tryd.prog Q R5_181 (keepQ (some ([2])) Q) σ := rfl
def K5_182 : Cd := .ret
@[simp] theorem W5_182 {Q : Ex → St → Prop} {σ : St} : WPk Tryd.prog K5_182 Q σ = Q .ret σ := rfl
def K5_180 : Cd := .seq K5_181 K5_182
@[simp] theorem W5_180 {Q : Ex → St → Prop} {σ : St} : WPk Tryd.prog K5_180 Q σ = WPk Tryd.prog K5_181 (seqK (WPk Tryd.prog K5_182) Q) σ := WPk_seq
def K5_172 : Cd := .cond (.tmp 218) K5_173 K5_180
@[simp] theorem W5_172 {Q : Ex → St → Prop} {σ : St} : WPk Tryd.prog K5_172 Q σ = WPk Tryd.prog (.cond (.tmp 218) K5_173 K5_180) Q σ := rfl
def K5_170 : Cd := .seq K5_171 K5_172
@[simp] theorem W5_170 {Q : Ex → St → Prop} {σ : St} : WPk Tryd.prog K5_170 Q σ = WPk Tryd.prog K5_171 (seqK (WPk Tryd.prog K5_172) Q) σ := WPk_seq
def K5_162 : Cd := .cond (.tmp 202) K5_163 K5_170
@[simp] theorem W5_162 {Q : Ex → St → Prop} {σ : St} : WPk Tryd.prog K5_162 Q σ = WPk Tryd.prog (.cond (.tmp 202) K5_163 K5_170) Q σ := rfl
def K5_160 : Cd := .seq K5_161 K5_162
@[simp] theorem W5_160 {Q : Ex → St → Prop} {σ : St} : WPk Tryd.prog K5_160 Q σ = WPk Tryd.prog K5_161 (seqK (WPk Tryd.prog K5_162) Q) σ := WPk_seq
def K5_152 : Cd := .cond (.tmp 178) K5_153 K5_160
@[simp] theorem W5_152 {Q : Ex → St → Prop} {σ : St} : WPk Tryd.prog K5_152 Q σ = WPk Tryd.prog (.cond (.tmp 178) K5_153 K5_160) Q σ := rfl
def K5_146 : Cd := .seq K5_147 K5_152
@[simp] theorem W5_146 {Q : Ex → St → Prop} {σ : St} : WPk Tryd.prog K5_146 Q σ = WPk Tryd.prog K5_147 (seqK (WPk Tryd.prog K5_152) Q) σ := WPk_seq
def K5_145 : Cd := .block 10 K5_146
@[simp] theorem W5_145 {Q : Ex → St → Prop} {σ : St} : WPk Tryd.prog K5_145 Q σ = WPk Tryd.prog K5_146 (blkQ 10 Q) σ := rfl
def K5_143 : Cd := .seq K5_144 K5_145
@[simp] theorem W5_143 {Q : Ex → St → Prop} {σ : St} : WPk Tryd.prog K5_143 Q σ = WPk Tryd.prog K5_144 (seqK (WPk Tryd.prog K5_145) Q) σ := WPk_seq
def K5_124 : Cd := .seq K5_125 K5_143
@[simp] theorem W5_124 {Q : Ex → St → Prop} {σ : St} : WPk Tryd.prog K5_124 Q σ = WPk Tryd.prog K5_125 (seqK (WPk Tryd.prog K5_143) Q) σ := WPk_seq
def K5_122 : Cd := .seq K5_123 K5_124
@[simp] theorem W5_122 {Q : Ex → St → Prop} {σ : St} : WPk Tryd.prog K5_122 Q σ = WPk Tryd.prog K5_123 (seqK (WPk Tryd.prog K5_124) Q) σ := WPk_seq
def K5_120 : Cd := .seq K5_121 K5_122
@[simp] theorem W5_120 {Q : Ex → St → Prop} {σ : St} : WPk Tryd.prog K5_120 Q σ = WPk Tryd.prog K5_121 (seqK (WPk Tryd.prog K5_122) Q) σ := WPk_seq
def K5_118 : Cd := .seq K5_119 K5_120
@[simp] theorem W5_118 {Q : Ex → St → Prop} {σ : St} : WPk Tryd.prog K5_118 Q σ = WPk Tryd.prog K5_119 (seqK (WPk Tryd.prog K5_120) Q) σ := WPk_seq
def K5_116 : Cd := .seq K5_117 K5_118
@[simp] theorem W5_116 {Q : Ex → St → Prop} {σ : St} : WPk Tryd.prog K5_116 Q σ = WPk Tryd.prog K5_117 (seqK (WPk Tryd.prog K5_118) Q) σ := WPk_seq
def K5_108 : Cd := .seq K5_109 K5_116
@[simp] theorem W5_108 {Q : Ex → St → Prop} {σ : St} : WPk Tryd.prog K5_108 Q σ = WPk Tryd.prog K5_109 (seqK (WPk Tryd.prog K5_116) Q) σ := WPk_seq
def K5_87 : Cd := .seq K5_88 K5_108
@[simp] theorem W5_87 {Q : Ex → St → Prop} {σ : St} : WPk Tryd.prog K5_87 Q σ = WPk Tryd.prog K5_88 (seqK (WPk Tryd.prog K5_108) Q) σ := WPk_seq
def K5_85 : Cd := .seq K5_86 K5_87
@[simp] theorem W5_85 {Q : Ex → St → Prop} {σ : St} : WPk Tryd.prog K5_85 Q σ = WPk Tryd.prog K5_86 (seqK (WPk Tryd.prog K5_87) Q) σ := WPk_seq
def K5_68 : Cd := .seq K5_69 K5_85
@[simp] theorem W5_68 {Q : Ex → St → Prop} {σ : St} : WPk Tryd.prog K5_68 Q σ = WPk Tryd.prog K5_69 (seqK (WPk Tryd.prog K5_85) Q) σ := WPk_seq
def K5_60 : Cd := .seq K5_61 K5_68
@[simp] theorem W5_60 {Q : Ex → St → Prop} {σ : St} : WPk Tryd.prog K5_60 Q σ = WPk Tryd.prog K5_61 (seqK (WPk Tryd.prog K5_68) Q) σ := WPk_seq
def K5_58 : Cd := .seq K5_59 K5_60
@[simp] theorem W5_58 {Q : Ex → St → Prop} {σ : St} : WPk Tryd.prog K5_58 Q σ = WPk Tryd.prog K5_59 (seqK (WPk Tryd.prog K5_60) Q) σ := WPk_seq
def K5_57 : Cd := .block 3 K5_58
@[simp] theorem W5_57 {Q : Ex → St → Prop} {σ : St} : WPk Tryd.prog K5_57 Q σ = WPk Tryd.prog K5_58 (blkQ 3 Q) σ := rfl
@[simp] def R5_183 : List Op1 := [⟨some 65, .move (.tmp 10), none⟩, ⟨some 66, .binOp .add 3 (.tmp 65) (.const (.int .i64 1)) 3, none⟩, ⟨some 10, .assign (.tmp 66), none⟩]
def K5_183 : Cd := .reg (some ([0, 3, 8, 9, 10])) R5_183
@[simp] theorem W5_183 {Q : Ex → St → Prop} {σ : St} : WPk Tryd.prog K5_183 Q σ = WPl Tryd.prog Q R5_183 (keepQ (some ([0, 3, 8, 9, 10])) Q) σ := rfl
def K5_56 : Cd := .seq K5_57 K5_183
@[simp] theorem W5_56 {Q : Ex → St → Prop} {σ : St} : WPk Tryd.prog K5_56 Q σ = WPk Tryd.prog K5_57 (seqK (WPk Tryd.prog K5_183) Q) σ := WPk_seq
def K5_50 : Cd := .seq K5_51 K5_56
@[simp] theorem W5_50 {Q : Ex → St → Prop} {σ : St} : WPk Tryd.prog K5_50 Q σ = WPk Tryd.prog K5_51 (seqK (WPk Tryd.prog K5_56) Q) σ := WPk_seq
def K5_49 : Cd := .loop K5_50
@[simp] theorem W5_49 {Q : Ex → St → Prop} {σ : St} : WPk Tryd.prog K5_49 Q σ = WPk Tryd.prog (.loop K5_50) Q σ := rfl
def K5_48 : Cd := .block 2 K5_49
@[simp] theorem W5_48 {Q : Ex → St → Prop} {σ : St} : WPk Tryd.prog K5_48 Q σ = WPk Tryd.prog K5_49 (blkQ 2 Q) σ := rfl
def K5_46 : Cd := .seq K5_47 K5_48
@[simp] theorem W5_46 {Q : Ex → St → Prop} {σ : St} : WPk Tryd.prog K5_46 Q σ = WPk Tryd.prog K5_47 (seqK (WPk Tryd.prog K5_48) Q) σ := WPk_seq
@[simp] def R5_185 : List Op1 := [⟨some 232, .call { callee := .value (.func 7), args := #[], argTypes := #[] }, none⟩, ⟨some 2, .assign (.tmp 232), none⟩]
def K5_185 : Cd := .reg (some ([2])) R5_185
@[simp] theorem W5_185 {Q : Ex → St → Prop} {σ : St} : WPk Tryd.prog K5_185 Q σ = WPl Tryd.prog Q R5_185 (keepQ (some ([2])) Q) σ := rfl
def K5_186 : Cd := .ret
@[simp] theorem W5_186 {Q : Ex → St → Prop} {σ : St} : WPk Tryd.prog K5_186 Q σ = Q .ret σ := rfl
def K5_184 : Cd := .seq K5_185 K5_186
@[simp] theorem W5_184 {Q : Ex → St → Prop} {σ : St} : WPk Tryd.prog K5_184 Q σ = WPk Tryd.prog K5_185 (seqK (WPk Tryd.prog K5_186) Q) σ := WPk_seq
def K5_45 : Cd := .seq K5_46 K5_184
@[simp] theorem W5_45 {Q : Ex → St → Prop} {σ : St} : WPk Tryd.prog K5_45 Q σ = WPk Tryd.prog K5_46 (seqK (WPk Tryd.prog K5_184) Q) σ := WPk_seq
def K5_43 : Cd := .seq K5_44 K5_45
@[simp] theorem W5_43 {Q : Ex → St → Prop} {σ : St} : WPk Tryd.prog K5_43 Q σ = WPk Tryd.prog K5_44 (seqK (WPk Tryd.prog K5_45) Q) σ := WPk_seq
def K5_41 : Cd := .seq K5_42 K5_43
@[simp] theorem W5_41 {Q : Ex → St → Prop} {σ : St} : WPk Tryd.prog K5_41 Q σ = WPk Tryd.prog K5_42 (seqK (WPk Tryd.prog K5_43) Q) σ := WPk_seq
def K5_12 : Cd := .seq K5_13 K5_41
@[simp] theorem W5_12 {Q : Ex → St → Prop} {σ : St} : WPk Tryd.prog K5_12 Q σ = WPk Tryd.prog K5_13 (seqK (WPk Tryd.prog K5_41) Q) σ := WPk_seq
def K5_10 : Cd := .seq K5_11 K5_12
@[simp] theorem W5_10 {Q : Ex → St → Prop} {σ : St} : WPk Tryd.prog K5_10 Q σ = WPk Tryd.prog K5_11 (seqK (WPk Tryd.prog K5_12) Q) σ := WPk_seq
def K5_2 : Cd := .seq K5_3 K5_10
@[simp] theorem W5_2 {Q : Ex → St → Prop} {σ : St} : WPk Tryd.prog K5_2 Q σ = WPk Tryd.prog K5_3 (seqK (WPk Tryd.prog K5_10) Q) σ := WPk_seq
def K5_0 : Cd := .seq K5_1 K5_2
@[simp] theorem W5_0 {Q : Ex → St → Prop} {σ : St} : WPk Tryd.prog K5_0 Q σ = WPk Tryd.prog K5_1 (seqK (WPk Tryd.prog K5_2) Q) σ := WPk_seq
theorem k5 : FnK Tryd.prog 5 (233) ([.tmp 2]) K5_0 := ⟨_, _, _, ok5, by kernel_rfl, by kernel_rfl, by kernel_rfl⟩
-- ROOT 5 0 187
@[simp] def R6_1 : List Op1 := [⟨some 4, .assign (.const (.bool false)), none⟩]
def K6_1 : Cd := .reg (some ([0, 1])) R6_1
@[simp] theorem W6_1 {Q : Ex → St → Prop} {σ : St} : WPk Tryd.prog K6_1 Q σ = WPl Tryd.prog Q R6_1 (keepQ (some ([0, 1])) Q) σ := rfl
@[simp] def R6_4 : List Op1 := [⟨some 17, .move (.tmp 0), none⟩, ⟨some 18, .call { callee := .builtin .len, args := #[.tmp 17], argTypes := #[22] }, none⟩, ⟨some 19, .move (.tmp 1), none⟩, ⟨some 20, .call { callee := .builtin .len, args := #[.tmp 19], argTypes := #[22] }, none⟩, ⟨some 21, .binOp .add 3 (.tmp 18) (.tmp 20) 3, none⟩, ⟨some 22, .binOp .gtr 3 (.tmp 21) (.const (.int .i64 16383)) 3, none⟩]
def K6_4 : Cd := .reg (some ([0, 1, 22])) R6_4
@[simp] theorem W6_4 {Q : Ex → St → Prop} {σ : St} : WPk Tryd.prog K6_4 Q σ = WPl Tryd.prog Q R6_4 (keepQ (some ([0, 1, 22])) Q) σ := rfl
@[simp] def R6_7 : List Op1 := [⟨some 23, .call { callee := .value (.func 7), args := #[], argTypes := #[] }, none⟩, ⟨some 4, .assign (.tmp 23), none⟩]
def K6_7 : Cd := .reg (some ([4])) R6_7
@[simp] theorem W6_7 {Q : Ex → St → Prop} {σ : St} : WPk Tryd.prog K6_7 Q σ = WPl Tryd.prog Q R6_7 (keepQ (some ([4])) Q) σ := rfl
def K6_8 : Cd := .ret
@[simp] theorem W6_8 {Q : Ex → St → Prop} {σ : St} : WPk Tryd.prog K6_8 Q σ = Q .ret σ := rfl
def K6_6 : Cd := .seq K6_7 K6_8
@[simp] theorem W6_6 {Q : Ex → St → Prop} {σ : St} : WPk Tryd.prog K6_6 Q σ = WPk Tryd.prog K6_7 (seqK (WPk Tryd.prog K6_8) Q) σ := WPk_seq
def K6_9 : Cd := .skip
@[simp] theorem W6_9 {Q : Ex → St → Prop} {σ : St} : WPk Tryd.prog K6_9 Q σ = Q .normal σ := rfl
def K6_5 : Cd := .cond (.tmp 22) K6_6 K6_9
@[simp] theorem W6_5 {Q : Ex → St → Prop} {σ : St} : WPk Tryd.prog K6_5 Q σ = WPk Tryd.prog (.cond (.tmp 22) K6_6 K6_9) Q σ := rfl
def K6_3 : Cd := .seq K6_4 K6_5
@[simp] theorem W6_3 {Q : Ex → St → Prop} {σ : St} : WPk Tryd.prog K6_3 Q σ = WPk Tryd.prog K6_4 (seqK (WPk Tryd.prog K6_5) Q) σ := WPk_seq
@[simp] def R6_11 : List Op1 := [⟨some 25, .move (.tmp 0), none⟩, ⟨some 26, .call { callee := .value (.func 9), args := #[.tmp 25], argTypes := #[22] }, none⟩, ⟨some 24, .move (.tmp 26), none⟩, ⟨some 27, .extract (.tmp 24) 0, none⟩, ⟨some 28, .extract (.tmp 24) 1, none⟩, ⟨some 29, .extract (.tmp 24) 2, none⟩, ⟨some 5, .assign (.tmp 27), none⟩, ⟨some 6, .assign (.tmp 28), none⟩, ⟨some 7, .assign (.tmp 29), none⟩]
def K6_11 : Cd := .reg (some ([0, 1, 5, 6, 7])) R6_11
@[simp] theorem W6_11 {Q : Ex → St → Prop} {σ : St} : WPk Tryd.prog K6_11 Q σ = WPl Tryd.prog Q R6_11 (keepQ (some ([0, 1, 5, 6, 7])) Q) σ := rfl
@[simp] def R6_13 : List Op1 := [⟨some 31, .move (.tmp 1), none⟩, ⟨some 32, .call { callee := .value (.func 9), args := #[.tmp 31], argTypes := #[22] }, none⟩, ⟨some 30, .move (.tmp 32), none⟩, ⟨some 33, .extract (.tmp 30) 0, none⟩, ⟨some 34, .extract (.tmp 30) 1, none⟩, ⟨some 35, .extract (.tmp 30) 2, none⟩, ⟨some 8, .assign (.tmp 33), none⟩, ⟨some 9, .assign (.tmp 34), none⟩, ⟨some 10, .assign (.tmp 35), none⟩]
def K6_13 : Cd := .reg (some ([0, 1, 5, 6, 7, 8, 9, 10])) R6_13
@[simp] theorem W6_13 {Q : Ex → St → Prop} {σ : St} : WPk Tryd.prog K6_13 Q σ = WPl Tryd.prog Q R6_13 (keepQ (some ([0, 1, 5, 6, 7, 8, 9, 10])) Q) σ := rfl
@[simp] def R6_15 : List Op1 := [⟨some 37, .move (.tmp 0), none⟩, ⟨some 38, .call { callee := .value (.func 16), args := #[.tmp 37], argTypes := #[22] }, none⟩, ⟨some 39, .buildSlice 22 1 #[(0, .const (.int .u8 10))], none⟩, ⟨some 40, .call { callee := .builtin .append, args := #[.tmp 38, .tmp 39], argTypes := #[22, 22] }, none⟩, ⟨some 41, .move (.tmp 1), none⟩, ⟨some 42, .call { callee := .builtin .append, args := #[.tmp 40, .tmp 41], argTypes := #[22, 22] }, none⟩, ⟨some 43, .call { callee := .value (.func 9), args := #[.tmp 42], argTypes := #[22] }, none⟩, ⟨some 36, .move (.tmp 43), none⟩, ⟨some 44, .extract (.tmp 36) 0, none⟩, ⟨some 45, .extract (.tmp 36) 1, none⟩, ⟨some 46, .extract (.tmp 36) 2, none⟩, ⟨some 11, .assign (.tmp 44), none⟩, ⟨some 12, .assign (.tmp 45), none⟩, ⟨some 13, .assign (.tmp 46), none⟩]
def K6_15 : Cd := .reg (some ([0, 5, 6, 7, 8, 9, 10, 11, 12, 13])) R6_15
@[simp] theorem W6_15 {Q : Ex → St → Prop} {σ : St} : WPk Tryd.prog K6_15 Q σ = WPl Tryd.prog Q R6_15 (keepQ (some ([0, 5, 6, 7, 8, 9, 10, 11, 12, 13])) Q) σ := rfl
@[simp] def R6_18 : List Op1 := [⟨some 47, .move (.tmp 7), none⟩, ⟨some 48, .binOp .neq 26 (.tmp 47) (.const (.int .i64 0)) 26, none⟩]
def K6_18 : Cd := .reg (some ([0, 5, 6, 7, 8, 9, 10, 11, 12, 13, 48])) R6_18
@[simp] theorem W6_18 {Q : Ex → St → Prop} {σ : St} : WPk Tryd.prog K6_18 Q σ = WPl Tryd.prog Q R6_18 (keepQ (some ([0, 5, 6, 7, 8, 9, 10, 11, 12, 13, 48])) Q) σ := rfl
@[simp] def R6_21 : List Op1 := [⟨some 49, .move (.tmp 13), none⟩, ⟨some 50, .move (.tmp 7), none⟩, ⟨some 51, .binOp .eql 26 (.tmp 49) (.tmp 50) 26, none⟩, ⟨some 52, .move (.tmp 51), none⟩, ⟨some 53, .move (.tmp 12), some (52, true)⟩, ⟨some 54, .move (.tmp 6), some (52, true)⟩, ⟨some 55, .binOp .eql 3 (.tmp 53) (.tmp 54) 3, some (52, true)⟩, ⟨some 56, .pick (.tmp 52) (.tmp 55) (.const (.bool false)), none⟩, ⟨some 57, .move (.tmp 56), none⟩, ⟨some 58, .move (.tmp 11), some (57, true)⟩, ⟨some 59, .call { callee := .builtin .len, args := #[.tmp 58], argTypes := #[25] }, some (57, true)⟩, ⟨some 60, .binOp .eql 3 (.tmp 59) (.const (.int .i64 0)) 3, some (57, true)⟩, ⟨some 61, .pick (.tmp 57) (.tmp 60) (.const (.bool false)), none⟩, ⟨some 62, .move (.tmp 61), none⟩, ⟨some 63, .call { callee := .value (.func 7), args := #[], argTypes := #[] }, some (62, true)⟩, ⟨some 64, .pick (.tmp 62) (.tmp 63) (.const (.bool false)), none⟩, ⟨some 4, .assign (.tmp 64), none⟩]
def K6_21 : Cd := .reg (some ([4])) R6_21
@[simp] theorem W6_21 {Q : Ex → St → Prop} {σ : St} : WPk Tryd.prog K6_21 Q σ = WPl Tryd.prog Q R6_21 (keepQ (some ([4])) Q) σ := rfl
def K6_22 : Cd := .ret
@[simp] theorem W6_22 {Q : Ex → St → Prop} {σ : St} : WPk Tryd.prog K6_22 Q σ = Q .ret σ := rfl
def K6_20 : Cd := .seq K6_21 K6_22
@[simp] theorem W6_20 {Q : Ex → St → Prop} {σ : St} : WPk Tryd.prog K6_20 Q σ = WPk Tryd.prog K6_21 (seqK (WPk Tryd.prog K6_22) Q) σ := WPk_seq
def K6_23 : Cd := .skip
@[simp] theorem W6_23 {Q : Ex → St → Prop} {σ : St} : WPk Tryd.prog K6_23 Q σ = Q .normal σ := rfl
def K6_19 : Cd := .cond (.tmp 48) K6_20 K6_23
@[simp] theorem W6_19 {Q : Ex → St → Prop} {σ : St} : WPk Tryd.prog K6_19 Q σ = WPk Tryd.prog (.cond (.tmp 48) K6_20 K6_23) Q σ := rfl
def K6_17 : Cd := .seq K6_18 K6_19
@[simp] theorem W6_17 {Q : Ex → St → Prop} {σ : St} : WPk Tryd.prog K6_17 Q σ = WPk Tryd.prog K6_18 (seqK (WPk Tryd.prog K6_19) Q) σ := WPk_seq
@[simp] def R6_25 : List Op1 := [⟨some 14, .assign (.const (.int .i64 1)), none⟩]
def K6_25 : Cd := .reg (some ([0, 5, 8, 9, 10, 11, 12, 13, 14])) R6_25
@[simp] theorem W6_25 {Q : Ex → St → Prop} {σ : St} : WPk Tryd.prog K6_25 Q σ = WPl Tryd.prog Q R6_25 (keepQ (some ([0, 5, 8, 9, 10, 11, 12, 13, 14])) Q) σ := rfl
@[simp] def R6_28 : List Op1 := [⟨some 15, .assign (.const (.int .i64 0)), none⟩]
def K6_28 : Cd := .reg (some ([0, 5, 8, 9, 10, 11, 12, 13, 14, 15])) R6_28
@[simp] theorem W6_28 {Q : Ex → St → Prop} {σ : St} : WPk Tryd.prog K6_28 Q σ = WPl Tryd.prog Q R6_28 (keepQ (some ([0, 5, 8, 9, 10, 11, 12, 13, 14, 15])) Q) σ := rfl
@[simp] def R6_33 : List Op1 := [⟨some 65, .move (.tmp 15), none⟩, ⟨some 66, .move (.tmp 0), none⟩, ⟨some 67, .call { callee := .builtin .len, args := #[.tmp 66], argTypes := #[22] }, none⟩, ⟨some 68, .binOp .lss 3 (.tmp 65) (.tmp 67) 3, none⟩]
def K6_33 : Cd := .reg (some ([0, 5, 8, 9, 10, 11, 12, 13, 14, 15, 68])) R6_33
@[simp] theorem W6_33 {Q : Ex → St → Prop} {σ : St} : WPk Tryd.prog K6_33 Q σ = WPl Tryd.prog Q R6_33 (keepQ (some ([0, 5, 8, 9, 10, 11, 12, 13, 14, 15, 68])) Q) σ := rfl
def K6_35 : Cd := .skip
@[simp] theorem W6_35 {Q : Ex → St → Prop} {σ : St} : WPk Tryd.prog K6_35 Q σ = Q .normal σ := rfl
def K6_36 : Cd := .exit 0
@[simp] theorem W6_36 {Q : Ex → St → Prop} {σ : St} : WPk Tryd.prog K6_36 Q σ = Q (.exit 0) σ := rfl
def K6_34 : Cd := .cond (.tmp 68) K6_35 K6_36
@[simp] theorem W6_34 {Q : Ex → St → Prop} {σ : St} : WPk Tryd.prog K6_34 Q σ = WPk Tryd.prog (.cond (.tmp 68) K6_35 K6_36) Q σ := rfl
def K6_32 : Cd := .seq K6_33 K6_34
@[simp] theorem W6_32 {Q : Ex → St → Prop} {σ : St} : WPk Tryd.prog K6_32 Q σ = WPk Tryd.prog K6_33 (seqK (WPk Tryd.prog K6_34) Q) σ := WPk_seq
@[simp] def R6_40 : List Op1 := [⟨some 71, .move (.tmp 0), none⟩, ⟨some 72, .move (.tmp 15), none⟩, ⟨some 73, .indexAddr 22 (.tmp 71) (.tmp 72), none⟩, ⟨some 74, .load 5 (.tmp 73), none⟩, ⟨some 75, .binOp .eql 5 (.tmp 74) (.const (.int .u8 10)) 5, none⟩]
def K6_40 : Cd := .reg (some ([0, 5, 8, 9, 10, 11, 12, 13, 14, 15, 75])) R6_40
@[simp] theorem W6_40 {Q : Ex → St → Prop} {σ : St} : WPk Tryd.prog K6_40 Q σ = WPl Tryd.prog Q R6_40 (keepQ (some ([0, 5, 8, 9, 10, 11, 12, 13, 14, 15, 75])) Q) σ := rfl
@[simp] def R6_42 : List Op1 := [⟨some 76, .move (.tmp 14), none⟩, ⟨some 77, .binOp .add 3 (.tmp 76) (.const (.int .i64 1)) 3, none⟩, ⟨some 14, .assign (.tmp 77), none⟩]
def K6_42 : Cd := .reg (some ([0, 5, 8, 9, 10, 11, 12, 13, 14, 15])) R6_42
@[simp] theorem W6_42 {Q : Ex → St → Prop} {σ : St} : WPk Tryd.prog K6_42 Q σ = WPl Tryd.prog Q R6_42 (keepQ (some ([0, 5, 8, 9, 10, 11, 12, 13, 14, 15])) Q) σ := rfl
def K6_43 : Cd := .skip
@[simp] theorem W6_43 {Q : Ex → St → Prop} {σ : St} : WPk Tryd.prog K6_43 Q σ = Q .normal σ := rfl
def K6_41 : Cd := .cond (.tmp 75) K6_42 K6_43
@[simp] theorem W6_41 {Q : Ex → St → Prop} {σ : St} : WPk Tryd.prog K6_41 Q σ = WPk Tryd.prog (.cond (.tmp 75) K6_42 K6_43) Q σ := rfl
def K6_39 : Cd := .seq K6_40 K6_41
@[simp] theorem W6_39 {Q : Ex → St → Prop} {σ : St} : WPk Tryd.prog K6_39 Q σ = WPk Tryd.prog K6_40 (seqK (WPk Tryd.prog K6_41) Q) σ := WPk_seq
def K6_38 : Cd := .block 1 K6_39
@[simp] theorem W6_38 {Q : Ex → St → Prop} {σ : St} : WPk Tryd.prog K6_38 Q σ = WPk Tryd.prog K6_39 (blkQ 1 Q) σ := rfl
@[simp] def R6_44 : List Op1 := [⟨some 69, .move (.tmp 15), none⟩, ⟨some 70, .binOp .add 3 (.tmp 69) (.const (.int .i64 1)) 3, none⟩, ⟨some 15, .assign (.tmp 70), none⟩]
def K6_44 : Cd := .reg (some ([0, 5, 8, 9, 10, 11, 12, 13, 14, 15])) R6_44
@[simp] theorem W6_44 {Q : Ex → St → Prop} {σ : St} : WPk Tryd.prog K6_44 Q σ = WPl Tryd.prog Q R6_44 (keepQ (some ([0, 5, 8, 9, 10, 11, 12, 13, 14, 15])) Q) σ := rfl
def K6_37 : Cd := .seq K6_38 K6_44
@[simp] theorem W6_37 {Q : Ex → St → Prop} {σ : St} : WPk Tryd.prog K6_37 Q σ = WPk Tryd.prog K6_38 (seqK (WPk Tryd.prog K6_44) Q) σ := WPk_seq
def K6_31 : Cd := .seq K6_32 K6_37
@[simp] theorem W6_31 {Q : Ex → St → Prop} {σ : St} : WPk Tryd.prog K6_31 Q σ = WPk Tryd.prog K6_32 (seqK (WPk Tryd.prog K6_37) Q) σ := WPk_seq
def K6_30 : Cd := .loop K6_31
@[simp] theorem W6_30 {Q : Ex → St → Prop} {σ : St} : WPk Tryd.prog K6_30 Q σ = WPk Tryd.prog (.loop K6_31) Q σ := rfl
def K6_29 : Cd := .block 0 K6_30
@[simp] theorem W6_29 {Q : Ex → St → Prop} {σ : St} : WPk Tryd.prog K6_29 Q σ = WPk Tryd.prog K6_30 (blkQ 0 Q) σ := rfl
def K6_27 : Cd := .seq K6_28 K6_29
@[simp] theorem W6_27 {Q : Ex → St → Prop} {σ : St} : WPk Tryd.prog K6_27 Q σ = WPk Tryd.prog K6_28 (seqK (WPk Tryd.prog K6_29) Q) σ := WPk_seq
@[simp] def R6_47 : List Op1 := [⟨some 78, .move (.tmp 10), none⟩, ⟨some 79, .binOp .neq 26 (.tmp 78) (.const (.int .i64 0)) 26, none⟩]
def K6_47 : Cd := .reg (some ([5, 8, 9, 10, 11, 12, 13, 14, 79])) R6_47
@[simp] theorem W6_47 {Q : Ex → St → Prop} {σ : St} : WPk Tryd.prog K6_47 Q σ = WPl Tryd.prog Q R6_47 (keepQ (some ([5, 8, 9, 10, 11, 12, 13, 14, 79])) Q) σ := rfl
@[simp] def R6_50 : List Op1 := [⟨some 80, .move (.tmp 13), none⟩, ⟨some 81, .move (.tmp 10), none⟩, ⟨some 82, .binOp .eql 26 (.tmp 80) (.tmp 81) 26, none⟩, ⟨some 83, .move (.tmp 82), none⟩, ⟨some 84, .move (.tmp 12), some (83, true)⟩, ⟨some 85, .move (.tmp 14), some (83, true)⟩, ⟨some 86, .move (.tmp 9), some (83, true)⟩, ⟨some 87, .binOp .add 3 (.tmp 85) (.tmp 86) 3, some (83, true)⟩, ⟨some 88, .binOp .eql 3 (.tmp 84) (.tmp 87) 3, some (83, true)⟩, ⟨some 89, .pick (.tmp 83) (.tmp 88) (.const (.bool false)), none⟩, ⟨some 90, .move (.tmp 89), none⟩, ⟨some 91, .move (.tmp 11), some (90, true)⟩, ⟨some 92, .call { callee := .builtin .len, args := #[.tmp 91], argTypes := #[25] }, some (90, true)⟩, ⟨some 93, .binOp .eql 3 (.tmp 92) (.const (.int .i64 0)) 3, some (90, true)⟩, ⟨some 94, .pick (.tmp 90) (.tmp 93) (.const (.bool false)), none⟩, ⟨some 95, .move (.tmp 94), none⟩, ⟨some 96, .call { callee := .value (.func 7), args := #[], argTypes := #[] }, some (95, true)⟩, ⟨some 97, .pick (.tmp 95) (.tmp 96) (.const (.bool false)), none⟩, ⟨some 4, .assign (.tmp 97), none⟩]
def K6_50 : Cd := .reg (some ([4])) R6_50
@[simp] theorem W6_50 {Q : Ex → St → Prop} {σ : St} : WPk Tryd.prog K6_50 Q σ = WPl Tryd.prog Q R6_50 (keepQ (some ([4])) Q) σ := rfl
def K6_51 : Cd := .ret
@[simp] theorem W6_51 {Q : Ex → St → Prop} {σ : St} : WPk Tryd.prog K6_51 Q σ = Q .ret σ := rfl
def K6_49 : Cd := .seq K6_50 K6_51
@[simp] theorem W6_49 {Q : Ex → St → Prop} {σ : St} : WPk Tryd.prog K6_49 Q σ = WPk Tryd.prog K6_50 (seqK (WPk Tryd.prog K6_51) Q) σ := WPk_seq
def K6_52 : Cd := .skip
@[simp] theorem W6_52 {Q : Ex → St → Prop} {σ : St} : WPk Tryd.prog K6_52 Q σ = Q .normal σ := rfl
def K6_48 : Cd := .cond (.tmp 79) K6_49 K6_52
@[simp] theorem W6_48 {Q : Ex → St → Prop} {σ : St} : WPk Tryd.prog K6_48 Q σ = WPk Tryd.prog (.cond (.tmp 79) K6_49 K6_52) Q σ := rfl
def K6_46 : Cd := .seq K6_47 K6_48
@[simp] theorem W6_46 {Q : Ex → St → Prop} {σ : St} : WPk Tryd.prog K6_46 Q σ = WPk Tryd.prog K6_47 (seqK (WPk Tryd.prog K6_48) Q) σ := WPk_seq
@[simp] def R6_55 : List Op1 := [⟨some 98, .move (.tmp 13), none⟩, ⟨some 99, .binOp .neq 26 (.tmp 98) (.const (.int .i64 0)) 26, none⟩, ⟨some 100, .move (.tmp 99), none⟩, ⟨some 101, .move (.tmp 11), some (100, false)⟩, ⟨some 102, .call { callee := .builtin .len, args := #[.tmp 101], argTypes := #[25] }, some (100, false)⟩, ⟨some 103, .move (.tmp 5), some (100, false)⟩, ⟨some 104, .call { callee := .builtin .len, args := #[.tmp 103], argTypes := #[25] }, some (100, false)⟩, ⟨some 105, .move (.tmp 8), some (100, false)⟩, ⟨some 106, .call { callee := .builtin .len, args := #[.tmp 105], argTypes := #[25] }, some (100, false)⟩, ⟨some 107, .binOp .add 3 (.tmp 104) (.tmp 106) 3, some (100, false)⟩, ⟨some 108, .binOp .neq 3 (.tmp 102) (.tmp 107) 3, some (100, false)⟩, ⟨some 109, .pick (.tmp 100) (.const (.bool true)) (.tmp 108), none⟩, ⟨some 110, .move (.tmp 109), none⟩, ⟨some 111, .move (.tmp 11), some (110, false)⟩, ⟨some 112, .move (.tmp 5), some (110, false)⟩, ⟨some 113, .call { callee := .builtin .len, args := #[.tmp 112], argTypes := #[25] }, some (110, false)⟩, ⟨some 114, .slice 25 (.tmp 111) none (some (.tmp 113)) none, some (110, false)⟩, ⟨some 115, .move (.tmp 5), some (110, false)⟩, ⟨some 116, .call { callee := .value (.func 12), args := #[.tmp 114, .tmp 115], argTypes := #[25, 25] }, some (110, false)⟩, ⟨some 117, .unOp .not 4 (.tmp 116), some (110, false)⟩, ⟨some 118, .pick (.tmp 110) (.const (.bool true)) (.tmp 117), none⟩, ⟨some 119, .move (.tmp 118), none⟩, ⟨some 120, .move (.tmp 11), some (119, false)⟩, ⟨some 121, .move (.tmp 5), some (119, false)⟩, ⟨some 122, .call { callee := .builtin .len, args := #[.tmp 121], argTypes := #[25] }, some (119, false)⟩, ⟨some 123, .slice 25 (.tmp 120) (some (.tmp 122)) none none, some (119, false)⟩, ⟨some 124, .move (.tmp 8), some (119, false)⟩, ⟨some 125, .call { callee := .value (.func 13), args := #[.tmp 123, .tmp 124], argTypes := #[25, 25] }, some (119, false)⟩, ⟨some 126, .unOp .not 4 (.tmp 125), some (119, false)⟩, ⟨some 127, .pick (.tmp 119) (.const (.bool true)) (.tmp 126), none⟩]
def K6_55 : Cd := .reg (some ([5, 8, 11, 14, 127])) R6_55
@[simp] theorem W6_55 {Q : Ex → St → Prop} {σ : St} : WPk Tryd.prog K6_55 Q σ = WPl Tryd.prog Q R6_55 (keepQ (some ([5, 8, 11, 14, 127])) Q) σ := rfl
@[simp] def R6_58 : List Op1 := [⟨some 4, .assign (.const (.bool false)), none⟩]
def K6_58 : Cd := .reg (some ([4])) R6_58
@[simp] theorem W6_58 {Q : Ex → St → Prop} {σ : St} : WPk Tryd.prog K6_58 Q σ = WPl Tryd.prog Q R6_58 (keepQ (some ([4])) Q) σ := rfl
def K6_59 : Cd := .ret
@[simp] theorem W6_59 {Q : Ex → St → Prop} {σ : St} : WPk Tryd.prog K6_59 Q σ = Q .ret σ := rfl
def K6_57 : Cd := .seq K6_58 K6_59
@[simp] theorem W6_57 {Q : Ex → St → Prop} {σ : St} : WPk Tryd.prog K6_57 Q σ = WPk Tryd.prog K6_58 (seqK (WPk Tryd.prog K6_59) Q) σ := WPk_seq
def K6_60 : Cd := .skip
@[simp] theorem W6_60 {Q : Ex → St → Prop} {σ : St} : WPk Tryd.prog K6_60 Q σ = Q .normal σ := rfl
def K6_56 : Cd := .cond (.tmp 127) K6_57 K6_60
@[simp] theorem W6_56 {Q : Ex → St → Prop} {σ : St} : WPk Tryd.prog K6_56 Q σ = WPk Tryd.prog (.cond (.tmp 127) K6_57 K6_60) Q σ := rfl
def K6_54 : Cd := .seq K6_55 K6_56
@[simp] theorem W6_54 {Q : Ex → St → Prop} {σ : St} : WPk Tryd.prog K6_54 Q σ = WPk Tryd.prog K6_55 (seqK (WPk Tryd.prog K6_56) Q) σ := WPk_seq
@[simp] def R6_63 : List Op1 := [⟨some 16, .assign (.const (.int .i64 0)), none⟩]
def K6_63 : Cd := .reg (some ([5, 8, 11, 14, 16])) R6_63
@[simp] theorem W6_63 {Q : Ex → St → Prop} {σ : St} : WPk Tryd.prog K6_63 Q σ = WPl Tryd.prog Q R6_63 (keepQ (some ([5, 8, 11, 14, 16])) Q) σ := rfl
@[simp] def R6_68 : List Op1 := [⟨some 128, .move (.tmp 16), none⟩, ⟨some 129, .move (.tmp 8), none⟩, ⟨some 130, .call { callee := .builtin .len, args := #[.tmp 129], argTypes := #[25] }, none⟩, ⟨some 131, .binOp .lss 3 (.tmp 128) (.tmp 130) 3, none⟩]
def K6_68 : Cd := .reg (some ([5, 8, 11, 14, 16, 131])) R6_68
@[simp] theorem W6_68 {Q : Ex → St → Prop} {σ : St} : WPk Tryd.prog K6_68 Q σ = WPl Tryd.prog Q R6_68 (keepQ (some ([5, 8, 11, 14, 16, 131])) Q) σ := rfl
def K6_70 : Cd := .skip
@[simp] theorem W6_70 {Q : Ex → St → Prop} {σ : St} : WPk Tryd.prog K6_70 Q σ = Q .normal σ := rfl
def K6_71 : Cd := .exit 2
@[simp] theorem W6_71 {Q : Ex → St → Prop} {σ : St} : WPk Tryd.prog K6_71 Q σ = Q (.exit 2) σ := rfl
def K6_69 : Cd := .cond (.tmp 131) K6_70 K6_71
@[simp] theorem W6_69 {Q : Ex → St → Prop} {σ : St} : WPk Tryd.prog K6_69 Q σ = WPk Tryd.prog (.cond (.tmp 131) K6_70 K6_71) Q σ := rfl
def K6_67 : Cd := .seq K6_68 K6_69
@[simp] theorem W6_67 {Q : Ex → St → Prop} {σ : St} : WPk Tryd.prog K6_67 Q σ = WPk Tryd.prog K6_68 (seqK (WPk Tryd.prog K6_69) Q) σ := WPk_seq
@[simp] def R6_75 : List Op1 := [⟨some 134, .move (.tmp 11), none⟩, ⟨some 135, .move (.tmp 5), none⟩, ⟨some 136, .call { callee := .builtin .len, args := #[.tmp 135], argTypes := #[25] }, none⟩, ⟨some 137, .move (.tmp 16), none⟩, ⟨some 138, .binOp .add 3 (.tmp 136) (.tmp 137) 3, none⟩, ⟨some 139, .indexAddr 25 (.tmp 134) (.tmp 138), none⟩, ⟨some 140, .fieldAddr 35 (.tmp 139) 3, none⟩, ⟨some 141, .load 3 (.tmp 140), none⟩, ⟨some 142, .move (.tmp 14), none⟩, ⟨some 143, .move (.tmp 8), none⟩, ⟨some 144, .move (.tmp 16), none⟩, ⟨some 145, .indexAddr 25 (.tmp 143) (.tmp 144), none⟩, ⟨some 146, .fieldAddr 35 (.tmp 145) 3, none⟩, ⟨some 147, .load 3 (.tmp 146), none⟩, ⟨some 148, .binOp .add 3 (.tmp 142) (.tmp 147) 3, none⟩, ⟨some 149, .binOp .neq 3 (.tmp 141) (.tmp 148) 3, none⟩]
def K6_75 : Cd := .draw ({ live := [5, 8, 11, 14, 16, 149], dms := [{ brw := true }, { brw := true }, { brw := true }, { brw := true }, { brw := true }, { brw := true }, { brw := true }, { brw := true }, { brw := true }, { brw := true }, { brw := true }, { brw := true }, { brw := true }, { brw := true }, { brw := true }, { brw := true }] }) R6_75
@[simp] theorem W6_75 {Q : Ex → St → Prop} {σ : St} : WPk Tryd.prog K6_75 Q σ = WPk Tryd.prog (.draw ({ live := [5, 8, 11, 14, 16, 149], dms := [{ brw := true }, { brw := true }, { brw := true }, { brw := true }, { brw := true }, { brw := true }, { brw := true }, { brw := true }, { brw := true }, { brw := true }, { brw := true }, { brw := true }, { brw := true }, { brw := true }, { brw := true }, { brw := true }] }) R6_75) Q σ := rfl
@[simp] def R6_78 : List Op1 := [⟨some 4, .assign (.const (.bool false)), none⟩]
def K6_78 : Cd := .reg (some ([4])) R6_78
@[simp] theorem W6_78 {Q : Ex → St → Prop} {σ : St} : WPk Tryd.prog K6_78 Q σ = WPl Tryd.prog Q R6_78 (keepQ (some ([4])) Q) σ := rfl
def K6_79 : Cd := .ret
@[simp] theorem W6_79 {Q : Ex → St → Prop} {σ : St} : WPk Tryd.prog K6_79 Q σ = Q .ret σ := rfl
def K6_77 : Cd := .seq K6_78 K6_79
@[simp] theorem W6_77 {Q : Ex → St → Prop} {σ : St} : WPk Tryd.prog K6_77 Q σ = WPk Tryd.prog K6_78 (seqK (WPk Tryd.prog K6_79) Q) σ := WPk_seq
def K6_80 : Cd := .skip
@[simp] theorem W6_80 {Q : Ex → St → Prop} {σ : St} : WPk Tryd.prog K6_80 Q σ = Q .normal σ := rfl
def K6_76 : Cd := .cond (.tmp 149) K6_77 K6_80
@[simp] theorem W6_76 {Q : Ex → St → Prop} {σ : St} : WPk Tryd.prog K6_76 Q σ = WPk Tryd.prog (.cond (.tmp 149) K6_77 K6_80) Q σ := rfl
def K6_74 : Cd := .seq K6_75 K6_76
@[simp] theorem W6_74 {Q : Ex → St → Prop} {σ : St} : WPk Tryd.prog K6_74 Q σ = WPk Tryd.prog K6_75 (seqK (WPk Tryd.prog K6_76) Q) σ := WPk_seq
def K6_73 : Cd := .block 3 K6_74
@[simp] theorem W6_73 {Q : Ex → St → Prop} {σ : St} : WPk Tryd.prog K6_73 Q σ = WPk Tryd.prog K6_74 (blkQ 3 Q) σ := rfl
@[simp] def R6_81 : List Op1 := [⟨some 132, .move (.tmp 16), none⟩, ⟨some 133, .binOp .add 3 (.tmp 132) (.const (.int .i64 1)) 3, none⟩, ⟨some 16, .assign (.tmp 133), none⟩]
def K6_81 : Cd := .reg (some ([5, 8, 11, 14, 16])) R6_81
@[simp] theorem W6_81 {Q : Ex → St → Prop} {σ : St} : WPk Tryd.prog K6_81 Q σ = WPl Tryd.prog Q R6_81 (keepQ (some ([5, 8, 11, 14, 16])) Q) σ := rfl
def K6_72 : Cd := .seq K6_73 K6_81
@[simp] theorem W6_72 {Q : Ex → St → Prop} {σ : St} : WPk Tryd.prog K6_72 Q σ = WPk Tryd.prog K6_73 (seqK (WPk Tryd.prog K6_81) Q) σ := WPk_seq
def K6_66 : Cd := .seq K6_67 K6_72
@[simp] theorem W6_66 {Q : Ex → St → Prop} {σ : St} : WPk Tryd.prog K6_66 Q σ = WPk Tryd.prog K6_67 (seqK (WPk Tryd.prog K6_72) Q) σ := WPk_seq
def K6_65 : Cd := .loop K6_66
@[simp] theorem W6_65 {Q : Ex → St → Prop} {σ : St} : WPk Tryd.prog K6_65 Q σ = WPk Tryd.prog (.loop K6_66) Q σ := rfl
def K6_64 : Cd := .block 2 K6_65
@[simp] theorem W6_64 {Q : Ex → St → Prop} {σ : St} : WPk Tryd.prog K6_64 Q σ = WPk Tryd.prog K6_65 (blkQ 2 Q) σ := rfl
def K6_62 : Cd := .seq K6_63 K6_64
@[simp] theorem W6_62 {Q : Ex → St → Prop} {σ : St} : WPk Tryd.prog K6_62 Q σ = WPk Tryd.prog K6_63 (seqK (WPk Tryd.prog K6_64) Q) σ := WPk_seq
@[simp] def R6_83 : List Op1 := [⟨some 150, .call { callee := .value (.func 7), args := #[], argTypes := #[] }, none⟩, ⟨some 4, .assign (.tmp 150), none⟩]
def K6_83 : Cd := .reg (some ([4])) R6_83
@[simp] theorem W6_83 {Q : Ex → St → Prop} {σ : St} : WPk Tryd.prog K6_83 Q σ = WPl Tryd.prog Q R6_83 (keepQ (some ([4])) Q) σ := rfl
def K6_84 : Cd := .ret
@[simp] theorem W6_84 {Q : Ex → St → Prop} {σ : St} : WPk Tryd.prog K6_84 Q σ = Q .ret σ := rfl
def K6_82 : Cd := .seq K6_83 K6_84
@[simp] theorem W6_82 {Q : Ex → St → Prop} {σ : St} : WPk Tryd.prog K6_82 Q σ = WPk Tryd.prog K6_83 (seqK (WPk Tryd.prog K6_84) Q) σ := WPk_seq
def K6_61 : Cd := .seq K6_62 K6_82
@[simp] theorem W6_61 {Q : Ex → St → Prop} {σ : St} : WPk Tryd.prog K6_61 Q σ = WPk Tryd.prog K6_62 (seqK (WPk Tryd.prog K6_82) Q) σ := WPk_seq
def K6_53 : Cd := .seq K6_54 K6_61
@[simp] theorem W6_53 {Q : Ex → St → Prop} {σ : St} : WPk Tryd.prog K6_53 Q σ = WPk Tryd.prog K6_54 (seqK (WPk Tryd.prog K6_61) Q) σ := WPk_seq
def K6_45 : Cd := .seq K6_46 K6_53
@[simp] theorem W6_45 {Q : Ex → St → Prop} {σ : St} : WPk Tryd.prog K6_45 Q σ = WPk Tryd.prog K6_46 (seqK (WPk Tryd.prog K6_53) Q) σ := WPk_seq
def K6_26 : Cd := .seq K6_27 K6_45
@[simp] theorem W6_26 {Q : Ex → St → Prop} {σ : St} : WPk Tryd.prog K6_26 Q σ = WPk Tryd.prog K6_27 (seqK (WPk Tryd.prog K6_45) Q) σ := WPk_seq
def K6_24 : Cd := .seq K6_25 K6_26
@[simp] theorem W6_24 {Q : Ex → St → Prop} {σ : St} : WPk Tryd.prog K6_24 Q σ = WPk Tryd.prog K6_25 (seqK (WPk Tryd.prog K6_26) Q) σ := WPk_seq
def K6_16 : Cd := .seq K6_17 K6_24
@[simp] theorem W6_16 {Q : Ex → St → Prop} {σ : St} : WPk Tryd.prog K6_16 Q σ = WPk Tryd.prog K6_17 (seqK (WPk Tryd.prog K6_24) Q) σ := WPk_seq
def K6_14 : Cd := .seq K6_15 K6_16
@[simp] theorem W6_14 {Q : Ex → St → Prop} {σ : St} : WPk Tryd.prog K6_14 Q σ = WPk Tryd.prog K6_15 (seqK (WPk Tryd.prog K6_16) Q) σ := WPk_seq
def K6_12 : Cd := .seq K6_13 K6_14
@[simp] theorem W6_12 {Q : Ex → St → Prop} {σ : St} : WPk Tryd.prog K6_12 Q σ = WPk Tryd.prog K6_13 (seqK (WPk Tryd.prog K6_14) Q) σ := WPk_seq
def K6_10 : Cd := .seq K6_11 K6_12
@[simp] theorem W6_10 {Q : Ex → St → Prop} {σ : St} : WPk Tryd.prog K6_10 Q σ = WPk Tryd.prog K6_11 (seqK (WPk Tryd.prog K6_12) Q) σ := WPk_seq
def K6_2 : Cd := .seq K6_3 K6_10
@[simp] theorem W6_2 {Q : Ex → St → Prop} {σ : St} : WPk Tryd.prog K6_2 Q σ = WPk Tryd.prog K6_3 (seqK (WPk Tryd.prog K6_10) Q) σ := WPk_seq
def K6_0 : Cd := .seq K6_1 K6_2
@[simp] theorem W6_0 {Q : Ex → St → Prop} {σ : St} : WPk Tryd.prog K6_0 Q σ = WPk Tryd.prog K6_1 (seqK (WPk Tryd.prog K6_2) Q) σ := WPk_seq
theorem k6 : FnK Tryd.prog 6 (151) ([.tmp 4]) K6_0 := ⟨_, _, _, ok6, by kernel_rfl, by kernel_rfl, by kernel_rfl⟩
-- ROOT 6 0 85
@[simp] def R7_1 : List Op1 := [⟨some 0, .assign (.const (.bool false)), none⟩]
def K7_1 : Cd := .reg (some ([])) R7_1
@[simp] theorem W7_1 {Q : Ex → St → Prop} {σ : St} : WPk Tryd.prog K7_1 Q σ = WPl Tryd.prog Q R7_1 (keepQ (some ([])) Q) σ := rfl
@[simp] def R7_3 : List Op1 := [⟨some 8, .buildSlice 22 20 #[(0, .const (.int .u8 105)), (1, .const (.int .u8 102)), (2, .const (.int .u8 32)), (3, .const (.int .u8 97)), (4, .const (.int .u8 60)), (5, .const (.int .u8 61)), (6, .const (.int .u8 98)), (7, .const (.int .u8 123)), (8, .const (.int .u8 47)), (9, .const (.int .u8 47)), (10, .const (.int .u8 99)), (11, .const (.int .u8 10)), (12, .const (.int .u8 112)), (13, .const (.int .u8 114)), (14, .const (.int .u8 105)), (15, .const (.int .u8 110)), (16, .const (.int .u8 116)), (17, .const (.int .u8 40)), (18, .const (.int .u8 57)), (19, .const (.int .u8 41))], none⟩, ⟨some 9, .convert 22 22 (.tmp 8), none⟩, ⟨some 10, .call { callee := .value (.func 9), args := #[.tmp 9], argTypes := #[22] }, none⟩, ⟨some 7, .move (.tmp 10), none⟩, ⟨some 11, .extract (.tmp 7) 0, none⟩, ⟨some 12, .extract (.tmp 7) 1, none⟩, ⟨some 13, .extract (.tmp 7) 2, none⟩, ⟨some 1, .assign (.tmp 11), none⟩, ⟨some 2, .assign (.tmp 12), none⟩, ⟨some 3, .assign (.tmp 13), none⟩]
def K7_3 : Cd := .reg (some ([1, 2, 3])) R7_3
@[simp] theorem W7_3 {Q : Ex → St → Prop} {σ : St} : WPk Tryd.prog K7_3 Q σ = WPl Tryd.prog Q R7_3 (keepQ (some ([1, 2, 3])) Q) σ := rfl
@[simp] def R7_6 : List Op1 := [⟨some 14, .move (.tmp 3), none⟩, ⟨some 15, .binOp .neq 26 (.tmp 14) (.const (.int .i64 0)) 26, none⟩, ⟨some 16, .move (.tmp 15), none⟩, ⟨some 17, .move (.tmp 2), some (16, false)⟩, ⟨some 18, .binOp .neq 3 (.tmp 17) (.const (.int .i64 0)) 3, some (16, false)⟩, ⟨some 19, .pick (.tmp 16) (.const (.bool true)) (.tmp 18), none⟩, ⟨some 20, .move (.tmp 19), none⟩, ⟨some 21, .move (.tmp 1), some (20, false)⟩, ⟨some 22, .call { callee := .builtin .len, args := #[.tmp 21], argTypes := #[25] }, some (20, false)⟩, ⟨some 23, .binOp .neq 3 (.tmp 22) (.const (.int .i64 9)) 3, some (20, false)⟩, ⟨some 24, .pick (.tmp 20) (.const (.bool true)) (.tmp 23), none⟩]
def K7_6 : Cd := .reg (some ([1, 24])) R7_6
@[simp] theorem W7_6 {Q : Ex → St → Prop} {σ : St} : WPk Tryd.prog K7_6 Q σ = WPl Tryd.prog Q R7_6 (keepQ (some ([1, 24])) Q) σ := rfl
@[simp] def R7_9 : List Op1 := [⟨some 0, .assign (.const (.bool false)), none⟩]
def K7_9 : Cd := .reg (some ([0])) R7_9
@[simp] theorem W7_9 {Q : Ex → St → Prop} {σ : St} : WPk Tryd.prog K7_9 Q σ = WPl Tryd.prog Q R7_9 (keepQ (some ([0])) Q) σ := rfl
def K7_10 : Cd := .ret
@[simp] theorem W7_10 {Q : Ex → St → Prop} {σ : St} : WPk Tryd.prog K7_10 Q σ = Q .ret σ := rfl
def K7_8 : Cd := .seq K7_9 K7_10
@[simp] theorem W7_8 {Q : Ex → St → Prop} {σ : St} : WPk Tryd.prog K7_8 Q σ = WPk Tryd.prog K7_9 (seqK (WPk Tryd.prog K7_10) Q) σ := WPk_seq
def K7_11 : Cd := .skip
@[simp] theorem W7_11 {Q : Ex → St → Prop} {σ : St} : WPk Tryd.prog K7_11 Q σ = Q .normal σ := rfl
def K7_7 : Cd := .cond (.tmp 24) K7_8 K7_11
@[simp] theorem W7_7 {Q : Ex → St → Prop} {σ : St} : WPk Tryd.prog K7_7 Q σ = WPk Tryd.prog (.cond (.tmp 24) K7_8 K7_11) Q σ := rfl
def K7_5 : Cd := .seq K7_6 K7_7
@[simp] theorem W7_5 {Q : Ex → St → Prop} {σ : St} : WPk Tryd.prog K7_5 Q σ = WPk Tryd.prog K7_6 (seqK (WPk Tryd.prog K7_7) Q) σ := WPk_seq
@[simp] def R7_13 : List Op1 := [⟨some 26, .buildSlice 22 8 #[(0, .const (.int .u8 120)), (1, .const (.int .u8 49)), (2, .const (.int .u8 32)), (3, .const (.int .u8 61)), (4, .const (.int .u8 32)), (5, .const (.int .u8 48)), (6, .const (.int .u8 55)), (7, .const (.int .u8 59))], none⟩, ⟨some 27, .convert 22 22 (.tmp 26), none⟩, ⟨some 28, .call { callee := .value (.func 9), args := #[.tmp 27], argTypes := #[22] }, none⟩, ⟨some 25, .move (.tmp 28), none⟩, ⟨some 29, .extract (.tmp 25) 0, none⟩, ⟨some 30, .extract (.tmp 25) 1, none⟩, ⟨some 31, .extract (.tmp 25) 2, none⟩, ⟨some 4, .assign (.tmp 29), none⟩, ⟨some 5, .assign (.tmp 30), none⟩, ⟨some 6, .assign (.tmp 31), none⟩]
def K7_13 : Cd := .reg (some ([1, 5, 6])) R7_13
@[simp] theorem W7_13 {Q : Ex → St → Prop} {σ : St} : WPk Tryd.prog K7_13 Q σ = WPl Tryd.prog Q R7_13 (keepQ (some ([1, 5, 6])) Q) σ := rfl
@[simp] def R7_15 : List Op1 := [⟨some 32, .move (.tmp 1), none⟩, ⟨some 33, .indexAddr 25 (.tmp 32) (.const (.int .i64 0)), none⟩, ⟨some 34, .fieldAddr 35 (.tmp 33) 0, none⟩, ⟨some 35, .load 5 (.tmp 34), none⟩, ⟨some 36, .binOp .eql 5 (.tmp 35) (.const (.int .u8 3)) 5, none⟩, ⟨some 37, .move (.tmp 36), none⟩, ⟨some 38, .move (.tmp 1), some (37, true)⟩, ⟨some 39, .indexAddr 25 (.tmp 38) (.const (.int .i64 2)), some (37, true)⟩, ⟨some 40, .fieldAddr 35 (.tmp 39) 1, some (37, true)⟩, ⟨some 41, .load 9 (.tmp 40), some (37, true)⟩, ⟨some 42, .binOp .eql 9 (.tmp 41) (.const (.string { data := #[60, 61] })) 9, some (37, true)⟩, ⟨some 43, .pick (.tmp 37) (.tmp 42) (.const (.bool false)), none⟩, ⟨some 44, .move (.tmp 43), none⟩, ⟨some 45, .move (.tmp 1), some (44, true)⟩, ⟨some 46, .indexAddr 25 (.tmp 45) (.const (.int .i64 5)), some (44, true)⟩, ⟨some 47, .fieldAddr 35 (.tmp 46) 3, some (44, true)⟩, ⟨some 48, .load 3 (.tmp 47), some (44, true)⟩, ⟨some 49, .binOp .eql 3 (.tmp 48) (.const (.int .i64 2)) 3, some (44, true)⟩, ⟨some 50, .pick (.tmp 44) (.tmp 49) (.const (.bool false)), none⟩, ⟨some 51, .move (.tmp 50), none⟩, ⟨some 52, .move (.tmp 1), some (51, true)⟩, ⟨some 53, .indexAddr 25 (.tmp 52) (.const (.int .i64 7)), some (51, true)⟩, ⟨some 54, .fieldAddr 35 (.tmp 53) 2, some (51, true)⟩, ⟨some 55, .load 2 (.tmp 54), some (51, true)⟩, ⟨some 56, .binOp .eql 2 (.tmp 55) (.const (.int .i64 9)) 2, some (51, true)⟩, ⟨some 57, .pick (.tmp 51) (.tmp 56) (.const (.bool false)), none⟩, ⟨some 58, .move (.tmp 57), none⟩, ⟨some 59, .move (.tmp 5), some (58, true)⟩, ⟨some 60, .binOp .eql 3 (.tmp 59) (.const (.int .i64 1)) 3, some (58, true)⟩, ⟨some 61, .pick (.tmp 58) (.tmp 60) (.const (.bool false)), none⟩, ⟨some 62, .move (.tmp 61), none⟩, ⟨some 63, .move (.tmp 6), some (62, true)⟩, ⟨some 64, .binOp .eql 26 (.tmp 63) (.const (.int .i64 6)) 26, some (62, true)⟩, ⟨some 65, .pick (.tmp 62) (.tmp 64) (.const (.bool false)), none⟩, ⟨some 0, .assign (.tmp 65), none⟩]
def K7_15 : Cd := .reg (some ([0])) R7_15
@[simp] theorem W7_15 {Q : Ex → St → Prop} {σ : St} : WPk Tryd.prog K7_15 Q σ = WPl Tryd.prog Q R7_15 (keepQ (some ([0])) Q) σ := rfl
def K7_16 : Cd := .ret
@[simp] theorem W7_16 {Q : Ex → St → Prop} {σ : St} : WPk Tryd.prog K7_16 Q σ = Q .ret σ := rfl
def K7_14 : Cd := .seq K7_15 K7_16
@[simp] theorem W7_14 {Q : Ex → St → Prop} {σ : St} : WPk Tryd.prog K7_14 Q σ = WPk Tryd.prog K7_15 (seqK (WPk Tryd.prog K7_16) Q) σ := WPk_seq
def K7_12 : Cd := .seq K7_13 K7_14
@[simp] theorem W7_12 {Q : Ex → St → Prop} {σ : St} : WPk Tryd.prog K7_12 Q σ = WPk Tryd.prog K7_13 (seqK (WPk Tryd.prog K7_14) Q) σ := WPk_seq
def K7_4 : Cd := .seq K7_5 K7_12
@[simp] theorem W7_4 {Q : Ex → St → Prop} {σ : St} : WPk Tryd.prog K7_4 Q σ = WPk Tryd.prog K7_5 (seqK (WPk Tryd.prog K7_12) Q) σ := WPk_seq
def K7_2 : Cd := .seq K7_3 K7_4
@[simp] theorem W7_2 {Q : Ex → St → Prop} {σ : St} : WPk Tryd.prog K7_2 Q σ = WPk Tryd.prog K7_3 (seqK (WPk Tryd.prog K7_4) Q) σ := WPk_seq
def K7_0 : Cd := .seq K7_1 K7_2
@[simp] theorem W7_0 {Q : Ex → St → Prop} {σ : St} : WPk Tryd.prog K7_0 Q σ = WPk Tryd.prog K7_1 (seqK (WPk Tryd.prog K7_2) Q) σ := WPk_seq
theorem k7 : FnK Tryd.prog 7 (66) ([.tmp 0]) K7_0 := ⟨_, _, _, ok7, by kernel_rfl, by kernel_rfl, by kernel_rfl⟩
-- ROOT 7 0 17
@[simp] def R8_1 : List Op1 := [⟨some 2, .assign (.const (.slice none 0 0)), none⟩]
def K8_1 : Cd := .reg (some ([0])) R8_1
@[simp] theorem W8_1 {Q : Ex → St → Prop} {σ : St} : WPk Tryd.prog K8_1 Q σ = WPl Tryd.prog Q R8_1 (keepQ (some ([0])) Q) σ := rfl
@[simp] def R8_3 : List Op1 := [⟨some 5, .move (.tmp 0), none⟩, ⟨some 6, .call { callee := .builtin .len, args := #[.tmp 5], argTypes := #[22] }, none⟩, ⟨some 7, .move (.tmp 0), none⟩, ⟨some 8, .call { callee := .builtin .len, args := #[.tmp 7], argTypes := #[22] }, none⟩, ⟨some 9, .binOp .add 3 (.tmp 8) (.const (.int .i64 8)) 3, none⟩, ⟨some 10, .makeSlice 22 (.tmp 6) (.tmp 9), none⟩, ⟨some 3, .assign (.tmp 10), none⟩]
def K8_3 : Cd := .reg (some ([0, 3])) R8_3
@[simp] theorem W8_3 {Q : Ex → St → Prop} {σ : St} : WPk Tryd.prog K8_3 Q σ = WPl Tryd.prog Q R8_3 (keepQ (some ([0, 3])) Q) σ := rfl
@[simp] def R8_5 : List Op1 := [⟨some 11, .move (.tmp 3), none⟩, ⟨some 12, .move (.tmp 0), none⟩, ⟨some 13, .call { callee := .builtin .copy, args := #[.tmp 11, .tmp 12], argTypes := #[22, 22] }, none⟩]
def K8_5 : Cd := .reg (some ([0, 3])) R8_5
@[simp] theorem W8_5 {Q : Ex → St → Prop} {σ : St} : WPk Tryd.prog K8_5 Q σ = WPl Tryd.prog Q R8_5 (keepQ (some ([0, 3])) Q) σ := rfl
@[simp] def R8_8 : List Op1 := [⟨some 4, .assign (.const (.int .u8 8)), none⟩]
def K8_8 : Cd := .reg (some ([0, 3, 4])) R8_8
@[simp] theorem W8_8 {Q : Ex → St → Prop} {σ : St} : WPk Tryd.prog K8_8 Q σ = WPl Tryd.prog Q R8_8 (keepQ (some ([0, 3, 4])) Q) σ := rfl
@[simp] def R8_13 : List Op1 := [⟨some 14, .move (.tmp 4), none⟩, ⟨some 15, .binOp .gtr 5 (.tmp 14) (.const (.int .u8 0)) 5, none⟩]
def K8_13 : Cd := .reg (some ([0, 3, 4, 15])) R8_13
@[simp] theorem W8_13 {Q : Ex → St → Prop} {σ : St} : WPk Tryd.prog K8_13 Q σ = WPl Tryd.prog Q R8_13 (keepQ (some ([0, 3, 4, 15])) Q) σ := rfl
def K8_15 : Cd := .skip
@[simp] theorem W8_15 {Q : Ex → St → Prop} {σ : St} : WPk Tryd.prog K8_15 Q σ = Q .normal σ := rfl
def K8_16 : Cd := .exit 0
@[simp] theorem W8_16 {Q : Ex → St → Prop} {σ : St} : WPk Tryd.prog K8_16 Q σ = Q (.exit 0) σ := rfl
def K8_14 : Cd := .cond (.tmp 15) K8_15 K8_16
@[simp] theorem W8_14 {Q : Ex → St → Prop} {σ : St} : WPk Tryd.prog K8_14 Q σ = WPk Tryd.prog (.cond (.tmp 15) K8_15 K8_16) Q σ := rfl
def K8_12 : Cd := .seq K8_13 K8_14
@[simp] theorem W8_12 {Q : Ex → St → Prop} {σ : St} : WPk Tryd.prog K8_12 Q σ = WPk Tryd.prog K8_13 (seqK (WPk Tryd.prog K8_14) Q) σ := WPk_seq
@[simp] def R8_19 : List Op1 := [⟨some 18, .move (.tmp 3), none⟩, ⟨some 19, .move (.tmp 4), none⟩, ⟨some 20, .buildSlice 22 1 #[(0, .tmp 19)], none⟩, ⟨some 21, .call { callee := .builtin .append, args := #[.tmp 18, .tmp 20], argTypes := #[22, 22] }, none⟩, ⟨some 3, .assign (.tmp 21), none⟩]
def K8_19 : Cd := .reg (some ([0, 3, 4])) R8_19
@[simp] theorem W8_19 {Q : Ex → St → Prop} {σ : St} : WPk Tryd.prog K8_19 Q σ = WPl Tryd.prog Q R8_19 (keepQ (some ([0, 3, 4])) Q) σ := rfl
def K8_18 : Cd := .block 1 K8_19
@[simp] theorem W8_18 {Q : Ex → St → Prop} {σ : St} : WPk Tryd.prog K8_18 Q σ = WPk Tryd.prog K8_19 (blkQ 1 Q) σ := rfl
@[simp] def R8_20 : List Op1 := [⟨some 16, .move (.tmp 4), none⟩, ⟨some 17, .binOp .sub 5 (.tmp 16) (.const (.int .u8 1)) 5, none⟩, ⟨some 4, .assign (.tmp 17), none⟩]
def K8_20 : Cd := .reg (some ([0, 3, 4])) R8_20
@[simp] theorem W8_20 {Q : Ex → St → Prop} {σ : St} : WPk Tryd.prog K8_20 Q σ = WPl Tryd.prog Q R8_20 (keepQ (some ([0, 3, 4])) Q) σ := rfl
def K8_17 : Cd := .seq K8_18 K8_20
@[simp] theorem W8_17 {Q : Ex → St → Prop} {σ : St} : WPk Tryd.prog K8_17 Q σ = WPk Tryd.prog K8_18 (seqK (WPk Tryd.prog K8_20) Q) σ := WPk_seq
def K8_11 : Cd := .seq K8_12 K8_17
@[simp] theorem W8_11 {Q : Ex → St → Prop} {σ : St} : WPk Tryd.prog K8_11 Q σ = WPk Tryd.prog K8_12 (seqK (WPk Tryd.prog K8_17) Q) σ := WPk_seq
def K8_10 : Cd := .loop K8_11
@[simp] theorem W8_10 {Q : Ex → St → Prop} {σ : St} : WPk Tryd.prog K8_10 Q σ = WPk Tryd.prog (.loop K8_11) Q σ := rfl
def K8_9 : Cd := .block 0 K8_10
@[simp] theorem W8_9 {Q : Ex → St → Prop} {σ : St} : WPk Tryd.prog K8_9 Q σ = WPk Tryd.prog K8_10 (blkQ 0 Q) σ := rfl
def K8_7 : Cd := .seq K8_8 K8_9
@[simp] theorem W8_7 {Q : Ex → St → Prop} {σ : St} : WPk Tryd.prog K8_7 Q σ = WPk Tryd.prog K8_8 (seqK (WPk Tryd.prog K8_9) Q) σ := WPk_seq
@[simp] def R8_22 : List Op1 := [⟨some 22, .move (.tmp 3), none⟩, ⟨some 23, .move (.tmp 0), none⟩, ⟨some 24, .call { callee := .builtin .len, args := #[.tmp 23], argTypes := #[22] }, none⟩, ⟨some 25, .slice 22 (.tmp 22) none (some (.tmp 24)) none, none⟩, ⟨some 2, .assign (.tmp 25), none⟩]
def K8_22 : Cd := .reg (some ([2])) R8_22
@[simp] theorem W8_22 {Q : Ex → St → Prop} {σ : St} : WPk Tryd.prog K8_22 Q σ = WPl Tryd.prog Q R8_22 (keepQ (some ([2])) Q) σ := rfl
def K8_23 : Cd := .ret
@[simp] theorem W8_23 {Q : Ex → St → Prop} {σ : St} : WPk Tryd.prog K8_23 Q σ = Q .ret σ := rfl
def K8_21 : Cd := .seq K8_22 K8_23
@[simp] theorem W8_21 {Q : Ex → St → Prop} {σ : St} : WPk Tryd.prog K8_21 Q σ = WPk Tryd.prog K8_22 (seqK (WPk Tryd.prog K8_23) Q) σ := WPk_seq
def K8_6 : Cd := .seq K8_7 K8_21
@[simp] theorem W8_6 {Q : Ex → St → Prop} {σ : St} : WPk Tryd.prog K8_6 Q σ = WPk Tryd.prog K8_7 (seqK (WPk Tryd.prog K8_21) Q) σ := WPk_seq
def K8_4 : Cd := .seq K8_5 K8_6
@[simp] theorem W8_4 {Q : Ex → St → Prop} {σ : St} : WPk Tryd.prog K8_4 Q σ = WPk Tryd.prog K8_5 (seqK (WPk Tryd.prog K8_6) Q) σ := WPk_seq
def K8_2 : Cd := .seq K8_3 K8_4
@[simp] theorem W8_2 {Q : Ex → St → Prop} {σ : St} : WPk Tryd.prog K8_2 Q σ = WPk Tryd.prog K8_3 (seqK (WPk Tryd.prog K8_4) Q) σ := WPk_seq
def K8_0 : Cd := .seq K8_1 K8_2
@[simp] theorem W8_0 {Q : Ex → St → Prop} {σ : St} : WPk Tryd.prog K8_0 Q σ = WPk Tryd.prog K8_1 (seqK (WPk Tryd.prog K8_2) Q) σ := WPk_seq
theorem k8 : FnK Tryd.prog 8 (26) ([.tmp 2]) K8_0 := ⟨_, _, _, ok8, by kernel_rfl, by kernel_rfl, by kernel_rfl⟩
-- ROOT 8 0 24
end Go.Proofs.YtoplaknmmglagaaDoor.T
