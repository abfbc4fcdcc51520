/-
law11: each function's code in the smaller form, node by node.
-/
import Derived.Test.YtoplaknmmglagaaDoorTF
import Derived.Test.YtoplaknmmglagaaDoorAX20
import Derived.Test.YtoplaknmmglagaaDoorTK0
set_option linter.unusedVariables false
namespace Go.Proofs.YtoplaknmmglagaaDoor.T
open Go Go.AX

@[simp] def R9_1 : List Op1 := [⟨some 2, .assign (.const (.slice none 0 0)), none⟩, ⟨some 3, .assign (.const (.int .i64 0)), none⟩, ⟨some 4, .assign (.const (.int .i64 0)), none⟩]
def K9_1 : Cd := .reg (some ([0, 2])) R9_1
@[simp] theorem W9_1 {Q : Ex → St → Prop} {σ : St} : WPk Tryd.prog K9_1 Q σ = WPl Tryd.prog Q R9_1 (keepQ (some ([0, 2])) Q) σ := rfl
@[simp] def R9_4 : List Op1 := [⟨some 8, .move (.tmp 0), none⟩, ⟨some 9, .call { callee := .builtin .len, args := #[.tmp 8], argTypes := #[22] }, none⟩, ⟨some 10, .binOp .gtr 3 (.tmp 9) (.const (.int .i64 16384)) 3, none⟩]
def K9_4 : Cd := .reg (some ([0, 2, 10])) R9_4
@[simp] theorem W9_4 {Q : Ex → St → Prop} {σ : St} : WPk Tryd.prog K9_4 Q σ = WPl Tryd.prog Q R9_4 (keepQ (some ([0, 2, 10])) Q) σ := rfl
@[simp] def R9_7 : List Op1 := [⟨some 2, .assign (.const (.slice none 0 0)), none⟩, ⟨some 3, .assign (.const (.int .i64 0)), none⟩, ⟨some 4, .assign (.const (.int .i64 11)), none⟩]
def K9_7 : Cd := .reg (some ([2, 3, 4])) R9_7
@[simp] theorem W9_7 {Q : Ex → St → Prop} {σ : St} : WPk Tryd.prog K9_7 Q σ = WPl Tryd.prog Q R9_7 (keepQ (some ([2, 3, 4])) Q) σ := rfl
def K9_8 : Cd := .ret
@[simp] theorem W9_8 {Q : Ex → St → Prop} {σ : St} : WPk Tryd.prog K9_8 Q σ = Q .ret σ := rfl
def K9_6 : Cd := .seq K9_7 K9_8
@[simp] theorem W9_6 {Q : Ex → St → Prop} {σ : St} : WPk Tryd.prog K9_6 Q σ = WPk Tryd.prog K9_7 (seqK (WPk Tryd.prog K9_8) Q) σ := WPk_seq
def K9_9 : Cd := .skip
@[simp] theorem W9_9 {Q : Ex → St → Prop} {σ : St} : WPk Tryd.prog K9_9 Q σ = Q .normal σ := rfl
def K9_5 : Cd := .cond (.tmp 10) K9_6 K9_9
@[simp] theorem W9_5 {Q : Ex → St → Prop} {σ : St} : WPk Tryd.prog K9_5 Q σ = WPk Tryd.prog (.cond (.tmp 10) K9_6 K9_9) Q σ := rfl
def K9_3 : Cd := .seq K9_4 K9_5
@[simp] theorem W9_3 {Q : Ex → St → Prop} {σ : St} : WPk Tryd.prog K9_3 Q σ = WPk Tryd.prog K9_4 (seqK (WPk Tryd.prog K9_5) Q) σ := WPk_seq
@[simp] def R9_11 : List Op1 := [⟨some 11, .move (.tmp 0), none⟩, ⟨some 12, .call { callee := .value (.func 17), args := #[], argTypes := #[] }, none⟩, ⟨some 13, .build 42 #[(0, .tmp 11), (1, .const (.int .i64 1)), (2, .tmp 12)], none⟩, ⟨some 14, .box 42 (.tmp 13), none⟩, ⟨some 5, .assign (.tmp 14), none⟩]
def K9_11 : Cd := .reg (some ([2, 5])) R9_11
@[simp] theorem W9_11 {Q : Ex → St → Prop} {σ : St} : WPk Tryd.prog K9_11 Q σ = WPl Tryd.prog Q R9_11 (keepQ (some ([2, 5])) Q) σ := rfl
@[simp] def R9_14 : List Op1 := [⟨some 15, .move (.tmp 5), none⟩, ⟨some 16, .call { callee := .value (.func 18), args := #[.tmp 15], argTypes := #[38] }, none⟩]
def K9_14 : Cd := .reg (some ([2, 5])) R9_14
@[simp] theorem W9_14 {Q : Ex → St → Prop} {σ : St} : WPk Tryd.prog K9_14 Q σ = WPl Tryd.prog Q R9_14 (keepQ (some ([2, 5])) Q) σ := rfl
@[simp] def R9_19 : List Op1 := [⟨some 17, .move (.tmp 5), none⟩, ⟨some 18, .nilCheck (.tmp 17), none⟩, ⟨some 19, .fieldAddr 42 (.tmp 18) 0, none⟩, ⟨some 20, .load 22 (.tmp 19), none⟩, ⟨some 21, .call { callee := .builtin .len, args := #[.tmp 20], argTypes := #[22] }, none⟩, ⟨some 22, .binOp .gtr 3 (.tmp 21) (.const (.int .i64 0)) 3, none⟩]
def K9_19 : Cd := .reg (some ([2, 5, 22])) R9_19
@[simp] theorem W9_19 {Q : Ex → St → Prop} {σ : St} : WPk Tryd.prog K9_19 Q σ = WPl Tryd.prog Q R9_19 (keepQ (some ([2, 5, 22])) Q) σ := rfl
def K9_21 : Cd := .skip
@[simp] theorem W9_21 {Q : Ex → St → Prop} {σ : St} : WPk Tryd.prog K9_21 Q σ = Q .normal σ := rfl
def K9_22 : Cd := .exit 0
@[simp] theorem W9_22 {Q : Ex → St → Prop} {σ : St} : WPk Tryd.prog K9_22 Q σ = Q (.exit 0) σ := rfl
def K9_20 : Cd := .cond (.tmp 22) K9_21 K9_22
@[simp] theorem W9_20 {Q : Ex → St → Prop} {σ : St} : WPk Tryd.prog K9_20 Q σ = WPk Tryd.prog (.cond (.tmp 22) K9_21 K9_22) Q σ := rfl
def K9_18 : Cd := .seq K9_19 K9_20
@[simp] theorem W9_18 {Q : Ex → St → Prop} {σ : St} : WPk Tryd.prog K9_18 Q σ = WPk Tryd.prog K9_19 (seqK (WPk Tryd.prog K9_20) Q) σ := WPk_seq
@[simp] def R9_26 : List Op1 := [⟨some 26, .move (.tmp 5), none⟩, ⟨some 27, .call { callee := .value (.func 19), args := #[.tmp 26], argTypes := #[38] }, none⟩, ⟨some 25, .move (.tmp 27), none⟩, ⟨some 28, .extract (.tmp 25) 0, none⟩, ⟨some 29, .extract (.tmp 25) 1, none⟩, ⟨some 6, .alloc 35, none⟩, ⟨none, .store 35 (.tmp 6) (.tmp 28), none⟩, ⟨some 7, .assign (.tmp 29), none⟩]
def K9_26 : Cd := .reg (some ([2, 5, 6, 7])) R9_26
@[simp] theorem W9_26 {Q : Ex → St → Prop} {σ : St} : WPk Tryd.prog K9_26 Q σ = WPl Tryd.prog Q R9_26 (keepQ (some ([2, 5, 6, 7])) Q) σ := rfl
@[simp] def R9_29 : List Op1 := [⟨some 30, .move (.tmp 7), none⟩, ⟨some 31, .unOp .not 4 (.tmp 30), none⟩]
def K9_29 : Cd := .reg (some ([2, 5, 6, 31])) R9_29
@[simp] theorem W9_29 {Q : Ex → St → Prop} {σ : St} : WPk Tryd.prog K9_29 Q σ = WPl Tryd.prog Q R9_29 (keepQ (some ([2, 5, 6, 31])) Q) σ := rfl
@[simp] def R9_32 : List Op1 := [⟨some 32, .move (.tmp 5), none⟩, ⟨some 33, .nilCheck (.tmp 32), none⟩, ⟨some 34, .fieldAddr 42 (.tmp 33) 1, none⟩, ⟨some 35, .load 3 (.tmp 34), none⟩, ⟨some 2, .assign (.const (.slice none 0 0)), none⟩, ⟨some 3, .assign (.tmp 35), none⟩, ⟨some 4, .assign (.const (.int .i64 6)), none⟩]
def K9_32 : Cd := .draw ({ live := [2, 3, 4], dms := [{ brw := true }, { brw := true }, { brw := true }, { brw := true }, { brw := true }, { brw := true }, { brw := true }] }) R9_32
@[simp] theorem W9_32 {Q : Ex → St → Prop} {σ : St} : WPk Tryd.prog K9_32 Q σ = WPk Tryd.prog (.draw ({ live := [2, 3, 4], dms := [{ brw := true }, { brw := true }, { brw := true }, { brw := true }, { brw := true }, { brw := true }, { brw := true }] }) R9_32) Q σ := rfl
def K9_33 : Cd := .ret
@[simp] theorem W9_33 {Q : Ex → St → Prop} {σ : St} : WPk Tryd.prog K9_33 Q σ = Q .ret σ := rfl
def K9_31 : Cd := .seq K9_32 K9_33
@[simp] theorem W9_31 {Q : Ex → St → Prop} {σ : St} : WPk Tryd.prog K9_31 Q σ = WPk Tryd.prog K9_32 (seqK (WPk Tryd.prog K9_33) Q) σ := WPk_seq
def K9_34 : Cd := .skip
@[simp] theorem W9_34 {Q : Ex → St → Prop} {σ : St} : WPk Tryd.prog K9_34 Q σ = Q .normal σ := rfl
def K9_30 : Cd := .cond (.tmp 31) K9_31 K9_34
@[simp] theorem W9_30 {Q : Ex → St → Prop} {σ : St} : WPk Tryd.prog K9_30 Q σ = WPk Tryd.prog (.cond (.tmp 31) K9_31 K9_34) Q σ := rfl
def K9_28 : Cd := .seq K9_29 K9_30
@[simp] theorem W9_28 {Q : Ex → St → Prop} {σ : St} : WPk Tryd.prog K9_28 Q σ = WPk Tryd.prog K9_29 (seqK (WPk Tryd.prog K9_30) Q) σ := WPk_seq
@[simp] def R9_36 : List Op1 := [⟨some 36, .move (.tmp 2), none⟩, ⟨some 37, .load 35 (.tmp 6), none⟩, ⟨some 38, .buildSlice 25 1 #[(0, .tmp 37)], none⟩, ⟨some 39, .call { callee := .builtin .append, args := #[.tmp 36, .tmp 38], argTypes := #[25, 25] }, none⟩, ⟨some 2, .assign (.tmp 39), none⟩]
def K9_36 : Cd := .reg (some ([2, 5, 6])) R9_36
@[simp] theorem W9_36 {Q : Ex → St → Prop} {σ : St} : WPk Tryd.prog K9_36 Q σ = WPl Tryd.prog Q R9_36 (keepQ (some ([2, 5, 6])) Q) σ := rfl
@[simp] def R9_37 : List Op1 := [⟨some 40, .move (.tmp 5), none⟩, ⟨some 41, .move (.tmp 5), none⟩, ⟨some 42, .nilCheck (.tmp 41), none⟩, ⟨some 43, .fieldAddr 42 (.tmp 42) 0, none⟩, ⟨some 44, .load 22 (.tmp 43), none⟩, ⟨some 45, .fieldAddr 35 (.tmp 6) 1, none⟩, ⟨some 46, .load 9 (.tmp 45), none⟩, ⟨some 47, .call { callee := .builtin .len, args := #[.tmp 46], argTypes := #[9] }, none⟩, ⟨some 48, .slice 22 (.tmp 44) (some (.tmp 47)) none none, none⟩, ⟨some 49, .nilCheck (.tmp 40), none⟩, ⟨some 50, .fieldAddr 42 (.tmp 49) 0, none⟩, ⟨none, .store 22 (.tmp 50) (.tmp 48), none⟩]
def K9_37 : Cd := .draw ({ live := [2, 5], dms := [{ brw := true }, { brw := true }, { brw := true }, { brw := true }, { brw := true }, { brw := true }, { brw := true }, { brw := true }, { brw := true }, { brw := true }, { brw := true }, { brw := true }] }) R9_37
@[simp] theorem W9_37 {Q : Ex → St → Prop} {σ : St} : WPk Tryd.prog K9_37 Q σ = WPk Tryd.prog (.draw ({ live := [2, 5], dms := [{ brw := true }, { brw := true }, { brw := true }, { brw := true }, { brw := true }, { brw := true }, { brw := true }, { brw := true }, { brw := true }, { brw := true }, { brw := true }, { brw := true }] }) R9_37) Q σ := rfl
def K9_35 : Cd := .seq K9_36 K9_37
@[simp] theorem W9_35 {Q : Ex → St → Prop} {σ : St} : WPk Tryd.prog K9_35 Q σ = WPk Tryd.prog K9_36 (seqK (WPk Tryd.prog K9_37) Q) σ := WPk_seq
def K9_27 : Cd := .seq K9_28 K9_35
@[simp] theorem W9_27 {Q : Ex → St → Prop} {σ : St} : WPk Tryd.prog K9_27 Q σ = WPk Tryd.prog K9_28 (seqK (WPk Tryd.prog K9_35) Q) σ := WPk_seq
def K9_25 : Cd := .seq K9_26 K9_27
@[simp] theorem W9_25 {Q : Ex → St → Prop} {σ : St} : WPk Tryd.prog K9_25 Q σ = WPk Tryd.prog K9_26 (seqK (WPk Tryd.prog K9_27) Q) σ := WPk_seq
def K9_24 : Cd := .block 1 K9_25
@[simp] theorem W9_24 {Q : Ex → St → Prop} {σ : St} : WPk Tryd.prog K9_24 Q σ = WPk Tryd.prog K9_25 (blkQ 1 Q) σ := rfl
@[simp] def R9_38 : List Op1 := [⟨some 23, .move (.tmp 5), none⟩, ⟨some 24, .call { callee := .value (.func 18), args := #[.tmp 23], argTypes := #[38] }, none⟩]
def K9_38 : Cd := .reg (some ([2, 5])) R9_38
@[simp] theorem W9_38 {Q : Ex → St → Prop} {σ : St} : WPk Tryd.prog K9_38 Q σ = WPl Tryd.prog Q R9_38 (keepQ (some ([2, 5])) Q) σ := rfl
def K9_23 : Cd := .seq K9_24 K9_38
@[simp] theorem W9_23 {Q : Ex → St → Prop} {σ : St} : WPk Tryd.prog K9_23 Q σ = WPk Tryd.prog K9_24 (seqK (WPk Tryd.prog K9_38) Q) σ := WPk_seq
def K9_17 : Cd := .seq K9_18 K9_23
@[simp] theorem W9_17 {Q : Ex → St → Prop} {σ : St} : WPk Tryd.prog K9_17 Q σ = WPk Tryd.prog K9_18 (seqK (WPk Tryd.prog K9_23) Q) σ := WPk_seq
def K9_16 : Cd := .loop K9_17
@[simp] theorem W9_16 {Q : Ex → St → Prop} {σ : St} : WPk Tryd.prog K9_16 Q σ = WPk Tryd.prog (.loop K9_17) Q σ := rfl
def K9_15 : Cd := .block 0 K9_16
@[simp] theorem W9_15 {Q : Ex → St → Prop} {σ : St} : WPk Tryd.prog K9_15 Q σ = WPk Tryd.prog K9_16 (blkQ 0 Q) σ := rfl
def K9_13 : Cd := .seq K9_14 K9_15
@[simp] theorem W9_13 {Q : Ex → St → Prop} {σ : St} : WPk Tryd.prog K9_13 Q σ = WPk Tryd.prog K9_14 (seqK (WPk Tryd.prog K9_15) Q) σ := WPk_seq
@[simp] def R9_40 : List Op1 := [⟨some 51, .move (.tmp 2), none⟩, ⟨some 2, .assign (.tmp 51), none⟩, ⟨some 3, .assign (.const (.int .i64 0)), none⟩, ⟨some 4, .assign (.const (.int .i64 0)), none⟩]
def K9_40 : Cd := .reg (some ([2, 3, 4])) R9_40
@[simp] theorem W9_40 {Q : Ex → St → Prop} {σ : St} : WPk Tryd.prog K9_40 Q σ = WPl Tryd.prog Q R9_40 (keepQ (some ([2, 3, 4])) Q) σ := rfl
def K9_41 : Cd := .ret
@[simp] theorem W9_41 {Q : Ex → St → Prop} {σ : St} : WPk Tryd.prog K9_41 Q σ = Q .ret σ := rfl
def K9_39 : Cd := .seq K9_40 K9_41
@[simp] theorem W9_39 {Q : Ex → St → Prop} {σ : St} : WPk Tryd.prog K9_39 Q σ = WPk Tryd.prog K9_40 (seqK (WPk Tryd.prog K9_41) Q) σ := WPk_seq
def K9_12 : Cd := .seq K9_13 K9_39
@[simp] theorem W9_12 {Q : Ex → St → Prop} {σ : St} : WPk Tryd.prog K9_12 Q σ = WPk Tryd.prog K9_13 (seqK (WPk Tryd.prog K9_39) Q) σ := WPk_seq
def K9_10 : Cd := .seq K9_11 K9_12
@[simp] theorem W9_10 {Q : Ex → St → Prop} {σ : St} : WPk Tryd.prog K9_10 Q σ = WPk Tryd.prog K9_11 (seqK (WPk Tryd.prog K9_12) Q) σ := WPk_seq
def K9_2 : Cd := .seq K9_3 K9_10
@[simp] theorem W9_2 {Q : Ex → St → Prop} {σ : St} : WPk Tryd.prog K9_2 Q σ = WPk Tryd.prog K9_3 (seqK (WPk Tryd.prog K9_10) Q) σ := WPk_seq
def K9_0 : Cd := .seq K9_1 K9_2
@[simp] theorem W9_0 {Q : Ex → St → Prop} {σ : St} : WPk Tryd.prog K9_0 Q σ = WPk Tryd.prog K9_1 (seqK (WPk Tryd.prog K9_2) Q) σ := WPk_seq
theorem k9 : FnK Tryd.prog 9 (52) ([.tmp 2, .tmp 3, .tmp 4]) K9_0 := ⟨_, _, _, ok9, by kernel_rfl, by kernel_rfl, by kernel_rfl⟩
-- ROOT 9 0 42
@[simp] def R10_1 : List Op1 := [⟨some 2, .assign (.const (.slice none 0 0)), none⟩, ⟨some 3, .assign (.const (.int .i64 0)), none⟩, ⟨some 4, .assign (.const (.int .i64 0)), none⟩]
def K10_1 : Cd := .reg (some ([0])) R10_1
@[simp] theorem W10_1 {Q : Ex → St → Prop} {σ : St} : WPk Tryd.prog K10_1 Q σ = WPl Tryd.prog Q R10_1 (keepQ (some ([0])) Q) σ := rfl
@[simp] def R10_4 : List Op1 := [⟨some 11, .move (.tmp 0), none⟩, ⟨some 12, .call { callee := .builtin .len, args := #[.tmp 11], argTypes := #[22] }, none⟩, ⟨some 13, .binOp .gtr 3 (.tmp 12) (.const (.int .i64 16384)) 3, none⟩]
def K10_4 : Cd := .reg (some ([0, 13])) R10_4
@[simp] theorem W10_4 {Q : Ex → St → Prop} {σ : St} : WPk Tryd.prog K10_4 Q σ = WPl Tryd.prog Q R10_4 (keepQ (some ([0, 13])) Q) σ := rfl
@[simp] def R10_7 : List Op1 := [⟨some 2, .assign (.const (.slice none 0 0)), none⟩, ⟨some 3, .assign (.const (.int .i64 0)), none⟩, ⟨some 4, .assign (.const (.int .i64 11)), none⟩]
def K10_7 : Cd := .reg (some ([2, 3, 4])) R10_7
@[simp] theorem W10_7 {Q : Ex → St → Prop} {σ : St} : WPk Tryd.prog K10_7 Q σ = WPl Tryd.prog Q R10_7 (keepQ (some ([2, 3, 4])) Q) σ := rfl
def K10_8 : Cd := .ret
@[simp] theorem W10_8 {Q : Ex → St → Prop} {σ : St} : WPk Tryd.prog K10_8 Q σ = Q .ret σ := rfl
def K10_6 : Cd := .seq K10_7 K10_8
@[simp] theorem W10_6 {Q : Ex → St → Prop} {σ : St} : WPk Tryd.prog K10_6 Q σ = WPk Tryd.prog K10_7 (seqK (WPk Tryd.prog K10_8) Q) σ := WPk_seq
def K10_9 : Cd := .skip
@[simp] theorem W10_9 {Q : Ex → St → Prop} {σ : St} : WPk Tryd.prog K10_9 Q σ = Q .normal σ := rfl
def K10_5 : Cd := .cond (.tmp 13) K10_6 K10_9
@[simp] theorem W10_5 {Q : Ex → St → Prop} {σ : St} : WPk Tryd.prog K10_5 Q σ = WPk Tryd.prog (.cond (.tmp 13) K10_6 K10_9) Q σ := rfl
def K10_3 : Cd := .seq K10_4 K10_5
@[simp] theorem W10_3 {Q : Ex → St → Prop} {σ : St} : WPk Tryd.prog K10_3 Q σ = WPk Tryd.prog K10_4 (seqK (WPk Tryd.prog K10_5) Q) σ := WPk_seq
@[simp] def R10_11 : List Op1 := [⟨some 5, .assign (.const (.slice none 0 0)), none⟩]
def K10_11 : Cd := .reg (some ([0, 5])) R10_11
@[simp] theorem W10_11 {Q : Ex → St → Prop} {σ : St} : WPk Tryd.prog K10_11 Q σ = WPl Tryd.prog Q R10_11 (keepQ (some ([0, 5])) Q) σ := rfl
@[simp] def R10_13 : List Op1 := [⟨some 6, .assign (.const (.int .i64 1)), none⟩]
def K10_13 : Cd := .reg (some ([0, 5, 6])) R10_13
@[simp] theorem W10_13 {Q : Ex → St → Prop} {σ : St} : WPk Tryd.prog K10_13 Q σ = WPl Tryd.prog Q R10_13 (keepQ (some ([0, 5, 6])) Q) σ := rfl
@[simp] def R10_15 : List Op1 := [⟨some 7, .assign (.const (.int .i64 0)), none⟩]
def K10_15 : Cd := .reg (some ([0, 5, 6, 7])) R10_15
@[simp] theorem W10_15 {Q : Ex → St → Prop} {σ : St} : WPk Tryd.prog K10_15 Q σ = WPl Tryd.prog Q R10_15 (keepQ (some ([0, 5, 6, 7])) Q) σ := rfl
@[simp] def R10_17 : List Op1 := [⟨some 14, .move (.tmp 0), none⟩, ⟨some 15, .call { callee := .value (.func 20), args := #[.tmp 14, .const (.int .i64 0)], argTypes := #[22, 3] }, none⟩, ⟨some 8, .assign (.tmp 15), none⟩]
def K10_17 : Cd := .reg (some ([0, 5, 6, 7, 8])) R10_17
@[simp] theorem W10_17 {Q : Ex → St → Prop} {σ : St} : WPk Tryd.prog K10_17 Q σ = WPl Tryd.prog Q R10_17 (keepQ (some ([0, 5, 6, 7, 8])) Q) σ := rfl
@[simp] def R10_23 : List Op1 := [⟨some 16, .move (.tmp 8), none⟩, ⟨some 17, .move (.tmp 0), none⟩, ⟨some 18, .call { callee := .builtin .len, args := #[.tmp 17], argTypes := #[22] }, none⟩, ⟨some 19, .binOp .lss 3 (.tmp 16) (.tmp 18) 3, none⟩]
def K10_23 : Cd := .reg (some ([0, 5, 6, 7, 8, 19])) R10_23
@[simp] theorem W10_23 {Q : Ex → St → Prop} {σ : St} : WPk Tryd.prog K10_23 Q σ = WPl Tryd.prog Q R10_23 (keepQ (some ([0, 5, 6, 7, 8, 19])) Q) σ := rfl
def K10_25 : Cd := .skip
@[simp] theorem W10_25 {Q : Ex → St → Prop} {σ : St} : WPk Tryd.prog K10_25 Q σ = Q .normal σ := rfl
def K10_26 : Cd := .exit 0
@[simp] theorem W10_26 {Q : Ex → St → Prop} {σ : St} : WPk Tryd.prog K10_26 Q σ = Q (.exit 0) σ := rfl
def K10_24 : Cd := .cond (.tmp 19) K10_25 K10_26
@[simp] theorem W10_24 {Q : Ex → St → Prop} {σ : St} : WPk Tryd.prog K10_24 Q σ = WPk Tryd.prog (.cond (.tmp 19) K10_25 K10_26) Q σ := rfl
def K10_22 : Cd := .seq K10_23 K10_24
@[simp] theorem W10_22 {Q : Ex → St → Prop} {σ : St} : WPk Tryd.prog K10_22 Q σ = WPk Tryd.prog K10_23 (seqK (WPk Tryd.prog K10_24) Q) σ := WPk_seq
@[simp] def R10_33 : List Op1 := [⟨some 20, .move (.tmp 7), none⟩, ⟨some 21, .move (.tmp 8), none⟩, ⟨some 22, .binOp .lss 3 (.tmp 20) (.tmp 21) 3, none⟩]
def K10_33 : Cd := .reg (some ([0, 5, 6, 7, 8, 22])) R10_33
@[simp] theorem W10_33 {Q : Ex → St → Prop} {σ : St} : WPk Tryd.prog K10_33 Q σ = WPl Tryd.prog Q R10_33 (keepQ (some ([0, 5, 6, 7, 8, 22])) Q) σ := rfl
def K10_35 : Cd := .skip
@[simp] theorem W10_35 {Q : Ex → St → Prop} {σ : St} : WPk Tryd.prog K10_35 Q σ = Q .normal σ := rfl
def K10_36 : Cd := .exit 2
@[simp] theorem W10_36 {Q : Ex → St → Prop} {σ : St} : WPk Tryd.prog K10_36 Q σ = Q (.exit 2) σ := rfl
def K10_34 : Cd := .cond (.tmp 22) K10_35 K10_36
@[simp] theorem W10_34 {Q : Ex → St → Prop} {σ : St} : WPk Tryd.prog K10_34 Q σ = WPk Tryd.prog (.cond (.tmp 22) K10_35 K10_36) Q σ := rfl
def K10_32 : Cd := .seq K10_33 K10_34
@[simp] theorem W10_32 {Q : Ex → St → Prop} {σ : St} : WPk Tryd.prog K10_32 Q σ = WPk Tryd.prog K10_33 (seqK (WPk Tryd.prog K10_34) Q) σ := WPk_seq
@[simp] def R10_40 : List Op1 := [⟨some 25, .move (.tmp 0), none⟩, ⟨some 26, .move (.tmp 7), none⟩, ⟨some 27, .indexAddr 22 (.tmp 25) (.tmp 26), none⟩, ⟨some 28, .load 5 (.tmp 27), none⟩, ⟨some 29, .binOp .eql 5 (.tmp 28) (.const (.int .u8 10)) 5, none⟩]
def K10_40 : Cd := .reg (some ([0, 5, 6, 7, 8, 29])) R10_40
@[simp] theorem W10_40 {Q : Ex → St → Prop} {σ : St} : WPk Tryd.prog K10_40 Q σ = WPl Tryd.prog Q R10_40 (keepQ (some ([0, 5, 6, 7, 8, 29])) Q) σ := rfl
@[simp] def R10_42 : List Op1 := [⟨some 30, .move (.tmp 6), none⟩, ⟨some 31, .binOp .add 3 (.tmp 30) (.const (.int .i64 1)) 3, none⟩, ⟨some 6, .assign (.tmp 31), none⟩]
def K10_42 : Cd := .reg (some ([0, 5, 6, 7, 8])) R10_42
@[simp] theorem W10_42 {Q : Ex → St → Prop} {σ : St} : WPk Tryd.prog K10_42 Q σ = WPl Tryd.prog Q R10_42 (keepQ (some ([0, 5, 6, 7, 8])) Q) σ := rfl
def K10_43 : Cd := .skip
@[simp] theorem W10_43 {Q : Ex → St → Prop} {σ : St} : WPk Tryd.prog K10_43 Q σ = Q .normal σ := rfl
def K10_41 : Cd := .cond (.tmp 29) K10_42 K10_43
@[simp] theorem W10_41 {Q : Ex → St → Prop} {σ : St} : WPk Tryd.prog K10_41 Q σ = WPk Tryd.prog (.cond (.tmp 29) K10_42 K10_43) Q σ := rfl
def K10_39 : Cd := .seq K10_40 K10_41
@[simp] theorem W10_39 {Q : Ex → St → Prop} {σ : St} : WPk Tryd.prog K10_39 Q σ = WPk Tryd.prog K10_40 (seqK (WPk Tryd.prog K10_41) Q) σ := WPk_seq
def K10_38 : Cd := .block 3 K10_39
@[simp] theorem W10_38 {Q : Ex → St → Prop} {σ : St} : WPk Tryd.prog K10_38 Q σ = WPk Tryd.prog K10_39 (blkQ 3 Q) σ := rfl
@[simp] def R10_44 : List Op1 := [⟨some 23, .move (.tmp 7), none⟩, ⟨some 24, .binOp .add 3 (.tmp 23) (.const (.int .i64 1)) 3, none⟩, ⟨some 7, .assign (.tmp 24), none⟩]
def K10_44 : Cd := .reg (some ([0, 5, 6, 7, 8])) R10_44
@[simp] theorem W10_44 {Q : Ex → St → Prop} {σ : St} : WPk Tryd.prog K10_44 Q σ = WPl Tryd.prog Q R10_44 (keepQ (some ([0, 5, 6, 7, 8])) Q) σ := rfl
def K10_37 : Cd := .seq K10_38 K10_44
@[simp] theorem W10_37 {Q : Ex → St → Prop} {σ : St} : WPk Tryd.prog K10_37 Q σ = WPk Tryd.prog K10_38 (seqK (WPk Tryd.prog K10_44) Q) σ := WPk_seq
def K10_31 : Cd := .seq K10_32 K10_37
@[simp] theorem W10_31 {Q : Ex → St → Prop} {σ : St} : WPk Tryd.prog K10_31 Q σ = WPk Tryd.prog K10_32 (seqK (WPk Tryd.prog K10_37) Q) σ := WPk_seq
def K10_30 : Cd := .loop K10_31
@[simp] theorem W10_30 {Q : Ex → St → Prop} {σ : St} : WPk Tryd.prog K10_30 Q σ = WPk Tryd.prog (.loop K10_31) Q σ := rfl
def K10_29 : Cd := .block 2 K10_30
@[simp] theorem W10_29 {Q : Ex → St → Prop} {σ : St} : WPk Tryd.prog K10_29 Q σ = WPk Tryd.prog K10_30 (blkQ 2 Q) σ := rfl
@[simp] def R10_46 : List Op1 := [⟨some 33, .move (.tmp 0), none⟩, ⟨some 34, .move (.tmp 8), none⟩, ⟨some 35, .call { callee := .value (.func 21), args := #[.tmp 33, .tmp 34], argTypes := #[22, 3] }, none⟩, ⟨some 32, .move (.tmp 35), none⟩, ⟨some 36, .extract (.tmp 32) 0, none⟩, ⟨some 37, .extract (.tmp 32) 1, none⟩, ⟨some 9, .alloc 35, none⟩, ⟨none, .store 35 (.tmp 9) (.tmp 36), none⟩, ⟨some 10, .assign (.tmp 37), none⟩]
def K10_46 : Cd := .reg (some ([0, 5, 6, 7, 8, 9, 10])) R10_46
@[simp] theorem W10_46 {Q : Ex → St → Prop} {σ : St} : WPk Tryd.prog K10_46 Q σ = WPl Tryd.prog Q R10_46 (keepQ (some ([0, 5, 6, 7, 8, 9, 10])) Q) σ := rfl
@[simp] def R10_49 : List Op1 := [⟨some 38, .move (.tmp 10), none⟩, ⟨some 39, .unOp .not 4 (.tmp 38), none⟩]
def K10_49 : Cd := .reg (some ([0, 5, 6, 7, 8, 9, 39])) R10_49
@[simp] theorem W10_49 {Q : Ex → St → Prop} {σ : St} : WPk Tryd.prog K10_49 Q σ = WPl Tryd.prog Q R10_49 (keepQ (some ([0, 5, 6, 7, 8, 9, 39])) Q) σ := rfl
@[simp] def R10_52 : List Op1 := [⟨some 40, .move (.tmp 6), none⟩, ⟨some 2, .assign (.const (.slice none 0 0)), none⟩, ⟨some 3, .assign (.tmp 40), none⟩, ⟨some 4, .assign (.const (.int .i64 6)), none⟩]
def K10_52 : Cd := .reg (some ([2, 3, 4])) R10_52
@[simp] theorem W10_52 {Q : Ex → St → Prop} {σ : St} : WPk Tryd.prog K10_52 Q σ = WPl Tryd.prog Q R10_52 (keepQ (some ([2, 3, 4])) Q) σ := rfl
def K10_53 : Cd := .ret
@[simp] theorem W10_53 {Q : Ex → St → Prop} {σ : St} : WPk Tryd.prog K10_53 Q σ = Q .ret σ := rfl
def K10_51 : Cd := .seq K10_52 K10_53
@[simp] theorem W10_51 {Q : Ex → St → Prop} {σ : St} : WPk Tryd.prog K10_51 Q σ = WPk Tryd.prog K10_52 (seqK (WPk Tryd.prog K10_53) Q) σ := WPk_seq
def K10_54 : Cd := .skip
@[simp] theorem W10_54 {Q : Ex → St → Prop} {σ : St} : WPk Tryd.prog K10_54 Q σ = Q .normal σ := rfl
def K10_50 : Cd := .cond (.tmp 39) K10_51 K10_54
@[simp] theorem W10_50 {Q : Ex → St → Prop} {σ : St} : WPk Tryd.prog K10_50 Q σ = WPk Tryd.prog (.cond (.tmp 39) K10_51 K10_54) Q σ := rfl
def K10_48 : Cd := .seq K10_49 K10_50
@[simp] theorem W10_48 {Q : Ex → St → Prop} {σ : St} : WPk Tryd.prog K10_48 Q σ = WPk Tryd.prog K10_49 (seqK (WPk Tryd.prog K10_50) Q) σ := WPk_seq
@[simp] def R10_56 : List Op1 := [⟨some 41, .move (.tmp 6), none⟩, ⟨some 42, .fieldAddr 35 (.tmp 9) 3, none⟩, ⟨none, .store 3 (.tmp 42) (.tmp 41), none⟩]
def K10_56 : Cd := .reg (some ([0, 5, 6, 7, 8, 9])) R10_56
@[simp] theorem W10_56 {Q : Ex → St → Prop} {σ : St} : WPk Tryd.prog K10_56 Q σ = WPl Tryd.prog Q R10_56 (keepQ (some ([0, 5, 6, 7, 8, 9])) Q) σ := rfl
@[simp] def R10_58 : List Op1 := [⟨some 43, .move (.tmp 5), none⟩, ⟨some 44, .load 35 (.tmp 9), none⟩, ⟨some 45, .buildSlice 25 1 #[(0, .tmp 44)], none⟩, ⟨some 46, .call { callee := .builtin .append, args := #[.tmp 43, .tmp 45], argTypes := #[25, 25] }, none⟩, ⟨some 5, .assign (.tmp 46), none⟩]
def K10_58 : Cd := .reg (some ([0, 5, 6, 7, 8, 9])) R10_58
@[simp] theorem W10_58 {Q : Ex → St → Prop} {σ : St} : WPk Tryd.prog K10_58 Q σ = WPl Tryd.prog Q R10_58 (keepQ (some ([0, 5, 6, 7, 8, 9])) Q) σ := rfl
@[simp] def R10_59 : List Op1 := [⟨some 47, .move (.tmp 0), none⟩, ⟨some 48, .move (.tmp 8), none⟩, ⟨some 49, .fieldAddr 35 (.tmp 9) 1, none⟩, ⟨some 50, .load 9 (.tmp 49), none⟩, ⟨some 51, .call { callee := .builtin .len, args := #[.tmp 50], argTypes := #[9] }, none⟩, ⟨some 52, .binOp .add 3 (.tmp 48) (.tmp 51) 3, none⟩, ⟨some 53, .call { callee := .value (.func 20), args := #[.tmp 47, .tmp 52], argTypes := #[22, 3] }, none⟩, ⟨some 8, .assign (.tmp 53), none⟩]
def K10_59 : Cd := .reg (some ([0, 5, 6, 7, 8])) R10_59
@[simp] theorem W10_59 {Q : Ex → St → Prop} {σ : St} : WPk Tryd.prog K10_59 Q σ = WPl Tryd.prog Q R10_59 (keepQ (some ([0, 5, 6, 7, 8])) Q) σ := rfl
def K10_57 : Cd := .seq K10_58 K10_59
@[simp] theorem W10_57 {Q : Ex → St → Prop} {σ : St} : WPk Tryd.prog K10_57 Q σ = WPk Tryd.prog K10_58 (seqK (WPk Tryd.prog K10_59) Q) σ := WPk_seq
def K10_55 : Cd := .seq K10_56 K10_57
@[simp] theorem W10_55 {Q : Ex → St → Prop} {σ : St} : WPk Tryd.prog K10_55 Q σ = WPk Tryd.prog K10_56 (seqK (WPk Tryd.prog K10_57) Q) σ := WPk_seq
def K10_47 : Cd := .seq K10_48 K10_55
@[simp] theorem W10_47 {Q : Ex → St → Prop} {σ : St} : WPk Tryd.prog K10_47 Q σ = WPk Tryd.prog K10_48 (seqK (WPk Tryd.prog K10_55) Q) σ := WPk_seq
def K10_45 : Cd := .seq K10_46 K10_47
@[simp] theorem W10_45 {Q : Ex → St → Prop} {σ : St} : WPk Tryd.prog K10_45 Q σ = WPk Tryd.prog K10_46 (seqK (WPk Tryd.prog K10_47) Q) σ := WPk_seq
def K10_28 : Cd := .seq K10_29 K10_45
@[simp] theorem W10_28 {Q : Ex → St → Prop} {σ : St} : WPk Tryd.prog K10_28 Q σ = WPk Tryd.prog K10_29 (seqK (WPk Tryd.prog K10_45) Q) σ := WPk_seq
def K10_27 : Cd := .block 1 K10_28
@[simp] theorem W10_27 {Q : Ex → St → Prop} {σ : St} : WPk Tryd.prog K10_27 Q σ = WPk Tryd.prog K10_28 (blkQ 1 Q) σ := rfl
def K10_21 : Cd := .seq K10_22 K10_27
@[simp] theorem W10_21 {Q : Ex → St → Prop} {σ : St} : WPk Tryd.prog K10_21 Q σ = WPk Tryd.prog K10_22 (seqK (WPk Tryd.prog K10_27) Q) σ := WPk_seq
def K10_20 : Cd := .loop K10_21
@[simp] theorem W10_20 {Q : Ex → St → Prop} {σ : St} : WPk Tryd.prog K10_20 Q σ = WPk Tryd.prog (.loop K10_21) Q σ := rfl
def K10_19 : Cd := .block 0 K10_20
@[simp] theorem W10_19 {Q : Ex → St → Prop} {σ : St} : WPk Tryd.prog K10_19 Q σ = WPk Tryd.prog K10_20 (blkQ 0 Q) σ := rfl
@[simp] def R10_61 : List Op1 := [⟨some 54, .move (.tmp 5), none⟩, ⟨some 2, .assign (.tmp 54), none⟩, ⟨some 3, .assign (.const (.int .i64 0)), none⟩, ⟨some 4, .assign (.const (.int .i64 0)), none⟩]
def K10_61 : Cd := .reg (some ([2, 3, 4])) R10_61
@[simp] theorem W10_61 {Q : Ex → St → Prop} {σ : St} : WPk Tryd.prog K10_61 Q σ = WPl Tryd.prog Q R10_61 (keepQ (some ([2, 3, 4])) Q) σ := rfl
def K10_62 : Cd := .ret
@[simp] theorem W10_62 {Q : Ex → St → Prop} {σ : St} : WPk Tryd.prog K10_62 Q σ = Q .ret σ := rfl
def K10_60 : Cd := .seq K10_61 K10_62
@[simp] theorem W10_60 {Q : Ex → St → Prop} {σ : St} : WPk Tryd.prog K10_60 Q σ = WPk Tryd.prog K10_61 (seqK (WPk Tryd.prog K10_62) Q) σ := WPk_seq
def K10_18 : Cd := .seq K10_19 K10_60
@[simp] theorem W10_18 {Q : Ex → St → Prop} {σ : St} : WPk Tryd.prog K10_18 Q σ = WPk Tryd.prog K10_19 (seqK (WPk Tryd.prog K10_60) Q) σ := WPk_seq
def K10_16 : Cd := .seq K10_17 K10_18
@[simp] theorem W10_16 {Q : Ex → St → Prop} {σ : St} : WPk Tryd.prog K10_16 Q σ = WPk Tryd.prog K10_17 (seqK (WPk Tryd.prog K10_18) Q) σ := WPk_seq
def K10_14 : Cd := .seq K10_15 K10_16
@[simp] theorem W10_14 {Q : Ex → St → Prop} {σ : St} : WPk Tryd.prog K10_14 Q σ = WPk Tryd.prog K10_15 (seqK (WPk Tryd.prog K10_16) Q) σ := WPk_seq
def K10_12 : Cd := .seq K10_13 K10_14
@[simp] theorem W10_12 {Q : Ex → St → Prop} {σ : St} : WPk Tryd.prog K10_12 Q σ = WPk Tryd.prog K10_13 (seqK (WPk Tryd.prog K10_14) Q) σ := WPk_seq
def K10_10 : Cd := .seq K10_11 K10_12
@[simp] theorem W10_10 {Q : Ex → St → Prop} {σ : St} : WPk Tryd.prog K10_10 Q σ = WPk Tryd.prog K10_11 (seqK (WPk Tryd.prog K10_12) Q) σ := WPk_seq
def K10_2 : Cd := .seq K10_3 K10_10
@[simp] theorem W10_2 {Q : Ex → St → Prop} {σ : St} : WPk Tryd.prog K10_2 Q σ = WPk Tryd.prog K10_3 (seqK (WPk Tryd.prog K10_10) Q) σ := WPk_seq
def K10_0 : Cd := .seq K10_1 K10_2
@[simp] theorem W10_0 {Q : Ex → St → Prop} {σ : St} : WPk Tryd.prog K10_0 Q σ = WPk Tryd.prog K10_1 (seqK (WPk Tryd.prog K10_2) Q) σ := WPk_seq
theorem k10 : FnK Tryd.prog 10 (55) ([.tmp 2, .tmp 3, .tmp 4]) K10_0 := ⟨_, _, _, ok10, by kernel_rfl, by kernel_rfl, by kernel_rfl⟩
-- ROOT 10 0 63
@[simp] def R11_1 : List Op1 := [⟨some 4, .assign (.const (.bool false)), none⟩]
def K11_1 : Cd := .reg (some ([0, 1])) R11_1
@[simp] theorem W11_1 {Q : Ex → St → Prop} {σ : St} : WPk Tryd.prog K11_1 Q σ = WPl Tryd.prog Q R11_1 (keepQ (some ([0, 1])) Q) σ := rfl
@[simp] def R11_4 : List Op1 := [⟨some 8, .move (.tmp 0), none⟩, ⟨some 9, .call { callee := .builtin .len, args := #[.tmp 8], argTypes := #[22] }, none⟩, ⟨some 10, .move (.tmp 1), none⟩, ⟨some 11, .call { callee := .builtin .len, args := #[.tmp 10], argTypes := #[22] }, none⟩, ⟨some 12, .binOp .neq 3 (.tmp 9) (.tmp 11) 3, none⟩, ⟨some 13, .move (.tmp 12), none⟩, ⟨some 14, .move (.tmp 0), some (13, false)⟩, ⟨some 15, .call { callee := .builtin .cap, args := #[.tmp 14], argTypes := #[22] }, some (13, false)⟩, ⟨some 16, .move (.tmp 0), some (13, false)⟩, ⟨some 17, .call { callee := .builtin .len, args := #[.tmp 16], argTypes := #[22] }, some (13, false)⟩, ⟨some 18, .binOp .add 3 (.tmp 17) (.const (.int .i64 8)) 3, some (13, false)⟩, ⟨some 19, .binOp .lss 3 (.tmp 15) (.tmp 18) 3, some (13, false)⟩, ⟨some 20, .pick (.tmp 13) (.const (.bool true)) (.tmp 19), none⟩]
def K11_4 : Cd := .reg (some ([0, 1, 20])) R11_4
@[simp] theorem W11_4 {Q : Ex → St → Prop} {σ : St} : WPk Tryd.prog K11_4 Q σ = WPl Tryd.prog Q R11_4 (keepQ (some ([0, 1, 20])) Q) σ := rfl
@[simp] def R11_7 : List Op1 := [⟨some 4, .assign (.const (.bool false)), none⟩]
def K11_7 : Cd := .reg (some ([4])) R11_7
@[simp] theorem W11_7 {Q : Ex → St → Prop} {σ : St} : WPk Tryd.prog K11_7 Q σ = WPl Tryd.prog Q R11_7 (keepQ (some ([4])) Q) σ := rfl
def K11_8 : Cd := .ret
@[simp] theorem W11_8 {Q : Ex → St → Prop} {σ : St} : WPk Tryd.prog K11_8 Q σ = Q .ret σ := rfl
def K11_6 : Cd := .seq K11_7 K11_8
@[simp] theorem W11_6 {Q : Ex → St → Prop} {σ : St} : WPk Tryd.prog K11_6 Q σ = WPk Tryd.prog K11_7 (seqK (WPk Tryd.prog K11_8) Q) σ := WPk_seq
def K11_9 : Cd := .skip
@[simp] theorem W11_9 {Q : Ex → St → Prop} {σ : St} : WPk Tryd.prog K11_9 Q σ = Q .normal σ := rfl
def K11_5 : Cd := .cond (.tmp 20) K11_6 K11_9
@[simp] theorem W11_5 {Q : Ex → St → Prop} {σ : St} : WPk Tryd.prog K11_5 Q σ = WPk Tryd.prog (.cond (.tmp 20) K11_6 K11_9) Q σ := rfl
def K11_3 : Cd := .seq K11_4 K11_5
@[simp] theorem W11_3 {Q : Ex → St → Prop} {σ : St} : WPk Tryd.prog K11_3 Q σ = WPk Tryd.prog K11_4 (seqK (WPk Tryd.prog K11_5) Q) σ := WPk_seq
@[simp] def R11_12 : List Op1 := [⟨some 21, .move (.tmp 0), none⟩, ⟨some 22, .move (.tmp 0), none⟩, ⟨some 23, .call { callee := .builtin .len, args := #[.tmp 22], argTypes := #[22] }, none⟩, ⟨some 24, .binOp .add 3 (.tmp 23) (.const (.int .i64 8)) 3, none⟩, ⟨some 25, .slice 22 (.tmp 21) none (some (.tmp 24)) none, none⟩, ⟨some 26, .call { callee := .builtin .len, args := #[.tmp 25], argTypes := #[22] }, none⟩, ⟨some 27, .move (.const (.int .i64 0)), none⟩]
def K11_12 : Cd := .reg (some ([1, 25, 26, 27])) R11_12
@[simp] theorem W11_12 {Q : Ex → St → Prop} {σ : St} : WPk Tryd.prog K11_12 Q σ = WPl Tryd.prog Q R11_12 (keepQ (some ([1, 25, 26, 27])) Q) σ := rfl
@[simp] def R11_16 : List Op1 := [⟨some 28, .binOp .lss 3 (.tmp 27) (.tmp 26) 3, none⟩]
def K11_16 : Cd := .reg (some ([1, 25, 26, 27, 28])) R11_16
@[simp] theorem W11_16 {Q : Ex → St → Prop} {σ : St} : WPk Tryd.prog K11_16 Q σ = WPl Tryd.prog Q R11_16 (keepQ (some ([1, 25, 26, 27, 28])) Q) σ := rfl
def K11_19 : Cd := .skip
@[simp] theorem W11_19 {Q : Ex → St → Prop} {σ : St} : WPk Tryd.prog K11_19 Q σ = Q .normal σ := rfl
def K11_20 : Cd := .exit 0
@[simp] theorem W11_20 {Q : Ex → St → Prop} {σ : St} : WPk Tryd.prog K11_20 Q σ = Q (.exit 0) σ := rfl
def K11_18 : Cd := .cond (.tmp 28) K11_19 K11_20
@[simp] theorem W11_18 {Q : Ex → St → Prop} {σ : St} : WPk Tryd.prog K11_18 Q σ = WPk Tryd.prog (.cond (.tmp 28) K11_19 K11_20) Q σ := rfl
@[simp] def R11_24 : List Op1 := [⟨some 29, .move (.tmp 27), none⟩, ⟨some 30, .indexAddr 22 (.tmp 25) (.tmp 27), none⟩, ⟨some 31, .load 5 (.tmp 30), none⟩, ⟨some 5, .assign (.tmp 29), none⟩, ⟨some 6, .assign (.tmp 31), none⟩]
def K11_24 : Cd := .reg (some ([1, 5, 6, 25, 26, 27])) R11_24
@[simp] theorem W11_24 {Q : Ex → St → Prop} {σ : St} : WPk Tryd.prog K11_24 Q σ = WPl Tryd.prog Q R11_24 (keepQ (some ([1, 5, 6, 25, 26, 27])) Q) σ := rfl
@[simp] def R11_26 : List Op1 := [⟨some 32, .move (.tmp 1), none⟩, ⟨some 33, .call { callee := .builtin .len, args := #[.tmp 32], argTypes := #[22] }, none⟩, ⟨some 34, .binOp .add 3 (.const (.int .i64 8)) (.tmp 33) 3, none⟩, ⟨some 35, .move (.tmp 5), none⟩, ⟨some 36, .binOp .sub 3 (.tmp 34) (.tmp 35) 3, none⟩, ⟨some 37, .convert 3 5 (.tmp 36), none⟩, ⟨some 7, .assign (.tmp 37), none⟩]
def K11_26 : Cd := .reg (some ([1, 5, 6, 7, 25, 26, 27])) R11_26
@[simp] theorem W11_26 {Q : Ex → St → Prop} {σ : St} : WPk Tryd.prog K11_26 Q σ = WPl Tryd.prog Q R11_26 (keepQ (some ([1, 5, 6, 7, 25, 26, 27])) Q) σ := rfl
@[simp] def R11_29 : List Op1 := [⟨some 38, .move (.tmp 5), none⟩, ⟨some 39, .move (.tmp 1), none⟩, ⟨some 40, .call { callee := .builtin .len, args := #[.tmp 39], argTypes := #[22] }, none⟩, ⟨some 41, .binOp .lss 3 (.tmp 38) (.tmp 40) 3, none⟩]
def K11_29 : Cd := .reg (some ([1, 5, 6, 7, 25, 26, 27, 41])) R11_29
@[simp] theorem W11_29 {Q : Ex → St → Prop} {σ : St} : WPk Tryd.prog K11_29 Q σ = WPl Tryd.prog Q R11_29 (keepQ (some ([1, 5, 6, 7, 25, 26, 27, 41])) Q) σ := rfl
@[simp] def R11_31 : List Op1 := [⟨some 42, .move (.tmp 1), none⟩, ⟨some 43, .move (.tmp 5), none⟩, ⟨some 44, .indexAddr 22 (.tmp 42) (.tmp 43), none⟩, ⟨some 45, .load 5 (.tmp 44), none⟩, ⟨some 7, .assign (.tmp 45), none⟩]
def K11_31 : Cd := .reg (some ([1, 6, 7, 25, 26, 27])) R11_31
@[simp] theorem W11_31 {Q : Ex → St → Prop} {σ : St} : WPk Tryd.prog K11_31 Q σ = WPl Tryd.prog Q R11_31 (keepQ (some ([1, 6, 7, 25, 26, 27])) Q) σ := rfl
def K11_32 : Cd := .skip
@[simp] theorem W11_32 {Q : Ex → St → Prop} {σ : St} : WPk Tryd.prog K11_32 Q σ = Q .normal σ := rfl
def K11_30 : Cd := .cond (.tmp 41) K11_31 K11_32
@[simp] theorem W11_30 {Q : Ex → St → Prop} {σ : St} : WPk Tryd.prog K11_30 Q σ = WPk Tryd.prog (.cond (.tmp 41) K11_31 K11_32) Q σ := rfl
def K11_28 : Cd := .seq K11_29 K11_30
@[simp] theorem W11_28 {Q : Ex → St → Prop} {σ : St} : WPk Tryd.prog K11_28 Q σ = WPk Tryd.prog K11_29 (seqK (WPk Tryd.prog K11_30) Q) σ := WPk_seq
@[simp] def R11_34 : List Op1 := [⟨some 46, .move (.tmp 6), none⟩, ⟨some 47, .move (.tmp 7), none⟩, ⟨some 48, .binOp .neq 5 (.tmp 46) (.tmp 47) 5, none⟩]
def K11_34 : Cd := .reg (some ([1, 25, 26, 27, 48])) R11_34
@[simp] theorem W11_34 {Q : Ex → St → Prop} {σ : St} : WPk Tryd.prog K11_34 Q σ = WPl Tryd.prog Q R11_34 (keepQ (some ([1, 25, 26, 27, 48])) Q) σ := rfl
@[simp] def R11_37 : List Op1 := [⟨some 4, .assign (.const (.bool false)), none⟩]
def K11_37 : Cd := .reg (some ([4])) R11_37
@[simp] theorem W11_37 {Q : Ex → St → Prop} {σ : St} : WPk Tryd.prog K11_37 Q σ = WPl Tryd.prog Q R11_37 (keepQ (some ([4])) Q) σ := rfl
def K11_38 : Cd := .ret
@[simp] theorem W11_38 {Q : Ex → St → Prop} {σ : St} : WPk Tryd.prog K11_38 Q σ = Q .ret σ := rfl
def K11_36 : Cd := .seq K11_37 K11_38
@[simp] theorem W11_36 {Q : Ex → St → Prop} {σ : St} : WPk Tryd.prog K11_36 Q σ = WPk Tryd.prog K11_37 (seqK (WPk Tryd.prog K11_38) Q) σ := WPk_seq
def K11_39 : Cd := .skip
@[simp] theorem W11_39 {Q : Ex → St → Prop} {σ : St} : WPk Tryd.prog K11_39 Q σ = Q .normal σ := rfl
def K11_35 : Cd := .cond (.tmp 48) K11_36 K11_39
@[simp] theorem W11_35 {Q : Ex → St → Prop} {σ : St} : WPk Tryd.prog K11_35 Q σ = WPk Tryd.prog (.cond (.tmp 48) K11_36 K11_39) Q σ := rfl
def K11_33 : Cd := .seq K11_34 K11_35
@[simp] theorem W11_33 {Q : Ex → St → Prop} {σ : St} : WPk Tryd.prog K11_33 Q σ = WPk Tryd.prog K11_34 (seqK (WPk Tryd.prog K11_35) Q) σ := WPk_seq
def K11_27 : Cd := .seq K11_28 K11_33
@[simp] theorem W11_27 {Q : Ex → St → Prop} {σ : St} : WPk Tryd.prog K11_27 Q σ = WPk Tryd.prog K11_28 (seqK (WPk Tryd.prog K11_33) Q) σ := WPk_seq
def K11_25 : Cd := .seq K11_26 K11_27
@[simp] theorem W11_25 {Q : Ex → St → Prop} {σ : St} : WPk Tryd.prog K11_25 Q σ = WPk Tryd.prog K11_26 (seqK (WPk Tryd.prog K11_27) Q) σ := WPk_seq
def K11_23 : Cd := .seq K11_24 K11_25
@[simp] theorem W11_23 {Q : Ex → St → Prop} {σ : St} : WPk Tryd.prog K11_23 Q σ = WPk Tryd.prog K11_24 (seqK (WPk Tryd.prog K11_25) Q) σ := WPk_seq
def K11_22 : Cd := .block 1 K11_23
@[simp] theorem W11_22 {Q : Ex → St → Prop} {σ : St} : WPk Tryd.prog K11_22 Q σ = WPk Tryd.prog K11_23 (blkQ 1 Q) σ := rfl
@[simp] def R11_40 : List Op1 := [⟨some 49, .binOp .add 3 (.tmp 27) (.const (.int .i64 1)) 3, none⟩, ⟨some 27, .move (.tmp 49), none⟩]
def K11_40 : Cd := .reg (some ([1, 25, 26, 27])) R11_40
@[simp] theorem W11_40 {Q : Ex → St → Prop} {σ : St} : WPk Tryd.prog K11_40 Q σ = WPl Tryd.prog Q R11_40 (keepQ (some ([1, 25, 26, 27])) Q) σ := rfl
def K11_21 : Cd := .seq K11_22 K11_40
@[simp] theorem W11_21 {Q : Ex → St → Prop} {σ : St} : WPk Tryd.prog K11_21 Q σ = WPk Tryd.prog K11_22 (seqK (WPk Tryd.prog K11_40) Q) σ := WPk_seq
def K11_17 : Cd := .seq K11_18 K11_21
@[simp] theorem W11_17 {Q : Ex → St → Prop} {σ : St} : WPk Tryd.prog K11_17 Q σ = WPk Tryd.prog K11_18 (seqK (WPk Tryd.prog K11_21) Q) σ := WPk_seq
def K11_15 : Cd := .seq K11_16 K11_17
@[simp] theorem W11_15 {Q : Ex → St → Prop} {σ : St} : WPk Tryd.prog K11_15 Q σ = WPk Tryd.prog K11_16 (seqK (WPk Tryd.prog K11_17) Q) σ := WPk_seq
def K11_14 : Cd := .loop K11_15
@[simp] theorem W11_14 {Q : Ex → St → Prop} {σ : St} : WPk Tryd.prog K11_14 Q σ = WPk Tryd.prog (.loop K11_15) Q σ := rfl
def K11_13 : Cd := .block 0 K11_14
@[simp] theorem W11_13 {Q : Ex → St → Prop} {σ : St} : WPk Tryd.prog K11_13 Q σ = WPk Tryd.prog K11_14 (blkQ 0 Q) σ := rfl
def K11_11 : Cd := .seq K11_12 K11_13
@[simp] theorem W11_11 {Q : Ex → St → Prop} {σ : St} : WPk Tryd.prog K11_11 Q σ = WPk Tryd.prog K11_12 (seqK (WPk Tryd.prog K11_13) Q) σ := WPk_seq
@[simp] def R11_42 : List Op1 := [⟨some 4, .assign (.const (.bool true)), none⟩]
def K11_42 : Cd := .reg (some ([4])) R11_42
@[simp] theorem W11_42 {Q : Ex → St → Prop} {σ : St} : WPk Tryd.prog K11_42 Q σ = WPl Tryd.prog Q R11_42 (keepQ (some ([4])) Q) σ := rfl
def K11_43 : Cd := .ret
@[simp] theorem W11_43 {Q : Ex → St → Prop} {σ : St} : WPk Tryd.prog K11_43 Q σ = Q .ret σ := rfl
def K11_41 : Cd := .seq K11_42 K11_43
@[simp] theorem W11_41 {Q : Ex → St → Prop} {σ : St} : WPk Tryd.prog K11_41 Q σ = WPk Tryd.prog K11_42 (seqK (WPk Tryd.prog K11_43) Q) σ := WPk_seq
def K11_10 : Cd := .seq K11_11 K11_41
@[simp] theorem W11_10 {Q : Ex → St → Prop} {σ : St} : WPk Tryd.prog K11_10 Q σ = WPk Tryd.prog K11_11 (seqK (WPk Tryd.prog K11_41) Q) σ := WPk_seq
def K11_2 : Cd := .seq K11_3 K11_10
@[simp] theorem W11_2 {Q : Ex → St → Prop} {σ : St} : WPk Tryd.prog K11_2 Q σ = WPk Tryd.prog K11_3 (seqK (WPk Tryd.prog K11_10) Q) σ := WPk_seq
def K11_0 : Cd := .seq K11_1 K11_2
@[simp] theorem W11_0 {Q : Ex → St → Prop} {σ : St} : WPk Tryd.prog K11_0 Q σ = WPk Tryd.prog K11_1 (seqK (WPk Tryd.prog K11_2) Q) σ := WPk_seq
theorem k11 : FnK Tryd.prog 11 (50) ([.tmp 4]) K11_0 := ⟨_, _, _, ok11, by kernel_rfl, by kernel_rfl, by kernel_rfl⟩
-- ROOT 11 0 44
@[simp] def R12_1 : List Op1 := [⟨some 4, .assign (.const (.bool false)), none⟩]
def K12_1 : Cd := .reg (some ([0, 1])) R12_1
@[simp] theorem W12_1 {Q : Ex → St → Prop} {σ : St} : WPk Tryd.prog K12_1 Q σ = WPl Tryd.prog Q R12_1 (keepQ (some ([0, 1])) Q) σ := rfl
@[simp] def R12_4 : List Op1 := [⟨some 6, .move (.tmp 0), none⟩, ⟨some 7, .call { callee := .builtin .len, args := #[.tmp 6], argTypes := #[25] }, none⟩, ⟨some 8, .move (.tmp 1), none⟩, ⟨some 9, .call { callee := .builtin .len, args := #[.tmp 8], argTypes := #[25] }, none⟩, ⟨some 10, .binOp .neq 3 (.tmp 7) (.tmp 9) 3, none⟩]
def K12_4 : Cd := .reg (some ([0, 1, 10])) R12_4
@[simp] theorem W12_4 {Q : Ex → St → Prop} {σ : St} : WPk Tryd.prog K12_4 Q σ = WPl Tryd.prog Q R12_4 (keepQ (some ([0, 1, 10])) Q) σ := rfl
@[simp] def R12_7 : List Op1 := [⟨some 4, .assign (.const (.bool false)), none⟩]
def K12_7 : Cd := .reg (some ([4])) R12_7
@[simp] theorem W12_7 {Q : Ex → St → Prop} {σ : St} : WPk Tryd.prog K12_7 Q σ = WPl Tryd.prog Q R12_7 (keepQ (some ([4])) Q) σ := rfl
def K12_8 : Cd := .ret
@[simp] theorem W12_8 {Q : Ex → St → Prop} {σ : St} : WPk Tryd.prog K12_8 Q σ = Q .ret σ := rfl
def K12_6 : Cd := .seq K12_7 K12_8
@[simp] theorem W12_6 {Q : Ex → St → Prop} {σ : St} : WPk Tryd.prog K12_6 Q σ = WPk Tryd.prog K12_7 (seqK (WPk Tryd.prog K12_8) Q) σ := WPk_seq
def K12_9 : Cd := .skip
@[simp] theorem W12_9 {Q : Ex → St → Prop} {σ : St} : WPk Tryd.prog K12_9 Q σ = Q .normal σ := rfl
def K12_5 : Cd := .cond (.tmp 10) K12_6 K12_9
@[simp] theorem W12_5 {Q : Ex → St → Prop} {σ : St} : WPk Tryd.prog K12_5 Q σ = WPk Tryd.prog (.cond (.tmp 10) K12_6 K12_9) Q σ := rfl
def K12_3 : Cd := .seq K12_4 K12_5
@[simp] theorem W12_3 {Q : Ex → St → Prop} {σ : St} : WPk Tryd.prog K12_3 Q σ = WPk Tryd.prog K12_4 (seqK (WPk Tryd.prog K12_5) Q) σ := WPk_seq
@[simp] def R12_12 : List Op1 := [⟨some 5, .assign (.const (.int .i64 0)), none⟩]
def K12_12 : Cd := .reg (some ([0, 1, 5])) R12_12
@[simp] theorem W12_12 {Q : Ex → St → Prop} {σ : St} : WPk Tryd.prog K12_12 Q σ = WPl Tryd.prog Q R12_12 (keepQ (some ([0, 1, 5])) Q) σ := rfl
@[simp] def R12_17 : List Op1 := [⟨some 11, .move (.tmp 5), none⟩, ⟨some 12, .move (.tmp 0), none⟩, ⟨some 13, .call { callee := .builtin .len, args := #[.tmp 12], argTypes := #[25] }, none⟩, ⟨some 14, .binOp .lss 3 (.tmp 11) (.tmp 13) 3, none⟩]
def K12_17 : Cd := .reg (some ([0, 1, 5, 14])) R12_17
@[simp] theorem W12_17 {Q : Ex → St → Prop} {σ : St} : WPk Tryd.prog K12_17 Q σ = WPl Tryd.prog Q R12_17 (keepQ (some ([0, 1, 5, 14])) Q) σ := rfl
def K12_19 : Cd := .skip
@[simp] theorem W12_19 {Q : Ex → St → Prop} {σ : St} : WPk Tryd.prog K12_19 Q σ = Q .normal σ := rfl
def K12_20 : Cd := .exit 0
@[simp] theorem W12_20 {Q : Ex → St → Prop} {σ : St} : WPk Tryd.prog K12_20 Q σ = Q (.exit 0) σ := rfl
def K12_18 : Cd := .cond (.tmp 14) K12_19 K12_20
@[simp] theorem W12_18 {Q : Ex → St → Prop} {σ : St} : WPk Tryd.prog K12_18 Q σ = WPk Tryd.prog (.cond (.tmp 14) K12_19 K12_20) Q σ := rfl
def K12_16 : Cd := .seq K12_17 K12_18
@[simp] theorem W12_16 {Q : Ex → St → Prop} {σ : St} : WPk Tryd.prog K12_16 Q σ = WPk Tryd.prog K12_17 (seqK (WPk Tryd.prog K12_18) Q) σ := WPk_seq
@[simp] def R12_24 : List Op1 := [⟨some 17, .move (.tmp 0), none⟩, ⟨some 18, .move (.tmp 5), none⟩, ⟨some 19, .indexAddr 25 (.tmp 17) (.tmp 18), none⟩, ⟨some 20, .load 35 (.tmp 19), none⟩, ⟨some 21, .move (.tmp 1), none⟩, ⟨some 22, .move (.tmp 5), none⟩, ⟨some 23, .indexAddr 25 (.tmp 21) (.tmp 22), none⟩, ⟨some 24, .load 35 (.tmp 23), none⟩, ⟨some 25, .binOp .neq 35 (.tmp 20) (.tmp 24) 35, none⟩]
def K12_24 : Cd := .draw ({ live := [0, 1, 5, 25], dms := [{ brw := true }, { brw := true }, { brw := true }, { brw := true }, { brw := true }, { brw := true }, { brw := true }, { brw := true }, { brw := true }] }) R12_24
@[simp] theorem W12_24 {Q : Ex → St → Prop} {σ : St} : WPk Tryd.prog K12_24 Q σ = WPk Tryd.prog (.draw ({ live := [0, 1, 5, 25], dms := [{ brw := true }, { brw := true }, { brw := true }, { brw := true }, { brw := true }, { brw := true }, { brw := true }, { brw := true }, { brw := true }] }) R12_24) Q σ := rfl
@[simp] def R12_27 : List Op1 := [⟨some 4, .assign (.const (.bool false)), none⟩]
def K12_27 : Cd := .reg (some ([4])) R12_27
@[simp] theorem W12_27 {Q : Ex → St → Prop} {σ : St} : WPk Tryd.prog K12_27 Q σ = WPl Tryd.prog Q R12_27 (keepQ (some ([4])) Q) σ := rfl
def K12_28 : Cd := .ret
@[simp] theorem W12_28 {Q : Ex → St → Prop} {σ : St} : WPk Tryd.prog K12_28 Q σ = Q .ret σ := rfl
def K12_26 : Cd := .seq K12_27 K12_28
@[simp] theorem W12_26 {Q : Ex → St → Prop} {σ : St} : WPk Tryd.prog K12_26 Q σ = WPk Tryd.prog K12_27 (seqK (WPk Tryd.prog K12_28) Q) σ := WPk_seq
def K12_29 : Cd := .skip
@[simp] theorem W12_29 {Q : Ex → St → Prop} {σ : St} : WPk Tryd.prog K12_29 Q σ = Q .normal σ := rfl
def K12_25 : Cd := .cond (.tmp 25) K12_26 K12_29
@[simp] theorem W12_25 {Q : Ex → St → Prop} {σ : St} : WPk Tryd.prog K12_25 Q σ = WPk Tryd.prog (.cond (.tmp 25) K12_26 K12_29) Q σ := rfl
def K12_23 : Cd := .seq K12_24 K12_25
@[simp] theorem W12_23 {Q : Ex → St → Prop} {σ : St} : WPk Tryd.prog K12_23 Q σ = WPk Tryd.prog K12_24 (seqK (WPk Tryd.prog K12_25) Q) σ := WPk_seq
def K12_22 : Cd := .block 1 K12_23
@[simp] theorem W12_22 {Q : Ex → St → Prop} {σ : St} : WPk Tryd.prog K12_22 Q σ = WPk Tryd.prog K12_23 (blkQ 1 Q) σ := rfl
@[simp] def R12_30 : List Op1 := [⟨some 15, .move (.tmp 5), none⟩, ⟨some 16, .binOp .add 3 (.tmp 15) (.const (.int .i64 1)) 3, none⟩, ⟨some 5, .assign (.tmp 16), none⟩]
def K12_30 : Cd := .reg (some ([0, 1, 5])) R12_30
@[simp] theorem W12_30 {Q : Ex → St → Prop} {σ : St} : WPk Tryd.prog K12_30 Q σ = WPl Tryd.prog Q R12_30 (keepQ (some ([0, 1, 5])) Q) σ := rfl
def K12_21 : Cd := .seq K12_22 K12_30
@[simp] theorem W12_21 {Q : Ex → St → Prop} {σ : St} : WPk Tryd.prog K12_21 Q σ = WPk Tryd.prog K12_22 (seqK (WPk Tryd.prog K12_30) Q) σ := WPk_seq
def K12_15 : Cd := .seq K12_16 K12_21
@[simp] theorem W12_15 {Q : Ex → St → Prop} {σ : St} : WPk Tryd.prog K12_15 Q σ = WPk Tryd.prog K12_16 (seqK (WPk Tryd.prog K12_21) Q) σ := WPk_seq
def K12_14 : Cd := .loop K12_15
@[simp] theorem W12_14 {Q : Ex → St → Prop} {σ : St} : WPk Tryd.prog K12_14 Q σ = WPk Tryd.prog (.loop K12_15) Q σ := rfl
def K12_13 : Cd := .block 0 K12_14
@[simp] theorem W12_13 {Q : Ex → St → Prop} {σ : St} : WPk Tryd.prog K12_13 Q σ = WPk Tryd.prog K12_14 (blkQ 0 Q) σ := rfl
def K12_11 : Cd := .seq K12_12 K12_13
@[simp] theorem W12_11 {Q : Ex → St → Prop} {σ : St} : WPk Tryd.prog K12_11 Q σ = WPk Tryd.prog K12_12 (seqK (WPk Tryd.prog K12_13) Q) σ := WPk_seq
@[simp] def R12_32 : List Op1 := [⟨some 4, .assign (.const (.bool true)), none⟩]
def K12_32 : Cd := .reg (some ([4])) R12_32
@[simp] theorem W12_32 {Q : Ex → St → Prop} {σ : St} : WPk Tryd.prog K12_32 Q σ = WPl Tryd.prog Q R12_32 (keepQ (some ([4])) Q) σ := rfl
def K12_33 : Cd := .ret
@[simp] theorem W12_33 {Q : Ex → St → Prop} {σ : St} : WPk Tryd.prog K12_33 Q σ = Q .ret σ := rfl
def K12_31 : Cd := .seq K12_32 K12_33
@[simp] theorem W12_31 {Q : Ex → St → Prop} {σ : St} : WPk Tryd.prog K12_31 Q σ = WPk Tryd.prog K12_32 (seqK (WPk Tryd.prog K12_33) Q) σ := WPk_seq
def K12_10 : Cd := .seq K12_11 K12_31
@[simp] theorem W12_10 {Q : Ex → St → Prop} {σ : St} : WPk Tryd.prog K12_10 Q σ = WPk Tryd.prog K12_11 (seqK (WPk Tryd.prog K12_31) Q) σ := WPk_seq
def K12_2 : Cd := .seq K12_3 K12_10
@[simp] theorem W12_2 {Q : Ex → St → Prop} {σ : St} : WPk Tryd.prog K12_2 Q σ = WPk Tryd.prog K12_3 (seqK (WPk Tryd.prog K12_10) Q) σ := WPk_seq
def K12_0 : Cd := .seq K12_1 K12_2
@[simp] theorem W12_0 {Q : Ex → St → Prop} {σ : St} : WPk Tryd.prog K12_0 Q σ = WPk Tryd.prog K12_1 (seqK (WPk Tryd.prog K12_2) Q) σ := WPk_seq
theorem k12 : FnK Tryd.prog 12 (26) ([.tmp 4]) K12_0 := ⟨_, _, _, ok12, by kernel_rfl, by kernel_rfl, by kernel_rfl⟩
-- ROOT 12 0 34
@[simp] def R13_1 : List Op1 := [⟨some 4, .assign (.const (.bool false)), none⟩]
def K13_1 : Cd := .reg (some ([0, 1])) R13_1
@[simp] theorem W13_1 {Q : Ex → St → Prop} {σ : St} : WPk Tryd.prog K13_1 Q σ = WPl Tryd.prog Q R13_1 (keepQ (some ([0, 1])) Q) σ := rfl
@[simp] def R13_4 : List Op1 := [⟨some 6, .move (.tmp 0), none⟩, ⟨some 7, .call { callee := .builtin .len, args := #[.tmp 6], argTypes := #[25] }, none⟩, ⟨some 8, .move (.tmp 1), none⟩, ⟨some 9, .call { callee := .builtin .len, args := #[.tmp 8], argTypes := #[25] }, none⟩, ⟨some 10, .binOp .neq 3 (.tmp 7) (.tmp 9) 3, none⟩]
def K13_4 : Cd := .reg (some ([0, 1, 10])) R13_4
@[simp] theorem W13_4 {Q : Ex → St → Prop} {σ : St} : WPk Tryd.prog K13_4 Q σ = WPl Tryd.prog Q R13_4 (keepQ (some ([0, 1, 10])) Q) σ := rfl
@[simp] def R13_7 : List Op1 := [⟨some 4, .assign (.const (.bool false)), none⟩]
def K13_7 : Cd := .reg (some ([4])) R13_7
@[simp] theorem W13_7 {Q : Ex → St → Prop} {σ : St} : WPk Tryd.prog K13_7 Q σ = WPl Tryd.prog Q R13_7 (keepQ (some ([4])) Q) σ := rfl
def K13_8 : Cd := .ret
@[simp] theorem W13_8 {Q : Ex → St → Prop} {σ : St} : WPk Tryd.prog K13_8 Q σ = Q .ret σ := rfl
def K13_6 : Cd := .seq K13_7 K13_8
@[simp] theorem W13_6 {Q : Ex → St → Prop} {σ : St} : WPk Tryd.prog K13_6 Q σ = WPk Tryd.prog K13_7 (seqK (WPk Tryd.prog K13_8) Q) σ := WPk_seq
def K13_9 : Cd := .skip
@[simp] theorem W13_9 {Q : Ex → St → Prop} {σ : St} : WPk Tryd.prog K13_9 Q σ = Q .normal σ := rfl
def K13_5 : Cd := .cond (.tmp 10) K13_6 K13_9
@[simp] theorem W13_5 {Q : Ex → St → Prop} {σ : St} : WPk Tryd.prog K13_5 Q σ = WPk Tryd.prog (.cond (.tmp 10) K13_6 K13_9) Q σ := rfl
def K13_3 : Cd := .seq K13_4 K13_5
@[simp] theorem W13_3 {Q : Ex → St → Prop} {σ : St} : WPk Tryd.prog K13_3 Q σ = WPk Tryd.prog K13_4 (seqK (WPk Tryd.prog K13_5) Q) σ := WPk_seq
@[simp] def R13_12 : List Op1 := [⟨some 5, .assign (.const (.int .i64 0)), none⟩]
def K13_12 : Cd := .reg (some ([0, 1, 5])) R13_12
@[simp] theorem W13_12 {Q : Ex → St → Prop} {σ : St} : WPk Tryd.prog K13_12 Q σ = WPl Tryd.prog Q R13_12 (keepQ (some ([0, 1, 5])) Q) σ := rfl
@[simp] def R13_17 : List Op1 := [⟨some 11, .move (.tmp 5), none⟩, ⟨some 12, .move (.tmp 0), none⟩, ⟨some 13, .call { callee := .builtin .len, args := #[.tmp 12], argTypes := #[25] }, none⟩, ⟨some 14, .binOp .lss 3 (.tmp 11) (.tmp 13) 3, none⟩]
def K13_17 : Cd := .reg (some ([0, 1, 5, 14])) R13_17
@[simp] theorem W13_17 {Q : Ex → St → Prop} {σ : St} : WPk Tryd.prog K13_17 Q σ = WPl Tryd.prog Q R13_17 (keepQ (some ([0, 1, 5, 14])) Q) σ := rfl
def K13_19 : Cd := .skip
@[simp] theorem W13_19 {Q : Ex → St → Prop} {σ : St} : WPk Tryd.prog K13_19 Q σ = Q .normal σ := rfl
def K13_20 : Cd := .exit 0
@[simp] theorem W13_20 {Q : Ex → St → Prop} {σ : St} : WPk Tryd.prog K13_20 Q σ = Q (.exit 0) σ := rfl
def K13_18 : Cd := .cond (.tmp 14) K13_19 K13_20
@[simp] theorem W13_18 {Q : Ex → St → Prop} {σ : St} : WPk Tryd.prog K13_18 Q σ = WPk Tryd.prog (.cond (.tmp 14) K13_19 K13_20) Q σ := rfl
def K13_16 : Cd := .seq K13_17 K13_18
@[simp] theorem W13_16 {Q : Ex → St → Prop} {σ : St} : WPk Tryd.prog K13_16 Q σ = WPk Tryd.prog K13_17 (seqK (WPk Tryd.prog K13_18) Q) σ := WPk_seq
@[simp] def R13_24 : List Op1 := [⟨some 17, .move (.tmp 0), none⟩, ⟨some 18, .move (.tmp 5), none⟩, ⟨some 19, .indexAddr 25 (.tmp 17) (.tmp 18), none⟩, ⟨some 20, .fieldAddr 35 (.tmp 19) 0, none⟩, ⟨some 21, .load 5 (.tmp 20), none⟩, ⟨some 22, .move (.tmp 1), none⟩, ⟨some 23, .move (.tmp 5), none⟩, ⟨some 24, .indexAddr 25 (.tmp 22) (.tmp 23), none⟩, ⟨some 25, .fieldAddr 35 (.tmp 24) 0, none⟩, ⟨some 26, .load 5 (.tmp 25), none⟩, ⟨some 27, .binOp .neq 5 (.tmp 21) (.tmp 26) 5, none⟩, ⟨some 28, .move (.tmp 27), none⟩, ⟨some 29, .move (.tmp 0), some (28, false)⟩, ⟨some 30, .move (.tmp 5), some (28, false)⟩, ⟨some 31, .indexAddr 25 (.tmp 29) (.tmp 30), some (28, false)⟩, ⟨some 32, .fieldAddr 35 (.tmp 31) 1, some (28, false)⟩, ⟨some 33, .load 9 (.tmp 32), some (28, false)⟩, ⟨some 34, .move (.tmp 1), some (28, false)⟩, ⟨some 35, .move (.tmp 5), some (28, false)⟩, ⟨some 36, .indexAddr 25 (.tmp 34) (.tmp 35), some (28, false)⟩, ⟨some 37, .fieldAddr 35 (.tmp 36) 1, some (28, false)⟩, ⟨some 38, .load 9 (.tmp 37), some (28, false)⟩, ⟨some 39, .binOp .neq 9 (.tmp 33) (.tmp 38) 9, some (28, false)⟩, ⟨some 40, .pick (.tmp 28) (.const (.bool true)) (.tmp 39), none⟩, ⟨some 41, .move (.tmp 40), none⟩, ⟨some 42, .move (.tmp 0), some (41, false)⟩, ⟨some 43, .move (.tmp 5), some (41, false)⟩, ⟨some 44, .indexAddr 25 (.tmp 42) (.tmp 43), some (41, false)⟩, ⟨some 45, .fieldAddr 35 (.tmp 44) 2, some (41, false)⟩, ⟨some 46, .load 2 (.tmp 45), some (41, false)⟩, ⟨some 47, .move (.tmp 1), some (41, false)⟩, ⟨some 48, .move (.tmp 5), some (41, false)⟩, ⟨some 49, .indexAddr 25 (.tmp 47) (.tmp 48), some (41, false)⟩, ⟨some 50, .fieldAddr 35 (.tmp 49) 2, some (41, false)⟩, ⟨some 51, .load 2 (.tmp 50), some (41, false)⟩, ⟨some 52, .binOp .neq 2 (.tmp 46) (.tmp 51) 2, some (41, false)⟩, ⟨some 53, .pick (.tmp 41) (.const (.bool true)) (.tmp 52), none⟩]
def K13_24 : Cd := .draw ({ live := [0, 1, 5, 53],   dms :=     have y :=       have y :=         have y := [{ brw := true }, { brw := true }, { brw := true }, { brw := true }, { brw := true }];         { brw := true } :: { brw := true } :: { brw := true } :: { brw := true } :: { brw := true } :: y;       have y := { brw := true } :: { brw := true } :: { brw := true } :: { brw := true } :: { brw := true } :: y;       { brw := true } :: { brw := true } :: { brw := true } :: { brw := true } :: y;     have y :=       have y := { brw := true } :: { brw := true } :: { brw := true } :: { brw := true } :: { brw := true } :: y;       { brw := true } :: { brw := true } :: { brw := true } :: { brw := true } :: y;     have y := { brw := true } :: { brw := true } :: { brw := true } :: { brw := true } :: { brw := true } :: y;     { brw := true } :: { brw := true } :: { brw := true } :: { brw := true } :: y }) R13_24
@[simp] theorem W13_24 {Q : Ex → St → Prop} {σ : St} : WPk Tryd.prog K13_24 Q σ = WPk Tryd.prog (.draw ({ live := [0, 1, 5, 53],   dms :=     have y :=       have y :=         have y := [{ brw := true }, { brw := true }, { brw := true }, { brw := true }, { brw := true }];         { brw := true } :: { brw := true } :: { brw := true } :: { brw := true } :: { brw := true } :: y;       have y := { brw := true } :: { brw := true } :: { brw := true } :: { brw := true } :: { brw := true } :: y;       { brw := true } :: { brw := true } :: { brw := true } :: { brw := true } :: y;     have y :=       have y := { brw := true } :: { brw := true } :: { brw := true } :: { brw := true } :: { brw := true } :: y;       { brw := true } :: { brw := true } :: { brw := true } :: { brw := true } :: y;     have y := { brw := true } :: { brw := true } :: { brw := true } :: { brw := true } :: { brw := true } :: y;     { brw := true } :: { brw := true } :: { brw := true } :: { brw := true } :: y }) R13_24) Q σ := rfl
@[simp] def R13_27 : List Op1 := [⟨some 4, .assign (.const (.bool false)), none⟩]
def K13_27 : Cd := .reg (some ([4])) R13_27
@[simp] theorem W13_27 {Q : Ex → St → Prop} {σ : St} : WPk Tryd.prog K13_27 Q σ = WPl Tryd.prog Q R13_27 (keepQ (some ([4])) Q) σ := rfl
def K13_28 : Cd := .ret
@[simp] theorem W13_28 {Q : Ex → St → Prop} {σ : St} : WPk Tryd.prog K13_28 Q σ = Q .ret σ := rfl
def K13_26 : Cd := .seq K13_27 K13_28
@[simp] theorem W13_26 {Q : Ex → St → Prop} {σ : St} : WPk Tryd.prog K13_26 Q σ = WPk Tryd.prog K13_27 (seqK (WPk Tryd.prog K13_28) Q) σ := WPk_seq
def K13_29 : Cd := .skip
@[simp] theorem W13_29 {Q : Ex → St → Prop} {σ : St} : WPk Tryd.prog K13_29 Q σ = Q .normal σ := rfl
def K13_25 : Cd := .cond (.tmp 53) K13_26 K13_29
@[simp] theorem W13_25 {Q : Ex → St → Prop} {σ : St} : WPk Tryd.prog K13_25 Q σ = WPk Tryd.prog (.cond (.tmp 53) K13_26 K13_29) Q σ := rfl
def K13_23 : Cd := .seq K13_24 K13_25
@[simp] theorem W13_23 {Q : Ex → St → Prop} {σ : St} : WPk Tryd.prog K13_23 Q σ = WPk Tryd.prog K13_24 (seqK (WPk Tryd.prog K13_25) Q) σ := WPk_seq
def K13_22 : Cd := .block 1 K13_23
@[simp] theorem W13_22 {Q : Ex → St → Prop} {σ : St} : WPk Tryd.prog K13_22 Q σ = WPk Tryd.prog K13_23 (blkQ 1 Q) σ := rfl
@[simp] def R13_30 : List Op1 := [⟨some 15, .move (.tmp 5), none⟩, ⟨some 16, .binOp .add 3 (.tmp 15) (.const (.int .i64 1)) 3, none⟩, ⟨some 5, .assign (.tmp 16), none⟩]
def K13_30 : Cd := .reg (some ([0, 1, 5])) R13_30
@[simp] theorem W13_30 {Q : Ex → St → Prop} {σ : St} : WPk Tryd.prog K13_30 Q σ = WPl Tryd.prog Q R13_30 (keepQ (some ([0, 1, 5])) Q) σ := rfl
def K13_21 : Cd := .seq K13_22 K13_30
@[simp] theorem W13_21 {Q : Ex → St → Prop} {σ : St} : WPk Tryd.prog K13_21 Q σ = WPk Tryd.prog K13_22 (seqK (WPk Tryd.prog K13_30) Q) σ := WPk_seq
def K13_15 : Cd := .seq K13_16 K13_21
@[simp] theorem W13_15 {Q : Ex → St → Prop} {σ : St} : WPk Tryd.prog K13_15 Q σ = WPk Tryd.prog K13_16 (seqK (WPk Tryd.prog K13_21) Q) σ := WPk_seq
def K13_14 : Cd := .loop K13_15
@[simp] theorem W13_14 {Q : Ex → St → Prop} {σ : St} : WPk Tryd.prog K13_14 Q σ = WPk Tryd.prog (.loop K13_15) Q σ := rfl
def K13_13 : Cd := .block 0 K13_14
@[simp] theorem W13_13 {Q : Ex → St → Prop} {σ : St} : WPk Tryd.prog K13_13 Q σ = WPk Tryd.prog K13_14 (blkQ 0 Q) σ := rfl
def K13_11 : Cd := .seq K13_12 K13_13
@[simp] theorem W13_11 {Q : Ex → St → Prop} {σ : St} : WPk Tryd.prog K13_11 Q σ = WPk Tryd.prog K13_12 (seqK (WPk Tryd.prog K13_13) Q) σ := WPk_seq
@[simp] def R13_32 : List Op1 := [⟨some 4, .assign (.const (.bool true)), none⟩]
def K13_32 : Cd := .reg (some ([4])) R13_32
@[simp] theorem W13_32 {Q : Ex → St → Prop} {σ : St} : WPk Tryd.prog K13_32 Q σ = WPl Tryd.prog Q R13_32 (keepQ (some ([4])) Q) σ := rfl
def K13_33 : Cd := .ret
@[simp] theorem W13_33 {Q : Ex → St → Prop} {σ : St} : WPk Tryd.prog K13_33 Q σ = Q .ret σ := rfl
def K13_31 : Cd := .seq K13_32 K13_33
@[simp] theorem W13_31 {Q : Ex → St → Prop} {σ : St} : WPk Tryd.prog K13_31 Q σ = WPk Tryd.prog K13_32 (seqK (WPk Tryd.prog K13_33) Q) σ := WPk_seq
def K13_10 : Cd := .seq K13_11 K13_31
@[simp] theorem W13_10 {Q : Ex → St → Prop} {σ : St} : WPk Tryd.prog K13_10 Q σ = WPk Tryd.prog K13_11 (seqK (WPk Tryd.prog K13_31) Q) σ := WPk_seq
def K13_2 : Cd := .seq K13_3 K13_10
@[simp] theorem W13_2 {Q : Ex → St → Prop} {σ : St} : WPk Tryd.prog K13_2 Q σ = WPk Tryd.prog K13_3 (seqK (WPk Tryd.prog K13_10) Q) σ := WPk_seq
def K13_0 : Cd := .seq K13_1 K13_2
@[simp] theorem W13_0 {Q : Ex → St → Prop} {σ : St} : WPk Tryd.prog K13_0 Q σ = WPk Tryd.prog K13_1 (seqK (WPk Tryd.prog K13_2) Q) σ := WPk_seq
theorem k13 : FnK Tryd.prog 13 (54) ([.tmp 4]) K13_0 := ⟨_, _, _, ok13, by kernel_rfl, by kernel_rfl, by kernel_rfl⟩
-- ROOT 13 0 34
@[simp] def R14_1 : List Op1 := [⟨some 2, .assign (.const (.bool false)), none⟩]
def K14_1 : Cd := .reg (some ([0])) R14_1
@[simp] theorem W14_1 {Q : Ex → St → Prop} {σ : St} : WPk Tryd.prog K14_1 Q σ = WPl Tryd.prog Q R14_1 (keepQ (some ([0])) Q) σ := rfl
@[simp] def R14_3 : List Op1 := [⟨some 3, .move (.tmp 0), none⟩, ⟨some 4, .binOp .geq 5 (.tmp 3) (.const (.int .u8 97)) 5, none⟩, ⟨some 5, .move (.tmp 4), none⟩, ⟨some 6, .move (.tmp 0), some (5, true)⟩, ⟨some 7, .binOp .leq 5 (.tmp 6) (.const (.int .u8 122)) 5, some (5, true)⟩, ⟨some 8, .pick (.tmp 5) (.tmp 7) (.const (.bool false)), none⟩, ⟨some 9, .move (.tmp 8), none⟩, ⟨some 10, .move (.tmp 0), some (9, false)⟩, ⟨some 11, .binOp .geq 5 (.tmp 10) (.const (.int .u8 65)) 5, some (9, false)⟩, ⟨some 12, .move (.tmp 11), some (9, false)⟩, ⟨some 13, .move (.tmp 0), some (12, true)⟩, ⟨some 14, .binOp .leq 5 (.tmp 13) (.const (.int .u8 90)) 5, some (12, true)⟩, ⟨some 15, .pick (.tmp 12) (.tmp 14) (.const (.bool false)), some (9, false)⟩, ⟨some 16, .pick (.tmp 9) (.const (.bool true)) (.tmp 15), none⟩, ⟨some 17, .move (.tmp 16), none⟩, ⟨some 18, .move (.tmp 0), some (17, false)⟩, ⟨some 19, .binOp .eql 5 (.tmp 18) (.const (.int .u8 95)) 5, some (17, false)⟩, ⟨some 20, .pick (.tmp 17) (.const (.bool true)) (.tmp 19), none⟩, ⟨some 2, .assign (.tmp 20), none⟩]
def K14_3 : Cd := .reg (some ([2])) R14_3
@[simp] theorem W14_3 {Q : Ex → St → Prop} {σ : St} : WPk Tryd.prog K14_3 Q σ = WPl Tryd.prog Q R14_3 (keepQ (some ([2])) Q) σ := rfl
def K14_4 : Cd := .ret
@[simp] theorem W14_4 {Q : Ex → St → Prop} {σ : St} : WPk Tryd.prog K14_4 Q σ = Q .ret σ := rfl
def K14_2 : Cd := .seq K14_3 K14_4
@[simp] theorem W14_2 {Q : Ex → St → Prop} {σ : St} : WPk Tryd.prog K14_2 Q σ = WPk Tryd.prog K14_3 (seqK (WPk Tryd.prog K14_4) Q) σ := WPk_seq
def K14_0 : Cd := .seq K14_1 K14_2
@[simp] theorem W14_0 {Q : Ex → St → Prop} {σ : St} : WPk Tryd.prog K14_0 Q σ = WPk Tryd.prog K14_1 (seqK (WPk Tryd.prog K14_2) Q) σ := WPk_seq
theorem k14 : FnK Tryd.prog 14 (21) ([.tmp 2]) K14_0 := ⟨_, _, _, ok14, by kernel_rfl, by kernel_rfl, by kernel_rfl⟩
-- ROOT 14 0 5
@[simp] def R15_1 : List Op1 := [⟨some 2, .assign (.const (.bool false)), none⟩]
def K15_1 : Cd := .reg (some ([0])) R15_1
@[simp] theorem W15_1 {Q : Ex → St → Prop} {σ : St} : WPk Tryd.prog K15_1 Q σ = WPl Tryd.prog Q R15_1 (keepQ (some ([0])) Q) σ := rfl
@[simp] def R15_3 : List Op1 := [⟨some 3, .move (.tmp 0), none⟩, ⟨some 4, .binOp .geq 5 (.tmp 3) (.const (.int .u8 48)) 5, none⟩, ⟨some 5, .move (.tmp 4), none⟩, ⟨some 6, .move (.tmp 0), some (5, true)⟩, ⟨some 7, .binOp .leq 5 (.tmp 6) (.const (.int .u8 57)) 5, some (5, true)⟩, ⟨some 8, .pick (.tmp 5) (.tmp 7) (.const (.bool false)), none⟩, ⟨some 2, .assign (.tmp 8), none⟩]
def K15_3 : Cd := .reg (some ([2])) R15_3
@[simp] theorem W15_3 {Q : Ex → St → Prop} {σ : St} : WPk Tryd.prog K15_3 Q σ = WPl Tryd.prog Q R15_3 (keepQ (some ([2])) Q) σ := rfl
def K15_4 : Cd := .ret
@[simp] theorem W15_4 {Q : Ex → St → Prop} {σ : St} : WPk Tryd.prog K15_4 Q σ = Q .ret σ := rfl
def K15_2 : Cd := .seq K15_3 K15_4
@[simp] theorem W15_2 {Q : Ex → St → Prop} {σ : St} : WPk Tryd.prog K15_2 Q σ = WPk Tryd.prog K15_3 (seqK (WPk Tryd.prog K15_4) Q) σ := WPk_seq
def K15_0 : Cd := .seq K15_1 K15_2
@[simp] theorem W15_0 {Q : Ex → St → Prop} {σ : St} : WPk Tryd.prog K15_0 Q σ = WPk Tryd.prog K15_1 (seqK (WPk Tryd.prog K15_2) Q) σ := WPk_seq
theorem k15 : FnK Tryd.prog 15 (9) ([.tmp 2]) K15_0 := ⟨_, _, _, ok15, by kernel_rfl, by kernel_rfl, by kernel_rfl⟩
-- ROOT 15 0 5
@[simp] def R16_1 : List Op1 := [⟨some 2, .assign (.const (.slice none 0 0)), none⟩]
def K16_1 : Cd := .reg (some ([0])) R16_1
@[simp] theorem W16_1 {Q : Ex → St → Prop} {σ : St} : WPk Tryd.prog K16_1 Q σ = WPl Tryd.prog Q R16_1 (keepQ (some ([0])) Q) σ := rfl
@[simp] def R16_3 : List Op1 := [⟨some 3, .assign (.const (.slice none 0 0)), none⟩]
def K16_3 : Cd := .reg (some ([0, 3])) R16_3
@[simp] theorem W16_3 {Q : Ex → St → Prop} {σ : St} : WPk Tryd.prog K16_3 Q σ = WPl Tryd.prog Q R16_3 (keepQ (some ([0, 3])) Q) σ := rfl
@[simp] def R16_6 : List Op1 := [⟨some 6, .move (.tmp 0), none⟩, ⟨some 7, .call { callee := .builtin .len, args := #[.tmp 6], argTypes := #[22] }, none⟩, ⟨some 8, .move (.const (.int .i64 0)), none⟩]
def K16_6 : Cd := .reg (some ([3, 6, 7, 8])) R16_6
@[simp] theorem W16_6 {Q : Ex → St → Prop} {σ : St} : WPk Tryd.prog K16_6 Q σ = WPl Tryd.prog Q R16_6 (keepQ (some ([3, 6, 7, 8])) Q) σ := rfl
@[simp] def R16_10 : List Op1 := [⟨some 9, .binOp .lss 3 (.tmp 8) (.tmp 7) 3, none⟩]
def K16_10 : Cd := .reg (some ([3, 6, 7, 8, 9])) R16_10
@[simp] theorem W16_10 {Q : Ex → St → Prop} {σ : St} : WPk Tryd.prog K16_10 Q σ = WPl Tryd.prog Q R16_10 (keepQ (some ([3, 6, 7, 8, 9])) Q) σ := rfl
def K16_13 : Cd := .skip
@[simp] theorem W16_13 {Q : Ex → St → Prop} {σ : St} : WPk Tryd.prog K16_13 Q σ = Q .normal σ := rfl
def K16_14 : Cd := .exit 0
@[simp] theorem W16_14 {Q : Ex → St → Prop} {σ : St} : WPk Tryd.prog K16_14 Q σ = Q (.exit 0) σ := rfl
def K16_12 : Cd := .cond (.tmp 9) K16_13 K16_14
@[simp] theorem W16_12 {Q : Ex → St → Prop} {σ : St} : WPk Tryd.prog K16_12 Q σ = WPk Tryd.prog (.cond (.tmp 9) K16_13 K16_14) Q σ := rfl
@[simp] def R16_18 : List Op1 := [⟨some 10, .indexAddr 22 (.tmp 6) (.tmp 8), none⟩, ⟨some 11, .load 5 (.tmp 10), none⟩, ⟨some 5, .assign (.tmp 11), none⟩]
def K16_18 : Cd := .reg (some ([3, 5, 6, 7, 8])) R16_18
@[simp] theorem W16_18 {Q : Ex → St → Prop} {σ : St} : WPk Tryd.prog K16_18 Q σ = WPl Tryd.prog Q R16_18 (keepQ (some ([3, 5, 6, 7, 8])) Q) σ := rfl
@[simp] def R16_19 : List Op1 := [⟨some 12, .move (.tmp 3), none⟩, ⟨some 13, .move (.tmp 5), none⟩, ⟨some 14, .buildSlice 22 1 #[(0, .tmp 13)], none⟩, ⟨some 15, .call { callee := .builtin .append, args := #[.tmp 12, .tmp 14], argTypes := #[22, 22] }, none⟩, ⟨some 3, .assign (.tmp 15), none⟩]
def K16_19 : Cd := .reg (some ([3, 6, 7, 8])) R16_19
@[simp] theorem W16_19 {Q : Ex → St → Prop} {σ : St} : WPk Tryd.prog K16_19 Q σ = WPl Tryd.prog Q R16_19 (keepQ (some ([3, 6, 7, 8])) Q) σ := rfl
def K16_17 : Cd := .seq K16_18 K16_19
@[simp] theorem W16_17 {Q : Ex → St → Prop} {σ : St} : WPk Tryd.prog K16_17 Q σ = WPk Tryd.prog K16_18 (seqK (WPk Tryd.prog K16_19) Q) σ := WPk_seq
def K16_16 : Cd := .block 1 K16_17
@[simp] theorem W16_16 {Q : Ex → St → Prop} {σ : St} : WPk Tryd.prog K16_16 Q σ = WPk Tryd.prog K16_17 (blkQ 1 Q) σ := rfl
@[simp] def R16_20 : List Op1 := [⟨some 16, .binOp .add 3 (.tmp 8) (.const (.int .i64 1)) 3, none⟩, ⟨some 8, .move (.tmp 16), none⟩]
def K16_20 : Cd := .reg (some ([3, 6, 7, 8])) R16_20
@[simp] theorem W16_20 {Q : Ex → St → Prop} {σ : St} : WPk Tryd.prog K16_20 Q σ = WPl Tryd.prog Q R16_20 (keepQ (some ([3, 6, 7, 8])) Q) σ := rfl
def K16_15 : Cd := .seq K16_16 K16_20
@[simp] theorem W16_15 {Q : Ex → St → Prop} {σ : St} : WPk Tryd.prog K16_15 Q σ = WPk Tryd.prog K16_16 (seqK (WPk Tryd.prog K16_20) Q) σ := WPk_seq
def K16_11 : Cd := .seq K16_12 K16_15
@[simp] theorem W16_11 {Q : Ex → St → Prop} {σ : St} : WPk Tryd.prog K16_11 Q σ = WPk Tryd.prog K16_12 (seqK (WPk Tryd.prog K16_15) Q) σ := WPk_seq
def K16_9 : Cd := .seq K16_10 K16_11
@[simp] theorem W16_9 {Q : Ex → St → Prop} {σ : St} : WPk Tryd.prog K16_9 Q σ = WPk Tryd.prog K16_10 (seqK (WPk Tryd.prog K16_11) Q) σ := WPk_seq
def K16_8 : Cd := .loop K16_9
@[simp] theorem W16_8 {Q : Ex → St → Prop} {σ : St} : WPk Tryd.prog K16_8 Q σ = WPk Tryd.prog (.loop K16_9) Q σ := rfl
def K16_7 : Cd := .block 0 K16_8
@[simp] theorem W16_7 {Q : Ex → St → Prop} {σ : St} : WPk Tryd.prog K16_7 Q σ = WPk Tryd.prog K16_8 (blkQ 0 Q) σ := rfl
def K16_5 : Cd := .seq K16_6 K16_7
@[simp] theorem W16_5 {Q : Ex → St → Prop} {σ : St} : WPk Tryd.prog K16_5 Q σ = WPk Tryd.prog K16_6 (seqK (WPk Tryd.prog K16_7) Q) σ := WPk_seq
@[simp] def R16_22 : List Op1 := [⟨some 17, .move (.tmp 3), none⟩, ⟨some 2, .assign (.tmp 17), none⟩]
def K16_22 : Cd := .reg (some ([2])) R16_22
@[simp] theorem W16_22 {Q : Ex → St → Prop} {σ : St} : WPk Tryd.prog K16_22 Q σ = WPl Tryd.prog Q R16_22 (keepQ (some ([2])) Q) σ := rfl
def K16_23 : Cd := .ret
@[simp] theorem W16_23 {Q : Ex → St → Prop} {σ : St} : WPk Tryd.prog K16_23 Q σ = Q .ret σ := rfl
def K16_21 : Cd := .seq K16_22 K16_23
@[simp] theorem W16_21 {Q : Ex → St → Prop} {σ : St} : WPk Tryd.prog K16_21 Q σ = WPk Tryd.prog K16_22 (seqK (WPk Tryd.prog K16_23) Q) σ := WPk_seq
def K16_4 : Cd := .seq K16_5 K16_21
@[simp] theorem W16_4 {Q : Ex → St → Prop} {σ : St} : WPk Tryd.prog K16_4 Q σ = WPk Tryd.prog K16_5 (seqK (WPk Tryd.prog K16_21) Q) σ := WPk_seq
def K16_2 : Cd := .seq K16_3 K16_4
@[simp] theorem W16_2 {Q : Ex → St → Prop} {σ : St} : WPk Tryd.prog K16_2 Q σ = WPk Tryd.prog K16_3 (seqK (WPk Tryd.prog K16_4) Q) σ := WPk_seq
def K16_0 : Cd := .seq K16_1 K16_2
@[simp] theorem W16_0 {Q : Ex → St → Prop} {σ : St} : WPk Tryd.prog K16_0 Q σ = WPk Tryd.prog K16_1 (seqK (WPk Tryd.prog K16_2) Q) σ := WPk_seq
theorem k16 : FnK Tryd.prog 16 (18) ([.tmp 2]) K16_0 := ⟨_, _, _, ok16, by kernel_rfl, by kernel_rfl, by kernel_rfl⟩
-- ROOT 16 0 24
@[simp] def R17_1 : List Op1 := [⟨some 0, .assign (.const (.map none)), none⟩]
def K17_1 : Cd := .reg (some ([])) R17_1
@[simp] theorem W17_1 {Q : Ex → St → Prop} {σ : St} : WPk Tryd.prog K17_1 Q σ = WPl Tryd.prog Q R17_1 (keepQ (some ([])) Q) σ := rfl
@[simp] def R17_3 : List Op1 := [⟨some 5, .buildSlice 32 14 #[(0, .const (.string { data := #[116, 121, 112, 101] })), (1, .const (.string { data := #[115, 116, 114, 117, 99, 116] })), (2, .const (.string { data := #[102, 117, 110, 99] })), (3, .const (.string { data := #[118, 97, 114] })), (4, .const (.string { data := #[105, 102] })), (5, .const (.string { data := #[101, 108, 115, 101] })), (6, .const (.string { data := #[102, 111, 114] })), (7, .const (.string { data := #[114, 101, 116, 117, 114, 110] })), (8, .const (.string { data := #[112, 114, 105, 110, 116] })), (9, .const (.string { data := #[105, 110, 112, 117, 116] })), (10, .const (.string { data := #[105, 110, 116] })), (11, .const (.string { data := #[98, 111, 111, 108] })), (12, .const (.string { data := #[116, 114, 117, 101] })), (13, .const (.string { data := #[102, 97, 108, 115, 101] }))], none⟩, ⟨some 1, .assign (.tmp 5), none⟩]
def K17_3 : Cd := .reg (some ([1])) R17_3
@[simp] theorem W17_3 {Q : Ex → St → Prop} {σ : St} : WPk Tryd.prog K17_3 Q σ = WPl Tryd.prog Q R17_3 (keepQ (some ([1])) Q) σ := rfl
@[simp] def R17_5 : List Op1 := [⟨some 6, .move (.tmp 1), none⟩, ⟨some 7, .call { callee := .builtin .len, args := #[.tmp 6], argTypes := #[32] }, none⟩, ⟨some 8, .makeMap 39 (some (.tmp 7)), none⟩, ⟨some 2, .assign (.tmp 8), none⟩]
def K17_5 : Cd := .reg (some ([1, 2])) R17_5
@[simp] theorem W17_5 {Q : Ex → St → Prop} {σ : St} : WPk Tryd.prog K17_5 Q σ = WPl Tryd.prog Q R17_5 (keepQ (some ([1, 2])) Q) σ := rfl
@[simp] def R17_8 : List Op1 := [⟨some 9, .move (.tmp 1), none⟩, ⟨some 10, .call { callee := .builtin .len, args := #[.tmp 9], argTypes := #[32] }, none⟩, ⟨some 11, .move (.const (.int .i64 0)), none⟩]
def K17_8 : Cd := .reg (some ([2, 9, 10, 11])) R17_8
@[simp] theorem W17_8 {Q : Ex → St → Prop} {σ : St} : WPk Tryd.prog K17_8 Q σ = WPl Tryd.prog Q R17_8 (keepQ (some ([2, 9, 10, 11])) Q) σ := rfl
@[simp] def R17_12 : List Op1 := [⟨some 12, .binOp .lss 3 (.tmp 11) (.tmp 10) 3, none⟩]
def K17_12 : Cd := .reg (some ([2, 9, 10, 11, 12])) R17_12
@[simp] theorem W17_12 {Q : Ex → St → Prop} {σ : St} : WPk Tryd.prog K17_12 Q σ = WPl Tryd.prog Q R17_12 (keepQ (some ([2, 9, 10, 11, 12])) Q) σ := rfl
def K17_15 : Cd := .skip
@[simp] theorem W17_15 {Q : Ex → St → Prop} {σ : St} : WPk Tryd.prog K17_15 Q σ = Q .normal σ := rfl
def K17_16 : Cd := .exit 0
@[simp] theorem W17_16 {Q : Ex → St → Prop} {σ : St} : WPk Tryd.prog K17_16 Q σ = Q (.exit 0) σ := rfl
def K17_14 : Cd := .cond (.tmp 12) K17_15 K17_16
@[simp] theorem W17_14 {Q : Ex → St → Prop} {σ : St} : WPk Tryd.prog K17_14 Q σ = WPk Tryd.prog (.cond (.tmp 12) K17_15 K17_16) Q σ := rfl
@[simp] def R17_20 : List Op1 := [⟨some 13, .move (.tmp 11), none⟩, ⟨some 14, .indexAddr 32 (.tmp 9) (.tmp 11), none⟩, ⟨some 15, .load 9 (.tmp 14), none⟩, ⟨some 3, .assign (.tmp 13), none⟩, ⟨some 4, .assign (.tmp 15), none⟩]
def K17_20 : Cd := .reg (some ([2, 3, 4, 9, 10, 11])) R17_20
@[simp] theorem W17_20 {Q : Ex → St → Prop} {σ : St} : WPk Tryd.prog K17_20 Q σ = WPl Tryd.prog Q R17_20 (keepQ (some ([2, 3, 4, 9, 10, 11])) Q) σ := rfl
@[simp] def R17_21 : List Op1 := [⟨some 16, .move (.tmp 2), none⟩, ⟨some 17, .move (.tmp 4), none⟩, ⟨some 18, .move (.tmp 3), none⟩, ⟨none, .mapUpdate 39 (.tmp 16) (.tmp 17) (.tmp 18), none⟩]
def K17_21 : Cd := .reg (some ([2, 9, 10, 11])) R17_21
@[simp] theorem W17_21 {Q : Ex → St → Prop} {σ : St} : WPk Tryd.prog K17_21 Q σ = WPl Tryd.prog Q R17_21 (keepQ (some ([2, 9, 10, 11])) Q) σ := rfl
def K17_19 : Cd := .seq K17_20 K17_21
@[simp] theorem W17_19 {Q : Ex → St → Prop} {σ : St} : WPk Tryd.prog K17_19 Q σ = WPk Tryd.prog K17_20 (seqK (WPk Tryd.prog K17_21) Q) σ := WPk_seq
def K17_18 : Cd := .block 1 K17_19
@[simp] theorem W17_18 {Q : Ex → St → Prop} {σ : St} : WPk Tryd.prog K17_18 Q σ = WPk Tryd.prog K17_19 (blkQ 1 Q) σ := rfl
@[simp] def R17_22 : List Op1 := [⟨some 19, .binOp .add 3 (.tmp 11) (.const (.int .i64 1)) 3, none⟩, ⟨some 11, .move (.tmp 19), none⟩]
def K17_22 : Cd := .reg (some ([2, 9, 10, 11])) R17_22
@[simp] theorem W17_22 {Q : Ex → St → Prop} {σ : St} : WPk Tryd.prog K17_22 Q σ = WPl Tryd.prog Q R17_22 (keepQ (some ([2, 9, 10, 11])) Q) σ := rfl
def K17_17 : Cd := .seq K17_18 K17_22
@[simp] theorem W17_17 {Q : Ex → St → Prop} {σ : St} : WPk Tryd.prog K17_17 Q σ = WPk Tryd.prog K17_18 (seqK (WPk Tryd.prog K17_22) Q) σ := WPk_seq
def K17_13 : Cd := .seq K17_14 K17_17
@[simp] theorem W17_13 {Q : Ex → St → Prop} {σ : St} : WPk Tryd.prog K17_13 Q σ = WPk Tryd.prog K17_14 (seqK (WPk Tryd.prog K17_17) Q) σ := WPk_seq
def K17_11 : Cd := .seq K17_12 K17_13
@[simp] theorem W17_11 {Q : Ex → St → Prop} {σ : St} : WPk Tryd.prog K17_11 Q σ = WPk Tryd.prog K17_12 (seqK (WPk Tryd.prog K17_13) Q) σ := WPk_seq
def K17_10 : Cd := .loop K17_11
@[simp] theorem W17_10 {Q : Ex → St → Prop} {σ : St} : WPk Tryd.prog K17_10 Q σ = WPk Tryd.prog (.loop K17_11) Q σ := rfl
def K17_9 : Cd := .block 0 K17_10
@[simp] theorem W17_9 {Q : Ex → St → Prop} {σ : St} : WPk Tryd.prog K17_9 Q σ = WPk Tryd.prog K17_10 (blkQ 0 Q) σ := rfl
def K17_7 : Cd := .seq K17_8 K17_9
@[simp] theorem W17_7 {Q : Ex → St → Prop} {σ : St} : WPk Tryd.prog K17_7 Q σ = WPk Tryd.prog K17_8 (seqK (WPk Tryd.prog K17_9) Q) σ := WPk_seq
@[simp] def R17_24 : List Op1 := [⟨some 20, .move (.tmp 2), none⟩, ⟨some 0, .assign (.tmp 20), none⟩]
def K17_24 : Cd := .reg (some ([0])) R17_24
@[simp] theorem W17_24 {Q : Ex → St → Prop} {σ : St} : WPk Tryd.prog K17_24 Q σ = WPl Tryd.prog Q R17_24 (keepQ (some ([0])) Q) σ := rfl
def K17_25 : Cd := .ret
@[simp] theorem W17_25 {Q : Ex → St → Prop} {σ : St} : WPk Tryd.prog K17_25 Q σ = Q .ret σ := rfl
def K17_23 : Cd := .seq K17_24 K17_25
@[simp] theorem W17_23 {Q : Ex → St → Prop} {σ : St} : WPk Tryd.prog K17_23 Q σ = WPk Tryd.prog K17_24 (seqK (WPk Tryd.prog K17_25) Q) σ := WPk_seq
def K17_6 : Cd := .seq K17_7 K17_23
@[simp] theorem W17_6 {Q : Ex → St → Prop} {σ : St} : WPk Tryd.prog K17_6 Q σ = WPk Tryd.prog K17_7 (seqK (WPk Tryd.prog K17_23) Q) σ := WPk_seq
def K17_4 : Cd := .seq K17_5 K17_6
@[simp] theorem W17_4 {Q : Ex → St → Prop} {σ : St} : WPk Tryd.prog K17_4 Q σ = WPk Tryd.prog K17_5 (seqK (WPk Tryd.prog K17_6) Q) σ := WPk_seq
def K17_2 : Cd := .seq K17_3 K17_4
@[simp] theorem W17_2 {Q : Ex → St → Prop} {σ : St} : WPk Tryd.prog K17_2 Q σ = WPk Tryd.prog K17_3 (seqK (WPk Tryd.prog K17_4) Q) σ := WPk_seq
def K17_0 : Cd := .seq K17_1 K17_2
@[simp] theorem W17_0 {Q : Ex → St → Prop} {σ : St} : WPk Tryd.prog K17_0 Q σ = WPk Tryd.prog K17_1 (seqK (WPk Tryd.prog K17_2) Q) σ := WPk_seq
theorem k17 : FnK Tryd.prog 17 (21) ([.tmp 0]) K17_0 := ⟨_, _, _, ok17, by kernel_rfl, by kernel_rfl, by kernel_rfl⟩
-- ROOT 17 0 26
def K18_1 : Cd := .skip
@[simp] theorem W18_1 {Q : Ex → St → Prop} {σ : St} : WPk Tryd.prog K18_1 Q σ = Q .normal σ := rfl
@[simp] def R18_6 : List Op1 := [⟨some 3, .move (.tmp 0), none⟩, ⟨some 4, .nilCheck (.tmp 3), none⟩, ⟨some 5, .fieldAddr 42 (.tmp 4) 0, none⟩, ⟨some 6, .load 22 (.tmp 5), none⟩, ⟨some 7, .call { callee := .builtin .len, args := #[.tmp 6], argTypes := #[22] }, none⟩, ⟨some 8, .binOp .gtr 3 (.tmp 7) (.const (.int .i64 0)) 3, none⟩]
def K18_6 : Cd := .reg (some ([0, 8])) R18_6
@[simp] theorem W18_6 {Q : Ex → St → Prop} {σ : St} : WPk Tryd.prog K18_6 Q σ = WPl Tryd.prog Q R18_6 (keepQ (some ([0, 8])) Q) σ := rfl
def K18_8 : Cd := .skip
@[simp] theorem W18_8 {Q : Ex → St → Prop} {σ : St} : WPk Tryd.prog K18_8 Q σ = Q .normal σ := rfl
def K18_9 : Cd := .exit 0
@[simp] theorem W18_9 {Q : Ex → St → Prop} {σ : St} : WPk Tryd.prog K18_9 Q σ = Q (.exit 0) σ := rfl
def K18_7 : Cd := .cond (.tmp 8) K18_8 K18_9
@[simp] theorem W18_7 {Q : Ex → St → Prop} {σ : St} : WPk Tryd.prog K18_7 Q σ = WPk Tryd.prog (.cond (.tmp 8) K18_8 K18_9) Q σ := rfl
def K18_5 : Cd := .seq K18_6 K18_7
@[simp] theorem W18_5 {Q : Ex → St → Prop} {σ : St} : WPk Tryd.prog K18_5 Q σ = WPk Tryd.prog K18_6 (seqK (WPk Tryd.prog K18_7) Q) σ := WPk_seq
@[simp] def R18_13 : List Op1 := [⟨some 9, .move (.tmp 0), none⟩, ⟨some 10, .nilCheck (.tmp 9), none⟩, ⟨some 11, .fieldAddr 42 (.tmp 10) 0, none⟩, ⟨some 12, .load 22 (.tmp 11), none⟩, ⟨some 13, .indexAddr 22 (.tmp 12) (.const (.int .i64 0)), none⟩, ⟨some 14, .load 5 (.tmp 13), none⟩, ⟨some 2, .assign (.tmp 14), none⟩]
def K18_13 : Cd := .reg (some ([0, 2])) R18_13
@[simp] theorem W18_13 {Q : Ex → St → Prop} {σ : St} : WPk Tryd.prog K18_13 Q σ = WPl Tryd.prog Q R18_13 (keepQ (some ([0, 2])) Q) σ := rfl
@[simp] def R18_16 : List Op1 := [⟨some 16, .move (.tmp 2), none⟩, ⟨some 17, .binOp .eql 5 (.tmp 16) (.const (.int .u8 10)) 5, none⟩, ⟨some 15, .assign (.tmp 17), none⟩]
def K18_16 : Cd := .reg (some ([0, 2, 15])) R18_16
@[simp] theorem W18_16 {Q : Ex → St → Prop} {σ : St} : WPk Tryd.prog K18_16 Q σ = WPl Tryd.prog Q R18_16 (keepQ (some ([0, 2, 15])) Q) σ := rfl
@[simp] def R18_18 : List Op1 := [⟨some 18, .move (.tmp 0), none⟩, ⟨some 19, .nilCheck (.tmp 18), none⟩, ⟨some 20, .fieldAddr 42 (.tmp 19) 1, none⟩, ⟨some 21, .load 3 (.tmp 20), none⟩, ⟨some 22, .binOp .add 3 (.tmp 21) (.const (.int .i64 1)) 3, none⟩, ⟨some 23, .nilCheck (.tmp 18), none⟩, ⟨some 24, .fieldAddr 42 (.tmp 23) 1, none⟩, ⟨none, .store 3 (.tmp 24) (.tmp 22), none⟩]
def K18_18 : Cd := .reg (some ([0])) R18_18
@[simp] theorem W18_18 {Q : Ex → St → Prop} {σ : St} : WPk Tryd.prog K18_18 Q σ = WPl Tryd.prog Q R18_18 (keepQ (some ([0])) Q) σ := rfl
@[simp] def R18_21 : List Op1 := [⟨some 26, .move (.tmp 2), none⟩, ⟨some 27, .binOp .eql 5 (.tmp 26) (.const (.int .u8 32)) 5, none⟩, ⟨some 25, .assign (.tmp 27), none⟩]
def K18_21 : Cd := .reg (some ([0, 2, 25])) R18_21
@[simp] theorem W18_21 {Q : Ex → St → Prop} {σ : St} : WPk Tryd.prog K18_21 Q σ = WPl Tryd.prog Q R18_21 (keepQ (some ([0, 2, 25])) Q) σ := rfl
def K18_23 : Cd := .skip
@[simp] theorem W18_23 {Q : Ex → St → Prop} {σ : St} : WPk Tryd.prog K18_23 Q σ = Q .normal σ := rfl
@[simp] def R18_25 : List Op1 := [⟨some 28, .move (.tmp 2), none⟩, ⟨some 29, .binOp .eql 5 (.tmp 28) (.const (.int .u8 9)) 5, none⟩, ⟨some 25, .assign (.tmp 29), none⟩]
def K18_25 : Cd := .reg (some ([0, 2, 25])) R18_25
@[simp] theorem W18_25 {Q : Ex → St → Prop} {σ : St} : WPk Tryd.prog K18_25 Q σ = WPl Tryd.prog Q R18_25 (keepQ (some ([0, 2, 25])) Q) σ := rfl
def K18_27 : Cd := .skip
@[simp] theorem W18_27 {Q : Ex → St → Prop} {σ : St} : WPk Tryd.prog K18_27 Q σ = Q .normal σ := rfl
@[simp] def R18_28 : List Op1 := [⟨some 30, .move (.tmp 2), none⟩, ⟨some 31, .binOp .eql 5 (.tmp 30) (.const (.int .u8 13)) 5, none⟩, ⟨some 25, .assign (.tmp 31), none⟩]
def K18_28 : Cd := .reg (some ([0, 25])) R18_28
@[simp] theorem W18_28 {Q : Ex → St → Prop} {σ : St} : WPk Tryd.prog K18_28 Q σ = WPl Tryd.prog Q R18_28 (keepQ (some ([0, 25])) Q) σ := rfl
def K18_26 : Cd := .cond (.tmp 25) K18_27 K18_28
@[simp] theorem W18_26 {Q : Ex → St → Prop} {σ : St} : WPk Tryd.prog K18_26 Q σ = WPk Tryd.prog (.cond (.tmp 25) K18_27 K18_28) Q σ := rfl
def K18_24 : Cd := .seq K18_25 K18_26
@[simp] theorem W18_24 {Q : Ex → St → Prop} {σ : St} : WPk Tryd.prog K18_24 Q σ = WPk Tryd.prog K18_25 (seqK (WPk Tryd.prog K18_26) Q) σ := WPk_seq
def K18_22 : Cd := .cond (.tmp 25) K18_23 K18_24
@[simp] theorem W18_22 {Q : Ex → St → Prop} {σ : St} : WPk Tryd.prog K18_22 Q σ = WPk Tryd.prog (.cond (.tmp 25) K18_23 K18_24) Q σ := rfl
def K18_20 : Cd := .seq K18_21 K18_22
@[simp] theorem W18_20 {Q : Ex → St → Prop} {σ : St} : WPk Tryd.prog K18_20 Q σ = WPk Tryd.prog K18_21 (seqK (WPk Tryd.prog K18_22) Q) σ := WPk_seq
def K18_30 : Cd := .skip
@[simp] theorem W18_30 {Q : Ex → St → Prop} {σ : St} : WPk Tryd.prog K18_30 Q σ = Q .normal σ := rfl
@[simp] def R18_32 : List Op1 := [⟨some 33, .move (.tmp 0), none⟩, ⟨some 34, .nilCheck (.tmp 33), none⟩, ⟨some 35, .fieldAddr 42 (.tmp 34) 0, none⟩, ⟨some 36, .load 22 (.tmp 35), none⟩, ⟨some 37, .buildSlice 22 2 #[(0, .const (.int .u8 47)), (1, .const (.int .u8 47))], none⟩, ⟨some 38, .convert 22 22 (.tmp 37), none⟩, ⟨some 39, .call { callee := .value (.func 22), args := #[.tmp 36, .tmp 38], argTypes := #[22, 22] }, none⟩, ⟨some 32, .assign (.tmp 39), none⟩]
def K18_32 : Cd := .reg (some ([0, 32])) R18_32
@[simp] theorem W18_32 {Q : Ex → St → Prop} {σ : St} : WPk Tryd.prog K18_32 Q σ = WPl Tryd.prog Q R18_32 (keepQ (some ([0, 32])) Q) σ := rfl
@[simp] def R18_35 : List Op1 := [⟨some 40, .move (.tmp 0), none⟩, ⟨some 41, .move (.tmp 0), none⟩, ⟨some 42, .nilCheck (.tmp 41), none⟩, ⟨some 43, .fieldAddr 42 (.tmp 42) 0, none⟩, ⟨some 44, .load 22 (.tmp 43), none⟩, ⟨some 45, .move (.tmp 0), none⟩, ⟨some 46, .nilCheck (.tmp 45), none⟩, ⟨some 47, .fieldAddr 42 (.tmp 46) 0, none⟩, ⟨some 48, .load 22 (.tmp 47), none⟩, ⟨some 49, .call { callee := .value (.func 23), args := #[.tmp 48, .func 24], argTypes := #[22, 37] }, none⟩, ⟨some 50, .slice 22 (.tmp 44) (some (.tmp 49)) none none, none⟩, ⟨some 51, .nilCheck (.tmp 40), none⟩, ⟨some 52, .fieldAddr 42 (.tmp 51) 0, none⟩, ⟨none, .store 22 (.tmp 52) (.tmp 50), none⟩]
def K18_35 : Cd := .draw ({ live := [0], dms := [{ brw := true }, { brw := true }, { brw := true }, { brw := true }, { brw := true }, { brw := true }, { brw := true }, { brw := true }, { brw := true }, { brw := true }, { brw := true }, { brw := true }, { brw := true }, { brw := true }] }) R18_35
@[simp] theorem W18_35 {Q : Ex → St → Prop} {σ : St} : WPk Tryd.prog K18_35 Q σ = WPk Tryd.prog (.draw ({ live := [0], dms := [{ brw := true }, { brw := true }, { brw := true }, { brw := true }, { brw := true }, { brw := true }, { brw := true }, { brw := true }, { brw := true }, { brw := true }, { brw := true }, { brw := true }, { brw := true }, { brw := true }] }) R18_35) Q σ := rfl
def K18_36 : Cd := .exit 1
@[simp] theorem W18_36 {Q : Ex → St → Prop} {σ : St} : WPk Tryd.prog K18_36 Q σ = Q (.exit 1) σ := rfl
def K18_34 : Cd := .seq K18_35 K18_36
@[simp] theorem W18_34 {Q : Ex → St → Prop} {σ : St} : WPk Tryd.prog K18_34 Q σ = WPk Tryd.prog K18_35 (seqK (WPk Tryd.prog K18_36) Q) σ := WPk_seq
def K18_37 : Cd := .exit 0
@[simp] theorem W18_37 {Q : Ex → St → Prop} {σ : St} : WPk Tryd.prog K18_37 Q σ = Q (.exit 0) σ := rfl
def K18_33 : Cd := .cond (.tmp 32) K18_34 K18_37
@[simp] theorem W18_33 {Q : Ex → St → Prop} {σ : St} : WPk Tryd.prog K18_33 Q σ = WPk Tryd.prog (.cond (.tmp 32) K18_34 K18_37) Q σ := rfl
def K18_31 : Cd := .seq K18_32 K18_33
@[simp] theorem W18_31 {Q : Ex → St → Prop} {σ : St} : WPk Tryd.prog K18_31 Q σ = WPk Tryd.prog K18_32 (seqK (WPk Tryd.prog K18_33) Q) σ := WPk_seq
def K18_29 : Cd := .cond (.tmp 25) K18_30 K18_31
@[simp] theorem W18_29 {Q : Ex → St → Prop} {σ : St} : WPk Tryd.prog K18_29 Q σ = WPk Tryd.prog (.cond (.tmp 25) K18_30 K18_31) Q σ := rfl
def K18_19 : Cd := .seq K18_20 K18_29
@[simp] theorem W18_19 {Q : Ex → St → Prop} {σ : St} : WPk Tryd.prog K18_19 Q σ = WPk Tryd.prog K18_20 (seqK (WPk Tryd.prog K18_29) Q) σ := WPk_seq
def K18_17 : Cd := .cond (.tmp 15) K18_18 K18_19
@[simp] theorem W18_17 {Q : Ex → St → Prop} {σ : St} : WPk Tryd.prog K18_17 Q σ = WPk Tryd.prog (.cond (.tmp 15) K18_18 K18_19) Q σ := rfl
def K18_15 : Cd := .seq K18_16 K18_17
@[simp] theorem W18_15 {Q : Ex → St → Prop} {σ : St} : WPk Tryd.prog K18_15 Q σ = WPk Tryd.prog K18_16 (seqK (WPk Tryd.prog K18_17) Q) σ := WPk_seq
def K18_14 : Cd := .block 2 K18_15
@[simp] theorem W18_14 {Q : Ex → St → Prop} {σ : St} : WPk Tryd.prog K18_14 Q σ = WPk Tryd.prog K18_15 (blkQ 2 Q) σ := rfl
def K18_12 : Cd := .seq K18_13 K18_14
@[simp] theorem W18_12 {Q : Ex → St → Prop} {σ : St} : WPk Tryd.prog K18_12 Q σ = WPk Tryd.prog K18_13 (seqK (WPk Tryd.prog K18_14) Q) σ := WPk_seq
@[simp] def R18_38 : List Op1 := [⟨some 53, .move (.tmp 0), none⟩, ⟨some 54, .move (.tmp 0), none⟩, ⟨some 55, .nilCheck (.tmp 54), none⟩, ⟨some 56, .fieldAddr 42 (.tmp 55) 0, none⟩, ⟨some 57, .load 22 (.tmp 56), none⟩, ⟨some 58, .slice 22 (.tmp 57) (some (.const (.int .i64 1))) none none, none⟩, ⟨some 59, .nilCheck (.tmp 53), none⟩, ⟨some 60, .fieldAddr 42 (.tmp 59) 0, none⟩, ⟨none, .store 22 (.tmp 60) (.tmp 58), none⟩]
def K18_38 : Cd := .reg (some ([0])) R18_38
@[simp] theorem W18_38 {Q : Ex → St → Prop} {σ : St} : WPk Tryd.prog K18_38 Q σ = WPl Tryd.prog Q R18_38 (keepQ (some ([0])) Q) σ := rfl
def K18_11 : Cd := .seq K18_12 K18_38
@[simp] theorem W18_11 {Q : Ex → St → Prop} {σ : St} : WPk Tryd.prog K18_11 Q σ = WPk Tryd.prog K18_12 (seqK (WPk Tryd.prog K18_38) Q) σ := WPk_seq
def K18_10 : Cd := .block 1 K18_11
@[simp] theorem W18_10 {Q : Ex → St → Prop} {σ : St} : WPk Tryd.prog K18_10 Q σ = WPk Tryd.prog K18_11 (blkQ 1 Q) σ := rfl
def K18_4 : Cd := .seq K18_5 K18_10
@[simp] theorem W18_4 {Q : Ex → St → Prop} {σ : St} : WPk Tryd.prog K18_4 Q σ = WPk Tryd.prog K18_5 (seqK (WPk Tryd.prog K18_10) Q) σ := WPk_seq
def K18_3 : Cd := .loop K18_4
@[simp] theorem W18_3 {Q : Ex → St → Prop} {σ : St} : WPk Tryd.prog K18_3 Q σ = WPk Tryd.prog (.loop K18_4) Q σ := rfl
def K18_2 : Cd := .block 0 K18_3
@[simp] theorem W18_2 {Q : Ex → St → Prop} {σ : St} : WPk Tryd.prog K18_2 Q σ = WPk Tryd.prog K18_3 (blkQ 0 Q) σ := rfl
def K18_0 : Cd := .seq K18_1 K18_2
@[simp] theorem W18_0 {Q : Ex → St → Prop} {σ : St} : WPk Tryd.prog K18_0 Q σ = WPk Tryd.prog K18_1 (seqK (WPk Tryd.prog K18_2) Q) σ := WPk_seq
theorem k18 : FnK Tryd.prog 18 (61) ([]) K18_0 := ⟨_, _, _, ok18, by kernel_rfl, by kernel_rfl, by kernel_rfl⟩
-- ROOT 18 0 39
@[simp] def R19_1 : List Op1 := [⟨some 2, .alloc 35, none⟩, ⟨some 3, .assign (.const (.bool false)), none⟩]
def K19_1 : Cd := .reg (some ([0, 2])) R19_1
@[simp] theorem W19_1 {Q : Ex → St → Prop} {σ : St} : WPk Tryd.prog K19_1 Q σ = WPl Tryd.prog Q R19_1 (keepQ (some ([0, 2])) Q) σ := rfl
@[simp] def R19_4 : List Op1 := [⟨some 5, .move (.tmp 0), none⟩, ⟨some 6, .nilCheck (.tmp 5), none⟩, ⟨some 7, .fieldAddr 42 (.tmp 6) 0, none⟩, ⟨some 8, .load 22 (.tmp 7), none⟩, ⟨some 9, .indexAddr 22 (.tmp 8) (.const (.int .i64 0)), none⟩, ⟨some 10, .load 5 (.tmp 9), none⟩, ⟨some 4, .assign (.tmp 10), none⟩]
def K19_4 : Cd := .reg (some ([0, 2, 4])) R19_4
@[simp] theorem W19_4 {Q : Ex → St → Prop} {σ : St} : WPk Tryd.prog K19_4 Q σ = WPl Tryd.prog Q R19_4 (keepQ (some ([0, 2, 4])) Q) σ := rfl
@[simp] def R19_7 : List Op1 := [⟨some 17, .move (.tmp 4), none⟩, ⟨some 18, .call { callee := .value (.func 25), args := #[.tmp 17], argTypes := #[5] }, none⟩, ⟨some 16, .assign (.tmp 18), none⟩]
def K19_7 : Cd := .reg (some ([0, 2, 4, 16])) R19_7
@[simp] theorem W19_7 {Q : Ex → St → Prop} {σ : St} : WPk Tryd.prog K19_7 Q σ = WPl Tryd.prog Q R19_7 (keepQ (some ([0, 2, 4, 16])) Q) σ := rfl
@[simp] def R19_9 : List Op1 := [⟨some 20, .move (.tmp 0), none⟩, ⟨some 21, .call { callee := .value (.func 26), args := #[.tmp 20], argTypes := #[38] }, none⟩, ⟨some 19, .move (.tmp 21), none⟩, ⟨some 22, .extract (.tmp 19) 0, none⟩, ⟨some 23, .extract (.tmp 19) 1, none⟩, ⟨none, .store 35 (.tmp 2) (.tmp 22), none⟩, ⟨some 3, .assign (.tmp 23), none⟩]
def K19_9 : Cd := .reg (some ([0, 2, 3])) R19_9
@[simp] theorem W19_9 {Q : Ex → St → Prop} {σ : St} : WPk Tryd.prog K19_9 Q σ = WPl Tryd.prog Q R19_9 (keepQ (some ([0, 2, 3])) Q) σ := rfl
@[simp] def R19_11 : List Op1 := [⟨some 25, .move (.tmp 4), none⟩, ⟨some 26, .call { callee := .value (.func 27), args := #[.tmp 25], argTypes := #[5] }, none⟩, ⟨some 24, .assign (.tmp 26), none⟩]
def K19_11 : Cd := .reg (some ([0, 2, 24])) R19_11
@[simp] theorem W19_11 {Q : Ex → St → Prop} {σ : St} : WPk Tryd.prog K19_11 Q σ = WPl Tryd.prog Q R19_11 (keepQ (some ([0, 2, 24])) Q) σ := rfl
@[simp] def R19_13 : List Op1 := [⟨some 28, .move (.tmp 0), none⟩, ⟨some 29, .call { callee := .value (.func 28), args := #[.tmp 28], argTypes := #[38] }, none⟩, ⟨some 27, .move (.tmp 29), none⟩, ⟨some 30, .extract (.tmp 27) 0, none⟩, ⟨some 31, .extract (.tmp 27) 1, none⟩, ⟨none, .store 35 (.tmp 2) (.tmp 30), none⟩, ⟨some 3, .assign (.tmp 31), none⟩]
def K19_13 : Cd := .reg (some ([0, 2, 3])) R19_13
@[simp] theorem W19_13 {Q : Ex → St → Prop} {σ : St} : WPk Tryd.prog K19_13 Q σ = WPl Tryd.prog Q R19_13 (keepQ (some ([0, 2, 3])) Q) σ := rfl
@[simp] def R19_14 : List Op1 := [⟨some 12, .move (.tmp 0), none⟩, ⟨some 13, .call { callee := .value (.func 29), args := #[.tmp 12], argTypes := #[38] }, none⟩, ⟨some 11, .move (.tmp 13), none⟩, ⟨some 14, .extract (.tmp 11) 0, none⟩, ⟨some 15, .extract (.tmp 11) 1, none⟩, ⟨none, .store 35 (.tmp 2) (.tmp 14), none⟩, ⟨some 3, .assign (.tmp 15), none⟩]
def K19_14 : Cd := .reg (some ([0, 2, 3])) R19_14
@[simp] theorem W19_14 {Q : Ex → St → Prop} {σ : St} : WPk Tryd.prog K19_14 Q σ = WPl Tryd.prog Q R19_14 (keepQ (some ([0, 2, 3])) Q) σ := rfl
def K19_12 : Cd := .cond (.tmp 24) K19_13 K19_14
@[simp] theorem W19_12 {Q : Ex → St → Prop} {σ : St} : WPk Tryd.prog K19_12 Q σ = WPk Tryd.prog (.cond (.tmp 24) K19_13 K19_14) Q σ := rfl
def K19_10 : Cd := .seq K19_11 K19_12
@[simp] theorem W19_10 {Q : Ex → St → Prop} {σ : St} : WPk Tryd.prog K19_10 Q σ = WPk Tryd.prog K19_11 (seqK (WPk Tryd.prog K19_12) Q) σ := WPk_seq
def K19_8 : Cd := .cond (.tmp 16) K19_9 K19_10
@[simp] theorem W19_8 {Q : Ex → St → Prop} {σ : St} : WPk Tryd.prog K19_8 Q σ = WPk Tryd.prog (.cond (.tmp 16) K19_9 K19_10) Q σ := rfl
def K19_6 : Cd := .seq K19_7 K19_8
@[simp] theorem W19_6 {Q : Ex → St → Prop} {σ : St} : WPk Tryd.prog K19_6 Q σ = WPk Tryd.prog K19_7 (seqK (WPk Tryd.prog K19_8) Q) σ := WPk_seq
def K19_5 : Cd := .block 0 K19_6
@[simp] theorem W19_5 {Q : Ex → St → Prop} {σ : St} : WPk Tryd.prog K19_5 Q σ = WPk Tryd.prog K19_6 (blkQ 0 Q) σ := rfl
def K19_3 : Cd := .seq K19_4 K19_5
@[simp] theorem W19_3 {Q : Ex → St → Prop} {σ : St} : WPk Tryd.prog K19_3 Q σ = WPk Tryd.prog K19_4 (seqK (WPk Tryd.prog K19_5) Q) σ := WPk_seq
@[simp] def R19_16 : List Op1 := [⟨some 32, .move (.tmp 0), none⟩, ⟨some 33, .nilCheck (.tmp 32), none⟩, ⟨some 34, .fieldAddr 42 (.tmp 33) 1, none⟩, ⟨some 35, .load 3 (.tmp 34), none⟩, ⟨some 36, .fieldAddr 35 (.tmp 2) 3, none⟩, ⟨none, .store 3 (.tmp 36) (.tmp 35), none⟩]
def K19_16 : Cd := .reg (some ([2, 3])) R19_16
@[simp] theorem W19_16 {Q : Ex → St → Prop} {σ : St} : WPk Tryd.prog K19_16 Q σ = WPl Tryd.prog Q R19_16 (keepQ (some ([2, 3])) Q) σ := rfl
@[simp] def R19_18 : List Op1 := [⟨some 37, .load 35 (.tmp 2), none⟩, ⟨some 38, .move (.tmp 3), none⟩, ⟨none, .store 35 (.tmp 2) (.tmp 37), none⟩, ⟨some 3, .assign (.tmp 38), none⟩]
def K19_18 : Cd := .reg (some ([2, 3])) R19_18
@[simp] theorem W19_18 {Q : Ex → St → Prop} {σ : St} : WPk Tryd.prog K19_18 Q σ = WPl Tryd.prog Q R19_18 (keepQ (some ([2, 3])) Q) σ := rfl
def K19_19 : Cd := .ret
@[simp] theorem W19_19 {Q : Ex → St → Prop} {σ : St} : WPk Tryd.prog K19_19 Q σ = Q .ret σ := rfl
def K19_17 : Cd := .seq K19_18 K19_19
@[simp] theorem W19_17 {Q : Ex → St → Prop} {σ : St} : WPk Tryd.prog K19_17 Q σ = WPk Tryd.prog K19_18 (seqK (WPk Tryd.prog K19_19) Q) σ := WPk_seq
def K19_15 : Cd := .seq K19_16 K19_17
@[simp] theorem W19_15 {Q : Ex → St → Prop} {σ : St} : WPk Tryd.prog K19_15 Q σ = WPk Tryd.prog K19_16 (seqK (WPk Tryd.prog K19_17) Q) σ := WPk_seq
def K19_2 : Cd := .seq K19_3 K19_15
@[simp] theorem W19_2 {Q : Ex → St → Prop} {σ : St} : WPk Tryd.prog K19_2 Q σ = WPk Tryd.prog K19_3 (seqK (WPk Tryd.prog K19_15) Q) σ := WPk_seq
def K19_0 : Cd := .seq K19_1 K19_2
@[simp] theorem W19_0 {Q : Ex → St → Prop} {σ : St} : WPk Tryd.prog K19_0 Q σ = WPk Tryd.prog K19_1 (seqK (WPk Tryd.prog K19_2) Q) σ := WPk_seq
theorem k19 : FnK Tryd.prog 19 (39) ([.cell 2 35, .tmp 3]) K19_0 := ⟨_, _, _, ok19, by kernel_rfl, by kernel_rfl, by kernel_rfl⟩
-- ROOT 19 0 20
@[simp] def R20_1 : List Op1 := [⟨some 4, .assign (.const (.int .i64 0)), none⟩]
def K20_1 : Cd := .reg (some ([0, 1])) R20_1
@[simp] theorem W20_1 {Q : Ex → St → Prop} {σ : St} : WPk Tryd.prog K20_1 Q σ = WPl Tryd.prog Q R20_1 (keepQ (some ([0, 1])) Q) σ := rfl
@[simp] def R20_7 : List Op1 := [⟨some 6, .move (.tmp 1), none⟩, ⟨some 7, .move (.tmp 0), none⟩, ⟨some 8, .call { callee := .builtin .len, args := #[.tmp 7], argTypes := #[22] }, none⟩, ⟨some 9, .binOp .lss 3 (.tmp 6) (.tmp 8) 3, none⟩]
def K20_7 : Cd := .reg (some ([0, 1, 9])) R20_7
@[simp] theorem W20_7 {Q : Ex → St → Prop} {σ : St} : WPk Tryd.prog K20_7 Q σ = WPl Tryd.prog Q R20_7 (keepQ (some ([0, 1, 9])) Q) σ := rfl
def K20_9 : Cd := .skip
@[simp] theorem W20_9 {Q : Ex → St → Prop} {σ : St} : WPk Tryd.prog K20_9 Q σ = Q .normal σ := rfl
def K20_10 : Cd := .exit 0
@[simp] theorem W20_10 {Q : Ex → St → Prop} {σ : St} : WPk Tryd.prog K20_10 Q σ = Q (.exit 0) σ := rfl
def K20_8 : Cd := .cond (.tmp 9) K20_9 K20_10
@[simp] theorem W20_8 {Q : Ex → St → Prop} {σ : St} : WPk Tryd.prog K20_8 Q σ = WPk Tryd.prog (.cond (.tmp 9) K20_9 K20_10) Q σ := rfl
def K20_6 : Cd := .seq K20_7 K20_8
@[simp] theorem W20_6 {Q : Ex → St → Prop} {σ : St} : WPk Tryd.prog K20_6 Q σ = WPk Tryd.prog K20_7 (seqK (WPk Tryd.prog K20_8) Q) σ := WPk_seq
@[simp] def R20_13 : List Op1 := [⟨some 10, .move (.tmp 0), none⟩, ⟨some 11, .move (.tmp 1), none⟩, ⟨some 12, .indexAddr 22 (.tmp 10) (.tmp 11), none⟩, ⟨some 13, .load 5 (.tmp 12), none⟩, ⟨some 5, .assign (.tmp 13), none⟩]
def K20_13 : Cd := .reg (some ([0, 1, 5])) R20_13
@[simp] theorem W20_13 {Q : Ex → St → Prop} {σ : St} : WPk Tryd.prog K20_13 Q σ = WPl Tryd.prog Q R20_13 (keepQ (some ([0, 1, 5])) Q) σ := rfl
@[simp] def R20_16 : List Op1 := [⟨some 16, .move (.tmp 5), none⟩, ⟨some 17, .binOp .eql 5 (.tmp 16) (.const (.int .u8 32)) 5, none⟩, ⟨some 18, .move (.tmp 17), none⟩, ⟨some 19, .move (.tmp 5), some (18, false)⟩, ⟨some 20, .binOp .eql 5 (.tmp 19) (.const (.int .u8 9)) 5, some (18, false)⟩, ⟨some 21, .pick (.tmp 18) (.const (.bool true)) (.tmp 20), none⟩, ⟨some 22, .move (.tmp 21), none⟩, ⟨some 23, .move (.tmp 5), some (22, false)⟩, ⟨some 24, .binOp .eql 5 (.tmp 23) (.const (.int .u8 13)) 5, some (22, false)⟩, ⟨some 25, .pick (.tmp 22) (.const (.bool true)) (.tmp 24), none⟩, ⟨some 26, .move (.tmp 25), none⟩, ⟨some 27, .move (.tmp 5), some (26, false)⟩, ⟨some 28, .binOp .eql 5 (.tmp 27) (.const (.int .u8 10)) 5, some (26, false)⟩, ⟨some 29, .pick (.tmp 26) (.const (.bool true)) (.tmp 28), none⟩, ⟨some 15, .assign (.tmp 29), none⟩]
def K20_16 : Cd := .reg (some ([0, 1, 5, 15])) R20_16
@[simp] theorem W20_16 {Q : Ex → St → Prop} {σ : St} : WPk Tryd.prog K20_16 Q σ = WPl Tryd.prog Q R20_16 (keepQ (some ([0, 1, 5, 15])) Q) σ := rfl
@[simp] def R20_18 : List Op1 := [⟨some 30, .move (.tmp 1), none⟩, ⟨some 31, .binOp .add 3 (.tmp 30) (.const (.int .i64 1)) 3, none⟩, ⟨some 1, .assign (.tmp 31), none⟩]
def K20_18 : Cd := .reg (some ([0, 1])) R20_18
@[simp] theorem W20_18 {Q : Ex → St → Prop} {σ : St} : WPk Tryd.prog K20_18 Q σ = WPl Tryd.prog Q R20_18 (keepQ (some ([0, 1])) Q) σ := rfl
@[simp] def R20_20 : List Op1 := [⟨some 33, .move (.tmp 5), none⟩, ⟨some 34, .binOp .eql 5 (.tmp 33) (.const (.int .u8 47)) 5, none⟩, ⟨some 35, .move (.tmp 34), none⟩, ⟨some 36, .move (.tmp 1), some (35, true)⟩, ⟨some 37, .binOp .add 3 (.tmp 36) (.const (.int .i64 1)) 3, some (35, true)⟩, ⟨some 38, .move (.tmp 0), some (35, true)⟩, ⟨some 39, .call { callee := .builtin .len, args := #[.tmp 38], argTypes := #[22] }, some (35, true)⟩, ⟨some 40, .binOp .lss 3 (.tmp 37) (.tmp 39) 3, some (35, true)⟩, ⟨some 41, .pick (.tmp 35) (.tmp 40) (.const (.bool false)), none⟩, ⟨some 42, .move (.tmp 41), none⟩, ⟨some 43, .move (.tmp 0), some (42, true)⟩, ⟨some 44, .move (.tmp 1), some (42, true)⟩, ⟨some 45, .binOp .add 3 (.tmp 44) (.const (.int .i64 1)) 3, some (42, true)⟩, ⟨some 46, .indexAddr 22 (.tmp 43) (.tmp 45), some (42, true)⟩, ⟨some 47, .load 5 (.tmp 46), some (42, true)⟩, ⟨some 48, .binOp .eql 5 (.tmp 47) (.const (.int .u8 47)) 5, some (42, true)⟩, ⟨some 49, .pick (.tmp 42) (.tmp 48) (.const (.bool false)), none⟩, ⟨some 32, .assign (.tmp 49), none⟩]
def K20_20 : Cd := .reg (some ([0, 1, 32])) R20_20
@[simp] theorem W20_20 {Q : Ex → St → Prop} {σ : St} : WPk Tryd.prog K20_20 Q σ = WPl Tryd.prog Q R20_20 (keepQ (some ([0, 1, 32])) Q) σ := rfl
@[simp] def R20_26 : List Op1 := [⟨some 50, .move (.tmp 1), none⟩, ⟨some 51, .move (.tmp 0), none⟩, ⟨some 52, .call { callee := .builtin .len, args := #[.tmp 51], argTypes := #[22] }, none⟩, ⟨some 53, .binOp .lss 3 (.tmp 50) (.tmp 52) 3, none⟩, ⟨some 54, .move (.tmp 53), none⟩, ⟨some 55, .move (.tmp 0), some (54, true)⟩, ⟨some 56, .move (.tmp 1), some (54, true)⟩, ⟨some 57, .indexAddr 22 (.tmp 55) (.tmp 56), some (54, true)⟩, ⟨some 58, .load 5 (.tmp 57), some (54, true)⟩, ⟨some 59, .binOp .neq 5 (.tmp 58) (.const (.int .u8 10)) 5, some (54, true)⟩, ⟨some 60, .pick (.tmp 54) (.tmp 59) (.const (.bool false)), none⟩]
def K20_26 : Cd := .reg (some ([0, 1, 60])) R20_26
@[simp] theorem W20_26 {Q : Ex → St → Prop} {σ : St} : WPk Tryd.prog K20_26 Q σ = WPl Tryd.prog Q R20_26 (keepQ (some ([0, 1, 60])) Q) σ := rfl
def K20_28 : Cd := .skip
@[simp] theorem W20_28 {Q : Ex → St → Prop} {σ : St} : WPk Tryd.prog K20_28 Q σ = Q .normal σ := rfl
def K20_29 : Cd := .exit 3
@[simp] theorem W20_29 {Q : Ex → St → Prop} {σ : St} : WPk Tryd.prog K20_29 Q σ = Q (.exit 3) σ := rfl
def K20_27 : Cd := .cond (.tmp 60) K20_28 K20_29
@[simp] theorem W20_27 {Q : Ex → St → Prop} {σ : St} : WPk Tryd.prog K20_27 Q σ = WPk Tryd.prog (.cond (.tmp 60) K20_28 K20_29) Q σ := rfl
def K20_25 : Cd := .seq K20_26 K20_27
@[simp] theorem W20_25 {Q : Ex → St → Prop} {σ : St} : WPk Tryd.prog K20_25 Q σ = WPk Tryd.prog K20_26 (seqK (WPk Tryd.prog K20_27) Q) σ := WPk_seq
@[simp] def R20_31 : List Op1 := [⟨some 61, .move (.tmp 1), none⟩, ⟨some 62, .binOp .add 3 (.tmp 61) (.const (.int .i64 1)) 3, none⟩, ⟨some 1, .assign (.tmp 62), none⟩]
def K20_31 : Cd := .reg (some ([0, 1])) R20_31
@[simp] theorem W20_31 {Q : Ex → St → Prop} {σ : St} : WPk Tryd.prog K20_31 Q σ = WPl Tryd.prog Q R20_31 (keepQ (some ([0, 1])) Q) σ := rfl
def K20_30 : Cd := .block 4 K20_31
@[simp] theorem W20_30 {Q : Ex → St → Prop} {σ : St} : WPk Tryd.prog K20_30 Q σ = WPk Tryd.prog K20_31 (blkQ 4 Q) σ := rfl
def K20_24 : Cd := .seq K20_25 K20_30
@[simp] theorem W20_24 {Q : Ex → St → Prop} {σ : St} : WPk Tryd.prog K20_24 Q σ = WPk Tryd.prog K20_25 (seqK (WPk Tryd.prog K20_30) Q) σ := WPk_seq
def K20_23 : Cd := .loop K20_24
@[simp] theorem W20_23 {Q : Ex → St → Prop} {σ : St} : WPk Tryd.prog K20_23 Q σ = WPk Tryd.prog (.loop K20_24) Q σ := rfl
def K20_22 : Cd := .block 3 K20_23
@[simp] theorem W20_22 {Q : Ex → St → Prop} {σ : St} : WPk Tryd.prog K20_22 Q σ = WPk Tryd.prog K20_23 (blkQ 3 Q) σ := rfl
@[simp] def R20_33 : List Op1 := [⟨some 14, .move (.tmp 1), none⟩, ⟨some 4, .assign (.tmp 14), none⟩]
def K20_33 : Cd := .reg (some ([4])) R20_33
@[simp] theorem W20_33 {Q : Ex → St → Prop} {σ : St} : WPk Tryd.prog K20_33 Q σ = WPl Tryd.prog Q R20_33 (keepQ (some ([4])) Q) σ := rfl
def K20_34 : Cd := .ret
@[simp] theorem W20_34 {Q : Ex → St → Prop} {σ : St} : WPk Tryd.prog K20_34 Q σ = Q .ret σ := rfl
def K20_32 : Cd := .seq K20_33 K20_34
@[simp] theorem W20_32 {Q : Ex → St → Prop} {σ : St} : WPk Tryd.prog K20_32 Q σ = WPk Tryd.prog K20_33 (seqK (WPk Tryd.prog K20_34) Q) σ := WPk_seq
def K20_21 : Cd := .cond (.tmp 32) K20_22 K20_32
@[simp] theorem W20_21 {Q : Ex → St → Prop} {σ : St} : WPk Tryd.prog K20_21 Q σ = WPk Tryd.prog (.cond (.tmp 32) K20_22 K20_32) Q σ := rfl
def K20_19 : Cd := .seq K20_20 K20_21
@[simp] theorem W20_19 {Q : Ex → St → Prop} {σ : St} : WPk Tryd.prog K20_19 Q σ = WPk Tryd.prog K20_20 (seqK (WPk Tryd.prog K20_21) Q) σ := WPk_seq
def K20_17 : Cd := .cond (.tmp 15) K20_18 K20_19
@[simp] theorem W20_17 {Q : Ex → St → Prop} {σ : St} : WPk Tryd.prog K20_17 Q σ = WPk Tryd.prog (.cond (.tmp 15) K20_18 K20_19) Q σ := rfl
def K20_15 : Cd := .seq K20_16 K20_17
@[simp] theorem W20_15 {Q : Ex → St → Prop} {σ : St} : WPk Tryd.prog K20_15 Q σ = WPk Tryd.prog K20_16 (seqK (WPk Tryd.prog K20_17) Q) σ := WPk_seq
def K20_14 : Cd := .block 2 K20_15
@[simp] theorem W20_14 {Q : Ex → St → Prop} {σ : St} : WPk Tryd.prog K20_14 Q σ = WPk Tryd.prog K20_15 (blkQ 2 Q) σ := rfl
def K20_12 : Cd := .seq K20_13 K20_14
@[simp] theorem W20_12 {Q : Ex → St → Prop} {σ : St} : WPk Tryd.prog K20_12 Q σ = WPk Tryd.prog K20_13 (seqK (WPk Tryd.prog K20_14) Q) σ := WPk_seq
def K20_11 : Cd := .block 1 K20_12
@[simp] theorem W20_11 {Q : Ex → St → Prop} {σ : St} : WPk Tryd.prog K20_11 Q σ = WPk Tryd.prog K20_12 (blkQ 1 Q) σ := rfl
def K20_5 : Cd := .seq K20_6 K20_11
@[simp] theorem W20_5 {Q : Ex → St → Prop} {σ : St} : WPk Tryd.prog K20_5 Q σ = WPk Tryd.prog K20_6 (seqK (WPk Tryd.prog K20_11) Q) σ := WPk_seq
def K20_4 : Cd := .loop K20_5
@[simp] theorem W20_4 {Q : Ex → St → Prop} {σ : St} : WPk Tryd.prog K20_4 Q σ = WPk Tryd.prog (.loop K20_5) Q σ := rfl
def K20_3 : Cd := .block 0 K20_4
@[simp] theorem W20_3 {Q : Ex → St → Prop} {σ : St} : WPk Tryd.prog K20_3 Q σ = WPk Tryd.prog K20_4 (blkQ 0 Q) σ := rfl
@[simp] def R20_36 : List Op1 := [⟨some 63, .move (.tmp 1), none⟩, ⟨some 4, .assign (.tmp 63), none⟩]
def K20_36 : Cd := .reg (some ([4])) R20_36
@[simp] theorem W20_36 {Q : Ex → St → Prop} {σ : St} : WPk Tryd.prog K20_36 Q σ = WPl Tryd.prog Q R20_36 (keepQ (some ([4])) Q) σ := rfl
def K20_37 : Cd := .ret
@[simp] theorem W20_37 {Q : Ex → St → Prop} {σ : St} : WPk Tryd.prog K20_37 Q σ = Q .ret σ := rfl
def K20_35 : Cd := .seq K20_36 K20_37
@[simp] theorem W20_35 {Q : Ex → St → Prop} {σ : St} : WPk Tryd.prog K20_35 Q σ = WPk Tryd.prog K20_36 (seqK (WPk Tryd.prog K20_37) Q) σ := WPk_seq
def K20_2 : Cd := .seq K20_3 K20_35
@[simp] theorem W20_2 {Q : Ex → St → Prop} {σ : St} : WPk Tryd.prog K20_2 Q σ = WPk Tryd.prog K20_3 (seqK (WPk Tryd.prog K20_35) Q) σ := WPk_seq
def K20_0 : Cd := .seq K20_1 K20_2
@[simp] theorem W20_0 {Q : Ex → St → Prop} {σ : St} : WPk Tryd.prog K20_0 Q σ = WPk Tryd.prog K20_1 (seqK (WPk Tryd.prog K20_2) Q) σ := WPk_seq
theorem k20 : FnK Tryd.prog 20 (64) ([.tmp 4]) K20_0 := ⟨_, _, _, ok20, by kernel_rfl, by kernel_rfl, by kernel_rfl⟩
-- ROOT 20 0 38
@[simp] def R21_1 : List Op1 := [⟨some 4, .alloc 35, none⟩, ⟨some 5, .assign (.const (.bool false)), none⟩]
def K21_1 : Cd := .reg (some ([0, 1, 4])) R21_1
@[simp] theorem W21_1 {Q : Ex → St → Prop} {σ : St} : WPk Tryd.prog K21_1 Q σ = WPl Tryd.prog Q R21_1 (keepQ (some ([0, 1, 4])) Q) σ := rfl
@[simp] def R21_3 : List Op1 := [⟨some 14, .move (.tmp 1), none⟩, ⟨some 6, .assign (.tmp 14), none⟩]
def K21_3 : Cd := .reg (some ([0, 1, 4, 6])) R21_3
@[simp] theorem W21_3 {Q : Ex → St → Prop} {σ : St} : WPk Tryd.prog K21_3 Q σ = WPl Tryd.prog Q R21_3 (keepQ (some ([0, 1, 4, 6])) Q) σ := rfl
@[simp] def R21_5 : List Op1 := [⟨some 15, .move (.tmp 0), none⟩, ⟨some 16, .move (.tmp 1), none⟩, ⟨some 17, .indexAddr 22 (.tmp 15) (.tmp 16), none⟩, ⟨some 18, .load 5 (.tmp 17), none⟩, ⟨some 7, .assign (.tmp 18), none⟩]
def K21_5 : Cd := .reg (some ([0, 1, 4, 6, 7])) R21_5
@[simp] theorem W21_5 {Q : Ex → St → Prop} {σ : St} : WPk Tryd.prog K21_5 Q σ = WPl Tryd.prog Q R21_5 (keepQ (some ([0, 1, 4, 6, 7])) Q) σ := rfl
@[simp] def R21_9 : List Op1 := [⟨some 20, .move (.tmp 7), none⟩, ⟨some 21, .call { callee := .value (.func 14), args := #[.tmp 20], argTypes := #[5] }, none⟩, ⟨some 19, .assign (.tmp 21), none⟩]
def K21_9 : Cd := .reg (some ([0, 1, 4, 6, 7, 19])) R21_9
@[simp] theorem W21_9 {Q : Ex → St → Prop} {σ : St} : WPk Tryd.prog K21_9 Q σ = WPl Tryd.prog Q R21_9 (keepQ (some ([0, 1, 4, 6, 7, 19])) Q) σ := rfl
@[simp] def R21_16 : List Op1 := [⟨some 22, .move (.tmp 6), none⟩, ⟨some 23, .move (.tmp 0), none⟩, ⟨some 24, .call { callee := .builtin .len, args := #[.tmp 23], argTypes := #[22] }, none⟩, ⟨some 25, .binOp .lss 3 (.tmp 22) (.tmp 24) 3, none⟩, ⟨some 26, .move (.tmp 25), none⟩, ⟨some 27, .move (.tmp 0), some (26, true)⟩, ⟨some 28, .move (.tmp 6), some (26, true)⟩, ⟨some 29, .indexAddr 22 (.tmp 27) (.tmp 28), some (26, true)⟩, ⟨some 30, .load 5 (.tmp 29), some (26, true)⟩, ⟨some 31, .call { callee := .value (.func 14), args := #[.tmp 30], argTypes := #[5] }, some (26, true)⟩, ⟨some 32, .move (.tmp 31), some (26, true)⟩, ⟨some 33, .move (.tmp 0), some (32, false)⟩, ⟨some 34, .move (.tmp 6), some (32, false)⟩, ⟨some 35, .indexAddr 22 (.tmp 33) (.tmp 34), some (32, false)⟩, ⟨some 36, .load 5 (.tmp 35), some (32, false)⟩, ⟨some 37, .call { callee := .value (.func 15), args := #[.tmp 36], argTypes := #[5] }, some (32, false)⟩, ⟨some 38, .pick (.tmp 32) (.const (.bool true)) (.tmp 37), some (26, true)⟩, ⟨some 39, .pick (.tmp 26) (.tmp 38) (.const (.bool false)), none⟩]
def K21_16 : Cd := .reg (some ([0, 1, 4, 6, 39])) R21_16
@[simp] theorem W21_16 {Q : Ex → St → Prop} {σ : St} : WPk Tryd.prog K21_16 Q σ = WPl Tryd.prog Q R21_16 (keepQ (some ([0, 1, 4, 6, 39])) Q) σ := rfl
def K21_18 : Cd := .skip
@[simp] theorem W21_18 {Q : Ex → St → Prop} {σ : St} : WPk Tryd.prog K21_18 Q σ = Q .normal σ := rfl
def K21_19 : Cd := .exit 1
@[simp] theorem W21_19 {Q : Ex → St → Prop} {σ : St} : WPk Tryd.prog K21_19 Q σ = Q (.exit 1) σ := rfl
def K21_17 : Cd := .cond (.tmp 39) K21_18 K21_19
@[simp] theorem W21_17 {Q : Ex → St → Prop} {σ : St} : WPk Tryd.prog K21_17 Q σ = WPk Tryd.prog (.cond (.tmp 39) K21_18 K21_19) Q σ := rfl
def K21_15 : Cd := .seq K21_16 K21_17
@[simp] theorem W21_15 {Q : Ex → St → Prop} {σ : St} : WPk Tryd.prog K21_15 Q σ = WPk Tryd.prog K21_16 (seqK (WPk Tryd.prog K21_17) Q) σ := WPk_seq
@[simp] def R21_21 : List Op1 := [⟨some 40, .move (.tmp 6), none⟩, ⟨some 41, .binOp .add 3 (.tmp 40) (.const (.int .i64 1)) 3, none⟩, ⟨some 6, .assign (.tmp 41), none⟩]
def K21_21 : Cd := .reg (some ([0, 1, 4, 6])) R21_21
@[simp] theorem W21_21 {Q : Ex → St → Prop} {σ : St} : WPk Tryd.prog K21_21 Q σ = WPl Tryd.prog Q R21_21 (keepQ (some ([0, 1, 4, 6])) Q) σ := rfl
def K21_20 : Cd := .block 2 K21_21
@[simp] theorem W21_20 {Q : Ex → St → Prop} {σ : St} : WPk Tryd.prog K21_20 Q σ = WPk Tryd.prog K21_21 (blkQ 2 Q) σ := rfl
def K21_14 : Cd := .seq K21_15 K21_20
@[simp] theorem W21_14 {Q : Ex → St → Prop} {σ : St} : WPk Tryd.prog K21_14 Q σ = WPk Tryd.prog K21_15 (seqK (WPk Tryd.prog K21_20) Q) σ := WPk_seq
def K21_13 : Cd := .loop K21_14
@[simp] theorem W21_13 {Q : Ex → St → Prop} {σ : St} : WPk Tryd.prog K21_13 Q σ = WPk Tryd.prog (.loop K21_14) Q σ := rfl
def K21_12 : Cd := .block 1 K21_13
@[simp] theorem W21_12 {Q : Ex → St → Prop} {σ : St} : WPk Tryd.prog K21_12 Q σ = WPk Tryd.prog K21_13 (blkQ 1 Q) σ := rfl
@[simp] def R21_23 : List Op1 := [⟨some 42, .move (.tmp 0), none⟩, ⟨some 43, .move (.tmp 1), none⟩, ⟨some 44, .move (.tmp 6), none⟩, ⟨some 45, .slice 22 (.tmp 42) (some (.tmp 43)) (some (.tmp 44)) none, none⟩, ⟨some 46, .convert 22 9 (.tmp 45), none⟩, ⟨some 8, .assign (.tmp 46), none⟩]
def K21_23 : Cd := .reg (some ([4, 8])) R21_23
@[simp] theorem W21_23 {Q : Ex → St → Prop} {σ : St} : WPk Tryd.prog K21_23 Q σ = WPl Tryd.prog Q R21_23 (keepQ (some ([4, 8])) Q) σ := rfl
@[simp] def R21_26 : List Op1 := [⟨some 47, .call { callee := .value (.func 31), args := #[], argTypes := #[] }, none⟩, ⟨some 48, .move (.tmp 8), none⟩, ⟨some 49, .call { callee := .value (.func 30), args := #[.tmp 47, .tmp 48], argTypes := #[32, 9] }, none⟩]
def K21_26 : Cd := .reg (some ([4, 8, 49])) R21_26
@[simp] theorem W21_26 {Q : Ex → St → Prop} {σ : St} : WPk Tryd.prog K21_26 Q σ = WPl Tryd.prog Q R21_26 (keepQ (some ([4, 8, 49])) Q) σ := rfl
@[simp] def R21_29 : List Op1 := [⟨some 50, .move (.tmp 8), none⟩, ⟨some 51, .build 35 #[(0, .const (.int .u8 3)), (1, .tmp 50)], none⟩, ⟨none, .store 35 (.tmp 4) (.tmp 51), none⟩, ⟨some 5, .assign (.const (.bool true)), none⟩]
def K21_29 : Cd := .reg (some ([4, 5])) R21_29
@[simp] theorem W21_29 {Q : Ex → St → Prop} {σ : St} : WPk Tryd.prog K21_29 Q σ = WPl Tryd.prog Q R21_29 (keepQ (some ([4, 5])) Q) σ := rfl
def K21_30 : Cd := .ret
@[simp] theorem W21_30 {Q : Ex → St → Prop} {σ : St} : WPk Tryd.prog K21_30 Q σ = Q .ret σ := rfl
def K21_28 : Cd := .seq K21_29 K21_30
@[simp] theorem W21_28 {Q : Ex → St → Prop} {σ : St} : WPk Tryd.prog K21_28 Q σ = WPk Tryd.prog K21_29 (seqK (WPk Tryd.prog K21_30) Q) σ := WPk_seq
def K21_31 : Cd := .skip
@[simp] theorem W21_31 {Q : Ex → St → Prop} {σ : St} : WPk Tryd.prog K21_31 Q σ = Q .normal σ := rfl
def K21_27 : Cd := .cond (.tmp 49) K21_28 K21_31
@[simp] theorem W21_27 {Q : Ex → St → Prop} {σ : St} : WPk Tryd.prog K21_27 Q σ = WPk Tryd.prog (.cond (.tmp 49) K21_28 K21_31) Q σ := rfl
def K21_25 : Cd := .seq K21_26 K21_27
@[simp] theorem W21_25 {Q : Ex → St → Prop} {σ : St} : WPk Tryd.prog K21_25 Q σ = WPk Tryd.prog K21_26 (seqK (WPk Tryd.prog K21_27) Q) σ := WPk_seq
@[simp] def R21_33 : List Op1 := [⟨some 52, .move (.tmp 8), none⟩, ⟨some 53, .build 35 #[(0, .const (.int .u8 1)), (1, .tmp 52)], none⟩, ⟨some 54, .move (.tmp 8), none⟩, ⟨some 55, .call { callee := .builtin .len, args := #[.tmp 54], argTypes := #[9] }, none⟩, ⟨some 56, .binOp .leq 3 (.tmp 55) (.const (.int .i64 24)) 3, none⟩, ⟨none, .store 35 (.tmp 4) (.tmp 53), none⟩, ⟨some 5, .assign (.tmp 56), none⟩]
def K21_33 : Cd := .reg (some ([4, 5])) R21_33
@[simp] theorem W21_33 {Q : Ex → St → Prop} {σ : St} : WPk Tryd.prog K21_33 Q σ = WPl Tryd.prog Q R21_33 (keepQ (some ([4, 5])) Q) σ := rfl
def K21_34 : Cd := .ret
@[simp] theorem W21_34 {Q : Ex → St → Prop} {σ : St} : WPk Tryd.prog K21_34 Q σ = Q .ret σ := rfl
def K21_32 : Cd := .seq K21_33 K21_34
@[simp] theorem W21_32 {Q : Ex → St → Prop} {σ : St} : WPk Tryd.prog K21_32 Q σ = WPk Tryd.prog K21_33 (seqK (WPk Tryd.prog K21_34) Q) σ := WPk_seq
def K21_24 : Cd := .seq K21_25 K21_32
@[simp] theorem W21_24 {Q : Ex → St → Prop} {σ : St} : WPk Tryd.prog K21_24 Q σ = WPk Tryd.prog K21_25 (seqK (WPk Tryd.prog K21_32) Q) σ := WPk_seq
def K21_22 : Cd := .seq K21_23 K21_24
@[simp] theorem W21_22 {Q : Ex → St → Prop} {σ : St} : WPk Tryd.prog K21_22 Q σ = WPk Tryd.prog K21_23 (seqK (WPk Tryd.prog K21_24) Q) σ := WPk_seq
def K21_11 : Cd := .seq K21_12 K21_22
@[simp] theorem W21_11 {Q : Ex → St → Prop} {σ : St} : WPk Tryd.prog K21_11 Q σ = WPk Tryd.prog K21_12 (seqK (WPk Tryd.prog K21_22) Q) σ := WPk_seq
@[simp] def R21_36 : List Op1 := [⟨some 58, .move (.tmp 7), none⟩, ⟨some 59, .call { callee := .value (.func 15), args := #[.tmp 58], argTypes := #[5] }, none⟩, ⟨some 57, .assign (.tmp 59), none⟩]
def K21_36 : Cd := .reg (some ([0, 1, 4, 6, 57])) R21_36
@[simp] theorem W21_36 {Q : Ex → St → Prop} {σ : St} : WPk Tryd.prog K21_36 Q σ = WPl Tryd.prog Q R21_36 (keepQ (some ([0, 1, 4, 6, 57])) Q) σ := rfl
@[simp] def R21_43 : List Op1 := [⟨some 60, .move (.tmp 6), none⟩, ⟨some 61, .move (.tmp 0), none⟩, ⟨some 62, .call { callee := .builtin .len, args := #[.tmp 61], argTypes := #[22] }, none⟩, ⟨some 63, .binOp .lss 3 (.tmp 60) (.tmp 62) 3, none⟩, ⟨some 64, .move (.tmp 63), none⟩, ⟨some 65, .move (.tmp 0), some (64, true)⟩, ⟨some 66, .move (.tmp 6), some (64, true)⟩, ⟨some 67, .indexAddr 22 (.tmp 65) (.tmp 66), some (64, true)⟩, ⟨some 68, .load 5 (.tmp 67), some (64, true)⟩, ⟨some 69, .call { callee := .value (.func 15), args := #[.tmp 68], argTypes := #[5] }, some (64, true)⟩, ⟨some 70, .pick (.tmp 64) (.tmp 69) (.const (.bool false)), none⟩]
def K21_43 : Cd := .reg (some ([0, 1, 4, 6, 70])) R21_43
@[simp] theorem W21_43 {Q : Ex → St → Prop} {σ : St} : WPk Tryd.prog K21_43 Q σ = WPl Tryd.prog Q R21_43 (keepQ (some ([0, 1, 4, 6, 70])) Q) σ := rfl
def K21_45 : Cd := .skip
@[simp] theorem W21_45 {Q : Ex → St → Prop} {σ : St} : WPk Tryd.prog K21_45 Q σ = Q .normal σ := rfl
def K21_46 : Cd := .exit 3
@[simp] theorem W21_46 {Q : Ex → St → Prop} {σ : St} : WPk Tryd.prog K21_46 Q σ = Q (.exit 3) σ := rfl
def K21_44 : Cd := .cond (.tmp 70) K21_45 K21_46
@[simp] theorem W21_44 {Q : Ex → St → Prop} {σ : St} : WPk Tryd.prog K21_44 Q σ = WPk Tryd.prog (.cond (.tmp 70) K21_45 K21_46) Q σ := rfl
def K21_42 : Cd := .seq K21_43 K21_44
@[simp] theorem W21_42 {Q : Ex → St → Prop} {σ : St} : WPk Tryd.prog K21_42 Q σ = WPk Tryd.prog K21_43 (seqK (WPk Tryd.prog K21_44) Q) σ := WPk_seq
@[simp] def R21_48 : List Op1 := [⟨some 71, .move (.tmp 6), none⟩, ⟨some 72, .binOp .add 3 (.tmp 71) (.const (.int .i64 1)) 3, none⟩, ⟨some 6, .assign (.tmp 72), none⟩]
def K21_48 : Cd := .reg (some ([0, 1, 4, 6])) R21_48
@[simp] theorem W21_48 {Q : Ex → St → Prop} {σ : St} : WPk Tryd.prog K21_48 Q σ = WPl Tryd.prog Q R21_48 (keepQ (some ([0, 1, 4, 6])) Q) σ := rfl
def K21_47 : Cd := .block 4 K21_48
@[simp] theorem W21_47 {Q : Ex → St → Prop} {σ : St} : WPk Tryd.prog K21_47 Q σ = WPk Tryd.prog K21_48 (blkQ 4 Q) σ := rfl
def K21_41 : Cd := .seq K21_42 K21_47
@[simp] theorem W21_41 {Q : Ex → St → Prop} {σ : St} : WPk Tryd.prog K21_41 Q σ = WPk Tryd.prog K21_42 (seqK (WPk Tryd.prog K21_47) Q) σ := WPk_seq
def K21_40 : Cd := .loop K21_41
@[simp] theorem W21_40 {Q : Ex → St → Prop} {σ : St} : WPk Tryd.prog K21_40 Q σ = WPk Tryd.prog (.loop K21_41) Q σ := rfl
def K21_39 : Cd := .block 3 K21_40
@[simp] theorem W21_39 {Q : Ex → St → Prop} {σ : St} : WPk Tryd.prog K21_39 Q σ = WPk Tryd.prog K21_40 (blkQ 3 Q) σ := rfl
@[simp] def R21_50 : List Op1 := [⟨some 73, .move (.tmp 0), none⟩, ⟨some 74, .move (.tmp 1), none⟩, ⟨some 75, .move (.tmp 6), none⟩, ⟨some 76, .slice 22 (.tmp 73) (some (.tmp 74)) (some (.tmp 75)) none, none⟩, ⟨some 77, .convert 22 9 (.tmp 76), none⟩, ⟨some 9, .assign (.tmp 77), none⟩]
def K21_50 : Cd := .reg (some ([0, 4, 6, 9])) R21_50
@[simp] theorem W21_50 {Q : Ex → St → Prop} {σ : St} : WPk Tryd.prog K21_50 Q σ = WPl Tryd.prog Q R21_50 (keepQ (some ([0, 4, 6, 9])) Q) σ := rfl
@[simp] def R21_52 : List Op1 := [⟨some 79, .move (.tmp 9), none⟩, ⟨some 80, .call { callee := .value (.func 32), args := #[.tmp 79], argTypes := #[9] }, none⟩, ⟨some 78, .move (.tmp 80), none⟩, ⟨some 81, .extract (.tmp 78) 0, none⟩, ⟨some 82, .extract (.tmp 78) 1, none⟩, ⟨some 10, .assign (.tmp 81), none⟩, ⟨some 11, .assign (.tmp 82), none⟩]
def K21_52 : Cd := .reg (some ([0, 4, 6, 9, 10, 11])) R21_52
@[simp] theorem W21_52 {Q : Ex → St → Prop} {σ : St} : WPk Tryd.prog K21_52 Q σ = WPl Tryd.prog Q R21_52 (keepQ (some ([0, 4, 6, 9, 10, 11])) Q) σ := rfl
@[simp] def R21_54 : List Op1 := [⟨some 83, .move (.tmp 9), none⟩, ⟨some 84, .move (.tmp 10), none⟩, ⟨some 85, .build 35 #[(0, .const (.int .u8 2)), (1, .tmp 83), (2, .tmp 84)], none⟩, ⟨some 86, .move (.tmp 11), none⟩, ⟨some 87, .move (.tmp 86), none⟩, ⟨some 88, .move (.tmp 6), some (87, true)⟩, ⟨some 89, .move (.tmp 0), some (87, true)⟩, ⟨some 90, .call { callee := .builtin .len, args := #[.tmp 89], argTypes := #[22] }, some (87, true)⟩, ⟨some 91, .binOp .eql 3 (.tmp 88) (.tmp 90) 3, some (87, true)⟩, ⟨some 92, .move (.tmp 91), some (87, true)⟩, ⟨some 93, .move (.tmp 0), some (92, false)⟩, ⟨some 94, .move (.tmp 6), some (92, false)⟩, ⟨some 95, .indexAddr 22 (.tmp 93) (.tmp 94), some (92, false)⟩, ⟨some 96, .load 5 (.tmp 95), some (92, false)⟩, ⟨some 97, .call { callee := .value (.func 14), args := #[.tmp 96], argTypes := #[5] }, some (92, false)⟩, ⟨some 98, .unOp .not 4 (.tmp 97), some (92, false)⟩, ⟨some 99, .pick (.tmp 92) (.const (.bool true)) (.tmp 98), some (87, true)⟩, ⟨some 100, .pick (.tmp 87) (.tmp 99) (.const (.bool false)), none⟩, ⟨none, .store 35 (.tmp 4) (.tmp 85), none⟩, ⟨some 5, .assign (.tmp 100), none⟩]
def K21_54 : Cd := .reg (some ([4, 5])) R21_54
@[simp] theorem W21_54 {Q : Ex → St → Prop} {σ : St} : WPk Tryd.prog K21_54 Q σ = WPl Tryd.prog Q R21_54 (keepQ (some ([4, 5])) Q) σ := rfl
def K21_55 : Cd := .ret
@[simp] theorem W21_55 {Q : Ex → St → Prop} {σ : St} : WPk Tryd.prog K21_55 Q σ = Q .ret σ := rfl
def K21_53 : Cd := .seq K21_54 K21_55
@[simp] theorem W21_53 {Q : Ex → St → Prop} {σ : St} : WPk Tryd.prog K21_53 Q σ = WPk Tryd.prog K21_54 (seqK (WPk Tryd.prog K21_55) Q) σ := WPk_seq
def K21_51 : Cd := .seq K21_52 K21_53
@[simp] theorem W21_51 {Q : Ex → St → Prop} {σ : St} : WPk Tryd.prog K21_51 Q σ = WPk Tryd.prog K21_52 (seqK (WPk Tryd.prog K21_53) Q) σ := WPk_seq
def K21_49 : Cd := .seq K21_50 K21_51
@[simp] theorem W21_49 {Q : Ex → St → Prop} {σ : St} : WPk Tryd.prog K21_49 Q σ = WPk Tryd.prog K21_50 (seqK (WPk Tryd.prog K21_51) Q) σ := WPk_seq
def K21_38 : Cd := .seq K21_39 K21_49
@[simp] theorem W21_38 {Q : Ex → St → Prop} {σ : St} : WPk Tryd.prog K21_38 Q σ = WPk Tryd.prog K21_39 (seqK (WPk Tryd.prog K21_49) Q) σ := WPk_seq
def K21_56 : Cd := .skip
@[simp] theorem W21_56 {Q : Ex → St → Prop} {σ : St} : WPk Tryd.prog K21_56 Q σ = Q .normal σ := rfl
def K21_37 : Cd := .cond (.tmp 57) K21_38 K21_56
@[simp] theorem W21_37 {Q : Ex → St → Prop} {σ : St} : WPk Tryd.prog K21_37 Q σ = WPk Tryd.prog (.cond (.tmp 57) K21_38 K21_56) Q σ := rfl
def K21_35 : Cd := .seq K21_36 K21_37
@[simp] theorem W21_35 {Q : Ex → St → Prop} {σ : St} : WPk Tryd.prog K21_35 Q σ = WPk Tryd.prog K21_36 (seqK (WPk Tryd.prog K21_37) Q) σ := WPk_seq
def K21_10 : Cd := .cond (.tmp 19) K21_11 K21_35
@[simp] theorem W21_10 {Q : Ex → St → Prop} {σ : St} : WPk Tryd.prog K21_10 Q σ = WPk Tryd.prog (.cond (.tmp 19) K21_11 K21_35) Q σ := rfl
def K21_8 : Cd := .seq K21_9 K21_10
@[simp] theorem W21_8 {Q : Ex → St → Prop} {σ : St} : WPk Tryd.prog K21_8 Q σ = WPk Tryd.prog K21_9 (seqK (WPk Tryd.prog K21_10) Q) σ := WPk_seq
def K21_7 : Cd := .block 0 K21_8
@[simp] theorem W21_7 {Q : Ex → St → Prop} {σ : St} : WPk Tryd.prog K21_7 Q σ = WPk Tryd.prog K21_8 (blkQ 0 Q) σ := rfl
@[simp] def R21_58 : List Op1 := [⟨some 101, .call { callee := .value (.func 33), args := #[], argTypes := #[] }, none⟩, ⟨some 12, .assign (.tmp 101), none⟩]
def K21_58 : Cd := .reg (some ([0, 1, 4, 12])) R21_58
@[simp] theorem W21_58 {Q : Ex → St → Prop} {σ : St} : WPk Tryd.prog K21_58 Q σ = WPl Tryd.prog Q R21_58 (keepQ (some ([0, 1, 4, 12])) Q) σ := rfl
@[simp] def R21_61 : List Op1 := [⟨some 13, .assign (.const (.int .i64 0)), none⟩]
def K21_61 : Cd := .reg (some ([0, 1, 4, 12, 13])) R21_61
@[simp] theorem W21_61 {Q : Ex → St → Prop} {σ : St} : WPk Tryd.prog K21_61 Q σ = WPl Tryd.prog Q R21_61 (keepQ (some ([0, 1, 4, 12, 13])) Q) σ := rfl
@[simp] def R21_66 : List Op1 := [⟨some 102, .move (.tmp 13), none⟩, ⟨some 103, .move (.tmp 12), none⟩, ⟨some 104, .call { callee := .builtin .len, args := #[.tmp 103], argTypes := #[32] }, none⟩, ⟨some 105, .binOp .lss 3 (.tmp 102) (.tmp 104) 3, none⟩]
def K21_66 : Cd := .reg (some ([0, 1, 4, 12, 13, 105])) R21_66
@[simp] theorem W21_66 {Q : Ex → St → Prop} {σ : St} : WPk Tryd.prog K21_66 Q σ = WPl Tryd.prog Q R21_66 (keepQ (some ([0, 1, 4, 12, 13, 105])) Q) σ := rfl
def K21_68 : Cd := .skip
@[simp] theorem W21_68 {Q : Ex → St → Prop} {σ : St} : WPk Tryd.prog K21_68 Q σ = Q .normal σ := rfl
def K21_69 : Cd := .exit 5
@[simp] theorem W21_69 {Q : Ex → St → Prop} {σ : St} : WPk Tryd.prog K21_69 Q σ = Q (.exit 5) σ := rfl
def K21_67 : Cd := .cond (.tmp 105) K21_68 K21_69
@[simp] theorem W21_67 {Q : Ex → St → Prop} {σ : St} : WPk Tryd.prog K21_67 Q σ = WPk Tryd.prog (.cond (.tmp 105) K21_68 K21_69) Q σ := rfl
def K21_65 : Cd := .seq K21_66 K21_67
@[simp] theorem W21_65 {Q : Ex → St → Prop} {σ : St} : WPk Tryd.prog K21_65 Q σ = WPk Tryd.prog K21_66 (seqK (WPk Tryd.prog K21_67) Q) σ := WPk_seq
@[simp] def R21_73 : List Op1 := [⟨some 108, .move (.tmp 1), none⟩, ⟨some 109, .move (.tmp 12), none⟩, ⟨some 110, .move (.tmp 13), none⟩, ⟨some 111, .indexAddr 32 (.tmp 109) (.tmp 110), none⟩, ⟨some 112, .load 9 (.tmp 111), none⟩, ⟨some 113, .call { callee := .builtin .len, args := #[.tmp 112], argTypes := #[9] }, none⟩, ⟨some 114, .binOp .add 3 (.tmp 108) (.tmp 113) 3, none⟩, ⟨some 115, .move (.tmp 0), none⟩, ⟨some 116, .call { callee := .builtin .len, args := #[.tmp 115], argTypes := #[22] }, none⟩, ⟨some 117, .binOp .leq 3 (.tmp 114) (.tmp 116) 3, none⟩, ⟨some 118, .move (.tmp 117), none⟩, ⟨some 119, .move (.tmp 0), some (118, true)⟩, ⟨some 120, .move (.tmp 1), some (118, true)⟩, ⟨some 121, .move (.tmp 1), some (118, true)⟩, ⟨some 122, .move (.tmp 12), some (118, true)⟩, ⟨some 123, .move (.tmp 13), some (118, true)⟩, ⟨some 124, .indexAddr 32 (.tmp 122) (.tmp 123), some (118, true)⟩, ⟨some 125, .load 9 (.tmp 124), some (118, true)⟩, ⟨some 126, .call { callee := .builtin .len, args := #[.tmp 125], argTypes := #[9] }, some (118, true)⟩, ⟨some 127, .binOp .add 3 (.tmp 121) (.tmp 126) 3, some (118, true)⟩, ⟨some 128, .slice 22 (.tmp 119) (some (.tmp 120)) (some (.tmp 127)) none, some (118, true)⟩, ⟨some 129, .convert 22 9 (.tmp 128), some (118, true)⟩, ⟨some 130, .move (.tmp 12), some (118, true)⟩, ⟨some 131, .move (.tmp 13), some (118, true)⟩, ⟨some 132, .indexAddr 32 (.tmp 130) (.tmp 131), some (118, true)⟩, ⟨some 133, .load 9 (.tmp 132), some (118, true)⟩, ⟨some 134, .binOp .eql 9 (.tmp 129) (.tmp 133) 9, some (118, true)⟩, ⟨some 135, .pick (.tmp 118) (.tmp 134) (.const (.bool false)), none⟩]
def K21_73 : Cd := .draw ({ live := [0, 1, 4, 12, 13, 135], dms := [{ brw := true }, { brw := true }, { brw := true }, { brw := true }, { brw := true }, { brw := true }, { brw := true }, { brw := true }, { brw := true }, { brw := true }, { brw := true }, { brw := true }, { brw := true }, { brw := true }, { brw := true }, { brw := true }, { brw := true }, { brw := true }, { brw := true }, { brw := true }, { brw := true }, { brw := true }, { brw := true }, { brw := true }, { brw := true }, { brw := true }, { brw := true }, { brw := true }] }) R21_73
@[simp] theorem W21_73 {Q : Ex → St → Prop} {σ : St} : WPk Tryd.prog K21_73 Q σ = WPk Tryd.prog (.draw ({ live := [0, 1, 4, 12, 13, 135], dms := [{ brw := true }, { brw := true }, { brw := true }, { brw := true }, { brw := true }, { brw := true }, { brw := true }, { brw := true }, { brw := true }, { brw := true }, { brw := true }, { brw := true }, { brw := true }, { brw := true }, { brw := true }, { brw := true }, { brw := true }, { brw := true }, { brw := true }, { brw := true }, { brw := true }, { brw := true }, { brw := true }, { brw := true }, { brw := true }, { brw := true }, { brw := true }, { brw := true }] }) R21_73) Q σ := rfl
@[simp] def R21_76 : List Op1 := [⟨some 136, .move (.tmp 12), none⟩, ⟨some 137, .move (.tmp 13), none⟩, ⟨some 138, .indexAddr 32 (.tmp 136) (.tmp 137), none⟩, ⟨some 139, .load 9 (.tmp 138), none⟩, ⟨some 140, .build 35 #[(0, .const (.int .u8 4)), (1, .tmp 139)], none⟩, ⟨none, .store 35 (.tmp 4) (.tmp 140), none⟩, ⟨some 5, .assign (.const (.bool true)), none⟩]
def K21_76 : Cd := .reg (some ([4, 5])) R21_76
@[simp] theorem W21_76 {Q : Ex → St → Prop} {σ : St} : WPk Tryd.prog K21_76 Q σ = WPl Tryd.prog Q R21_76 (keepQ (some ([4, 5])) Q) σ := rfl
def K21_77 : Cd := .ret
@[simp] theorem W21_77 {Q : Ex → St → Prop} {σ : St} : WPk Tryd.prog K21_77 Q σ = Q .ret σ := rfl
def K21_75 : Cd := .seq K21_76 K21_77
@[simp] theorem W21_75 {Q : Ex → St → Prop} {σ : St} : WPk Tryd.prog K21_75 Q σ = WPk Tryd.prog K21_76 (seqK (WPk Tryd.prog K21_77) Q) σ := WPk_seq
def K21_78 : Cd := .skip
@[simp] theorem W21_78 {Q : Ex → St → Prop} {σ : St} : WPk Tryd.prog K21_78 Q σ = Q .normal σ := rfl
def K21_74 : Cd := .cond (.tmp 135) K21_75 K21_78
@[simp] theorem W21_74 {Q : Ex → St → Prop} {σ : St} : WPk Tryd.prog K21_74 Q σ = WPk Tryd.prog (.cond (.tmp 135) K21_75 K21_78) Q σ := rfl
def K21_72 : Cd := .seq K21_73 K21_74
@[simp] theorem W21_72 {Q : Ex → St → Prop} {σ : St} : WPk Tryd.prog K21_72 Q σ = WPk Tryd.prog K21_73 (seqK (WPk Tryd.prog K21_74) Q) σ := WPk_seq
def K21_71 : Cd := .block 6 K21_72
@[simp] theorem W21_71 {Q : Ex → St → Prop} {σ : St} : WPk Tryd.prog K21_71 Q σ = WPk Tryd.prog K21_72 (blkQ 6 Q) σ := rfl
@[simp] def R21_79 : List Op1 := [⟨some 106, .move (.tmp 13), none⟩, ⟨some 107, .binOp .add 3 (.tmp 106) (.const (.int .i64 1)) 3, none⟩, ⟨some 13, .assign (.tmp 107), none⟩]
def K21_79 : Cd := .reg (some ([0, 1, 4, 12, 13])) R21_79
@[simp] theorem W21_79 {Q : Ex → St → Prop} {σ : St} : WPk Tryd.prog K21_79 Q σ = WPl Tryd.prog Q R21_79 (keepQ (some ([0, 1, 4, 12, 13])) Q) σ := rfl
def K21_70 : Cd := .seq K21_71 K21_79
@[simp] theorem W21_70 {Q : Ex → St → Prop} {σ : St} : WPk Tryd.prog K21_70 Q σ = WPk Tryd.prog K21_71 (seqK (WPk Tryd.prog K21_79) Q) σ := WPk_seq
def K21_64 : Cd := .seq K21_65 K21_70
@[simp] theorem W21_64 {Q : Ex → St → Prop} {σ : St} : WPk Tryd.prog K21_64 Q σ = WPk Tryd.prog K21_65 (seqK (WPk Tryd.prog K21_70) Q) σ := WPk_seq
def K21_63 : Cd := .loop K21_64
@[simp] theorem W21_63 {Q : Ex → St → Prop} {σ : St} : WPk Tryd.prog K21_63 Q σ = WPk Tryd.prog (.loop K21_64) Q σ := rfl
def K21_62 : Cd := .block 5 K21_63
@[simp] theorem W21_62 {Q : Ex → St → Prop} {σ : St} : WPk Tryd.prog K21_62 Q σ = WPk Tryd.prog K21_63 (blkQ 5 Q) σ := rfl
def K21_60 : Cd := .seq K21_61 K21_62
@[simp] theorem W21_60 {Q : Ex → St → Prop} {σ : St} : WPk Tryd.prog K21_60 Q σ = WPk Tryd.prog K21_61 (seqK (WPk Tryd.prog K21_62) Q) σ := WPk_seq
@[simp] def R21_81 : List Op1 := [⟨some 141, .build 35 #[], none⟩, ⟨none, .store 35 (.tmp 4) (.tmp 141), none⟩, ⟨some 5, .assign (.const (.bool false)), none⟩]
def K21_81 : Cd := .reg (some ([4, 5])) R21_81
@[simp] theorem W21_81 {Q : Ex → St → Prop} {σ : St} : WPk Tryd.prog K21_81 Q σ = WPl Tryd.prog Q R21_81 (keepQ (some ([4, 5])) Q) σ := rfl
def K21_82 : Cd := .ret
@[simp] theorem W21_82 {Q : Ex → St → Prop} {σ : St} : WPk Tryd.prog K21_82 Q σ = Q .ret σ := rfl
def K21_80 : Cd := .seq K21_81 K21_82
@[simp] theorem W21_80 {Q : Ex → St → Prop} {σ : St} : WPk Tryd.prog K21_80 Q σ = WPk Tryd.prog K21_81 (seqK (WPk Tryd.prog K21_82) Q) σ := WPk_seq
def K21_59 : Cd := .seq K21_60 K21_80
@[simp] theorem W21_59 {Q : Ex → St → Prop} {σ : St} : WPk Tryd.prog K21_59 Q σ = WPk Tryd.prog K21_60 (seqK (WPk Tryd.prog K21_80) Q) σ := WPk_seq
def K21_57 : Cd := .seq K21_58 K21_59
@[simp] theorem W21_57 {Q : Ex → St → Prop} {σ : St} : WPk Tryd.prog K21_57 Q σ = WPk Tryd.prog K21_58 (seqK (WPk Tryd.prog K21_59) Q) σ := WPk_seq
def K21_6 : Cd := .seq K21_7 K21_57
@[simp] theorem W21_6 {Q : Ex → St → Prop} {σ : St} : WPk Tryd.prog K21_6 Q σ = WPk Tryd.prog K21_7 (seqK (WPk Tryd.prog K21_57) Q) σ := WPk_seq
def K21_4 : Cd := .seq K21_5 K21_6
@[simp] theorem W21_4 {Q : Ex → St → Prop} {σ : St} : WPk Tryd.prog K21_4 Q σ = WPk Tryd.prog K21_5 (seqK (WPk Tryd.prog K21_6) Q) σ := WPk_seq
def K21_2 : Cd := .seq K21_3 K21_4
@[simp] theorem W21_2 {Q : Ex → St → Prop} {σ : St} : WPk Tryd.prog K21_2 Q σ = WPk Tryd.prog K21_3 (seqK (WPk Tryd.prog K21_4) Q) σ := WPk_seq
def K21_0 : Cd := .seq K21_1 K21_2
@[simp] theorem W21_0 {Q : Ex → St → Prop} {σ : St} : WPk Tryd.prog K21_0 Q σ = WPk Tryd.prog K21_1 (seqK (WPk Tryd.prog K21_2) Q) σ := WPk_seq
theorem k21 : FnK Tryd.prog 21 (142) ([.cell 4 35, .tmp 5]) K21_0 := ⟨_, _, _, ok21, by kernel_rfl, by kernel_rfl, by kernel_rfl⟩
-- ROOT 21 0 83
@[simp] def R22_1 : List Op1 := [⟨some 4, .assign (.const (.bool false)), none⟩]
def K22_1 : Cd := .reg (some ([0, 1])) R22_1
@[simp] theorem W22_1 {Q : Ex → St → Prop} {σ : St} : WPk Tryd.prog K22_1 Q σ = WPl Tryd.prog Q R22_1 (keepQ (some ([0, 1])) Q) σ := rfl
@[simp] def R22_3 : List Op1 := [⟨some 5, .move (.tmp 0), none⟩, ⟨some 6, .call { callee := .builtin .len, args := #[.tmp 5], argTypes := #[22] }, none⟩, ⟨some 7, .move (.tmp 1), none⟩, ⟨some 8, .call { callee := .builtin .len, args := #[.tmp 7], argTypes := #[22] }, none⟩, ⟨some 9, .binOp .geq 3 (.tmp 6) (.tmp 8) 3, none⟩, ⟨some 10, .move (.tmp 9), none⟩, ⟨some 11, .move (.tmp 0), some (10, true)⟩, ⟨some 12, .move (.tmp 1), some (10, true)⟩, ⟨some 13, .call { callee := .builtin .len, args := #[.tmp 12], argTypes := #[22] }, some (10, true)⟩, ⟨some 14, .slice 22 (.tmp 11) none (some (.tmp 13)) none, some (10, true)⟩, ⟨some 15, .move (.tmp 1), some (10, true)⟩, ⟨some 16, .call { callee := .value (.func 34), args := #[.tmp 14, .tmp 15], argTypes := #[22, 22] }, some (10, true)⟩, ⟨some 17, .pick (.tmp 10) (.tmp 16) (.const (.bool false)), none⟩, ⟨some 4, .assign (.tmp 17), none⟩]
def K22_3 : Cd := .reg (some ([4])) R22_3
@[simp] theorem W22_3 {Q : Ex → St → Prop} {σ : St} : WPk Tryd.prog K22_3 Q σ = WPl Tryd.prog Q R22_3 (keepQ (some ([4])) Q) σ := rfl
def K22_4 : Cd := .ret
@[simp] theorem W22_4 {Q : Ex → St → Prop} {σ : St} : WPk Tryd.prog K22_4 Q σ = Q .ret σ := rfl
def K22_2 : Cd := .seq K22_3 K22_4
@[simp] theorem W22_2 {Q : Ex → St → Prop} {σ : St} : WPk Tryd.prog K22_2 Q σ = WPk Tryd.prog K22_3 (seqK (WPk Tryd.prog K22_4) Q) σ := WPk_seq
def K22_0 : Cd := .seq K22_1 K22_2
@[simp] theorem W22_0 {Q : Ex → St → Prop} {σ : St} : WPk Tryd.prog K22_0 Q σ = WPk Tryd.prog K22_1 (seqK (WPk Tryd.prog K22_2) Q) σ := WPk_seq
theorem k22 : FnK Tryd.prog 22 (18) ([.tmp 4]) K22_0 := ⟨_, _, _, ok22, by kernel_rfl, by kernel_rfl, by kernel_rfl⟩
-- ROOT 22 0 5
@[simp] def R23_1 : List Op1 := [⟨some 4, .assign (.const (.int .i64 0)), none⟩]
def K23_1 : Cd := .reg (some ([0, 1])) R23_1
@[simp] theorem W23_1 {Q : Ex → St → Prop} {σ : St} : WPk Tryd.prog K23_1 Q σ = WPl Tryd.prog Q R23_1 (keepQ (some ([0, 1])) Q) σ := rfl
@[simp] def R23_4 : List Op1 := [⟨some 7, .move (.tmp 0), none⟩, ⟨some 8, .call { callee := .builtin .len, args := #[.tmp 7], argTypes := #[22] }, none⟩, ⟨some 9, .move (.const (.int .i64 0)), none⟩]
def K23_4 : Cd := .reg (some ([0, 1, 7, 8, 9])) R23_4
@[simp] theorem W23_4 {Q : Ex → St → Prop} {σ : St} : WPk Tryd.prog K23_4 Q σ = WPl Tryd.prog Q R23_4 (keepQ (some ([0, 1, 7, 8, 9])) Q) σ := rfl
@[simp] def R23_8 : List Op1 := [⟨some 10, .binOp .lss 3 (.tmp 9) (.tmp 8) 3, none⟩]
def K23_8 : Cd := .reg (some ([0, 1, 7, 8, 9, 10])) R23_8
@[simp] theorem W23_8 {Q : Ex → St → Prop} {σ : St} : WPk Tryd.prog K23_8 Q σ = WPl Tryd.prog Q R23_8 (keepQ (some ([0, 1, 7, 8, 9, 10])) Q) σ := rfl
def K23_11 : Cd := .skip
@[simp] theorem W23_11 {Q : Ex → St → Prop} {σ : St} : WPk Tryd.prog K23_11 Q σ = Q .normal σ := rfl
def K23_12 : Cd := .exit 0
@[simp] theorem W23_12 {Q : Ex → St → Prop} {σ : St} : WPk Tryd.prog K23_12 Q σ = Q (.exit 0) σ := rfl
def K23_10 : Cd := .cond (.tmp 10) K23_11 K23_12
@[simp] theorem W23_10 {Q : Ex → St → Prop} {σ : St} : WPk Tryd.prog K23_10 Q σ = WPk Tryd.prog (.cond (.tmp 10) K23_11 K23_12) Q σ := rfl
@[simp] def R23_16 : List Op1 := [⟨some 11, .move (.tmp 9), none⟩, ⟨some 12, .indexAddr 22 (.tmp 7) (.tmp 9), none⟩, ⟨some 13, .load 5 (.tmp 12), none⟩, ⟨some 5, .assign (.tmp 11), none⟩, ⟨some 6, .assign (.tmp 13), none⟩]
def K23_16 : Cd := .reg (some ([0, 1, 5, 6, 7, 8, 9])) R23_16
@[simp] theorem W23_16 {Q : Ex → St → Prop} {σ : St} : WPk Tryd.prog K23_16 Q σ = WPl Tryd.prog Q R23_16 (keepQ (some ([0, 1, 5, 6, 7, 8, 9])) Q) σ := rfl
@[simp] def R23_18 : List Op1 := [⟨some 14, .move (.tmp 1), none⟩, ⟨some 15, .move (.tmp 6), none⟩, ⟨some 16, .call { callee := .value (.tmp 14), args := #[.tmp 15], argTypes := #[5] }, none⟩, ⟨some 17, .unOp .not 4 (.tmp 16), none⟩]
def K23_18 : Cd := .reg (some ([0, 1, 5, 7, 8, 9, 17])) R23_18
@[simp] theorem W23_18 {Q : Ex → St → Prop} {σ : St} : WPk Tryd.prog K23_18 Q σ = WPl Tryd.prog Q R23_18 (keepQ (some ([0, 1, 5, 7, 8, 9, 17])) Q) σ := rfl
@[simp] def R23_21 : List Op1 := [⟨some 18, .move (.tmp 5), none⟩, ⟨some 4, .assign (.tmp 18), none⟩]
def K23_21 : Cd := .reg (some ([4])) R23_21
@[simp] theorem W23_21 {Q : Ex → St → Prop} {σ : St} : WPk Tryd.prog K23_21 Q σ = WPl Tryd.prog Q R23_21 (keepQ (some ([4])) Q) σ := rfl
def K23_22 : Cd := .ret
@[simp] theorem W23_22 {Q : Ex → St → Prop} {σ : St} : WPk Tryd.prog K23_22 Q σ = Q .ret σ := rfl
def K23_20 : Cd := .seq K23_21 K23_22
@[simp] theorem W23_20 {Q : Ex → St → Prop} {σ : St} : WPk Tryd.prog K23_20 Q σ = WPk Tryd.prog K23_21 (seqK (WPk Tryd.prog K23_22) Q) σ := WPk_seq
def K23_23 : Cd := .skip
@[simp] theorem W23_23 {Q : Ex → St → Prop} {σ : St} : WPk Tryd.prog K23_23 Q σ = Q .normal σ := rfl
def K23_19 : Cd := .cond (.tmp 17) K23_20 K23_23
@[simp] theorem W23_19 {Q : Ex → St → Prop} {σ : St} : WPk Tryd.prog K23_19 Q σ = WPk Tryd.prog (.cond (.tmp 17) K23_20 K23_23) Q σ := rfl
def K23_17 : Cd := .seq K23_18 K23_19
@[simp] theorem W23_17 {Q : Ex → St → Prop} {σ : St} : WPk Tryd.prog K23_17 Q σ = WPk Tryd.prog K23_18 (seqK (WPk Tryd.prog K23_19) Q) σ := WPk_seq
def K23_15 : Cd := .seq K23_16 K23_17
@[simp] theorem W23_15 {Q : Ex → St → Prop} {σ : St} : WPk Tryd.prog K23_15 Q σ = WPk Tryd.prog K23_16 (seqK (WPk Tryd.prog K23_17) Q) σ := WPk_seq
def K23_14 : Cd := .block 1 K23_15
@[simp] theorem W23_14 {Q : Ex → St → Prop} {σ : St} : WPk Tryd.prog K23_14 Q σ = WPk Tryd.prog K23_15 (blkQ 1 Q) σ := rfl
@[simp] def R23_24 : List Op1 := [⟨some 19, .binOp .add 3 (.tmp 9) (.const (.int .i64 1)) 3, none⟩, ⟨some 9, .move (.tmp 19), none⟩]
def K23_24 : Cd := .reg (some ([0, 1, 7, 8, 9])) R23_24
@[simp] theorem W23_24 {Q : Ex → St → Prop} {σ : St} : WPk Tryd.prog K23_24 Q σ = WPl Tryd.prog Q R23_24 (keepQ (some ([0, 1, 7, 8, 9])) Q) σ := rfl
def K23_13 : Cd := .seq K23_14 K23_24
@[simp] theorem W23_13 {Q : Ex → St → Prop} {σ : St} : WPk Tryd.prog K23_13 Q σ = WPk Tryd.prog K23_14 (seqK (WPk Tryd.prog K23_24) Q) σ := WPk_seq
def K23_9 : Cd := .seq K23_10 K23_13
@[simp] theorem W23_9 {Q : Ex → St → Prop} {σ : St} : WPk Tryd.prog K23_9 Q σ = WPk Tryd.prog K23_10 (seqK (WPk Tryd.prog K23_13) Q) σ := WPk_seq
def K23_7 : Cd := .seq K23_8 K23_9
@[simp] theorem W23_7 {Q : Ex → St → Prop} {σ : St} : WPk Tryd.prog K23_7 Q σ = WPk Tryd.prog K23_8 (seqK (WPk Tryd.prog K23_9) Q) σ := WPk_seq
def K23_6 : Cd := .loop K23_7
@[simp] theorem W23_6 {Q : Ex → St → Prop} {σ : St} : WPk Tryd.prog K23_6 Q σ = WPk Tryd.prog (.loop K23_7) Q σ := rfl
def K23_5 : Cd := .block 0 K23_6
@[simp] theorem W23_5 {Q : Ex → St → Prop} {σ : St} : WPk Tryd.prog K23_5 Q σ = WPk Tryd.prog K23_6 (blkQ 0 Q) σ := rfl
def K23_3 : Cd := .seq K23_4 K23_5
@[simp] theorem W23_3 {Q : Ex → St → Prop} {σ : St} : WPk Tryd.prog K23_3 Q σ = WPk Tryd.prog K23_4 (seqK (WPk Tryd.prog K23_5) Q) σ := WPk_seq
@[simp] def R23_26 : List Op1 := [⟨some 20, .move (.tmp 0), none⟩, ⟨some 21, .call { callee := .builtin .len, args := #[.tmp 20], argTypes := #[22] }, none⟩, ⟨some 4, .assign (.tmp 21), none⟩]
def K23_26 : Cd := .reg (some ([4])) R23_26
@[simp] theorem W23_26 {Q : Ex → St → Prop} {σ : St} : WPk Tryd.prog K23_26 Q σ = WPl Tryd.prog Q R23_26 (keepQ (some ([4])) Q) σ := rfl
def K23_27 : Cd := .ret
@[simp] theorem W23_27 {Q : Ex → St → Prop} {σ : St} : WPk Tryd.prog K23_27 Q σ = Q .ret σ := rfl
def K23_25 : Cd := .seq K23_26 K23_27
@[simp] theorem W23_25 {Q : Ex → St → Prop} {σ : St} : WPk Tryd.prog K23_25 Q σ = WPk Tryd.prog K23_26 (seqK (WPk Tryd.prog K23_27) Q) σ := WPk_seq
def K23_2 : Cd := .seq K23_3 K23_25
@[simp] theorem W23_2 {Q : Ex → St → Prop} {σ : St} : WPk Tryd.prog K23_2 Q σ = WPk Tryd.prog K23_3 (seqK (WPk Tryd.prog K23_25) Q) σ := WPk_seq
def K23_0 : Cd := .seq K23_1 K23_2
@[simp] theorem W23_0 {Q : Ex → St → Prop} {σ : St} : WPk Tryd.prog K23_0 Q σ = WPk Tryd.prog K23_1 (seqK (WPk Tryd.prog K23_2) Q) σ := WPk_seq
theorem k23 : FnK Tryd.prog 23 (22) ([.tmp 4]) K23_0 := ⟨_, _, _, ok23, by kernel_rfl, by kernel_rfl, by kernel_rfl⟩
-- ROOT 23 0 28
@[simp] def R24_1 : List Op1 := [⟨some 2, .assign (.const (.bool false)), none⟩]
def K24_1 : Cd := .reg (some ([0])) R24_1
@[simp] theorem W24_1 {Q : Ex → St → Prop} {σ : St} : WPk Tryd.prog K24_1 Q σ = WPl Tryd.prog Q R24_1 (keepQ (some ([0])) Q) σ := rfl
@[simp] def R24_3 : List Op1 := [⟨some 3, .move (.tmp 0), none⟩, ⟨some 4, .binOp .neq 5 (.tmp 3) (.const (.int .u8 10)) 5, none⟩, ⟨some 2, .assign (.tmp 4), none⟩]
def K24_3 : Cd := .reg (some ([2])) R24_3
@[simp] theorem W24_3 {Q : Ex → St → Prop} {σ : St} : WPk Tryd.prog K24_3 Q σ = WPl Tryd.prog Q R24_3 (keepQ (some ([2])) Q) σ := rfl
def K24_4 : Cd := .ret
@[simp] theorem W24_4 {Q : Ex → St → Prop} {σ : St} : WPk Tryd.prog K24_4 Q σ = Q .ret σ := rfl
def K24_2 : Cd := .seq K24_3 K24_4
@[simp] theorem W24_2 {Q : Ex → St → Prop} {σ : St} : WPk Tryd.prog K24_2 Q σ = WPk Tryd.prog K24_3 (seqK (WPk Tryd.prog K24_4) Q) σ := WPk_seq
def K24_0 : Cd := .seq K24_1 K24_2
@[simp] theorem W24_0 {Q : Ex → St → Prop} {σ : St} : WPk Tryd.prog K24_0 Q σ = WPk Tryd.prog K24_1 (seqK (WPk Tryd.prog K24_2) Q) σ := WPk_seq
theorem k24 : FnK Tryd.prog 24 (5) ([.tmp 2]) K24_0 := ⟨_, _, _, ok24, by kernel_rfl, by kernel_rfl, by kernel_rfl⟩
-- ROOT 24 0 5
@[simp] def R25_1 : List Op1 := [⟨some 2, .assign (.const (.bool false)), none⟩]
def K25_1 : Cd := .reg (some ([0])) R25_1
@[simp] theorem W25_1 {Q : Ex → St → Prop} {σ : St} : WPk Tryd.prog K25_1 Q σ = WPl Tryd.prog Q R25_1 (keepQ (some ([0])) Q) σ := rfl
@[simp] def R25_3 : List Op1 := [⟨some 3, .move (.tmp 0), none⟩, ⟨some 4, .binOp .geq 5 (.tmp 3) (.const (.int .u8 97)) 5, none⟩, ⟨some 5, .move (.tmp 4), none⟩, ⟨some 6, .move (.tmp 0), some (5, true)⟩, ⟨some 7, .binOp .leq 5 (.tmp 6) (.const (.int .u8 122)) 5, some (5, true)⟩, ⟨some 8, .pick (.tmp 5) (.tmp 7) (.const (.bool false)), none⟩, ⟨some 9, .move (.tmp 8), none⟩, ⟨some 10, .move (.tmp 0), some (9, false)⟩, ⟨some 11, .binOp .geq 5 (.tmp 10) (.const (.int .u8 65)) 5, some (9, false)⟩, ⟨some 12, .move (.tmp 11), some (9, false)⟩, ⟨some 13, .move (.tmp 0), some (12, true)⟩, ⟨some 14, .binOp .leq 5 (.tmp 13) (.const (.int .u8 90)) 5, some (12, true)⟩, ⟨some 15, .pick (.tmp 12) (.tmp 14) (.const (.bool false)), some (9, false)⟩, ⟨some 16, .pick (.tmp 9) (.const (.bool true)) (.tmp 15), none⟩, ⟨some 17, .move (.tmp 16), none⟩, ⟨some 18, .move (.tmp 0), some (17, false)⟩, ⟨some 19, .binOp .eql 5 (.tmp 18) (.const (.int .u8 95)) 5, some (17, false)⟩, ⟨some 20, .pick (.tmp 17) (.const (.bool true)) (.tmp 19), none⟩, ⟨some 2, .assign (.tmp 20), none⟩]
def K25_3 : Cd := .reg (some ([2])) R25_3
@[simp] theorem W25_3 {Q : Ex → St → Prop} {σ : St} : WPk Tryd.prog K25_3 Q σ = WPl Tryd.prog Q R25_3 (keepQ (some ([2])) Q) σ := rfl
def K25_4 : Cd := .ret
@[simp] theorem W25_4 {Q : Ex → St → Prop} {σ : St} : WPk Tryd.prog K25_4 Q σ = Q .ret σ := rfl
def K25_2 : Cd := .seq K25_3 K25_4
@[simp] theorem W25_2 {Q : Ex → St → Prop} {σ : St} : WPk Tryd.prog K25_2 Q σ = WPk Tryd.prog K25_3 (seqK (WPk Tryd.prog K25_4) Q) σ := WPk_seq
def K25_0 : Cd := .seq K25_1 K25_2
@[simp] theorem W25_0 {Q : Ex → St → Prop} {σ : St} : WPk Tryd.prog K25_0 Q σ = WPk Tryd.prog K25_1 (seqK (WPk Tryd.prog K25_2) Q) σ := WPk_seq
theorem k25 : FnK Tryd.prog 25 (21) ([.tmp 2]) K25_0 := ⟨_, _, _, ok25, by kernel_rfl, by kernel_rfl, by kernel_rfl⟩
-- ROOT 25 0 5
@[simp] def R26_1 : List Op1 := [⟨some 2, .alloc 35, none⟩, ⟨some 3, .assign (.const (.bool false)), none⟩]
def K26_1 : Cd := .reg (some ([0, 2])) R26_1
@[simp] theorem W26_1 {Q : Ex → St → Prop} {σ : St} : WPk Tryd.prog K26_1 Q σ = WPl Tryd.prog Q R26_1 (keepQ (some ([0, 2])) Q) σ := rfl
@[simp] def R26_3 : List Op1 := [⟨some 8, .move (.tmp 0), none⟩, ⟨some 9, .nilCheck (.tmp 8), none⟩, ⟨some 10, .fieldAddr 42 (.tmp 9) 0, none⟩, ⟨some 11, .load 22 (.tmp 10), none⟩, ⟨some 12, .call { callee := .value (.func 23), args := #[.tmp 11, .func 35], argTypes := #[22, 37] }, none⟩, ⟨some 4, .assign (.tmp 12), none⟩]
def K26_3 : Cd := .reg (some ([0, 2, 4])) R26_3
@[simp] theorem W26_3 {Q : Ex → St → Prop} {σ : St} : WPk Tryd.prog K26_3 Q σ = WPl Tryd.prog Q R26_3 (keepQ (some ([0, 2, 4])) Q) σ := rfl
@[simp] def R26_5 : List Op1 := [⟨some 13, .move (.tmp 0), none⟩, ⟨some 14, .nilCheck (.tmp 13), none⟩, ⟨some 15, .fieldAddr 42 (.tmp 14) 0, none⟩, ⟨some 16, .load 22 (.tmp 15), none⟩, ⟨some 17, .move (.tmp 4), none⟩, ⟨some 18, .slice 22 (.tmp 16) none (some (.tmp 17)) none, none⟩, ⟨some 19, .convert 22 9 (.tmp 18), none⟩, ⟨some 20, .build 35 #[(0, .const (.int .u8 1)), (1, .tmp 19)], none⟩, ⟨some 5, .alloc 35, none⟩, ⟨none, .store 35 (.tmp 5) (.tmp 20), none⟩]
def K26_5 : Cd := .reg (some ([0, 2, 4, 5])) R26_5
@[simp] theorem W26_5 {Q : Ex → St → Prop} {σ : St} : WPk Tryd.prog K26_5 Q σ = WPl Tryd.prog Q R26_5 (keepQ (some ([0, 2, 4, 5])) Q) σ := rfl
@[simp] def R26_8 : List Op1 := [⟨some 22, .move (.tmp 0), none⟩, ⟨some 23, .nilCheck (.tmp 22), none⟩, ⟨some 24, .fieldAddr 42 (.tmp 23) 2, none⟩, ⟨some 25, .load 39 (.tmp 24), none⟩, ⟨some 26, .fieldAddr 35 (.tmp 5) 1, none⟩, ⟨some 27, .load 9 (.tmp 26), none⟩, ⟨some 28, .lookup 39 (.tmp 25) (.tmp 27) true, none⟩, ⟨some 21, .move (.tmp 28), none⟩, ⟨some 29, .extract (.tmp 21) 0, none⟩, ⟨some 30, .extract (.tmp 21) 1, none⟩, ⟨some 6, .assign (.tmp 29), none⟩, ⟨some 7, .assign (.tmp 30), none⟩]
def K26_8 : Cd := .draw ({ live := [2, 4, 5, 7], dms := [{ brw := true }, { brw := true }, { brw := true }, { brw := true }, { brw := true }, { brw := true }, { brw := true }, { brw := true }, { brw := true }, { brw := true }, { brw := true }, { brw := true }] }) R26_8
@[simp] theorem W26_8 {Q : Ex → St → Prop} {σ : St} : WPk Tryd.prog K26_8 Q σ = WPk Tryd.prog (.draw ({ live := [2, 4, 5, 7], dms := [{ brw := true }, { brw := true }, { brw := true }, { brw := true }, { brw := true }, { brw := true }, { brw := true }, { brw := true }, { brw := true }, { brw := true }, { brw := true }, { brw := true }] }) R26_8) Q σ := rfl
@[simp] def R26_10 : List Op1 := [⟨some 31, .move (.tmp 7), none⟩]
def K26_10 : Cd := .reg (some ([2, 4, 5, 31])) R26_10
@[simp] theorem W26_10 {Q : Ex → St → Prop} {σ : St} : WPk Tryd.prog K26_10 Q σ = WPl Tryd.prog Q R26_10 (keepQ (some ([2, 4, 5, 31])) Q) σ := rfl
@[simp] def R26_12 : List Op1 := [⟨some 32, .fieldAddr 35 (.tmp 5) 0, none⟩, ⟨none, .store 5 (.tmp 32) (.const (.int .u8 3)), none⟩]
def K26_12 : Cd := .reg (some ([2, 4, 5])) R26_12
@[simp] theorem W26_12 {Q : Ex → St → Prop} {σ : St} : WPk Tryd.prog K26_12 Q σ = WPl Tryd.prog Q R26_12 (keepQ (some ([2, 4, 5])) Q) σ := rfl
def K26_13 : Cd := .skip
@[simp] theorem W26_13 {Q : Ex → St → Prop} {σ : St} : WPk Tryd.prog K26_13 Q σ = Q .normal σ := rfl
def K26_11 : Cd := .cond (.tmp 31) K26_12 K26_13
@[simp] theorem W26_11 {Q : Ex → St → Prop} {σ : St} : WPk Tryd.prog K26_11 Q σ = WPk Tryd.prog (.cond (.tmp 31) K26_12 K26_13) Q σ := rfl
def K26_9 : Cd := .seq K26_10 K26_11
@[simp] theorem W26_9 {Q : Ex → St → Prop} {σ : St} : WPk Tryd.prog K26_9 Q σ = WPk Tryd.prog K26_10 (seqK (WPk Tryd.prog K26_11) Q) σ := WPk_seq
def K26_7 : Cd := .seq K26_8 K26_9
@[simp] theorem W26_7 {Q : Ex → St → Prop} {σ : St} : WPk Tryd.prog K26_7 Q σ = WPk Tryd.prog K26_8 (seqK (WPk Tryd.prog K26_9) Q) σ := WPk_seq
@[simp] def R26_15 : List Op1 := [⟨some 33, .load 35 (.tmp 5), none⟩, ⟨some 34, .move (.tmp 4), none⟩, ⟨some 35, .binOp .leq 3 (.tmp 34) (.const (.int .i64 24)) 3, none⟩, ⟨none, .store 35 (.tmp 2) (.tmp 33), none⟩, ⟨some 3, .assign (.tmp 35), none⟩]
def K26_15 : Cd := .reg (some ([2, 3])) R26_15
@[simp] theorem W26_15 {Q : Ex → St → Prop} {σ : St} : WPk Tryd.prog K26_15 Q σ = WPl Tryd.prog Q R26_15 (keepQ (some ([2, 3])) Q) σ := rfl
def K26_16 : Cd := .ret
@[simp] theorem W26_16 {Q : Ex → St → Prop} {σ : St} : WPk Tryd.prog K26_16 Q σ = Q .ret σ := rfl
def K26_14 : Cd := .seq K26_15 K26_16
@[simp] theorem W26_14 {Q : Ex → St → Prop} {σ : St} : WPk Tryd.prog K26_14 Q σ = WPk Tryd.prog K26_15 (seqK (WPk Tryd.prog K26_16) Q) σ := WPk_seq
def K26_6 : Cd := .seq K26_7 K26_14
@[simp] theorem W26_6 {Q : Ex → St → Prop} {σ : St} : WPk Tryd.prog K26_6 Q σ = WPk Tryd.prog K26_7 (seqK (WPk Tryd.prog K26_14) Q) σ := WPk_seq
def K26_4 : Cd := .seq K26_5 K26_6
@[simp] theorem W26_4 {Q : Ex → St → Prop} {σ : St} : WPk Tryd.prog K26_4 Q σ = WPk Tryd.prog K26_5 (seqK (WPk Tryd.prog K26_6) Q) σ := WPk_seq
def K26_2 : Cd := .seq K26_3 K26_4
@[simp] theorem W26_2 {Q : Ex → St → Prop} {σ : St} : WPk Tryd.prog K26_2 Q σ = WPk Tryd.prog K26_3 (seqK (WPk Tryd.prog K26_4) Q) σ := WPk_seq
def K26_0 : Cd := .seq K26_1 K26_2
@[simp] theorem W26_0 {Q : Ex → St → Prop} {σ : St} : WPk Tryd.prog K26_0 Q σ = WPk Tryd.prog K26_1 (seqK (WPk Tryd.prog K26_2) Q) σ := WPk_seq
theorem k26 : FnK Tryd.prog 26 (36) ([.cell 2 35, .tmp 3]) K26_0 := ⟨_, _, _, ok26, by kernel_rfl, by kernel_rfl, by kernel_rfl⟩
-- ROOT 26 0 17
@[simp] def R27_1 : List Op1 := [⟨some 2, .assign (.const (.bool false)), none⟩]
def K27_1 : Cd := .reg (some ([0])) R27_1
@[simp] theorem W27_1 {Q : Ex → St → Prop} {σ : St} : WPk Tryd.prog K27_1 Q σ = WPl Tryd.prog Q R27_1 (keepQ (some ([0])) Q) σ := rfl
@[simp] def R27_3 : List Op1 := [⟨some 3, .move (.tmp 0), none⟩, ⟨some 4, .binOp .geq 5 (.tmp 3) (.const (.int .u8 48)) 5, none⟩, ⟨some 5, .move (.tmp 4), none⟩, ⟨some 6, .move (.tmp 0), some (5, true)⟩, ⟨some 7, .binOp .leq 5 (.tmp 6) (.const (.int .u8 57)) 5, some (5, true)⟩, ⟨some 8, .pick (.tmp 5) (.tmp 7) (.const (.bool false)), none⟩, ⟨some 2, .assign (.tmp 8), none⟩]
def K27_3 : Cd := .reg (some ([2])) R27_3
@[simp] theorem W27_3 {Q : Ex → St → Prop} {σ : St} : WPk Tryd.prog K27_3 Q σ = WPl Tryd.prog Q R27_3 (keepQ (some ([2])) Q) σ := rfl
def K27_4 : Cd := .ret
@[simp] theorem W27_4 {Q : Ex → St → Prop} {σ : St} : WPk Tryd.prog K27_4 Q σ = Q .ret σ := rfl
def K27_2 : Cd := .seq K27_3 K27_4
@[simp] theorem W27_2 {Q : Ex → St → Prop} {σ : St} : WPk Tryd.prog K27_2 Q σ = WPk Tryd.prog K27_3 (seqK (WPk Tryd.prog K27_4) Q) σ := WPk_seq
def K27_0 : Cd := .seq K27_1 K27_2
@[simp] theorem W27_0 {Q : Ex → St → Prop} {σ : St} : WPk Tryd.prog K27_0 Q σ = WPk Tryd.prog K27_1 (seqK (WPk Tryd.prog K27_2) Q) σ := WPk_seq
theorem k27 : FnK Tryd.prog 27 (9) ([.tmp 2]) K27_0 := ⟨_, _, _, ok27, by kernel_rfl, by kernel_rfl, by kernel_rfl⟩
-- ROOT 27 0 5
@[simp] def R28_1 : List Op1 := [⟨some 2, .alloc 35, none⟩, ⟨some 3, .assign (.const (.bool false)), none⟩]
def K28_1 : Cd := .reg (some ([0, 2])) R28_1
@[simp] theorem W28_1 {Q : Ex → St → Prop} {σ : St} : WPk Tryd.prog K28_1 Q σ = WPl Tryd.prog Q R28_1 (keepQ (some ([0, 2])) Q) σ := rfl
@[simp] def R28_3 : List Op1 := [⟨some 8, .move (.tmp 0), none⟩, ⟨some 9, .nilCheck (.tmp 8), none⟩, ⟨some 10, .fieldAddr 42 (.tmp 9) 0, none⟩, ⟨some 11, .load 22 (.tmp 10), none⟩, ⟨some 12, .call { callee := .value (.func 23), args := #[.tmp 11, .func 27], argTypes := #[22, 37] }, none⟩, ⟨some 4, .assign (.tmp 12), none⟩]
def K28_3 : Cd := .reg (some ([0, 2, 4])) R28_3
@[simp] theorem W28_3 {Q : Ex → St → Prop} {σ : St} : WPk Tryd.prog K28_3 Q σ = WPl Tryd.prog Q R28_3 (keepQ (some ([0, 2, 4])) Q) σ := rfl
@[simp] def R28_5 : List Op1 := [⟨some 13, .move (.tmp 0), none⟩, ⟨some 14, .nilCheck (.tmp 13), none⟩, ⟨some 15, .fieldAddr 42 (.tmp 14) 0, none⟩, ⟨some 16, .load 22 (.tmp 15), none⟩, ⟨some 17, .move (.tmp 4), none⟩, ⟨some 18, .slice 22 (.tmp 16) none (some (.tmp 17)) none, none⟩, ⟨some 19, .convert 22 9 (.tmp 18), none⟩, ⟨some 20, .build 35 #[(0, .const (.int .u8 2)), (1, .tmp 19)], none⟩, ⟨some 5, .alloc 35, none⟩, ⟨none, .store 35 (.tmp 5) (.tmp 20), none⟩]
def K28_5 : Cd := .reg (some ([0, 2, 4, 5])) R28_5
@[simp] theorem W28_5 {Q : Ex → St → Prop} {σ : St} : WPk Tryd.prog K28_5 Q σ = WPl Tryd.prog Q R28_5 (keepQ (some ([0, 2, 4, 5])) Q) σ := rfl
@[simp] def R28_8 : List Op1 := [⟨some 21, .move (.tmp 4), none⟩, ⟨some 22, .binOp .gtr 3 (.tmp 21) (.const (.int .i64 1)) 3, none⟩, ⟨some 23, .move (.tmp 22), none⟩, ⟨some 24, .move (.tmp 0), some (23, true)⟩, ⟨some 25, .nilCheck (.tmp 24), some (23, true)⟩, ⟨some 26, .fieldAddr 42 (.tmp 25) 0, some (23, true)⟩, ⟨some 27, .load 22 (.tmp 26), some (23, true)⟩, ⟨some 28, .indexAddr 22 (.tmp 27) (.const (.int .i64 0)), some (23, true)⟩, ⟨some 29, .load 5 (.tmp 28), some (23, true)⟩, ⟨some 30, .binOp .eql 5 (.tmp 29) (.const (.int .u8 48)) 5, some (23, true)⟩, ⟨some 31, .pick (.tmp 23) (.tmp 30) (.const (.bool false)), none⟩, ⟨some 32, .move (.tmp 31), none⟩, ⟨some 33, .move (.tmp 4), some (32, false)⟩, ⟨some 34, .move (.tmp 0), some (32, false)⟩, ⟨some 35, .nilCheck (.tmp 34), some (32, false)⟩, ⟨some 36, .fieldAddr 42 (.tmp 35) 0, some (32, false)⟩, ⟨some 37, .load 22 (.tmp 36), some (32, false)⟩, ⟨some 38, .call { callee := .builtin .len, args := #[.tmp 37], argTypes := #[22] }, some (32, false)⟩, ⟨some 39, .binOp .lss 3 (.tmp 33) (.tmp 38) 3, some (32, false)⟩, ⟨some 40, .move (.tmp 39), some (32, false)⟩, ⟨some 41, .move (.tmp 0), some (40, true)⟩, ⟨some 42, .nilCheck (.tmp 41), some (40, true)⟩, ⟨some 43, .fieldAddr 42 (.tmp 42) 0, some (40, true)⟩, ⟨some 44, .load 22 (.tmp 43), some (40, true)⟩, ⟨some 45, .move (.tmp 4), some (40, true)⟩, ⟨some 46, .indexAddr 22 (.tmp 44) (.tmp 45), some (40, true)⟩, ⟨some 47, .load 5 (.tmp 46), some (40, true)⟩, ⟨some 48, .call { callee := .value (.func 25), args := #[.tmp 47], argTypes := #[5] }, some (40, true)⟩, ⟨some 49, .pick (.tmp 40) (.tmp 48) (.const (.bool false)), some (32, false)⟩, ⟨some 50, .pick (.tmp 32) (.const (.bool true)) (.tmp 49), none⟩]
def K28_8 : Cd := .reg (some ([2, 5, 50])) R28_8
@[simp] theorem W28_8 {Q : Ex → St → Prop} {σ : St} : WPk Tryd.prog K28_8 Q σ = WPl Tryd.prog Q R28_8 (keepQ (some ([2, 5, 50])) Q) σ := rfl
@[simp] def R28_11 : List Op1 := [⟨some 51, .load 35 (.tmp 5), none⟩, ⟨none, .store 35 (.tmp 2) (.tmp 51), none⟩, ⟨some 3, .assign (.const (.bool false)), none⟩]
def K28_11 : Cd := .reg (some ([2, 3])) R28_11
@[simp] theorem W28_11 {Q : Ex → St → Prop} {σ : St} : WPk Tryd.prog K28_11 Q σ = WPl Tryd.prog Q R28_11 (keepQ (some ([2, 3])) Q) σ := rfl
def K28_12 : Cd := .ret
@[simp] theorem W28_12 {Q : Ex → St → Prop} {σ : St} : WPk Tryd.prog K28_12 Q σ = Q .ret σ := rfl
def K28_10 : Cd := .seq K28_11 K28_12
@[simp] theorem W28_10 {Q : Ex → St → Prop} {σ : St} : WPk Tryd.prog K28_10 Q σ = WPk Tryd.prog K28_11 (seqK (WPk Tryd.prog K28_12) Q) σ := WPk_seq
def K28_13 : Cd := .skip
@[simp] theorem W28_13 {Q : Ex → St → Prop} {σ : St} : WPk Tryd.prog K28_13 Q σ = Q .normal σ := rfl
def K28_9 : Cd := .cond (.tmp 50) K28_10 K28_13
@[simp] theorem W28_9 {Q : Ex → St → Prop} {σ : St} : WPk Tryd.prog K28_9 Q σ = WPk Tryd.prog (.cond (.tmp 50) K28_10 K28_13) Q σ := rfl
def K28_7 : Cd := .seq K28_8 K28_9
@[simp] theorem W28_7 {Q : Ex → St → Prop} {σ : St} : WPk Tryd.prog K28_7 Q σ = WPk Tryd.prog K28_8 (seqK (WPk Tryd.prog K28_9) Q) σ := WPk_seq
@[simp] def R28_15 : List Op1 := [⟨some 53, .fieldAddr 35 (.tmp 5) 1, none⟩, ⟨some 54, .load 9 (.tmp 53), none⟩, ⟨some 55, .call { callee := .value (.func 36), args := #[.tmp 54, .const (.int .i64 10), .const (.int .i64 64)], argTypes := #[9, 3, 3] }, none⟩, ⟨some 52, .move (.tmp 55), none⟩, ⟨some 56, .extract (.tmp 52) 0, none⟩, ⟨some 57, .extract (.tmp 52) 1, none⟩, ⟨some 6, .assign (.tmp 56), none⟩, ⟨some 7, .assign (.tmp 57), none⟩]
def K28_15 : Cd := .reg (some ([2, 5, 6, 7])) R28_15
@[simp] theorem W28_15 {Q : Ex → St → Prop} {σ : St} : WPk Tryd.prog K28_15 Q σ = WPl Tryd.prog Q R28_15 (keepQ (some ([2, 5, 6, 7])) Q) σ := rfl
@[simp] def R28_17 : List Op1 := [⟨some 58, .move (.tmp 6), none⟩, ⟨some 59, .fieldAddr 35 (.tmp 5) 2, none⟩, ⟨none, .store 2 (.tmp 59) (.tmp 58), none⟩]
def K28_17 : Cd := .reg (some ([2, 5, 7])) R28_17
@[simp] theorem W28_17 {Q : Ex → St → Prop} {σ : St} : WPk Tryd.prog K28_17 Q σ = WPl Tryd.prog Q R28_17 (keepQ (some ([2, 5, 7])) Q) σ := rfl
@[simp] def R28_19 : List Op1 := [⟨some 60, .load 35 (.tmp 5), none⟩, ⟨some 61, .move (.tmp 7), none⟩, ⟨some 62, .binOp .eql 54 (.tmp 61) (.const .nilIface) 54, none⟩, ⟨none, .store 35 (.tmp 2) (.tmp 60), none⟩, ⟨some 3, .assign (.tmp 62), none⟩]
def K28_19 : Cd := .draw ({ live := [2, 3], dms := [{ brw := true }, { brw := true }, { brw := true }, { brw := true }, { brw := true }] }) R28_19
@[simp] theorem W28_19 {Q : Ex → St → Prop} {σ : St} : WPk Tryd.prog K28_19 Q σ = WPk Tryd.prog (.draw ({ live := [2, 3], dms := [{ brw := true }, { brw := true }, { brw := true }, { brw := true }, { brw := true }] }) R28_19) Q σ := rfl
def K28_20 : Cd := .ret
@[simp] theorem W28_20 {Q : Ex → St → Prop} {σ : St} : WPk Tryd.prog K28_20 Q σ = Q .ret σ := rfl
def K28_18 : Cd := .seq K28_19 K28_20
@[simp] theorem W28_18 {Q : Ex → St → Prop} {σ : St} : WPk Tryd.prog K28_18 Q σ = WPk Tryd.prog K28_19 (seqK (WPk Tryd.prog K28_20) Q) σ := WPk_seq
def K28_16 : Cd := .seq K28_17 K28_18
@[simp] theorem W28_16 {Q : Ex → St → Prop} {σ : St} : WPk Tryd.prog K28_16 Q σ = WPk Tryd.prog K28_17 (seqK (WPk Tryd.prog K28_18) Q) σ := WPk_seq
def K28_14 : Cd := .seq K28_15 K28_16
@[simp] theorem W28_14 {Q : Ex → St → Prop} {σ : St} : WPk Tryd.prog K28_14 Q σ = WPk Tryd.prog K28_15 (seqK (WPk Tryd.prog K28_16) Q) σ := WPk_seq
def K28_6 : Cd := .seq K28_7 K28_14
@[simp] theorem W28_6 {Q : Ex → St → Prop} {σ : St} : WPk Tryd.prog K28_6 Q σ = WPk Tryd.prog K28_7 (seqK (WPk Tryd.prog K28_14) Q) σ := WPk_seq
def K28_4 : Cd := .seq K28_5 K28_6
@[simp] theorem W28_4 {Q : Ex → St → Prop} {σ : St} : WPk Tryd.prog K28_4 Q σ = WPk Tryd.prog K28_5 (seqK (WPk Tryd.prog K28_6) Q) σ := WPk_seq
def K28_2 : Cd := .seq K28_3 K28_4
@[simp] theorem W28_2 {Q : Ex → St → Prop} {σ : St} : WPk Tryd.prog K28_2 Q σ = WPk Tryd.prog K28_3 (seqK (WPk Tryd.prog K28_4) Q) σ := WPk_seq
def K28_0 : Cd := .seq K28_1 K28_2
@[simp] theorem W28_0 {Q : Ex → St → Prop} {σ : St} : WPk Tryd.prog K28_0 Q σ = WPk Tryd.prog K28_1 (seqK (WPk Tryd.prog K28_2) Q) σ := WPk_seq
theorem k28 : FnK Tryd.prog 28 (63) ([.cell 2 35, .tmp 3]) K28_0 := ⟨_, _, _, ok28, by kernel_rfl, by kernel_rfl, by kernel_rfl⟩
-- ROOT 28 0 21
@[simp] def R29_1 : List Op1 := [⟨some 2, .alloc 35, none⟩, ⟨some 3, .assign (.const (.bool false)), none⟩]
def K29_1 : Cd := .reg (some ([0, 2])) R29_1
@[simp] theorem W29_1 {Q : Ex → St → Prop} {σ : St} : WPk Tryd.prog K29_1 Q σ = WPl Tryd.prog Q R29_1 (keepQ (some ([0, 2])) Q) σ := rfl
@[simp] def R29_4 : List Op1 := [⟨some 4, .assign (.const (.int .i64 0)), none⟩]
def K29_4 : Cd := .reg (some ([0, 2, 4])) R29_4
@[simp] theorem W29_4 {Q : Ex → St → Prop} {σ : St} : WPk Tryd.prog K29_4 Q σ = WPl Tryd.prog Q R29_4 (keepQ (some ([0, 2, 4])) Q) σ := rfl
@[simp] def R29_9 : List Op1 := [⟨some 7, .move (.tmp 4), none⟩, ⟨some 8, .binOp .lss 3 (.tmp 7) (.const (.int .i64 12)) 3, none⟩]
def K29_9 : Cd := .reg (some ([0, 2, 4, 8])) R29_9
@[simp] theorem W29_9 {Q : Ex → St → Prop} {σ : St} : WPk Tryd.prog K29_9 Q σ = WPl Tryd.prog Q R29_9 (keepQ (some ([0, 2, 4, 8])) Q) σ := rfl
def K29_11 : Cd := .skip
@[simp] theorem W29_11 {Q : Ex → St → Prop} {σ : St} : WPk Tryd.prog K29_11 Q σ = Q .normal σ := rfl
def K29_12 : Cd := .exit 0
@[simp] theorem W29_12 {Q : Ex → St → Prop} {σ : St} : WPk Tryd.prog K29_12 Q σ = Q (.exit 0) σ := rfl
def K29_10 : Cd := .cond (.tmp 8) K29_11 K29_12
@[simp] theorem W29_10 {Q : Ex → St → Prop} {σ : St} : WPk Tryd.prog K29_10 Q σ = WPk Tryd.prog (.cond (.tmp 8) K29_11 K29_12) Q σ := rfl
def K29_8 : Cd := .seq K29_9 K29_10
@[simp] theorem W29_8 {Q : Ex → St → Prop} {σ : St} : WPk Tryd.prog K29_8 Q σ = WPk Tryd.prog K29_9 (seqK (WPk Tryd.prog K29_10) Q) σ := WPk_seq
@[simp] def R29_16 : List Op1 := [⟨some 11, .move (.tmp 4), none⟩, ⟨some 12, .move (.tmp 4), none⟩, ⟨some 13, .binOp .add 3 (.tmp 12) (.const (.int .i64 2)) 3, none⟩, ⟨some 14, .slice 9 (.const (.string { data := #[38, 38, 124, 124, 61, 61, 33, 61, 60, 61, 62, 61] })) (some (.tmp 11)) (some (.tmp 13)) none, none⟩, ⟨some 5, .assign (.tmp 14), none⟩]
def K29_16 : Cd := .reg (some ([0, 2, 4, 5])) R29_16
@[simp] theorem W29_16 {Q : Ex → St → Prop} {σ : St} : WPk Tryd.prog K29_16 Q σ = WPl Tryd.prog Q R29_16 (keepQ (some ([0, 2, 4, 5])) Q) σ := rfl
@[simp] def R29_18 : List Op1 := [⟨some 15, .move (.tmp 0), none⟩, ⟨some 16, .nilCheck (.tmp 15), none⟩, ⟨some 17, .fieldAddr 42 (.tmp 16) 0, none⟩, ⟨some 18, .load 22 (.tmp 17), none⟩, ⟨some 19, .move (.tmp 5), none⟩, ⟨some 20, .convert 9 22 (.tmp 19), none⟩, ⟨some 21, .call { callee := .value (.func 22), args := #[.tmp 18, .tmp 20], argTypes := #[22, 22] }, none⟩]
def K29_18 : Cd := .reg (some ([0, 2, 4, 5, 21])) R29_18
@[simp] theorem W29_18 {Q : Ex → St → Prop} {σ : St} : WPk Tryd.prog K29_18 Q σ = WPl Tryd.prog Q R29_18 (keepQ (some ([0, 2, 4, 5, 21])) Q) σ := rfl
@[simp] def R29_21 : List Op1 := [⟨some 22, .move (.tmp 5), none⟩, ⟨some 23, .build 35 #[(0, .const (.int .u8 4)), (1, .tmp 22)], none⟩, ⟨none, .store 35 (.tmp 2) (.tmp 23), none⟩, ⟨some 3, .assign (.const (.bool true)), none⟩]
def K29_21 : Cd := .reg (some ([2, 3])) R29_21
@[simp] theorem W29_21 {Q : Ex → St → Prop} {σ : St} : WPk Tryd.prog K29_21 Q σ = WPl Tryd.prog Q R29_21 (keepQ (some ([2, 3])) Q) σ := rfl
def K29_22 : Cd := .ret
@[simp] theorem W29_22 {Q : Ex → St → Prop} {σ : St} : WPk Tryd.prog K29_22 Q σ = Q .ret σ := rfl
def K29_20 : Cd := .seq K29_21 K29_22
@[simp] theorem W29_20 {Q : Ex → St → Prop} {σ : St} : WPk Tryd.prog K29_20 Q σ = WPk Tryd.prog K29_21 (seqK (WPk Tryd.prog K29_22) Q) σ := WPk_seq
def K29_23 : Cd := .skip
@[simp] theorem W29_23 {Q : Ex → St → Prop} {σ : St} : WPk Tryd.prog K29_23 Q σ = Q .normal σ := rfl
def K29_19 : Cd := .cond (.tmp 21) K29_20 K29_23
@[simp] theorem W29_19 {Q : Ex → St → Prop} {σ : St} : WPk Tryd.prog K29_19 Q σ = WPk Tryd.prog (.cond (.tmp 21) K29_20 K29_23) Q σ := rfl
def K29_17 : Cd := .seq K29_18 K29_19
@[simp] theorem W29_17 {Q : Ex → St → Prop} {σ : St} : WPk Tryd.prog K29_17 Q σ = WPk Tryd.prog K29_18 (seqK (WPk Tryd.prog K29_19) Q) σ := WPk_seq
def K29_15 : Cd := .seq K29_16 K29_17
@[simp] theorem W29_15 {Q : Ex → St → Prop} {σ : St} : WPk Tryd.prog K29_15 Q σ = WPk Tryd.prog K29_16 (seqK (WPk Tryd.prog K29_17) Q) σ := WPk_seq
def K29_14 : Cd := .block 1 K29_15
@[simp] theorem W29_14 {Q : Ex → St → Prop} {σ : St} : WPk Tryd.prog K29_14 Q σ = WPk Tryd.prog K29_15 (blkQ 1 Q) σ := rfl
@[simp] def R29_24 : List Op1 := [⟨some 9, .move (.tmp 4), none⟩, ⟨some 10, .binOp .add 3 (.tmp 9) (.const (.int .i64 2)) 3, none⟩, ⟨some 4, .assign (.tmp 10), none⟩]
def K29_24 : Cd := .reg (some ([0, 2, 4])) R29_24
@[simp] theorem W29_24 {Q : Ex → St → Prop} {σ : St} : WPk Tryd.prog K29_24 Q σ = WPl Tryd.prog Q R29_24 (keepQ (some ([0, 2, 4])) Q) σ := rfl
def K29_13 : Cd := .seq K29_14 K29_24
@[simp] theorem W29_13 {Q : Ex → St → Prop} {σ : St} : WPk Tryd.prog K29_13 Q σ = WPk Tryd.prog K29_14 (seqK (WPk Tryd.prog K29_24) Q) σ := WPk_seq
def K29_7 : Cd := .seq K29_8 K29_13
@[simp] theorem W29_7 {Q : Ex → St → Prop} {σ : St} : WPk Tryd.prog K29_7 Q σ = WPk Tryd.prog K29_8 (seqK (WPk Tryd.prog K29_13) Q) σ := WPk_seq
def K29_6 : Cd := .loop K29_7
@[simp] theorem W29_6 {Q : Ex → St → Prop} {σ : St} : WPk Tryd.prog K29_6 Q σ = WPk Tryd.prog (.loop K29_7) Q σ := rfl
def K29_5 : Cd := .block 0 K29_6
@[simp] theorem W29_5 {Q : Ex → St → Prop} {σ : St} : WPk Tryd.prog K29_5 Q σ = WPk Tryd.prog K29_6 (blkQ 0 Q) σ := rfl
def K29_3 : Cd := .seq K29_4 K29_5
@[simp] theorem W29_3 {Q : Ex → St → Prop} {σ : St} : WPk Tryd.prog K29_3 Q σ = WPk Tryd.prog K29_4 (seqK (WPk Tryd.prog K29_5) Q) σ := WPk_seq
@[simp] def R29_26 : List Op1 := [⟨some 24, .move (.tmp 0), none⟩, ⟨some 25, .nilCheck (.tmp 24), none⟩, ⟨some 26, .fieldAddr 42 (.tmp 25) 0, none⟩, ⟨some 27, .load 22 (.tmp 26), none⟩, ⟨some 28, .indexAddr 22 (.tmp 27) (.const (.int .i64 0)), none⟩, ⟨some 29, .load 5 (.tmp 28), none⟩, ⟨some 6, .assign (.tmp 29), none⟩]
def K29_26 : Cd := .reg (some ([0, 2, 6])) R29_26
@[simp] theorem W29_26 {Q : Ex → St → Prop} {σ : St} : WPk Tryd.prog K29_26 Q σ = WPl Tryd.prog Q R29_26 (keepQ (some ([0, 2, 6])) Q) σ := rfl
@[simp] def R29_28 : List Op1 := [⟨some 30, .move (.tmp 0), none⟩, ⟨some 31, .nilCheck (.tmp 30), none⟩, ⟨some 32, .fieldAddr 42 (.tmp 31) 0, none⟩, ⟨some 33, .load 22 (.tmp 32), none⟩, ⟨some 34, .slice 22 (.tmp 33) none (some (.const (.int .i64 1))) none, none⟩, ⟨some 35, .convert 22 9 (.tmp 34), none⟩, ⟨some 36, .build 35 #[(0, .const (.int .u8 4)), (1, .tmp 35)], none⟩, ⟨some 37, .buildSlice 22 18 #[(0, .const (.int .u8 40)), (1, .const (.int .u8 41)), (2, .const (.int .u8 123)), (3, .const (.int .u8 125)), (4, .const (.int .u8 91)), (5, .const (.int .u8 93)), (6, .const (.int .u8 44)), (7, .const (.int .u8 59)), (8, .const (.int .u8 46)), (9, .const (.int .u8 61)), (10, .const (.int .u8 43)), (11, .const (.int .u8 45)), (12, .const (.int .u8 42)), (13, .const (.int .u8 47)), (14, .const (.int .u8 37)), (15, .const (.int .u8 60)), (16, .const (.int .u8 62)), (17, .const (.int .u8 33))], none⟩, ⟨some 38, .convert 22 22 (.tmp 37), none⟩, ⟨some 39, .move (.tmp 6), none⟩, ⟨some 40, .call { callee := .value (.func 37), args := #[.tmp 38, .tmp 39], argTypes := #[22, 5] }, none⟩, ⟨some 41, .binOp .geq 3 (.tmp 40) (.const (.int .i64 0)) 3, none⟩, ⟨none, .store 35 (.tmp 2) (.tmp 36), none⟩, ⟨some 3, .assign (.tmp 41), none⟩]
def K29_28 : Cd := .draw ({ live := [2, 3], dms := [{ brw := true }, { brw := true }, { brw := true }, { avoid := [0], brw := true }, { brw := true }, { brw := true }, { brw := true }, { new := some 0, brw := true }, { brw := true }, { brw := true }, { brw := true }, { brw := true }, { brw := true }, { brw := true }], news := 1 }) R29_28
@[simp] theorem W29_28 {Q : Ex → St → Prop} {σ : St} : WPk Tryd.prog K29_28 Q σ = WPk Tryd.prog (.draw ({ live := [2, 3], dms := [{ brw := true }, { brw := true }, { brw := true }, { avoid := [0], brw := true }, { brw := true }, { brw := true }, { brw := true }, { new := some 0, brw := true }, { brw := true }, { brw := true }, { brw := true }, { brw := true }, { brw := true }, { brw := true }], news := 1 }) R29_28) Q σ := rfl
def K29_29 : Cd := .ret
@[simp] theorem W29_29 {Q : Ex → St → Prop} {σ : St} : WPk Tryd.prog K29_29 Q σ = Q .ret σ := rfl
def K29_27 : Cd := .seq K29_28 K29_29
@[simp] theorem W29_27 {Q : Ex → St → Prop} {σ : St} : WPk Tryd.prog K29_27 Q σ = WPk Tryd.prog K29_28 (seqK (WPk Tryd.prog K29_29) Q) σ := WPk_seq
def K29_25 : Cd := .seq K29_26 K29_27
@[simp] theorem W29_25 {Q : Ex → St → Prop} {σ : St} : WPk Tryd.prog K29_25 Q σ = WPk Tryd.prog K29_26 (seqK (WPk Tryd.prog K29_27) Q) σ := WPk_seq
def K29_2 : Cd := .seq K29_3 K29_25
@[simp] theorem W29_2 {Q : Ex → St → Prop} {σ : St} : WPk Tryd.prog K29_2 Q σ = WPk Tryd.prog K29_3 (seqK (WPk Tryd.prog K29_25) Q) σ := WPk_seq
def K29_0 : Cd := .seq K29_1 K29_2
@[simp] theorem W29_0 {Q : Ex → St → Prop} {σ : St} : WPk Tryd.prog K29_0 Q σ = WPk Tryd.prog K29_1 (seqK (WPk Tryd.prog K29_2) Q) σ := WPk_seq
theorem k29 : FnK Tryd.prog 29 (42) ([.cell 2 35, .tmp 3]) K29_0 := ⟨_, _, _, ok29, by kernel_rfl, by kernel_rfl, by kernel_rfl⟩
-- ROOT 29 0 30
@[simp] def R30_1 : List Op1 := [⟨some 4, .assign (.const (.bool false)), none⟩]
def K30_1 : Cd := .reg (some ([0, 1])) R30_1
@[simp] theorem W30_1 {Q : Ex → St → Prop} {σ : St} : WPk Tryd.prog K30_1 Q σ = WPl Tryd.prog Q R30_1 (keepQ (some ([0, 1])) Q) σ := rfl
@[simp] def R30_4 : List Op1 := [⟨some 5, .assign (.const (.int .i64 0)), none⟩]
def K30_4 : Cd := .reg (some ([0, 1, 5])) R30_4
@[simp] theorem W30_4 {Q : Ex → St → Prop} {σ : St} : WPk Tryd.prog K30_4 Q σ = WPl Tryd.prog Q R30_4 (keepQ (some ([0, 1, 5])) Q) σ := rfl
@[simp] def R30_9 : List Op1 := [⟨some 6, .move (.tmp 5), none⟩, ⟨some 7, .move (.tmp 0), none⟩, ⟨some 8, .call { callee := .builtin .len, args := #[.tmp 7], argTypes := #[32] }, none⟩, ⟨some 9, .binOp .lss 3 (.tmp 6) (.tmp 8) 3, none⟩]
def K30_9 : Cd := .reg (some ([0, 1, 5, 9])) R30_9
@[simp] theorem W30_9 {Q : Ex → St → Prop} {σ : St} : WPk Tryd.prog K30_9 Q σ = WPl Tryd.prog Q R30_9 (keepQ (some ([0, 1, 5, 9])) Q) σ := rfl
def K30_11 : Cd := .skip
@[simp] theorem W30_11 {Q : Ex → St → Prop} {σ : St} : WPk Tryd.prog K30_11 Q σ = Q .normal σ := rfl
def K30_12 : Cd := .exit 0
@[simp] theorem W30_12 {Q : Ex → St → Prop} {σ : St} : WPk Tryd.prog K30_12 Q σ = Q (.exit 0) σ := rfl
def K30_10 : Cd := .cond (.tmp 9) K30_11 K30_12
@[simp] theorem W30_10 {Q : Ex → St → Prop} {σ : St} : WPk Tryd.prog K30_10 Q σ = WPk Tryd.prog (.cond (.tmp 9) K30_11 K30_12) Q σ := rfl
def K30_8 : Cd := .seq K30_9 K30_10
@[simp] theorem W30_8 {Q : Ex → St → Prop} {σ : St} : WPk Tryd.prog K30_8 Q σ = WPk Tryd.prog K30_9 (seqK (WPk Tryd.prog K30_10) Q) σ := WPk_seq
@[simp] def R30_16 : List Op1 := [⟨some 12, .move (.tmp 0), none⟩, ⟨some 13, .move (.tmp 5), none⟩, ⟨some 14, .indexAddr 32 (.tmp 12) (.tmp 13), none⟩, ⟨some 15, .load 9 (.tmp 14), none⟩, ⟨some 16, .move (.tmp 1), none⟩, ⟨some 17, .binOp .eql 9 (.tmp 15) (.tmp 16) 9, none⟩]
def K30_16 : Cd := .reg (some ([0, 1, 5, 17])) R30_16
@[simp] theorem W30_16 {Q : Ex → St → Prop} {σ : St} : WPk Tryd.prog K30_16 Q σ = WPl Tryd.prog Q R30_16 (keepQ (some ([0, 1, 5, 17])) Q) σ := rfl
@[simp] def R30_19 : List Op1 := [⟨some 4, .assign (.const (.bool true)), none⟩]
def K30_19 : Cd := .reg (some ([4])) R30_19
@[simp] theorem W30_19 {Q : Ex → St → Prop} {σ : St} : WPk Tryd.prog K30_19 Q σ = WPl Tryd.prog Q R30_19 (keepQ (some ([4])) Q) σ := rfl
def K30_20 : Cd := .ret
@[simp] theorem W30_20 {Q : Ex → St → Prop} {σ : St} : WPk Tryd.prog K30_20 Q σ = Q .ret σ := rfl
def K30_18 : Cd := .seq K30_19 K30_20
@[simp] theorem W30_18 {Q : Ex → St → Prop} {σ : St} : WPk Tryd.prog K30_18 Q σ = WPk Tryd.prog K30_19 (seqK (WPk Tryd.prog K30_20) Q) σ := WPk_seq
def K30_21 : Cd := .skip
@[simp] theorem W30_21 {Q : Ex → St → Prop} {σ : St} : WPk Tryd.prog K30_21 Q σ = Q .normal σ := rfl
def K30_17 : Cd := .cond (.tmp 17) K30_18 K30_21
@[simp] theorem W30_17 {Q : Ex → St → Prop} {σ : St} : WPk Tryd.prog K30_17 Q σ = WPk Tryd.prog (.cond (.tmp 17) K30_18 K30_21) Q σ := rfl
def K30_15 : Cd := .seq K30_16 K30_17
@[simp] theorem W30_15 {Q : Ex → St → Prop} {σ : St} : WPk Tryd.prog K30_15 Q σ = WPk Tryd.prog K30_16 (seqK (WPk Tryd.prog K30_17) Q) σ := WPk_seq
def K30_14 : Cd := .block 1 K30_15
@[simp] theorem W30_14 {Q : Ex → St → Prop} {σ : St} : WPk Tryd.prog K30_14 Q σ = WPk Tryd.prog K30_15 (blkQ 1 Q) σ := rfl
@[simp] def R30_22 : List Op1 := [⟨some 10, .move (.tmp 5), none⟩, ⟨some 11, .binOp .add 3 (.tmp 10) (.const (.int .i64 1)) 3, none⟩, ⟨some 5, .assign (.tmp 11), none⟩]
def K30_22 : Cd := .reg (some ([0, 1, 5])) R30_22
@[simp] theorem W30_22 {Q : Ex → St → Prop} {σ : St} : WPk Tryd.prog K30_22 Q σ = WPl Tryd.prog Q R30_22 (keepQ (some ([0, 1, 5])) Q) σ := rfl
def K30_13 : Cd := .seq K30_14 K30_22
@[simp] theorem W30_13 {Q : Ex → St → Prop} {σ : St} : WPk Tryd.prog K30_13 Q σ = WPk Tryd.prog K30_14 (seqK (WPk Tryd.prog K30_22) Q) σ := WPk_seq
def K30_7 : Cd := .seq K30_8 K30_13
@[simp] theorem W30_7 {Q : Ex → St → Prop} {σ : St} : WPk Tryd.prog K30_7 Q σ = WPk Tryd.prog K30_8 (seqK (WPk Tryd.prog K30_13) Q) σ := WPk_seq
def K30_6 : Cd := .loop K30_7
@[simp] theorem W30_6 {Q : Ex → St → Prop} {σ : St} : WPk Tryd.prog K30_6 Q σ = WPk Tryd.prog (.loop K30_7) Q σ := rfl
def K30_5 : Cd := .block 0 K30_6
@[simp] theorem W30_5 {Q : Ex → St → Prop} {σ : St} : WPk Tryd.prog K30_5 Q σ = WPk Tryd.prog K30_6 (blkQ 0 Q) σ := rfl
def K30_3 : Cd := .seq K30_4 K30_5
@[simp] theorem W30_3 {Q : Ex → St → Prop} {σ : St} : WPk Tryd.prog K30_3 Q σ = WPk Tryd.prog K30_4 (seqK (WPk Tryd.prog K30_5) Q) σ := WPk_seq
@[simp] def R30_24 : List Op1 := [⟨some 4, .assign (.const (.bool false)), none⟩]
def K30_24 : Cd := .reg (some ([4])) R30_24
@[simp] theorem W30_24 {Q : Ex → St → Prop} {σ : St} : WPk Tryd.prog K30_24 Q σ = WPl Tryd.prog Q R30_24 (keepQ (some ([4])) Q) σ := rfl
def K30_25 : Cd := .ret
@[simp] theorem W30_25 {Q : Ex → St → Prop} {σ : St} : WPk Tryd.prog K30_25 Q σ = Q .ret σ := rfl
def K30_23 : Cd := .seq K30_24 K30_25
@[simp] theorem W30_23 {Q : Ex → St → Prop} {σ : St} : WPk Tryd.prog K30_23 Q σ = WPk Tryd.prog K30_24 (seqK (WPk Tryd.prog K30_25) Q) σ := WPk_seq
def K30_2 : Cd := .seq K30_3 K30_23
@[simp] theorem W30_2 {Q : Ex → St → Prop} {σ : St} : WPk Tryd.prog K30_2 Q σ = WPk Tryd.prog K30_3 (seqK (WPk Tryd.prog K30_23) Q) σ := WPk_seq
def K30_0 : Cd := .seq K30_1 K30_2
@[simp] theorem W30_0 {Q : Ex → St → Prop} {σ : St} : WPk Tryd.prog K30_0 Q σ = WPk Tryd.prog K30_1 (seqK (WPk Tryd.prog K30_2) Q) σ := WPk_seq
theorem k30 : FnK Tryd.prog 30 (18) ([.tmp 4]) K30_0 := ⟨_, _, _, ok30, by kernel_rfl, by kernel_rfl, by kernel_rfl⟩
-- ROOT 30 0 26
@[simp] def R31_1 : List Op1 := [⟨some 0, .assign (.const (.slice none 0 0)), none⟩]
def K31_1 : Cd := .reg (some ([])) R31_1
@[simp] theorem W31_1 {Q : Ex → St → Prop} {σ : St} : WPk Tryd.prog K31_1 Q σ = WPl Tryd.prog Q R31_1 (keepQ (some ([])) Q) σ := rfl
@[simp] def R31_3 : List Op1 := [⟨some 1, .buildSlice 32 14 #[(0, .const (.string { data := #[116, 121, 112, 101] })), (1, .const (.string { data := #[115, 116, 114, 117, 99, 116] })), (2, .const (.string { data := #[102, 117, 110, 99] })), (3, .const (.string { data := #[118, 97, 114] })), (4, .const (.string { data := #[105, 102] })), (5, .const (.string { data := #[101, 108, 115, 101] })), (6, .const (.string { data := #[102, 111, 114] })), (7, .const (.string { data := #[114, 101, 116, 117, 114, 110] })), (8, .const (.string { data := #[112, 114, 105, 110, 116] })), (9, .const (.string { data := #[105, 110, 112, 117, 116] })), (10, .const (.string { data := #[105, 110, 116] })), (11, .const (.string { data := #[98, 111, 111, 108] })), (12, .const (.string { data := #[116, 114, 117, 101] })), (13, .const (.string { data := #[102, 97, 108, 115, 101] }))], none⟩, ⟨some 0, .assign (.tmp 1), none⟩]
def K31_3 : Cd := .reg (some ([0])) R31_3
@[simp] theorem W31_3 {Q : Ex → St → Prop} {σ : St} : WPk Tryd.prog K31_3 Q σ = WPl Tryd.prog Q R31_3 (keepQ (some ([0])) Q) σ := rfl
def K31_4 : Cd := .ret
@[simp] theorem W31_4 {Q : Ex → St → Prop} {σ : St} : WPk Tryd.prog K31_4 Q σ = Q .ret σ := rfl
def K31_2 : Cd := .seq K31_3 K31_4
@[simp] theorem W31_2 {Q : Ex → St → Prop} {σ : St} : WPk Tryd.prog K31_2 Q σ = WPk Tryd.prog K31_3 (seqK (WPk Tryd.prog K31_4) Q) σ := WPk_seq
def K31_0 : Cd := .seq K31_1 K31_2
@[simp] theorem W31_0 {Q : Ex → St → Prop} {σ : St} : WPk Tryd.prog K31_0 Q σ = WPk Tryd.prog K31_1 (seqK (WPk Tryd.prog K31_2) Q) σ := WPk_seq
theorem k31 : FnK Tryd.prog 31 (2) ([.tmp 0]) K31_0 := ⟨_, _, _, ok31, by kernel_rfl, by kernel_rfl, by kernel_rfl⟩
-- ROOT 31 0 5
@[simp] def R32_1 : List Op1 := [⟨some 2, .assign (.const (.int .i64 0)), none⟩, ⟨some 3, .assign (.const (.bool false)), none⟩]
def K32_1 : Cd := .reg (some ([0])) R32_1
@[simp] theorem W32_1 {Q : Ex → St → Prop} {σ : St} : WPk Tryd.prog K32_1 Q σ = WPl Tryd.prog Q R32_1 (keepQ (some ([0])) Q) σ := rfl
@[simp] def R32_3 : List Op1 := [⟨some 4, .assign (.const (.int .i64 0)), none⟩]
def K32_3 : Cd := .reg (some ([0, 4])) R32_3
@[simp] theorem W32_3 {Q : Ex → St → Prop} {σ : St} : WPk Tryd.prog K32_3 Q σ = WPl Tryd.prog Q R32_3 (keepQ (some ([0, 4])) Q) σ := rfl
@[simp] def R32_6 : List Op1 := [⟨some 5, .assign (.const (.int .i64 0)), none⟩]
def K32_6 : Cd := .reg (some ([0, 4, 5])) R32_6
@[simp] theorem W32_6 {Q : Ex → St → Prop} {σ : St} : WPk Tryd.prog K32_6 Q σ = WPl Tryd.prog Q R32_6 (keepQ (some ([0, 4, 5])) Q) σ := rfl
@[simp] def R32_11 : List Op1 := [⟨some 7, .move (.tmp 5), none⟩, ⟨some 8, .move (.tmp 0), none⟩, ⟨some 9, .call { callee := .builtin .len, args := #[.tmp 8], argTypes := #[9] }, none⟩, ⟨some 10, .binOp .lss 3 (.tmp 7) (.tmp 9) 3, none⟩]
def K32_11 : Cd := .reg (some ([0, 4, 5, 10])) R32_11
@[simp] theorem W32_11 {Q : Ex → St → Prop} {σ : St} : WPk Tryd.prog K32_11 Q σ = WPl Tryd.prog Q R32_11 (keepQ (some ([0, 4, 5, 10])) Q) σ := rfl
def K32_13 : Cd := .skip
@[simp] theorem W32_13 {Q : Ex → St → Prop} {σ : St} : WPk Tryd.prog K32_13 Q σ = Q .normal σ := rfl
def K32_14 : Cd := .exit 0
@[simp] theorem W32_14 {Q : Ex → St → Prop} {σ : St} : WPk Tryd.prog K32_14 Q σ = Q (.exit 0) σ := rfl
def K32_12 : Cd := .cond (.tmp 10) K32_13 K32_14
@[simp] theorem W32_12 {Q : Ex → St → Prop} {σ : St} : WPk Tryd.prog K32_12 Q σ = WPk Tryd.prog (.cond (.tmp 10) K32_13 K32_14) Q σ := rfl
def K32_10 : Cd := .seq K32_11 K32_12
@[simp] theorem W32_10 {Q : Ex → St → Prop} {σ : St} : WPk Tryd.prog K32_10 Q σ = WPk Tryd.prog K32_11 (seqK (WPk Tryd.prog K32_12) Q) σ := WPk_seq
@[simp] def R32_18 : List Op1 := [⟨some 13, .move (.tmp 0), none⟩, ⟨some 14, .move (.tmp 5), none⟩, ⟨some 15, .index 9 (.tmp 13) (.tmp 14), none⟩, ⟨some 16, .binOp .sub 5 (.tmp 15) (.const (.int .u8 48)) 5, none⟩, ⟨some 17, .convert 5 2 (.tmp 16), none⟩, ⟨some 6, .assign (.tmp 17), none⟩]
def K32_18 : Cd := .reg (some ([0, 4, 5, 6])) R32_18
@[simp] theorem W32_18 {Q : Ex → St → Prop} {σ : St} : WPk Tryd.prog K32_18 Q σ = WPl Tryd.prog Q R32_18 (keepQ (some ([0, 4, 5, 6])) Q) σ := rfl
@[simp] def R32_21 : List Op1 := [⟨some 18, .move (.tmp 4), none⟩, ⟨some 19, .move (.tmp 6), none⟩, ⟨some 20, .binOp .sub 2 (.const (.int .i64 9223372036854775807)) (.tmp 19) 2, none⟩, ⟨some 21, .binOp .quo 2 (.tmp 20) (.const (.int .i64 10)) 2, none⟩, ⟨some 22, .binOp .gtr 2 (.tmp 18) (.tmp 21) 2, none⟩]
def K32_21 : Cd := .reg (some ([0, 4, 5, 6, 22])) R32_21
@[simp] theorem W32_21 {Q : Ex → St → Prop} {σ : St} : WPk Tryd.prog K32_21 Q σ = WPl Tryd.prog Q R32_21 (keepQ (some ([0, 4, 5, 6, 22])) Q) σ := rfl
@[simp] def R32_24 : List Op1 := [⟨some 2, .assign (.const (.int .i64 0)), none⟩, ⟨some 3, .assign (.const (.bool false)), none⟩]
def K32_24 : Cd := .reg (some ([2, 3])) R32_24
@[simp] theorem W32_24 {Q : Ex → St → Prop} {σ : St} : WPk Tryd.prog K32_24 Q σ = WPl Tryd.prog Q R32_24 (keepQ (some ([2, 3])) Q) σ := rfl
def K32_25 : Cd := .ret
@[simp] theorem W32_25 {Q : Ex → St → Prop} {σ : St} : WPk Tryd.prog K32_25 Q σ = Q .ret σ := rfl
def K32_23 : Cd := .seq K32_24 K32_25
@[simp] theorem W32_23 {Q : Ex → St → Prop} {σ : St} : WPk Tryd.prog K32_23 Q σ = WPk Tryd.prog K32_24 (seqK (WPk Tryd.prog K32_25) Q) σ := WPk_seq
def K32_26 : Cd := .skip
@[simp] theorem W32_26 {Q : Ex → St → Prop} {σ : St} : WPk Tryd.prog K32_26 Q σ = Q .normal σ := rfl
def K32_22 : Cd := .cond (.tmp 22) K32_23 K32_26
@[simp] theorem W32_22 {Q : Ex → St → Prop} {σ : St} : WPk Tryd.prog K32_22 Q σ = WPk Tryd.prog (.cond (.tmp 22) K32_23 K32_26) Q σ := rfl
def K32_20 : Cd := .seq K32_21 K32_22
@[simp] theorem W32_20 {Q : Ex → St → Prop} {σ : St} : WPk Tryd.prog K32_20 Q σ = WPk Tryd.prog K32_21 (seqK (WPk Tryd.prog K32_22) Q) σ := WPk_seq
@[simp] def R32_27 : List Op1 := [⟨some 23, .move (.tmp 4), none⟩, ⟨some 24, .binOp .mul 2 (.const (.int .i64 10)) (.tmp 23) 2, none⟩, ⟨some 25, .move (.tmp 6), none⟩, ⟨some 26, .binOp .add 2 (.tmp 24) (.tmp 25) 2, none⟩, ⟨some 4, .assign (.tmp 26), none⟩]
def K32_27 : Cd := .reg (some ([0, 4, 5])) R32_27
@[simp] theorem W32_27 {Q : Ex → St → Prop} {σ : St} : WPk Tryd.prog K32_27 Q σ = WPl Tryd.prog Q R32_27 (keepQ (some ([0, 4, 5])) Q) σ := rfl
def K32_19 : Cd := .seq K32_20 K32_27
@[simp] theorem W32_19 {Q : Ex → St → Prop} {σ : St} : WPk Tryd.prog K32_19 Q σ = WPk Tryd.prog K32_20 (seqK (WPk Tryd.prog K32_27) Q) σ := WPk_seq
def K32_17 : Cd := .seq K32_18 K32_19
@[simp] theorem W32_17 {Q : Ex → St → Prop} {σ : St} : WPk Tryd.prog K32_17 Q σ = WPk Tryd.prog K32_18 (seqK (WPk Tryd.prog K32_19) Q) σ := WPk_seq
def K32_16 : Cd := .block 1 K32_17
@[simp] theorem W32_16 {Q : Ex → St → Prop} {σ : St} : WPk Tryd.prog K32_16 Q σ = WPk Tryd.prog K32_17 (blkQ 1 Q) σ := rfl
@[simp] def R32_28 : List Op1 := [⟨some 11, .move (.tmp 5), none⟩, ⟨some 12, .binOp .add 3 (.tmp 11) (.const (.int .i64 1)) 3, none⟩, ⟨some 5, .assign (.tmp 12), none⟩]
def K32_28 : Cd := .reg (some ([0, 4, 5])) R32_28
@[simp] theorem W32_28 {Q : Ex → St → Prop} {σ : St} : WPk Tryd.prog K32_28 Q σ = WPl Tryd.prog Q R32_28 (keepQ (some ([0, 4, 5])) Q) σ := rfl
def K32_15 : Cd := .seq K32_16 K32_28
@[simp] theorem W32_15 {Q : Ex → St → Prop} {σ : St} : WPk Tryd.prog K32_15 Q σ = WPk Tryd.prog K32_16 (seqK (WPk Tryd.prog K32_28) Q) σ := WPk_seq
def K32_9 : Cd := .seq K32_10 K32_15
@[simp] theorem W32_9 {Q : Ex → St → Prop} {σ : St} : WPk Tryd.prog K32_9 Q σ = WPk Tryd.prog K32_10 (seqK (WPk Tryd.prog K32_15) Q) σ := WPk_seq
def K32_8 : Cd := .loop K32_9
@[simp] theorem W32_8 {Q : Ex → St → Prop} {σ : St} : WPk Tryd.prog K32_8 Q σ = WPk Tryd.prog (.loop K32_9) Q σ := rfl
def K32_7 : Cd := .block 0 K32_8
@[simp] theorem W32_7 {Q : Ex → St → Prop} {σ : St} : WPk Tryd.prog K32_7 Q σ = WPk Tryd.prog K32_8 (blkQ 0 Q) σ := rfl
def K32_5 : Cd := .seq K32_6 K32_7
@[simp] theorem W32_5 {Q : Ex → St → Prop} {σ : St} : WPk Tryd.prog K32_5 Q σ = WPk Tryd.prog K32_6 (seqK (WPk Tryd.prog K32_7) Q) σ := WPk_seq
@[simp] def R32_30 : List Op1 := [⟨some 27, .move (.tmp 4), none⟩, ⟨some 28, .move (.tmp 0), none⟩, ⟨some 29, .call { callee := .builtin .len, args := #[.tmp 28], argTypes := #[9] }, none⟩, ⟨some 30, .binOp .eql 3 (.tmp 29) (.const (.int .i64 1)) 3, none⟩, ⟨some 31, .move (.tmp 30), none⟩, ⟨some 32, .move (.tmp 0), some (31, false)⟩, ⟨some 33, .index 9 (.tmp 32) (.const (.int .i64 0)), some (31, false)⟩, ⟨some 34, .binOp .neq 5 (.tmp 33) (.const (.int .u8 48)) 5, some (31, false)⟩, ⟨some 35, .pick (.tmp 31) (.const (.bool true)) (.tmp 34), none⟩, ⟨some 2, .assign (.tmp 27), none⟩, ⟨some 3, .assign (.tmp 35), none⟩]
def K32_30 : Cd := .draw ({ live := [2, 3], dms := [{ brw := true }, { brw := true }, { brw := true }, { brw := true }, { brw := true }, { brw := true }, { brw := true }, { brw := true }, { brw := true }, { brw := true }, { brw := true }] }) R32_30
@[simp] theorem W32_30 {Q : Ex → St → Prop} {σ : St} : WPk Tryd.prog K32_30 Q σ = WPk Tryd.prog (.draw ({ live := [2, 3], dms := [{ brw := true }, { brw := true }, { brw := true }, { brw := true }, { brw := true }, { brw := true }, { brw := true }, { brw := true }, { brw := true }, { brw := true }, { brw := true }] }) R32_30) Q σ := rfl
def K32_31 : Cd := .ret
@[simp] theorem W32_31 {Q : Ex → St → Prop} {σ : St} : WPk Tryd.prog K32_31 Q σ = Q .ret σ := rfl
def K32_29 : Cd := .seq K32_30 K32_31
@[simp] theorem W32_29 {Q : Ex → St → Prop} {σ : St} : WPk Tryd.prog K32_29 Q σ = WPk Tryd.prog K32_30 (seqK (WPk Tryd.prog K32_31) Q) σ := WPk_seq
def K32_4 : Cd := .seq K32_5 K32_29
@[simp] theorem W32_4 {Q : Ex → St → Prop} {σ : St} : WPk Tryd.prog K32_4 Q σ = WPk Tryd.prog K32_5 (seqK (WPk Tryd.prog K32_29) Q) σ := WPk_seq
def K32_2 : Cd := .seq K32_3 K32_4
@[simp] theorem W32_2 {Q : Ex → St → Prop} {σ : St} : WPk Tryd.prog K32_2 Q σ = WPk Tryd.prog K32_3 (seqK (WPk Tryd.prog K32_4) Q) σ := WPk_seq
def K32_0 : Cd := .seq K32_1 K32_2
@[simp] theorem W32_0 {Q : Ex → St → Prop} {σ : St} : WPk Tryd.prog K32_0 Q σ = WPk Tryd.prog K32_1 (seqK (WPk Tryd.prog K32_2) Q) σ := WPk_seq
theorem k32 : FnK Tryd.prog 32 (36) ([.tmp 2, .tmp 3]) K32_0 := ⟨_, _, _, ok32, by kernel_rfl, by kernel_rfl, by kernel_rfl⟩
-- ROOT 32 0 32
@[simp] def R33_1 : List Op1 := [⟨some 0, .assign (.const (.slice none 0 0)), none⟩]
def K33_1 : Cd := .reg (some ([])) R33_1
@[simp] theorem W33_1 {Q : Ex → St → Prop} {σ : St} : WPk Tryd.prog K33_1 Q σ = WPl Tryd.prog Q R33_1 (keepQ (some ([])) Q) σ := rfl
@[simp] def R33_3 : List Op1 := [⟨some 1, .buildSlice 32 24 #[(0, .const (.string { data := #[38, 38] })), (1, .const (.string { data := #[124, 124] })), (2, .const (.string { data := #[61, 61] })), (3, .const (.string { data := #[33, 61] })), (4, .const (.string { data := #[60, 61] })), (5, .const (.string { data := #[62, 61] })), (6, .const (.string { data := #[40] })), (7, .const (.string { data := #[41] })), (8, .const (.string { data := #[123] })), (9, .const (.string { data := #[125] })), (10, .const (.string { data := #[91] })), (11, .const (.string { data := #[93] })), (12, .const (.string { data := #[44] })), (13, .const (.string { data := #[59] })), (14, .const (.string { data := #[46] })), (15, .const (.string { data := #[61] })), (16, .const (.string { data := #[43] })), (17, .const (.string { data := #[45] })), (18, .const (.string { data := #[42] })), (19, .const (.string { data := #[47] })), (20, .const (.string { data := #[37] })), (21, .const (.string { data := #[60] })), (22, .const (.string { data := #[62] })), (23, .const (.string { data := #[33] }))], none⟩, ⟨some 0, .assign (.tmp 1), none⟩]
def K33_3 : Cd := .reg (some ([0])) R33_3
@[simp] theorem W33_3 {Q : Ex → St → Prop} {σ : St} : WPk Tryd.prog K33_3 Q σ = WPl Tryd.prog Q R33_3 (keepQ (some ([0])) Q) σ := rfl
def K33_4 : Cd := .ret
@[simp] theorem W33_4 {Q : Ex → St → Prop} {σ : St} : WPk Tryd.prog K33_4 Q σ = Q .ret σ := rfl
def K33_2 : Cd := .seq K33_3 K33_4
@[simp] theorem W33_2 {Q : Ex → St → Prop} {σ : St} : WPk Tryd.prog K33_2 Q σ = WPk Tryd.prog K33_3 (seqK (WPk Tryd.prog K33_4) Q) σ := WPk_seq
def K33_0 : Cd := .seq K33_1 K33_2
@[simp] theorem W33_0 {Q : Ex → St → Prop} {σ : St} : WPk Tryd.prog K33_0 Q σ = WPk Tryd.prog K33_1 (seqK (WPk Tryd.prog K33_2) Q) σ := WPk_seq
theorem k33 : FnK Tryd.prog 33 (2) ([.tmp 0]) K33_0 := ⟨_, _, _, ok33, by kernel_rfl, by kernel_rfl, by kernel_rfl⟩
-- ROOT 33 0 5
@[simp] def R34_1 : List Op1 := [⟨some 4, .assign (.const (.bool false)), none⟩]
def K34_1 : Cd := .reg (some ([0, 1])) R34_1
@[simp] theorem W34_1 {Q : Ex → St → Prop} {σ : St} : WPk Tryd.prog K34_1 Q σ = WPl Tryd.prog Q R34_1 (keepQ (some ([0, 1])) Q) σ := rfl
@[simp] def R34_3 : List Op1 := [⟨some 5, .move (.tmp 0), none⟩, ⟨some 6, .convert 22 9 (.tmp 5), none⟩, ⟨some 7, .move (.tmp 1), none⟩, ⟨some 8, .convert 22 9 (.tmp 7), none⟩, ⟨some 9, .binOp .eql 9 (.tmp 6) (.tmp 8) 9, none⟩, ⟨some 4, .assign (.tmp 9), none⟩]
def K34_3 : Cd := .reg (some ([4])) R34_3
@[simp] theorem W34_3 {Q : Ex → St → Prop} {σ : St} : WPk Tryd.prog K34_3 Q σ = WPl Tryd.prog Q R34_3 (keepQ (some ([4])) Q) σ := rfl
def K34_4 : Cd := .ret
@[simp] theorem W34_4 {Q : Ex → St → Prop} {σ : St} : WPk Tryd.prog K34_4 Q σ = Q .ret σ := rfl
def K34_2 : Cd := .seq K34_3 K34_4
@[simp] theorem W34_2 {Q : Ex → St → Prop} {σ : St} : WPk Tryd.prog K34_2 Q σ = WPk Tryd.prog K34_3 (seqK (WPk Tryd.prog K34_4) Q) σ := WPk_seq
def K34_0 : Cd := .seq K34_1 K34_2
@[simp] theorem W34_0 {Q : Ex → St → Prop} {σ : St} : WPk Tryd.prog K34_0 Q σ = WPk Tryd.prog K34_1 (seqK (WPk Tryd.prog K34_2) Q) σ := WPk_seq
theorem k34 : FnK Tryd.prog 34 (10) ([.tmp 4]) K34_0 := ⟨_, _, _, ok34, by kernel_rfl, by kernel_rfl, by kernel_rfl⟩
-- ROOT 34 0 5
@[simp] def R35_1 : List Op1 := [⟨some 2, .assign (.const (.bool false)), none⟩]
def K35_1 : Cd := .reg (some ([0])) R35_1
@[simp] theorem W35_1 {Q : Ex → St → Prop} {σ : St} : WPk Tryd.prog K35_1 Q σ = WPl Tryd.prog Q R35_1 (keepQ (some ([0])) Q) σ := rfl
@[simp] def R35_3 : List Op1 := [⟨some 3, .move (.tmp 0), none⟩, ⟨some 4, .call { callee := .value (.func 25), args := #[.tmp 3], argTypes := #[5] }, none⟩, ⟨some 5, .move (.tmp 4), none⟩, ⟨some 6, .move (.tmp 0), some (5, false)⟩, ⟨some 7, .call { callee := .value (.func 27), args := #[.tmp 6], argTypes := #[5] }, some (5, false)⟩, ⟨some 8, .pick (.tmp 5) (.const (.bool true)) (.tmp 7), none⟩, ⟨some 2, .assign (.tmp 8), none⟩]
def K35_3 : Cd := .reg (some ([2])) R35_3
@[simp] theorem W35_3 {Q : Ex → St → Prop} {σ : St} : WPk Tryd.prog K35_3 Q σ = WPl Tryd.prog Q R35_3 (keepQ (some ([2])) Q) σ := rfl
def K35_4 : Cd := .ret
@[simp] theorem W35_4 {Q : Ex → St → Prop} {σ : St} : WPk Tryd.prog K35_4 Q σ = Q .ret σ := rfl
def K35_2 : Cd := .seq K35_3 K35_4
@[simp] theorem W35_2 {Q : Ex → St → Prop} {σ : St} : WPk Tryd.prog K35_2 Q σ = WPk Tryd.prog K35_3 (seqK (WPk Tryd.prog K35_4) Q) σ := WPk_seq
def K35_0 : Cd := .seq K35_1 K35_2
@[simp] theorem W35_0 {Q : Ex → St → Prop} {σ : St} : WPk Tryd.prog K35_0 Q σ = WPk Tryd.prog K35_1 (seqK (WPk Tryd.prog K35_2) Q) σ := WPk_seq
theorem k35 : FnK Tryd.prog 35 (9) ([.tmp 2]) K35_0 := ⟨_, _, _, ok35, by kernel_rfl, by kernel_rfl, by kernel_rfl⟩
-- ROOT 35 0 5

end Go.Proofs.YtoplaknmmglagaaDoor.T
