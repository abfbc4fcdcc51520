/-
law11: what the kernel tells of types; remarks on regions; each function's text is fit for the calculus.
-/
import Derived.Test.YtoplaknmmglagaaDoorProg
import Derived.Test.YtoplaknmmglagaaDoorAX19
import Derived.KernelRfl
set_option linter.unusedVariables false
namespace Go.Proofs.YtoplaknmmglagaaDoor.T
open Go Go.AX

instance glT : GL Tryd.prog := ⟨fun g => if g = 2 then .iptr [.ifc 74 .dead] else .dead⟩

theorem sl22 : sliceT Tryd.prog 22 = true := by kernel_rfl
theorem st22 : strT Tryd.prog 22 = false := by kernel_rfl
theorem mp22 : mapT Tryd.prog 22 = false := by kernel_rfl
theorem bo3 : boolT Tryd.prog 3 = false := by kernel_rfl
theorem sl3 : sliceT Tryd.prog 3 = false := by kernel_rfl
theorem st3 : strT Tryd.prog 3 = false := by kernel_rfl
theorem mp3 : mapT Tryd.prog 3 = false := by kernel_rfl
theorem bo26 : boolT Tryd.prog 26 = false := by kernel_rfl
theorem sl26 : sliceT Tryd.prog 26 = false := by kernel_rfl
theorem st26 : strT Tryd.prog 26 = false := by kernel_rfl
theorem mp26 : mapT Tryd.prog 26 = false := by kernel_rfl
theorem el22 : elT Tryd.prog 22 = some 5 := by kernel_rfl
theorem sz5 : szT Tryd.prog 5 = some 1 := by kernel_rfl
theorem ag5 : aggT Tryd.prog 5 = some false := by kernel_rfl
theorem sl25 : sliceT Tryd.prog 25 = true := by kernel_rfl
theorem st25 : strT Tryd.prog 25 = false := by kernel_rfl
theorem mp25 : mapT Tryd.prog 25 = false := by kernel_rfl
theorem el32 : elT Tryd.prog 32 = some 9 := by kernel_rfl
theorem sz9 : szT Tryd.prog 9 = some 1 := by kernel_rfl
theorem ze9 : zeroT Tryd.prog 9 = some [.str ⟨#[]⟩] := by kernel_rfl
theorem ag9 : aggT Tryd.prog 9 = some false := by kernel_rfl
theorem in3 : intT Tryd.prog 3 = some .i64 := by kernel_rfl
theorem us5 : (Tryd.prog.underlying 5).isSome = true := by kernel_rfl
theorem sl32 : sliceT Tryd.prog 32 = true := by kernel_rfl
theorem st32 : strT Tryd.prog 32 = false := by kernel_rfl
theorem mp32 : mapT Tryd.prog 32 = false := by kernel_rfl
theorem ze5 : zeroT Tryd.prog 5 = some [.int .u8 0] := by kernel_rfl
theorem by5 : byT Tryd.prog 5 = some 1 := by kernel_rfl
theorem sl9 : sliceT Tryd.prog 9 = false := by kernel_rfl
theorem st9 : strT Tryd.prog 9 = true := by kernel_rfl
theorem mp9 : mapT Tryd.prog 9 = false := by kernel_rfl
theorem bo5 : boolT Tryd.prog 5 = false := by kernel_rfl
theorem sl5 : sliceT Tryd.prog 5 = false := by kernel_rfl
theorem st5 : strT Tryd.prog 5 = false := by kernel_rfl
theorem mp5 : mapT Tryd.prog 5 = false := by kernel_rfl
theorem el33 : elT Tryd.prog 33 = some 3 := by kernel_rfl
theorem sz3 : szT Tryd.prog 3 = some 1 := by kernel_rfl
theorem ze3 : zeroT Tryd.prog 3 = some [.int .i64 0] := by kernel_rfl
theorem by3 : byT Tryd.prog 3 = some 8 := by kernel_rfl
theorem sl33 : sliceT Tryd.prog 33 = true := by kernel_rfl
theorem st33 : strT Tryd.prog 33 = false := by kernel_rfl
theorem mp33 : mapT Tryd.prog 33 = false := by kernel_rfl
theorem el25 : elT Tryd.prog 25 = some 35 := by kernel_rfl
theorem sz35 : szT Tryd.prog 35 = some 4 := by kernel_rfl
theorem fd35_1 : fldT Tryd.prog 35 1 = some (1, 9) := by kernel_rfl
theorem fd35_3 : fldT Tryd.prog 35 3 = some (3, 3) := by kernel_rfl
theorem ag3 : aggT Tryd.prog 3 = some false := by kernel_rfl
theorem ag35 : aggT Tryd.prog 35 = some true := by kernel_rfl
theorem ze35 : zeroT Tryd.prog 35 = some [.int .u8 0, .str ⟨#[]⟩, .int .i64 0, .int .i64 0] := by kernel_rfl
theorem bo9 : boolT Tryd.prog 9 = false := by kernel_rfl
theorem in9 : intT Tryd.prog 9 = none := by kernel_rfl
theorem us22 : (Tryd.prog.underlying 22).isSome = true := by kernel_rfl
theorem bt22 : bytT Tryd.prog 22 = true := by kernel_rfl
theorem bt9 : bytT Tryd.prog 9 = false := by kernel_rfl
theorem bo36 : boolT Tryd.prog 36 = false := by kernel_rfl
theorem sl36 : sliceT Tryd.prog 36 = false := by kernel_rfl
theorem st36 : strT Tryd.prog 36 = false := by kernel_rfl
theorem mp36 : mapT Tryd.prog 36 = false := by kernel_rfl
theorem in36 : intT Tryd.prog 36 = some .u64 := by kernel_rfl
theorem fd35_0 : fldT Tryd.prog 35 0 = some (0, 5) := by kernel_rfl
theorem fd35_2 : fldT Tryd.prog 35 2 = some (2, 2) := by kernel_rfl
theorem sz2 : szT Tryd.prog 2 = some 1 := by kernel_rfl
theorem ag2 : aggT Tryd.prog 2 = some false := by kernel_rfl
theorem bo2 : boolT Tryd.prog 2 = false := by kernel_rfl
theorem sl2 : sliceT Tryd.prog 2 = false := by kernel_rfl
theorem st2 : strT Tryd.prog 2 = false := by kernel_rfl
theorem mp2 : mapT Tryd.prog 2 = false := by kernel_rfl
theorem us2 : (Tryd.prog.underlying 2).isSome = true := by kernel_rfl
theorem in22 : intT Tryd.prog 22 = none := by kernel_rfl
theorem ze42 : zeroT Tryd.prog 42 = some [.nils, .int .i64 0, .nilm] := by kernel_rfl
theorem pl42 : placesT Tryd.prog 42 = some [(0, 1), (1, 1), (2, 1)] := by kernel_rfl
theorem fd42_0 : fldT Tryd.prog 42 0 = some (0, 22) := by kernel_rfl
theorem sz22 : szT Tryd.prog 22 = some 1 := by kernel_rfl
theorem ag22 : aggT Tryd.prog 22 = some false := by kernel_rfl
theorem fd42_1 : fldT Tryd.prog 42 1 = some (1, 3) := by kernel_rfl
theorem by35 : byT Tryd.prog 35 = some 40 := by kernel_rfl
theorem in5 : intT Tryd.prog 5 = some .u8 := by kernel_rfl
theorem us3 : (Tryd.prog.underlying 3).isSome = true := by kernel_rfl
theorem fl35 : flatT Tryd.prog 35 = some [1, 3, 1, 1] := by kernel_rfl
theorem bo35 : boolT Tryd.prog 35 = false := by kernel_rfl
theorem sl35 : sliceT Tryd.prog 35 = false := by kernel_rfl
theorem st35 : strT Tryd.prog 35 = false := by kernel_rfl
theorem mp35 : mapT Tryd.prog 35 = false := by kernel_rfl
theorem mp39 : mapT Tryd.prog 39 = true := by kernel_rfl
theorem ky39 : keyT Tryd.prog 39 = some (3, 3) := by kernel_rfl
theorem zx3 : zeroX Tryd.prog 3 = some (.int .i64 0) := by kernel_rfl
theorem pl35 : placesT Tryd.prog 35 = some [(0, 1), (1, 1), (2, 1), (3, 1)] := by kernel_rfl
theorem fd42_2 : fldT Tryd.prog 42 2 = some (2, 39) := by kernel_rfl
theorem sz39 : szT Tryd.prog 39 = some 1 := by kernel_rfl
theorem ag39 : aggT Tryd.prog 39 = some false := by kernel_rfl
theorem ic54 : ifcT Tryd.prog 54 = true := by kernel_rfl
theorem bo54 : boolT Tryd.prog 54 = false := by kernel_rfl
theorem sl54 : sliceT Tryd.prog 54 = false := by kernel_rfl
theorem st54 : strT Tryd.prog 54 = false := by kernel_rfl
theorem mp54 : mapT Tryd.prog 54 = false := by kernel_rfl
theorem el9 : elT Tryd.prog 9 = none := by kernel_rfl
theorem us9 : (Tryd.prog.underlying 9).isSome = true := by kernel_rfl
theorem in2 : intT Tryd.prog 2 = some .i64 := by kernel_rfl
attribute [simp] sl22 st22 mp22 bo3 sl3 st3 mp3 bo26 sl26 st26 mp26 el22 sz5 ag5 sl25 st25 mp25 el32 sz9 ze9 ag9 in3 us5 sl32 st32 mp32 ze5 by5 sl9 st9 mp9 bo5 sl5 st5 mp5 el33 sz3 ze3 by3 sl33 st33 mp33 el25 sz35 fd35_1 fd35_3 ag3 ag35 ze35 bo9 in9 us22 bt22 bt9 bo36 sl36 st36 mp36 in36 fd35_0 fd35_2 sz2 ag2 bo2 sl2 st2 mp2 us2 in22 ze42 pl42 fd42_0 sz22 ag22 fd42_1 by35 in5 us3 fl35 bo35 sl35 st35 mp35 mp39 ky39 zx3 pl35 fd42_2 sz39 ag39 ic54 bo54 sl54 st54 mp54 el9 us9 in2
/-- theodolite/theodolitelaw11.TokenScans -/
def A3 : Ann := [⟨[0], [], 0⟩, ⟨[0, 13], [], 0⟩, ⟨[2], [], 0⟩, ⟨[0, 3], [], 0⟩, ⟨[0, 3, 4, 5, 6], [], 0⟩, ⟨[0, 3, 4, 5, 6, 7, 8, 9], [], 0⟩, ⟨[3, 4, 7, 42], [], 0⟩, ⟨[2], [], 0⟩, ⟨[3, 4, 7, 10], [], 0⟩, ⟨[3, 4, 7, 10, 46], [], 0⟩, ⟨[3, 4, 7, 10], [], 0⟩, ⟨[3, 4, 7, 10], [], 0⟩, ⟨[2], [], 0⟩]
/-- theodolite/theodolitelaw11.TokenBack -/
def A4 : Ann := [⟨[0, 1], [], 0⟩, ⟨[0, 1, 21], [], 0⟩, ⟨[4], [], 0⟩, ⟨[1, 5, 7], [], 0⟩, ⟨[1, 5, 30], [], 0⟩, ⟨[4], [], 0⟩, ⟨[1, 5, 8], [], 0⟩, ⟨[1, 5, 8, 9], [], 0⟩, ⟨[1, 5, 8, 9, 10], [], 0⟩, ⟨[1, 5, 8, 9, 10, 11], [], 0⟩, ⟨[1, 5, 8, 9, 10, 11, 12], [], 0⟩, ⟨[1, 5, 8, 9, 10, 11, 12, 41], [], 0⟩, ⟨[1, 5, 8, 9, 10, 11, 12], [], 0⟩, ⟨[1, 5, 8, 9, 10, 11, 12, 13], [], 0⟩, ⟨[1, 5, 8, 9, 10, 11, 12, 13, 50], [], 0⟩, ⟨[1, 5, 8, 9, 10, 11, 12, 13], [], 0⟩, ⟨[1, 5, 8, 9, 10, 11, 12, 13], [], 0⟩, ⟨[1, 5, 8, 9, 10, 11, 12, 13, 14], [], 0⟩, ⟨[1, 5, 8, 9, 10, 11, 12, 13, 14, 68], [], 0⟩, ⟨[1, 5, 8, 9, 10, 11, 12, 13, 14], [], 0⟩, ⟨[1, 5, 8, 9, 10, 11, 12, 13, 14, 74], [], 0⟩, ⟨[1, 5, 8, 9, 10, 11, 12, 13, 14], [], 0⟩, ⟨[1, 5, 8, 9, 10, 11, 12], [], 0⟩, ⟨[1, 5, 8, 9, 10, 11, 12], [], 0⟩, ⟨[5, 9, 10, 90], [], 0⟩, ⟨[4], [], 0⟩, ⟨[5, 10, 15, 17], [], 0⟩, ⟨[10, 15, 105], [], 0⟩, ⟨[4], [], 0⟩, ⟨[10, 15, 18], [], 0⟩, ⟨[10, 15, 18, 109], [], 0⟩, ⟨[10, 15, 18], [], 0⟩, ⟨[10, 15, 18, 121], [{brw := true}, {brw := true}, {brw := true}, {brw := true}, {brw := true}, {brw := true}, {brw := true}, {brw := true}, {brw := true}, {brw := true}], 0⟩, ⟨[4], [], 0⟩, ⟨[4], [], 0⟩]
/-- theodolite/theodolitelaw11.TokenShape -/
def A5 : Ann := [⟨[0], [], 0⟩, ⟨[0, 19], [], 0⟩, ⟨[2], [], 0⟩, ⟨[0, 3, 4, 5], [], 0⟩, ⟨[0, 3, 4, 5, 28], [], 0⟩, ⟨[0, 3, 4, 5, 6], [], 0⟩, ⟨[0, 3, 4, 5, 6, 7], [], 0⟩, ⟨[0, 3, 4, 5, 6, 7, 32], [], 0⟩, ⟨[0, 3, 4, 5, 6, 7], [], 0⟩, ⟨[0, 3, 4, 5, 6, 7, 39], [], 0⟩, ⟨[0, 3, 4, 5, 6, 7], [], 0⟩, ⟨[2], [], 0⟩, ⟨[0, 3, 8], [], 0⟩, ⟨[0, 3, 8, 9], [], 0⟩, ⟨[0, 3, 8, 9, 10], [], 0⟩, ⟨[0, 3, 8, 9, 10, 64], [], 0⟩, ⟨[0, 3, 8, 9, 10], [], 0⟩, ⟨[0, 3, 8, 9, 10, 11], [], 0⟩, ⟨[0, 3, 8, 9, 10, 11, 79], [], 0⟩, ⟨[2], [], 0⟩, ⟨[0, 3, 8, 9, 10, 11, 89], [], 0⟩, ⟨[0, 3, 8, 9, 10, 11, 94], [], 0⟩, ⟨[0, 3, 8, 9, 10, 11], [], 0⟩, ⟨[0, 3, 8, 9, 10, 11], [], 0⟩, ⟨[0, 3, 8, 9, 10, 11, 12], [], 0⟩, ⟨[0, 3, 8, 9, 10, 11, 12, 110], [], 0⟩, ⟨[0, 3, 8, 9, 10, 11, 12, 122], [{brw := true}, {brw := true}, {brw := true}, {brw := true}, {brw := true}, {brw := true}, {brw := true}, {brw := true}, {brw := true}, {brw := true}, {brw := true}, {brw := true}], 0⟩, ⟨[0, 3, 8, 9, 10, 11, 12], [], 0⟩, ⟨[0, 3, 8, 9, 10, 11, 12, 127], [], 0⟩, ⟨[2], [], 0⟩, ⟨[0, 3, 8, 9, 10, 11, 12], [], 0⟩, ⟨[0, 3, 8, 9, 10, 11, 131], [], 0⟩, ⟨[2], [], 0⟩, ⟨[0, 3, 8, 9, 10, 11], [], 0⟩, ⟨[0, 3, 8, 9, 10, 11, 13], [], 0⟩, ⟨[0, 3, 8, 9, 10, 11, 13, 14], [], 0⟩, ⟨[0, 3, 8, 9, 10, 11, 13, 14, 15], [], 0⟩, ⟨[0, 3, 8, 9, 10, 11, 13, 14, 15, 16], [], 0⟩, ⟨[0, 3, 8, 9, 10, 11, 13, 14, 15, 16, 141], [], 0⟩, ⟨[0, 3, 8, 9, 10, 11, 13, 14, 15, 16], [], 0⟩, ⟨[0, 3, 8, 9, 10, 11, 13, 14, 15, 16], [], 0⟩, ⟨[0, 3, 8, 9, 10, 11, 13, 14, 15, 16], [], 0⟩, ⟨[0, 3, 8, 9, 10, 11, 13, 14, 15, 16], [], 0⟩, ⟨[0, 3, 8, 9, 10, 11, 13, 14, 15, 177], [], 0⟩, ⟨[2], [], 0⟩, ⟨[0, 3, 8, 9, 10, 11, 13, 14, 15, 177, 178], [], 0⟩, ⟨[0, 3, 8, 9, 10, 11, 13, 14, 15, 177, 178], [], 0⟩, ⟨[0, 3, 8, 9, 10, 201], [], 0⟩, ⟨[2], [], 0⟩, ⟨[0, 3, 8, 9, 10, 11, 13, 14, 15, 177, 202], [], 0⟩, ⟨[0, 3, 8, 9, 10, 217], [], 0⟩, ⟨[2], [], 0⟩, ⟨[0, 3, 8, 9, 10, 11, 14, 218], [], 0⟩, ⟨[0, 3, 8, 9, 10, 231], [], 0⟩, ⟨[2], [], 0⟩, ⟨[2], [], 0⟩]
/-- theodolite/theodolitelaw11.TokenCuts -/
def A6 : Ann := [⟨[0, 1], [], 0⟩, ⟨[0, 1, 22], [], 0⟩, ⟨[4], [], 0⟩, ⟨[0, 1, 5, 6, 7], [], 0⟩, ⟨[0, 1, 5, 6, 7, 8, 9, 10], [], 0⟩, ⟨[0, 5, 6, 7, 8, 9, 10, 11, 12, 13], [], 0⟩, ⟨[0, 5, 6, 7, 8, 9, 10, 11, 12, 13, 48], [], 0⟩, ⟨[4], [], 0⟩, ⟨[0, 5, 8, 9, 10, 11, 12, 13, 14], [], 0⟩, ⟨[0, 5, 8, 9, 10, 11, 12, 13, 14, 15], [], 0⟩, ⟨[0, 5, 8, 9, 10, 11, 12, 13, 14, 15, 68], [], 0⟩, ⟨[0, 5, 8, 9, 10, 11, 12, 13, 14, 15], [], 0⟩, ⟨[0, 5, 8, 9, 10, 11, 12, 13, 14, 15, 75], [], 0⟩, ⟨[0, 5, 8, 9, 10, 11, 12, 13, 14, 15], [], 0⟩, ⟨[5, 8, 9, 10, 11, 12, 13, 14, 79], [], 0⟩, ⟨[4], [], 0⟩, ⟨[5, 8, 11, 14, 127], [], 0⟩, ⟨[4], [], 0⟩, ⟨[5, 8, 11, 14, 16], [], 0⟩, ⟨[5, 8, 11, 14, 16, 131], [], 0⟩, ⟨[5, 8, 11, 14, 16], [], 0⟩, ⟨[5, 8, 11, 14, 16, 149], [{brw := true}, {brw := true}, {brw := true}, {brw := true}, {brw := true}, {brw := true}, {brw := true}, {brw := true}, {brw := true}, {brw := true}, {brw := true}, {brw := true}, {brw := true}, {brw := true}, {brw := true}, {brw := true}], 0⟩, ⟨[4], [], 0⟩, ⟨[4], [], 0⟩]
/-- theodolite/theodolitelaw11.works -/
def A7 : Ann := [⟨[], [], 0⟩, ⟨[1, 2, 3], [], 0⟩, ⟨[1, 24], [], 0⟩, ⟨[0], [], 0⟩, ⟨[1, 5, 6], [], 0⟩, ⟨[0], [], 0⟩]
/-- theodolite/theodoliteref00.Roomy -/
def A8 : Ann := [⟨[0], [], 0⟩, ⟨[0, 3], [], 0⟩, ⟨[0, 3], [], 0⟩, ⟨[0, 3, 4], [], 0⟩, ⟨[0, 3, 4, 15], [], 0⟩, ⟨[0, 3, 4], [], 0⟩, ⟨[0, 3, 4], [], 0⟩, ⟨[2], [], 0⟩]
/-- theodolite/token.Scan -/
def A9 : Ann := [⟨[0, 2], [], 0⟩, ⟨[0, 2, 10], [], 0⟩, ⟨[2, 3, 4], [], 0⟩, ⟨[2, 5], [], 0⟩, ⟨[2, 5], [], 0⟩, ⟨[2, 5, 22], [], 0⟩, ⟨[2, 5], [], 0⟩, ⟨[2, 5, 6, 7], [], 0⟩, ⟨[2, 5, 6, 31], [], 0⟩, ⟨[2, 3, 4], [{brw := true}, {brw := true}, {brw := true}, {brw := true}, {brw := true}, {brw := true}, {brw := true}], 0⟩, ⟨[2, 5, 6], [], 0⟩, ⟨[2, 5], [{brw := true}, {brw := true}, {brw := true}, {brw := true}, {brw := true}, {brw := true}, {brw := true}, {brw := true}, {brw := true}, {brw := true}, {brw := true}, {brw := true}], 0⟩, ⟨[2, 3, 4], [], 0⟩]
/-- theodolite/theodoliteref11.Scan -/
def A10 : Ann := [⟨[0], [], 0⟩, ⟨[0, 13], [], 0⟩, ⟨[2, 3, 4], [], 0⟩, ⟨[0, 5], [], 0⟩, ⟨[0, 5, 6], [], 0⟩, ⟨[0, 5, 6, 7], [], 0⟩, ⟨[0, 5, 6, 7, 8], [], 0⟩, ⟨[0, 5, 6, 7, 8, 19], [], 0⟩, ⟨[0, 5, 6, 7, 8, 22], [], 0⟩, ⟨[0, 5, 6, 7, 8], [], 0⟩, ⟨[0, 5, 6, 7, 8, 29], [], 0⟩, ⟨[0, 5, 6, 7, 8], [], 0⟩, ⟨[0, 5, 6, 7, 8, 9, 10], [], 0⟩, ⟨[0, 5, 6, 7, 8, 9, 39], [], 0⟩, ⟨[2, 3, 4], [], 0⟩, ⟨[0, 5, 6, 7, 8, 9], [], 0⟩, ⟨[0, 5, 6, 7, 8, 9], [], 0⟩, ⟨[0, 5, 6, 7, 8], [], 0⟩, ⟨[2, 3, 4], [], 0⟩]
/-- theodolite/theodoliteref00.Kept -/
def A11 : Ann := [⟨[0, 1], [], 0⟩, ⟨[0, 1, 20], [], 0⟩, ⟨[4], [], 0⟩, ⟨[1, 25, 26, 27], [], 0⟩, ⟨[1, 25, 26, 27, 28], [], 0⟩, ⟨[1, 5, 6, 25, 26, 27], [], 0⟩, ⟨[1, 5, 6, 7, 25, 26, 27], [], 0⟩, ⟨[1, 5, 6, 7, 25, 26, 27, 41], [], 0⟩, ⟨[1, 6, 7, 25, 26, 27], [], 0⟩, ⟨[1, 25, 26, 27, 48], [], 0⟩, ⟨[4], [], 0⟩, ⟨[1, 25, 26, 27], [], 0⟩, ⟨[4], [], 0⟩]
/-- theodolite/theodoliteref11.Same -/
def A12 : Ann := [⟨[0, 1], [], 0⟩, ⟨[0, 1, 10], [], 0⟩, ⟨[4], [], 0⟩, ⟨[0, 1, 5], [], 0⟩, ⟨[0, 1, 5, 14], [], 0⟩, ⟨[0, 1, 5], [], 0⟩, ⟨[0, 1, 5, 25], [{brw := true}, {brw := true}, {brw := true}, {brw := true}, {brw := true}, {brw := true}, {brw := true}, {brw := true}, {brw := true}], 0⟩, ⟨[4], [], 0⟩, ⟨[4], [], 0⟩]
/-- theodolite/theodolitelaw11.kinds -/
def A13 : Ann := [⟨[0, 1], [], 0⟩, ⟨[0, 1, 10], [], 0⟩, ⟨[4], [], 0⟩, ⟨[0, 1, 5], [], 0⟩, ⟨[0, 1, 5, 14], [], 0⟩, ⟨[0, 1, 5], [], 0⟩, ⟨[0, 1, 5, 53], [{brw := true}, {brw := true}, {brw := true}, {brw := true}, {brw := true}, {brw := true}, {brw := true}, {brw := true}, {brw := true}, {brw := true}, {brw := true}, {brw := true}, {brw := true}, {brw := true}, {brw := true}, {brw := true}, {brw := true}, {brw := true}, {brw := true}, {brw := true}, {brw := true}, {brw := true}, {brw := true}, {brw := true}, {brw := true}, {brw := true}, {brw := true}, {brw := true}, {brw := true}, {brw := true}, {brw := true}, {brw := true}, {brw := true}, {brw := true}, {brw := true}, {brw := true}, {brw := true}], 0⟩, ⟨[4], [], 0⟩, ⟨[4], [], 0⟩]
/-- theodolite/theodoliteref11.Letter -/
def A14 : Ann := [⟨[0], [], 0⟩, ⟨[2], [], 0⟩]
/-- theodolite/theodoliteref11.Digit -/
def A15 : Ann := [⟨[0], [], 0⟩, ⟨[2], [], 0⟩]
/-- theodolite/theodoliteref00.CopyBytes -/
def A16 : Ann := [⟨[0], [], 0⟩, ⟨[0, 3], [], 0⟩, ⟨[3, 6, 7, 8], [], 0⟩, ⟨[3, 6, 7, 8, 9], [], 0⟩, ⟨[3, 5, 6, 7, 8], [], 0⟩, ⟨[3, 6, 7, 8], [], 0⟩, ⟨[3, 6, 7, 8], [], 0⟩, ⟨[2], [], 0⟩]
/-- theodolite/token.words -/
def A17 : Ann := [⟨[], [], 0⟩, ⟨[1], [], 0⟩, ⟨[1, 2], [], 0⟩, ⟨[2, 9, 10, 11], [], 0⟩, ⟨[2, 9, 10, 11, 12], [], 0⟩, ⟨[2, 3, 4, 9, 10, 11], [], 0⟩, ⟨[2, 9, 10, 11], [], 0⟩, ⟨[2, 9, 10, 11], [], 0⟩, ⟨[0], [], 0⟩]
/-- (*theodolite/token.scanner).blanks -/
def A18 : Ann := [⟨[0, 8], [], 0⟩, ⟨[0, 2], [], 0⟩, ⟨[0, 2, 15], [], 0⟩, ⟨[0], [], 0⟩, ⟨[0, 2, 25], [], 0⟩, ⟨[0, 2, 25], [], 0⟩, ⟨[0, 25], [], 0⟩, ⟨[0, 32], [], 0⟩, ⟨[0], [{brw := true}, {brw := true}, {brw := true}, {brw := true}, {brw := true}, {brw := true}, {brw := true}, {brw := true}, {brw := true}, {brw := true}, {brw := true}, {brw := true}, {brw := true}, {brw := true}], 0⟩, ⟨[0], [], 0⟩]
/-- (*theodolite/token.scanner).one -/
def A19 : Ann := [⟨[0, 2], [], 0⟩, ⟨[0, 2, 4], [], 0⟩, ⟨[0, 2, 3], [], 0⟩, ⟨[0, 2, 4, 16], [], 0⟩, ⟨[0, 2, 3], [], 0⟩, ⟨[0, 2, 24], [], 0⟩, ⟨[0, 2, 3], [], 0⟩, ⟨[2, 3], [], 0⟩, ⟨[2, 3], [], 0⟩]
/-- theodolite/theodoliteref11.blank -/
def A20 : Ann := [⟨[0, 1], [], 0⟩, ⟨[0, 1, 9], [], 0⟩, ⟨[0, 1, 5], [], 0⟩, ⟨[4], [], 0⟩, ⟨[0, 1, 5, 15], [], 0⟩, ⟨[0, 1], [], 0⟩, ⟨[0, 1, 32], [], 0⟩, ⟨[0, 1, 60], [], 0⟩, ⟨[0, 1], [], 0⟩, ⟨[4], [], 0⟩]
/-- theodolite/theodoliteref11.one -/
def A21 : Ann := [⟨[0, 1, 4], [], 0⟩, ⟨[0, 1, 4, 6], [], 0⟩, ⟨[0, 1, 4, 6, 7], [], 0⟩, ⟨[0, 1, 4, 6, 7, 19], [], 0⟩, ⟨[0, 1, 4, 6, 39], [], 0⟩, ⟨[0, 1, 4, 6], [], 0⟩, ⟨[4, 8], [], 0⟩, ⟨[4, 8, 49], [], 0⟩, ⟨[4, 5], [], 0⟩, ⟨[4, 5], [], 0⟩, ⟨[0, 1, 4, 6, 57], [], 0⟩, ⟨[0, 1, 4, 6, 70], [], 0⟩, ⟨[0, 1, 4, 6], [], 0⟩, ⟨[0, 4, 6, 9], [], 0⟩, ⟨[0, 4, 6, 9, 10, 11], [], 0⟩, ⟨[4, 5], [], 0⟩, ⟨[0, 1, 4, 12], [], 0⟩, ⟨[0, 1, 4, 12, 13], [], 0⟩, ⟨[0, 1, 4, 12, 13, 105], [], 0⟩, ⟨[0, 1, 4, 12, 13], [], 0⟩, ⟨[0, 1, 4, 12, 13, 135], [{brw := true}, {brw := true}, {brw := true}, {brw := true}, {brw := true}, {brw := true}, {brw := true}, {brw := true}, {brw := true}, {brw := true}, {brw := true}, {brw := true}, {brw := true}, {brw := true}, {brw := true}, {brw := true}, {brw := true}, {brw := true}, {brw := true}, {brw := true}, {brw := true}, {brw := true}, {brw := true}, {brw := true}, {brw := true}, {brw := true}, {brw := true}, {brw := true}], 0⟩, ⟨[4, 5], [], 0⟩, ⟨[4, 5], [], 0⟩]
/-- bytes.HasPrefix -/
def A22 : Ann := [⟨[0, 1], [], 0⟩, ⟨[4], [], 0⟩]
/-- theodolite/token.long -/
def A23 : Ann := [⟨[0, 1], [], 0⟩, ⟨[0, 1, 7, 8, 9], [], 0⟩, ⟨[0, 1, 7, 8, 9, 10], [], 0⟩, ⟨[0, 1, 5, 6, 7, 8, 9], [], 0⟩, ⟨[0, 1, 5, 7, 8, 9, 17], [], 0⟩, ⟨[4], [], 0⟩, ⟨[0, 1, 7, 8, 9], [], 0⟩, ⟨[4], [], 0⟩]
/-- (*theodolite/token.scanner).blanks$1 -/
def A24 : Ann := [⟨[0], [], 0⟩, ⟨[2], [], 0⟩]
/-- theodolite/token.letter -/
def A25 : Ann := [⟨[0], [], 0⟩, ⟨[2], [], 0⟩]
/-- (*theodolite/token.scanner).name -/
def A26 : Ann := [⟨[0, 2], [], 0⟩, ⟨[0, 2, 4], [], 0⟩, ⟨[0, 2, 4, 5], [], 0⟩, ⟨[2, 4, 5, 7], [{brw := true}, {brw := true}, {brw := true}, {brw := true}, {brw := true}, {brw := true}, {brw := true}, {brw := true}, {brw := true}, {brw := true}, {brw := true}, {brw := true}], 0⟩, ⟨[2, 4, 5, 31], [], 0⟩, ⟨[2, 4, 5], [], 0⟩, ⟨[2, 3], [], 0⟩]
/-- theodolite/token.digit -/
def A27 : Ann := [⟨[0], [], 0⟩, ⟨[2], [], 0⟩]
/-- (*theodolite/token.scanner).number -/
def A28 : Ann := [⟨[0, 2], [], 0⟩, ⟨[0, 2, 4], [], 0⟩, ⟨[0, 2, 4, 5], [], 0⟩, ⟨[2, 5, 50], [], 0⟩, ⟨[2, 3], [], 0⟩, ⟨[2, 5, 6, 7], [], 0⟩, ⟨[2, 5, 7], [], 0⟩, ⟨[2, 3], [{brw := true}, {brw := true}, {brw := true}, {brw := true}, {brw := true}], 0⟩]
/-- (*theodolite/token.scanner).sign -/
def A29 : Ann := [⟨[0, 2], [], 0⟩, ⟨[0, 2, 4], [], 0⟩, ⟨[0, 2, 4, 8], [], 0⟩, ⟨[0, 2, 4], [], 0⟩, ⟨[0, 2, 4, 5], [], 0⟩, ⟨[0, 2, 4, 5, 21], [], 0⟩, ⟨[2, 3], [], 0⟩, ⟨[0, 2, 6], [], 0⟩, ⟨[2, 3], [{brw := true}, {brw := true}, {brw := true}, {avoid := [0], brw := true}, {brw := true}, {brw := true}, {brw := true}, {new := some 0, brw := true}, {brw := true}, {brw := true}, {brw := true}, {brw := true}, {brw := true}, {brw := true}], 1⟩]
/-- theodolite/theodoliteref11.in -/
def A30 : Ann := [⟨[0, 1], [], 0⟩, ⟨[0, 1, 5], [], 0⟩, ⟨[0, 1, 5, 9], [], 0⟩, ⟨[0, 1, 5], [], 0⟩, ⟨[0, 1, 5, 17], [], 0⟩, ⟨[4], [], 0⟩, ⟨[4], [], 0⟩]
/-- theodolite/theodoliteref11.Words -/
def A31 : Ann := [⟨[], [], 0⟩, ⟨[0], [], 0⟩]
/-- theodolite/theodoliteref11.number -/
def A32 : Ann := [⟨[0], [], 0⟩, ⟨[0, 4], [], 0⟩, ⟨[0, 4, 5], [], 0⟩, ⟨[0, 4, 5, 10], [], 0⟩, ⟨[0, 4, 5], [], 0⟩, ⟨[0, 4, 5, 6], [], 0⟩, ⟨[0, 4, 5, 6, 22], [], 0⟩, ⟨[2, 3], [], 0⟩, ⟨[0, 4, 5], [], 0⟩, ⟨[2, 3], [{brw := true}, {brw := true}, {brw := true}, {brw := true}, {brw := true}, {brw := true}, {brw := true}, {brw := true}, {brw := true}, {brw := true}, {brw := true}], 0⟩]
/-- theodolite/theodoliteref11.Signs -/
def A33 : Ann := [⟨[], [], 0⟩, ⟨[0], [], 0⟩]
/-- bytes.Equal -/
def A34 : Ann := [⟨[0, 1], [], 0⟩, ⟨[4], [], 0⟩]
/-- (*theodolite/token.scanner).name$1 -/
def A35 : Ann := [⟨[0], [], 0⟩, ⟨[2], [], 0⟩]

theorem ordT : Tryd.prog.follows .mixedOrders = true := by kernel_rfl
theorem ok3 : FnOK Tryd.prog 3 Tryd.f3 (Tryd.f3.body.getD .skip) A3 := ⟨Tryd.func3, rfl, rfl, by kernel_rfl, ordT⟩
theorem ok4 : FnOK Tryd.prog 4 Tryd.f4 (Tryd.f4.body.getD .skip) A4 := ⟨Tryd.func4, rfl, rfl, by kernel_rfl, ordT⟩
theorem ok5 : FnOK Tryd.prog 5 Tryd.f5 (Tryd.f5.body.getD .skip) A5 := ⟨Tryd.func5, rfl, rfl, by kernel_rfl, ordT⟩
theorem ok6 : FnOK Tryd.prog 6 Tryd.f6 (Tryd.f6.body.getD .skip) A6 := ⟨Tryd.func6, rfl, rfl, by kernel_rfl, ordT⟩
theorem ok7 : FnOK Tryd.prog 7 Tryd.f7 (Tryd.f7.body.getD .skip) A7 := ⟨Tryd.func7, rfl, rfl, by kernel_rfl, ordT⟩
theorem ok8 : FnOK Tryd.prog 8 Tryd.f8 (Tryd.f8.body.getD .skip) A8 := ⟨Tryd.func8, rfl, rfl, by kernel_rfl, ordT⟩
theorem ok9 : FnOK Tryd.prog 9 Tryd.f9 (Tryd.f9.body.getD .skip) A9 := ⟨Tryd.func9, rfl, rfl, by kernel_rfl, ordT⟩
theorem ok10 : FnOK Tryd.prog 10 Tryd.f10 (Tryd.f10.body.getD .skip) A10 := ⟨Tryd.func10, rfl, rfl, by kernel_rfl, ordT⟩
theorem ok11 : FnOK Tryd.prog 11 Tryd.f11 (Tryd.f11.body.getD .skip) A11 := ⟨Tryd.func11, rfl, rfl, by kernel_rfl, ordT⟩
theorem ok12 : FnOK Tryd.prog 12 Tryd.f12 (Tryd.f12.body.getD .skip) A12 := ⟨Tryd.func12, rfl, rfl, by kernel_rfl, ordT⟩
theorem ok13 : FnOK Tryd.prog 13 Tryd.f13 (Tryd.f13.body.getD .skip) A13 := ⟨Tryd.func13, rfl, rfl, by kernel_rfl, ordT⟩
theorem ok14 : FnOK Tryd.prog 14 Tryd.f14 (Tryd.f14.body.getD .skip) A14 := ⟨Tryd.func14, rfl, rfl, by kernel_rfl, ordT⟩
theorem ok15 : FnOK Tryd.prog 15 Tryd.f15 (Tryd.f15.body.getD .skip) A15 := ⟨Tryd.func15, rfl, rfl, by kernel_rfl, ordT⟩
theorem ok16 : FnOK Tryd.prog 16 Tryd.f16 (Tryd.f16.body.getD .skip) A16 := ⟨Tryd.func16, rfl, rfl, by kernel_rfl, ordT⟩
theorem ok17 : FnOK Tryd.prog 17 Tryd.f17 (Tryd.f17.body.getD .skip) A17 := ⟨Tryd.func17, rfl, rfl, by kernel_rfl, ordT⟩
theorem ok18 : FnOK Tryd.prog 18 Tryd.f18 (Tryd.f18.body.getD .skip) A18 := ⟨Tryd.func18, rfl, rfl, by kernel_rfl, ordT⟩
theorem ok19 : FnOK Tryd.prog 19 Tryd.f19 (Tryd.f19.body.getD .skip) A19 := ⟨Tryd.func19, rfl, rfl, by kernel_rfl, ordT⟩
theorem ok20 : FnOK Tryd.prog 20 Tryd.f20 (Tryd.f20.body.getD .skip) A20 := ⟨Tryd.func20, rfl, rfl, by kernel_rfl, ordT⟩
theorem ok21 : FnOK Tryd.prog 21 Tryd.f21 (Tryd.f21.body.getD .skip) A21 := ⟨Tryd.func21, rfl, rfl, by kernel_rfl, ordT⟩
theorem ok22 : FnOK Tryd.prog 22 Tryd.f22 (Tryd.f22.body.getD .skip) A22 := ⟨Tryd.func22, rfl, rfl, by kernel_rfl, ordT⟩
theorem ok23 : FnOK Tryd.prog 23 Tryd.f23 (Tryd.f23.body.getD .skip) A23 := ⟨Tryd.func23, rfl, rfl, by kernel_rfl, ordT⟩
theorem ok24 : FnOK Tryd.prog 24 Tryd.f24 (Tryd.f24.body.getD .skip) A24 := ⟨Tryd.func24, rfl, rfl, by kernel_rfl, ordT⟩
theorem ok25 : FnOK Tryd.prog 25 Tryd.f25 (Tryd.f25.body.getD .skip) A25 := ⟨Tryd.func25, rfl, rfl, by kernel_rfl, ordT⟩
theorem ok26 : FnOK Tryd.prog 26 Tryd.f26 (Tryd.f26.body.getD .skip) A26 := ⟨Tryd.func26, rfl, rfl, by kernel_rfl, ordT⟩
theorem ok27 : FnOK Tryd.prog 27 Tryd.f27 (Tryd.f27.body.getD .skip) A27 := ⟨Tryd.func27, rfl, rfl, by kernel_rfl, ordT⟩
theorem ok28 : FnOK Tryd.prog 28 Tryd.f28 (Tryd.f28.body.getD .skip) A28 := ⟨Tryd.func28, rfl, rfl, by kernel_rfl, ordT⟩
theorem ok29 : FnOK Tryd.prog 29 Tryd.f29 (Tryd.f29.body.getD .skip) A29 := ⟨Tryd.func29, rfl, rfl, by kernel_rfl, ordT⟩
theorem ok30 : FnOK Tryd.prog 30 Tryd.f30 (Tryd.f30.body.getD .skip) A30 := ⟨Tryd.func30, rfl, rfl, by kernel_rfl, ordT⟩
theorem ok31 : FnOK Tryd.prog 31 Tryd.f31 (Tryd.f31.body.getD .skip) A31 := ⟨Tryd.func31, rfl, rfl, by kernel_rfl, ordT⟩
theorem ok32 : FnOK Tryd.prog 32 Tryd.f32 (Tryd.f32.body.getD .skip) A32 := ⟨Tryd.func32, rfl, rfl, by kernel_rfl, ordT⟩
theorem ok33 : FnOK Tryd.prog 33 Tryd.f33 (Tryd.f33.body.getD .skip) A33 := ⟨Tryd.func33, rfl, rfl, by kernel_rfl, ordT⟩
theorem ok34 : FnOK Tryd.prog 34 Tryd.f34 (Tryd.f34.body.getD .skip) A34 := ⟨Tryd.func34, rfl, rfl, by kernel_rfl, ordT⟩
theorem ok35 : FnOK Tryd.prog 35 Tryd.f35 (Tryd.f35.body.getD .skip) A35 := ⟨Tryd.func35, rfl, rfl, by kernel_rfl, ordT⟩
end Go.Proofs.YtoplaknmmglagaaDoor.T
