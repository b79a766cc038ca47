/- The machine D, 31: this seat's environment. Written by wip/gen/env.py. -/
import Derived.Test.YthclahlplcfdpaaGreatDoorDSymB
import Derived.Test.YthclahlplcfdpaaGreatDoorProg
set_option linter.unusedVariables false
set_option linter.unusedSimpArgs false
set_option maxRecDepth 100000
set_option maxErrors 100000
namespace Go.Dm
open Go.Proofs
abbrev G0 : Nat := 3
def fns0 : List Nat := [3, 4, 5, 6, 7, 8, 9, 10, 11, 12, 13, 14, 15, 16, 17, 18, 19, 20, 21, 22, 23, 24, 25, 26, 27, 28, 29, 30, 31, 32, 33, 34, 35, 36, 37, 38, 39, 40, 41, 42, 43, 44, 45, 46, 47, 48, 49, 50, 51, 52, 53, 54, 55, 56, 57, 58, 59, 60, 61, 62, 63, 64, 65, 66, 67, 68, 72, 73, 74, 75, 76, 77, 78, 79, 80, 81, 82, 83, 84, 85, 86, 87, 88, 89, 90, 91, 92, 93, 94, 95, 96, 97, 98, 99, 100, 101, 102, 103, 104, 105, 106, 107, 108, 109, 119, 120, 121, 122, 123, 124, 125, 126, 127, 128, 129, 130, 131, 132, 133, 134, 135, 136, 137, 138, 139, 140, 141, 142, 143, 144, 145, 146, 147, 148, 149, 151, 152, 153, 154, 155, 156, 157, 158, 160, 161, 162, 163, 164, 165, 166, 168, 169, 170, 171, 172, 173, 174, 175, 178, 179, 180, 181]
noncomputable def E0 : Env := { ty := Tryz.prog.info?, fn := fun f => if fns0.contains f then Tryz.prog.funcs[f]? else none, eqo := fun t => [7, 8, 32, 33, 34, 43, 44, 53, 54, 55, 56, 58, 59, 64, 65, 72, 73, 90, 105, 106, 113, 114, 138, 139, 141, 142, 182, 183, 184, 185, 188].contains t, mark := fun t => [5, 142].contains t }
@[simp] theorem eqo0 : E0.eqo 0 = false := by kernel_rfl
@[simp] theorem mrk0 : E0.mark 0 = false := by kernel_rfl
@[simp] theorem und0 : E0.und 0 = some (TypeDesc.tuple #[]) := by kernel_rfl
@[simp] theorem siz0 : E0.siz 0 = some 1 := by kernel_rfl
@[simp] theorem byt0 : E0.byt 0 = some 0 := by kernel_rfl
@[simp] theorem eqo1 : E0.eqo 1 = false := by kernel_rfl
@[simp] theorem mrk1 : E0.mark 1 = false := by kernel_rfl
@[simp] theorem und1 : E0.und 1 = some (TypeDesc.func #[] #[] false) := by kernel_rfl
@[simp] theorem siz1 : E0.siz 1 = some 1 := by kernel_rfl
@[simp] theorem byt1 : E0.byt 1 = some 8 := by kernel_rfl
@[simp] theorem zer1 : zeroD E0 1 = some (Value.nilFunc) := by kernel_rfl
@[simp] theorem eqo2 : E0.eqo 2 = false := by kernel_rfl
@[simp] theorem mrk2 : E0.mark 2 = false := by kernel_rfl
@[simp] theorem und2 : E0.und 2 = some (TypeDesc.int IntKind.i64) := by kernel_rfl
@[simp] theorem siz2 : E0.siz 2 = some 1 := by kernel_rfl
@[simp] theorem byt2 : E0.byt 2 = some 8 := by kernel_rfl
@[simp] theorem zer2 : zeroD E0 2 = some ((Value.int IntKind.i64 0)) := by kernel_rfl
@[simp] theorem eqo3 : E0.eqo 3 = false := by kernel_rfl
@[simp] theorem mrk3 : E0.mark 3 = false := by kernel_rfl
@[simp] theorem und3 : E0.und 3 = some (TypeDesc.int IntKind.i64) := by kernel_rfl
@[simp] theorem siz3 : E0.siz 3 = some 1 := by kernel_rfl
@[simp] theorem byt3 : E0.byt 3 = some 8 := by kernel_rfl
@[simp] theorem zer3 : zeroD E0 3 = some ((Value.int IntKind.i64 0)) := by kernel_rfl
@[simp] theorem eqo4 : E0.eqo 4 = false := by kernel_rfl
@[simp] theorem mrk4 : E0.mark 4 = false := by kernel_rfl
@[simp] theorem und4 : E0.und 4 = some TypeDesc.bool := by kernel_rfl
@[simp] theorem siz4 : E0.siz 4 = some 1 := by kernel_rfl
@[simp] theorem byt4 : E0.byt 4 = some 1 := by kernel_rfl
@[simp] theorem zer4 : zeroD E0 4 = some ((Value.bool false)) := by kernel_rfl
@[simp] theorem eqo5 : E0.eqo 5 = false := by kernel_rfl
@[simp] theorem mrk5 : E0.mark 5 = true := by kernel_rfl
@[simp] theorem und5 : E0.und 5 = some (TypeDesc.int IntKind.u8) := by kernel_rfl
@[simp] theorem siz5 : E0.siz 5 = some 1 := by kernel_rfl
@[simp] theorem byt5 : E0.byt 5 = some 1 := by kernel_rfl
@[simp] theorem zer5 : zeroD E0 5 = some ((Value.int IntKind.u8 0)) := by kernel_rfl
@[simp] theorem eqo6 : E0.eqo 6 = false := by kernel_rfl
@[simp] theorem mrk6 : E0.mark 6 = false := by kernel_rfl
@[simp] theorem und6 : E0.und 6 = some (TypeDesc.int IntKind.u8) := by kernel_rfl
@[simp] theorem siz6 : E0.siz 6 = some 1 := by kernel_rfl
@[simp] theorem byt6 : E0.byt 6 = some 1 := by kernel_rfl
@[simp] theorem zer6 : zeroD E0 6 = some ((Value.int IntKind.u8 0)) := by kernel_rfl
@[simp] theorem eqo7 : E0.eqo 7 = true := by kernel_rfl
@[simp] theorem mrk7 : E0.mark 7 = false := by kernel_rfl
@[simp] theorem und7 : E0.und 7 = some (TypeDesc.struct #[{ name := "x", type := 2, offset := 0, embedded := false, tag := "", pkgPath := "runtime", byteOffset := 0 }, { name := "y", type := 3, offset := 1, embedded := false, tag := "", pkgPath := "runtime", byteOffset := 8 }, { name := "signed", type := 4, offset := 2, embedded := false, tag := "", pkgPath := "runtime", byteOffset := 16 }, { name := "code", type := 6, offset := 3, embedded := false, tag := "", pkgPath := "runtime", byteOffset := 17 }]) := by kernel_rfl
@[simp] theorem siz7 : E0.siz 7 = some 4 := by kernel_rfl
@[simp] theorem byt7 : E0.byt 7 = some 24 := by kernel_rfl
@[simp] theorem zer7 : zeroD E0 7 = some ((Value.agg #[Value.int IntKind.i64 0, Value.int IntKind.i64 0, Value.bool false, Value.int IntKind.u8 0])) := by kernel_rfl
@[simp] theorem eqo8 : E0.eqo 8 = true := by kernel_rfl
@[simp] theorem mrk8 : E0.mark 8 = false := by kernel_rfl
@[simp] theorem und8 : E0.und 8 = some (TypeDesc.struct #[{ name := "x", type := 2, offset := 0, embedded := false, tag := "", pkgPath := "runtime", byteOffset := 0 }, { name := "y", type := 3, offset := 1, embedded := false, tag := "", pkgPath := "runtime", byteOffset := 8 }, { name := "signed", type := 4, offset := 2, embedded := false, tag := "", pkgPath := "runtime", byteOffset := 16 }, { name := "code", type := 6, offset := 3, embedded := false, tag := "", pkgPath := "runtime", byteOffset := 17 }]) := by kernel_rfl
@[simp] theorem siz8 : E0.siz 8 = some 4 := by kernel_rfl
@[simp] theorem byt8 : E0.byt 8 = some 24 := by kernel_rfl
@[simp] theorem zer8 : zeroD E0 8 = some ((Value.agg #[Value.int IntKind.i64 0, Value.int IntKind.i64 0, Value.bool false, Value.int IntKind.u8 0])) := by kernel_rfl
@[simp] theorem eqo9 : E0.eqo 9 = false := by kernel_rfl
@[simp] theorem mrk9 : E0.mark 9 = false := by kernel_rfl
@[simp] theorem und9 : E0.und 9 = some TypeDesc.string := by kernel_rfl
@[simp] theorem siz9 : E0.siz 9 = some 1 := by kernel_rfl
@[simp] theorem byt9 : E0.byt 9 = some 16 := by kernel_rfl
@[simp] theorem zer9 : zeroD E0 9 = some ((Value.string { data := #[] })) := by kernel_rfl
@[simp] theorem eqo10 : E0.eqo 10 = false := by kernel_rfl
@[simp] theorem mrk10 : E0.mark 10 = false := by kernel_rfl
@[simp] theorem und10 : E0.und 10 = some TypeDesc.string := by kernel_rfl
@[simp] theorem siz10 : E0.siz 10 = some 1 := by kernel_rfl
@[simp] theorem byt10 : E0.byt 10 = some 16 := by kernel_rfl
@[simp] theorem zer10 : zeroD E0 10 = some ((Value.string { data := #[] })) := by kernel_rfl
@[simp] theorem eqo11 : E0.eqo 11 = false := by kernel_rfl
@[simp] theorem mrk11 : E0.mark 11 = false := by kernel_rfl
@[simp] theorem und11 : E0.und 11 = some TypeDesc.string := by kernel_rfl
@[simp] theorem siz11 : E0.siz 11 = some 1 := by kernel_rfl
@[simp] theorem byt11 : E0.byt 11 = some 16 := by kernel_rfl
@[simp] theorem zer11 : zeroD E0 11 = some ((Value.string { data := #[] })) := by kernel_rfl
@[simp] theorem eqo12 : E0.eqo 12 = false := by kernel_rfl
@[simp] theorem mrk12 : E0.mark 12 = false := by kernel_rfl
@[simp] theorem und12 : E0.und 12 = some (TypeDesc.int IntKind.u64) := by kernel_rfl
@[simp] theorem siz12 : E0.siz 12 = some 1 := by kernel_rfl
@[simp] theorem byt12 : E0.byt 12 = some 8 := by kernel_rfl
@[simp] theorem zer12 : zeroD E0 12 = some ((Value.int IntKind.u64 0)) := by kernel_rfl
@[simp] theorem eqo13 : E0.eqo 13 = false := by kernel_rfl
@[simp] theorem mrk13 : E0.mark 13 = false := by kernel_rfl
@[simp] theorem und13 : E0.und 13 = some (TypeDesc.struct #[{ name := "msg", type := 9, offset := 0, embedded := false, tag := "", pkgPath := "runtime", byteOffset := 0 }, { name := "addr", type := 12, offset := 1, embedded := false, tag := "", pkgPath := "runtime", byteOffset := 16 }]) := by kernel_rfl
@[simp] theorem siz13 : E0.siz 13 = some 2 := by kernel_rfl
@[simp] theorem byt13 : E0.byt 13 = some 24 := by kernel_rfl
@[simp] theorem zer13 : zeroD E0 13 = some ((Value.agg #[Value.string { data := #[] }, Value.int IntKind.u64 0])) := by kernel_rfl
@[simp] theorem eqo14 : E0.eqo 14 = false := by kernel_rfl
@[simp] theorem mrk14 : E0.mark 14 = false := by kernel_rfl
@[simp] theorem und14 : E0.und 14 = some (TypeDesc.struct #[{ name := "msg", type := 9, offset := 0, embedded := false, tag := "", pkgPath := "runtime", byteOffset := 0 }, { name := "addr", type := 12, offset := 1, embedded := false, tag := "", pkgPath := "runtime", byteOffset := 16 }]) := by kernel_rfl
@[simp] theorem siz14 : E0.siz 14 = some 2 := by kernel_rfl
@[simp] theorem byt14 : E0.byt 14 = some 24 := by kernel_rfl
@[simp] theorem zer14 : zeroD E0 14 = some ((Value.agg #[Value.string { data := #[] }, Value.int IntKind.u64 0])) := by kernel_rfl
@[simp] theorem eqo15 : E0.eqo 15 = false := by kernel_rfl
@[simp] theorem mrk15 : E0.mark 15 = false := by kernel_rfl
@[simp] theorem und15 : E0.und 15 = some (TypeDesc.pointer 187) := by kernel_rfl
@[simp] theorem siz15 : E0.siz 15 = some 1 := by kernel_rfl
@[simp] theorem byt15 : E0.byt 15 = some 8 := by kernel_rfl
@[simp] theorem zer15 : zeroD E0 15 = some ((Value.pointer none)) := by kernel_rfl
@[simp] theorem eqo16 : E0.eqo 16 = false := by kernel_rfl
@[simp] theorem mrk16 : E0.mark 16 = false := by kernel_rfl
@[simp] theorem und16 : E0.und 16 = some (TypeDesc.pointer 190) := by kernel_rfl
@[simp] theorem siz16 : E0.siz 16 = some 1 := by kernel_rfl
@[simp] theorem byt16 : E0.byt 16 = some 8 := by kernel_rfl
@[simp] theorem zer16 : zeroD E0 16 = some ((Value.pointer none)) := by kernel_rfl
@[simp] theorem eqo17 : E0.eqo 17 = false := by kernel_rfl
@[simp] theorem mrk17 : E0.mark 17 = false := by kernel_rfl
@[simp] theorem und17 : E0.und 17 = some (TypeDesc.pointer 197) := by kernel_rfl
@[simp] theorem siz17 : E0.siz 17 = some 1 := by kernel_rfl
@[simp] theorem byt17 : E0.byt 17 = some 8 := by kernel_rfl
@[simp] theorem zer17 : zeroD E0 17 = some ((Value.pointer none)) := by kernel_rfl
@[simp] theorem eqo18 : E0.eqo 18 = false := by kernel_rfl
@[simp] theorem mrk18 : E0.mark 18 = false := by kernel_rfl
@[simp] theorem und18 : E0.und 18 = some (TypeDesc.struct #[{ name := "typ", type := 17, offset := 0, embedded := false, tag := "", pkgPath := "internal/runtime/maps", byteOffset := 0 }]) := by kernel_rfl
@[simp] theorem siz18 : E0.siz 18 = some 1 := by kernel_rfl
@[simp] theorem byt18 : E0.byt 18 = some 8 := by kernel_rfl
@[simp] theorem zer18 : zeroD E0 18 = some ((Value.agg #[Value.pointer none])) := by kernel_rfl
@[simp] theorem eqo19 : E0.eqo 19 = false := by kernel_rfl
@[simp] theorem mrk19 : E0.mark 19 = false := by kernel_rfl
@[simp] theorem und19 : E0.und 19 = some (TypeDesc.struct #[{ name := "typ", type := 17, offset := 0, embedded := false, tag := "", pkgPath := "internal/runtime/maps", byteOffset := 0 }]) := by kernel_rfl
@[simp] theorem siz19 : E0.siz 19 = some 1 := by kernel_rfl
@[simp] theorem byt19 : E0.byt 19 = some 8 := by kernel_rfl
@[simp] theorem zer19 : zeroD E0 19 = some ((Value.agg #[Value.pointer none])) := by kernel_rfl
@[simp] theorem eqo20 : E0.eqo 20 = false := by kernel_rfl
@[simp] theorem mrk20 : E0.mark 20 = false := by kernel_rfl
@[simp] theorem und20 : E0.und 20 = some (TypeDesc.interface #[]) := by kernel_rfl
@[simp] theorem siz20 : E0.siz 20 = some 1 := by kernel_rfl
@[simp] theorem byt20 : E0.byt 20 = some 16 := by kernel_rfl
@[simp] theorem zer20 : zeroD E0 20 = some (Value.nilIface) := by kernel_rfl
@[simp] theorem eqo21 : E0.eqo 21 = false := by kernel_rfl
@[simp] theorem mrk21 : E0.mark 21 = false := by kernel_rfl
@[simp] theorem und21 : E0.und 21 = some (TypeDesc.int IntKind.i32) := by kernel_rfl
@[simp] theorem siz21 : E0.siz 21 = some 1 := by kernel_rfl
@[simp] theorem byt21 : E0.byt 21 = some 4 := by kernel_rfl
@[simp] theorem zer21 : zeroD E0 21 = some ((Value.int IntKind.i32 0)) := by kernel_rfl
@[simp] theorem eqo22 : E0.eqo 22 = false := by kernel_rfl
@[simp] theorem mrk22 : E0.mark 22 = false := by kernel_rfl
@[simp] theorem und22 : E0.und 22 = some (TypeDesc.tuple #[3, 4]) := by kernel_rfl
@[simp] theorem siz22 : E0.siz 22 = some 1 := by kernel_rfl
@[simp] theorem byt22 : E0.byt 22 = some 0 := by kernel_rfl
@[simp] theorem eqo23 : E0.eqo 23 = false := by kernel_rfl
@[simp] theorem mrk23 : E0.mark 23 = false := by kernel_rfl
@[simp] theorem und23 : E0.und 23 = some (TypeDesc.func #[9, 3, 3] #[3, 4] false) := by kernel_rfl
@[simp] theorem siz23 : E0.siz 23 = some 1 := by kernel_rfl
@[simp] theorem byt23 : E0.byt 23 = some 8 := by kernel_rfl
@[simp] theorem zer23 : zeroD E0 23 = some (Value.nilFunc) := by kernel_rfl
@[simp] theorem eqo24 : E0.eqo 24 = false := by kernel_rfl
@[simp] theorem mrk24 : E0.mark 24 = false := by kernel_rfl
@[simp] theorem und24 : E0.und 24 = some (TypeDesc.func #[] #[4] false) := by kernel_rfl
@[simp] theorem siz24 : E0.siz 24 = some 1 := by kernel_rfl
@[simp] theorem byt24 : E0.byt 24 = some 8 := by kernel_rfl
@[simp] theorem zer24 : zeroD E0 24 = some (Value.nilFunc) := by kernel_rfl
@[simp] theorem eqo25 : E0.eqo 25 = false := by kernel_rfl
@[simp] theorem mrk25 : E0.mark 25 = false := by kernel_rfl
@[simp] theorem und25 : E0.und 25 = some (TypeDesc.func #[9, 3, 3] #[4] false) := by kernel_rfl
@[simp] theorem siz25 : E0.siz 25 = some 1 := by kernel_rfl
@[simp] theorem byt25 : E0.byt 25 = some 8 := by kernel_rfl
@[simp] theorem zer25 : zeroD E0 25 = some (Value.nilFunc) := by kernel_rfl
@[simp] theorem eqo26 : E0.eqo 26 = false := by kernel_rfl
@[simp] theorem mrk26 : E0.mark 26 = false := by kernel_rfl
@[simp] theorem und26 : E0.und 26 = some (TypeDesc.slice 9) := by kernel_rfl
@[simp] theorem siz26 : E0.siz 26 = some 1 := by kernel_rfl
@[simp] theorem byt26 : E0.byt 26 = some 24 := by kernel_rfl
@[simp] theorem zer26 : zeroD E0 26 = some ((Value.slice none 0 0)) := by kernel_rfl
@[simp] theorem eqo27 : E0.eqo 27 = false := by kernel_rfl
@[simp] theorem mrk27 : E0.mark 27 = false := by kernel_rfl
@[simp] theorem und27 : E0.und 27 = some (TypeDesc.slice 33) := by kernel_rfl
@[simp] theorem siz27 : E0.siz 27 = some 1 := by kernel_rfl
@[simp] theorem byt27 : E0.byt 27 = some 24 := by kernel_rfl
@[simp] theorem zer27 : zeroD E0 27 = some ((Value.slice none 0 0)) := by kernel_rfl
@[simp] theorem eqo28 : E0.eqo 28 = false := by kernel_rfl
@[simp] theorem mrk28 : E0.mark 28 = false := by kernel_rfl
@[simp] theorem und28 : E0.und 28 = some (TypeDesc.func #[9, 3, 3, 26] #[27] false) := by kernel_rfl
@[simp] theorem siz28 : E0.siz 28 = some 1 := by kernel_rfl
@[simp] theorem byt28 : E0.byt 28 = some 8 := by kernel_rfl
@[simp] theorem zer28 : zeroD E0 28 = some (Value.nilFunc) := by kernel_rfl
@[simp] theorem eqo29 : E0.eqo 29 = false := by kernel_rfl
@[simp] theorem mrk29 : E0.mark 29 = false := by kernel_rfl
@[simp] theorem und29 : E0.und 29 = some (TypeDesc.slice 34) := by kernel_rfl
@[simp] theorem siz29 : E0.siz 29 = some 1 := by kernel_rfl
@[simp] theorem byt29 : E0.byt 29 = some 24 := by kernel_rfl
@[simp] theorem zer29 : zeroD E0 29 = some ((Value.slice none 0 0)) := by kernel_rfl
@[simp] theorem eqo30 : E0.eqo 30 = false := by kernel_rfl
@[simp] theorem mrk30 : E0.mark 30 = false := by kernel_rfl
@[simp] theorem und30 : E0.und 30 = some (TypeDesc.func #[9, 3, 3, 26] #[29] false) := by kernel_rfl
@[simp] theorem siz30 : E0.siz 30 = some 1 := by kernel_rfl
@[simp] theorem byt30 : E0.byt 30 = some 8 := by kernel_rfl
@[simp] theorem zer30 : zeroD E0 30 = some (Value.nilFunc) := by kernel_rfl
@[simp] theorem eqo31 : E0.eqo 31 = false := by kernel_rfl
@[simp] theorem mrk31 : E0.mark 31 = false := by kernel_rfl
@[simp] theorem und31 : E0.und 31 = some (TypeDesc.func #[26, 26] #[4] false) := by kernel_rfl
@[simp] theorem siz31 : E0.siz 31 = some 1 := by kernel_rfl
@[simp] theorem byt31 : E0.byt 31 = some 8 := by kernel_rfl
@[simp] theorem zer31 : zeroD E0 31 = some (Value.nilFunc) := by kernel_rfl
@[simp] theorem eqo32 : E0.eqo 32 = true := by kernel_rfl
@[simp] theorem mrk32 : E0.mark 32 = false := by kernel_rfl
@[simp] theorem und32 : E0.und 32 = some (TypeDesc.struct #[{ name := "From", type := 3, offset := 0, embedded := false, tag := "", pkgPath := "", byteOffset := 0 }, { name := "Open", type := 3, offset := 1, embedded := false, tag := "", pkgPath := "", byteOffset := 8 }, { name := "Mid", type := 3, offset := 2, embedded := false, tag := "", pkgPath := "", byteOffset := 16 }, { name := "To", type := 3, offset := 3, embedded := false, tag := "", pkgPath := "", byteOffset := 24 }, { name := "Image", type := 4, offset := 4, embedded := false, tag := "", pkgPath := "", byteOffset := 32 }]) := by kernel_rfl
@[simp] theorem siz32 : E0.siz 32 = some 5 := by kernel_rfl
@[simp] theorem byt32 : E0.byt 32 = some 40 := by kernel_rfl
@[simp] theorem zer32 : zeroD E0 32 = some ((Value.agg #[Value.int IntKind.i64 0, Value.int IntKind.i64 0, Value.int IntKind.i64 0, Value.int IntKind.i64 0, Value.bool false])) := by kernel_rfl
@[simp] theorem eqo33 : E0.eqo 33 = true := by kernel_rfl
@[simp] theorem mrk33 : E0.mark 33 = false := by kernel_rfl
@[simp] theorem und33 : E0.und 33 = some (TypeDesc.struct #[{ name := "From", type := 3, offset := 0, embedded := false, tag := "", pkgPath := "", byteOffset := 0 }, { name := "Open", type := 3, offset := 1, embedded := false, tag := "", pkgPath := "", byteOffset := 8 }, { name := "Mid", type := 3, offset := 2, embedded := false, tag := "", pkgPath := "", byteOffset := 16 }, { name := "To", type := 3, offset := 3, embedded := false, tag := "", pkgPath := "", byteOffset := 24 }, { name := "Image", type := 4, offset := 4, embedded := false, tag := "", pkgPath := "", byteOffset := 32 }]) := by kernel_rfl
@[simp] theorem siz33 : E0.siz 33 = some 5 := by kernel_rfl
@[simp] theorem byt33 : E0.byt 33 = some 40 := by kernel_rfl
@[simp] theorem zer33 : zeroD E0 33 = some ((Value.agg #[Value.int IntKind.i64 0, Value.int IntKind.i64 0, Value.int IntKind.i64 0, Value.int IntKind.i64 0, Value.bool false])) := by kernel_rfl
@[simp] theorem eqo34 : E0.eqo 34 = true := by kernel_rfl
@[simp] theorem mrk34 : E0.mark 34 = false := by kernel_rfl
@[simp] theorem und34 : E0.und 34 = some (TypeDesc.struct #[{ name := "From", type := 3, offset := 0, embedded := false, tag := "", pkgPath := "", byteOffset := 0 }, { name := "Open", type := 3, offset := 1, embedded := false, tag := "", pkgPath := "", byteOffset := 8 }, { name := "Mid", type := 3, offset := 2, embedded := false, tag := "", pkgPath := "", byteOffset := 16 }, { name := "To", type := 3, offset := 3, embedded := false, tag := "", pkgPath := "", byteOffset := 24 }, { name := "Image", type := 4, offset := 4, embedded := false, tag := "", pkgPath := "", byteOffset := 32 }]) := by kernel_rfl
@[simp] theorem siz34 : E0.siz 34 = some 5 := by kernel_rfl
@[simp] theorem byt34 : E0.byt 34 = some 40 := by kernel_rfl
@[simp] theorem zer34 : zeroD E0 34 = some ((Value.agg #[Value.int IntKind.i64 0, Value.int IntKind.i64 0, Value.int IntKind.i64 0, Value.int IntKind.i64 0, Value.bool false])) := by kernel_rfl
@[simp] theorem eqo35 : E0.eqo 35 = false := by kernel_rfl
@[simp] theorem mrk35 : E0.mark 35 = false := by kernel_rfl
@[simp] theorem und35 : E0.und 35 = some (TypeDesc.func #[9, 3, 3, 26] #[4] false) := by kernel_rfl
@[simp] theorem siz35 : E0.siz 35 = some 1 := by kernel_rfl
@[simp] theorem byt35 : E0.byt 35 = some 8 := by kernel_rfl
@[simp] theorem zer35 : zeroD E0 35 = some (Value.nilFunc) := by kernel_rfl
@[simp] theorem eqo36 : E0.eqo 36 = false := by kernel_rfl
@[simp] theorem mrk36 : E0.mark 36 = false := by kernel_rfl
@[simp] theorem und36 : E0.und 36 = some (TypeDesc.func #[9] #[3] false) := by kernel_rfl
@[simp] theorem siz36 : E0.siz 36 = some 1 := by kernel_rfl
@[simp] theorem byt36 : E0.byt 36 = some 8 := by kernel_rfl
@[simp] theorem zer36 : zeroD E0 36 = some (Value.nilFunc) := by kernel_rfl
@[simp] theorem eqo37 : E0.eqo 37 = false := by kernel_rfl
@[simp] theorem mrk37 : E0.mark 37 = false := by kernel_rfl
@[simp] theorem und37 : E0.und 37 = some (TypeDesc.func #[9] #[9] false) := by kernel_rfl
@[simp] theorem siz37 : E0.siz 37 = some 1 := by kernel_rfl
@[simp] theorem byt37 : E0.byt 37 = some 8 := by kernel_rfl
@[simp] theorem zer37 : zeroD E0 37 = some (Value.nilFunc) := by kernel_rfl
@[simp] theorem eqo38 : E0.eqo 38 = false := by kernel_rfl
@[simp] theorem mrk38 : E0.mark 38 = false := by kernel_rfl
@[simp] theorem und38 : E0.und 38 = some (TypeDesc.func #[27, 27] #[4] false) := by kernel_rfl
@[simp] theorem siz38 : E0.siz 38 = some 1 := by kernel_rfl
@[simp] theorem byt38 : E0.byt 38 = some 8 := by kernel_rfl
@[simp] theorem zer38 : zeroD E0 38 = some (Value.nilFunc) := by kernel_rfl
@[simp] theorem eqo39 : E0.eqo 39 = false := by kernel_rfl
@[simp] theorem mrk39 : E0.mark 39 = false := by kernel_rfl
@[simp] theorem und39 : E0.und 39 = some (TypeDesc.func #[9, 9, 9, 5, 4, 4] #[4] false) := by kernel_rfl
@[simp] theorem siz39 : E0.siz 39 = some 1 := by kernel_rfl
@[simp] theorem byt39 : E0.byt 39 = some 8 := by kernel_rfl
@[simp] theorem zer39 : zeroD E0 39 = some (Value.nilFunc) := by kernel_rfl
@[simp] theorem eqo40 : E0.eqo 40 = false := by kernel_rfl
@[simp] theorem mrk40 : E0.mark 40 = false := by kernel_rfl
@[simp] theorem und40 : E0.und 40 = some (TypeDesc.func #[9, 3, 3] #[26] false) := by kernel_rfl
@[simp] theorem siz40 : E0.siz 40 = some 1 := by kernel_rfl
@[simp] theorem byt40 : E0.byt 40 = some 8 := by kernel_rfl
@[simp] theorem zer40 : zeroD E0 40 = some (Value.nilFunc) := by kernel_rfl
@[simp] theorem eqo41 : E0.eqo 41 = false := by kernel_rfl
@[simp] theorem mrk41 : E0.mark 41 = false := by kernel_rfl
@[simp] theorem und41 : E0.und 41 = some (TypeDesc.func #[9, 3, 3, 26, 26] #[4] false) := by kernel_rfl
@[simp] theorem siz41 : E0.siz 41 = some 1 := by kernel_rfl
@[simp] theorem byt41 : E0.byt 41 = some 8 := by kernel_rfl
@[simp] theorem zer41 : zeroD E0 41 = some (Value.nilFunc) := by kernel_rfl
@[simp] theorem eqo42 : E0.eqo 42 = false := by kernel_rfl
@[simp] theorem mrk42 : E0.mark 42 = false := by kernel_rfl
@[simp] theorem und42 : E0.und 42 = some (TypeDesc.slice 5) := by kernel_rfl
@[simp] theorem siz42 : E0.siz 42 = some 1 := by kernel_rfl
@[simp] theorem byt42 : E0.byt 42 = some 24 := by kernel_rfl
@[simp] theorem zer42 : zeroD E0 42 = some ((Value.slice none 0 0)) := by kernel_rfl
@[simp] theorem eqo43 : E0.eqo 43 = true := by kernel_rfl
@[simp] theorem mrk43 : E0.mark 43 = false := by kernel_rfl
@[simp] theorem und43 : E0.und 43 = some (TypeDesc.struct #[{ name := "line", type := 9, offset := 0, embedded := false, tag := "", pkgPath := "indenture/indenturelaw22", byteOffset := 0 }, { name := "want", type := 27, offset := 1, embedded := false, tag := "", pkgPath := "indenture/indenturelaw22", byteOffset := 16 }]) := by kernel_rfl
@[simp] theorem siz43 : E0.siz 43 = some 2 := by kernel_rfl
@[simp] theorem byt43 : E0.byt 43 = some 40 := by kernel_rfl
@[simp] theorem zer43 : zeroD E0 43 = some ((Value.agg #[Value.string { data := #[] }, Value.slice none 0 0])) := by kernel_rfl
@[simp] theorem eqo44 : E0.eqo 44 = true := by kernel_rfl
@[simp] theorem mrk44 : E0.mark 44 = false := by kernel_rfl
@[simp] theorem und44 : E0.und 44 = some (TypeDesc.struct #[{ name := "line", type := 9, offset := 0, embedded := false, tag := "", pkgPath := "indenture/indenturelaw22", byteOffset := 0 }, { name := "want", type := 27, offset := 1, embedded := false, tag := "", pkgPath := "indenture/indenturelaw22", byteOffset := 16 }]) := by kernel_rfl
@[simp] theorem siz44 : E0.siz 44 = some 2 := by kernel_rfl
@[simp] theorem byt44 : E0.byt 44 = some 40 := by kernel_rfl
@[simp] theorem zer44 : zeroD E0 44 = some ((Value.agg #[Value.string { data := #[] }, Value.slice none 0 0])) := by kernel_rfl
@[simp] theorem eqo45 : E0.eqo 45 = false := by kernel_rfl
@[simp] theorem mrk45 : E0.mark 45 = false := by kernel_rfl
@[simp] theorem und45 : E0.und 45 = some (TypeDesc.slice 44) := by kernel_rfl
@[simp] theorem siz45 : E0.siz 45 = some 1 := by kernel_rfl
@[simp] theorem byt45 : E0.byt 45 = some 24 := by kernel_rfl
@[simp] theorem zer45 : zeroD E0 45 = some ((Value.slice none 0 0)) := by kernel_rfl
@[simp] theorem eqo46 : E0.eqo 46 = false := by kernel_rfl
@[simp] theorem mrk46 : E0.mark 46 = false := by kernel_rfl
@[simp] theorem und46 : E0.und 46 = some (TypeDesc.func #[9, 3] #[9] false) := by kernel_rfl
@[simp] theorem siz46 : E0.siz 46 = some 1 := by kernel_rfl
@[simp] theorem byt46 : E0.byt 46 = some 8 := by kernel_rfl
@[simp] theorem zer46 : zeroD E0 46 = some (Value.nilFunc) := by kernel_rfl
@[simp] theorem eqo47 : E0.eqo 47 = false := by kernel_rfl
@[simp] theorem mrk47 : E0.mark 47 = false := by kernel_rfl
@[simp] theorem und47 : E0.und 47 = some (TypeDesc.func #[9, 3, 3] #[3] false) := by kernel_rfl
@[simp] theorem siz47 : E0.siz 47 = some 1 := by kernel_rfl
@[simp] theorem byt47 : E0.byt 47 = some 8 := by kernel_rfl
@[simp] theorem zer47 : zeroD E0 47 = some (Value.nilFunc) := by kernel_rfl
@[simp] theorem eqo48 : E0.eqo 48 = false := by kernel_rfl
@[simp] theorem mrk48 : E0.mark 48 = false := by kernel_rfl
@[simp] theorem und48 : E0.und 48 = some (TypeDesc.func #[3] #[3] false) := by kernel_rfl
@[simp] theorem siz48 : E0.siz 48 = some 1 := by kernel_rfl
@[simp] theorem byt48 : E0.byt 48 = some 8 := by kernel_rfl
@[simp] theorem zer48 : zeroD E0 48 = some (Value.nilFunc) := by kernel_rfl
@[simp] theorem eqo49 : E0.eqo 49 = false := by kernel_rfl
@[simp] theorem mrk49 : E0.mark 49 = false := by kernel_rfl
@[simp] theorem und49 : E0.und 49 = some (TypeDesc.func #[9, 3] #[3, 4] false) := by kernel_rfl
@[simp] theorem siz49 : E0.siz 49 = some 1 := by kernel_rfl
@[simp] theorem byt49 : E0.byt 49 = some 8 := by kernel_rfl
@[simp] theorem zer49 : zeroD E0 49 = some (Value.nilFunc) := by kernel_rfl
@[simp] theorem eqo50 : E0.eqo 50 = false := by kernel_rfl
@[simp] theorem mrk50 : E0.mark 50 = false := by kernel_rfl
@[simp] theorem und50 : E0.und 50 = some (TypeDesc.func #[9, 3] #[3] false) := by kernel_rfl
@[simp] theorem siz50 : E0.siz 50 = some 1 := by kernel_rfl
@[simp] theorem byt50 : E0.byt 50 = some 8 := by kernel_rfl
@[simp] theorem zer50 : zeroD E0 50 = some (Value.nilFunc) := by kernel_rfl
@[simp] theorem eqo51 : E0.eqo 51 = false := by kernel_rfl
@[simp] theorem mrk51 : E0.mark 51 = false := by kernel_rfl
@[simp] theorem und51 : E0.und 51 = some (TypeDesc.pointer 54) := by kernel_rfl
@[simp] theorem siz51 : E0.siz 51 = some 1 := by kernel_rfl
@[simp] theorem byt51 : E0.byt 51 = some 8 := by kernel_rfl
@[simp] theorem zer51 : zeroD E0 51 = some ((Value.pointer none)) := by kernel_rfl
@[simp] theorem eqo52 : E0.eqo 52 = false := by kernel_rfl
@[simp] theorem mrk52 : E0.mark 52 = false := by kernel_rfl
@[simp] theorem und52 : E0.und 52 = some (TypeDesc.map 9 56) := by kernel_rfl
@[simp] theorem siz52 : E0.siz 52 = some 1 := by kernel_rfl
@[simp] theorem byt52 : E0.byt 52 = some 8 := by kernel_rfl
@[simp] theorem zer52 : zeroD E0 52 = some ((Value.map none)) := by kernel_rfl
@[simp] theorem eqo53 : E0.eqo 53 = true := by kernel_rfl
@[simp] theorem mrk53 : E0.mark 53 = false := by kernel_rfl
@[simp] theorem und53 : E0.und 53 = some (TypeDesc.struct #[{ name := "s", type := 9, offset := 0, embedded := false, tag := "", pkgPath := "indenture/mdlink", byteOffset := 0 }, { name := "known", type := 52, offset := 1, embedded := false, tag := "", pkgPath := "indenture/mdlink", byteOffset := 16 }]) := by kernel_rfl
@[simp] theorem siz53 : E0.siz 53 = some 2 := by kernel_rfl
@[simp] theorem byt53 : E0.byt 53 = some 24 := by kernel_rfl
@[simp] theorem zer53 : zeroD E0 53 = some ((Value.agg #[Value.string { data := #[] }, Value.map none])) := by kernel_rfl
@[simp] theorem eqo54 : E0.eqo 54 = true := by kernel_rfl
@[simp] theorem mrk54 : E0.mark 54 = false := by kernel_rfl
@[simp] theorem und54 : E0.und 54 = some (TypeDesc.struct #[{ name := "s", type := 9, offset := 0, embedded := false, tag := "", pkgPath := "indenture/mdlink", byteOffset := 0 }, { name := "known", type := 52, offset := 1, embedded := false, tag := "", pkgPath := "indenture/mdlink", byteOffset := 16 }]) := by kernel_rfl
@[simp] theorem siz54 : E0.siz 54 = some 2 := by kernel_rfl
@[simp] theorem byt54 : E0.byt 54 = some 24 := by kernel_rfl
@[simp] theorem zer54 : zeroD E0 54 = some ((Value.agg #[Value.string { data := #[] }, Value.map none])) := by kernel_rfl
@[simp] theorem eqo55 : E0.eqo 55 = true := by kernel_rfl
@[simp] theorem mrk55 : E0.mark 55 = false := by kernel_rfl
@[simp] theorem und55 : E0.und 55 = some (TypeDesc.struct #[{ name := "is", type := 4, offset := 0, embedded := false, tag := "", pkgPath := "indenture/mdlink", byteOffset := 0 }]) := by kernel_rfl
@[simp] theorem siz55 : E0.siz 55 = some 1 := by kernel_rfl
@[simp] theorem byt55 : E0.byt 55 = some 1 := by kernel_rfl
@[simp] theorem zer55 : zeroD E0 55 = some ((Value.agg #[Value.bool false])) := by kernel_rfl
@[simp] theorem eqo56 : E0.eqo 56 = true := by kernel_rfl
@[simp] theorem mrk56 : E0.mark 56 = false := by kernel_rfl
@[simp] theorem und56 : E0.und 56 = some (TypeDesc.struct #[{ name := "is", type := 4, offset := 0, embedded := false, tag := "", pkgPath := "indenture/mdlink", byteOffset := 0 }]) := by kernel_rfl
@[simp] theorem siz56 : E0.siz 56 = some 1 := by kernel_rfl
@[simp] theorem byt56 : E0.byt 56 = some 1 := by kernel_rfl
@[simp] theorem zer56 : zeroD E0 56 = some ((Value.agg #[Value.bool false])) := by kernel_rfl
@[simp] theorem eqo57 : E0.eqo 57 = false := by kernel_rfl
@[simp] theorem mrk57 : E0.mark 57 = false := by kernel_rfl
@[simp] theorem und57 : E0.und 57 = some (TypeDesc.slice 65) := by kernel_rfl
@[simp] theorem siz57 : E0.siz 57 = some 1 := by kernel_rfl
@[simp] theorem byt57 : E0.byt 57 = some 24 := by kernel_rfl
@[simp] theorem zer57 : zeroD E0 57 = some ((Value.slice none 0 0)) := by kernel_rfl
@[simp] theorem eqo58 : E0.eqo 58 = true := by kernel_rfl
@[simp] theorem mrk58 : E0.mark 58 = false := by kernel_rfl
@[simp] theorem und58 : E0.und 58 = some (TypeDesc.struct #[{ name := "l", type := 57, offset := 0, embedded := false, tag := "", pkgPath := "indenture/mdlink", byteOffset := 0 }]) := by kernel_rfl
@[simp] theorem siz58 : E0.siz 58 = some 1 := by kernel_rfl
@[simp] theorem byt58 : E0.byt 58 = some 24 := by kernel_rfl
@[simp] theorem zer58 : zeroD E0 58 = some ((Value.agg #[Value.slice none 0 0])) := by kernel_rfl
@[simp] theorem eqo59 : E0.eqo 59 = true := by kernel_rfl
@[simp] theorem mrk59 : E0.mark 59 = false := by kernel_rfl
@[simp] theorem und59 : E0.und 59 = some (TypeDesc.struct #[{ name := "l", type := 57, offset := 0, embedded := false, tag := "", pkgPath := "indenture/mdlink", byteOffset := 0 }]) := by kernel_rfl
@[simp] theorem siz59 : E0.siz 59 = some 1 := by kernel_rfl
@[simp] theorem byt59 : E0.byt 59 = some 24 := by kernel_rfl
@[simp] theorem zer59 : zeroD E0 59 = some ((Value.agg #[Value.slice none 0 0])) := by kernel_rfl
@[simp] theorem eqo60 : E0.eqo 60 = false := by kernel_rfl
@[simp] theorem mrk60 : E0.mark 60 = false := by kernel_rfl
@[simp] theorem und60 : E0.und 60 = some (TypeDesc.tuple #[5, 3]) := by kernel_rfl
@[simp] theorem siz60 : E0.siz 60 = some 1 := by kernel_rfl
@[simp] theorem byt60 : E0.byt 60 = some 0 := by kernel_rfl
@[simp] theorem eqo61 : E0.eqo 61 = false := by kernel_rfl
@[simp] theorem mrk61 : E0.mark 61 = false := by kernel_rfl
@[simp] theorem und61 : E0.und 61 = some (TypeDesc.func #[9, 3, 3] #[5, 3] false) := by kernel_rfl
@[simp] theorem siz61 : E0.siz 61 = some 1 := by kernel_rfl
@[simp] theorem byt61 : E0.byt 61 = some 8 := by kernel_rfl
@[simp] theorem zer61 : zeroD E0 61 = some (Value.nilFunc) := by kernel_rfl
@[simp] theorem eqo62 : E0.eqo 62 = false := by kernel_rfl
@[simp] theorem mrk62 : E0.mark 62 = false := by kernel_rfl
@[simp] theorem und62 : E0.und 62 = some (TypeDesc.func #[9, 9] #[4] false) := by kernel_rfl
@[simp] theorem siz62 : E0.siz 62 = some 1 := by kernel_rfl
@[simp] theorem byt62 : E0.byt 62 = some 8 := by kernel_rfl
@[simp] theorem zer62 : zeroD E0 62 = some (Value.nilFunc) := by kernel_rfl
@[simp] theorem eqo63 : E0.eqo 63 = false := by kernel_rfl
@[simp] theorem mrk63 : E0.mark 63 = false := by kernel_rfl
@[simp] theorem und63 : E0.und 63 = some (TypeDesc.func #[65] #[] false) := by kernel_rfl
@[simp] theorem siz63 : E0.siz 63 = some 1 := by kernel_rfl
@[simp] theorem byt63 : E0.byt 63 = some 8 := by kernel_rfl
@[simp] theorem zer63 : zeroD E0 63 = some (Value.nilFunc) := by kernel_rfl
@[simp] theorem eqo64 : E0.eqo 64 = true := by kernel_rfl
@[simp] theorem mrk64 : E0.mark 64 = false := by kernel_rfl
@[simp] theorem und64 : E0.und 64 = some (TypeDesc.struct #[{ name := "from", type := 3, offset := 0, embedded := false, tag := "", pkgPath := "indenture/mdlink", byteOffset := 0 }, { name := "open", type := 3, offset := 1, embedded := false, tag := "", pkgPath := "indenture/mdlink", byteOffset := 8 }, { name := "image", type := 4, offset := 2, embedded := false, tag := "", pkgPath := "indenture/mdlink", byteOffset := 16 }, { name := "barred", type := 4, offset := 3, embedded := false, tag := "", pkgPath := "indenture/mdlink", byteOffset := 17 }]) := by kernel_rfl
@[simp] theorem siz64 : E0.siz 64 = some 4 := by kernel_rfl
@[simp] theorem byt64 : E0.byt 64 = some 24 := by kernel_rfl
@[simp] theorem zer64 : zeroD E0 64 = some ((Value.agg #[Value.int IntKind.i64 0, Value.int IntKind.i64 0, Value.bool false, Value.bool false])) := by kernel_rfl
@[simp] theorem eqo65 : E0.eqo 65 = true := by kernel_rfl
@[simp] theorem mrk65 : E0.mark 65 = false := by kernel_rfl
@[simp] theorem und65 : E0.und 65 = some (TypeDesc.struct #[{ name := "from", type := 3, offset := 0, embedded := false, tag := "", pkgPath := "indenture/mdlink", byteOffset := 0 }, { name := "open", type := 3, offset := 1, embedded := false, tag := "", pkgPath := "indenture/mdlink", byteOffset := 8 }, { name := "image", type := 4, offset := 2, embedded := false, tag := "", pkgPath := "indenture/mdlink", byteOffset := 16 }, { name := "barred", type := 4, offset := 3, embedded := false, tag := "", pkgPath := "indenture/mdlink", byteOffset := 17 }]) := by kernel_rfl
@[simp] theorem siz65 : E0.siz 65 = some 4 := by kernel_rfl
@[simp] theorem byt65 : E0.byt 65 = some 24 := by kernel_rfl
@[simp] theorem zer65 : zeroD E0 65 = some ((Value.agg #[Value.int IntKind.i64 0, Value.int IntKind.i64 0, Value.bool false, Value.bool false])) := by kernel_rfl
@[simp] theorem eqo66 : E0.eqo 66 = false := by kernel_rfl
@[simp] theorem mrk66 : E0.mark 66 = false := by kernel_rfl
@[simp] theorem und66 : E0.und 66 = some (TypeDesc.tuple #[65, 4]) := by kernel_rfl
@[simp] theorem siz66 : E0.siz 66 = some 1 := by kernel_rfl
@[simp] theorem byt66 : E0.byt 66 = some 0 := by kernel_rfl
@[simp] theorem eqo67 : E0.eqo 67 = false := by kernel_rfl
@[simp] theorem mrk67 : E0.mark 67 = false := by kernel_rfl
@[simp] theorem und67 : E0.und 67 = some (TypeDesc.func #[] #[65, 4] false) := by kernel_rfl
@[simp] theorem siz67 : E0.siz 67 = some 1 := by kernel_rfl
@[simp] theorem byt67 : E0.byt 67 = some 8 := by kernel_rfl
@[simp] theorem zer67 : zeroD E0 67 = some (Value.nilFunc) := by kernel_rfl
@[simp] theorem eqo68 : E0.eqo 68 = false := by kernel_rfl
@[simp] theorem mrk68 : E0.mark 68 = false := by kernel_rfl
@[simp] theorem und68 : E0.und 68 = some (TypeDesc.func #[65, 3] #[3, 4] false) := by kernel_rfl
@[simp] theorem siz68 : E0.siz 68 = some 1 := by kernel_rfl
@[simp] theorem byt68 : E0.byt 68 = some 8 := by kernel_rfl
@[simp] theorem zer68 : zeroD E0 68 = some (Value.nilFunc) := by kernel_rfl
@[simp] theorem eqo69 : E0.eqo 69 = false := by kernel_rfl
@[simp] theorem mrk69 : E0.mark 69 = false := by kernel_rfl
@[simp] theorem und69 : E0.und 69 = some (TypeDesc.func #[20, 70] #[] false) := by kernel_rfl
@[simp] theorem siz69 : E0.siz 69 = some 1 := by kernel_rfl
@[simp] theorem byt69 : E0.byt 69 = some 8 := by kernel_rfl
@[simp] theorem zer69 : zeroD E0 69 = some (Value.nilFunc) := by kernel_rfl
@[simp] theorem eqo70 : E0.eqo 70 = false := by kernel_rfl
@[simp] theorem mrk70 : E0.mark 70 = false := by kernel_rfl
@[simp] theorem und70 : E0.und 70 = some (TypeDesc.func #[3, 3] #[4] false) := by kernel_rfl
@[simp] theorem siz70 : E0.siz 70 = some 1 := by kernel_rfl
@[simp] theorem byt70 : E0.byt 70 = some 8 := by kernel_rfl
@[simp] theorem zer70 : zeroD E0 70 = some (Value.nilFunc) := by kernel_rfl
@[simp] theorem eqo71 : E0.eqo 71 = false := by kernel_rfl
@[simp] theorem mrk71 : E0.mark 71 = false := by kernel_rfl
@[simp] theorem und71 : E0.und 71 = some (TypeDesc.slice 73) := by kernel_rfl
@[simp] theorem siz71 : E0.siz 71 = some 1 := by kernel_rfl
@[simp] theorem byt71 : E0.byt 71 = some 24 := by kernel_rfl
@[simp] theorem zer71 : zeroD E0 71 = some ((Value.slice none 0 0)) := by kernel_rfl
@[simp] theorem eqo72 : E0.eqo 72 = true := by kernel_rfl
@[simp] theorem mrk72 : E0.mark 72 = false := by kernel_rfl
@[simp] theorem und72 : E0.und 72 = some (TypeDesc.struct #[{ name := "From", type := 3, offset := 0, embedded := false, tag := "", pkgPath := "", byteOffset := 0 }, { name := "Open", type := 3, offset := 1, embedded := false, tag := "", pkgPath := "", byteOffset := 8 }, { name := "Image", type := 4, offset := 2, embedded := false, tag := "", pkgPath := "", byteOffset := 16 }, { name := "Barred", type := 4, offset := 3, embedded := false, tag := "", pkgPath := "", byteOffset := 17 }]) := by kernel_rfl
@[simp] theorem siz72 : E0.siz 72 = some 4 := by kernel_rfl
@[simp] theorem byt72 : E0.byt 72 = some 24 := by kernel_rfl
@[simp] theorem zer72 : zeroD E0 72 = some ((Value.agg #[Value.int IntKind.i64 0, Value.int IntKind.i64 0, Value.bool false, Value.bool false])) := by kernel_rfl
@[simp] theorem eqo73 : E0.eqo 73 = true := by kernel_rfl
@[simp] theorem mrk73 : E0.mark 73 = false := by kernel_rfl
@[simp] theorem und73 : E0.und 73 = some (TypeDesc.struct #[{ name := "From", type := 3, offset := 0, embedded := false, tag := "", pkgPath := "", byteOffset := 0 }, { name := "Open", type := 3, offset := 1, embedded := false, tag := "", pkgPath := "", byteOffset := 8 }, { name := "Image", type := 4, offset := 2, embedded := false, tag := "", pkgPath := "", byteOffset := 16 }, { name := "Barred", type := 4, offset := 3, embedded := false, tag := "", pkgPath := "", byteOffset := 17 }]) := by kernel_rfl
@[simp] theorem siz73 : E0.siz 73 = some 4 := by kernel_rfl
@[simp] theorem byt73 : E0.byt 73 = some 24 := by kernel_rfl
@[simp] theorem zer73 : zeroD E0 73 = some ((Value.agg #[Value.int IntKind.i64 0, Value.int IntKind.i64 0, Value.bool false, Value.bool false])) := by kernel_rfl
@[simp] theorem eqo74 : E0.eqo 74 = false := by kernel_rfl
@[simp] theorem mrk74 : E0.mark 74 = false := by kernel_rfl
@[simp] theorem und74 : E0.und 74 = some (TypeDesc.func #[9, 73, 3, 3, 26] #[3] false) := by kernel_rfl
@[simp] theorem siz74 : E0.siz 74 = some 1 := by kernel_rfl
@[simp] theorem byt74 : E0.byt 74 = some 8 := by kernel_rfl
@[simp] theorem zer74 : zeroD E0 74 = some (Value.nilFunc) := by kernel_rfl
@[simp] theorem eqo75 : E0.eqo 75 = false := by kernel_rfl
@[simp] theorem mrk75 : E0.mark 75 = false := by kernel_rfl
@[simp] theorem und75 : E0.und 75 = some (TypeDesc.func #[29, 34] #[29] false) := by kernel_rfl
@[simp] theorem siz75 : E0.siz 75 = some 1 := by kernel_rfl
@[simp] theorem byt75 : E0.byt 75 = some 8 := by kernel_rfl
@[simp] theorem zer75 : zeroD E0 75 = some (Value.nilFunc) := by kernel_rfl
@[simp] theorem eqo76 : E0.eqo 76 = false := by kernel_rfl
@[simp] theorem mrk76 : E0.mark 76 = false := by kernel_rfl
@[simp] theorem und76 : E0.und 76 = some (TypeDesc.func #[26] #[] false) := by kernel_rfl
@[simp] theorem siz76 : E0.siz 76 = some 1 := by kernel_rfl
@[simp] theorem byt76 : E0.byt 76 = some 8 := by kernel_rfl
@[simp] theorem zer76 : zeroD E0 76 = some (Value.nilFunc) := by kernel_rfl
@[simp] theorem eqo77 : E0.eqo 77 = false := by kernel_rfl
@[simp] theorem mrk77 : E0.mark 77 = false := by kernel_rfl
@[simp] theorem und77 : E0.und 77 = some (TypeDesc.func #[26] #[26] false) := by kernel_rfl
@[simp] theorem siz77 : E0.siz 77 = some 1 := by kernel_rfl
@[simp] theorem byt77 : E0.byt 77 = some 8 := by kernel_rfl
@[simp] theorem zer77 : zeroD E0 77 = some (Value.nilFunc) := by kernel_rfl
@[simp] theorem eqo78 : E0.eqo 78 = false := by kernel_rfl
@[simp] theorem mrk78 : E0.mark 78 = false := by kernel_rfl
@[simp] theorem und78 : E0.und 78 = some (TypeDesc.tuple #[9, 9, 4]) := by kernel_rfl
@[simp] theorem siz78 : E0.siz 78 = some 1 := by kernel_rfl
@[simp] theorem byt78 : E0.byt 78 = some 0 := by kernel_rfl
@[simp] theorem eqo79 : E0.eqo 79 = false := by kernel_rfl
@[simp] theorem mrk79 : E0.mark 79 = false := by kernel_rfl
@[simp] theorem und79 : E0.und 79 = some (TypeDesc.func #[9, 9] #[9, 9, 4] false) := by kernel_rfl
@[simp] theorem siz79 : E0.siz 79 = some 1 := by kernel_rfl
@[simp] theorem byt79 : E0.byt 79 = some 8 := by kernel_rfl
@[simp] theorem zer79 : zeroD E0 79 = some (Value.nilFunc) := by kernel_rfl
@[simp] theorem eqo80 : E0.eqo 80 = false := by kernel_rfl
@[simp] theorem mrk80 : E0.mark 80 = false := by kernel_rfl
@[simp] theorem und80 : E0.und 80 = some (TypeDesc.func #[9, 9] #[9] false) := by kernel_rfl
@[simp] theorem siz80 : E0.siz 80 = some 1 := by kernel_rfl
@[simp] theorem byt80 : E0.byt 80 = some 8 := by kernel_rfl
@[simp] theorem zer80 : zeroD E0 80 = some (Value.nilFunc) := by kernel_rfl
@[simp] theorem eqo81 : E0.eqo 81 = false := by kernel_rfl
@[simp] theorem mrk81 : E0.mark 81 = false := by kernel_rfl
@[simp] theorem und81 : E0.und 81 = some (TypeDesc.tuple #[9, 4]) := by kernel_rfl
@[simp] theorem siz81 : E0.siz 81 = some 1 := by kernel_rfl
@[simp] theorem byt81 : E0.byt 81 = some 0 := by kernel_rfl
@[simp] theorem eqo82 : E0.eqo 82 = false := by kernel_rfl
@[simp] theorem mrk82 : E0.mark 82 = false := by kernel_rfl
@[simp] theorem und82 : E0.und 82 = some (TypeDesc.func #[9, 3, 3] #[9, 4] false) := by kernel_rfl
@[simp] theorem siz82 : E0.siz 82 = some 1 := by kernel_rfl
@[simp] theorem byt82 : E0.byt 82 = some 8 := by kernel_rfl
@[simp] theorem zer82 : zeroD E0 82 = some (Value.nilFunc) := by kernel_rfl
@[simp] theorem eqo83 : E0.eqo 83 = false := by kernel_rfl
@[simp] theorem mrk83 : E0.mark 83 = false := by kernel_rfl
@[simp] theorem und83 : E0.und 83 = some (TypeDesc.func #[5] #[4] false) := by kernel_rfl
@[simp] theorem siz83 : E0.siz 83 = some 1 := by kernel_rfl
@[simp] theorem byt83 : E0.byt 83 = some 8 := by kernel_rfl
@[simp] theorem zer83 : zeroD E0 83 = some (Value.nilFunc) := by kernel_rfl
@[simp] theorem eqo84 : E0.eqo 84 = false := by kernel_rfl
@[simp] theorem mrk84 : E0.mark 84 = false := by kernel_rfl
@[simp] theorem und84 : E0.und 84 = some (TypeDesc.func #[9, 5, 9] #[3, 4] false) := by kernel_rfl
@[simp] theorem siz84 : E0.siz 84 = some 1 := by kernel_rfl
@[simp] theorem byt84 : E0.byt 84 = some 8 := by kernel_rfl
@[simp] theorem zer84 : zeroD E0 84 = some (Value.nilFunc) := by kernel_rfl
@[simp] theorem eqo85 : E0.eqo 85 = false := by kernel_rfl
@[simp] theorem mrk85 : E0.mark 85 = false := by kernel_rfl
@[simp] theorem und85 : E0.und 85 = some (TypeDesc.func #[9, 3, 3, 3] #[4] false) := by kernel_rfl
@[simp] theorem siz85 : E0.siz 85 = some 1 := by kernel_rfl
@[simp] theorem byt85 : E0.byt 85 = some 8 := by kernel_rfl
@[simp] theorem zer85 : zeroD E0 85 = some (Value.nilFunc) := by kernel_rfl
@[simp] theorem eqo86 : E0.eqo 86 = false := by kernel_rfl
@[simp] theorem mrk86 : E0.mark 86 = false := by kernel_rfl
@[simp] theorem und86 : E0.und 86 = some (TypeDesc.func #[9, 3, 3, 5] #[3] false) := by kernel_rfl
@[simp] theorem siz86 : E0.siz 86 = some 1 := by kernel_rfl
@[simp] theorem byt86 : E0.byt 86 = some 8 := by kernel_rfl
@[simp] theorem zer86 : zeroD E0 86 = some (Value.nilFunc) := by kernel_rfl
@[simp] theorem eqo87 : E0.eqo 87 = false := by kernel_rfl
@[simp] theorem mrk87 : E0.mark 87 = false := by kernel_rfl
@[simp] theorem und87 : E0.und 87 = some (TypeDesc.func #[9] #[9, 4] false) := by kernel_rfl
@[simp] theorem siz87 : E0.siz 87 = some 1 := by kernel_rfl
@[simp] theorem byt87 : E0.byt 87 = some 8 := by kernel_rfl
@[simp] theorem zer87 : zeroD E0 87 = some (Value.nilFunc) := by kernel_rfl
@[simp] theorem eqo88 : E0.eqo 88 = false := by kernel_rfl
@[simp] theorem mrk88 : E0.mark 88 = false := by kernel_rfl
@[simp] theorem und88 : E0.und 88 = some (TypeDesc.func #[9, 5] #[3] false) := by kernel_rfl
@[simp] theorem siz88 : E0.siz 88 = some 1 := by kernel_rfl
@[simp] theorem byt88 : E0.byt 88 = some 8 := by kernel_rfl
@[simp] theorem zer88 : zeroD E0 88 = some (Value.nilFunc) := by kernel_rfl
@[simp] theorem eqo89 : E0.eqo 89 = false := by kernel_rfl
@[simp] theorem mrk89 : E0.mark 89 = false := by kernel_rfl
@[simp] theorem und89 : E0.und 89 = some (TypeDesc.func #[9] #[4] false) := by kernel_rfl
@[simp] theorem siz89 : E0.siz 89 = some 1 := by kernel_rfl
@[simp] theorem byt89 : E0.byt 89 = some 8 := by kernel_rfl
@[simp] theorem zer89 : zeroD E0 89 = some (Value.nilFunc) := by kernel_rfl
@[simp] theorem eqo90 : E0.eqo 90 = true := by kernel_rfl
@[simp] theorem mrk90 : E0.mark 90 = false := by kernel_rfl
@[simp] theorem und90 : E0.und 90 = some (TypeDesc.array 2 89) := by kernel_rfl
@[simp] theorem siz90 : E0.siz 90 = some 2 := by kernel_rfl
@[simp] theorem byt90 : E0.byt 90 = some 16 := by kernel_rfl
@[simp] theorem zer90 : zeroD E0 90 = some ((Value.agg #[Value.nilFunc, Value.nilFunc])) := by kernel_rfl
@[simp] theorem eqo91 : E0.eqo 91 = false := by kernel_rfl
@[simp] theorem mrk91 : E0.mark 91 = false := by kernel_rfl
@[simp] theorem und91 : E0.und 91 = some (TypeDesc.pointer 59) := by kernel_rfl
@[simp] theorem siz91 : E0.siz 91 = some 1 := by kernel_rfl
@[simp] theorem byt91 : E0.byt 91 = some 8 := by kernel_rfl
@[simp] theorem zer91 : zeroD E0 91 = some ((Value.pointer none)) := by kernel_rfl
@[simp] theorem eqo92 : E0.eqo 92 = false := by kernel_rfl
@[simp] theorem mrk92 : E0.mark 92 = false := by kernel_rfl
@[simp] theorem und92 : E0.und 92 = some (TypeDesc.tuple #[3, 4, 4]) := by kernel_rfl
@[simp] theorem siz92 : E0.siz 92 = some 1 := by kernel_rfl
@[simp] theorem byt92 : E0.byt 92 = some 0 := by kernel_rfl
@[simp] theorem eqo93 : E0.eqo 93 = false := by kernel_rfl
@[simp] theorem mrk93 : E0.mark 93 = false := by kernel_rfl
@[simp] theorem und93 : E0.und 93 = some (TypeDesc.func #[3] #[3, 4, 4] false) := by kernel_rfl
@[simp] theorem siz93 : E0.siz 93 = some 1 := by kernel_rfl
@[simp] theorem byt93 : E0.byt 93 = some 8 := by kernel_rfl
@[simp] theorem zer93 : zeroD E0 93 = some (Value.nilFunc) := by kernel_rfl
@[simp] theorem eqo94 : E0.eqo 94 = false := by kernel_rfl
@[simp] theorem mrk94 : E0.mark 94 = false := by kernel_rfl
@[simp] theorem und94 : E0.und 94 = some TypeDesc.unsafePointer := by kernel_rfl
@[simp] theorem siz94 : E0.siz 94 = some 1 := by kernel_rfl
@[simp] theorem byt94 : E0.byt 94 = some 8 := by kernel_rfl
@[simp] theorem zer94 : zeroD E0 94 = some ((Value.pointer none)) := by kernel_rfl
@[simp] theorem eqo95 : E0.eqo 95 = false := by kernel_rfl
@[simp] theorem mrk95 : E0.mark 95 = false := by kernel_rfl
@[simp] theorem und95 : E0.und 95 = some (TypeDesc.int IntKind.u64) := by kernel_rfl
@[simp] theorem siz95 : E0.siz 95 = some 1 := by kernel_rfl
@[simp] theorem byt95 : E0.byt 95 = some 8 := by kernel_rfl
@[simp] theorem zer95 : zeroD E0 95 = some ((Value.int IntKind.u64 0)) := by kernel_rfl
@[simp] theorem eqo96 : E0.eqo 96 = false := by kernel_rfl
@[simp] theorem mrk96 : E0.mark 96 = false := by kernel_rfl
@[simp] theorem und96 : E0.und 96 = some (TypeDesc.struct #[{ name := "typ_", type := 17, offset := 0, embedded := false, tag := "", pkgPath := "internal/reflectlite", byteOffset := 0 }, { name := "ptr", type := 94, offset := 1, embedded := false, tag := "", pkgPath := "internal/reflectlite", byteOffset := 8 }, { name := "flag", type := 95, offset := 2, embedded := true, tag := "", pkgPath := "internal/reflectlite", byteOffset := 16 }]) := by kernel_rfl
@[simp] theorem siz96 : E0.siz 96 = some 3 := by kernel_rfl
@[simp] theorem byt96 : E0.byt 96 = some 24 := by kernel_rfl
@[simp] theorem zer96 : zeroD E0 96 = some ((Value.agg #[Value.pointer none, Value.pointer none, Value.int IntKind.u64 0])) := by kernel_rfl
@[simp] theorem eqo97 : E0.eqo 97 = false := by kernel_rfl
@[simp] theorem mrk97 : E0.mark 97 = false := by kernel_rfl
@[simp] theorem und97 : E0.und 97 = some (TypeDesc.struct #[{ name := "typ_", type := 17, offset := 0, embedded := false, tag := "", pkgPath := "internal/reflectlite", byteOffset := 0 }, { name := "ptr", type := 94, offset := 1, embedded := false, tag := "", pkgPath := "internal/reflectlite", byteOffset := 8 }, { name := "flag", type := 95, offset := 2, embedded := true, tag := "", pkgPath := "internal/reflectlite", byteOffset := 16 }]) := by kernel_rfl
@[simp] theorem siz97 : E0.siz 97 = some 3 := by kernel_rfl
@[simp] theorem byt97 : E0.byt 97 = some 24 := by kernel_rfl
@[simp] theorem zer97 : zeroD E0 97 = some ((Value.agg #[Value.pointer none, Value.pointer none, Value.int IntKind.u64 0])) := by kernel_rfl
@[simp] theorem eqo98 : E0.eqo 98 = false := by kernel_rfl
@[simp] theorem mrk98 : E0.mark 98 = false := by kernel_rfl
@[simp] theorem und98 : E0.und 98 = some (TypeDesc.func #[20] #[97] false) := by kernel_rfl
@[simp] theorem siz98 : E0.siz 98 = some 1 := by kernel_rfl
@[simp] theorem byt98 : E0.byt 98 = some 8 := by kernel_rfl
@[simp] theorem zer98 : zeroD E0 98 = some (Value.nilFunc) := by kernel_rfl
@[simp] theorem eqo99 : E0.eqo 99 = false := by kernel_rfl
@[simp] theorem mrk99 : E0.mark 99 = false := by kernel_rfl
@[simp] theorem und99 : E0.und 99 = some (TypeDesc.func #[3, 3] #[] false) := by kernel_rfl
@[simp] theorem siz99 : E0.siz 99 = some 1 := by kernel_rfl
@[simp] theorem byt99 : E0.byt 99 = some 8 := by kernel_rfl
@[simp] theorem zer99 : zeroD E0 99 = some (Value.nilFunc) := by kernel_rfl
@[simp] theorem eqo100 : E0.eqo 100 = false := by kernel_rfl
@[simp] theorem mrk100 : E0.mark 100 = false := by kernel_rfl
@[simp] theorem und100 : E0.und 100 = some (TypeDesc.func #[20] #[99] false) := by kernel_rfl
@[simp] theorem siz100 : E0.siz 100 = some 1 := by kernel_rfl
@[simp] theorem byt100 : E0.byt 100 = some 8 := by kernel_rfl
@[simp] theorem zer100 : zeroD E0 100 = some (Value.nilFunc) := by kernel_rfl
@[simp] theorem eqo101 : E0.eqo 101 = false := by kernel_rfl
@[simp] theorem mrk101 : E0.mark 101 = false := by kernel_rfl
@[simp] theorem und101 : E0.und 101 = some (TypeDesc.func #[] #[3] false) := by kernel_rfl
@[simp] theorem siz101 : E0.siz 101 = some 1 := by kernel_rfl
@[simp] theorem byt101 : E0.byt 101 = some 8 := by kernel_rfl
@[simp] theorem zer101 : zeroD E0 101 = some (Value.nilFunc) := by kernel_rfl
@[simp] theorem eqo102 : E0.eqo 102 = false := by kernel_rfl
@[simp] theorem mrk102 : E0.mark 102 = false := by kernel_rfl
@[simp] theorem und102 : E0.und 102 = some (TypeDesc.func #[103] #[3] false) := by kernel_rfl
@[simp] theorem siz102 : E0.siz 102 = some 1 := by kernel_rfl
@[simp] theorem byt102 : E0.byt 102 = some 8 := by kernel_rfl
@[simp] theorem zer102 : zeroD E0 102 = some (Value.nilFunc) := by kernel_rfl
@[simp] theorem eqo103 : E0.eqo 103 = false := by kernel_rfl
@[simp] theorem mrk103 : E0.mark 103 = false := by kernel_rfl
@[simp] theorem und103 : E0.und 103 = some (TypeDesc.int IntKind.u64) := by kernel_rfl
@[simp] theorem siz103 : E0.siz 103 = some 1 := by kernel_rfl
@[simp] theorem byt103 : E0.byt 103 = some 8 := by kernel_rfl
@[simp] theorem zer103 : zeroD E0 103 = some ((Value.int IntKind.u64 0)) := by kernel_rfl
@[simp] theorem eqo104 : E0.eqo 104 = false := by kernel_rfl
@[simp] theorem mrk104 : E0.mark 104 = false := by kernel_rfl
@[simp] theorem und104 : E0.und 104 = some (TypeDesc.func #[106, 3, 3, 3] #[] false) := by kernel_rfl
@[simp] theorem siz104 : E0.siz 104 = some 1 := by kernel_rfl
@[simp] theorem byt104 : E0.byt 104 = some 8 := by kernel_rfl
@[simp] theorem zer104 : zeroD E0 104 = some (Value.nilFunc) := by kernel_rfl
@[simp] theorem eqo105 : E0.eqo 105 = true := by kernel_rfl
@[simp] theorem mrk105 : E0.mark 105 = false := by kernel_rfl
@[simp] theorem und105 : E0.und 105 = some (TypeDesc.struct #[{ name := "Less", type := 70, offset := 0, embedded := false, tag := "", pkgPath := "", byteOffset := 0 }, { name := "Swap", type := 99, offset := 1, embedded := false, tag := "", pkgPath := "", byteOffset := 8 }]) := by kernel_rfl
@[simp] theorem siz105 : E0.siz 105 = some 2 := by kernel_rfl
@[simp] theorem byt105 : E0.byt 105 = some 16 := by kernel_rfl
@[simp] theorem zer105 : zeroD E0 105 = some ((Value.agg #[Value.nilFunc, Value.nilFunc])) := by kernel_rfl
@[simp] theorem eqo106 : E0.eqo 106 = true := by kernel_rfl
@[simp] theorem mrk106 : E0.mark 106 = false := by kernel_rfl
@[simp] theorem und106 : E0.und 106 = some (TypeDesc.struct #[{ name := "Less", type := 70, offset := 0, embedded := false, tag := "", pkgPath := "", byteOffset := 0 }, { name := "Swap", type := 99, offset := 1, embedded := false, tag := "", pkgPath := "", byteOffset := 8 }]) := by kernel_rfl
@[simp] theorem siz106 : E0.siz 106 = some 2 := by kernel_rfl
@[simp] theorem byt106 : E0.byt 106 = some 16 := by kernel_rfl
@[simp] theorem zer106 : zeroD E0 106 = some ((Value.agg #[Value.nilFunc, Value.nilFunc])) := by kernel_rfl
@[simp] theorem eqo107 : E0.eqo 107 = false := by kernel_rfl
@[simp] theorem mrk107 : E0.mark 107 = false := by kernel_rfl
@[simp] theorem und107 : E0.und 107 = some (TypeDesc.func #[9, 26] #[4] false) := by kernel_rfl
@[simp] theorem siz107 : E0.siz 107 = some 1 := by kernel_rfl
@[simp] theorem byt107 : E0.byt 107 = some 8 := by kernel_rfl
@[simp] theorem zer107 : zeroD E0 107 = some (Value.nilFunc) := by kernel_rfl
@[simp] theorem eqo108 : E0.eqo 108 = false := by kernel_rfl
@[simp] theorem mrk108 : E0.mark 108 = false := by kernel_rfl
@[simp] theorem und108 : E0.und 108 = some (TypeDesc.func #[9, 109] #[26] false) := by kernel_rfl
@[simp] theorem siz108 : E0.siz 108 = some 1 := by kernel_rfl
@[simp] theorem byt108 : E0.byt 108 = some 8 := by kernel_rfl
@[simp] theorem zer108 : zeroD E0 108 = some (Value.nilFunc) := by kernel_rfl
@[simp] theorem eqo109 : E0.eqo 109 = false := by kernel_rfl
@[simp] theorem mrk109 : E0.mark 109 = false := by kernel_rfl
@[simp] theorem und109 : E0.und 109 = some (TypeDesc.func #[21] #[4] false) := by kernel_rfl
@[simp] theorem siz109 : E0.siz 109 = some 1 := by kernel_rfl
@[simp] theorem byt109 : E0.byt 109 = some 8 := by kernel_rfl
@[simp] theorem zer109 : zeroD E0 109 = some (Value.nilFunc) := by kernel_rfl
@[simp] theorem eqo110 : E0.eqo 110 = false := by kernel_rfl
@[simp] theorem mrk110 : E0.mark 110 = false := by kernel_rfl
@[simp] theorem und110 : E0.und 110 = some (TypeDesc.func #[26, 9] #[9] false) := by kernel_rfl
@[simp] theorem siz110 : E0.siz 110 = some 1 := by kernel_rfl
@[simp] theorem byt110 : E0.byt 110 = some 8 := by kernel_rfl
@[simp] theorem zer110 : zeroD E0 110 = some (Value.nilFunc) := by kernel_rfl
@[simp] theorem eqo111 : E0.eqo 111 = false := by kernel_rfl
@[simp] theorem mrk111 : E0.mark 111 = false := by kernel_rfl
@[simp] theorem und111 : E0.und 111 = some (TypeDesc.func #[26, 3, 3, 3] #[] false) := by kernel_rfl
@[simp] theorem siz111 : E0.siz 111 = some 1 := by kernel_rfl
@[simp] theorem byt111 : E0.byt 111 = some 8 := by kernel_rfl
@[simp] theorem zer111 : zeroD E0 111 = some (Value.nilFunc) := by kernel_rfl
@[simp] theorem eqo112 : E0.eqo 112 = false := by kernel_rfl
@[simp] theorem mrk112 : E0.mark 112 = false := by kernel_rfl
@[simp] theorem und112 : E0.und 112 = some (TypeDesc.func #[9, 5] #[9] false) := by kernel_rfl
@[simp] theorem siz112 : E0.siz 112 = some 1 := by kernel_rfl
@[simp] theorem byt112 : E0.byt 112 = some 8 := by kernel_rfl
@[simp] theorem zer112 : zeroD E0 112 = some (Value.nilFunc) := by kernel_rfl
@[simp] theorem eqo113 : E0.eqo 113 = true := by kernel_rfl
@[simp] theorem mrk113 : E0.mark 113 = false := by kernel_rfl
@[simp] theorem und113 : E0.und 113 = some (TypeDesc.array 256 4) := by kernel_rfl
@[simp] theorem siz113 : E0.siz 113 = some 256 := by kernel_rfl
@[simp] theorem byt113 : E0.byt 113 = some 256 := by kernel_rfl
@[simp] theorem zer113 : zeroD E0 113 = some ((Value.agg Tryz.zeroCells113)) := by kernel_rfl
@[simp] theorem eqo114 : E0.eqo 114 = true := by kernel_rfl
@[simp] theorem mrk114 : E0.mark 114 = false := by kernel_rfl
@[simp] theorem und114 : E0.und 114 = some (TypeDesc.array 256 4) := by kernel_rfl
@[simp] theorem siz114 : E0.siz 114 = some 256 := by kernel_rfl
@[simp] theorem byt114 : E0.byt 114 = some 256 := by kernel_rfl
@[simp] theorem zer114 : zeroD E0 114 = some ((Value.agg Tryz.zeroCells114)) := by kernel_rfl
@[simp] theorem eqo115 : E0.eqo 115 = false := by kernel_rfl
@[simp] theorem mrk115 : E0.mark 115 = false := by kernel_rfl
@[simp] theorem und115 : E0.und 115 = some (TypeDesc.tuple #[114, 4]) := by kernel_rfl
@[simp] theorem siz115 : E0.siz 115 = some 1 := by kernel_rfl
@[simp] theorem byt115 : E0.byt 115 = some 0 := by kernel_rfl
@[simp] theorem eqo116 : E0.eqo 116 = false := by kernel_rfl
@[simp] theorem mrk116 : E0.mark 116 = false := by kernel_rfl
@[simp] theorem und116 : E0.und 116 = some (TypeDesc.func #[9] #[114, 4] false) := by kernel_rfl
@[simp] theorem siz116 : E0.siz 116 = some 1 := by kernel_rfl
@[simp] theorem byt116 : E0.byt 116 = some 8 := by kernel_rfl
@[simp] theorem zer116 : zeroD E0 116 = some (Value.nilFunc) := by kernel_rfl
@[simp] theorem eqo117 : E0.eqo 117 = false := by kernel_rfl
@[simp] theorem mrk117 : E0.mark 117 = false := by kernel_rfl
@[simp] theorem und117 : E0.und 117 = some (TypeDesc.func #[9, 118] #[9] false) := by kernel_rfl
@[simp] theorem siz117 : E0.siz 117 = some 1 := by kernel_rfl
@[simp] theorem byt117 : E0.byt 117 = some 8 := by kernel_rfl
@[simp] theorem zer117 : zeroD E0 117 = some (Value.nilFunc) := by kernel_rfl
@[simp] theorem eqo118 : E0.eqo 118 = false := by kernel_rfl
@[simp] theorem mrk118 : E0.mark 118 = false := by kernel_rfl
@[simp] theorem und118 : E0.und 118 = some (TypeDesc.pointer 114) := by kernel_rfl
@[simp] theorem siz118 : E0.siz 118 = some 1 := by kernel_rfl
@[simp] theorem byt118 : E0.byt 118 = some 8 := by kernel_rfl
@[simp] theorem zer118 : zeroD E0 118 = some ((Value.pointer none)) := by kernel_rfl
@[simp] theorem eqo119 : E0.eqo 119 = false := by kernel_rfl
@[simp] theorem mrk119 : E0.mark 119 = false := by kernel_rfl
@[simp] theorem und119 : E0.und 119 = some (TypeDesc.func #[9, 83] #[3] false) := by kernel_rfl
@[simp] theorem siz119 : E0.siz 119 = some 1 := by kernel_rfl
@[simp] theorem byt119 : E0.byt 119 = some 8 := by kernel_rfl
@[simp] theorem zer119 : zeroD E0 119 = some (Value.nilFunc) := by kernel_rfl
@[simp] theorem eqo120 : E0.eqo 120 = false := by kernel_rfl
@[simp] theorem mrk120 : E0.mark 120 = false := by kernel_rfl
@[simp] theorem und120 : E0.und 120 = some (TypeDesc.func #[9, 9] #[26] false) := by kernel_rfl
@[simp] theorem siz120 : E0.siz 120 = some 1 := by kernel_rfl
@[simp] theorem byt120 : E0.byt 120 = some 8 := by kernel_rfl
@[simp] theorem zer120 : zeroD E0 120 = some (Value.nilFunc) := by kernel_rfl
@[simp] theorem eqo121 : E0.eqo 121 = false := by kernel_rfl
@[simp] theorem mrk121 : E0.mark 121 = false := by kernel_rfl
@[simp] theorem und121 : E0.und 121 = some (TypeDesc.func #[9, 9] #[9, 4] false) := by kernel_rfl
@[simp] theorem siz121 : E0.siz 121 = some 1 := by kernel_rfl
@[simp] theorem byt121 : E0.byt 121 = some 8 := by kernel_rfl
@[simp] theorem zer121 : zeroD E0 121 = some (Value.nilFunc) := by kernel_rfl
@[simp] theorem eqo122 : E0.eqo 122 = false := by kernel_rfl
@[simp] theorem mrk122 : E0.mark 122 = false := by kernel_rfl
@[simp] theorem und122 : E0.und 122 = some (TypeDesc.struct #[{ name := "Type", type := 17, offset := 0, embedded := true, tag := "", pkgPath := "", byteOffset := 0 }]) := by kernel_rfl
@[simp] theorem siz122 : E0.siz 122 = some 1 := by kernel_rfl
@[simp] theorem byt122 : E0.byt 122 = some 8 := by kernel_rfl
@[simp] theorem zer122 : zeroD E0 122 = some ((Value.agg #[Value.pointer none])) := by kernel_rfl
@[simp] theorem eqo123 : E0.eqo 123 = false := by kernel_rfl
@[simp] theorem mrk123 : E0.mark 123 = false := by kernel_rfl
@[simp] theorem und123 : E0.und 123 = some (TypeDesc.struct #[{ name := "Type", type := 17, offset := 0, embedded := true, tag := "", pkgPath := "", byteOffset := 0 }]) := by kernel_rfl
@[simp] theorem siz123 : E0.siz 123 = some 1 := by kernel_rfl
@[simp] theorem byt123 : E0.byt 123 = some 8 := by kernel_rfl
@[simp] theorem zer123 : zeroD E0 123 = some ((Value.agg #[Value.pointer none])) := by kernel_rfl
@[simp] theorem eqo124 : E0.eqo 124 = false := by kernel_rfl
@[simp] theorem mrk124 : E0.mark 124 = false := by kernel_rfl
@[simp] theorem und124 : E0.und 124 = some (TypeDesc.pointer 199) := by kernel_rfl
@[simp] theorem siz124 : E0.siz 124 = some 1 := by kernel_rfl
@[simp] theorem byt124 : E0.byt 124 = some 8 := by kernel_rfl
@[simp] theorem zer124 : zeroD E0 124 = some ((Value.pointer none)) := by kernel_rfl
@[simp] theorem eqo125 : E0.eqo 125 = false := by kernel_rfl
@[simp] theorem mrk125 : E0.mark 125 = false := by kernel_rfl
@[simp] theorem und125 : E0.und 125 = some (TypeDesc.func #[126] #[3] false) := by kernel_rfl
@[simp] theorem siz125 : E0.siz 125 = some 1 := by kernel_rfl
@[simp] theorem byt125 : E0.byt 125 = some 8 := by kernel_rfl
@[simp] theorem zer125 : zeroD E0 125 = some (Value.nilFunc) := by kernel_rfl
@[simp] theorem eqo126 : E0.eqo 126 = false := by kernel_rfl
@[simp] theorem mrk126 : E0.mark 126 = false := by kernel_rfl
@[simp] theorem und126 : E0.und 126 = some (TypeDesc.int IntKind.u32) := by kernel_rfl
@[simp] theorem siz126 : E0.siz 126 = some 1 := by kernel_rfl
@[simp] theorem byt126 : E0.byt 126 = some 4 := by kernel_rfl
@[simp] theorem zer126 : zeroD E0 126 = some ((Value.int IntKind.u32 0)) := by kernel_rfl
@[simp] theorem eqo127 : E0.eqo 127 = false := by kernel_rfl
@[simp] theorem mrk127 : E0.mark 127 = false := by kernel_rfl
@[simp] theorem und127 : E0.und 127 = some (TypeDesc.func #[128] #[3] false) := by kernel_rfl
@[simp] theorem siz127 : E0.siz 127 = some 1 := by kernel_rfl
@[simp] theorem byt127 : E0.byt 127 = some 8 := by kernel_rfl
@[simp] theorem zer127 : zeroD E0 127 = some (Value.nilFunc) := by kernel_rfl
@[simp] theorem eqo128 : E0.eqo 128 = false := by kernel_rfl
@[simp] theorem mrk128 : E0.mark 128 = false := by kernel_rfl
@[simp] theorem und128 : E0.und 128 = some (TypeDesc.int IntKind.u64) := by kernel_rfl
@[simp] theorem siz128 : E0.siz 128 = some 1 := by kernel_rfl
@[simp] theorem byt128 : E0.byt 128 = some 8 := by kernel_rfl
@[simp] theorem zer128 : zeroD E0 128 = some ((Value.int IntKind.u64 0)) := by kernel_rfl
@[simp] theorem eqo129 : E0.eqo 129 = false := by kernel_rfl
@[simp] theorem mrk129 : E0.mark 129 = false := by kernel_rfl
@[simp] theorem und129 : E0.und 129 = some (TypeDesc.func #[106, 3, 3] #[] false) := by kernel_rfl
@[simp] theorem siz129 : E0.siz 129 = some 1 := by kernel_rfl
@[simp] theorem byt129 : E0.byt 129 = some 8 := by kernel_rfl
@[simp] theorem zer129 : zeroD E0 129 = some (Value.nilFunc) := by kernel_rfl
@[simp] theorem eqo130 : E0.eqo 130 = false := by kernel_rfl
@[simp] theorem mrk130 : E0.mark 130 = false := by kernel_rfl
@[simp] theorem und130 : E0.und 130 = some (TypeDesc.int IntKind.i64) := by kernel_rfl
@[simp] theorem siz130 : E0.siz 130 = some 1 := by kernel_rfl
@[simp] theorem byt130 : E0.byt 130 = some 8 := by kernel_rfl
@[simp] theorem zer130 : zeroD E0 130 = some ((Value.int IntKind.i64 0)) := by kernel_rfl
@[simp] theorem eqo131 : E0.eqo 131 = false := by kernel_rfl
@[simp] theorem mrk131 : E0.mark 131 = false := by kernel_rfl
@[simp] theorem und131 : E0.und 131 = some (TypeDesc.tuple #[3, 130]) := by kernel_rfl
@[simp] theorem siz131 : E0.siz 131 = some 1 := by kernel_rfl
@[simp] theorem byt131 : E0.byt 131 = some 0 := by kernel_rfl
@[simp] theorem eqo132 : E0.eqo 132 = false := by kernel_rfl
@[simp] theorem mrk132 : E0.mark 132 = false := by kernel_rfl
@[simp] theorem und132 : E0.und 132 = some (TypeDesc.func #[106, 3, 3] #[3, 130] false) := by kernel_rfl
@[simp] theorem siz132 : E0.siz 132 = some 1 := by kernel_rfl
@[simp] theorem byt132 : E0.byt 132 = some 8 := by kernel_rfl
@[simp] theorem zer132 : zeroD E0 132 = some (Value.nilFunc) := by kernel_rfl
@[simp] theorem eqo133 : E0.eqo 133 = false := by kernel_rfl
@[simp] theorem mrk133 : E0.mark 133 = false := by kernel_rfl
@[simp] theorem und133 : E0.und 133 = some (TypeDesc.func #[106, 3, 3] #[4] false) := by kernel_rfl
@[simp] theorem siz133 : E0.siz 133 = some 1 := by kernel_rfl
@[simp] theorem byt133 : E0.byt 133 = some 8 := by kernel_rfl
@[simp] theorem zer133 : zeroD E0 133 = some (Value.nilFunc) := by kernel_rfl
@[simp] theorem eqo134 : E0.eqo 134 = false := by kernel_rfl
@[simp] theorem mrk134 : E0.mark 134 = false := by kernel_rfl
@[simp] theorem und134 : E0.und 134 = some (TypeDesc.func #[106, 3, 3, 3] #[3] false) := by kernel_rfl
@[simp] theorem siz134 : E0.siz 134 = some 1 := by kernel_rfl
@[simp] theorem byt134 : E0.byt 134 = some 8 := by kernel_rfl
@[simp] theorem zer134 : zeroD E0 134 = some (Value.nilFunc) := by kernel_rfl
@[simp] theorem eqo135 : E0.eqo 135 = false := by kernel_rfl
@[simp] theorem mrk135 : E0.mark 135 = false := by kernel_rfl
@[simp] theorem und135 : E0.und 135 = some (TypeDesc.func #[106, 3, 3, 3] #[3, 4] false) := by kernel_rfl
@[simp] theorem siz135 : E0.siz 135 = some 1 := by kernel_rfl
@[simp] theorem byt135 : E0.byt 135 = some 8 := by kernel_rfl
@[simp] theorem zer135 : zeroD E0 135 = some (Value.nilFunc) := by kernel_rfl
@[simp] theorem eqo136 : E0.eqo 136 = false := by kernel_rfl
@[simp] theorem mrk136 : E0.mark 136 = false := by kernel_rfl
@[simp] theorem und136 : E0.und 136 = some (TypeDesc.func #[5, 9] #[4] false) := by kernel_rfl
@[simp] theorem siz136 : E0.siz 136 = some 1 := by kernel_rfl
@[simp] theorem byt136 : E0.byt 136 = some 8 := by kernel_rfl
@[simp] theorem zer136 : zeroD E0 136 = some (Value.nilFunc) := by kernel_rfl
@[simp] theorem eqo137 : E0.eqo 137 = false := by kernel_rfl
@[simp] theorem mrk137 : E0.mark 137 = false := by kernel_rfl
@[simp] theorem und137 : E0.und 137 = some (TypeDesc.slice 139) := by kernel_rfl
@[simp] theorem siz137 : E0.siz 137 = some 1 := by kernel_rfl
@[simp] theorem byt137 : E0.byt 137 = some 24 := by kernel_rfl
@[simp] theorem zer137 : zeroD E0 137 = some ((Value.slice none 0 0)) := by kernel_rfl
@[simp] theorem eqo138 : E0.eqo 138 = true := by kernel_rfl
@[simp] theorem mrk138 : E0.mark 138 = false := by kernel_rfl
@[simp] theorem und138 : E0.und 138 = some (TypeDesc.struct #[{ name := "start", type := 3, offset := 0, embedded := false, tag := "", pkgPath := "strings", byteOffset := 0 }, { name := "end", type := 3, offset := 1, embedded := false, tag := "", pkgPath := "strings", byteOffset := 8 }]) := by kernel_rfl
@[simp] theorem siz138 : E0.siz 138 = some 2 := by kernel_rfl
@[simp] theorem byt138 : E0.byt 138 = some 16 := by kernel_rfl
@[simp] theorem zer138 : zeroD E0 138 = some ((Value.agg #[Value.int IntKind.i64 0, Value.int IntKind.i64 0])) := by kernel_rfl
@[simp] theorem eqo139 : E0.eqo 139 = true := by kernel_rfl
@[simp] theorem mrk139 : E0.mark 139 = false := by kernel_rfl
@[simp] theorem und139 : E0.und 139 = some (TypeDesc.struct #[{ name := "start", type := 3, offset := 0, embedded := false, tag := "", pkgPath := "strings", byteOffset := 0 }, { name := "end", type := 3, offset := 1, embedded := false, tag := "", pkgPath := "strings", byteOffset := 8 }]) := by kernel_rfl
@[simp] theorem siz139 : E0.siz 139 = some 2 := by kernel_rfl
@[simp] theorem byt139 : E0.byt 139 = some 16 := by kernel_rfl
@[simp] theorem zer139 : zeroD E0 139 = some ((Value.agg #[Value.int IntKind.i64 0, Value.int IntKind.i64 0])) := by kernel_rfl
@[simp] theorem eqo140 : E0.eqo 140 = false := by kernel_rfl
@[simp] theorem mrk140 : E0.mark 140 = false := by kernel_rfl
@[simp] theorem und140 : E0.und 140 = some (TypeDesc.pointer 142) := by kernel_rfl
@[simp] theorem siz140 : E0.siz 140 = some 1 := by kernel_rfl
@[simp] theorem byt140 : E0.byt 140 = some 8 := by kernel_rfl
@[simp] theorem zer140 : zeroD E0 140 = some ((Value.pointer none)) := by kernel_rfl
@[simp] theorem eqo141 : E0.eqo 141 = true := by kernel_rfl
@[simp] theorem mrk141 : E0.mark 141 = false := by kernel_rfl
@[simp] theorem und141 : E0.und 141 = some (TypeDesc.struct #[{ name := "addr", type := 140, offset := 0, embedded := false, tag := "", pkgPath := "strings", byteOffset := 0 }, { name := "buf", type := 42, offset := 1, embedded := false, tag := "", pkgPath := "strings", byteOffset := 8 }]) := by kernel_rfl
@[simp] theorem siz141 : E0.siz 141 = some 2 := by kernel_rfl
@[simp] theorem byt141 : E0.byt 141 = some 32 := by kernel_rfl
@[simp] theorem zer141 : zeroD E0 141 = some ((Value.agg #[Value.pointer none, Value.slice none 0 0])) := by kernel_rfl
@[simp] theorem eqo142 : E0.eqo 142 = true := by kernel_rfl
@[simp] theorem mrk142 : E0.mark 142 = true := by kernel_rfl
@[simp] theorem und142 : E0.und 142 = some (TypeDesc.struct #[{ name := "addr", type := 140, offset := 0, embedded := false, tag := "", pkgPath := "strings", byteOffset := 0 }, { name := "buf", type := 42, offset := 1, embedded := false, tag := "", pkgPath := "strings", byteOffset := 8 }]) := by kernel_rfl
@[simp] theorem siz142 : E0.siz 142 = some 2 := by kernel_rfl
@[simp] theorem byt142 : E0.byt 142 = some 32 := by kernel_rfl
@[simp] theorem zer142 : zeroD E0 142 = some ((Value.agg #[Value.pointer none, Value.slice none 0 0])) := by kernel_rfl
@[simp] theorem eqo143 : E0.eqo 143 = false := by kernel_rfl
@[simp] theorem mrk143 : E0.mark 143 = false := by kernel_rfl
@[simp] theorem und143 : E0.und 143 = some (TypeDesc.func #[3] #[] false) := by kernel_rfl
@[simp] theorem siz143 : E0.siz 143 = some 1 := by kernel_rfl
@[simp] theorem byt143 : E0.byt 143 = some 8 := by kernel_rfl
@[simp] theorem zer143 : zeroD E0 143 = some (Value.nilFunc) := by kernel_rfl
@[simp] theorem eqo144 : E0.eqo 144 = false := by kernel_rfl
@[simp] theorem mrk144 : E0.mark 144 = false := by kernel_rfl
@[simp] theorem und144 : E0.und 144 = some (TypeDesc.interface #[("Error", 148)]) := by kernel_rfl
@[simp] theorem siz144 : E0.siz 144 = some 1 := by kernel_rfl
@[simp] theorem byt144 : E0.byt 144 = some 16 := by kernel_rfl
@[simp] theorem zer144 : zeroD E0 144 = some (Value.nilIface) := by kernel_rfl
@[simp] theorem eqo145 : E0.eqo 145 = false := by kernel_rfl
@[simp] theorem mrk145 : E0.mark 145 = false := by kernel_rfl
@[simp] theorem und145 : E0.und 145 = some (TypeDesc.interface #[("Error", 148)]) := by kernel_rfl
@[simp] theorem siz145 : E0.siz 145 = some 1 := by kernel_rfl
@[simp] theorem byt145 : E0.byt 145 = some 16 := by kernel_rfl
@[simp] theorem zer145 : zeroD E0 145 = some (Value.nilIface) := by kernel_rfl
@[simp] theorem eqo146 : E0.eqo 146 = false := by kernel_rfl
@[simp] theorem mrk146 : E0.mark 146 = false := by kernel_rfl
@[simp] theorem und146 : E0.und 146 = some (TypeDesc.tuple #[3, 145]) := by kernel_rfl
@[simp] theorem siz146 : E0.siz 146 = some 1 := by kernel_rfl
@[simp] theorem byt146 : E0.byt 146 = some 0 := by kernel_rfl
@[simp] theorem eqo147 : E0.eqo 147 = false := by kernel_rfl
@[simp] theorem mrk147 : E0.mark 147 = false := by kernel_rfl
@[simp] theorem und147 : E0.und 147 = some (TypeDesc.func #[9] #[3, 145] false) := by kernel_rfl
@[simp] theorem siz147 : E0.siz 147 = some 1 := by kernel_rfl
@[simp] theorem byt147 : E0.byt 147 = some 8 := by kernel_rfl
@[simp] theorem zer147 : zeroD E0 147 = some (Value.nilFunc) := by kernel_rfl
@[simp] theorem eqo148 : E0.eqo 148 = false := by kernel_rfl
@[simp] theorem mrk148 : E0.mark 148 = false := by kernel_rfl
@[simp] theorem und148 : E0.und 148 = some (TypeDesc.func #[] #[9] false) := by kernel_rfl
@[simp] theorem siz148 : E0.siz 148 = some 1 := by kernel_rfl
@[simp] theorem byt148 : E0.byt 148 = some 8 := by kernel_rfl
@[simp] theorem zer148 : zeroD E0 148 = some (Value.nilFunc) := by kernel_rfl
@[simp] theorem eqo149 : E0.eqo 149 = false := by kernel_rfl
@[simp] theorem mrk149 : E0.mark 149 = false := by kernel_rfl
@[simp] theorem und149 : E0.und 149 = some (TypeDesc.func #[26, 3, 3] #[] false) := by kernel_rfl
@[simp] theorem siz149 : E0.siz 149 = some 1 := by kernel_rfl
@[simp] theorem byt149 : E0.byt 149 = some 8 := by kernel_rfl
@[simp] theorem zer149 : zeroD E0 149 = some (Value.nilFunc) := by kernel_rfl
@[simp] theorem eqo150 : E0.eqo 150 = false := by kernel_rfl
@[simp] theorem mrk150 : E0.mark 150 = false := by kernel_rfl
@[simp] theorem und150 : E0.und 150 = some (TypeDesc.int IntKind.i64) := by kernel_rfl
@[simp] theorem siz150 : E0.siz 150 = some 1 := by kernel_rfl
@[simp] theorem byt150 : E0.byt 150 = some 8 := by kernel_rfl
@[simp] theorem zer150 : zeroD E0 150 = some ((Value.int IntKind.i64 0)) := by kernel_rfl
@[simp] theorem eqo151 : E0.eqo 151 = false := by kernel_rfl
@[simp] theorem mrk151 : E0.mark 151 = false := by kernel_rfl
@[simp] theorem und151 : E0.und 151 = some (TypeDesc.tuple #[3, 150]) := by kernel_rfl
@[simp] theorem siz151 : E0.siz 151 = some 1 := by kernel_rfl
@[simp] theorem byt151 : E0.byt 151 = some 0 := by kernel_rfl
@[simp] theorem eqo152 : E0.eqo 152 = false := by kernel_rfl
@[simp] theorem mrk152 : E0.mark 152 = false := by kernel_rfl
@[simp] theorem und152 : E0.und 152 = some (TypeDesc.func #[26, 3, 3] #[3, 150] false) := by kernel_rfl
@[simp] theorem siz152 : E0.siz 152 = some 1 := by kernel_rfl
@[simp] theorem byt152 : E0.byt 152 = some 8 := by kernel_rfl
@[simp] theorem zer152 : zeroD E0 152 = some (Value.nilFunc) := by kernel_rfl
@[simp] theorem eqo153 : E0.eqo 153 = false := by kernel_rfl
@[simp] theorem mrk153 : E0.mark 153 = false := by kernel_rfl
@[simp] theorem und153 : E0.und 153 = some (TypeDesc.func #[26, 3, 3] #[4] false) := by kernel_rfl
@[simp] theorem siz153 : E0.siz 153 = some 1 := by kernel_rfl
@[simp] theorem byt153 : E0.byt 153 = some 8 := by kernel_rfl
@[simp] theorem zer153 : zeroD E0 153 = some (Value.nilFunc) := by kernel_rfl
@[simp] theorem eqo154 : E0.eqo 154 = false := by kernel_rfl
@[simp] theorem mrk154 : E0.mark 154 = false := by kernel_rfl
@[simp] theorem und154 : E0.und 154 = some (TypeDesc.func #[26, 3, 3, 3] #[3] false) := by kernel_rfl
@[simp] theorem siz154 : E0.siz 154 = some 1 := by kernel_rfl
@[simp] theorem byt154 : E0.byt 154 = some 8 := by kernel_rfl
@[simp] theorem zer154 : zeroD E0 154 = some (Value.nilFunc) := by kernel_rfl
@[simp] theorem eqo155 : E0.eqo 155 = false := by kernel_rfl
@[simp] theorem mrk155 : E0.mark 155 = false := by kernel_rfl
@[simp] theorem und155 : E0.und 155 = some (TypeDesc.func #[26, 3, 3, 3] #[3, 4] false) := by kernel_rfl
@[simp] theorem siz155 : E0.siz 155 = some 1 := by kernel_rfl
@[simp] theorem byt155 : E0.byt 155 = some 8 := by kernel_rfl
@[simp] theorem zer155 : zeroD E0 155 = some (Value.nilFunc) := by kernel_rfl
@[simp] theorem eqo156 : E0.eqo 156 = false := by kernel_rfl
@[simp] theorem mrk156 : E0.mark 156 = false := by kernel_rfl
@[simp] theorem und156 : E0.und 156 = some (TypeDesc.func #[9, 9] #[3] false) := by kernel_rfl
@[simp] theorem siz156 : E0.siz 156 = some 1 := by kernel_rfl
@[simp] theorem byt156 : E0.byt 156 = some 8 := by kernel_rfl
@[simp] theorem zer156 : zeroD E0 156 = some (Value.nilFunc) := by kernel_rfl
@[simp] theorem eqo157 : E0.eqo 157 = false := by kernel_rfl
@[simp] theorem mrk157 : E0.mark 157 = false := by kernel_rfl
@[simp] theorem und157 : E0.und 157 = some (TypeDesc.tuple #[21, 3]) := by kernel_rfl
@[simp] theorem siz157 : E0.siz 157 = some 1 := by kernel_rfl
@[simp] theorem byt157 : E0.byt 157 = some 0 := by kernel_rfl
@[simp] theorem eqo158 : E0.eqo 158 = false := by kernel_rfl
@[simp] theorem mrk158 : E0.mark 158 = false := by kernel_rfl
@[simp] theorem und158 : E0.und 158 = some (TypeDesc.func #[9] #[21, 3] false) := by kernel_rfl
@[simp] theorem siz158 : E0.siz 158 = some 1 := by kernel_rfl
@[simp] theorem byt158 : E0.byt 158 = some 8 := by kernel_rfl
@[simp] theorem zer158 : zeroD E0 158 = some (Value.nilFunc) := by kernel_rfl
@[simp] theorem eqo159 : E0.eqo 159 = false := by kernel_rfl
@[simp] theorem mrk159 : E0.mark 159 = false := by kernel_rfl
@[simp] theorem und159 : E0.und 159 = some (TypeDesc.func #[9, 21] #[4] false) := by kernel_rfl
@[simp] theorem siz159 : E0.siz 159 = some 1 := by kernel_rfl
@[simp] theorem byt159 : E0.byt 159 = some 8 := by kernel_rfl
@[simp] theorem zer159 : zeroD E0 159 = some (Value.nilFunc) := by kernel_rfl
@[simp] theorem eqo160 : E0.eqo 160 = false := by kernel_rfl
@[simp] theorem mrk160 : E0.mark 160 = false := by kernel_rfl
@[simp] theorem und160 : E0.und 160 = some (TypeDesc.func #[9, 9, 3, 3] #[26] false) := by kernel_rfl
@[simp] theorem siz160 : E0.siz 160 = some 1 := by kernel_rfl
@[simp] theorem byt160 : E0.byt 160 = some 8 := by kernel_rfl
@[simp] theorem zer160 : zeroD E0 160 = some (Value.nilFunc) := by kernel_rfl
@[simp] theorem eqo161 : E0.eqo 161 = false := by kernel_rfl
@[simp] theorem mrk161 : E0.mark 161 = false := by kernel_rfl
@[simp] theorem und161 : E0.und 161 = some (TypeDesc.int IntKind.u64) := by kernel_rfl
@[simp] theorem siz161 : E0.siz 161 = some 1 := by kernel_rfl
@[simp] theorem byt161 : E0.byt 161 = some 8 := by kernel_rfl
@[simp] theorem zer161 : zeroD E0 161 = some ((Value.int IntKind.u64 0)) := by kernel_rfl
@[simp] theorem eqo162 : E0.eqo 162 = false := by kernel_rfl
@[simp] theorem mrk162 : E0.mark 162 = false := by kernel_rfl
@[simp] theorem und162 : E0.und 162 = some (TypeDesc.func #[3] #[103] false) := by kernel_rfl
@[simp] theorem siz162 : E0.siz 162 = some 1 := by kernel_rfl
@[simp] theorem byt162 : E0.byt 162 = some 8 := by kernel_rfl
@[simp] theorem zer162 : zeroD E0 162 = some (Value.nilFunc) := by kernel_rfl
@[simp] theorem eqo163 : E0.eqo 163 = false := by kernel_rfl
@[simp] theorem mrk163 : E0.mark 163 = false := by kernel_rfl
@[simp] theorem und163 : E0.und 163 = some (TypeDesc.func #[] #[128] false) := by kernel_rfl
@[simp] theorem siz163 : E0.siz 163 = some 1 := by kernel_rfl
@[simp] theorem byt163 : E0.byt 163 = some 8 := by kernel_rfl
@[simp] theorem zer163 : zeroD E0 163 = some (Value.nilFunc) := by kernel_rfl
@[simp] theorem eqo164 : E0.eqo 164 = false := by kernel_rfl
@[simp] theorem mrk164 : E0.mark 164 = false := by kernel_rfl
@[simp] theorem und164 : E0.und 164 = some (TypeDesc.func #[106, 3, 165] #[3] false) := by kernel_rfl
@[simp] theorem siz164 : E0.siz 164 = some 1 := by kernel_rfl
@[simp] theorem byt164 : E0.byt 164 = some 8 := by kernel_rfl
@[simp] theorem zer164 : zeroD E0 164 = some (Value.nilFunc) := by kernel_rfl
@[simp] theorem eqo165 : E0.eqo 165 = false := by kernel_rfl
@[simp] theorem mrk165 : E0.mark 165 = false := by kernel_rfl
@[simp] theorem und165 : E0.und 165 = some (TypeDesc.pointer 3) := by kernel_rfl
@[simp] theorem siz165 : E0.siz 165 = some 1 := by kernel_rfl
@[simp] theorem byt165 : E0.byt 165 = some 8 := by kernel_rfl
@[simp] theorem zer165 : zeroD E0 165 = some ((Value.pointer none)) := by kernel_rfl
@[simp] theorem eqo166 : E0.eqo 166 = false := by kernel_rfl
@[simp] theorem mrk166 : E0.mark 166 = false := by kernel_rfl
@[simp] theorem und166 : E0.und 166 = some (TypeDesc.func #[106, 3, 3, 3, 165] #[3] false) := by kernel_rfl
@[simp] theorem siz166 : E0.siz 166 = some 1 := by kernel_rfl
@[simp] theorem byt166 : E0.byt 166 = some 8 := by kernel_rfl
@[simp] theorem zer166 : zeroD E0 166 = some (Value.nilFunc) := by kernel_rfl
@[simp] theorem eqo167 : E0.eqo 167 = false := by kernel_rfl
@[simp] theorem mrk167 : E0.mark 167 = false := by kernel_rfl
@[simp] theorem und167 : E0.und 167 = some (TypeDesc.pointer 5) := by kernel_rfl
@[simp] theorem siz167 : E0.siz 167 = some 1 := by kernel_rfl
@[simp] theorem byt167 : E0.byt 167 = some 8 := by kernel_rfl
@[simp] theorem zer167 : zeroD E0 167 = some ((Value.pointer none)) := by kernel_rfl
@[simp] theorem eqo168 : E0.eqo 168 = false := by kernel_rfl
@[simp] theorem mrk168 : E0.mark 168 = false := by kernel_rfl
@[simp] theorem und168 : E0.und 168 = some (TypeDesc.int IntKind.u64) := by kernel_rfl
@[simp] theorem siz168 : E0.siz 168 = some 1 := by kernel_rfl
@[simp] theorem byt168 : E0.byt 168 = some 8 := by kernel_rfl
@[simp] theorem zer168 : zeroD E0 168 = some ((Value.int IntKind.u64 0)) := by kernel_rfl
@[simp] theorem eqo169 : E0.eqo 169 = false := by kernel_rfl
@[simp] theorem mrk169 : E0.mark 169 = false := by kernel_rfl
@[simp] theorem und169 : E0.und 169 = some (TypeDesc.func #[26, 3, 165] #[3] false) := by kernel_rfl
@[simp] theorem siz169 : E0.siz 169 = some 1 := by kernel_rfl
@[simp] theorem byt169 : E0.byt 169 = some 8 := by kernel_rfl
@[simp] theorem zer169 : zeroD E0 169 = some (Value.nilFunc) := by kernel_rfl
@[simp] theorem eqo170 : E0.eqo 170 = false := by kernel_rfl
@[simp] theorem mrk170 : E0.mark 170 = false := by kernel_rfl
@[simp] theorem und170 : E0.und 170 = some (TypeDesc.func #[26, 3, 3, 3, 165] #[3] false) := by kernel_rfl
@[simp] theorem siz170 : E0.siz 170 = some 1 := by kernel_rfl
@[simp] theorem byt170 : E0.byt 170 = some 8 := by kernel_rfl
@[simp] theorem zer170 : zeroD E0 170 = some (Value.nilFunc) := by kernel_rfl
@[simp] theorem eqo171 : E0.eqo 171 = false := by kernel_rfl
@[simp] theorem mrk171 : E0.mark 171 = false := by kernel_rfl
@[simp] theorem und171 : E0.und 171 = some (TypeDesc.func #[9, 21] #[3] false) := by kernel_rfl
@[simp] theorem siz171 : E0.siz 171 = some 1 := by kernel_rfl
@[simp] theorem byt171 : E0.byt 171 = some 8 := by kernel_rfl
@[simp] theorem zer171 : zeroD E0 171 = some (Value.nilFunc) := by kernel_rfl
@[simp] theorem eqo172 : E0.eqo 172 = false := by kernel_rfl
@[simp] theorem mrk172 : E0.mark 172 = false := by kernel_rfl
@[simp] theorem und172 : E0.und 172 = some (TypeDesc.func #[9, 3] #[26] false) := by kernel_rfl
@[simp] theorem siz172 : E0.siz 172 = some 1 := by kernel_rfl
@[simp] theorem byt172 : E0.byt 172 = some 8 := by kernel_rfl
@[simp] theorem zer172 : zeroD E0 172 = some (Value.nilFunc) := by kernel_rfl
@[simp] theorem eqo173 : E0.eqo 173 = false := by kernel_rfl
@[simp] theorem mrk173 : E0.mark 173 = false := by kernel_rfl
@[simp] theorem und173 : E0.und 173 = some (TypeDesc.pointer 161) := by kernel_rfl
@[simp] theorem siz173 : E0.siz 173 = some 1 := by kernel_rfl
@[simp] theorem byt173 : E0.byt 173 = some 8 := by kernel_rfl
@[simp] theorem zer173 : zeroD E0 173 = some ((Value.pointer none)) := by kernel_rfl
@[simp] theorem eqo174 : E0.eqo 174 = false := by kernel_rfl
@[simp] theorem mrk174 : E0.mark 174 = false := by kernel_rfl
@[simp] theorem und174 : E0.und 174 = some (TypeDesc.tuple #[3, 3]) := by kernel_rfl
@[simp] theorem siz174 : E0.siz 174 = some 1 := by kernel_rfl
@[simp] theorem byt174 : E0.byt 174 = some 0 := by kernel_rfl
@[simp] theorem eqo175 : E0.eqo 175 = false := by kernel_rfl
@[simp] theorem mrk175 : E0.mark 175 = false := by kernel_rfl
@[simp] theorem und175 : E0.und 175 = some (TypeDesc.func #[106, 3, 3, 165] #[3, 3] false) := by kernel_rfl
@[simp] theorem siz175 : E0.siz 175 = some 1 := by kernel_rfl
@[simp] theorem byt175 : E0.byt 175 = some 8 := by kernel_rfl
@[simp] theorem zer175 : zeroD E0 175 = some (Value.nilFunc) := by kernel_rfl
@[simp] theorem eqo176 : E0.eqo 176 = false := by kernel_rfl
@[simp] theorem mrk176 : E0.mark 176 = false := by kernel_rfl
@[simp] theorem und176 : E0.und 176 = some (TypeDesc.func #[94] #[94] false) := by kernel_rfl
@[simp] theorem siz176 : E0.siz 176 = some 1 := by kernel_rfl
@[simp] theorem byt176 : E0.byt 176 = some 8 := by kernel_rfl
@[simp] theorem zer176 : zeroD E0 176 = some (Value.nilFunc) := by kernel_rfl
@[simp] theorem eqo177 : E0.eqo 177 = false := by kernel_rfl
@[simp] theorem mrk177 : E0.mark 177 = false := by kernel_rfl
@[simp] theorem und177 : E0.und 177 = some (TypeDesc.func #[3] #[42] false) := by kernel_rfl
@[simp] theorem siz177 : E0.siz 177 = some 1 := by kernel_rfl
@[simp] theorem byt177 : E0.byt 177 = some 8 := by kernel_rfl
@[simp] theorem zer177 : zeroD E0 177 = some (Value.nilFunc) := by kernel_rfl
@[simp] theorem eqo178 : E0.eqo 178 = false := by kernel_rfl
@[simp] theorem mrk178 : E0.mark 178 = false := by kernel_rfl
@[simp] theorem und178 : E0.und 178 = some (TypeDesc.pointer 168) := by kernel_rfl
@[simp] theorem siz178 : E0.siz 178 = some 1 := by kernel_rfl
@[simp] theorem byt178 : E0.byt 178 = some 8 := by kernel_rfl
@[simp] theorem zer178 : zeroD E0 178 = some ((Value.pointer none)) := by kernel_rfl
@[simp] theorem eqo179 : E0.eqo 179 = false := by kernel_rfl
@[simp] theorem mrk179 : E0.mark 179 = false := by kernel_rfl
@[simp] theorem und179 : E0.und 179 = some (TypeDesc.func #[26, 3, 3, 165] #[3, 3] false) := by kernel_rfl
@[simp] theorem siz179 : E0.siz 179 = some 1 := by kernel_rfl
@[simp] theorem byt179 : E0.byt 179 = some 8 := by kernel_rfl
@[simp] theorem zer179 : zeroD E0 179 = some (Value.nilFunc) := by kernel_rfl
@[simp] theorem eqo180 : E0.eqo 180 = false := by kernel_rfl
@[simp] theorem mrk180 : E0.mark 180 = false := by kernel_rfl
@[simp] theorem und180 : E0.und 180 = some (TypeDesc.tuple #[126, 126]) := by kernel_rfl
@[simp] theorem siz180 : E0.siz 180 = some 1 := by kernel_rfl
@[simp] theorem byt180 : E0.byt 180 = some 0 := by kernel_rfl
@[simp] theorem eqo181 : E0.eqo 181 = false := by kernel_rfl
@[simp] theorem mrk181 : E0.mark 181 = false := by kernel_rfl
@[simp] theorem und181 : E0.und 181 = some (TypeDesc.func #[9] #[126, 126] false) := by kernel_rfl
@[simp] theorem siz181 : E0.siz 181 = some 1 := by kernel_rfl
@[simp] theorem byt181 : E0.byt 181 = some 8 := by kernel_rfl
@[simp] theorem zer181 : zeroD E0 181 = some (Value.nilFunc) := by kernel_rfl
@[simp] theorem eqo182 : E0.eqo 182 = true := by kernel_rfl
@[simp] theorem mrk182 : E0.mark 182 = false := by kernel_rfl
@[simp] theorem und182 : E0.und 182 = some (TypeDesc.array 256 5) := by kernel_rfl
@[simp] theorem siz182 : E0.siz 182 = some 256 := by kernel_rfl
@[simp] theorem byt182 : E0.byt 182 = some 256 := by kernel_rfl
@[simp] theorem zer182 : zeroD E0 182 = some ((Value.agg Tryz.zeroCells182)) := by kernel_rfl
@[simp] theorem eqo183 : E0.eqo 183 = true := by kernel_rfl
@[simp] theorem mrk183 : E0.mark 183 = false := by kernel_rfl
@[simp] theorem und183 : E0.und 183 = some (TypeDesc.struct #[{ name := "lo", type := 5, offset := 0, embedded := false, tag := "", pkgPath := "unicode/utf8", byteOffset := 0 }, { name := "hi", type := 5, offset := 1, embedded := false, tag := "", pkgPath := "unicode/utf8", byteOffset := 1 }]) := by kernel_rfl
@[simp] theorem siz183 : E0.siz 183 = some 2 := by kernel_rfl
@[simp] theorem byt183 : E0.byt 183 = some 2 := by kernel_rfl
@[simp] theorem zer183 : zeroD E0 183 = some ((Value.agg #[Value.int IntKind.u8 0, Value.int IntKind.u8 0])) := by kernel_rfl
@[simp] theorem eqo184 : E0.eqo 184 = true := by kernel_rfl
@[simp] theorem mrk184 : E0.mark 184 = false := by kernel_rfl
@[simp] theorem und184 : E0.und 184 = some (TypeDesc.struct #[{ name := "lo", type := 5, offset := 0, embedded := false, tag := "", pkgPath := "unicode/utf8", byteOffset := 0 }, { name := "hi", type := 5, offset := 1, embedded := false, tag := "", pkgPath := "unicode/utf8", byteOffset := 1 }]) := by kernel_rfl
@[simp] theorem siz184 : E0.siz 184 = some 2 := by kernel_rfl
@[simp] theorem byt184 : E0.byt 184 = some 2 := by kernel_rfl
@[simp] theorem zer184 : zeroD E0 184 = some ((Value.agg #[Value.int IntKind.u8 0, Value.int IntKind.u8 0])) := by kernel_rfl
@[simp] theorem eqo185 : E0.eqo 185 = true := by kernel_rfl
@[simp] theorem mrk185 : E0.mark 185 = false := by kernel_rfl
@[simp] theorem und185 : E0.und 185 = some (TypeDesc.array 16 184) := by kernel_rfl
@[simp] theorem siz185 : E0.siz 185 = some 32 := by kernel_rfl
@[simp] theorem byt185 : E0.byt 185 = some 32 := by kernel_rfl
@[simp] theorem zer185 : zeroD E0 185 = some ((Value.agg #[Value.int IntKind.u8 0, Value.int IntKind.u8 0, Value.int IntKind.u8 0, Value.int IntKind.u8 0, Value.int IntKind.u8 0, Value.int IntKind.u8 0, Value.int IntKind.u8 0, Value.int IntKind.u8 0, Value.int IntKind.u8 0, Value.int IntKind.u8 0, Value.int IntKind.u8 0, Value.int IntKind.u8 0, Value.int IntKind.u8 0, Value.int IntKind.u8 0, Value.int IntKind.u8 0, Value.int IntKind.u8 0, Value.int IntKind.u8 0, Value.int IntKind.u8 0, Value.int IntKind.u8 0, Value.int IntKind.u8 0, Value.int IntKind.u8 0, Value.int IntKind.u8 0, Value.int IntKind.u8 0, Value.int IntKind.u8 0, Value.int IntKind.u8 0, Value.int IntKind.u8 0, Value.int IntKind.u8 0, Value.int IntKind.u8 0, Value.int IntKind.u8 0, Value.int IntKind.u8 0, Value.int IntKind.u8 0, Value.int IntKind.u8 0])) := by kernel_rfl
@[simp] theorem eqo186 : E0.eqo 186 = false := by kernel_rfl
@[simp] theorem mrk186 : E0.mark 186 = false := by kernel_rfl
@[simp] theorem und186 : E0.und 186 = some (TypeDesc.struct #[{ name := "_interface", type := 17, offset := 0, embedded := false, tag := "", pkgPath := "runtime", byteOffset := 0 }, { name := "concrete", type := 17, offset := 1, embedded := false, tag := "", pkgPath := "runtime", byteOffset := 8 }, { name := "asserted", type := 17, offset := 2, embedded := false, tag := "", pkgPath := "runtime", byteOffset := 16 }, { name := "missingMethod", type := 9, offset := 3, embedded := false, tag := "", pkgPath := "runtime", byteOffset := 24 }]) := by kernel_rfl
@[simp] theorem siz186 : E0.siz 186 = some 4 := by kernel_rfl
@[simp] theorem byt186 : E0.byt 186 = some 40 := by kernel_rfl
@[simp] theorem zer186 : zeroD E0 186 = some ((Value.agg #[Value.pointer none, Value.pointer none, Value.pointer none, Value.string { data := #[] }])) := by kernel_rfl
@[simp] theorem eqo187 : E0.eqo 187 = false := by kernel_rfl
@[simp] theorem mrk187 : E0.mark 187 = false := by kernel_rfl
@[simp] theorem und187 : E0.und 187 = some (TypeDesc.struct #[{ name := "_interface", type := 17, offset := 0, embedded := false, tag := "", pkgPath := "runtime", byteOffset := 0 }, { name := "concrete", type := 17, offset := 1, embedded := false, tag := "", pkgPath := "runtime", byteOffset := 8 }, { name := "asserted", type := 17, offset := 2, embedded := false, tag := "", pkgPath := "runtime", byteOffset := 16 }, { name := "missingMethod", type := 9, offset := 3, embedded := false, tag := "", pkgPath := "runtime", byteOffset := 24 }]) := by kernel_rfl
@[simp] theorem siz187 : E0.siz 187 = some 4 := by kernel_rfl
@[simp] theorem byt187 : E0.byt 187 = some 40 := by kernel_rfl
@[simp] theorem zer187 : zeroD E0 187 = some ((Value.agg #[Value.pointer none, Value.pointer none, Value.pointer none, Value.string { data := #[] }])) := by kernel_rfl
@[simp] theorem eqo188 : E0.eqo 188 = true := by kernel_rfl
@[simp] theorem mrk188 : E0.mark 188 = false := by kernel_rfl
@[simp] theorem und188 : E0.und 188 = some (TypeDesc.array 0 16) := by kernel_rfl
@[simp] theorem siz188 : E0.siz 188 = some 0 := by kernel_rfl
@[simp] theorem byt188 : E0.byt 188 = some 0 := by kernel_rfl
@[simp] theorem zer188 : zeroD E0 188 = some ((Value.agg #[])) := by kernel_rfl
@[simp] theorem eqo189 : E0.eqo 189 = false := by kernel_rfl
@[simp] theorem mrk189 : E0.mark 189 = false := by kernel_rfl
@[simp] theorem und189 : E0.und 189 = some (TypeDesc.struct #[{ name := "_", type := 188, offset := 0, embedded := false, tag := "", pkgPath := "runtime", byteOffset := 0 }]) := by kernel_rfl
@[simp] theorem siz189 : E0.siz 189 = some 0 := by kernel_rfl
@[simp] theorem byt189 : E0.byt 189 = some 0 := by kernel_rfl
@[simp] theorem zer189 : zeroD E0 189 = some ((Value.agg #[])) := by kernel_rfl
@[simp] theorem eqo190 : E0.eqo 190 = false := by kernel_rfl
@[simp] theorem mrk190 : E0.mark 190 = false := by kernel_rfl
@[simp] theorem und190 : E0.und 190 = some (TypeDesc.struct #[{ name := "_", type := 188, offset := 0, embedded := false, tag := "", pkgPath := "runtime", byteOffset := 0 }]) := by kernel_rfl
@[simp] theorem siz190 : E0.siz 190 = some 0 := by kernel_rfl
@[simp] theorem byt190 : E0.byt 190 = some 0 := by kernel_rfl
@[simp] theorem zer190 : zeroD E0 190 = some ((Value.agg #[])) := by kernel_rfl
@[simp] theorem eqo191 : E0.eqo 191 = false := by kernel_rfl
@[simp] theorem mrk191 : E0.mark 191 = false := by kernel_rfl
@[simp] theorem und191 : E0.und 191 = some (TypeDesc.int IntKind.u8) := by kernel_rfl
@[simp] theorem siz191 : E0.siz 191 = some 1 := by kernel_rfl
@[simp] theorem byt191 : E0.byt 191 = some 1 := by kernel_rfl
@[simp] theorem zer191 : zeroD E0 191 = some ((Value.int IntKind.u8 0)) := by kernel_rfl
@[simp] theorem eqo192 : E0.eqo 192 = false := by kernel_rfl
@[simp] theorem mrk192 : E0.mark 192 = false := by kernel_rfl
@[simp] theorem und192 : E0.und 192 = some (TypeDesc.int IntKind.u8) := by kernel_rfl
@[simp] theorem siz192 : E0.siz 192 = some 1 := by kernel_rfl
@[simp] theorem byt192 : E0.byt 192 = some 1 := by kernel_rfl
@[simp] theorem zer192 : zeroD E0 192 = some ((Value.int IntKind.u8 0)) := by kernel_rfl
@[simp] theorem eqo193 : E0.eqo 193 = false := by kernel_rfl
@[simp] theorem mrk193 : E0.mark 193 = false := by kernel_rfl
@[simp] theorem und193 : E0.und 193 = some (TypeDesc.func #[94, 94] #[4] false) := by kernel_rfl
@[simp] theorem siz193 : E0.siz 193 = some 1 := by kernel_rfl
@[simp] theorem byt193 : E0.byt 193 = some 8 := by kernel_rfl
@[simp] theorem zer193 : zeroD E0 193 = some (Value.nilFunc) := by kernel_rfl
@[simp] theorem eqo194 : E0.eqo 194 = false := by kernel_rfl
@[simp] theorem mrk194 : E0.mark 194 = false := by kernel_rfl
@[simp] theorem und194 : E0.und 194 = some (TypeDesc.int IntKind.i32) := by kernel_rfl
@[simp] theorem siz194 : E0.siz 194 = some 1 := by kernel_rfl
@[simp] theorem byt194 : E0.byt 194 = some 4 := by kernel_rfl
@[simp] theorem zer194 : zeroD E0 194 = some ((Value.int IntKind.i32 0)) := by kernel_rfl
@[simp] theorem eqo195 : E0.eqo 195 = false := by kernel_rfl
@[simp] theorem mrk195 : E0.mark 195 = false := by kernel_rfl
@[simp] theorem und195 : E0.und 195 = some (TypeDesc.int IntKind.i32) := by kernel_rfl
@[simp] theorem siz195 : E0.siz 195 = some 1 := by kernel_rfl
@[simp] theorem byt195 : E0.byt 195 = some 4 := by kernel_rfl
@[simp] theorem zer195 : zeroD E0 195 = some ((Value.int IntKind.i32 0)) := by kernel_rfl
@[simp] theorem eqo196 : E0.eqo 196 = false := by kernel_rfl
@[simp] theorem mrk196 : E0.mark 196 = false := by kernel_rfl
@[simp] theorem und196 : E0.und 196 = some (TypeDesc.struct #[{ name := "Size_", type := 12, offset := 0, embedded := false, tag := "", pkgPath := "", byteOffset := 0 }, { name := "PtrBytes", type := 12, offset := 1, embedded := false, tag := "", pkgPath := "", byteOffset := 8 }, { name := "Hash", type := 126, offset := 2, embedded := false, tag := "", pkgPath := "", byteOffset := 16 }, { name := "TFlag", type := 191, offset := 3, embedded := false, tag := "", pkgPath := "", byteOffset := 20 }, { name := "Align_", type := 5, offset := 4, embedded := false, tag := "", pkgPath := "", byteOffset := 21 }, { name := "FieldAlign_", type := 5, offset := 5, embedded := false, tag := "", pkgPath := "", byteOffset := 22 }, { name := "Kind_", type := 192, offset := 6, embedded := false, tag := "", pkgPath := "", byteOffset := 23 }, { name := "Equal", type := 193, offset := 7, embedded := false, tag := "", pkgPath := "", byteOffset := 24 }, { name := "GCData", type := 167, offset := 8, embedded := false, tag := "", pkgPath := "", byteOffset := 32 }, { name := "Str", type := 194, offset := 9, embedded := false, tag := "", pkgPath := "", byteOffset := 40 }, { name := "PtrToThis", type := 195, offset := 10, embedded := false, tag := "", pkgPath := "", byteOffset := 44 }]) := by kernel_rfl
@[simp] theorem siz196 : E0.siz 196 = some 11 := by kernel_rfl
@[simp] theorem byt196 : E0.byt 196 = some 48 := by kernel_rfl
@[simp] theorem zer196 : zeroD E0 196 = some ((Value.agg #[Value.int IntKind.u64 0, Value.int IntKind.u64 0, Value.int IntKind.u32 0, Value.int IntKind.u8 0, Value.int IntKind.u8 0, Value.int IntKind.u8 0, Value.int IntKind.u8 0, Value.nilFunc, Value.pointer none, Value.int IntKind.i32 0, Value.int IntKind.i32 0])) := by kernel_rfl
@[simp] theorem eqo197 : E0.eqo 197 = false := by kernel_rfl
@[simp] theorem mrk197 : E0.mark 197 = false := by kernel_rfl
@[simp] theorem und197 : E0.und 197 = some (TypeDesc.struct #[{ name := "Size_", type := 12, offset := 0, embedded := false, tag := "", pkgPath := "", byteOffset := 0 }, { name := "PtrBytes", type := 12, offset := 1, embedded := false, tag := "", pkgPath := "", byteOffset := 8 }, { name := "Hash", type := 126, offset := 2, embedded := false, tag := "", pkgPath := "", byteOffset := 16 }, { name := "TFlag", type := 191, offset := 3, embedded := false, tag := "", pkgPath := "", byteOffset := 20 }, { name := "Align_", type := 5, offset := 4, embedded := false, tag := "", pkgPath := "", byteOffset := 21 }, { name := "FieldAlign_", type := 5, offset := 5, embedded := false, tag := "", pkgPath := "", byteOffset := 22 }, { name := "Kind_", type := 192, offset := 6, embedded := false, tag := "", pkgPath := "", byteOffset := 23 }, { name := "Equal", type := 193, offset := 7, embedded := false, tag := "", pkgPath := "", byteOffset := 24 }, { name := "GCData", type := 167, offset := 8, embedded := false, tag := "", pkgPath := "", byteOffset := 32 }, { name := "Str", type := 194, offset := 9, embedded := false, tag := "", pkgPath := "", byteOffset := 40 }, { name := "PtrToThis", type := 195, offset := 10, embedded := false, tag := "", pkgPath := "", byteOffset := 44 }]) := by kernel_rfl
@[simp] theorem siz197 : E0.siz 197 = some 11 := by kernel_rfl
@[simp] theorem byt197 : E0.byt 197 = some 48 := by kernel_rfl
@[simp] theorem zer197 : zeroD E0 197 = some ((Value.agg #[Value.int IntKind.u64 0, Value.int IntKind.u64 0, Value.int IntKind.u32 0, Value.int IntKind.u8 0, Value.int IntKind.u8 0, Value.int IntKind.u8 0, Value.int IntKind.u8 0, Value.nilFunc, Value.pointer none, Value.int IntKind.i32 0, Value.int IntKind.i32 0])) := by kernel_rfl
@[simp] theorem eqo198 : E0.eqo 198 = false := by kernel_rfl
@[simp] theorem mrk198 : E0.mark 198 = false := by kernel_rfl
@[simp] theorem und198 : E0.und 198 = some (TypeDesc.struct #[{ name := "Method", type := 9, offset := 0, embedded := false, tag := "", pkgPath := "", byteOffset := 0 }, { name := "Kind", type := 192, offset := 1, embedded := false, tag := "", pkgPath := "", byteOffset := 16 }]) := by kernel_rfl
@[simp] theorem siz198 : E0.siz 198 = some 2 := by kernel_rfl
@[simp] theorem byt198 : E0.byt 198 = some 24 := by kernel_rfl
@[simp] theorem zer198 : zeroD E0 198 = some ((Value.agg #[Value.string { data := #[] }, Value.int IntKind.u8 0])) := by kernel_rfl
@[simp] theorem eqo199 : E0.eqo 199 = false := by kernel_rfl
@[simp] theorem mrk199 : E0.mark 199 = false := by kernel_rfl
@[simp] theorem und199 : E0.und 199 = some (TypeDesc.struct #[{ name := "Method", type := 9, offset := 0, embedded := false, tag := "", pkgPath := "", byteOffset := 0 }, { name := "Kind", type := 192, offset := 1, embedded := false, tag := "", pkgPath := "", byteOffset := 16 }]) := by kernel_rfl
@[simp] theorem siz199 : E0.siz 199 = some 2 := by kernel_rfl
@[simp] theorem byt199 : E0.byt 199 = some 24 := by kernel_rfl
@[simp] theorem zer199 : zeroD E0 199 = some ((Value.agg #[Value.string { data := #[] }, Value.int IntKind.u8 0])) := by kernel_rfl
@[simp] theorem efn3 : E0.fn 3 = some Tryz.f3 := (show (if fns0.contains 3 = true then Tryz.prog.funcs[3]? else none) = some Tryz.f3 from (if_pos (by decide)).trans Tryz.func3)
theorem okf3 : ∀ b, Tryz.f3.body = some b → okC E0 3 true Tryz.f3.ntmps b = true := by
  have h : (match Tryz.f3.body with | some b => okC E0 3 true Tryz.f3.ntmps b | none => true) = true := by kernel_rfl
  intro b hb; rw [hb] at h; exact h
theorem nmf3 : (Tryz.f3.name == "runtime.NumGoroutine") = false := by kernel_rfl
@[simp] theorem efn4 : E0.fn 4 = some Tryz.f4 := (show (if fns0.contains 4 = true then Tryz.prog.funcs[4]? else none) = some Tryz.f4 from (if_pos (by decide)).trans Tryz.func4)
theorem okf4 : ∀ b, Tryz.f4.body = some b → okC E0 3 true Tryz.f4.ntmps b = true := by
  have h : (match Tryz.f4.body with | some b => okC E0 3 true Tryz.f4.ntmps b | none => true) = true := by kernel_rfl
  intro b hb; rw [hb] at h; exact h
theorem nmf4 : (Tryz.f4.name == "runtime.NumGoroutine") = false := by kernel_rfl
@[simp] theorem efn5 : E0.fn 5 = some Tryz.f5 := (show (if fns0.contains 5 = true then Tryz.prog.funcs[5]? else none) = some Tryz.f5 from (if_pos (by decide)).trans Tryz.func5)
theorem okf5 : ∀ b, Tryz.f5.body = some b → okC E0 3 true Tryz.f5.ntmps b = true := by
  have h : (match Tryz.f5.body with | some b => okC E0 3 true Tryz.f5.ntmps b | none => true) = true := by kernel_rfl
  intro b hb; rw [hb] at h; exact h
theorem nmf5 : (Tryz.f5.name == "runtime.NumGoroutine") = false := by kernel_rfl
@[simp] theorem efn6 : E0.fn 6 = some Tryz.f6 := (show (if fns0.contains 6 = true then Tryz.prog.funcs[6]? else none) = some Tryz.f6 from (if_pos (by decide)).trans Tryz.func6)
theorem okf6 : ∀ b, Tryz.f6.body = some b → okC E0 3 true Tryz.f6.ntmps b = true := by
  have h : (match Tryz.f6.body with | some b => okC E0 3 true Tryz.f6.ntmps b | none => true) = true := by kernel_rfl
  intro b hb; rw [hb] at h; exact h
theorem nmf6 : (Tryz.f6.name == "runtime.NumGoroutine") = false := by kernel_rfl
@[simp] theorem efn7 : E0.fn 7 = some Tryz.f7 := (show (if fns0.contains 7 = true then Tryz.prog.funcs[7]? else none) = some Tryz.f7 from (if_pos (by decide)).trans Tryz.func7)
theorem okf7 : ∀ b, Tryz.f7.body = some b → okC E0 3 true Tryz.f7.ntmps b = true := by
  have h : (match Tryz.f7.body with | some b => okC E0 3 true Tryz.f7.ntmps b | none => true) = true := by kernel_rfl
  intro b hb; rw [hb] at h; exact h
theorem nmf7 : (Tryz.f7.name == "runtime.NumGoroutine") = false := by kernel_rfl
@[simp] theorem efn8 : E0.fn 8 = some Tryz.f8 := (show (if fns0.contains 8 = true then Tryz.prog.funcs[8]? else none) = some Tryz.f8 from (if_pos (by decide)).trans Tryz.func8)
theorem okf8 : ∀ b, Tryz.f8.body = some b → okC E0 3 true Tryz.f8.ntmps b = true := by
  have h : (match Tryz.f8.body with | some b => okC E0 3 true Tryz.f8.ntmps b | none => true) = true := by kernel_rfl
  intro b hb; rw [hb] at h; exact h
theorem nmf8 : (Tryz.f8.name == "runtime.NumGoroutine") = false := by kernel_rfl
@[simp] theorem efn9 : E0.fn 9 = some Tryz.f9 := (show (if fns0.contains 9 = true then Tryz.prog.funcs[9]? else none) = some Tryz.f9 from (if_pos (by decide)).trans Tryz.func9)
theorem okf9 : ∀ b, Tryz.f9.body = some b → okC E0 3 true Tryz.f9.ntmps b = true := by
  have h : (match Tryz.f9.body with | some b => okC E0 3 true Tryz.f9.ntmps b | none => true) = true := by kernel_rfl
  intro b hb; rw [hb] at h; exact h
theorem nmf9 : (Tryz.f9.name == "runtime.NumGoroutine") = false := by kernel_rfl
@[simp] theorem efn10 : E0.fn 10 = some Tryz.f10 := (show (if fns0.contains 10 = true then Tryz.prog.funcs[10]? else none) = some Tryz.f10 from (if_pos (by decide)).trans Tryz.func10)
theorem okf10 : ∀ b, Tryz.f10.body = some b → okC E0 3 true Tryz.f10.ntmps b = true := by
  have h : (match Tryz.f10.body with | some b => okC E0 3 true Tryz.f10.ntmps b | none => true) = true := by kernel_rfl
  intro b hb; rw [hb] at h; exact h
theorem nmf10 : (Tryz.f10.name == "runtime.NumGoroutine") = false := by kernel_rfl
@[simp] theorem efn11 : E0.fn 11 = some Tryz.f11 := (show (if fns0.contains 11 = true then Tryz.prog.funcs[11]? else none) = some Tryz.f11 from (if_pos (by decide)).trans Tryz.func11)
theorem okf11 : ∀ b, Tryz.f11.body = some b → okC E0 3 true Tryz.f11.ntmps b = true := by
  have h : (match Tryz.f11.body with | some b => okC E0 3 true Tryz.f11.ntmps b | none => true) = true := by kernel_rfl
  intro b hb; rw [hb] at h; exact h
theorem nmf11 : (Tryz.f11.name == "runtime.NumGoroutine") = false := by kernel_rfl
@[simp] theorem efn12 : E0.fn 12 = some Tryz.f12 := (show (if fns0.contains 12 = true then Tryz.prog.funcs[12]? else none) = some Tryz.f12 from (if_pos (by decide)).trans Tryz.func12)
theorem okf12 : ∀ b, Tryz.f12.body = some b → okC E0 3 true Tryz.f12.ntmps b = true := by
  have h : (match Tryz.f12.body with | some b => okC E0 3 true Tryz.f12.ntmps b | none => true) = true := by kernel_rfl
  intro b hb; rw [hb] at h; exact h
theorem nmf12 : (Tryz.f12.name == "runtime.NumGoroutine") = false := by kernel_rfl
@[simp] theorem efn13 : E0.fn 13 = some Tryz.f13 := (show (if fns0.contains 13 = true then Tryz.prog.funcs[13]? else none) = some Tryz.f13 from (if_pos (by decide)).trans Tryz.func13)
theorem okf13 : ∀ b, Tryz.f13.body = some b → okC E0 3 true Tryz.f13.ntmps b = true := by
  have h : (match Tryz.f13.body with | some b => okC E0 3 true Tryz.f13.ntmps b | none => true) = true := by kernel_rfl
  intro b hb; rw [hb] at h; exact h
theorem nmf13 : (Tryz.f13.name == "runtime.NumGoroutine") = false := by kernel_rfl
@[simp] theorem efn14 : E0.fn 14 = some Tryz.f14 := (show (if fns0.contains 14 = true then Tryz.prog.funcs[14]? else none) = some Tryz.f14 from (if_pos (by decide)).trans Tryz.func14)
theorem okf14 : ∀ b, Tryz.f14.body = some b → okC E0 3 true Tryz.f14.ntmps b = true := by
  have h : (match Tryz.f14.body with | some b => okC E0 3 true Tryz.f14.ntmps b | none => true) = true := by kernel_rfl
  intro b hb; rw [hb] at h; exact h
theorem nmf14 : (Tryz.f14.name == "runtime.NumGoroutine") = false := by kernel_rfl
@[simp] theorem efn15 : E0.fn 15 = some Tryz.f15 := (show (if fns0.contains 15 = true then Tryz.prog.funcs[15]? else none) = some Tryz.f15 from (if_pos (by decide)).trans Tryz.func15)
theorem okf15 : ∀ b, Tryz.f15.body = some b → okC E0 3 true Tryz.f15.ntmps b = true := by
  have h : (match Tryz.f15.body with | some b => okC E0 3 true Tryz.f15.ntmps b | none => true) = true := by kernel_rfl
  intro b hb; rw [hb] at h; exact h
theorem nmf15 : (Tryz.f15.name == "runtime.NumGoroutine") = false := by kernel_rfl
@[simp] theorem efn16 : E0.fn 16 = some Tryz.f16 := (show (if fns0.contains 16 = true then Tryz.prog.funcs[16]? else none) = some Tryz.f16 from (if_pos (by decide)).trans Tryz.func16)
theorem okf16 : ∀ b, Tryz.f16.body = some b → okC E0 3 true Tryz.f16.ntmps b = true := by
  have h : (match Tryz.f16.body with | some b => okC E0 3 true Tryz.f16.ntmps b | none => true) = true := by kernel_rfl
  intro b hb; rw [hb] at h; exact h
theorem nmf16 : (Tryz.f16.name == "runtime.NumGoroutine") = false := by kernel_rfl
@[simp] theorem efn17 : E0.fn 17 = some Tryz.f17 := (show (if fns0.contains 17 = true then Tryz.prog.funcs[17]? else none) = some Tryz.f17 from (if_pos (by decide)).trans Tryz.func17)
theorem okf17 : ∀ b, Tryz.f17.body = some b → okC E0 3 true Tryz.f17.ntmps b = true := by
  have h : (match Tryz.f17.body with | some b => okC E0 3 true Tryz.f17.ntmps b | none => true) = true := by kernel_rfl
  intro b hb; rw [hb] at h; exact h
theorem nmf17 : (Tryz.f17.name == "runtime.NumGoroutine") = false := by kernel_rfl
@[simp] theorem efn18 : E0.fn 18 = some Tryz.f18 := (show (if fns0.contains 18 = true then Tryz.prog.funcs[18]? else none) = some Tryz.f18 from (if_pos (by decide)).trans Tryz.func18)
theorem okf18 : ∀ b, Tryz.f18.body = some b → okC E0 3 true Tryz.f18.ntmps b = true := by
  have h : (match Tryz.f18.body with | some b => okC E0 3 true Tryz.f18.ntmps b | none => true) = true := by kernel_rfl
  intro b hb; rw [hb] at h; exact h
theorem nmf18 : (Tryz.f18.name == "runtime.NumGoroutine") = false := by kernel_rfl
@[simp] theorem efn19 : E0.fn 19 = some Tryz.f19 := (show (if fns0.contains 19 = true then Tryz.prog.funcs[19]? else none) = some Tryz.f19 from (if_pos (by decide)).trans Tryz.func19)
theorem okf19 : ∀ b, Tryz.f19.body = some b → okC E0 3 true Tryz.f19.ntmps b = true := by
  have h : (match Tryz.f19.body with | some b => okC E0 3 true Tryz.f19.ntmps b | none => true) = true := by kernel_rfl
  intro b hb; rw [hb] at h; exact h
theorem nmf19 : (Tryz.f19.name == "runtime.NumGoroutine") = false := by kernel_rfl
@[simp] theorem efn20 : E0.fn 20 = some Tryz.f20 := (show (if fns0.contains 20 = true then Tryz.prog.funcs[20]? else none) = some Tryz.f20 from (if_pos (by decide)).trans Tryz.func20)
theorem okf20 : ∀ b, Tryz.f20.body = some b → okC E0 3 true Tryz.f20.ntmps b = true := by
  have h : (match Tryz.f20.body with | some b => okC E0 3 true Tryz.f20.ntmps b | none => true) = true := by kernel_rfl
  intro b hb; rw [hb] at h; exact h
theorem nmf20 : (Tryz.f20.name == "runtime.NumGoroutine") = false := by kernel_rfl
@[simp] theorem efn21 : E0.fn 21 = some Tryz.f21 := (show (if fns0.contains 21 = true then Tryz.prog.funcs[21]? else none) = some Tryz.f21 from (if_pos (by decide)).trans Tryz.func21)
theorem okf21 : ∀ b, Tryz.f21.body = some b → okC E0 3 true Tryz.f21.ntmps b = true := by
  have h : (match Tryz.f21.body with | some b => okC E0 3 true Tryz.f21.ntmps b | none => true) = true := by kernel_rfl
  intro b hb; rw [hb] at h; exact h
theorem nmf21 : (Tryz.f21.name == "runtime.NumGoroutine") = false := by kernel_rfl
@[simp] theorem efn22 : E0.fn 22 = some Tryz.f22 := (show (if fns0.contains 22 = true then Tryz.prog.funcs[22]? else none) = some Tryz.f22 from (if_pos (by decide)).trans Tryz.func22)
theorem okf22 : ∀ b, Tryz.f22.body = some b → okC E0 3 true Tryz.f22.ntmps b = true := by
  have h : (match Tryz.f22.body with | some b => okC E0 3 true Tryz.f22.ntmps b | none => true) = true := by kernel_rfl
  intro b hb; rw [hb] at h; exact h
theorem nmf22 : (Tryz.f22.name == "runtime.NumGoroutine") = false := by kernel_rfl
@[simp] theorem efn23 : E0.fn 23 = some Tryz.f23 := (show (if fns0.contains 23 = true then Tryz.prog.funcs[23]? else none) = some Tryz.f23 from (if_pos (by decide)).trans Tryz.func23)
theorem okf23 : ∀ b, Tryz.f23.body = some b → okC E0 3 true Tryz.f23.ntmps b = true := by
  have h : (match Tryz.f23.body with | some b => okC E0 3 true Tryz.f23.ntmps b | none => true) = true := by kernel_rfl
  intro b hb; rw [hb] at h; exact h
theorem nmf23 : (Tryz.f23.name == "runtime.NumGoroutine") = false := by kernel_rfl
@[simp] theorem efn24 : E0.fn 24 = some Tryz.f24 := (show (if fns0.contains 24 = true then Tryz.prog.funcs[24]? else none) = some Tryz.f24 from (if_pos (by decide)).trans Tryz.func24)
theorem okf24 : ∀ b, Tryz.f24.body = some b → okC E0 3 true Tryz.f24.ntmps b = true := by
  have h : (match Tryz.f24.body with | some b => okC E0 3 true Tryz.f24.ntmps b | none => true) = true := by kernel_rfl
  intro b hb; rw [hb] at h; exact h
theorem nmf24 : (Tryz.f24.name == "runtime.NumGoroutine") = false := by kernel_rfl
@[simp] theorem efn25 : E0.fn 25 = some Tryz.f25 := (show (if fns0.contains 25 = true then Tryz.prog.funcs[25]? else none) = some Tryz.f25 from (if_pos (by decide)).trans Tryz.func25)
theorem okf25 : ∀ b, Tryz.f25.body = some b → okC E0 3 true Tryz.f25.ntmps b = true := by
  have h : (match Tryz.f25.body with | some b => okC E0 3 true Tryz.f25.ntmps b | none => true) = true := by kernel_rfl
  intro b hb; rw [hb] at h; exact h
theorem nmf25 : (Tryz.f25.name == "runtime.NumGoroutine") = false := by kernel_rfl
@[simp] theorem efn26 : E0.fn 26 = some Tryz.f26 := (show (if fns0.contains 26 = true then Tryz.prog.funcs[26]? else none) = some Tryz.f26 from (if_pos (by decide)).trans Tryz.func26)
theorem okf26 : ∀ b, Tryz.f26.body = some b → okC E0 3 true Tryz.f26.ntmps b = true := by
  have h : (match Tryz.f26.body with | some b => okC E0 3 true Tryz.f26.ntmps b | none => true) = true := by kernel_rfl
  intro b hb; rw [hb] at h; exact h
theorem nmf26 : (Tryz.f26.name == "runtime.NumGoroutine") = false := by kernel_rfl
@[simp] theorem efn27 : E0.fn 27 = some Tryz.f27 := (show (if fns0.contains 27 = true then Tryz.prog.funcs[27]? else none) = some Tryz.f27 from (if_pos (by decide)).trans Tryz.func27)
theorem okf27 : ∀ b, Tryz.f27.body = some b → okC E0 3 true Tryz.f27.ntmps b = true := by
  have h : (match Tryz.f27.body with | some b => okC E0 3 true Tryz.f27.ntmps b | none => true) = true := by kernel_rfl
  intro b hb; rw [hb] at h; exact h
theorem nmf27 : (Tryz.f27.name == "runtime.NumGoroutine") = false := by kernel_rfl
@[simp] theorem efn28 : E0.fn 28 = some Tryz.f28 := (show (if fns0.contains 28 = true then Tryz.prog.funcs[28]? else none) = some Tryz.f28 from (if_pos (by decide)).trans Tryz.func28)
theorem okf28 : ∀ b, Tryz.f28.body = some b → okC E0 3 true Tryz.f28.ntmps b = true := by
  have h : (match Tryz.f28.body with | some b => okC E0 3 true Tryz.f28.ntmps b | none => true) = true := by kernel_rfl
  intro b hb; rw [hb] at h; exact h
theorem nmf28 : (Tryz.f28.name == "runtime.NumGoroutine") = false := by kernel_rfl
@[simp] theorem efn29 : E0.fn 29 = some Tryz.f29 := (show (if fns0.contains 29 = true then Tryz.prog.funcs[29]? else none) = some Tryz.f29 from (if_pos (by decide)).trans Tryz.func29)
theorem okf29 : ∀ b, Tryz.f29.body = some b → okC E0 3 true Tryz.f29.ntmps b = true := by
  have h : (match Tryz.f29.body with | some b => okC E0 3 true Tryz.f29.ntmps b | none => true) = true := by kernel_rfl
  intro b hb; rw [hb] at h; exact h
theorem nmf29 : (Tryz.f29.name == "runtime.NumGoroutine") = false := by kernel_rfl
@[simp] theorem efn30 : E0.fn 30 = some Tryz.f30 := (show (if fns0.contains 30 = true then Tryz.prog.funcs[30]? else none) = some Tryz.f30 from (if_pos (by decide)).trans Tryz.func30)
theorem okf30 : ∀ b, Tryz.f30.body = some b → okC E0 3 true Tryz.f30.ntmps b = true := by
  have h : (match Tryz.f30.body with | some b => okC E0 3 true Tryz.f30.ntmps b | none => true) = true := by kernel_rfl
  intro b hb; rw [hb] at h; exact h
theorem nmf30 : (Tryz.f30.name == "runtime.NumGoroutine") = false := by kernel_rfl
@[simp] theorem efn31 : E0.fn 31 = some Tryz.f31 := (show (if fns0.contains 31 = true then Tryz.prog.funcs[31]? else none) = some Tryz.f31 from (if_pos (by decide)).trans Tryz.func31)
theorem okf31 : ∀ b, Tryz.f31.body = some b → okC E0 3 true Tryz.f31.ntmps b = true := by
  have h : (match Tryz.f31.body with | some b => okC E0 3 true Tryz.f31.ntmps b | none => true) = true := by kernel_rfl
  intro b hb; rw [hb] at h; exact h
theorem nmf31 : (Tryz.f31.name == "runtime.NumGoroutine") = false := by kernel_rfl
@[simp] theorem efn32 : E0.fn 32 = some Tryz.f32 := (show (if fns0.contains 32 = true then Tryz.prog.funcs[32]? else none) = some Tryz.f32 from (if_pos (by decide)).trans Tryz.func32)
theorem okf32 : ∀ b, Tryz.f32.body = some b → okC E0 3 true Tryz.f32.ntmps b = true := by
  have h : (match Tryz.f32.body with | some b => okC E0 3 true Tryz.f32.ntmps b | none => true) = true := by kernel_rfl
  intro b hb; rw [hb] at h; exact h
theorem nmf32 : (Tryz.f32.name == "runtime.NumGoroutine") = false := by kernel_rfl
@[simp] theorem efn33 : E0.fn 33 = some Tryz.f33 := (show (if fns0.contains 33 = true then Tryz.prog.funcs[33]? else none) = some Tryz.f33 from (if_pos (by decide)).trans Tryz.func33)
theorem okf33 : ∀ b, Tryz.f33.body = some b → okC E0 3 true Tryz.f33.ntmps b = true := by
  have h : (match Tryz.f33.body with | some b => okC E0 3 true Tryz.f33.ntmps b | none => true) = true := by kernel_rfl
  intro b hb; rw [hb] at h; exact h
theorem nmf33 : (Tryz.f33.name == "runtime.NumGoroutine") = false := by kernel_rfl
@[simp] theorem efn34 : E0.fn 34 = some Tryz.f34 := (show (if fns0.contains 34 = true then Tryz.prog.funcs[34]? else none) = some Tryz.f34 from (if_pos (by decide)).trans Tryz.func34)
theorem okf34 : ∀ b, Tryz.f34.body = some b → okC E0 3 true Tryz.f34.ntmps b = true := by
  have h : (match Tryz.f34.body with | some b => okC E0 3 true Tryz.f34.ntmps b | none => true) = true := by kernel_rfl
  intro b hb; rw [hb] at h; exact h
theorem nmf34 : (Tryz.f34.name == "runtime.NumGoroutine") = false := by kernel_rfl
@[simp] theorem efn35 : E0.fn 35 = some Tryz.f35 := (show (if fns0.contains 35 = true then Tryz.prog.funcs[35]? else none) = some Tryz.f35 from (if_pos (by decide)).trans Tryz.func35)
theorem okf35 : ∀ b, Tryz.f35.body = some b → okC E0 3 true Tryz.f35.ntmps b = true := by
  have h : (match Tryz.f35.body with | some b => okC E0 3 true Tryz.f35.ntmps b | none => true) = true := by kernel_rfl
  intro b hb; rw [hb] at h; exact h
theorem nmf35 : (Tryz.f35.name == "runtime.NumGoroutine") = false := by kernel_rfl
@[simp] theorem efn36 : E0.fn 36 = some Tryz.f36 := (show (if fns0.contains 36 = true then Tryz.prog.funcs[36]? else none) = some Tryz.f36 from (if_pos (by decide)).trans Tryz.func36)
theorem okf36 : ∀ b, Tryz.f36.body = some b → okC E0 3 true Tryz.f36.ntmps b = true := by
  have h : (match Tryz.f36.body with | some b => okC E0 3 true Tryz.f36.ntmps b | none => true) = true := by kernel_rfl
  intro b hb; rw [hb] at h; exact h
theorem nmf36 : (Tryz.f36.name == "runtime.NumGoroutine") = false := by kernel_rfl
@[simp] theorem efn37 : E0.fn 37 = some Tryz.f37 := (show (if fns0.contains 37 = true then Tryz.prog.funcs[37]? else none) = some Tryz.f37 from (if_pos (by decide)).trans Tryz.func37)
theorem okf37 : ∀ b, Tryz.f37.body = some b → okC E0 3 true Tryz.f37.ntmps b = true := by
  have h : (match Tryz.f37.body with | some b => okC E0 3 true Tryz.f37.ntmps b | none => true) = true := by kernel_rfl
  intro b hb; rw [hb] at h; exact h
theorem nmf37 : (Tryz.f37.name == "runtime.NumGoroutine") = false := by kernel_rfl
@[simp] theorem efn38 : E0.fn 38 = some Tryz.f38 := (show (if fns0.contains 38 = true then Tryz.prog.funcs[38]? else none) = some Tryz.f38 from (if_pos (by decide)).trans Tryz.func38)
theorem okf38 : ∀ b, Tryz.f38.body = some b → okC E0 3 true Tryz.f38.ntmps b = true := by
  have h : (match Tryz.f38.body with | some b => okC E0 3 true Tryz.f38.ntmps b | none => true) = true := by kernel_rfl
  intro b hb; rw [hb] at h; exact h
theorem nmf38 : (Tryz.f38.name == "runtime.NumGoroutine") = false := by kernel_rfl
@[simp] theorem efn39 : E0.fn 39 = some Tryz.f39 := (show (if fns0.contains 39 = true then Tryz.prog.funcs[39]? else none) = some Tryz.f39 from (if_pos (by decide)).trans Tryz.func39)
theorem okf39 : ∀ b, Tryz.f39.body = some b → okC E0 3 true Tryz.f39.ntmps b = true := by
  have h : (match Tryz.f39.body with | some b => okC E0 3 true Tryz.f39.ntmps b | none => true) = true := by kernel_rfl
  intro b hb; rw [hb] at h; exact h
theorem nmf39 : (Tryz.f39.name == "runtime.NumGoroutine") = false := by kernel_rfl
@[simp] theorem efn40 : E0.fn 40 = some Tryz.f40 := (show (if fns0.contains 40 = true then Tryz.prog.funcs[40]? else none) = some Tryz.f40 from (if_pos (by decide)).trans Tryz.func40)
theorem okf40 : ∀ b, Tryz.f40.body = some b → okC E0 3 true Tryz.f40.ntmps b = true := by
  have h : (match Tryz.f40.body with | some b => okC E0 3 true Tryz.f40.ntmps b | none => true) = true := by kernel_rfl
  intro b hb; rw [hb] at h; exact h
theorem nmf40 : (Tryz.f40.name == "runtime.NumGoroutine") = false := by kernel_rfl
@[simp] theorem efn41 : E0.fn 41 = some Tryz.f41 := (show (if fns0.contains 41 = true then Tryz.prog.funcs[41]? else none) = some Tryz.f41 from (if_pos (by decide)).trans Tryz.func41)
theorem okf41 : ∀ b, Tryz.f41.body = some b → okC E0 3 true Tryz.f41.ntmps b = true := by
  have h : (match Tryz.f41.body with | some b => okC E0 3 true Tryz.f41.ntmps b | none => true) = true := by kernel_rfl
  intro b hb; rw [hb] at h; exact h
theorem nmf41 : (Tryz.f41.name == "runtime.NumGoroutine") = false := by kernel_rfl
@[simp] theorem efn42 : E0.fn 42 = some Tryz.f42 := (show (if fns0.contains 42 = true then Tryz.prog.funcs[42]? else none) = some Tryz.f42 from (if_pos (by decide)).trans Tryz.func42)
theorem okf42 : ∀ b, Tryz.f42.body = some b → okC E0 3 true Tryz.f42.ntmps b = true := by
  have h : (match Tryz.f42.body with | some b => okC E0 3 true Tryz.f42.ntmps b | none => true) = true := by kernel_rfl
  intro b hb; rw [hb] at h; exact h
theorem nmf42 : (Tryz.f42.name == "runtime.NumGoroutine") = false := by kernel_rfl
@[simp] theorem efn43 : E0.fn 43 = some Tryz.f43 := (show (if fns0.contains 43 = true then Tryz.prog.funcs[43]? else none) = some Tryz.f43 from (if_pos (by decide)).trans Tryz.func43)
theorem okf43 : ∀ b, Tryz.f43.body = some b → okC E0 3 true Tryz.f43.ntmps b = true := by
  have h : (match Tryz.f43.body with | some b => okC E0 3 true Tryz.f43.ntmps b | none => true) = true := by kernel_rfl
  intro b hb; rw [hb] at h; exact h
theorem nmf43 : (Tryz.f43.name == "runtime.NumGoroutine") = false := by kernel_rfl
@[simp] theorem efn44 : E0.fn 44 = some Tryz.f44 := (show (if fns0.contains 44 = true then Tryz.prog.funcs[44]? else none) = some Tryz.f44 from (if_pos (by decide)).trans Tryz.func44)
theorem okf44 : ∀ b, Tryz.f44.body = some b → okC E0 3 true Tryz.f44.ntmps b = true := by
  have h : (match Tryz.f44.body with | some b => okC E0 3 true Tryz.f44.ntmps b | none => true) = true := by kernel_rfl
  intro b hb; rw [hb] at h; exact h
theorem nmf44 : (Tryz.f44.name == "runtime.NumGoroutine") = false := by kernel_rfl
@[simp] theorem efn45 : E0.fn 45 = some Tryz.f45 := (show (if fns0.contains 45 = true then Tryz.prog.funcs[45]? else none) = some Tryz.f45 from (if_pos (by decide)).trans Tryz.func45)
theorem okf45 : ∀ b, Tryz.f45.body = some b → okC E0 3 true Tryz.f45.ntmps b = true := by
  have h : (match Tryz.f45.body with | some b => okC E0 3 true Tryz.f45.ntmps b | none => true) = true := by kernel_rfl
  intro b hb; rw [hb] at h; exact h
theorem nmf45 : (Tryz.f45.name == "runtime.NumGoroutine") = false := by kernel_rfl
@[simp] theorem efn46 : E0.fn 46 = some Tryz.f46 := (show (if fns0.contains 46 = true then Tryz.prog.funcs[46]? else none) = some Tryz.f46 from (if_pos (by decide)).trans Tryz.func46)
theorem okf46 : ∀ b, Tryz.f46.body = some b → okC E0 3 true Tryz.f46.ntmps b = true := by
  have h : (match Tryz.f46.body with | some b => okC E0 3 true Tryz.f46.ntmps b | none => true) = true := by kernel_rfl
  intro b hb; rw [hb] at h; exact h
theorem nmf46 : (Tryz.f46.name == "runtime.NumGoroutine") = false := by kernel_rfl
@[simp] theorem efn47 : E0.fn 47 = some Tryz.f47 := (show (if fns0.contains 47 = true then Tryz.prog.funcs[47]? else none) = some Tryz.f47 from (if_pos (by decide)).trans Tryz.func47)
theorem okf47 : ∀ b, Tryz.f47.body = some b → okC E0 3 true Tryz.f47.ntmps b = true := by
  have h : (match Tryz.f47.body with | some b => okC E0 3 true Tryz.f47.ntmps b | none => true) = true := by kernel_rfl
  intro b hb; rw [hb] at h; exact h
theorem nmf47 : (Tryz.f47.name == "runtime.NumGoroutine") = false := by kernel_rfl
@[simp] theorem efn48 : E0.fn 48 = some Tryz.f48 := (show (if fns0.contains 48 = true then Tryz.prog.funcs[48]? else none) = some Tryz.f48 from (if_pos (by decide)).trans Tryz.func48)
theorem okf48 : ∀ b, Tryz.f48.body = some b → okC E0 3 true Tryz.f48.ntmps b = true := by
  have h : (match Tryz.f48.body with | some b => okC E0 3 true Tryz.f48.ntmps b | none => true) = true := by kernel_rfl
  intro b hb; rw [hb] at h; exact h
theorem nmf48 : (Tryz.f48.name == "runtime.NumGoroutine") = false := by kernel_rfl
@[simp] theorem efn49 : E0.fn 49 = some Tryz.f49 := (show (if fns0.contains 49 = true then Tryz.prog.funcs[49]? else none) = some Tryz.f49 from (if_pos (by decide)).trans Tryz.func49)
theorem okf49 : ∀ b, Tryz.f49.body = some b → okC E0 3 true Tryz.f49.ntmps b = true := by
  have h : (match Tryz.f49.body with | some b => okC E0 3 true Tryz.f49.ntmps b | none => true) = true := by kernel_rfl
  intro b hb; rw [hb] at h; exact h
theorem nmf49 : (Tryz.f49.name == "runtime.NumGoroutine") = false := by kernel_rfl
@[simp] theorem efn50 : E0.fn 50 = some Tryz.f50 := (show (if fns0.contains 50 = true then Tryz.prog.funcs[50]? else none) = some Tryz.f50 from (if_pos (by decide)).trans Tryz.func50)
theorem okf50 : ∀ b, Tryz.f50.body = some b → okC E0 3 true Tryz.f50.ntmps b = true := by
  have h : (match Tryz.f50.body with | some b => okC E0 3 true Tryz.f50.ntmps b | none => true) = true := by kernel_rfl
  intro b hb; rw [hb] at h; exact h
theorem nmf50 : (Tryz.f50.name == "runtime.NumGoroutine") = false := by kernel_rfl
@[simp] theorem efn51 : E0.fn 51 = some Tryz.f51 := (show (if fns0.contains 51 = true then Tryz.prog.funcs[51]? else none) = some Tryz.f51 from (if_pos (by decide)).trans Tryz.func51)
theorem okf51 : ∀ b, Tryz.f51.body = some b → okC E0 3 true Tryz.f51.ntmps b = true := by
  have h : (match Tryz.f51.body with | some b => okC E0 3 true Tryz.f51.ntmps b | none => true) = true := by kernel_rfl
  intro b hb; rw [hb] at h; exact h
theorem nmf51 : (Tryz.f51.name == "runtime.NumGoroutine") = false := by kernel_rfl
@[simp] theorem efn52 : E0.fn 52 = some Tryz.f52 := (show (if fns0.contains 52 = true then Tryz.prog.funcs[52]? else none) = some Tryz.f52 from (if_pos (by decide)).trans Tryz.func52)
theorem okf52 : ∀ b, Tryz.f52.body = some b → okC E0 3 true Tryz.f52.ntmps b = true := by
  have h : (match Tryz.f52.body with | some b => okC E0 3 true Tryz.f52.ntmps b | none => true) = true := by kernel_rfl
  intro b hb; rw [hb] at h; exact h
theorem nmf52 : (Tryz.f52.name == "runtime.NumGoroutine") = false := by kernel_rfl
@[simp] theorem efn53 : E0.fn 53 = some Tryz.f53 := (show (if fns0.contains 53 = true then Tryz.prog.funcs[53]? else none) = some Tryz.f53 from (if_pos (by decide)).trans Tryz.func53)
theorem okf53 : ∀ b, Tryz.f53.body = some b → okC E0 3 true Tryz.f53.ntmps b = true := by
  have h : (match Tryz.f53.body with | some b => okC E0 3 true Tryz.f53.ntmps b | none => true) = true := by kernel_rfl
  intro b hb; rw [hb] at h; exact h
theorem nmf53 : (Tryz.f53.name == "runtime.NumGoroutine") = false := by kernel_rfl
@[simp] theorem efn54 : E0.fn 54 = some Tryz.f54 := (show (if fns0.contains 54 = true then Tryz.prog.funcs[54]? else none) = some Tryz.f54 from (if_pos (by decide)).trans Tryz.func54)
theorem okf54 : ∀ b, Tryz.f54.body = some b → okC E0 3 true Tryz.f54.ntmps b = true := by
  have h : (match Tryz.f54.body with | some b => okC E0 3 true Tryz.f54.ntmps b | none => true) = true := by kernel_rfl
  intro b hb; rw [hb] at h; exact h
theorem nmf54 : (Tryz.f54.name == "runtime.NumGoroutine") = false := by kernel_rfl
@[simp] theorem efn55 : E0.fn 55 = some Tryz.f55 := (show (if fns0.contains 55 = true then Tryz.prog.funcs[55]? else none) = some Tryz.f55 from (if_pos (by decide)).trans Tryz.func55)
theorem okf55 : ∀ b, Tryz.f55.body = some b → okC E0 3 true Tryz.f55.ntmps b = true := by
  have h : (match Tryz.f55.body with | some b => okC E0 3 true Tryz.f55.ntmps b | none => true) = true := by kernel_rfl
  intro b hb; rw [hb] at h; exact h
theorem nmf55 : (Tryz.f55.name == "runtime.NumGoroutine") = false := by kernel_rfl
@[simp] theorem efn56 : E0.fn 56 = some Tryz.f56 := (show (if fns0.contains 56 = true then Tryz.prog.funcs[56]? else none) = some Tryz.f56 from (if_pos (by decide)).trans Tryz.func56)
theorem okf56 : ∀ b, Tryz.f56.body = some b → okC E0 3 true Tryz.f56.ntmps b = true := by
  have h : (match Tryz.f56.body with | some b => okC E0 3 true Tryz.f56.ntmps b | none => true) = true := by kernel_rfl
  intro b hb; rw [hb] at h; exact h
theorem nmf56 : (Tryz.f56.name == "runtime.NumGoroutine") = false := by kernel_rfl
@[simp] theorem efn57 : E0.fn 57 = some Tryz.f57 := (show (if fns0.contains 57 = true then Tryz.prog.funcs[57]? else none) = some Tryz.f57 from (if_pos (by decide)).trans Tryz.func57)
theorem okf57 : ∀ b, Tryz.f57.body = some b → okC E0 3 true Tryz.f57.ntmps b = true := by
  have h : (match Tryz.f57.body with | some b => okC E0 3 true Tryz.f57.ntmps b | none => true) = true := by kernel_rfl
  intro b hb; rw [hb] at h; exact h
theorem nmf57 : (Tryz.f57.name == "runtime.NumGoroutine") = false := by kernel_rfl
@[simp] theorem efn58 : E0.fn 58 = some Tryz.f58 := (show (if fns0.contains 58 = true then Tryz.prog.funcs[58]? else none) = some Tryz.f58 from (if_pos (by decide)).trans Tryz.func58)
theorem okf58 : ∀ b, Tryz.f58.body = some b → okC E0 3 true Tryz.f58.ntmps b = true := by
  have h : (match Tryz.f58.body with | some b => okC E0 3 true Tryz.f58.ntmps b | none => true) = true := by kernel_rfl
  intro b hb; rw [hb] at h; exact h
theorem nmf58 : (Tryz.f58.name == "runtime.NumGoroutine") = false := by kernel_rfl
@[simp] theorem efn59 : E0.fn 59 = some Tryz.f59 := (show (if fns0.contains 59 = true then Tryz.prog.funcs[59]? else none) = some Tryz.f59 from (if_pos (by decide)).trans Tryz.func59)
theorem okf59 : ∀ b, Tryz.f59.body = some b → okC E0 3 true Tryz.f59.ntmps b = true := by
  have h : (match Tryz.f59.body with | some b => okC E0 3 true Tryz.f59.ntmps b | none => true) = true := by kernel_rfl
  intro b hb; rw [hb] at h; exact h
theorem nmf59 : (Tryz.f59.name == "runtime.NumGoroutine") = false := by kernel_rfl
@[simp] theorem efn60 : E0.fn 60 = some Tryz.f60 := (show (if fns0.contains 60 = true then Tryz.prog.funcs[60]? else none) = some Tryz.f60 from (if_pos (by decide)).trans Tryz.func60)
theorem okf60 : ∀ b, Tryz.f60.body = some b → okC E0 3 true Tryz.f60.ntmps b = true := by
  have h : (match Tryz.f60.body with | some b => okC E0 3 true Tryz.f60.ntmps b | none => true) = true := by kernel_rfl
  intro b hb; rw [hb] at h; exact h
theorem nmf60 : (Tryz.f60.name == "runtime.NumGoroutine") = false := by kernel_rfl
@[simp] theorem efn61 : E0.fn 61 = some Tryz.f61 := (show (if fns0.contains 61 = true then Tryz.prog.funcs[61]? else none) = some Tryz.f61 from (if_pos (by decide)).trans Tryz.func61)
theorem okf61 : ∀ b, Tryz.f61.body = some b → okC E0 3 true Tryz.f61.ntmps b = true := by
  have h : (match Tryz.f61.body with | some b => okC E0 3 true Tryz.f61.ntmps b | none => true) = true := by kernel_rfl
  intro b hb; rw [hb] at h; exact h
theorem nmf61 : (Tryz.f61.name == "runtime.NumGoroutine") = false := by kernel_rfl
@[simp] theorem efn62 : E0.fn 62 = some Tryz.f62 := (show (if fns0.contains 62 = true then Tryz.prog.funcs[62]? else none) = some Tryz.f62 from (if_pos (by decide)).trans Tryz.func62)
theorem okf62 : ∀ b, Tryz.f62.body = some b → okC E0 3 true Tryz.f62.ntmps b = true := by
  have h : (match Tryz.f62.body with | some b => okC E0 3 true Tryz.f62.ntmps b | none => true) = true := by kernel_rfl
  intro b hb; rw [hb] at h; exact h
theorem nmf62 : (Tryz.f62.name == "runtime.NumGoroutine") = false := by kernel_rfl
@[simp] theorem efn63 : E0.fn 63 = some Tryz.f63 := (show (if fns0.contains 63 = true then Tryz.prog.funcs[63]? else none) = some Tryz.f63 from (if_pos (by decide)).trans Tryz.func63)
theorem okf63 : ∀ b, Tryz.f63.body = some b → okC E0 3 true Tryz.f63.ntmps b = true := by
  have h : (match Tryz.f63.body with | some b => okC E0 3 true Tryz.f63.ntmps b | none => true) = true := by kernel_rfl
  intro b hb; rw [hb] at h; exact h
theorem nmf63 : (Tryz.f63.name == "runtime.NumGoroutine") = false := by kernel_rfl
@[simp] theorem efn64 : E0.fn 64 = some Tryz.f64 := (show (if fns0.contains 64 = true then Tryz.prog.funcs[64]? else none) = some Tryz.f64 from (if_pos (by decide)).trans Tryz.func64)
theorem okf64 : ∀ b, Tryz.f64.body = some b → okC E0 3 true Tryz.f64.ntmps b = true := by
  have h : (match Tryz.f64.body with | some b => okC E0 3 true Tryz.f64.ntmps b | none => true) = true := by kernel_rfl
  intro b hb; rw [hb] at h; exact h
theorem nmf64 : (Tryz.f64.name == "runtime.NumGoroutine") = false := by kernel_rfl
@[simp] theorem efn65 : E0.fn 65 = some Tryz.f65 := (show (if fns0.contains 65 = true then Tryz.prog.funcs[65]? else none) = some Tryz.f65 from (if_pos (by decide)).trans Tryz.func65)
theorem okf65 : ∀ b, Tryz.f65.body = some b → okC E0 3 true Tryz.f65.ntmps b = true := by
  have h : (match Tryz.f65.body with | some b => okC E0 3 true Tryz.f65.ntmps b | none => true) = true := by kernel_rfl
  intro b hb; rw [hb] at h; exact h
theorem nmf65 : (Tryz.f65.name == "runtime.NumGoroutine") = false := by kernel_rfl
@[simp] theorem efn66 : E0.fn 66 = some Tryz.f66 := (show (if fns0.contains 66 = true then Tryz.prog.funcs[66]? else none) = some Tryz.f66 from (if_pos (by decide)).trans Tryz.func66)
theorem okf66 : ∀ b, Tryz.f66.body = some b → okC E0 3 true Tryz.f66.ntmps b = true := by
  have h : (match Tryz.f66.body with | some b => okC E0 3 true Tryz.f66.ntmps b | none => true) = true := by kernel_rfl
  intro b hb; rw [hb] at h; exact h
theorem nmf66 : (Tryz.f66.name == "runtime.NumGoroutine") = false := by kernel_rfl
@[simp] theorem efn67 : E0.fn 67 = some Tryz.f67 := (show (if fns0.contains 67 = true then Tryz.prog.funcs[67]? else none) = some Tryz.f67 from (if_pos (by decide)).trans Tryz.func67)
theorem okf67 : ∀ b, Tryz.f67.body = some b → okC E0 3 true Tryz.f67.ntmps b = true := by
  have h : (match Tryz.f67.body with | some b => okC E0 3 true Tryz.f67.ntmps b | none => true) = true := by kernel_rfl
  intro b hb; rw [hb] at h; exact h
theorem nmf67 : (Tryz.f67.name == "runtime.NumGoroutine") = false := by kernel_rfl
@[simp] theorem efn68 : E0.fn 68 = some Tryz.f68 := (show (if fns0.contains 68 = true then Tryz.prog.funcs[68]? else none) = some Tryz.f68 from (if_pos (by decide)).trans Tryz.func68)
theorem okf68 : ∀ b, Tryz.f68.body = some b → okC E0 3 true Tryz.f68.ntmps b = true := by
  have h : (match Tryz.f68.body with | some b => okC E0 3 true Tryz.f68.ntmps b | none => true) = true := by kernel_rfl
  intro b hb; rw [hb] at h; exact h
theorem nmf68 : (Tryz.f68.name == "runtime.NumGoroutine") = false := by kernel_rfl
@[simp] theorem efn72 : E0.fn 72 = some Tryz.f72 := (show (if fns0.contains 72 = true then Tryz.prog.funcs[72]? else none) = some Tryz.f72 from (if_pos (by decide)).trans Tryz.func72)
theorem okf72 : ∀ b, Tryz.f72.body = some b → okC E0 3 true Tryz.f72.ntmps b = true := by
  have h : (match Tryz.f72.body with | some b => okC E0 3 true Tryz.f72.ntmps b | none => true) = true := by kernel_rfl
  intro b hb; rw [hb] at h; exact h
theorem nmf72 : (Tryz.f72.name == "runtime.NumGoroutine") = false := by kernel_rfl
@[simp] theorem efn73 : E0.fn 73 = some Tryz.f73 := (show (if fns0.contains 73 = true then Tryz.prog.funcs[73]? else none) = some Tryz.f73 from (if_pos (by decide)).trans Tryz.func73)
theorem okf73 : ∀ b, Tryz.f73.body = some b → okC E0 3 true Tryz.f73.ntmps b = true := by
  have h : (match Tryz.f73.body with | some b => okC E0 3 true Tryz.f73.ntmps b | none => true) = true := by kernel_rfl
  intro b hb; rw [hb] at h; exact h
theorem nmf73 : (Tryz.f73.name == "runtime.NumGoroutine") = false := by kernel_rfl
@[simp] theorem efn74 : E0.fn 74 = some Tryz.f74 := (show (if fns0.contains 74 = true then Tryz.prog.funcs[74]? else none) = some Tryz.f74 from (if_pos (by decide)).trans Tryz.func74)
theorem okf74 : ∀ b, Tryz.f74.body = some b → okC E0 3 true Tryz.f74.ntmps b = true := by
  have h : (match Tryz.f74.body with | some b => okC E0 3 true Tryz.f74.ntmps b | none => true) = true := by kernel_rfl
  intro b hb; rw [hb] at h; exact h
theorem nmf74 : (Tryz.f74.name == "runtime.NumGoroutine") = false := by kernel_rfl
@[simp] theorem efn75 : E0.fn 75 = some Tryz.f75 := (show (if fns0.contains 75 = true then Tryz.prog.funcs[75]? else none) = some Tryz.f75 from (if_pos (by decide)).trans Tryz.func75)
theorem okf75 : ∀ b, Tryz.f75.body = some b → okC E0 3 true Tryz.f75.ntmps b = true := by
  have h : (match Tryz.f75.body with | some b => okC E0 3 true Tryz.f75.ntmps b | none => true) = true := by kernel_rfl
  intro b hb; rw [hb] at h; exact h
theorem nmf75 : (Tryz.f75.name == "runtime.NumGoroutine") = false := by kernel_rfl
@[simp] theorem efn76 : E0.fn 76 = some Tryz.f76 := (show (if fns0.contains 76 = true then Tryz.prog.funcs[76]? else none) = some Tryz.f76 from (if_pos (by decide)).trans Tryz.func76)
theorem okf76 : ∀ b, Tryz.f76.body = some b → okC E0 3 true Tryz.f76.ntmps b = true := by
  have h : (match Tryz.f76.body with | some b => okC E0 3 true Tryz.f76.ntmps b | none => true) = true := by kernel_rfl
  intro b hb; rw [hb] at h; exact h
theorem nmf76 : (Tryz.f76.name == "runtime.NumGoroutine") = false := by kernel_rfl
@[simp] theorem efn77 : E0.fn 77 = some Tryz.f77 := (show (if fns0.contains 77 = true then Tryz.prog.funcs[77]? else none) = some Tryz.f77 from (if_pos (by decide)).trans Tryz.func77)
theorem okf77 : ∀ b, Tryz.f77.body = some b → okC E0 3 true Tryz.f77.ntmps b = true := by
  have h : (match Tryz.f77.body with | some b => okC E0 3 true Tryz.f77.ntmps b | none => true) = true := by kernel_rfl
  intro b hb; rw [hb] at h; exact h
theorem nmf77 : (Tryz.f77.name == "runtime.NumGoroutine") = false := by kernel_rfl
@[simp] theorem efn78 : E0.fn 78 = some Tryz.f78 := (show (if fns0.contains 78 = true then Tryz.prog.funcs[78]? else none) = some Tryz.f78 from (if_pos (by decide)).trans Tryz.func78)
theorem okf78 : ∀ b, Tryz.f78.body = some b → okC E0 3 true Tryz.f78.ntmps b = true := by
  have h : (match Tryz.f78.body with | some b => okC E0 3 true Tryz.f78.ntmps b | none => true) = true := by kernel_rfl
  intro b hb; rw [hb] at h; exact h
theorem nmf78 : (Tryz.f78.name == "runtime.NumGoroutine") = false := by kernel_rfl
@[simp] theorem efn79 : E0.fn 79 = some Tryz.f79 := (show (if fns0.contains 79 = true then Tryz.prog.funcs[79]? else none) = some Tryz.f79 from (if_pos (by decide)).trans Tryz.func79)
theorem okf79 : ∀ b, Tryz.f79.body = some b → okC E0 3 true Tryz.f79.ntmps b = true := by
  have h : (match Tryz.f79.body with | some b => okC E0 3 true Tryz.f79.ntmps b | none => true) = true := by kernel_rfl
  intro b hb; rw [hb] at h; exact h
theorem nmf79 : (Tryz.f79.name == "runtime.NumGoroutine") = false := by kernel_rfl
@[simp] theorem efn80 : E0.fn 80 = some Tryz.f80 := (show (if fns0.contains 80 = true then Tryz.prog.funcs[80]? else none) = some Tryz.f80 from (if_pos (by decide)).trans Tryz.func80)
theorem okf80 : ∀ b, Tryz.f80.body = some b → okC E0 3 true Tryz.f80.ntmps b = true := by
  have h : (match Tryz.f80.body with | some b => okC E0 3 true Tryz.f80.ntmps b | none => true) = true := by kernel_rfl
  intro b hb; rw [hb] at h; exact h
theorem nmf80 : (Tryz.f80.name == "runtime.NumGoroutine") = false := by kernel_rfl
@[simp] theorem efn81 : E0.fn 81 = some Tryz.f81 := (show (if fns0.contains 81 = true then Tryz.prog.funcs[81]? else none) = some Tryz.f81 from (if_pos (by decide)).trans Tryz.func81)
theorem okf81 : ∀ b, Tryz.f81.body = some b → okC E0 3 true Tryz.f81.ntmps b = true := by
  have h : (match Tryz.f81.body with | some b => okC E0 3 true Tryz.f81.ntmps b | none => true) = true := by kernel_rfl
  intro b hb; rw [hb] at h; exact h
theorem nmf81 : (Tryz.f81.name == "runtime.NumGoroutine") = false := by kernel_rfl
@[simp] theorem efn82 : E0.fn 82 = some Tryz.f82 := (show (if fns0.contains 82 = true then Tryz.prog.funcs[82]? else none) = some Tryz.f82 from (if_pos (by decide)).trans Tryz.func82)
theorem okf82 : ∀ b, Tryz.f82.body = some b → okC E0 3 true Tryz.f82.ntmps b = true := by
  have h : (match Tryz.f82.body with | some b => okC E0 3 true Tryz.f82.ntmps b | none => true) = true := by kernel_rfl
  intro b hb; rw [hb] at h; exact h
theorem nmf82 : (Tryz.f82.name == "runtime.NumGoroutine") = false := by kernel_rfl
@[simp] theorem efn83 : E0.fn 83 = some Tryz.f83 := (show (if fns0.contains 83 = true then Tryz.prog.funcs[83]? else none) = some Tryz.f83 from (if_pos (by decide)).trans Tryz.func83)
theorem okf83 : ∀ b, Tryz.f83.body = some b → okC E0 3 true Tryz.f83.ntmps b = true := by
  have h : (match Tryz.f83.body with | some b => okC E0 3 true Tryz.f83.ntmps b | none => true) = true := by kernel_rfl
  intro b hb; rw [hb] at h; exact h
theorem nmf83 : (Tryz.f83.name == "runtime.NumGoroutine") = false := by kernel_rfl
@[simp] theorem efn84 : E0.fn 84 = some Tryz.f84 := (show (if fns0.contains 84 = true then Tryz.prog.funcs[84]? else none) = some Tryz.f84 from (if_pos (by decide)).trans Tryz.func84)
theorem okf84 : ∀ b, Tryz.f84.body = some b → okC E0 3 true Tryz.f84.ntmps b = true := by
  have h : (match Tryz.f84.body with | some b => okC E0 3 true Tryz.f84.ntmps b | none => true) = true := by kernel_rfl
  intro b hb; rw [hb] at h; exact h
theorem nmf84 : (Tryz.f84.name == "runtime.NumGoroutine") = false := by kernel_rfl
@[simp] theorem efn85 : E0.fn 85 = some Tryz.f85 := (show (if fns0.contains 85 = true then Tryz.prog.funcs[85]? else none) = some Tryz.f85 from (if_pos (by decide)).trans Tryz.func85)
theorem okf85 : ∀ b, Tryz.f85.body = some b → okC E0 3 true Tryz.f85.ntmps b = true := by
  have h : (match Tryz.f85.body with | some b => okC E0 3 true Tryz.f85.ntmps b | none => true) = true := by kernel_rfl
  intro b hb; rw [hb] at h; exact h
theorem nmf85 : (Tryz.f85.name == "runtime.NumGoroutine") = false := by kernel_rfl
@[simp] theorem efn86 : E0.fn 86 = some Tryz.f86 := (show (if fns0.contains 86 = true then Tryz.prog.funcs[86]? else none) = some Tryz.f86 from (if_pos (by decide)).trans Tryz.func86)
theorem okf86 : ∀ b, Tryz.f86.body = some b → okC E0 3 true Tryz.f86.ntmps b = true := by
  have h : (match Tryz.f86.body with | some b => okC E0 3 true Tryz.f86.ntmps b | none => true) = true := by kernel_rfl
  intro b hb; rw [hb] at h; exact h
theorem nmf86 : (Tryz.f86.name == "runtime.NumGoroutine") = false := by kernel_rfl
@[simp] theorem efn87 : E0.fn 87 = some Tryz.f87 := (show (if fns0.contains 87 = true then Tryz.prog.funcs[87]? else none) = some Tryz.f87 from (if_pos (by decide)).trans Tryz.func87)
theorem okf87 : ∀ b, Tryz.f87.body = some b → okC E0 3 true Tryz.f87.ntmps b = true := by
  have h : (match Tryz.f87.body with | some b => okC E0 3 true Tryz.f87.ntmps b | none => true) = true := by kernel_rfl
  intro b hb; rw [hb] at h; exact h
theorem nmf87 : (Tryz.f87.name == "runtime.NumGoroutine") = false := by kernel_rfl
@[simp] theorem efn88 : E0.fn 88 = some Tryz.f88 := (show (if fns0.contains 88 = true then Tryz.prog.funcs[88]? else none) = some Tryz.f88 from (if_pos (by decide)).trans Tryz.func88)
theorem okf88 : ∀ b, Tryz.f88.body = some b → okC E0 3 true Tryz.f88.ntmps b = true := by
  have h : (match Tryz.f88.body with | some b => okC E0 3 true Tryz.f88.ntmps b | none => true) = true := by kernel_rfl
  intro b hb; rw [hb] at h; exact h
theorem nmf88 : (Tryz.f88.name == "runtime.NumGoroutine") = false := by kernel_rfl
@[simp] theorem efn89 : E0.fn 89 = some Tryz.f89 := (show (if fns0.contains 89 = true then Tryz.prog.funcs[89]? else none) = some Tryz.f89 from (if_pos (by decide)).trans Tryz.func89)
theorem okf89 : ∀ b, Tryz.f89.body = some b → okC E0 3 true Tryz.f89.ntmps b = true := by
  have h : (match Tryz.f89.body with | some b => okC E0 3 true Tryz.f89.ntmps b | none => true) = true := by kernel_rfl
  intro b hb; rw [hb] at h; exact h
theorem nmf89 : (Tryz.f89.name == "runtime.NumGoroutine") = false := by kernel_rfl
@[simp] theorem efn90 : E0.fn 90 = some Tryz.f90 := (show (if fns0.contains 90 = true then Tryz.prog.funcs[90]? else none) = some Tryz.f90 from (if_pos (by decide)).trans Tryz.func90)
theorem okf90 : ∀ b, Tryz.f90.body = some b → okC E0 3 true Tryz.f90.ntmps b = true := by
  have h : (match Tryz.f90.body with | some b => okC E0 3 true Tryz.f90.ntmps b | none => true) = true := by kernel_rfl
  intro b hb; rw [hb] at h; exact h
theorem nmf90 : (Tryz.f90.name == "runtime.NumGoroutine") = false := by kernel_rfl
@[simp] theorem efn91 : E0.fn 91 = some Tryz.f91 := (show (if fns0.contains 91 = true then Tryz.prog.funcs[91]? else none) = some Tryz.f91 from (if_pos (by decide)).trans Tryz.func91)
theorem okf91 : ∀ b, Tryz.f91.body = some b → okC E0 3 true Tryz.f91.ntmps b = true := by
  have h : (match Tryz.f91.body with | some b => okC E0 3 true Tryz.f91.ntmps b | none => true) = true := by kernel_rfl
  intro b hb; rw [hb] at h; exact h
theorem nmf91 : (Tryz.f91.name == "runtime.NumGoroutine") = false := by kernel_rfl
@[simp] theorem efn92 : E0.fn 92 = some Tryz.f92 := (show (if fns0.contains 92 = true then Tryz.prog.funcs[92]? else none) = some Tryz.f92 from (if_pos (by decide)).trans Tryz.func92)
theorem okf92 : ∀ b, Tryz.f92.body = some b → okC E0 3 true Tryz.f92.ntmps b = true := by
  have h : (match Tryz.f92.body with | some b => okC E0 3 true Tryz.f92.ntmps b | none => true) = true := by kernel_rfl
  intro b hb; rw [hb] at h; exact h
theorem nmf92 : (Tryz.f92.name == "runtime.NumGoroutine") = false := by kernel_rfl
@[simp] theorem efn93 : E0.fn 93 = some Tryz.f93 := (show (if fns0.contains 93 = true then Tryz.prog.funcs[93]? else none) = some Tryz.f93 from (if_pos (by decide)).trans Tryz.func93)
theorem okf93 : ∀ b, Tryz.f93.body = some b → okC E0 3 true Tryz.f93.ntmps b = true := by
  have h : (match Tryz.f93.body with | some b => okC E0 3 true Tryz.f93.ntmps b | none => true) = true := by kernel_rfl
  intro b hb; rw [hb] at h; exact h
theorem nmf93 : (Tryz.f93.name == "runtime.NumGoroutine") = false := by kernel_rfl
@[simp] theorem efn94 : E0.fn 94 = some Tryz.f94 := (show (if fns0.contains 94 = true then Tryz.prog.funcs[94]? else none) = some Tryz.f94 from (if_pos (by decide)).trans Tryz.func94)
theorem okf94 : ∀ b, Tryz.f94.body = some b → okC E0 3 true Tryz.f94.ntmps b = true := by
  have h : (match Tryz.f94.body with | some b => okC E0 3 true Tryz.f94.ntmps b | none => true) = true := by kernel_rfl
  intro b hb; rw [hb] at h; exact h
theorem nmf94 : (Tryz.f94.name == "runtime.NumGoroutine") = false := by kernel_rfl
@[simp] theorem efn95 : E0.fn 95 = some Tryz.f95 := (show (if fns0.contains 95 = true then Tryz.prog.funcs[95]? else none) = some Tryz.f95 from (if_pos (by decide)).trans Tryz.func95)
theorem okf95 : ∀ b, Tryz.f95.body = some b → okC E0 3 true Tryz.f95.ntmps b = true := by
  have h : (match Tryz.f95.body with | some b => okC E0 3 true Tryz.f95.ntmps b | none => true) = true := by kernel_rfl
  intro b hb; rw [hb] at h; exact h
theorem nmf95 : (Tryz.f95.name == "runtime.NumGoroutine") = false := by kernel_rfl
@[simp] theorem efn96 : E0.fn 96 = some Tryz.f96 := (show (if fns0.contains 96 = true then Tryz.prog.funcs[96]? else none) = some Tryz.f96 from (if_pos (by decide)).trans Tryz.func96)
theorem okf96 : ∀ b, Tryz.f96.body = some b → okC E0 3 true Tryz.f96.ntmps b = true := by
  have h : (match Tryz.f96.body with | some b => okC E0 3 true Tryz.f96.ntmps b | none => true) = true := by kernel_rfl
  intro b hb; rw [hb] at h; exact h
theorem nmf96 : (Tryz.f96.name == "runtime.NumGoroutine") = false := by kernel_rfl
@[simp] theorem efn97 : E0.fn 97 = some Tryz.f97 := (show (if fns0.contains 97 = true then Tryz.prog.funcs[97]? else none) = some Tryz.f97 from (if_pos (by decide)).trans Tryz.func97)
theorem okf97 : ∀ b, Tryz.f97.body = some b → okC E0 3 true Tryz.f97.ntmps b = true := by
  have h : (match Tryz.f97.body with | some b => okC E0 3 true Tryz.f97.ntmps b | none => true) = true := by kernel_rfl
  intro b hb; rw [hb] at h; exact h
theorem nmf97 : (Tryz.f97.name == "runtime.NumGoroutine") = false := by kernel_rfl
@[simp] theorem efn98 : E0.fn 98 = some Tryz.f98 := (show (if fns0.contains 98 = true then Tryz.prog.funcs[98]? else none) = some Tryz.f98 from (if_pos (by decide)).trans Tryz.func98)
theorem okf98 : ∀ b, Tryz.f98.body = some b → okC E0 3 true Tryz.f98.ntmps b = true := by
  have h : (match Tryz.f98.body with | some b => okC E0 3 true Tryz.f98.ntmps b | none => true) = true := by kernel_rfl
  intro b hb; rw [hb] at h; exact h
theorem nmf98 : (Tryz.f98.name == "runtime.NumGoroutine") = false := by kernel_rfl
@[simp] theorem efn99 : E0.fn 99 = some Tryz.f99 := (show (if fns0.contains 99 = true then Tryz.prog.funcs[99]? else none) = some Tryz.f99 from (if_pos (by decide)).trans Tryz.func99)
theorem okf99 : ∀ b, Tryz.f99.body = some b → okC E0 3 true Tryz.f99.ntmps b = true := by
  have h : (match Tryz.f99.body with | some b => okC E0 3 true Tryz.f99.ntmps b | none => true) = true := by kernel_rfl
  intro b hb; rw [hb] at h; exact h
theorem nmf99 : (Tryz.f99.name == "runtime.NumGoroutine") = false := by kernel_rfl
@[simp] theorem efn100 : E0.fn 100 = some Tryz.f100 := (show (if fns0.contains 100 = true then Tryz.prog.funcs[100]? else none) = some Tryz.f100 from (if_pos (by decide)).trans Tryz.func100)
theorem okf100 : ∀ b, Tryz.f100.body = some b → okC E0 3 true Tryz.f100.ntmps b = true := by
  have h : (match Tryz.f100.body with | some b => okC E0 3 true Tryz.f100.ntmps b | none => true) = true := by kernel_rfl
  intro b hb; rw [hb] at h; exact h
theorem nmf100 : (Tryz.f100.name == "runtime.NumGoroutine") = false := by kernel_rfl
@[simp] theorem efn101 : E0.fn 101 = some Tryz.f101 := (show (if fns0.contains 101 = true then Tryz.prog.funcs[101]? else none) = some Tryz.f101 from (if_pos (by decide)).trans Tryz.func101)
theorem okf101 : ∀ b, Tryz.f101.body = some b → okC E0 3 true Tryz.f101.ntmps b = true := by
  have h : (match Tryz.f101.body with | some b => okC E0 3 true Tryz.f101.ntmps b | none => true) = true := by kernel_rfl
  intro b hb; rw [hb] at h; exact h
theorem nmf101 : (Tryz.f101.name == "runtime.NumGoroutine") = false := by kernel_rfl
@[simp] theorem efn102 : E0.fn 102 = some Tryz.f102 := (show (if fns0.contains 102 = true then Tryz.prog.funcs[102]? else none) = some Tryz.f102 from (if_pos (by decide)).trans Tryz.func102)
theorem okf102 : ∀ b, Tryz.f102.body = some b → okC E0 3 true Tryz.f102.ntmps b = true := by
  have h : (match Tryz.f102.body with | some b => okC E0 3 true Tryz.f102.ntmps b | none => true) = true := by kernel_rfl
  intro b hb; rw [hb] at h; exact h
theorem nmf102 : (Tryz.f102.name == "runtime.NumGoroutine") = false := by kernel_rfl
@[simp] theorem efn103 : E0.fn 103 = some Tryz.f103 := (show (if fns0.contains 103 = true then Tryz.prog.funcs[103]? else none) = some Tryz.f103 from (if_pos (by decide)).trans Tryz.func103)
theorem okf103 : ∀ b, Tryz.f103.body = some b → okC E0 3 true Tryz.f103.ntmps b = true := by
  have h : (match Tryz.f103.body with | some b => okC E0 3 true Tryz.f103.ntmps b | none => true) = true := by kernel_rfl
  intro b hb; rw [hb] at h; exact h
theorem nmf103 : (Tryz.f103.name == "runtime.NumGoroutine") = false := by kernel_rfl
@[simp] theorem efn104 : E0.fn 104 = some Tryz.f104 := (show (if fns0.contains 104 = true then Tryz.prog.funcs[104]? else none) = some Tryz.f104 from (if_pos (by decide)).trans Tryz.func104)
theorem okf104 : ∀ b, Tryz.f104.body = some b → okC E0 3 true Tryz.f104.ntmps b = true := by
  have h : (match Tryz.f104.body with | some b => okC E0 3 true Tryz.f104.ntmps b | none => true) = true := by kernel_rfl
  intro b hb; rw [hb] at h; exact h
theorem nmf104 : (Tryz.f104.name == "runtime.NumGoroutine") = false := by kernel_rfl
@[simp] theorem efn105 : E0.fn 105 = some Tryz.f105 := (show (if fns0.contains 105 = true then Tryz.prog.funcs[105]? else none) = some Tryz.f105 from (if_pos (by decide)).trans Tryz.func105)
theorem okf105 : ∀ b, Tryz.f105.body = some b → okC E0 3 true Tryz.f105.ntmps b = true := by
  have h : (match Tryz.f105.body with | some b => okC E0 3 true Tryz.f105.ntmps b | none => true) = true := by kernel_rfl
  intro b hb; rw [hb] at h; exact h
theorem nmf105 : (Tryz.f105.name == "runtime.NumGoroutine") = false := by kernel_rfl
@[simp] theorem efn106 : E0.fn 106 = some Tryz.f106 := (show (if fns0.contains 106 = true then Tryz.prog.funcs[106]? else none) = some Tryz.f106 from (if_pos (by decide)).trans Tryz.func106)
theorem okf106 : ∀ b, Tryz.f106.body = some b → okC E0 3 true Tryz.f106.ntmps b = true := by
  have h : (match Tryz.f106.body with | some b => okC E0 3 true Tryz.f106.ntmps b | none => true) = true := by kernel_rfl
  intro b hb; rw [hb] at h; exact h
theorem nmf106 : (Tryz.f106.name == "runtime.NumGoroutine") = false := by kernel_rfl
@[simp] theorem efn107 : E0.fn 107 = some Tryz.f107 := (show (if fns0.contains 107 = true then Tryz.prog.funcs[107]? else none) = some Tryz.f107 from (if_pos (by decide)).trans Tryz.func107)
theorem okf107 : ∀ b, Tryz.f107.body = some b → okC E0 3 true Tryz.f107.ntmps b = true := by
  have h : (match Tryz.f107.body with | some b => okC E0 3 true Tryz.f107.ntmps b | none => true) = true := by kernel_rfl
  intro b hb; rw [hb] at h; exact h
theorem nmf107 : (Tryz.f107.name == "runtime.NumGoroutine") = false := by kernel_rfl
@[simp] theorem efn108 : E0.fn 108 = some Tryz.f108 := (show (if fns0.contains 108 = true then Tryz.prog.funcs[108]? else none) = some Tryz.f108 from (if_pos (by decide)).trans Tryz.func108)
theorem okf108 : ∀ b, Tryz.f108.body = some b → okC E0 3 true Tryz.f108.ntmps b = true := by
  have h : (match Tryz.f108.body with | some b => okC E0 3 true Tryz.f108.ntmps b | none => true) = true := by kernel_rfl
  intro b hb; rw [hb] at h; exact h
theorem nmf108 : (Tryz.f108.name == "runtime.NumGoroutine") = false := by kernel_rfl
@[simp] theorem efn109 : E0.fn 109 = some Tryz.f109 := (show (if fns0.contains 109 = true then Tryz.prog.funcs[109]? else none) = some Tryz.f109 from (if_pos (by decide)).trans Tryz.func109)
theorem okf109 : ∀ b, Tryz.f109.body = some b → okC E0 3 true Tryz.f109.ntmps b = true := by
  have h : (match Tryz.f109.body with | some b => okC E0 3 true Tryz.f109.ntmps b | none => true) = true := by kernel_rfl
  intro b hb; rw [hb] at h; exact h
theorem nmf109 : (Tryz.f109.name == "runtime.NumGoroutine") = false := by kernel_rfl
@[simp] theorem efn119 : E0.fn 119 = some Tryz.f119 := (show (if fns0.contains 119 = true then Tryz.prog.funcs[119]? else none) = some Tryz.f119 from (if_pos (by decide)).trans Tryz.func119)
theorem okf119 : ∀ b, Tryz.f119.body = some b → okC E0 3 true Tryz.f119.ntmps b = true := by
  have h : (match Tryz.f119.body with | some b => okC E0 3 true Tryz.f119.ntmps b | none => true) = true := by kernel_rfl
  intro b hb; rw [hb] at h; exact h
theorem nmf119 : (Tryz.f119.name == "runtime.NumGoroutine") = false := by kernel_rfl
@[simp] theorem efn120 : E0.fn 120 = some Tryz.f120 := (show (if fns0.contains 120 = true then Tryz.prog.funcs[120]? else none) = some Tryz.f120 from (if_pos (by decide)).trans Tryz.func120)
theorem okf120 : ∀ b, Tryz.f120.body = some b → okC E0 3 true Tryz.f120.ntmps b = true := by
  have h : (match Tryz.f120.body with | some b => okC E0 3 true Tryz.f120.ntmps b | none => true) = true := by kernel_rfl
  intro b hb; rw [hb] at h; exact h
theorem nmf120 : (Tryz.f120.name == "runtime.NumGoroutine") = false := by kernel_rfl
@[simp] theorem efn121 : E0.fn 121 = some Tryz.f121 := (show (if fns0.contains 121 = true then Tryz.prog.funcs[121]? else none) = some Tryz.f121 from (if_pos (by decide)).trans Tryz.func121)
theorem okf121 : ∀ b, Tryz.f121.body = some b → okC E0 3 true Tryz.f121.ntmps b = true := by
  have h : (match Tryz.f121.body with | some b => okC E0 3 true Tryz.f121.ntmps b | none => true) = true := by kernel_rfl
  intro b hb; rw [hb] at h; exact h
theorem nmf121 : (Tryz.f121.name == "runtime.NumGoroutine") = false := by kernel_rfl
@[simp] theorem efn122 : E0.fn 122 = some Tryz.f122 := (show (if fns0.contains 122 = true then Tryz.prog.funcs[122]? else none) = some Tryz.f122 from (if_pos (by decide)).trans Tryz.func122)
theorem okf122 : ∀ b, Tryz.f122.body = some b → okC E0 3 true Tryz.f122.ntmps b = true := by
  have h : (match Tryz.f122.body with | some b => okC E0 3 true Tryz.f122.ntmps b | none => true) = true := by kernel_rfl
  intro b hb; rw [hb] at h; exact h
theorem nmf122 : (Tryz.f122.name == "runtime.NumGoroutine") = false := by kernel_rfl
@[simp] theorem efn123 : E0.fn 123 = some Tryz.f123 := (show (if fns0.contains 123 = true then Tryz.prog.funcs[123]? else none) = some Tryz.f123 from (if_pos (by decide)).trans Tryz.func123)
theorem okf123 : ∀ b, Tryz.f123.body = some b → okC E0 3 true Tryz.f123.ntmps b = true := by
  have h : (match Tryz.f123.body with | some b => okC E0 3 true Tryz.f123.ntmps b | none => true) = true := by kernel_rfl
  intro b hb; rw [hb] at h; exact h
theorem nmf123 : (Tryz.f123.name == "runtime.NumGoroutine") = false := by kernel_rfl
@[simp] theorem efn124 : E0.fn 124 = some Tryz.f124 := (show (if fns0.contains 124 = true then Tryz.prog.funcs[124]? else none) = some Tryz.f124 from (if_pos (by decide)).trans Tryz.func124)
theorem okf124 : ∀ b, Tryz.f124.body = some b → okC E0 3 true Tryz.f124.ntmps b = true := by
  have h : (match Tryz.f124.body with | some b => okC E0 3 true Tryz.f124.ntmps b | none => true) = true := by kernel_rfl
  intro b hb; rw [hb] at h; exact h
theorem nmf124 : (Tryz.f124.name == "runtime.NumGoroutine") = false := by kernel_rfl
@[simp] theorem efn125 : E0.fn 125 = some Tryz.f125 := (show (if fns0.contains 125 = true then Tryz.prog.funcs[125]? else none) = some Tryz.f125 from (if_pos (by decide)).trans Tryz.func125)
theorem okf125 : ∀ b, Tryz.f125.body = some b → okC E0 3 true Tryz.f125.ntmps b = true := by
  have h : (match Tryz.f125.body with | some b => okC E0 3 true Tryz.f125.ntmps b | none => true) = true := by kernel_rfl
  intro b hb; rw [hb] at h; exact h
theorem nmf125 : (Tryz.f125.name == "runtime.NumGoroutine") = false := by kernel_rfl
@[simp] theorem efn126 : E0.fn 126 = some Tryz.f126 := (show (if fns0.contains 126 = true then Tryz.prog.funcs[126]? else none) = some Tryz.f126 from (if_pos (by decide)).trans Tryz.func126)
theorem okf126 : ∀ b, Tryz.f126.body = some b → okC E0 3 true Tryz.f126.ntmps b = true := by
  have h : (match Tryz.f126.body with | some b => okC E0 3 true Tryz.f126.ntmps b | none => true) = true := by kernel_rfl
  intro b hb; rw [hb] at h; exact h
theorem nmf126 : (Tryz.f126.name == "runtime.NumGoroutine") = false := by kernel_rfl
@[simp] theorem efn127 : E0.fn 127 = some Tryz.f127 := (show (if fns0.contains 127 = true then Tryz.prog.funcs[127]? else none) = some Tryz.f127 from (if_pos (by decide)).trans Tryz.func127)
theorem okf127 : ∀ b, Tryz.f127.body = some b → okC E0 3 true Tryz.f127.ntmps b = true := by
  have h : (match Tryz.f127.body with | some b => okC E0 3 true Tryz.f127.ntmps b | none => true) = true := by kernel_rfl
  intro b hb; rw [hb] at h; exact h
theorem nmf127 : (Tryz.f127.name == "runtime.NumGoroutine") = false := by kernel_rfl
@[simp] theorem efn128 : E0.fn 128 = some Tryz.f128 := (show (if fns0.contains 128 = true then Tryz.prog.funcs[128]? else none) = some Tryz.f128 from (if_pos (by decide)).trans Tryz.func128)
theorem okf128 : ∀ b, Tryz.f128.body = some b → okC E0 3 true Tryz.f128.ntmps b = true := by
  have h : (match Tryz.f128.body with | some b => okC E0 3 true Tryz.f128.ntmps b | none => true) = true := by kernel_rfl
  intro b hb; rw [hb] at h; exact h
theorem nmf128 : (Tryz.f128.name == "runtime.NumGoroutine") = false := by kernel_rfl
@[simp] theorem efn129 : E0.fn 129 = some Tryz.f129 := (show (if fns0.contains 129 = true then Tryz.prog.funcs[129]? else none) = some Tryz.f129 from (if_pos (by decide)).trans Tryz.func129)
theorem okf129 : ∀ b, Tryz.f129.body = some b → okC E0 3 true Tryz.f129.ntmps b = true := by
  have h : (match Tryz.f129.body with | some b => okC E0 3 true Tryz.f129.ntmps b | none => true) = true := by kernel_rfl
  intro b hb; rw [hb] at h; exact h
theorem nmf129 : (Tryz.f129.name == "runtime.NumGoroutine") = false := by kernel_rfl
@[simp] theorem efn130 : E0.fn 130 = some Tryz.f130 := (show (if fns0.contains 130 = true then Tryz.prog.funcs[130]? else none) = some Tryz.f130 from (if_pos (by decide)).trans Tryz.func130)
theorem okf130 : ∀ b, Tryz.f130.body = some b → okC E0 3 true Tryz.f130.ntmps b = true := by
  have h : (match Tryz.f130.body with | some b => okC E0 3 true Tryz.f130.ntmps b | none => true) = true := by kernel_rfl
  intro b hb; rw [hb] at h; exact h
theorem nmf130 : (Tryz.f130.name == "runtime.NumGoroutine") = false := by kernel_rfl
@[simp] theorem efn131 : E0.fn 131 = some Tryz.f131 := (show (if fns0.contains 131 = true then Tryz.prog.funcs[131]? else none) = some Tryz.f131 from (if_pos (by decide)).trans Tryz.func131)
theorem okf131 : ∀ b, Tryz.f131.body = some b → okC E0 3 true Tryz.f131.ntmps b = true := by
  have h : (match Tryz.f131.body with | some b => okC E0 3 true Tryz.f131.ntmps b | none => true) = true := by kernel_rfl
  intro b hb; rw [hb] at h; exact h
theorem nmf131 : (Tryz.f131.name == "runtime.NumGoroutine") = false := by kernel_rfl
@[simp] theorem efn132 : E0.fn 132 = some Tryz.f132 := (show (if fns0.contains 132 = true then Tryz.prog.funcs[132]? else none) = some Tryz.f132 from (if_pos (by decide)).trans Tryz.func132)
theorem okf132 : ∀ b, Tryz.f132.body = some b → okC E0 3 true Tryz.f132.ntmps b = true := by
  have h : (match Tryz.f132.body with | some b => okC E0 3 true Tryz.f132.ntmps b | none => true) = true := by kernel_rfl
  intro b hb; rw [hb] at h; exact h
theorem nmf132 : (Tryz.f132.name == "runtime.NumGoroutine") = false := by kernel_rfl
@[simp] theorem efn133 : E0.fn 133 = some Tryz.f133 := (show (if fns0.contains 133 = true then Tryz.prog.funcs[133]? else none) = some Tryz.f133 from (if_pos (by decide)).trans Tryz.func133)
theorem okf133 : ∀ b, Tryz.f133.body = some b → okC E0 3 true Tryz.f133.ntmps b = true := by
  have h : (match Tryz.f133.body with | some b => okC E0 3 true Tryz.f133.ntmps b | none => true) = true := by kernel_rfl
  intro b hb; rw [hb] at h; exact h
theorem nmf133 : (Tryz.f133.name == "runtime.NumGoroutine") = false := by kernel_rfl
@[simp] theorem efn134 : E0.fn 134 = some Tryz.f134 := (show (if fns0.contains 134 = true then Tryz.prog.funcs[134]? else none) = some Tryz.f134 from (if_pos (by decide)).trans Tryz.func134)
theorem okf134 : ∀ b, Tryz.f134.body = some b → okC E0 3 true Tryz.f134.ntmps b = true := by
  have h : (match Tryz.f134.body with | some b => okC E0 3 true Tryz.f134.ntmps b | none => true) = true := by kernel_rfl
  intro b hb; rw [hb] at h; exact h
theorem nmf134 : (Tryz.f134.name == "runtime.NumGoroutine") = false := by kernel_rfl
@[simp] theorem efn135 : E0.fn 135 = some Tryz.f135 := (show (if fns0.contains 135 = true then Tryz.prog.funcs[135]? else none) = some Tryz.f135 from (if_pos (by decide)).trans Tryz.func135)
theorem okf135 : ∀ b, Tryz.f135.body = some b → okC E0 3 true Tryz.f135.ntmps b = true := by
  have h : (match Tryz.f135.body with | some b => okC E0 3 true Tryz.f135.ntmps b | none => true) = true := by kernel_rfl
  intro b hb; rw [hb] at h; exact h
theorem nmf135 : (Tryz.f135.name == "runtime.NumGoroutine") = false := by kernel_rfl
@[simp] theorem efn136 : E0.fn 136 = some Tryz.f136 := (show (if fns0.contains 136 = true then Tryz.prog.funcs[136]? else none) = some Tryz.f136 from (if_pos (by decide)).trans Tryz.func136)
theorem okf136 : ∀ b, Tryz.f136.body = some b → okC E0 3 true Tryz.f136.ntmps b = true := by
  have h : (match Tryz.f136.body with | some b => okC E0 3 true Tryz.f136.ntmps b | none => true) = true := by kernel_rfl
  intro b hb; rw [hb] at h; exact h
theorem nmf136 : (Tryz.f136.name == "runtime.NumGoroutine") = false := by kernel_rfl
@[simp] theorem efn137 : E0.fn 137 = some Tryz.f137 := (show (if fns0.contains 137 = true then Tryz.prog.funcs[137]? else none) = some Tryz.f137 from (if_pos (by decide)).trans Tryz.func137)
theorem okf137 : ∀ b, Tryz.f137.body = some b → okC E0 3 true Tryz.f137.ntmps b = true := by
  have h : (match Tryz.f137.body with | some b => okC E0 3 true Tryz.f137.ntmps b | none => true) = true := by kernel_rfl
  intro b hb; rw [hb] at h; exact h
theorem nmf137 : (Tryz.f137.name == "runtime.NumGoroutine") = false := by kernel_rfl
@[simp] theorem efn138 : E0.fn 138 = some Tryz.f138 := (show (if fns0.contains 138 = true then Tryz.prog.funcs[138]? else none) = some Tryz.f138 from (if_pos (by decide)).trans Tryz.func138)
theorem okf138 : ∀ b, Tryz.f138.body = some b → okC E0 3 true Tryz.f138.ntmps b = true := by
  have h : (match Tryz.f138.body with | some b => okC E0 3 true Tryz.f138.ntmps b | none => true) = true := by kernel_rfl
  intro b hb; rw [hb] at h; exact h
theorem nmf138 : (Tryz.f138.name == "runtime.NumGoroutine") = false := by kernel_rfl
@[simp] theorem efn139 : E0.fn 139 = some Tryz.f139 := (show (if fns0.contains 139 = true then Tryz.prog.funcs[139]? else none) = some Tryz.f139 from (if_pos (by decide)).trans Tryz.func139)
theorem okf139 : ∀ b, Tryz.f139.body = some b → okC E0 3 true Tryz.f139.ntmps b = true := by
  have h : (match Tryz.f139.body with | some b => okC E0 3 true Tryz.f139.ntmps b | none => true) = true := by kernel_rfl
  intro b hb; rw [hb] at h; exact h
theorem nmf139 : (Tryz.f139.name == "runtime.NumGoroutine") = false := by kernel_rfl
@[simp] theorem efn140 : E0.fn 140 = some Tryz.f140 := (show (if fns0.contains 140 = true then Tryz.prog.funcs[140]? else none) = some Tryz.f140 from (if_pos (by decide)).trans Tryz.func140)
theorem okf140 : ∀ b, Tryz.f140.body = some b → okC E0 3 true Tryz.f140.ntmps b = true := by
  have h : (match Tryz.f140.body with | some b => okC E0 3 true Tryz.f140.ntmps b | none => true) = true := by kernel_rfl
  intro b hb; rw [hb] at h; exact h
theorem nmf140 : (Tryz.f140.name == "runtime.NumGoroutine") = false := by kernel_rfl
@[simp] theorem efn141 : E0.fn 141 = some Tryz.f141 := (show (if fns0.contains 141 = true then Tryz.prog.funcs[141]? else none) = some Tryz.f141 from (if_pos (by decide)).trans Tryz.func141)
theorem okf141 : ∀ b, Tryz.f141.body = some b → okC E0 3 true Tryz.f141.ntmps b = true := by
  have h : (match Tryz.f141.body with | some b => okC E0 3 true Tryz.f141.ntmps b | none => true) = true := by kernel_rfl
  intro b hb; rw [hb] at h; exact h
theorem nmf141 : (Tryz.f141.name == "runtime.NumGoroutine") = false := by kernel_rfl
@[simp] theorem efn142 : E0.fn 142 = some Tryz.f142 := (show (if fns0.contains 142 = true then Tryz.prog.funcs[142]? else none) = some Tryz.f142 from (if_pos (by decide)).trans Tryz.func142)
theorem okf142 : ∀ b, Tryz.f142.body = some b → okC E0 3 true Tryz.f142.ntmps b = true := by
  have h : (match Tryz.f142.body with | some b => okC E0 3 true Tryz.f142.ntmps b | none => true) = true := by kernel_rfl
  intro b hb; rw [hb] at h; exact h
theorem nmf142 : (Tryz.f142.name == "runtime.NumGoroutine") = false := by kernel_rfl
@[simp] theorem efn143 : E0.fn 143 = some Tryz.f143 := (show (if fns0.contains 143 = true then Tryz.prog.funcs[143]? else none) = some Tryz.f143 from (if_pos (by decide)).trans Tryz.func143)
theorem okf143 : ∀ b, Tryz.f143.body = some b → okC E0 3 true Tryz.f143.ntmps b = true := by
  have h : (match Tryz.f143.body with | some b => okC E0 3 true Tryz.f143.ntmps b | none => true) = true := by kernel_rfl
  intro b hb; rw [hb] at h; exact h
theorem nmf143 : (Tryz.f143.name == "runtime.NumGoroutine") = false := by kernel_rfl
@[simp] theorem efn144 : E0.fn 144 = some Tryz.f144 := (show (if fns0.contains 144 = true then Tryz.prog.funcs[144]? else none) = some Tryz.f144 from (if_pos (by decide)).trans Tryz.func144)
theorem okf144 : ∀ b, Tryz.f144.body = some b → okC E0 3 true Tryz.f144.ntmps b = true := by
  have h : (match Tryz.f144.body with | some b => okC E0 3 true Tryz.f144.ntmps b | none => true) = true := by kernel_rfl
  intro b hb; rw [hb] at h; exact h
theorem nmf144 : (Tryz.f144.name == "runtime.NumGoroutine") = false := by kernel_rfl
@[simp] theorem efn145 : E0.fn 145 = some Tryz.f145 := (show (if fns0.contains 145 = true then Tryz.prog.funcs[145]? else none) = some Tryz.f145 from (if_pos (by decide)).trans Tryz.func145)
theorem okf145 : ∀ b, Tryz.f145.body = some b → okC E0 3 true Tryz.f145.ntmps b = true := by
  have h : (match Tryz.f145.body with | some b => okC E0 3 true Tryz.f145.ntmps b | none => true) = true := by kernel_rfl
  intro b hb; rw [hb] at h; exact h
theorem nmf145 : (Tryz.f145.name == "runtime.NumGoroutine") = false := by kernel_rfl
@[simp] theorem efn146 : E0.fn 146 = some Tryz.f146 := (show (if fns0.contains 146 = true then Tryz.prog.funcs[146]? else none) = some Tryz.f146 from (if_pos (by decide)).trans Tryz.func146)
theorem okf146 : ∀ b, Tryz.f146.body = some b → okC E0 3 true Tryz.f146.ntmps b = true := by
  have h : (match Tryz.f146.body with | some b => okC E0 3 true Tryz.f146.ntmps b | none => true) = true := by kernel_rfl
  intro b hb; rw [hb] at h; exact h
theorem nmf146 : (Tryz.f146.name == "runtime.NumGoroutine") = false := by kernel_rfl
@[simp] theorem efn147 : E0.fn 147 = some Tryz.f147 := (show (if fns0.contains 147 = true then Tryz.prog.funcs[147]? else none) = some Tryz.f147 from (if_pos (by decide)).trans Tryz.func147)
theorem okf147 : ∀ b, Tryz.f147.body = some b → okC E0 3 true Tryz.f147.ntmps b = true := by
  have h : (match Tryz.f147.body with | some b => okC E0 3 true Tryz.f147.ntmps b | none => true) = true := by kernel_rfl
  intro b hb; rw [hb] at h; exact h
theorem nmf147 : (Tryz.f147.name == "runtime.NumGoroutine") = false := by kernel_rfl
@[simp] theorem efn148 : E0.fn 148 = some Tryz.f148 := (show (if fns0.contains 148 = true then Tryz.prog.funcs[148]? else none) = some Tryz.f148 from (if_pos (by decide)).trans Tryz.func148)
theorem okf148 : ∀ b, Tryz.f148.body = some b → okC E0 3 true Tryz.f148.ntmps b = true := by
  have h : (match Tryz.f148.body with | some b => okC E0 3 true Tryz.f148.ntmps b | none => true) = true := by kernel_rfl
  intro b hb; rw [hb] at h; exact h
theorem nmf148 : (Tryz.f148.name == "runtime.NumGoroutine") = false := by kernel_rfl
@[simp] theorem efn149 : E0.fn 149 = some Tryz.f149 := (show (if fns0.contains 149 = true then Tryz.prog.funcs[149]? else none) = some Tryz.f149 from (if_pos (by decide)).trans Tryz.func149)
theorem okf149 : ∀ b, Tryz.f149.body = some b → okC E0 3 true Tryz.f149.ntmps b = true := by
  have h : (match Tryz.f149.body with | some b => okC E0 3 true Tryz.f149.ntmps b | none => true) = true := by kernel_rfl
  intro b hb; rw [hb] at h; exact h
theorem nmf149 : (Tryz.f149.name == "runtime.NumGoroutine") = false := by kernel_rfl
@[simp] theorem efn151 : E0.fn 151 = some Tryz.f151 := (show (if fns0.contains 151 = true then Tryz.prog.funcs[151]? else none) = some Tryz.f151 from (if_pos (by decide)).trans Tryz.func151)
theorem okf151 : ∀ b, Tryz.f151.body = some b → okC E0 3 true Tryz.f151.ntmps b = true := by
  have h : (match Tryz.f151.body with | some b => okC E0 3 true Tryz.f151.ntmps b | none => true) = true := by kernel_rfl
  intro b hb; rw [hb] at h; exact h
theorem nmf151 : (Tryz.f151.name == "runtime.NumGoroutine") = false := by kernel_rfl
@[simp] theorem efn152 : E0.fn 152 = some Tryz.f152 := (show (if fns0.contains 152 = true then Tryz.prog.funcs[152]? else none) = some Tryz.f152 from (if_pos (by decide)).trans Tryz.func152)
theorem okf152 : ∀ b, Tryz.f152.body = some b → okC E0 3 true Tryz.f152.ntmps b = true := by
  have h : (match Tryz.f152.body with | some b => okC E0 3 true Tryz.f152.ntmps b | none => true) = true := by kernel_rfl
  intro b hb; rw [hb] at h; exact h
theorem nmf152 : (Tryz.f152.name == "runtime.NumGoroutine") = false := by kernel_rfl
@[simp] theorem efn153 : E0.fn 153 = some Tryz.f153 := (show (if fns0.contains 153 = true then Tryz.prog.funcs[153]? else none) = some Tryz.f153 from (if_pos (by decide)).trans Tryz.func153)
theorem okf153 : ∀ b, Tryz.f153.body = some b → okC E0 3 true Tryz.f153.ntmps b = true := by
  have h : (match Tryz.f153.body with | some b => okC E0 3 true Tryz.f153.ntmps b | none => true) = true := by kernel_rfl
  intro b hb; rw [hb] at h; exact h
theorem nmf153 : (Tryz.f153.name == "runtime.NumGoroutine") = false := by kernel_rfl
@[simp] theorem efn154 : E0.fn 154 = some Tryz.f154 := (show (if fns0.contains 154 = true then Tryz.prog.funcs[154]? else none) = some Tryz.f154 from (if_pos (by decide)).trans Tryz.func154)
theorem okf154 : ∀ b, Tryz.f154.body = some b → okC E0 3 true Tryz.f154.ntmps b = true := by
  have h : (match Tryz.f154.body with | some b => okC E0 3 true Tryz.f154.ntmps b | none => true) = true := by kernel_rfl
  intro b hb; rw [hb] at h; exact h
theorem nmf154 : (Tryz.f154.name == "runtime.NumGoroutine") = false := by kernel_rfl
@[simp] theorem efn155 : E0.fn 155 = some Tryz.f155 := (show (if fns0.contains 155 = true then Tryz.prog.funcs[155]? else none) = some Tryz.f155 from (if_pos (by decide)).trans Tryz.func155)
theorem okf155 : ∀ b, Tryz.f155.body = some b → okC E0 3 true Tryz.f155.ntmps b = true := by
  have h : (match Tryz.f155.body with | some b => okC E0 3 true Tryz.f155.ntmps b | none => true) = true := by kernel_rfl
  intro b hb; rw [hb] at h; exact h
theorem nmf155 : (Tryz.f155.name == "runtime.NumGoroutine") = false := by kernel_rfl
@[simp] theorem efn156 : E0.fn 156 = some Tryz.f156 := (show (if fns0.contains 156 = true then Tryz.prog.funcs[156]? else none) = some Tryz.f156 from (if_pos (by decide)).trans Tryz.func156)
theorem okf156 : ∀ b, Tryz.f156.body = some b → okC E0 3 true Tryz.f156.ntmps b = true := by
  have h : (match Tryz.f156.body with | some b => okC E0 3 true Tryz.f156.ntmps b | none => true) = true := by kernel_rfl
  intro b hb; rw [hb] at h; exact h
theorem nmf156 : (Tryz.f156.name == "runtime.NumGoroutine") = false := by kernel_rfl
@[simp] theorem efn157 : E0.fn 157 = some Tryz.f157 := (show (if fns0.contains 157 = true then Tryz.prog.funcs[157]? else none) = some Tryz.f157 from (if_pos (by decide)).trans Tryz.func157)
theorem okf157 : ∀ b, Tryz.f157.body = some b → okC E0 3 true Tryz.f157.ntmps b = true := by
  have h : (match Tryz.f157.body with | some b => okC E0 3 true Tryz.f157.ntmps b | none => true) = true := by kernel_rfl
  intro b hb; rw [hb] at h; exact h
theorem nmf157 : (Tryz.f157.name == "runtime.NumGoroutine") = false := by kernel_rfl
@[simp] theorem efn158 : E0.fn 158 = some Tryz.f158 := (show (if fns0.contains 158 = true then Tryz.prog.funcs[158]? else none) = some Tryz.f158 from (if_pos (by decide)).trans Tryz.func158)
theorem okf158 : ∀ b, Tryz.f158.body = some b → okC E0 3 true Tryz.f158.ntmps b = true := by
  have h : (match Tryz.f158.body with | some b => okC E0 3 true Tryz.f158.ntmps b | none => true) = true := by kernel_rfl
  intro b hb; rw [hb] at h; exact h
theorem nmf158 : (Tryz.f158.name == "runtime.NumGoroutine") = false := by kernel_rfl
@[simp] theorem efn160 : E0.fn 160 = some Tryz.f160 := (show (if fns0.contains 160 = true then Tryz.prog.funcs[160]? else none) = some Tryz.f160 from (if_pos (by decide)).trans Tryz.func160)
theorem okf160 : ∀ b, Tryz.f160.body = some b → okC E0 3 true Tryz.f160.ntmps b = true := by
  have h : (match Tryz.f160.body with | some b => okC E0 3 true Tryz.f160.ntmps b | none => true) = true := by kernel_rfl
  intro b hb; rw [hb] at h; exact h
theorem nmf160 : (Tryz.f160.name == "runtime.NumGoroutine") = false := by kernel_rfl
@[simp] theorem efn161 : E0.fn 161 = some Tryz.f161 := (show (if fns0.contains 161 = true then Tryz.prog.funcs[161]? else none) = some Tryz.f161 from (if_pos (by decide)).trans Tryz.func161)
theorem okf161 : ∀ b, Tryz.f161.body = some b → okC E0 3 true Tryz.f161.ntmps b = true := by
  have h : (match Tryz.f161.body with | some b => okC E0 3 true Tryz.f161.ntmps b | none => true) = true := by kernel_rfl
  intro b hb; rw [hb] at h; exact h
theorem nmf161 : (Tryz.f161.name == "runtime.NumGoroutine") = false := by kernel_rfl
@[simp] theorem efn162 : E0.fn 162 = some Tryz.f162 := (show (if fns0.contains 162 = true then Tryz.prog.funcs[162]? else none) = some Tryz.f162 from (if_pos (by decide)).trans Tryz.func162)
theorem okf162 : ∀ b, Tryz.f162.body = some b → okC E0 3 true Tryz.f162.ntmps b = true := by
  have h : (match Tryz.f162.body with | some b => okC E0 3 true Tryz.f162.ntmps b | none => true) = true := by kernel_rfl
  intro b hb; rw [hb] at h; exact h
theorem nmf162 : (Tryz.f162.name == "runtime.NumGoroutine") = false := by kernel_rfl
@[simp] theorem efn163 : E0.fn 163 = some Tryz.f163 := (show (if fns0.contains 163 = true then Tryz.prog.funcs[163]? else none) = some Tryz.f163 from (if_pos (by decide)).trans Tryz.func163)
theorem okf163 : ∀ b, Tryz.f163.body = some b → okC E0 3 true Tryz.f163.ntmps b = true := by
  have h : (match Tryz.f163.body with | some b => okC E0 3 true Tryz.f163.ntmps b | none => true) = true := by kernel_rfl
  intro b hb; rw [hb] at h; exact h
theorem nmf163 : (Tryz.f163.name == "runtime.NumGoroutine") = false := by kernel_rfl
@[simp] theorem efn164 : E0.fn 164 = some Tryz.f164 := (show (if fns0.contains 164 = true then Tryz.prog.funcs[164]? else none) = some Tryz.f164 from (if_pos (by decide)).trans Tryz.func164)
theorem okf164 : ∀ b, Tryz.f164.body = some b → okC E0 3 true Tryz.f164.ntmps b = true := by
  have h : (match Tryz.f164.body with | some b => okC E0 3 true Tryz.f164.ntmps b | none => true) = true := by kernel_rfl
  intro b hb; rw [hb] at h; exact h
theorem nmf164 : (Tryz.f164.name == "runtime.NumGoroutine") = false := by kernel_rfl
@[simp] theorem efn165 : E0.fn 165 = some Tryz.f165 := (show (if fns0.contains 165 = true then Tryz.prog.funcs[165]? else none) = some Tryz.f165 from (if_pos (by decide)).trans Tryz.func165)
theorem okf165 : ∀ b, Tryz.f165.body = some b → okC E0 3 true Tryz.f165.ntmps b = true := by
  have h : (match Tryz.f165.body with | some b => okC E0 3 true Tryz.f165.ntmps b | none => true) = true := by kernel_rfl
  intro b hb; rw [hb] at h; exact h
theorem nmf165 : (Tryz.f165.name == "runtime.NumGoroutine") = false := by kernel_rfl
@[simp] theorem efn166 : E0.fn 166 = some Tryz.f166 := (show (if fns0.contains 166 = true then Tryz.prog.funcs[166]? else none) = some Tryz.f166 from (if_pos (by decide)).trans Tryz.func166)
theorem okf166 : ∀ b, Tryz.f166.body = some b → okC E0 3 true Tryz.f166.ntmps b = true := by
  have h : (match Tryz.f166.body with | some b => okC E0 3 true Tryz.f166.ntmps b | none => true) = true := by kernel_rfl
  intro b hb; rw [hb] at h; exact h
theorem nmf166 : (Tryz.f166.name == "runtime.NumGoroutine") = false := by kernel_rfl
@[simp] theorem efn168 : E0.fn 168 = some Tryz.f168 := (show (if fns0.contains 168 = true then Tryz.prog.funcs[168]? else none) = some Tryz.f168 from (if_pos (by decide)).trans Tryz.func168)
theorem okf168 : ∀ b, Tryz.f168.body = some b → okC E0 3 true Tryz.f168.ntmps b = true := by
  have h : (match Tryz.f168.body with | some b => okC E0 3 true Tryz.f168.ntmps b | none => true) = true := by kernel_rfl
  intro b hb; rw [hb] at h; exact h
theorem nmf168 : (Tryz.f168.name == "runtime.NumGoroutine") = false := by kernel_rfl
@[simp] theorem efn169 : E0.fn 169 = some Tryz.f169 := (show (if fns0.contains 169 = true then Tryz.prog.funcs[169]? else none) = some Tryz.f169 from (if_pos (by decide)).trans Tryz.func169)
theorem okf169 : ∀ b, Tryz.f169.body = some b → okC E0 3 true Tryz.f169.ntmps b = true := by
  have h : (match Tryz.f169.body with | some b => okC E0 3 true Tryz.f169.ntmps b | none => true) = true := by kernel_rfl
  intro b hb; rw [hb] at h; exact h
theorem nmf169 : (Tryz.f169.name == "runtime.NumGoroutine") = false := by kernel_rfl
@[simp] theorem efn170 : E0.fn 170 = some Tryz.f170 := (show (if fns0.contains 170 = true then Tryz.prog.funcs[170]? else none) = some Tryz.f170 from (if_pos (by decide)).trans Tryz.func170)
theorem okf170 : ∀ b, Tryz.f170.body = some b → okC E0 3 true Tryz.f170.ntmps b = true := by
  have h : (match Tryz.f170.body with | some b => okC E0 3 true Tryz.f170.ntmps b | none => true) = true := by kernel_rfl
  intro b hb; rw [hb] at h; exact h
theorem nmf170 : (Tryz.f170.name == "runtime.NumGoroutine") = false := by kernel_rfl
@[simp] theorem efn171 : E0.fn 171 = some Tryz.f171 := (show (if fns0.contains 171 = true then Tryz.prog.funcs[171]? else none) = some Tryz.f171 from (if_pos (by decide)).trans Tryz.func171)
theorem okf171 : ∀ b, Tryz.f171.body = some b → okC E0 3 true Tryz.f171.ntmps b = true := by
  have h : (match Tryz.f171.body with | some b => okC E0 3 true Tryz.f171.ntmps b | none => true) = true := by kernel_rfl
  intro b hb; rw [hb] at h; exact h
theorem nmf171 : (Tryz.f171.name == "runtime.NumGoroutine") = false := by kernel_rfl
@[simp] theorem efn172 : E0.fn 172 = some Tryz.f172 := (show (if fns0.contains 172 = true then Tryz.prog.funcs[172]? else none) = some Tryz.f172 from (if_pos (by decide)).trans Tryz.func172)
theorem okf172 : ∀ b, Tryz.f172.body = some b → okC E0 3 true Tryz.f172.ntmps b = true := by
  have h : (match Tryz.f172.body with | some b => okC E0 3 true Tryz.f172.ntmps b | none => true) = true := by kernel_rfl
  intro b hb; rw [hb] at h; exact h
theorem nmf172 : (Tryz.f172.name == "runtime.NumGoroutine") = false := by kernel_rfl
@[simp] theorem efn173 : E0.fn 173 = some Tryz.f173 := (show (if fns0.contains 173 = true then Tryz.prog.funcs[173]? else none) = some Tryz.f173 from (if_pos (by decide)).trans Tryz.func173)
theorem okf173 : ∀ b, Tryz.f173.body = some b → okC E0 3 true Tryz.f173.ntmps b = true := by
  have h : (match Tryz.f173.body with | some b => okC E0 3 true Tryz.f173.ntmps b | none => true) = true := by kernel_rfl
  intro b hb; rw [hb] at h; exact h
theorem nmf173 : (Tryz.f173.name == "runtime.NumGoroutine") = false := by kernel_rfl
@[simp] theorem efn174 : E0.fn 174 = some Tryz.f174 := (show (if fns0.contains 174 = true then Tryz.prog.funcs[174]? else none) = some Tryz.f174 from (if_pos (by decide)).trans Tryz.func174)
theorem okf174 : ∀ b, Tryz.f174.body = some b → okC E0 3 true Tryz.f174.ntmps b = true := by
  have h : (match Tryz.f174.body with | some b => okC E0 3 true Tryz.f174.ntmps b | none => true) = true := by kernel_rfl
  intro b hb; rw [hb] at h; exact h
theorem nmf174 : (Tryz.f174.name == "runtime.NumGoroutine") = false := by kernel_rfl
@[simp] theorem efn175 : E0.fn 175 = some Tryz.f175 := (show (if fns0.contains 175 = true then Tryz.prog.funcs[175]? else none) = some Tryz.f175 from (if_pos (by decide)).trans Tryz.func175)
theorem okf175 : ∀ b, Tryz.f175.body = some b → okC E0 3 true Tryz.f175.ntmps b = true := by
  have h : (match Tryz.f175.body with | some b => okC E0 3 true Tryz.f175.ntmps b | none => true) = true := by kernel_rfl
  intro b hb; rw [hb] at h; exact h
theorem nmf175 : (Tryz.f175.name == "runtime.NumGoroutine") = false := by kernel_rfl
@[simp] theorem efn178 : E0.fn 178 = some Tryz.f178 := (show (if fns0.contains 178 = true then Tryz.prog.funcs[178]? else none) = some Tryz.f178 from (if_pos (by decide)).trans Tryz.func178)
theorem okf178 : ∀ b, Tryz.f178.body = some b → okC E0 3 true Tryz.f178.ntmps b = true := by
  have h : (match Tryz.f178.body with | some b => okC E0 3 true Tryz.f178.ntmps b | none => true) = true := by kernel_rfl
  intro b hb; rw [hb] at h; exact h
theorem nmf178 : (Tryz.f178.name == "runtime.NumGoroutine") = false := by kernel_rfl
@[simp] theorem efn179 : E0.fn 179 = some Tryz.f179 := (show (if fns0.contains 179 = true then Tryz.prog.funcs[179]? else none) = some Tryz.f179 from (if_pos (by decide)).trans Tryz.func179)
theorem okf179 : ∀ b, Tryz.f179.body = some b → okC E0 3 true Tryz.f179.ntmps b = true := by
  have h : (match Tryz.f179.body with | some b => okC E0 3 true Tryz.f179.ntmps b | none => true) = true := by kernel_rfl
  intro b hb; rw [hb] at h; exact h
theorem nmf179 : (Tryz.f179.name == "runtime.NumGoroutine") = false := by kernel_rfl
@[simp] theorem efn180 : E0.fn 180 = some Tryz.f180 := (show (if fns0.contains 180 = true then Tryz.prog.funcs[180]? else none) = some Tryz.f180 from (if_pos (by decide)).trans Tryz.func180)
theorem okf180 : ∀ b, Tryz.f180.body = some b → okC E0 3 true Tryz.f180.ntmps b = true := by
  have h : (match Tryz.f180.body with | some b => okC E0 3 true Tryz.f180.ntmps b | none => true) = true := by kernel_rfl
  intro b hb; rw [hb] at h; exact h
theorem nmf180 : (Tryz.f180.name == "runtime.NumGoroutine") = false := by kernel_rfl
@[simp] theorem efn181 : E0.fn 181 = some Tryz.f181 := (show (if fns0.contains 181 = true then Tryz.prog.funcs[181]? else none) = some Tryz.f181 from (if_pos (by decide)).trans Tryz.func181)
theorem okf181 : ∀ b, Tryz.f181.body = some b → okC E0 3 true Tryz.f181.ntmps b = true := by
  have h : (match Tryz.f181.body with | some b => okC E0 3 true Tryz.f181.ntmps b | none => true) = true := by kernel_rfl
  intro b hb; rw [hb] at h; exact h
theorem nmf181 : (Tryz.f181.name == "runtime.NumGoroutine") = false := by kernel_rfl
theorem mem0 {f : Nat} (h : fns0.contains f = true) : f = 3 ∨ f = 4 ∨ f = 5 ∨ f = 6 ∨ f = 7 ∨ f = 8 ∨ f = 9 ∨ f = 10 ∨ f = 11 ∨ f = 12 ∨ f = 13 ∨ f = 14 ∨ f = 15 ∨ f = 16 ∨ f = 17 ∨ f = 18 ∨ f = 19 ∨ f = 20 ∨ f = 21 ∨ f = 22 ∨ f = 23 ∨ f = 24 ∨ f = 25 ∨ f = 26 ∨ f = 27 ∨ f = 28 ∨ f = 29 ∨ f = 30 ∨ f = 31 ∨ f = 32 ∨ f = 33 ∨ f = 34 ∨ f = 35 ∨ f = 36 ∨ f = 37 ∨ f = 38 ∨ f = 39 ∨ f = 40 ∨ f = 41 ∨ f = 42 ∨ f = 43 ∨ f = 44 ∨ f = 45 ∨ f = 46 ∨ f = 47 ∨ f = 48 ∨ f = 49 ∨ f = 50 ∨ f = 51 ∨ f = 52 ∨ f = 53 ∨ f = 54 ∨ f = 55 ∨ f = 56 ∨ f = 57 ∨ f = 58 ∨ f = 59 ∨ f = 60 ∨ f = 61 ∨ f = 62 ∨ f = 63 ∨ f = 64 ∨ f = 65 ∨ f = 66 ∨ f = 67 ∨ f = 68 ∨ f = 72 ∨ f = 73 ∨ f = 74 ∨ f = 75 ∨ f = 76 ∨ f = 77 ∨ f = 78 ∨ f = 79 ∨ f = 80 ∨ f = 81 ∨ f = 82 ∨ f = 83 ∨ f = 84 ∨ f = 85 ∨ f = 86 ∨ f = 87 ∨ f = 88 ∨ f = 89 ∨ f = 90 ∨ f = 91 ∨ f = 92 ∨ f = 93 ∨ f = 94 ∨ f = 95 ∨ f = 96 ∨ f = 97 ∨ f = 98 ∨ f = 99 ∨ f = 100 ∨ f = 101 ∨ f = 102 ∨ f = 103 ∨ f = 104 ∨ f = 105 ∨ f = 106 ∨ f = 107 ∨ f = 108 ∨ f = 109 ∨ f = 119 ∨ f = 120 ∨ f = 121 ∨ f = 122 ∨ f = 123 ∨ f = 124 ∨ f = 125 ∨ f = 126 ∨ f = 127 ∨ f = 128 ∨ f = 129 ∨ f = 130 ∨ f = 131 ∨ f = 132 ∨ f = 133 ∨ f = 134 ∨ f = 135 ∨ f = 136 ∨ f = 137 ∨ f = 138 ∨ f = 139 ∨ f = 140 ∨ f = 141 ∨ f = 142 ∨ f = 143 ∨ f = 144 ∨ f = 145 ∨ f = 146 ∨ f = 147 ∨ f = 148 ∨ f = 149 ∨ f = 151 ∨ f = 152 ∨ f = 153 ∨ f = 154 ∨ f = 155 ∨ f = 156 ∨ f = 157 ∨ f = 158 ∨ f = 160 ∨ f = 161 ∨ f = 162 ∨ f = 163 ∨ f = 164 ∨ f = 165 ∨ f = 166 ∨ f = 168 ∨ f = 169 ∨ f = 170 ∨ f = 171 ∨ f = 172 ∨ f = 173 ∨ f = 174 ∨ f = 175 ∨ f = 178 ∨ f = 179 ∨ f = 180 ∨ f = 181 := by simpa [fns0] using h
theorem env0 : EnvOk Tryz.prog E0 where
  ty := fun t => rfl
  fn := fun f fn h => by
    simp only [E0] at h
    split at h
    · exact h
    · cases h
  nm := fun f fn h _ => by
    have hc : fns0.contains f = true := by
      simp only [E0] at h
      split at h
      · assumption
      · cases h
    rcases mem0 hc with rfl | rfl | rfl | rfl | rfl | rfl | rfl | rfl | rfl | rfl | rfl | rfl | rfl | rfl | rfl | rfl | rfl | rfl | rfl | rfl | rfl | rfl | rfl | rfl | rfl | rfl | rfl | rfl | rfl | rfl | rfl | rfl | rfl | rfl | rfl | rfl | rfl | rfl | rfl | rfl | rfl | rfl | rfl | rfl | rfl | rfl | rfl | rfl | rfl | rfl | rfl | rfl | rfl | rfl | rfl | rfl | rfl | rfl | rfl | rfl | rfl | rfl | rfl | rfl | rfl | rfl | rfl | rfl | rfl | rfl | rfl | rfl | rfl | rfl | rfl | rfl | rfl | rfl | rfl | rfl | rfl | rfl | rfl | rfl | rfl | rfl | rfl | rfl | rfl | rfl | rfl | rfl | rfl | rfl | rfl | rfl | rfl | rfl | rfl | rfl | rfl | rfl | rfl | rfl | rfl | rfl | rfl | rfl | rfl | rfl | rfl | rfl | rfl | rfl | rfl | rfl | rfl | rfl | rfl | rfl | rfl | rfl | rfl | rfl | rfl | rfl | rfl | rfl | rfl | rfl | rfl | rfl | rfl | rfl | rfl | rfl | rfl | rfl | rfl | rfl | rfl | rfl | rfl | rfl | rfl | rfl | rfl | rfl | rfl | rfl | rfl | rfl | rfl | rfl | rfl | rfl | rfl | rfl | rfl | rfl | rfl | rfl
    · rw [efn3] at h; cases h; exact nmf3
    · rw [efn4] at h; cases h; exact nmf4
    · rw [efn5] at h; cases h; exact nmf5
    · rw [efn6] at h; cases h; exact nmf6
    · rw [efn7] at h; cases h; exact nmf7
    · rw [efn8] at h; cases h; exact nmf8
    · rw [efn9] at h; cases h; exact nmf9
    · rw [efn10] at h; cases h; exact nmf10
    · rw [efn11] at h; cases h; exact nmf11
    · rw [efn12] at h; cases h; exact nmf12
    · rw [efn13] at h; cases h; exact nmf13
    · rw [efn14] at h; cases h; exact nmf14
    · rw [efn15] at h; cases h; exact nmf15
    · rw [efn16] at h; cases h; exact nmf16
    · rw [efn17] at h; cases h; exact nmf17
    · rw [efn18] at h; cases h; exact nmf18
    · rw [efn19] at h; cases h; exact nmf19
    · rw [efn20] at h; cases h; exact nmf20
    · rw [efn21] at h; cases h; exact nmf21
    · rw [efn22] at h; cases h; exact nmf22
    · rw [efn23] at h; cases h; exact nmf23
    · rw [efn24] at h; cases h; exact nmf24
    · rw [efn25] at h; cases h; exact nmf25
    · rw [efn26] at h; cases h; exact nmf26
    · rw [efn27] at h; cases h; exact nmf27
    · rw [efn28] at h; cases h; exact nmf28
    · rw [efn29] at h; cases h; exact nmf29
    · rw [efn30] at h; cases h; exact nmf30
    · rw [efn31] at h; cases h; exact nmf31
    · rw [efn32] at h; cases h; exact nmf32
    · rw [efn33] at h; cases h; exact nmf33
    · rw [efn34] at h; cases h; exact nmf34
    · rw [efn35] at h; cases h; exact nmf35
    · rw [efn36] at h; cases h; exact nmf36
    · rw [efn37] at h; cases h; exact nmf37
    · rw [efn38] at h; cases h; exact nmf38
    · rw [efn39] at h; cases h; exact nmf39
    · rw [efn40] at h; cases h; exact nmf40
    · rw [efn41] at h; cases h; exact nmf41
    · rw [efn42] at h; cases h; exact nmf42
    · rw [efn43] at h; cases h; exact nmf43
    · rw [efn44] at h; cases h; exact nmf44
    · rw [efn45] at h; cases h; exact nmf45
    · rw [efn46] at h; cases h; exact nmf46
    · rw [efn47] at h; cases h; exact nmf47
    · rw [efn48] at h; cases h; exact nmf48
    · rw [efn49] at h; cases h; exact nmf49
    · rw [efn50] at h; cases h; exact nmf50
    · rw [efn51] at h; cases h; exact nmf51
    · rw [efn52] at h; cases h; exact nmf52
    · rw [efn53] at h; cases h; exact nmf53
    · rw [efn54] at h; cases h; exact nmf54
    · rw [efn55] at h; cases h; exact nmf55
    · rw [efn56] at h; cases h; exact nmf56
    · rw [efn57] at h; cases h; exact nmf57
    · rw [efn58] at h; cases h; exact nmf58
    · rw [efn59] at h; cases h; exact nmf59
    · rw [efn60] at h; cases h; exact nmf60
    · rw [efn61] at h; cases h; exact nmf61
    · rw [efn62] at h; cases h; exact nmf62
    · rw [efn63] at h; cases h; exact nmf63
    · rw [efn64] at h; cases h; exact nmf64
    · rw [efn65] at h; cases h; exact nmf65
    · rw [efn66] at h; cases h; exact nmf66
    · rw [efn67] at h; cases h; exact nmf67
    · rw [efn68] at h; cases h; exact nmf68
    · rw [efn72] at h; cases h; exact nmf72
    · rw [efn73] at h; cases h; exact nmf73
    · rw [efn74] at h; cases h; exact nmf74
    · rw [efn75] at h; cases h; exact nmf75
    · rw [efn76] at h; cases h; exact nmf76
    · rw [efn77] at h; cases h; exact nmf77
    · rw [efn78] at h; cases h; exact nmf78
    · rw [efn79] at h; cases h; exact nmf79
    · rw [efn80] at h; cases h; exact nmf80
    · rw [efn81] at h; cases h; exact nmf81
    · rw [efn82] at h; cases h; exact nmf82
    · rw [efn83] at h; cases h; exact nmf83
    · rw [efn84] at h; cases h; exact nmf84
    · rw [efn85] at h; cases h; exact nmf85
    · rw [efn86] at h; cases h; exact nmf86
    · rw [efn87] at h; cases h; exact nmf87
    · rw [efn88] at h; cases h; exact nmf88
    · rw [efn89] at h; cases h; exact nmf89
    · rw [efn90] at h; cases h; exact nmf90
    · rw [efn91] at h; cases h; exact nmf91
    · rw [efn92] at h; cases h; exact nmf92
    · rw [efn93] at h; cases h; exact nmf93
    · rw [efn94] at h; cases h; exact nmf94
    · rw [efn95] at h; cases h; exact nmf95
    · rw [efn96] at h; cases h; exact nmf96
    · rw [efn97] at h; cases h; exact nmf97
    · rw [efn98] at h; cases h; exact nmf98
    · rw [efn99] at h; cases h; exact nmf99
    · rw [efn100] at h; cases h; exact nmf100
    · rw [efn101] at h; cases h; exact nmf101
    · rw [efn102] at h; cases h; exact nmf102
    · rw [efn103] at h; cases h; exact nmf103
    · rw [efn104] at h; cases h; exact nmf104
    · rw [efn105] at h; cases h; exact nmf105
    · rw [efn106] at h; cases h; exact nmf106
    · rw [efn107] at h; cases h; exact nmf107
    · rw [efn108] at h; cases h; exact nmf108
    · rw [efn109] at h; cases h; exact nmf109
    · rw [efn119] at h; cases h; exact nmf119
    · rw [efn120] at h; cases h; exact nmf120
    · rw [efn121] at h; cases h; exact nmf121
    · rw [efn122] at h; cases h; exact nmf122
    · rw [efn123] at h; cases h; exact nmf123
    · rw [efn124] at h; cases h; exact nmf124
    · rw [efn125] at h; cases h; exact nmf125
    · rw [efn126] at h; cases h; exact nmf126
    · rw [efn127] at h; cases h; exact nmf127
    · rw [efn128] at h; cases h; exact nmf128
    · rw [efn129] at h; cases h; exact nmf129
    · rw [efn130] at h; cases h; exact nmf130
    · rw [efn131] at h; cases h; exact nmf131
    · rw [efn132] at h; cases h; exact nmf132
    · rw [efn133] at h; cases h; exact nmf133
    · rw [efn134] at h; cases h; exact nmf134
    · rw [efn135] at h; cases h; exact nmf135
    · rw [efn136] at h; cases h; exact nmf136
    · rw [efn137] at h; cases h; exact nmf137
    · rw [efn138] at h; cases h; exact nmf138
    · rw [efn139] at h; cases h; exact nmf139
    · rw [efn140] at h; cases h; exact nmf140
    · rw [efn141] at h; cases h; exact nmf141
    · rw [efn142] at h; cases h; exact nmf142
    · rw [efn143] at h; cases h; exact nmf143
    · rw [efn144] at h; cases h; exact nmf144
    · rw [efn145] at h; cases h; exact nmf145
    · rw [efn146] at h; cases h; exact nmf146
    · rw [efn147] at h; cases h; exact nmf147
    · rw [efn148] at h; cases h; exact nmf148
    · rw [efn149] at h; cases h; exact nmf149
    · rw [efn151] at h; cases h; exact nmf151
    · rw [efn152] at h; cases h; exact nmf152
    · rw [efn153] at h; cases h; exact nmf153
    · rw [efn154] at h; cases h; exact nmf154
    · rw [efn155] at h; cases h; exact nmf155
    · rw [efn156] at h; cases h; exact nmf156
    · rw [efn157] at h; cases h; exact nmf157
    · rw [efn158] at h; cases h; exact nmf158
    · rw [efn160] at h; cases h; exact nmf160
    · rw [efn161] at h; cases h; exact nmf161
    · rw [efn162] at h; cases h; exact nmf162
    · rw [efn163] at h; cases h; exact nmf163
    · rw [efn164] at h; cases h; exact nmf164
    · rw [efn165] at h; cases h; exact nmf165
    · rw [efn166] at h; cases h; exact nmf166
    · rw [efn168] at h; cases h; exact nmf168
    · rw [efn169] at h; cases h; exact nmf169
    · rw [efn170] at h; cases h; exact nmf170
    · rw [efn171] at h; cases h; exact nmf171
    · rw [efn172] at h; cases h; exact nmf172
    · rw [efn173] at h; cases h; exact nmf173
    · rw [efn174] at h; cases h; exact nmf174
    · rw [efn175] at h; cases h; exact nmf175
    · rw [efn178] at h; cases h; exact nmf178
    · rw [efn179] at h; cases h; exact nmf179
    · rw [efn180] at h; cases h; exact nmf180
    · rw [efn181] at h; cases h; exact nmf181
  eqo := fun t h => by
    simp only [E0, List.contains_cons, List.contains_nil, Bool.or_eq_true, beq_iff_eq, Bool.false_eq_true, or_false] at h
    rcases h with rfl | rfl | rfl | rfl | rfl | rfl | rfl | rfl | rfl | rfl | rfl | rfl | rfl | rfl | rfl | rfl | rfl | rfl | rfl | rfl | rfl | rfl | rfl | rfl | rfl | rfl | rfl | rfl | rfl | rfl | rfl
    · exact ⟨Tryz.stoodInHeld7, Tryz.eqGuardType7⟩
    · exact ⟨Tryz.stoodInHeld8, Tryz.eqGuardType8⟩
    · exact ⟨Tryz.stoodInHeld32, Tryz.eqGuardType32⟩
    · exact ⟨Tryz.stoodInHeld33, Tryz.eqGuardType33⟩
    · exact ⟨Tryz.stoodInHeld34, Tryz.eqGuardType34⟩
    · exact ⟨Tryz.stoodInHeld43, Tryz.eqGuardType43⟩
    · exact ⟨Tryz.stoodInHeld44, Tryz.eqGuardType44⟩
    · exact ⟨Tryz.stoodInHeld53, Tryz.eqGuardType53⟩
    · exact ⟨Tryz.stoodInHeld54, Tryz.eqGuardType54⟩
    · exact ⟨Tryz.stoodInHeld55, Tryz.eqGuardType55⟩
    · exact ⟨Tryz.stoodInHeld56, Tryz.eqGuardType56⟩
    · exact ⟨Tryz.stoodInHeld58, Tryz.eqGuardType58⟩
    · exact ⟨Tryz.stoodInHeld59, Tryz.eqGuardType59⟩
    · exact ⟨Tryz.stoodInHeld64, Tryz.eqGuardType64⟩
    · exact ⟨Tryz.stoodInHeld65, Tryz.eqGuardType65⟩
    · exact ⟨Tryz.stoodInHeld72, Tryz.eqGuardType72⟩
    · exact ⟨Tryz.stoodInHeld73, Tryz.eqGuardType73⟩
    · exact ⟨by kernel_rfl, by kernel_rfl⟩
    · exact ⟨Tryz.stoodInHeld105, Tryz.eqGuardType105⟩
    · exact ⟨Tryz.stoodInHeld106, Tryz.eqGuardType106⟩
    · exact ⟨by kernel_rfl, by kernel_rfl⟩
    · exact ⟨by kernel_rfl, by kernel_rfl⟩
    · exact ⟨Tryz.stoodInHeld138, Tryz.eqGuardType138⟩
    · exact ⟨Tryz.stoodInHeld139, Tryz.eqGuardType139⟩
    · exact ⟨Tryz.stoodInHeld141, Tryz.eqGuardType141⟩
    · exact ⟨Tryz.stoodInHeld142, Tryz.eqGuardType142⟩
    · exact ⟨by kernel_rfl, by kernel_rfl⟩
    · exact ⟨Tryz.stoodInHeld183, Tryz.eqGuardType183⟩
    · exact ⟨Tryz.stoodInHeld184, Tryz.eqGuardType184⟩
    · exact ⟨by kernel_rfl, by kernel_rfl⟩
    · exact ⟨by kernel_rfl, by kernel_rfl⟩
theorem code0 : ∀ f fn b, E0.fn f = some fn → fn.body = some b → okC E0 3 true fn.ntmps b = true := fun f fn b h hb => by
  have hc : fns0.contains f = true := by
    simp only [E0] at h
    split at h
    · assumption
    · cases h
  rcases mem0 hc with rfl | rfl | rfl | rfl | rfl | rfl | rfl | rfl | rfl | rfl | rfl | rfl | rfl | rfl | rfl | rfl | rfl | rfl | rfl | rfl | rfl | rfl | rfl | rfl | rfl | rfl | rfl | rfl | rfl | rfl | rfl | rfl | rfl | rfl | rfl | rfl | rfl | rfl | rfl | rfl | rfl | rfl | rfl | rfl | rfl | rfl | rfl | rfl | rfl | rfl | rfl | rfl | rfl | rfl | rfl | rfl | rfl | rfl | rfl | rfl | rfl | rfl | rfl | rfl | rfl | rfl | rfl | rfl | rfl | rfl | rfl | rfl | rfl | rfl | rfl | rfl | rfl | rfl | rfl | rfl | rfl | rfl | rfl | rfl | rfl | rfl | rfl | rfl | rfl | rfl | rfl | rfl | rfl | rfl | rfl | rfl | rfl | rfl | rfl | rfl | rfl | rfl | rfl | rfl | rfl | rfl | rfl | rfl | rfl | rfl | rfl | rfl | rfl | rfl | rfl | rfl | rfl | rfl | rfl | rfl | rfl | rfl | rfl | rfl | rfl | rfl | rfl | rfl | rfl | rfl | rfl | rfl | rfl | rfl | rfl | rfl | rfl | rfl | rfl | rfl | rfl | rfl | rfl | rfl | rfl | rfl | rfl | rfl | rfl | rfl | rfl | rfl | rfl | rfl | rfl | rfl | rfl | rfl | rfl | rfl | rfl | rfl
  · rw [efn3] at h; cases h; exact okf3 b hb
  · rw [efn4] at h; cases h; exact okf4 b hb
  · rw [efn5] at h; cases h; exact okf5 b hb
  · rw [efn6] at h; cases h; exact okf6 b hb
  · rw [efn7] at h; cases h; exact okf7 b hb
  · rw [efn8] at h; cases h; exact okf8 b hb
  · rw [efn9] at h; cases h; exact okf9 b hb
  · rw [efn10] at h; cases h; exact okf10 b hb
  · rw [efn11] at h; cases h; exact okf11 b hb
  · rw [efn12] at h; cases h; exact okf12 b hb
  · rw [efn13] at h; cases h; exact okf13 b hb
  · rw [efn14] at h; cases h; exact okf14 b hb
  · rw [efn15] at h; cases h; exact okf15 b hb
  · rw [efn16] at h; cases h; exact okf16 b hb
  · rw [efn17] at h; cases h; exact okf17 b hb
  · rw [efn18] at h; cases h; exact okf18 b hb
  · rw [efn19] at h; cases h; exact okf19 b hb
  · rw [efn20] at h; cases h; exact okf20 b hb
  · rw [efn21] at h; cases h; exact okf21 b hb
  · rw [efn22] at h; cases h; exact okf22 b hb
  · rw [efn23] at h; cases h; exact okf23 b hb
  · rw [efn24] at h; cases h; exact okf24 b hb
  · rw [efn25] at h; cases h; exact okf25 b hb
  · rw [efn26] at h; cases h; exact okf26 b hb
  · rw [efn27] at h; cases h; exact okf27 b hb
  · rw [efn28] at h; cases h; exact okf28 b hb
  · rw [efn29] at h; cases h; exact okf29 b hb
  · rw [efn30] at h; cases h; exact okf30 b hb
  · rw [efn31] at h; cases h; exact okf31 b hb
  · rw [efn32] at h; cases h; exact okf32 b hb
  · rw [efn33] at h; cases h; exact okf33 b hb
  · rw [efn34] at h; cases h; exact okf34 b hb
  · rw [efn35] at h; cases h; exact okf35 b hb
  · rw [efn36] at h; cases h; exact okf36 b hb
  · rw [efn37] at h; cases h; exact okf37 b hb
  · rw [efn38] at h; cases h; exact okf38 b hb
  · rw [efn39] at h; cases h; exact okf39 b hb
  · rw [efn40] at h; cases h; exact okf40 b hb
  · rw [efn41] at h; cases h; exact okf41 b hb
  · rw [efn42] at h; cases h; exact okf42 b hb
  · rw [efn43] at h; cases h; exact okf43 b hb
  · rw [efn44] at h; cases h; exact okf44 b hb
  · rw [efn45] at h; cases h; exact okf45 b hb
  · rw [efn46] at h; cases h; exact okf46 b hb
  · rw [efn47] at h; cases h; exact okf47 b hb
  · rw [efn48] at h; cases h; exact okf48 b hb
  · rw [efn49] at h; cases h; exact okf49 b hb
  · rw [efn50] at h; cases h; exact okf50 b hb
  · rw [efn51] at h; cases h; exact okf51 b hb
  · rw [efn52] at h; cases h; exact okf52 b hb
  · rw [efn53] at h; cases h; exact okf53 b hb
  · rw [efn54] at h; cases h; exact okf54 b hb
  · rw [efn55] at h; cases h; exact okf55 b hb
  · rw [efn56] at h; cases h; exact okf56 b hb
  · rw [efn57] at h; cases h; exact okf57 b hb
  · rw [efn58] at h; cases h; exact okf58 b hb
  · rw [efn59] at h; cases h; exact okf59 b hb
  · rw [efn60] at h; cases h; exact okf60 b hb
  · rw [efn61] at h; cases h; exact okf61 b hb
  · rw [efn62] at h; cases h; exact okf62 b hb
  · rw [efn63] at h; cases h; exact okf63 b hb
  · rw [efn64] at h; cases h; exact okf64 b hb
  · rw [efn65] at h; cases h; exact okf65 b hb
  · rw [efn66] at h; cases h; exact okf66 b hb
  · rw [efn67] at h; cases h; exact okf67 b hb
  · rw [efn68] at h; cases h; exact okf68 b hb
  · rw [efn72] at h; cases h; exact okf72 b hb
  · rw [efn73] at h; cases h; exact okf73 b hb
  · rw [efn74] at h; cases h; exact okf74 b hb
  · rw [efn75] at h; cases h; exact okf75 b hb
  · rw [efn76] at h; cases h; exact okf76 b hb
  · rw [efn77] at h; cases h; exact okf77 b hb
  · rw [efn78] at h; cases h; exact okf78 b hb
  · rw [efn79] at h; cases h; exact okf79 b hb
  · rw [efn80] at h; cases h; exact okf80 b hb
  · rw [efn81] at h; cases h; exact okf81 b hb
  · rw [efn82] at h; cases h; exact okf82 b hb
  · rw [efn83] at h; cases h; exact okf83 b hb
  · rw [efn84] at h; cases h; exact okf84 b hb
  · rw [efn85] at h; cases h; exact okf85 b hb
  · rw [efn86] at h; cases h; exact okf86 b hb
  · rw [efn87] at h; cases h; exact okf87 b hb
  · rw [efn88] at h; cases h; exact okf88 b hb
  · rw [efn89] at h; cases h; exact okf89 b hb
  · rw [efn90] at h; cases h; exact okf90 b hb
  · rw [efn91] at h; cases h; exact okf91 b hb
  · rw [efn92] at h; cases h; exact okf92 b hb
  · rw [efn93] at h; cases h; exact okf93 b hb
  · rw [efn94] at h; cases h; exact okf94 b hb
  · rw [efn95] at h; cases h; exact okf95 b hb
  · rw [efn96] at h; cases h; exact okf96 b hb
  · rw [efn97] at h; cases h; exact okf97 b hb
  · rw [efn98] at h; cases h; exact okf98 b hb
  · rw [efn99] at h; cases h; exact okf99 b hb
  · rw [efn100] at h; cases h; exact okf100 b hb
  · rw [efn101] at h; cases h; exact okf101 b hb
  · rw [efn102] at h; cases h; exact okf102 b hb
  · rw [efn103] at h; cases h; exact okf103 b hb
  · rw [efn104] at h; cases h; exact okf104 b hb
  · rw [efn105] at h; cases h; exact okf105 b hb
  · rw [efn106] at h; cases h; exact okf106 b hb
  · rw [efn107] at h; cases h; exact okf107 b hb
  · rw [efn108] at h; cases h; exact okf108 b hb
  · rw [efn109] at h; cases h; exact okf109 b hb
  · rw [efn119] at h; cases h; exact okf119 b hb
  · rw [efn120] at h; cases h; exact okf120 b hb
  · rw [efn121] at h; cases h; exact okf121 b hb
  · rw [efn122] at h; cases h; exact okf122 b hb
  · rw [efn123] at h; cases h; exact okf123 b hb
  · rw [efn124] at h; cases h; exact okf124 b hb
  · rw [efn125] at h; cases h; exact okf125 b hb
  · rw [efn126] at h; cases h; exact okf126 b hb
  · rw [efn127] at h; cases h; exact okf127 b hb
  · rw [efn128] at h; cases h; exact okf128 b hb
  · rw [efn129] at h; cases h; exact okf129 b hb
  · rw [efn130] at h; cases h; exact okf130 b hb
  · rw [efn131] at h; cases h; exact okf131 b hb
  · rw [efn132] at h; cases h; exact okf132 b hb
  · rw [efn133] at h; cases h; exact okf133 b hb
  · rw [efn134] at h; cases h; exact okf134 b hb
  · rw [efn135] at h; cases h; exact okf135 b hb
  · rw [efn136] at h; cases h; exact okf136 b hb
  · rw [efn137] at h; cases h; exact okf137 b hb
  · rw [efn138] at h; cases h; exact okf138 b hb
  · rw [efn139] at h; cases h; exact okf139 b hb
  · rw [efn140] at h; cases h; exact okf140 b hb
  · rw [efn141] at h; cases h; exact okf141 b hb
  · rw [efn142] at h; cases h; exact okf142 b hb
  · rw [efn143] at h; cases h; exact okf143 b hb
  · rw [efn144] at h; cases h; exact okf144 b hb
  · rw [efn145] at h; cases h; exact okf145 b hb
  · rw [efn146] at h; cases h; exact okf146 b hb
  · rw [efn147] at h; cases h; exact okf147 b hb
  · rw [efn148] at h; cases h; exact okf148 b hb
  · rw [efn149] at h; cases h; exact okf149 b hb
  · rw [efn151] at h; cases h; exact okf151 b hb
  · rw [efn152] at h; cases h; exact okf152 b hb
  · rw [efn153] at h; cases h; exact okf153 b hb
  · rw [efn154] at h; cases h; exact okf154 b hb
  · rw [efn155] at h; cases h; exact okf155 b hb
  · rw [efn156] at h; cases h; exact okf156 b hb
  · rw [efn157] at h; cases h; exact okf157 b hb
  · rw [efn158] at h; cases h; exact okf158 b hb
  · rw [efn160] at h; cases h; exact okf160 b hb
  · rw [efn161] at h; cases h; exact okf161 b hb
  · rw [efn162] at h; cases h; exact okf162 b hb
  · rw [efn163] at h; cases h; exact okf163 b hb
  · rw [efn164] at h; cases h; exact okf164 b hb
  · rw [efn165] at h; cases h; exact okf165 b hb
  · rw [efn166] at h; cases h; exact okf166 b hb
  · rw [efn168] at h; cases h; exact okf168 b hb
  · rw [efn169] at h; cases h; exact okf169 b hb
  · rw [efn170] at h; cases h; exact okf170 b hb
  · rw [efn171] at h; cases h; exact okf171 b hb
  · rw [efn172] at h; cases h; exact okf172 b hb
  · rw [efn173] at h; cases h; exact okf173 b hb
  · rw [efn174] at h; cases h; exact okf174 b hb
  · rw [efn175] at h; cases h; exact okf175 b hb
  · rw [efn178] at h; cases h; exact okf178 b hb
  · rw [efn179] at h; cases h; exact okf179 b hb
  · rw [efn180] at h; cases h; exact okf180 b hb
  · rw [efn181] at h; cases h; exact okf181 b hb
theorem mixed0 : Tryz.prog.follows .mixedOrders = true := by kernel_rfl
end Go.Dm
