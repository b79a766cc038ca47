/- The machine D, 31: this seat's environment. Written by wip/gen/env.py. -/
import Derived.Test.YthglbdbdhhbkhaaDSymB
import Derived.Test.YthglbdbdhhbkhaaProg
set_option linter.unusedVariables false
set_option linter.unusedSimpArgs false
set_option maxRecDepth 100000
set_option maxErrors 100000
namespace Go.Dm
open Go.Proofs
abbrev G0 : Nat := 0
def fns0 : List Nat := [3, 4, 5, 6, 7, 8, 9, 10, 11, 12, 13, 14, 15, 16, 17, 18, 19, 20, 21, 22, 23, 24, 25, 26, 27, 28, 29, 30, 31, 32, 33, 34, 35, 36, 37, 38, 39, 40, 41, 42, 43, 44, 45, 46, 47, 48, 49, 50, 51, 52, 53, 54, 55, 56, 57, 58, 59, 60, 61, 62, 63, 64, 65, 66, 67, 68, 69, 70, 71, 72, 73]
noncomputable def E0 : Env := { ty := Try.prog.info?, fn := fun f => if fns0.contains f then Try.prog.funcs[f]? else none, eqo := fun t => [7, 8, 32, 33, 38, 39, 55, 56, 61, 62, 66, 67, 68, 69, 113].contains t, mark := fun t => [5, 54].contains t }
@[simp] theorem eqo0 : E0.eqo 0 = false := by kernel_rfl
@[simp] theorem mrk0 : E0.mark 0 = false := by kernel_rfl
@[simp] theorem und0 : E0.und 0 = some (TypeDesc.tuple #[]) := by kernel_rfl
@[simp] theorem siz0 : E0.siz 0 = some 1 := by kernel_rfl
@[simp] theorem byt0 : E0.byt 0 = some 0 := by kernel_rfl
@[simp] theorem eqo1 : E0.eqo 1 = false := by kernel_rfl
@[simp] theorem mrk1 : E0.mark 1 = false := by kernel_rfl
@[simp] theorem und1 : E0.und 1 = some (TypeDesc.func #[] #[] false) := by kernel_rfl
@[simp] theorem siz1 : E0.siz 1 = some 1 := by kernel_rfl
@[simp] theorem byt1 : E0.byt 1 = some 8 := by kernel_rfl
@[simp] theorem zer1 : zeroD E0 1 = some (Value.nilFunc) := by kernel_rfl
@[simp] theorem eqo2 : E0.eqo 2 = false := by kernel_rfl
@[simp] theorem mrk2 : E0.mark 2 = false := by kernel_rfl
@[simp] theorem und2 : E0.und 2 = some (TypeDesc.int IntKind.i64) := by kernel_rfl
@[simp] theorem siz2 : E0.siz 2 = some 1 := by kernel_rfl
@[simp] theorem byt2 : E0.byt 2 = some 8 := by kernel_rfl
@[simp] theorem zer2 : zeroD E0 2 = some ((Value.int IntKind.i64 0)) := by kernel_rfl
@[simp] theorem eqo3 : E0.eqo 3 = false := by kernel_rfl
@[simp] theorem mrk3 : E0.mark 3 = false := by kernel_rfl
@[simp] theorem und3 : E0.und 3 = some (TypeDesc.int IntKind.i64) := by kernel_rfl
@[simp] theorem siz3 : E0.siz 3 = some 1 := by kernel_rfl
@[simp] theorem byt3 : E0.byt 3 = some 8 := by kernel_rfl
@[simp] theorem zer3 : zeroD E0 3 = some ((Value.int IntKind.i64 0)) := by kernel_rfl
@[simp] theorem eqo4 : E0.eqo 4 = false := by kernel_rfl
@[simp] theorem mrk4 : E0.mark 4 = false := by kernel_rfl
@[simp] theorem und4 : E0.und 4 = some TypeDesc.bool := by kernel_rfl
@[simp] theorem siz4 : E0.siz 4 = some 1 := by kernel_rfl
@[simp] theorem byt4 : E0.byt 4 = some 1 := by kernel_rfl
@[simp] theorem zer4 : zeroD E0 4 = some ((Value.bool false)) := by kernel_rfl
@[simp] theorem eqo5 : E0.eqo 5 = false := by kernel_rfl
@[simp] theorem mrk5 : E0.mark 5 = true := by kernel_rfl
@[simp] theorem und5 : E0.und 5 = some (TypeDesc.int IntKind.u8) := by kernel_rfl
@[simp] theorem siz5 : E0.siz 5 = some 1 := by kernel_rfl
@[simp] theorem byt5 : E0.byt 5 = some 1 := by kernel_rfl
@[simp] theorem zer5 : zeroD E0 5 = some ((Value.int IntKind.u8 0)) := by kernel_rfl
@[simp] theorem eqo6 : E0.eqo 6 = false := by kernel_rfl
@[simp] theorem mrk6 : E0.mark 6 = false := by kernel_rfl
@[simp] theorem und6 : E0.und 6 = some (TypeDesc.int IntKind.u8) := by kernel_rfl
@[simp] theorem siz6 : E0.siz 6 = some 1 := by kernel_rfl
@[simp] theorem byt6 : E0.byt 6 = some 1 := by kernel_rfl
@[simp] theorem zer6 : zeroD E0 6 = some ((Value.int IntKind.u8 0)) := by kernel_rfl
@[simp] theorem eqo7 : E0.eqo 7 = true := by kernel_rfl
@[simp] theorem mrk7 : E0.mark 7 = false := by kernel_rfl
@[simp] theorem und7 : E0.und 7 = some (TypeDesc.struct #[{ name := "x", type := 2, offset := 0, embedded := false, tag := "", pkgPath := "runtime", byteOffset := 0 }, { name := "y", type := 3, offset := 1, embedded := false, tag := "", pkgPath := "runtime", byteOffset := 8 }, { name := "signed", type := 4, offset := 2, embedded := false, tag := "", pkgPath := "runtime", byteOffset := 16 }, { name := "code", type := 6, offset := 3, embedded := false, tag := "", pkgPath := "runtime", byteOffset := 17 }]) := by kernel_rfl
@[simp] theorem siz7 : E0.siz 7 = some 4 := by kernel_rfl
@[simp] theorem byt7 : E0.byt 7 = some 24 := by kernel_rfl
@[simp] theorem zer7 : zeroD E0 7 = some ((Value.agg #[Value.int IntKind.i64 0, Value.int IntKind.i64 0, Value.bool false, Value.int IntKind.u8 0])) := by kernel_rfl
@[simp] theorem eqo8 : E0.eqo 8 = true := by kernel_rfl
@[simp] theorem mrk8 : E0.mark 8 = false := by kernel_rfl
@[simp] theorem und8 : E0.und 8 = some (TypeDesc.struct #[{ name := "x", type := 2, offset := 0, embedded := false, tag := "", pkgPath := "runtime", byteOffset := 0 }, { name := "y", type := 3, offset := 1, embedded := false, tag := "", pkgPath := "runtime", byteOffset := 8 }, { name := "signed", type := 4, offset := 2, embedded := false, tag := "", pkgPath := "runtime", byteOffset := 16 }, { name := "code", type := 6, offset := 3, embedded := false, tag := "", pkgPath := "runtime", byteOffset := 17 }]) := by kernel_rfl
@[simp] theorem siz8 : E0.siz 8 = some 4 := by kernel_rfl
@[simp] theorem byt8 : E0.byt 8 = some 24 := by kernel_rfl
@[simp] theorem zer8 : zeroD E0 8 = some ((Value.agg #[Value.int IntKind.i64 0, Value.int IntKind.i64 0, Value.bool false, Value.int IntKind.u8 0])) := by kernel_rfl
@[simp] theorem eqo9 : E0.eqo 9 = false := by kernel_rfl
@[simp] theorem mrk9 : E0.mark 9 = false := by kernel_rfl
@[simp] theorem und9 : E0.und 9 = some TypeDesc.string := by kernel_rfl
@[simp] theorem siz9 : E0.siz 9 = some 1 := by kernel_rfl
@[simp] theorem byt9 : E0.byt 9 = some 16 := by kernel_rfl
@[simp] theorem zer9 : zeroD E0 9 = some ((Value.string { data := #[] })) := by kernel_rfl
@[simp] theorem eqo10 : E0.eqo 10 = false := by kernel_rfl
@[simp] theorem mrk10 : E0.mark 10 = false := by kernel_rfl
@[simp] theorem und10 : E0.und 10 = some TypeDesc.string := by kernel_rfl
@[simp] theorem siz10 : E0.siz 10 = some 1 := by kernel_rfl
@[simp] theorem byt10 : E0.byt 10 = some 16 := by kernel_rfl
@[simp] theorem zer10 : zeroD E0 10 = some ((Value.string { data := #[] })) := by kernel_rfl
@[simp] theorem eqo11 : E0.eqo 11 = false := by kernel_rfl
@[simp] theorem mrk11 : E0.mark 11 = false := by kernel_rfl
@[simp] theorem und11 : E0.und 11 = some TypeDesc.string := by kernel_rfl
@[simp] theorem siz11 : E0.siz 11 = some 1 := by kernel_rfl
@[simp] theorem byt11 : E0.byt 11 = some 16 := by kernel_rfl
@[simp] theorem zer11 : zeroD E0 11 = some ((Value.string { data := #[] })) := by kernel_rfl
@[simp] theorem eqo12 : E0.eqo 12 = false := by kernel_rfl
@[simp] theorem mrk12 : E0.mark 12 = false := by kernel_rfl
@[simp] theorem und12 : E0.und 12 = some (TypeDesc.int IntKind.u64) := by kernel_rfl
@[simp] theorem siz12 : E0.siz 12 = some 1 := by kernel_rfl
@[simp] theorem byt12 : E0.byt 12 = some 8 := by kernel_rfl
@[simp] theorem zer12 : zeroD E0 12 = some ((Value.int IntKind.u64 0)) := by kernel_rfl
@[simp] theorem eqo13 : E0.eqo 13 = false := by kernel_rfl
@[simp] theorem mrk13 : E0.mark 13 = false := by kernel_rfl
@[simp] theorem und13 : E0.und 13 = some (TypeDesc.struct #[{ name := "msg", type := 9, offset := 0, embedded := false, tag := "", pkgPath := "runtime", byteOffset := 0 }, { name := "addr", type := 12, offset := 1, embedded := false, tag := "", pkgPath := "runtime", byteOffset := 16 }]) := by kernel_rfl
@[simp] theorem siz13 : E0.siz 13 = some 2 := by kernel_rfl
@[simp] theorem byt13 : E0.byt 13 = some 24 := by kernel_rfl
@[simp] theorem zer13 : zeroD E0 13 = some ((Value.agg #[Value.string { data := #[] }, Value.int IntKind.u64 0])) := by kernel_rfl
@[simp] theorem eqo14 : E0.eqo 14 = false := by kernel_rfl
@[simp] theorem mrk14 : E0.mark 14 = false := by kernel_rfl
@[simp] theorem und14 : E0.und 14 = some (TypeDesc.struct #[{ name := "msg", type := 9, offset := 0, embedded := false, tag := "", pkgPath := "runtime", byteOffset := 0 }, { name := "addr", type := 12, offset := 1, embedded := false, tag := "", pkgPath := "runtime", byteOffset := 16 }]) := by kernel_rfl
@[simp] theorem siz14 : E0.siz 14 = some 2 := by kernel_rfl
@[simp] theorem byt14 : E0.byt 14 = some 24 := by kernel_rfl
@[simp] theorem zer14 : zeroD E0 14 = some ((Value.agg #[Value.string { data := #[] }, Value.int IntKind.u64 0])) := by kernel_rfl
@[simp] theorem eqo15 : E0.eqo 15 = false := by kernel_rfl
@[simp] theorem mrk15 : E0.mark 15 = false := by kernel_rfl
@[simp] theorem und15 : E0.und 15 = some (TypeDesc.pointer 112) := by kernel_rfl
@[simp] theorem siz15 : E0.siz 15 = some 1 := by kernel_rfl
@[simp] theorem byt15 : E0.byt 15 = some 8 := by kernel_rfl
@[simp] theorem zer15 : zeroD E0 15 = some ((Value.pointer none)) := by kernel_rfl
@[simp] theorem eqo16 : E0.eqo 16 = false := by kernel_rfl
@[simp] theorem mrk16 : E0.mark 16 = false := by kernel_rfl
@[simp] theorem und16 : E0.und 16 = some (TypeDesc.pointer 115) := by kernel_rfl
@[simp] theorem siz16 : E0.siz 16 = some 1 := by kernel_rfl
@[simp] theorem byt16 : E0.byt 16 = some 8 := by kernel_rfl
@[simp] theorem zer16 : zeroD E0 16 = some ((Value.pointer none)) := by kernel_rfl
@[simp] theorem eqo17 : E0.eqo 17 = false := by kernel_rfl
@[simp] theorem mrk17 : E0.mark 17 = false := by kernel_rfl
@[simp] theorem und17 : E0.und 17 = some (TypeDesc.pointer 123) := by kernel_rfl
@[simp] theorem siz17 : E0.siz 17 = some 1 := by kernel_rfl
@[simp] theorem byt17 : E0.byt 17 = some 8 := by kernel_rfl
@[simp] theorem zer17 : zeroD E0 17 = some ((Value.pointer none)) := by kernel_rfl
@[simp] theorem eqo18 : E0.eqo 18 = false := by kernel_rfl
@[simp] theorem mrk18 : E0.mark 18 = false := by kernel_rfl
@[simp] theorem und18 : E0.und 18 = some (TypeDesc.struct #[{ name := "typ", type := 17, offset := 0, embedded := false, tag := "", pkgPath := "internal/runtime/maps", byteOffset := 0 }]) := by kernel_rfl
@[simp] theorem siz18 : E0.siz 18 = some 1 := by kernel_rfl
@[simp] theorem byt18 : E0.byt 18 = some 8 := by kernel_rfl
@[simp] theorem zer18 : zeroD E0 18 = some ((Value.agg #[Value.pointer none])) := by kernel_rfl
@[simp] theorem eqo19 : E0.eqo 19 = false := by kernel_rfl
@[simp] theorem mrk19 : E0.mark 19 = false := by kernel_rfl
@[simp] theorem und19 : E0.und 19 = some (TypeDesc.struct #[{ name := "typ", type := 17, offset := 0, embedded := false, tag := "", pkgPath := "internal/runtime/maps", byteOffset := 0 }]) := by kernel_rfl
@[simp] theorem siz19 : E0.siz 19 = some 1 := by kernel_rfl
@[simp] theorem byt19 : E0.byt 19 = some 8 := by kernel_rfl
@[simp] theorem zer19 : zeroD E0 19 = some ((Value.agg #[Value.pointer none])) := by kernel_rfl
@[simp] theorem eqo20 : E0.eqo 20 = false := by kernel_rfl
@[simp] theorem mrk20 : E0.mark 20 = false := by kernel_rfl
@[simp] theorem und20 : E0.und 20 = some (TypeDesc.interface #[]) := by kernel_rfl
@[simp] theorem siz20 : E0.siz 20 = some 1 := by kernel_rfl
@[simp] theorem byt20 : E0.byt 20 = some 16 := by kernel_rfl
@[simp] theorem zer20 : zeroD E0 20 = some (Value.nilIface) := by kernel_rfl
@[simp] theorem eqo21 : E0.eqo 21 = false := by kernel_rfl
@[simp] theorem mrk21 : E0.mark 21 = false := by kernel_rfl
@[simp] theorem und21 : E0.und 21 = some (TypeDesc.int IntKind.i32) := by kernel_rfl
@[simp] theorem siz21 : E0.siz 21 = some 1 := by kernel_rfl
@[simp] theorem byt21 : E0.byt 21 = some 4 := by kernel_rfl
@[simp] theorem zer21 : zeroD E0 21 = some ((Value.int IntKind.i32 0)) := by kernel_rfl
@[simp] theorem eqo22 : E0.eqo 22 = false := by kernel_rfl
@[simp] theorem mrk22 : E0.mark 22 = false := by kernel_rfl
@[simp] theorem und22 : E0.und 22 = some (TypeDesc.slice 33) := by kernel_rfl
@[simp] theorem siz22 : E0.siz 22 = some 1 := by kernel_rfl
@[simp] theorem byt22 : E0.byt 22 = some 24 := by kernel_rfl
@[simp] theorem zer22 : zeroD E0 22 = some ((Value.slice none 0 0)) := by kernel_rfl
@[simp] theorem eqo23 : E0.eqo 23 = false := by kernel_rfl
@[simp] theorem mrk23 : E0.mark 23 = false := by kernel_rfl
@[simp] theorem und23 : E0.und 23 = some (TypeDesc.func #[22] #[4] false) := by kernel_rfl
@[simp] theorem siz23 : E0.siz 23 = some 1 := by kernel_rfl
@[simp] theorem byt23 : E0.byt 23 = some 8 := by kernel_rfl
@[simp] theorem zer23 : zeroD E0 23 = some (Value.nilFunc) := by kernel_rfl
@[simp] theorem eqo24 : E0.eqo 24 = false := by kernel_rfl
@[simp] theorem mrk24 : E0.mark 24 = false := by kernel_rfl
@[simp] theorem und24 : E0.und 24 = some (TypeDesc.func #[] #[4] false) := by kernel_rfl
@[simp] theorem siz24 : E0.siz 24 = some 1 := by kernel_rfl
@[simp] theorem byt24 : E0.byt 24 = some 8 := by kernel_rfl
@[simp] theorem zer24 : zeroD E0 24 = some (Value.nilFunc) := by kernel_rfl
@[simp] theorem eqo25 : E0.eqo 25 = false := by kernel_rfl
@[simp] theorem mrk25 : E0.mark 25 = false := by kernel_rfl
@[simp] theorem und25 : E0.und 25 = some (TypeDesc.pointer 56) := by kernel_rfl
@[simp] theorem siz25 : E0.siz 25 = some 1 := by kernel_rfl
@[simp] theorem byt25 : E0.byt 25 = some 8 := by kernel_rfl
@[simp] theorem zer25 : zeroD E0 25 = some ((Value.pointer none)) := by kernel_rfl
@[simp] theorem eqo26 : E0.eqo 26 = false := by kernel_rfl
@[simp] theorem mrk26 : E0.mark 26 = false := by kernel_rfl
@[simp] theorem und26 : E0.und 26 = some (TypeDesc.func #[] #[25] false) := by kernel_rfl
@[simp] theorem siz26 : E0.siz 26 = some 1 := by kernel_rfl
@[simp] theorem byt26 : E0.byt 26 = some 8 := by kernel_rfl
@[simp] theorem zer26 : zeroD E0 26 = some (Value.nilFunc) := by kernel_rfl
@[simp] theorem eqo27 : E0.eqo 27 = false := by kernel_rfl
@[simp] theorem mrk27 : E0.mark 27 = false := by kernel_rfl
@[simp] theorem und27 : E0.und 27 = some (TypeDesc.slice 9) := by kernel_rfl
@[simp] theorem siz27 : E0.siz 27 = some 1 := by kernel_rfl
@[simp] theorem byt27 : E0.byt 27 = some 24 := by kernel_rfl
@[simp] theorem zer27 : zeroD E0 27 = some ((Value.slice none 0 0)) := by kernel_rfl
@[simp] theorem eqo28 : E0.eqo 28 = false := by kernel_rfl
@[simp] theorem mrk28 : E0.mark 28 = false := by kernel_rfl
@[simp] theorem und28 : E0.und 28 = some (TypeDesc.func #[] #[27] false) := by kernel_rfl
@[simp] theorem siz28 : E0.siz 28 = some 1 := by kernel_rfl
@[simp] theorem byt28 : E0.byt 28 = some 8 := by kernel_rfl
@[simp] theorem zer28 : zeroD E0 28 = some (Value.nilFunc) := by kernel_rfl
@[simp] theorem eqo29 : E0.eqo 29 = false := by kernel_rfl
@[simp] theorem mrk29 : E0.mark 29 = false := by kernel_rfl
@[simp] theorem und29 : E0.und 29 = some (TypeDesc.int IntKind.i64) := by kernel_rfl
@[simp] theorem siz29 : E0.siz 29 = some 1 := by kernel_rfl
@[simp] theorem byt29 : E0.byt 29 = some 8 := by kernel_rfl
@[simp] theorem zer29 : zeroD E0 29 = some ((Value.int IntKind.i64 0)) := by kernel_rfl
@[simp] theorem eqo30 : E0.eqo 30 = false := by kernel_rfl
@[simp] theorem mrk30 : E0.mark 30 = false := by kernel_rfl
@[simp] theorem und30 : E0.und 30 = some (TypeDesc.tuple #[27, 29]) := by kernel_rfl
@[simp] theorem siz30 : E0.siz 30 = some 1 := by kernel_rfl
@[simp] theorem byt30 : E0.byt 30 = some 0 := by kernel_rfl
@[simp] theorem eqo31 : E0.eqo 31 = false := by kernel_rfl
@[simp] theorem mrk31 : E0.mark 31 = false := by kernel_rfl
@[simp] theorem und31 : E0.und 31 = some (TypeDesc.func #[25, 33] #[27, 29] false) := by kernel_rfl
@[simp] theorem siz31 : E0.siz 31 = some 1 := by kernel_rfl
@[simp] theorem byt31 : E0.byt 31 = some 8 := by kernel_rfl
@[simp] theorem zer31 : zeroD E0 31 = some (Value.nilFunc) := by kernel_rfl
@[simp] theorem eqo32 : E0.eqo 32 = true := by kernel_rfl
@[simp] theorem mrk32 : E0.mark 32 = false := by kernel_rfl
@[simp] theorem und32 : E0.und 32 = some (TypeDesc.struct #[{ name := "Do", type := 3, offset := 0, embedded := false, tag := "", pkgPath := "", byteOffset := 0 }, { name := "N", type := 3, offset := 1, embedded := false, tag := "", pkgPath := "", byteOffset := 8 }, { name := "D", type := 27, offset := 2, embedded := false, tag := "", pkgPath := "", byteOffset := 16 }, { name := "M", type := 27, offset := 3, embedded := false, tag := "", pkgPath := "", byteOffset := 40 }]) := by kernel_rfl
@[simp] theorem siz32 : E0.siz 32 = some 4 := by kernel_rfl
@[simp] theorem byt32 : E0.byt 32 = some 64 := by kernel_rfl
@[simp] theorem zer32 : zeroD E0 32 = some ((Value.agg #[Value.int IntKind.i64 0, Value.int IntKind.i64 0, Value.slice none 0 0, Value.slice none 0 0])) := by kernel_rfl
@[simp] theorem eqo33 : E0.eqo 33 = true := by kernel_rfl
@[simp] theorem mrk33 : E0.mark 33 = false := by kernel_rfl
@[simp] theorem und33 : E0.und 33 = some (TypeDesc.struct #[{ name := "Do", type := 3, offset := 0, embedded := false, tag := "", pkgPath := "", byteOffset := 0 }, { name := "N", type := 3, offset := 1, embedded := false, tag := "", pkgPath := "", byteOffset := 8 }, { name := "D", type := 27, offset := 2, embedded := false, tag := "", pkgPath := "", byteOffset := 16 }, { name := "M", type := 27, offset := 3, embedded := false, tag := "", pkgPath := "", byteOffset := 40 }]) := by kernel_rfl
@[simp] theorem siz33 : E0.siz 33 = some 4 := by kernel_rfl
@[simp] theorem byt33 : E0.byt 33 = some 64 := by kernel_rfl
@[simp] theorem zer33 : zeroD E0 33 = some ((Value.agg #[Value.int IntKind.i64 0, Value.int IntKind.i64 0, Value.slice none 0 0, Value.slice none 0 0])) := by kernel_rfl
@[simp] theorem eqo34 : E0.eqo 34 = false := by kernel_rfl
@[simp] theorem mrk34 : E0.mark 34 = false := by kernel_rfl
@[simp] theorem und34 : E0.und 34 = some (TypeDesc.func #[9, 27] #[4] false) := by kernel_rfl
@[simp] theorem siz34 : E0.siz 34 = some 1 := by kernel_rfl
@[simp] theorem byt34 : E0.byt 34 = some 8 := by kernel_rfl
@[simp] theorem zer34 : zeroD E0 34 = some (Value.nilFunc) := by kernel_rfl
@[simp] theorem eqo35 : E0.eqo 35 = false := by kernel_rfl
@[simp] theorem mrk35 : E0.mark 35 = false := by kernel_rfl
@[simp] theorem und35 : E0.und 35 = some (TypeDesc.func #[9] #[3] false) := by kernel_rfl
@[simp] theorem siz35 : E0.siz 35 = some 1 := by kernel_rfl
@[simp] theorem byt35 : E0.byt 35 = some 8 := by kernel_rfl
@[simp] theorem zer35 : zeroD E0 35 = some (Value.nilFunc) := by kernel_rfl
@[simp] theorem eqo36 : E0.eqo 36 = false := by kernel_rfl
@[simp] theorem mrk36 : E0.mark 36 = false := by kernel_rfl
@[simp] theorem und36 : E0.und 36 = some (TypeDesc.pointer 39) := by kernel_rfl
@[simp] theorem siz36 : E0.siz 36 = some 1 := by kernel_rfl
@[simp] theorem byt36 : E0.byt 36 = some 8 := by kernel_rfl
@[simp] theorem zer36 : zeroD E0 36 = some ((Value.pointer none)) := by kernel_rfl
@[simp] theorem eqo37 : E0.eqo 37 = false := by kernel_rfl
@[simp] theorem mrk37 : E0.mark 37 = false := by kernel_rfl
@[simp] theorem und37 : E0.und 37 = some (TypeDesc.slice 62) := by kernel_rfl
@[simp] theorem siz37 : E0.siz 37 = some 1 := by kernel_rfl
@[simp] theorem byt37 : E0.byt 37 = some 24 := by kernel_rfl
@[simp] theorem zer37 : zeroD E0 37 = some ((Value.slice none 0 0)) := by kernel_rfl
@[simp] theorem eqo38 : E0.eqo 38 = true := by kernel_rfl
@[simp] theorem mrk38 : E0.mark 38 = false := by kernel_rfl
@[simp] theorem und38 : E0.und 38 = some (TypeDesc.struct #[{ name := "L", type := 37, offset := 0, embedded := false, tag := "", pkgPath := "", byteOffset := 0 }]) := by kernel_rfl
@[simp] theorem siz38 : E0.siz 38 = some 1 := by kernel_rfl
@[simp] theorem byt38 : E0.byt 38 = some 24 := by kernel_rfl
@[simp] theorem zer38 : zeroD E0 38 = some ((Value.agg #[Value.slice none 0 0])) := by kernel_rfl
@[simp] theorem eqo39 : E0.eqo 39 = true := by kernel_rfl
@[simp] theorem mrk39 : E0.mark 39 = false := by kernel_rfl
@[simp] theorem und39 : E0.und 39 = some (TypeDesc.struct #[{ name := "L", type := 37, offset := 0, embedded := false, tag := "", pkgPath := "", byteOffset := 0 }]) := by kernel_rfl
@[simp] theorem siz39 : E0.siz 39 = some 1 := by kernel_rfl
@[simp] theorem byt39 : E0.byt 39 = some 24 := by kernel_rfl
@[simp] theorem zer39 : zeroD E0 39 = some ((Value.agg #[Value.slice none 0 0])) := by kernel_rfl
@[simp] theorem eqo40 : E0.eqo 40 = false := by kernel_rfl
@[simp] theorem mrk40 : E0.mark 40 = false := by kernel_rfl
@[simp] theorem und40 : E0.und 40 = some (TypeDesc.func #[3] #[27, 29] false) := by kernel_rfl
@[simp] theorem siz40 : E0.siz 40 = some 1 := by kernel_rfl
@[simp] theorem byt40 : E0.byt 40 = some 8 := by kernel_rfl
@[simp] theorem zer40 : zeroD E0 40 = some (Value.nilFunc) := by kernel_rfl
@[simp] theorem eqo41 : E0.eqo 41 = false := by kernel_rfl
@[simp] theorem mrk41 : E0.mark 41 = false := by kernel_rfl
@[simp] theorem und41 : E0.und 41 = some (TypeDesc.func #[3, 27, 27] #[27, 29] false) := by kernel_rfl
@[simp] theorem siz41 : E0.siz 41 = some 1 := by kernel_rfl
@[simp] theorem byt41 : E0.byt 41 = some 8 := by kernel_rfl
@[simp] theorem zer41 : zeroD E0 41 = some (Value.nilFunc) := by kernel_rfl
@[simp] theorem eqo42 : E0.eqo 42 = false := by kernel_rfl
@[simp] theorem mrk42 : E0.mark 42 = false := by kernel_rfl
@[simp] theorem und42 : E0.und 42 = some (TypeDesc.func #[27, 27] #[4] false) := by kernel_rfl
@[simp] theorem siz42 : E0.siz 42 = some 1 := by kernel_rfl
@[simp] theorem byt42 : E0.byt 42 = some 8 := by kernel_rfl
@[simp] theorem zer42 : zeroD E0 42 = some (Value.nilFunc) := by kernel_rfl
@[simp] theorem eqo43 : E0.eqo 43 = false := by kernel_rfl
@[simp] theorem mrk43 : E0.mark 43 = false := by kernel_rfl
@[simp] theorem und43 : E0.und 43 = some (TypeDesc.tuple #[4, 4]) := by kernel_rfl
@[simp] theorem siz43 : E0.siz 43 = some 1 := by kernel_rfl
@[simp] theorem byt43 : E0.byt 43 = some 0 := by kernel_rfl
@[simp] theorem eqo44 : E0.eqo 44 = false := by kernel_rfl
@[simp] theorem mrk44 : E0.mark 44 = false := by kernel_rfl
@[simp] theorem und44 : E0.und 44 = some (TypeDesc.func #[3, 9] #[4, 4] false) := by kernel_rfl
@[simp] theorem siz44 : E0.siz 44 = some 1 := by kernel_rfl
@[simp] theorem byt44 : E0.byt 44 = some 8 := by kernel_rfl
@[simp] theorem zer44 : zeroD E0 44 = some (Value.nilFunc) := by kernel_rfl
@[simp] theorem eqo45 : E0.eqo 45 = false := by kernel_rfl
@[simp] theorem mrk45 : E0.mark 45 = false := by kernel_rfl
@[simp] theorem und45 : E0.und 45 = some (TypeDesc.func #[46, 46] #[4] false) := by kernel_rfl
@[simp] theorem siz45 : E0.siz 45 = some 1 := by kernel_rfl
@[simp] theorem byt45 : E0.byt 45 = some 8 := by kernel_rfl
@[simp] theorem zer45 : zeroD E0 45 = some (Value.nilFunc) := by kernel_rfl
@[simp] theorem eqo46 : E0.eqo 46 = false := by kernel_rfl
@[simp] theorem mrk46 : E0.mark 46 = false := by kernel_rfl
@[simp] theorem und46 : E0.und 46 = some (TypeDesc.slice 3) := by kernel_rfl
@[simp] theorem siz46 : E0.siz 46 = some 1 := by kernel_rfl
@[simp] theorem byt46 : E0.byt 46 = some 24 := by kernel_rfl
@[simp] theorem zer46 : zeroD E0 46 = some ((Value.slice none 0 0)) := by kernel_rfl
@[simp] theorem eqo47 : E0.eqo 47 = false := by kernel_rfl
@[simp] theorem mrk47 : E0.mark 47 = false := by kernel_rfl
@[simp] theorem und47 : E0.und 47 = some (TypeDesc.func #[9] #[46] false) := by kernel_rfl
@[simp] theorem siz47 : E0.siz 47 = some 1 := by kernel_rfl
@[simp] theorem byt47 : E0.byt 47 = some 8 := by kernel_rfl
@[simp] theorem zer47 : zeroD E0 47 = some (Value.nilFunc) := by kernel_rfl
@[simp] theorem eqo48 : E0.eqo 48 = false := by kernel_rfl
@[simp] theorem mrk48 : E0.mark 48 = false := by kernel_rfl
@[simp] theorem und48 : E0.und 48 = some (TypeDesc.func #[] #[3] false) := by kernel_rfl
@[simp] theorem siz48 : E0.siz 48 = some 1 := by kernel_rfl
@[simp] theorem byt48 : E0.byt 48 = some 8 := by kernel_rfl
@[simp] theorem zer48 : zeroD E0 48 = some (Value.nilFunc) := by kernel_rfl
@[simp] theorem eqo49 : E0.eqo 49 = false := by kernel_rfl
@[simp] theorem mrk49 : E0.mark 49 = false := by kernel_rfl
@[simp] theorem und49 : E0.und 49 = some (TypeDesc.func #[22, 9, 3] #[4] false) := by kernel_rfl
@[simp] theorem siz49 : E0.siz 49 = some 1 := by kernel_rfl
@[simp] theorem byt49 : E0.byt 49 = some 8 := by kernel_rfl
@[simp] theorem zer49 : zeroD E0 49 = some (Value.nilFunc) := by kernel_rfl
@[simp] theorem eqo50 : E0.eqo 50 = false := by kernel_rfl
@[simp] theorem mrk50 : E0.mark 50 = false := by kernel_rfl
@[simp] theorem und50 : E0.und 50 = some (TypeDesc.func #[3, 27, 9] #[4] false) := by kernel_rfl
@[simp] theorem siz50 : E0.siz 50 = some 1 := by kernel_rfl
@[simp] theorem byt50 : E0.byt 50 = some 8 := by kernel_rfl
@[simp] theorem zer50 : zeroD E0 50 = some (Value.nilFunc) := by kernel_rfl
@[simp] theorem eqo51 : E0.eqo 51 = false := by kernel_rfl
@[simp] theorem mrk51 : E0.mark 51 = false := by kernel_rfl
@[simp] theorem und51 : E0.und 51 = some (TypeDesc.func #[22, 9] #[4] false) := by kernel_rfl
@[simp] theorem siz51 : E0.siz 51 = some 1 := by kernel_rfl
@[simp] theorem byt51 : E0.byt 51 = some 8 := by kernel_rfl
@[simp] theorem zer51 : zeroD E0 51 = some (Value.nilFunc) := by kernel_rfl
@[simp] theorem eqo52 : E0.eqo 52 = false := by kernel_rfl
@[simp] theorem mrk52 : E0.mark 52 = false := by kernel_rfl
@[simp] theorem und52 : E0.und 52 = some (TypeDesc.map 3 67) := by kernel_rfl
@[simp] theorem siz52 : E0.siz 52 = some 1 := by kernel_rfl
@[simp] theorem byt52 : E0.byt 52 = some 8 := by kernel_rfl
@[simp] theorem zer52 : zeroD E0 52 = some ((Value.map none)) := by kernel_rfl
@[simp] theorem eqo53 : E0.eqo 53 = false := by kernel_rfl
@[simp] theorem mrk53 : E0.mark 53 = false := by kernel_rfl
@[simp] theorem und53 : E0.und 53 = some (TypeDesc.map 69 4) := by kernel_rfl
@[simp] theorem siz53 : E0.siz 53 = some 1 := by kernel_rfl
@[simp] theorem byt53 : E0.byt 53 = some 8 := by kernel_rfl
@[simp] theorem zer53 : zeroD E0 53 = some ((Value.map none)) := by kernel_rfl
@[simp] theorem eqo54 : E0.eqo 54 = false := by kernel_rfl
@[simp] theorem mrk54 : E0.mark 54 = true := by kernel_rfl
@[simp] theorem und54 : E0.und 54 = some (TypeDesc.map 9 3) := by kernel_rfl
@[simp] theorem siz54 : E0.siz 54 = some 1 := by kernel_rfl
@[simp] theorem byt54 : E0.byt 54 = some 8 := by kernel_rfl
@[simp] theorem zer54 : zeroD E0 54 = some ((Value.map none)) := by kernel_rfl
@[simp] theorem eqo55 : E0.eqo 55 = true := by kernel_rfl
@[simp] theorem mrk55 : E0.mark 55 = false := by kernel_rfl
@[simp] theorem und55 : E0.und 55 = some (TypeDesc.struct #[{ name := "entries", type := 52, offset := 0, embedded := false, tag := "", pkgPath := "indenture/index", byteOffset := 0 }, { name := "defines", type := 53, offset := 1, embedded := false, tag := "", pkgPath := "indenture/index", byteOffset := 8 }, { name := "mentions", type := 53, offset := 2, embedded := false, tag := "", pkgPath := "indenture/index", byteOffset := 16 }, { name := "count", type := 54, offset := 3, embedded := false, tag := "", pkgPath := "indenture/index", byteOffset := 24 }]) := by kernel_rfl
@[simp] theorem siz55 : E0.siz 55 = some 4 := by kernel_rfl
@[simp] theorem byt55 : E0.byt 55 = some 32 := by kernel_rfl
@[simp] theorem zer55 : zeroD E0 55 = some ((Value.agg #[Value.map none, Value.map none, Value.map none, Value.map none])) := by kernel_rfl
@[simp] theorem eqo56 : E0.eqo 56 = true := by kernel_rfl
@[simp] theorem mrk56 : E0.mark 56 = false := by kernel_rfl
@[simp] theorem und56 : E0.und 56 = some (TypeDesc.struct #[{ name := "entries", type := 52, offset := 0, embedded := false, tag := "", pkgPath := "indenture/index", byteOffset := 0 }, { name := "defines", type := 53, offset := 1, embedded := false, tag := "", pkgPath := "indenture/index", byteOffset := 8 }, { name := "mentions", type := 53, offset := 2, embedded := false, tag := "", pkgPath := "indenture/index", byteOffset := 16 }, { name := "count", type := 54, offset := 3, embedded := false, tag := "", pkgPath := "indenture/index", byteOffset := 24 }]) := by kernel_rfl
@[simp] theorem siz56 : E0.siz 56 = some 4 := by kernel_rfl
@[simp] theorem byt56 : E0.byt 56 = some 32 := by kernel_rfl
@[simp] theorem zer56 : zeroD E0 56 = some ((Value.agg #[Value.map none, Value.map none, Value.map none, Value.map none])) := by kernel_rfl
@[simp] theorem eqo57 : E0.eqo 57 = false := by kernel_rfl
@[simp] theorem mrk57 : E0.mark 57 = false := by kernel_rfl
@[simp] theorem und57 : E0.und 57 = some (TypeDesc.func #[59] #[27] false) := by kernel_rfl
@[simp] theorem siz57 : E0.siz 57 = some 1 := by kernel_rfl
@[simp] theorem byt57 : E0.byt 57 = some 8 := by kernel_rfl
@[simp] theorem zer57 : zeroD E0 57 = some (Value.nilFunc) := by kernel_rfl
@[simp] theorem eqo58 : E0.eqo 58 = false := by kernel_rfl
@[simp] theorem mrk58 : E0.mark 58 = false := by kernel_rfl
@[simp] theorem und58 : E0.und 58 = some (TypeDesc.func #[71] #[] false) := by kernel_rfl
@[simp] theorem siz58 : E0.siz 58 = some 1 := by kernel_rfl
@[simp] theorem byt58 : E0.byt 58 = some 8 := by kernel_rfl
@[simp] theorem zer58 : zeroD E0 58 = some (Value.nilFunc) := by kernel_rfl
@[simp] theorem eqo59 : E0.eqo 59 = false := by kernel_rfl
@[simp] theorem mrk59 : E0.mark 59 = false := by kernel_rfl
@[simp] theorem und59 : E0.und 59 = some (TypeDesc.func #[71] #[] false) := by kernel_rfl
@[simp] theorem siz59 : E0.siz 59 = some 1 := by kernel_rfl
@[simp] theorem byt59 : E0.byt 59 = some 8 := by kernel_rfl
@[simp] theorem zer59 : zeroD E0 59 = some (Value.nilFunc) := by kernel_rfl
@[simp] theorem eqo60 : E0.eqo 60 = false := by kernel_rfl
@[simp] theorem mrk60 : E0.mark 60 = false := by kernel_rfl
@[simp] theorem und60 : E0.und 60 = some (TypeDesc.func #[54] #[59] false) := by kernel_rfl
@[simp] theorem siz60 : E0.siz 60 = some 1 := by kernel_rfl
@[simp] theorem byt60 : E0.byt 60 = some 8 := by kernel_rfl
@[simp] theorem zer60 : zeroD E0 60 = some (Value.nilFunc) := by kernel_rfl
@[simp] theorem eqo61 : E0.eqo 61 = true := by kernel_rfl
@[simp] theorem mrk61 : E0.mark 61 = false := by kernel_rfl
@[simp] theorem und61 : E0.und 61 = some (TypeDesc.struct #[{ name := "N", type := 3, offset := 0, embedded := false, tag := "", pkgPath := "", byteOffset := 0 }, { name := "Defines", type := 27, offset := 1, embedded := false, tag := "", pkgPath := "", byteOffset := 8 }, { name := "Mentions", type := 27, offset := 2, embedded := false, tag := "", pkgPath := "", byteOffset := 32 }]) := by kernel_rfl
@[simp] theorem siz61 : E0.siz 61 = some 3 := by kernel_rfl
@[simp] theorem byt61 : E0.byt 61 = some 56 := by kernel_rfl
@[simp] theorem zer61 : zeroD E0 61 = some ((Value.agg #[Value.int IntKind.i64 0, Value.slice none 0 0, Value.slice none 0 0])) := by kernel_rfl
@[simp] theorem eqo62 : E0.eqo 62 = true := by kernel_rfl
@[simp] theorem mrk62 : E0.mark 62 = false := by kernel_rfl
@[simp] theorem und62 : E0.und 62 = some (TypeDesc.struct #[{ name := "N", type := 3, offset := 0, embedded := false, tag := "", pkgPath := "", byteOffset := 0 }, { name := "Defines", type := 27, offset := 1, embedded := false, tag := "", pkgPath := "", byteOffset := 8 }, { name := "Mentions", type := 27, offset := 2, embedded := false, tag := "", pkgPath := "", byteOffset := 32 }]) := by kernel_rfl
@[simp] theorem siz62 : E0.siz 62 = some 3 := by kernel_rfl
@[simp] theorem byt62 : E0.byt 62 = some 56 := by kernel_rfl
@[simp] theorem zer62 : zeroD E0 62 = some ((Value.agg #[Value.int IntKind.i64 0, Value.slice none 0 0, Value.slice none 0 0])) := by kernel_rfl
@[simp] theorem eqo63 : E0.eqo 63 = false := by kernel_rfl
@[simp] theorem mrk63 : E0.mark 63 = false := by kernel_rfl
@[simp] theorem und63 : E0.und 63 = some (TypeDesc.func #[27] #[27] false) := by kernel_rfl
@[simp] theorem siz63 : E0.siz 63 = some 1 := by kernel_rfl
@[simp] theorem byt63 : E0.byt 63 = some 8 := by kernel_rfl
@[simp] theorem zer63 : zeroD E0 63 = some (Value.nilFunc) := by kernel_rfl
@[simp] theorem eqo64 : E0.eqo 64 = false := by kernel_rfl
@[simp] theorem mrk64 : E0.mark 64 = false := by kernel_rfl
@[simp] theorem und64 : E0.und 64 = some (TypeDesc.map 9 4) := by kernel_rfl
@[simp] theorem siz64 : E0.siz 64 = some 1 := by kernel_rfl
@[simp] theorem byt64 : E0.byt 64 = some 8 := by kernel_rfl
@[simp] theorem zer64 : zeroD E0 64 = some ((Value.map none)) := by kernel_rfl
@[simp] theorem eqo65 : E0.eqo 65 = false := by kernel_rfl
@[simp] theorem mrk65 : E0.mark 65 = false := by kernel_rfl
@[simp] theorem und65 : E0.und 65 = some (TypeDesc.func #[27] #[] false) := by kernel_rfl
@[simp] theorem siz65 : E0.siz 65 = some 1 := by kernel_rfl
@[simp] theorem byt65 : E0.byt 65 = some 8 := by kernel_rfl
@[simp] theorem zer65 : zeroD E0 65 = some (Value.nilFunc) := by kernel_rfl
@[simp] theorem eqo66 : E0.eqo 66 = true := by kernel_rfl
@[simp] theorem mrk66 : E0.mark 66 = false := by kernel_rfl
@[simp] theorem und66 : E0.und 66 = some (TypeDesc.struct #[{ name := "defines", type := 27, offset := 0, embedded := false, tag := "", pkgPath := "indenture/index", byteOffset := 0 }, { name := "mentions", type := 27, offset := 1, embedded := false, tag := "", pkgPath := "indenture/index", byteOffset := 24 }]) := by kernel_rfl
@[simp] theorem siz66 : E0.siz 66 = some 2 := by kernel_rfl
@[simp] theorem byt66 : E0.byt 66 = some 48 := by kernel_rfl
@[simp] theorem zer66 : zeroD E0 66 = some ((Value.agg #[Value.slice none 0 0, Value.slice none 0 0])) := by kernel_rfl
@[simp] theorem eqo67 : E0.eqo 67 = true := by kernel_rfl
@[simp] theorem mrk67 : E0.mark 67 = false := by kernel_rfl
@[simp] theorem und67 : E0.und 67 = some (TypeDesc.struct #[{ name := "defines", type := 27, offset := 0, embedded := false, tag := "", pkgPath := "indenture/index", byteOffset := 0 }, { name := "mentions", type := 27, offset := 1, embedded := false, tag := "", pkgPath := "indenture/index", byteOffset := 24 }]) := by kernel_rfl
@[simp] theorem siz67 : E0.siz 67 = some 2 := by kernel_rfl
@[simp] theorem byt67 : E0.byt 67 = some 48 := by kernel_rfl
@[simp] theorem zer67 : zeroD E0 67 = some ((Value.agg #[Value.slice none 0 0, Value.slice none 0 0])) := by kernel_rfl
@[simp] theorem eqo68 : E0.eqo 68 = true := by kernel_rfl
@[simp] theorem mrk68 : E0.mark 68 = false := by kernel_rfl
@[simp] theorem und68 : E0.und 68 = some (TypeDesc.struct #[{ name := "label", type := 9, offset := 0, embedded := false, tag := "", pkgPath := "indenture/index", byteOffset := 0 }, { name := "n", type := 3, offset := 1, embedded := false, tag := "", pkgPath := "indenture/index", byteOffset := 16 }]) := by kernel_rfl
@[simp] theorem siz68 : E0.siz 68 = some 2 := by kernel_rfl
@[simp] theorem byt68 : E0.byt 68 = some 24 := by kernel_rfl
@[simp] theorem zer68 : zeroD E0 68 = some ((Value.agg #[Value.string { data := #[] }, Value.int IntKind.i64 0])) := by kernel_rfl
@[simp] theorem eqo69 : E0.eqo 69 = true := by kernel_rfl
@[simp] theorem mrk69 : E0.mark 69 = false := by kernel_rfl
@[simp] theorem und69 : E0.und 69 = some (TypeDesc.struct #[{ name := "label", type := 9, offset := 0, embedded := false, tag := "", pkgPath := "indenture/index", byteOffset := 0 }, { name := "n", type := 3, offset := 1, embedded := false, tag := "", pkgPath := "indenture/index", byteOffset := 16 }]) := by kernel_rfl
@[simp] theorem siz69 : E0.siz 69 = some 2 := by kernel_rfl
@[simp] theorem byt69 : E0.byt 69 = some 24 := by kernel_rfl
@[simp] theorem zer69 : zeroD E0 69 = some ((Value.agg #[Value.string { data := #[] }, Value.int IntKind.i64 0])) := by kernel_rfl
@[simp] theorem eqo70 : E0.eqo 70 = false := by kernel_rfl
@[simp] theorem mrk70 : E0.mark 70 = false := by kernel_rfl
@[simp] theorem und70 : E0.und 70 = some (TypeDesc.func #[46] #[] false) := by kernel_rfl
@[simp] theorem siz70 : E0.siz 70 = some 1 := by kernel_rfl
@[simp] theorem byt70 : E0.byt 70 = some 8 := by kernel_rfl
@[simp] theorem zer70 : zeroD E0 70 = some (Value.nilFunc) := by kernel_rfl
@[simp] theorem eqo71 : E0.eqo 71 = false := by kernel_rfl
@[simp] theorem mrk71 : E0.mark 71 = false := by kernel_rfl
@[simp] theorem und71 : E0.und 71 = some (TypeDesc.func #[9] #[4] false) := by kernel_rfl
@[simp] theorem siz71 : E0.siz 71 = some 1 := by kernel_rfl
@[simp] theorem byt71 : E0.byt 71 = some 8 := by kernel_rfl
@[simp] theorem zer71 : zeroD E0 71 = some (Value.nilFunc) := by kernel_rfl
@[simp] theorem eqo72 : E0.eqo 72 = false := by kernel_rfl
@[simp] theorem mrk72 : E0.mark 72 = false := by kernel_rfl
@[simp] theorem und72 : E0.und 72 = some (TypeDesc.func #[27] #[59] false) := by kernel_rfl
@[simp] theorem siz72 : E0.siz 72 = some 1 := by kernel_rfl
@[simp] theorem byt72 : E0.byt 72 = some 8 := by kernel_rfl
@[simp] theorem zer72 : zeroD E0 72 = some (Value.nilFunc) := by kernel_rfl
@[simp] theorem eqo73 : E0.eqo 73 = false := by kernel_rfl
@[simp] theorem mrk73 : E0.mark 73 = false := by kernel_rfl
@[simp] theorem und73 : E0.und 73 = some (TypeDesc.func #[46, 3, 3, 3] #[] false) := by kernel_rfl
@[simp] theorem siz73 : E0.siz 73 = some 1 := by kernel_rfl
@[simp] theorem byt73 : E0.byt 73 = some 8 := by kernel_rfl
@[simp] theorem zer73 : zeroD E0 73 = some (Value.nilFunc) := by kernel_rfl
@[simp] theorem eqo74 : E0.eqo 74 = false := by kernel_rfl
@[simp] theorem mrk74 : E0.mark 74 = false := by kernel_rfl
@[simp] theorem und74 : E0.und 74 = some (TypeDesc.func #[75] #[3] false) := by kernel_rfl
@[simp] theorem siz74 : E0.siz 74 = some 1 := by kernel_rfl
@[simp] theorem byt74 : E0.byt 74 = some 8 := by kernel_rfl
@[simp] theorem zer74 : zeroD E0 74 = some (Value.nilFunc) := by kernel_rfl
@[simp] theorem eqo75 : E0.eqo 75 = false := by kernel_rfl
@[simp] theorem mrk75 : E0.mark 75 = false := by kernel_rfl
@[simp] theorem und75 : E0.und 75 = some (TypeDesc.int IntKind.u64) := by kernel_rfl
@[simp] theorem siz75 : E0.siz 75 = some 1 := by kernel_rfl
@[simp] theorem byt75 : E0.byt 75 = some 8 := by kernel_rfl
@[simp] theorem zer75 : zeroD E0 75 = some ((Value.int IntKind.u64 0)) := by kernel_rfl
@[simp] theorem eqo76 : E0.eqo 76 = false := by kernel_rfl
@[simp] theorem mrk76 : E0.mark 76 = false := by kernel_rfl
@[simp] theorem und76 : E0.und 76 = some (TypeDesc.func #[27, 59] #[27] false) := by kernel_rfl
@[simp] theorem siz76 : E0.siz 76 = some 1 := by kernel_rfl
@[simp] theorem byt76 : E0.byt 76 = some 8 := by kernel_rfl
@[simp] theorem zer76 : zeroD E0 76 = some (Value.nilFunc) := by kernel_rfl
@[simp] theorem eqo77 : E0.eqo 77 = false := by kernel_rfl
@[simp] theorem mrk77 : E0.mark 77 = false := by kernel_rfl
@[simp] theorem und77 : E0.und 77 = some (TypeDesc.func #[27, 3, 3, 3] #[] false) := by kernel_rfl
@[simp] theorem siz77 : E0.siz 77 = some 1 := by kernel_rfl
@[simp] theorem byt77 : E0.byt 77 = some 8 := by kernel_rfl
@[simp] theorem zer77 : zeroD E0 77 = some (Value.nilFunc) := by kernel_rfl
@[simp] theorem eqo78 : E0.eqo 78 = false := by kernel_rfl
@[simp] theorem mrk78 : E0.mark 78 = false := by kernel_rfl
@[simp] theorem und78 : E0.und 78 = some (TypeDesc.func #[46, 3, 3] #[] false) := by kernel_rfl
@[simp] theorem siz78 : E0.siz 78 = some 1 := by kernel_rfl
@[simp] theorem byt78 : E0.byt 78 = some 8 := by kernel_rfl
@[simp] theorem zer78 : zeroD E0 78 = some (Value.nilFunc) := by kernel_rfl
@[simp] theorem eqo79 : E0.eqo 79 = false := by kernel_rfl
@[simp] theorem mrk79 : E0.mark 79 = false := by kernel_rfl
@[simp] theorem und79 : E0.und 79 = some (TypeDesc.int IntKind.i64) := by kernel_rfl
@[simp] theorem siz79 : E0.siz 79 = some 1 := by kernel_rfl
@[simp] theorem byt79 : E0.byt 79 = some 8 := by kernel_rfl
@[simp] theorem zer79 : zeroD E0 79 = some ((Value.int IntKind.i64 0)) := by kernel_rfl
@[simp] theorem eqo80 : E0.eqo 80 = false := by kernel_rfl
@[simp] theorem mrk80 : E0.mark 80 = false := by kernel_rfl
@[simp] theorem und80 : E0.und 80 = some (TypeDesc.tuple #[3, 79]) := by kernel_rfl
@[simp] theorem siz80 : E0.siz 80 = some 1 := by kernel_rfl
@[simp] theorem byt80 : E0.byt 80 = some 0 := by kernel_rfl
@[simp] theorem eqo81 : E0.eqo 81 = false := by kernel_rfl
@[simp] theorem mrk81 : E0.mark 81 = false := by kernel_rfl
@[simp] theorem und81 : E0.und 81 = some (TypeDesc.func #[46, 3, 3] #[3, 79] false) := by kernel_rfl
@[simp] theorem siz81 : E0.siz 81 = some 1 := by kernel_rfl
@[simp] theorem byt81 : E0.byt 81 = some 8 := by kernel_rfl
@[simp] theorem zer81 : zeroD E0 81 = some (Value.nilFunc) := by kernel_rfl
@[simp] theorem eqo82 : E0.eqo 82 = false := by kernel_rfl
@[simp] theorem mrk82 : E0.mark 82 = false := by kernel_rfl
@[simp] theorem und82 : E0.und 82 = some (TypeDesc.func #[46, 3, 3] #[4] false) := by kernel_rfl
@[simp] theorem siz82 : E0.siz 82 = some 1 := by kernel_rfl
@[simp] theorem byt82 : E0.byt 82 = some 8 := by kernel_rfl
@[simp] theorem zer82 : zeroD E0 82 = some (Value.nilFunc) := by kernel_rfl
@[simp] theorem eqo83 : E0.eqo 83 = false := by kernel_rfl
@[simp] theorem mrk83 : E0.mark 83 = false := by kernel_rfl
@[simp] theorem und83 : E0.und 83 = some (TypeDesc.func #[3, 3] #[4] false) := by kernel_rfl
@[simp] theorem siz83 : E0.siz 83 = some 1 := by kernel_rfl
@[simp] theorem byt83 : E0.byt 83 = some 8 := by kernel_rfl
@[simp] theorem zer83 : zeroD E0 83 = some (Value.nilFunc) := by kernel_rfl
@[simp] theorem eqo84 : E0.eqo 84 = false := by kernel_rfl
@[simp] theorem mrk84 : E0.mark 84 = false := by kernel_rfl
@[simp] theorem und84 : E0.und 84 = some (TypeDesc.func #[46, 3, 3, 3] #[3] false) := by kernel_rfl
@[simp] theorem siz84 : E0.siz 84 = some 1 := by kernel_rfl
@[simp] theorem byt84 : E0.byt 84 = some 8 := by kernel_rfl
@[simp] theorem zer84 : zeroD E0 84 = some (Value.nilFunc) := by kernel_rfl
@[simp] theorem eqo85 : E0.eqo 85 = false := by kernel_rfl
@[simp] theorem mrk85 : E0.mark 85 = false := by kernel_rfl
@[simp] theorem und85 : E0.und 85 = some (TypeDesc.tuple #[3, 4]) := by kernel_rfl
@[simp] theorem siz85 : E0.siz 85 = some 1 := by kernel_rfl
@[simp] theorem byt85 : E0.byt 85 = some 0 := by kernel_rfl
@[simp] theorem eqo86 : E0.eqo 86 = false := by kernel_rfl
@[simp] theorem mrk86 : E0.mark 86 = false := by kernel_rfl
@[simp] theorem und86 : E0.und 86 = some (TypeDesc.func #[46, 3, 3, 3] #[3, 4] false) := by kernel_rfl
@[simp] theorem siz86 : E0.siz 86 = some 1 := by kernel_rfl
@[simp] theorem byt86 : E0.byt 86 = some 8 := by kernel_rfl
@[simp] theorem zer86 : zeroD E0 86 = some (Value.nilFunc) := by kernel_rfl
@[simp] theorem eqo87 : E0.eqo 87 = false := by kernel_rfl
@[simp] theorem mrk87 : E0.mark 87 = false := by kernel_rfl
@[simp] theorem und87 : E0.und 87 = some (TypeDesc.func #[88] #[3] false) := by kernel_rfl
@[simp] theorem siz87 : E0.siz 87 = some 1 := by kernel_rfl
@[simp] theorem byt87 : E0.byt 87 = some 8 := by kernel_rfl
@[simp] theorem zer87 : zeroD E0 87 = some (Value.nilFunc) := by kernel_rfl
@[simp] theorem eqo88 : E0.eqo 88 = false := by kernel_rfl
@[simp] theorem mrk88 : E0.mark 88 = false := by kernel_rfl
@[simp] theorem und88 : E0.und 88 = some (TypeDesc.int IntKind.u32) := by kernel_rfl
@[simp] theorem siz88 : E0.siz 88 = some 1 := by kernel_rfl
@[simp] theorem byt88 : E0.byt 88 = some 4 := by kernel_rfl
@[simp] theorem zer88 : zeroD E0 88 = some ((Value.int IntKind.u32 0)) := by kernel_rfl
@[simp] theorem eqo89 : E0.eqo 89 = false := by kernel_rfl
@[simp] theorem mrk89 : E0.mark 89 = false := by kernel_rfl
@[simp] theorem und89 : E0.und 89 = some (TypeDesc.func #[90] #[3] false) := by kernel_rfl
@[simp] theorem siz89 : E0.siz 89 = some 1 := by kernel_rfl
@[simp] theorem byt89 : E0.byt 89 = some 8 := by kernel_rfl
@[simp] theorem zer89 : zeroD E0 89 = some (Value.nilFunc) := by kernel_rfl
@[simp] theorem eqo90 : E0.eqo 90 = false := by kernel_rfl
@[simp] theorem mrk90 : E0.mark 90 = false := by kernel_rfl
@[simp] theorem und90 : E0.und 90 = some (TypeDesc.int IntKind.u64) := by kernel_rfl
@[simp] theorem siz90 : E0.siz 90 = some 1 := by kernel_rfl
@[simp] theorem byt90 : E0.byt 90 = some 8 := by kernel_rfl
@[simp] theorem zer90 : zeroD E0 90 = some ((Value.int IntKind.u64 0)) := by kernel_rfl
@[simp] theorem eqo91 : E0.eqo 91 = false := by kernel_rfl
@[simp] theorem mrk91 : E0.mark 91 = false := by kernel_rfl
@[simp] theorem und91 : E0.und 91 = some (TypeDesc.func #[27, 3, 3] #[] false) := by kernel_rfl
@[simp] theorem siz91 : E0.siz 91 = some 1 := by kernel_rfl
@[simp] theorem byt91 : E0.byt 91 = some 8 := by kernel_rfl
@[simp] theorem zer91 : zeroD E0 91 = some (Value.nilFunc) := by kernel_rfl
@[simp] theorem eqo92 : E0.eqo 92 = false := by kernel_rfl
@[simp] theorem mrk92 : E0.mark 92 = false := by kernel_rfl
@[simp] theorem und92 : E0.und 92 = some (TypeDesc.func #[27, 3, 3] #[3, 79] false) := by kernel_rfl
@[simp] theorem siz92 : E0.siz 92 = some 1 := by kernel_rfl
@[simp] theorem byt92 : E0.byt 92 = some 8 := by kernel_rfl
@[simp] theorem zer92 : zeroD E0 92 = some (Value.nilFunc) := by kernel_rfl
@[simp] theorem eqo93 : E0.eqo 93 = false := by kernel_rfl
@[simp] theorem mrk93 : E0.mark 93 = false := by kernel_rfl
@[simp] theorem und93 : E0.und 93 = some (TypeDesc.func #[27, 3, 3] #[4] false) := by kernel_rfl
@[simp] theorem siz93 : E0.siz 93 = some 1 := by kernel_rfl
@[simp] theorem byt93 : E0.byt 93 = some 8 := by kernel_rfl
@[simp] theorem zer93 : zeroD E0 93 = some (Value.nilFunc) := by kernel_rfl
@[simp] theorem eqo94 : E0.eqo 94 = false := by kernel_rfl
@[simp] theorem mrk94 : E0.mark 94 = false := by kernel_rfl
@[simp] theorem und94 : E0.und 94 = some (TypeDesc.func #[9, 9] #[4] false) := by kernel_rfl
@[simp] theorem siz94 : E0.siz 94 = some 1 := by kernel_rfl
@[simp] theorem byt94 : E0.byt 94 = some 8 := by kernel_rfl
@[simp] theorem zer94 : zeroD E0 94 = some (Value.nilFunc) := by kernel_rfl
@[simp] theorem eqo95 : E0.eqo 95 = false := by kernel_rfl
@[simp] theorem mrk95 : E0.mark 95 = false := by kernel_rfl
@[simp] theorem und95 : E0.und 95 = some (TypeDesc.func #[27, 3, 3, 3] #[3] false) := by kernel_rfl
@[simp] theorem siz95 : E0.siz 95 = some 1 := by kernel_rfl
@[simp] theorem byt95 : E0.byt 95 = some 8 := by kernel_rfl
@[simp] theorem zer95 : zeroD E0 95 = some (Value.nilFunc) := by kernel_rfl
@[simp] theorem eqo96 : E0.eqo 96 = false := by kernel_rfl
@[simp] theorem mrk96 : E0.mark 96 = false := by kernel_rfl
@[simp] theorem und96 : E0.und 96 = some (TypeDesc.func #[27, 3, 3, 3] #[3, 4] false) := by kernel_rfl
@[simp] theorem siz96 : E0.siz 96 = some 1 := by kernel_rfl
@[simp] theorem byt96 : E0.byt 96 = some 8 := by kernel_rfl
@[simp] theorem zer96 : zeroD E0 96 = some (Value.nilFunc) := by kernel_rfl
@[simp] theorem eqo97 : E0.eqo 97 = false := by kernel_rfl
@[simp] theorem mrk97 : E0.mark 97 = false := by kernel_rfl
@[simp] theorem und97 : E0.und 97 = some (TypeDesc.int IntKind.u64) := by kernel_rfl
@[simp] theorem siz97 : E0.siz 97 = some 1 := by kernel_rfl
@[simp] theorem byt97 : E0.byt 97 = some 8 := by kernel_rfl
@[simp] theorem zer97 : zeroD E0 97 = some ((Value.int IntKind.u64 0)) := by kernel_rfl
@[simp] theorem eqo98 : E0.eqo 98 = false := by kernel_rfl
@[simp] theorem mrk98 : E0.mark 98 = false := by kernel_rfl
@[simp] theorem und98 : E0.und 98 = some (TypeDesc.func #[3] #[75] false) := by kernel_rfl
@[simp] theorem siz98 : E0.siz 98 = some 1 := by kernel_rfl
@[simp] theorem byt98 : E0.byt 98 = some 8 := by kernel_rfl
@[simp] theorem zer98 : zeroD E0 98 = some (Value.nilFunc) := by kernel_rfl
@[simp] theorem eqo99 : E0.eqo 99 = false := by kernel_rfl
@[simp] theorem mrk99 : E0.mark 99 = false := by kernel_rfl
@[simp] theorem und99 : E0.und 99 = some (TypeDesc.func #[] #[90] false) := by kernel_rfl
@[simp] theorem siz99 : E0.siz 99 = some 1 := by kernel_rfl
@[simp] theorem byt99 : E0.byt 99 = some 8 := by kernel_rfl
@[simp] theorem zer99 : zeroD E0 99 = some (Value.nilFunc) := by kernel_rfl
@[simp] theorem eqo100 : E0.eqo 100 = false := by kernel_rfl
@[simp] theorem mrk100 : E0.mark 100 = false := by kernel_rfl
@[simp] theorem und100 : E0.und 100 = some (TypeDesc.func #[46, 3, 101] #[3] false) := by kernel_rfl
@[simp] theorem siz100 : E0.siz 100 = some 1 := by kernel_rfl
@[simp] theorem byt100 : E0.byt 100 = some 8 := by kernel_rfl
@[simp] theorem zer100 : zeroD E0 100 = some (Value.nilFunc) := by kernel_rfl
@[simp] theorem eqo101 : E0.eqo 101 = false := by kernel_rfl
@[simp] theorem mrk101 : E0.mark 101 = false := by kernel_rfl
@[simp] theorem und101 : E0.und 101 = some (TypeDesc.pointer 3) := by kernel_rfl
@[simp] theorem siz101 : E0.siz 101 = some 1 := by kernel_rfl
@[simp] theorem byt101 : E0.byt 101 = some 8 := by kernel_rfl
@[simp] theorem zer101 : zeroD E0 101 = some ((Value.pointer none)) := by kernel_rfl
@[simp] theorem eqo102 : E0.eqo 102 = false := by kernel_rfl
@[simp] theorem mrk102 : E0.mark 102 = false := by kernel_rfl
@[simp] theorem und102 : E0.und 102 = some (TypeDesc.func #[46, 3, 3, 3, 101] #[3] false) := by kernel_rfl
@[simp] theorem siz102 : E0.siz 102 = some 1 := by kernel_rfl
@[simp] theorem byt102 : E0.byt 102 = some 8 := by kernel_rfl
@[simp] theorem zer102 : zeroD E0 102 = some (Value.nilFunc) := by kernel_rfl
@[simp] theorem eqo103 : E0.eqo 103 = false := by kernel_rfl
@[simp] theorem mrk103 : E0.mark 103 = false := by kernel_rfl
@[simp] theorem und103 : E0.und 103 = some (TypeDesc.func #[3] #[4] false) := by kernel_rfl
@[simp] theorem siz103 : E0.siz 103 = some 1 := by kernel_rfl
@[simp] theorem byt103 : E0.byt 103 = some 8 := by kernel_rfl
@[simp] theorem zer103 : zeroD E0 103 = some (Value.nilFunc) := by kernel_rfl
@[simp] theorem eqo104 : E0.eqo 104 = false := by kernel_rfl
@[simp] theorem mrk104 : E0.mark 104 = false := by kernel_rfl
@[simp] theorem und104 : E0.und 104 = some (TypeDesc.func #[27, 3, 101] #[3] false) := by kernel_rfl
@[simp] theorem siz104 : E0.siz 104 = some 1 := by kernel_rfl
@[simp] theorem byt104 : E0.byt 104 = some 8 := by kernel_rfl
@[simp] theorem zer104 : zeroD E0 104 = some (Value.nilFunc) := by kernel_rfl
@[simp] theorem eqo105 : E0.eqo 105 = false := by kernel_rfl
@[simp] theorem mrk105 : E0.mark 105 = false := by kernel_rfl
@[simp] theorem und105 : E0.und 105 = some (TypeDesc.func #[27, 3, 3, 3, 101] #[3] false) := by kernel_rfl
@[simp] theorem siz105 : E0.siz 105 = some 1 := by kernel_rfl
@[simp] theorem byt105 : E0.byt 105 = some 8 := by kernel_rfl
@[simp] theorem zer105 : zeroD E0 105 = some (Value.nilFunc) := by kernel_rfl
@[simp] theorem eqo106 : E0.eqo 106 = false := by kernel_rfl
@[simp] theorem mrk106 : E0.mark 106 = false := by kernel_rfl
@[simp] theorem und106 : E0.und 106 = some (TypeDesc.pointer 97) := by kernel_rfl
@[simp] theorem siz106 : E0.siz 106 = some 1 := by kernel_rfl
@[simp] theorem byt106 : E0.byt 106 = some 8 := by kernel_rfl
@[simp] theorem zer106 : zeroD E0 106 = some ((Value.pointer none)) := by kernel_rfl
@[simp] theorem eqo107 : E0.eqo 107 = false := by kernel_rfl
@[simp] theorem mrk107 : E0.mark 107 = false := by kernel_rfl
@[simp] theorem und107 : E0.und 107 = some (TypeDesc.tuple #[3, 3]) := by kernel_rfl
@[simp] theorem siz107 : E0.siz 107 = some 1 := by kernel_rfl
@[simp] theorem byt107 : E0.byt 107 = some 0 := by kernel_rfl
@[simp] theorem eqo108 : E0.eqo 108 = false := by kernel_rfl
@[simp] theorem mrk108 : E0.mark 108 = false := by kernel_rfl
@[simp] theorem und108 : E0.und 108 = some (TypeDesc.func #[46, 3, 3, 101] #[3, 3] false) := by kernel_rfl
@[simp] theorem siz108 : E0.siz 108 = some 1 := by kernel_rfl
@[simp] theorem byt108 : E0.byt 108 = some 8 := by kernel_rfl
@[simp] theorem zer108 : zeroD E0 108 = some (Value.nilFunc) := by kernel_rfl
@[simp] theorem eqo109 : E0.eqo 109 = false := by kernel_rfl
@[simp] theorem mrk109 : E0.mark 109 = false := by kernel_rfl
@[simp] theorem und109 : E0.und 109 = some (TypeDesc.func #[27, 3, 3, 101] #[3, 3] false) := by kernel_rfl
@[simp] theorem siz109 : E0.siz 109 = some 1 := by kernel_rfl
@[simp] theorem byt109 : E0.byt 109 = some 8 := by kernel_rfl
@[simp] theorem zer109 : zeroD E0 109 = some (Value.nilFunc) := by kernel_rfl
@[simp] theorem eqo110 : E0.eqo 110 = false := by kernel_rfl
@[simp] theorem mrk110 : E0.mark 110 = false := by kernel_rfl
@[simp] theorem und110 : E0.und 110 = some (TypeDesc.func #[] #[9] false) := by kernel_rfl
@[simp] theorem siz110 : E0.siz 110 = some 1 := by kernel_rfl
@[simp] theorem byt110 : E0.byt 110 = some 8 := by kernel_rfl
@[simp] theorem zer110 : zeroD E0 110 = some (Value.nilFunc) := by kernel_rfl
@[simp] theorem eqo111 : E0.eqo 111 = false := by kernel_rfl
@[simp] theorem mrk111 : E0.mark 111 = false := by kernel_rfl
@[simp] theorem und111 : E0.und 111 = some (TypeDesc.struct #[{ name := "_interface", type := 17, offset := 0, embedded := false, tag := "", pkgPath := "runtime", byteOffset := 0 }, { name := "concrete", type := 17, offset := 1, embedded := false, tag := "", pkgPath := "runtime", byteOffset := 8 }, { name := "asserted", type := 17, offset := 2, embedded := false, tag := "", pkgPath := "runtime", byteOffset := 16 }, { name := "missingMethod", type := 9, offset := 3, embedded := false, tag := "", pkgPath := "runtime", byteOffset := 24 }]) := by kernel_rfl
@[simp] theorem siz111 : E0.siz 111 = some 4 := by kernel_rfl
@[simp] theorem byt111 : E0.byt 111 = some 40 := by kernel_rfl
@[simp] theorem zer111 : zeroD E0 111 = some ((Value.agg #[Value.pointer none, Value.pointer none, Value.pointer none, Value.string { data := #[] }])) := by kernel_rfl
@[simp] theorem eqo112 : E0.eqo 112 = false := by kernel_rfl
@[simp] theorem mrk112 : E0.mark 112 = false := by kernel_rfl
@[simp] theorem und112 : E0.und 112 = some (TypeDesc.struct #[{ name := "_interface", type := 17, offset := 0, embedded := false, tag := "", pkgPath := "runtime", byteOffset := 0 }, { name := "concrete", type := 17, offset := 1, embedded := false, tag := "", pkgPath := "runtime", byteOffset := 8 }, { name := "asserted", type := 17, offset := 2, embedded := false, tag := "", pkgPath := "runtime", byteOffset := 16 }, { name := "missingMethod", type := 9, offset := 3, embedded := false, tag := "", pkgPath := "runtime", byteOffset := 24 }]) := by kernel_rfl
@[simp] theorem siz112 : E0.siz 112 = some 4 := by kernel_rfl
@[simp] theorem byt112 : E0.byt 112 = some 40 := by kernel_rfl
@[simp] theorem zer112 : zeroD E0 112 = some ((Value.agg #[Value.pointer none, Value.pointer none, Value.pointer none, Value.string { data := #[] }])) := by kernel_rfl
@[simp] theorem eqo113 : E0.eqo 113 = true := by kernel_rfl
@[simp] theorem mrk113 : E0.mark 113 = false := by kernel_rfl
@[simp] theorem und113 : E0.und 113 = some (TypeDesc.array 0 16) := by kernel_rfl
@[simp] theorem siz113 : E0.siz 113 = some 0 := by kernel_rfl
@[simp] theorem byt113 : E0.byt 113 = some 0 := by kernel_rfl
@[simp] theorem zer113 : zeroD E0 113 = some ((Value.agg #[])) := by kernel_rfl
@[simp] theorem eqo114 : E0.eqo 114 = false := by kernel_rfl
@[simp] theorem mrk114 : E0.mark 114 = false := by kernel_rfl
@[simp] theorem und114 : E0.und 114 = some (TypeDesc.struct #[{ name := "_", type := 113, offset := 0, embedded := false, tag := "", pkgPath := "runtime", byteOffset := 0 }]) := by kernel_rfl
@[simp] theorem siz114 : E0.siz 114 = some 0 := by kernel_rfl
@[simp] theorem byt114 : E0.byt 114 = some 0 := by kernel_rfl
@[simp] theorem zer114 : zeroD E0 114 = some ((Value.agg #[])) := by kernel_rfl
@[simp] theorem eqo115 : E0.eqo 115 = false := by kernel_rfl
@[simp] theorem mrk115 : E0.mark 115 = false := by kernel_rfl
@[simp] theorem und115 : E0.und 115 = some (TypeDesc.struct #[{ name := "_", type := 113, offset := 0, embedded := false, tag := "", pkgPath := "runtime", byteOffset := 0 }]) := by kernel_rfl
@[simp] theorem siz115 : E0.siz 115 = some 0 := by kernel_rfl
@[simp] theorem byt115 : E0.byt 115 = some 0 := by kernel_rfl
@[simp] theorem zer115 : zeroD E0 115 = some ((Value.agg #[])) := by kernel_rfl
@[simp] theorem eqo116 : E0.eqo 116 = false := by kernel_rfl
@[simp] theorem mrk116 : E0.mark 116 = false := by kernel_rfl
@[simp] theorem und116 : E0.und 116 = some (TypeDesc.int IntKind.u8) := by kernel_rfl
@[simp] theorem siz116 : E0.siz 116 = some 1 := by kernel_rfl
@[simp] theorem byt116 : E0.byt 116 = some 1 := by kernel_rfl
@[simp] theorem zer116 : zeroD E0 116 = some ((Value.int IntKind.u8 0)) := by kernel_rfl
@[simp] theorem eqo117 : E0.eqo 117 = false := by kernel_rfl
@[simp] theorem mrk117 : E0.mark 117 = false := by kernel_rfl
@[simp] theorem und117 : E0.und 117 = some (TypeDesc.int IntKind.u8) := by kernel_rfl
@[simp] theorem siz117 : E0.siz 117 = some 1 := by kernel_rfl
@[simp] theorem byt117 : E0.byt 117 = some 1 := by kernel_rfl
@[simp] theorem zer117 : zeroD E0 117 = some ((Value.int IntKind.u8 0)) := by kernel_rfl
@[simp] theorem eqo118 : E0.eqo 118 = false := by kernel_rfl
@[simp] theorem mrk118 : E0.mark 118 = false := by kernel_rfl
@[simp] theorem und118 : E0.und 118 = some (TypeDesc.func #[124, 124] #[4] false) := by kernel_rfl
@[simp] theorem siz118 : E0.siz 118 = some 1 := by kernel_rfl
@[simp] theorem byt118 : E0.byt 118 = some 8 := by kernel_rfl
@[simp] theorem zer118 : zeroD E0 118 = some (Value.nilFunc) := by kernel_rfl
@[simp] theorem eqo119 : E0.eqo 119 = false := by kernel_rfl
@[simp] theorem mrk119 : E0.mark 119 = false := by kernel_rfl
@[simp] theorem und119 : E0.und 119 = some (TypeDesc.pointer 5) := by kernel_rfl
@[simp] theorem siz119 : E0.siz 119 = some 1 := by kernel_rfl
@[simp] theorem byt119 : E0.byt 119 = some 8 := by kernel_rfl
@[simp] theorem zer119 : zeroD E0 119 = some ((Value.pointer none)) := by kernel_rfl
@[simp] theorem eqo120 : E0.eqo 120 = false := by kernel_rfl
@[simp] theorem mrk120 : E0.mark 120 = false := by kernel_rfl
@[simp] theorem und120 : E0.und 120 = some (TypeDesc.int IntKind.i32) := by kernel_rfl
@[simp] theorem siz120 : E0.siz 120 = some 1 := by kernel_rfl
@[simp] theorem byt120 : E0.byt 120 = some 4 := by kernel_rfl
@[simp] theorem zer120 : zeroD E0 120 = some ((Value.int IntKind.i32 0)) := by kernel_rfl
@[simp] theorem eqo121 : E0.eqo 121 = false := by kernel_rfl
@[simp] theorem mrk121 : E0.mark 121 = false := by kernel_rfl
@[simp] theorem und121 : E0.und 121 = some (TypeDesc.int IntKind.i32) := by kernel_rfl
@[simp] theorem siz121 : E0.siz 121 = some 1 := by kernel_rfl
@[simp] theorem byt121 : E0.byt 121 = some 4 := by kernel_rfl
@[simp] theorem zer121 : zeroD E0 121 = some ((Value.int IntKind.i32 0)) := by kernel_rfl
@[simp] theorem eqo122 : E0.eqo 122 = false := by kernel_rfl
@[simp] theorem mrk122 : E0.mark 122 = false := by kernel_rfl
@[simp] theorem und122 : E0.und 122 = some (TypeDesc.struct #[{ name := "Size_", type := 12, offset := 0, embedded := false, tag := "", pkgPath := "", byteOffset := 0 }, { name := "PtrBytes", type := 12, offset := 1, embedded := false, tag := "", pkgPath := "", byteOffset := 8 }, { name := "Hash", type := 88, offset := 2, embedded := false, tag := "", pkgPath := "", byteOffset := 16 }, { name := "TFlag", type := 116, offset := 3, embedded := false, tag := "", pkgPath := "", byteOffset := 20 }, { name := "Align_", type := 5, offset := 4, embedded := false, tag := "", pkgPath := "", byteOffset := 21 }, { name := "FieldAlign_", type := 5, offset := 5, embedded := false, tag := "", pkgPath := "", byteOffset := 22 }, { name := "Kind_", type := 117, offset := 6, embedded := false, tag := "", pkgPath := "", byteOffset := 23 }, { name := "Equal", type := 118, offset := 7, embedded := false, tag := "", pkgPath := "", byteOffset := 24 }, { name := "GCData", type := 119, offset := 8, embedded := false, tag := "", pkgPath := "", byteOffset := 32 }, { name := "Str", type := 120, offset := 9, embedded := false, tag := "", pkgPath := "", byteOffset := 40 }, { name := "PtrToThis", type := 121, offset := 10, embedded := false, tag := "", pkgPath := "", byteOffset := 44 }]) := by kernel_rfl
@[simp] theorem siz122 : E0.siz 122 = some 11 := by kernel_rfl
@[simp] theorem byt122 : E0.byt 122 = some 48 := by kernel_rfl
@[simp] theorem zer122 : zeroD E0 122 = some ((Value.agg #[Value.int IntKind.u64 0, Value.int IntKind.u64 0, Value.int IntKind.u32 0, Value.int IntKind.u8 0, Value.int IntKind.u8 0, Value.int IntKind.u8 0, Value.int IntKind.u8 0, Value.nilFunc, Value.pointer none, Value.int IntKind.i32 0, Value.int IntKind.i32 0])) := by kernel_rfl
@[simp] theorem eqo123 : E0.eqo 123 = false := by kernel_rfl
@[simp] theorem mrk123 : E0.mark 123 = false := by kernel_rfl
@[simp] theorem und123 : E0.und 123 = some (TypeDesc.struct #[{ name := "Size_", type := 12, offset := 0, embedded := false, tag := "", pkgPath := "", byteOffset := 0 }, { name := "PtrBytes", type := 12, offset := 1, embedded := false, tag := "", pkgPath := "", byteOffset := 8 }, { name := "Hash", type := 88, offset := 2, embedded := false, tag := "", pkgPath := "", byteOffset := 16 }, { name := "TFlag", type := 116, offset := 3, embedded := false, tag := "", pkgPath := "", byteOffset := 20 }, { name := "Align_", type := 5, offset := 4, embedded := false, tag := "", pkgPath := "", byteOffset := 21 }, { name := "FieldAlign_", type := 5, offset := 5, embedded := false, tag := "", pkgPath := "", byteOffset := 22 }, { name := "Kind_", type := 117, offset := 6, embedded := false, tag := "", pkgPath := "", byteOffset := 23 }, { name := "Equal", type := 118, offset := 7, embedded := false, tag := "", pkgPath := "", byteOffset := 24 }, { name := "GCData", type := 119, offset := 8, embedded := false, tag := "", pkgPath := "", byteOffset := 32 }, { name := "Str", type := 120, offset := 9, embedded := false, tag := "", pkgPath := "", byteOffset := 40 }, { name := "PtrToThis", type := 121, offset := 10, embedded := false, tag := "", pkgPath := "", byteOffset := 44 }]) := by kernel_rfl
@[simp] theorem siz123 : E0.siz 123 = some 11 := by kernel_rfl
@[simp] theorem byt123 : E0.byt 123 = some 48 := by kernel_rfl
@[simp] theorem zer123 : zeroD E0 123 = some ((Value.agg #[Value.int IntKind.u64 0, Value.int IntKind.u64 0, Value.int IntKind.u32 0, Value.int IntKind.u8 0, Value.int IntKind.u8 0, Value.int IntKind.u8 0, Value.int IntKind.u8 0, Value.nilFunc, Value.pointer none, Value.int IntKind.i32 0, Value.int IntKind.i32 0])) := by kernel_rfl
@[simp] theorem eqo124 : E0.eqo 124 = false := by kernel_rfl
@[simp] theorem mrk124 : E0.mark 124 = false := by kernel_rfl
@[simp] theorem und124 : E0.und 124 = some TypeDesc.unsafePointer := by kernel_rfl
@[simp] theorem siz124 : E0.siz 124 = some 1 := by kernel_rfl
@[simp] theorem byt124 : E0.byt 124 = some 8 := by kernel_rfl
@[simp] theorem zer124 : zeroD E0 124 = some ((Value.pointer none)) := by kernel_rfl
@[simp] theorem efn3 : E0.fn 3 = some Try.f3 := (show (if fns0.contains 3 = true then Try.prog.funcs[3]? else none) = some Try.f3 from (if_pos (by decide)).trans Try.func3)
theorem okf3 : ∀ b, Try.f3.body = some b → okC E0 0 true Try.f3.ntmps b = true := by
  have h : (match Try.f3.body with | some b => okC E0 0 true Try.f3.ntmps b | none => true) = true := by kernel_rfl
  intro b hb; rw [hb] at h; exact h
theorem nmf3 : (Try.f3.name == "runtime.NumGoroutine") = false := by kernel_rfl
@[simp] theorem efn4 : E0.fn 4 = some Try.f4 := (show (if fns0.contains 4 = true then Try.prog.funcs[4]? else none) = some Try.f4 from (if_pos (by decide)).trans Try.func4)
theorem okf4 : ∀ b, Try.f4.body = some b → okC E0 0 true Try.f4.ntmps b = true := by
  have h : (match Try.f4.body with | some b => okC E0 0 true Try.f4.ntmps b | none => true) = true := by kernel_rfl
  intro b hb; rw [hb] at h; exact h
theorem nmf4 : (Try.f4.name == "runtime.NumGoroutine") = false := by kernel_rfl
@[simp] theorem efn5 : E0.fn 5 = some Try.f5 := (show (if fns0.contains 5 = true then Try.prog.funcs[5]? else none) = some Try.f5 from (if_pos (by decide)).trans Try.func5)
theorem okf5 : ∀ b, Try.f5.body = some b → okC E0 0 true Try.f5.ntmps b = true := by
  have h : (match Try.f5.body with | some b => okC E0 0 true Try.f5.ntmps b | none => true) = true := by kernel_rfl
  intro b hb; rw [hb] at h; exact h
theorem nmf5 : (Try.f5.name == "runtime.NumGoroutine") = false := by kernel_rfl
@[simp] theorem efn6 : E0.fn 6 = some Try.f6 := (show (if fns0.contains 6 = true then Try.prog.funcs[6]? else none) = some Try.f6 from (if_pos (by decide)).trans Try.func6)
theorem okf6 : ∀ b, Try.f6.body = some b → okC E0 0 true Try.f6.ntmps b = true := by
  have h : (match Try.f6.body with | some b => okC E0 0 true Try.f6.ntmps b | none => true) = true := by kernel_rfl
  intro b hb; rw [hb] at h; exact h
theorem nmf6 : (Try.f6.name == "runtime.NumGoroutine") = false := by kernel_rfl
@[simp] theorem efn7 : E0.fn 7 = some Try.f7 := (show (if fns0.contains 7 = true then Try.prog.funcs[7]? else none) = some Try.f7 from (if_pos (by decide)).trans Try.func7)
theorem okf7 : ∀ b, Try.f7.body = some b → okC E0 0 true Try.f7.ntmps b = true := by
  have h : (match Try.f7.body with | some b => okC E0 0 true Try.f7.ntmps b | none => true) = true := by kernel_rfl
  intro b hb; rw [hb] at h; exact h
theorem nmf7 : (Try.f7.name == "runtime.NumGoroutine") = false := by kernel_rfl
@[simp] theorem efn8 : E0.fn 8 = some Try.f8 := (show (if fns0.contains 8 = true then Try.prog.funcs[8]? else none) = some Try.f8 from (if_pos (by decide)).trans Try.func8)
theorem okf8 : ∀ b, Try.f8.body = some b → okC E0 0 true Try.f8.ntmps b = true := by
  have h : (match Try.f8.body with | some b => okC E0 0 true Try.f8.ntmps b | none => true) = true := by kernel_rfl
  intro b hb; rw [hb] at h; exact h
theorem nmf8 : (Try.f8.name == "runtime.NumGoroutine") = false := by kernel_rfl
@[simp] theorem efn9 : E0.fn 9 = some Try.f9 := (show (if fns0.contains 9 = true then Try.prog.funcs[9]? else none) = some Try.f9 from (if_pos (by decide)).trans Try.func9)
theorem okf9 : ∀ b, Try.f9.body = some b → okC E0 0 true Try.f9.ntmps b = true := by
  have h : (match Try.f9.body with | some b => okC E0 0 true Try.f9.ntmps b | none => true) = true := by kernel_rfl
  intro b hb; rw [hb] at h; exact h
theorem nmf9 : (Try.f9.name == "runtime.NumGoroutine") = false := by kernel_rfl
@[simp] theorem efn10 : E0.fn 10 = some Try.f10 := (show (if fns0.contains 10 = true then Try.prog.funcs[10]? else none) = some Try.f10 from (if_pos (by decide)).trans Try.func10)
theorem okf10 : ∀ b, Try.f10.body = some b → okC E0 0 true Try.f10.ntmps b = true := by
  have h : (match Try.f10.body with | some b => okC E0 0 true Try.f10.ntmps b | none => true) = true := by kernel_rfl
  intro b hb; rw [hb] at h; exact h
theorem nmf10 : (Try.f10.name == "runtime.NumGoroutine") = false := by kernel_rfl
@[simp] theorem efn11 : E0.fn 11 = some Try.f11 := (show (if fns0.contains 11 = true then Try.prog.funcs[11]? else none) = some Try.f11 from (if_pos (by decide)).trans Try.func11)
theorem okf11 : ∀ b, Try.f11.body = some b → okC E0 0 true Try.f11.ntmps b = true := by
  have h : (match Try.f11.body with | some b => okC E0 0 true Try.f11.ntmps b | none => true) = true := by kernel_rfl
  intro b hb; rw [hb] at h; exact h
theorem nmf11 : (Try.f11.name == "runtime.NumGoroutine") = false := by kernel_rfl
@[simp] theorem efn12 : E0.fn 12 = some Try.f12 := (show (if fns0.contains 12 = true then Try.prog.funcs[12]? else none) = some Try.f12 from (if_pos (by decide)).trans Try.func12)
theorem okf12 : ∀ b, Try.f12.body = some b → okC E0 0 true Try.f12.ntmps b = true := by
  have h : (match Try.f12.body with | some b => okC E0 0 true Try.f12.ntmps b | none => true) = true := by kernel_rfl
  intro b hb; rw [hb] at h; exact h
theorem nmf12 : (Try.f12.name == "runtime.NumGoroutine") = false := by kernel_rfl
@[simp] theorem efn13 : E0.fn 13 = some Try.f13 := (show (if fns0.contains 13 = true then Try.prog.funcs[13]? else none) = some Try.f13 from (if_pos (by decide)).trans Try.func13)
theorem okf13 : ∀ b, Try.f13.body = some b → okC E0 0 true Try.f13.ntmps b = true := by
  have h : (match Try.f13.body with | some b => okC E0 0 true Try.f13.ntmps b | none => true) = true := by kernel_rfl
  intro b hb; rw [hb] at h; exact h
theorem nmf13 : (Try.f13.name == "runtime.NumGoroutine") = false := by kernel_rfl
@[simp] theorem efn14 : E0.fn 14 = some Try.f14 := (show (if fns0.contains 14 = true then Try.prog.funcs[14]? else none) = some Try.f14 from (if_pos (by decide)).trans Try.func14)
theorem okf14 : ∀ b, Try.f14.body = some b → okC E0 0 true Try.f14.ntmps b = true := by
  have h : (match Try.f14.body with | some b => okC E0 0 true Try.f14.ntmps b | none => true) = true := by kernel_rfl
  intro b hb; rw [hb] at h; exact h
theorem nmf14 : (Try.f14.name == "runtime.NumGoroutine") = false := by kernel_rfl
@[simp] theorem efn15 : E0.fn 15 = some Try.f15 := (show (if fns0.contains 15 = true then Try.prog.funcs[15]? else none) = some Try.f15 from (if_pos (by decide)).trans Try.func15)
theorem okf15 : ∀ b, Try.f15.body = some b → okC E0 0 true Try.f15.ntmps b = true := by
  have h : (match Try.f15.body with | some b => okC E0 0 true Try.f15.ntmps b | none => true) = true := by kernel_rfl
  intro b hb; rw [hb] at h; exact h
theorem nmf15 : (Try.f15.name == "runtime.NumGoroutine") = false := by kernel_rfl
@[simp] theorem efn16 : E0.fn 16 = some Try.f16 := (show (if fns0.contains 16 = true then Try.prog.funcs[16]? else none) = some Try.f16 from (if_pos (by decide)).trans Try.func16)
theorem okf16 : ∀ b, Try.f16.body = some b → okC E0 0 true Try.f16.ntmps b = true := by
  have h : (match Try.f16.body with | some b => okC E0 0 true Try.f16.ntmps b | none => true) = true := by kernel_rfl
  intro b hb; rw [hb] at h; exact h
theorem nmf16 : (Try.f16.name == "runtime.NumGoroutine") = false := by kernel_rfl
@[simp] theorem efn17 : E0.fn 17 = some Try.f17 := (show (if fns0.contains 17 = true then Try.prog.funcs[17]? else none) = some Try.f17 from (if_pos (by decide)).trans Try.func17)
theorem okf17 : ∀ b, Try.f17.body = some b → okC E0 0 true Try.f17.ntmps b = true := by
  have h : (match Try.f17.body with | some b => okC E0 0 true Try.f17.ntmps b | none => true) = true := by kernel_rfl
  intro b hb; rw [hb] at h; exact h
theorem nmf17 : (Try.f17.name == "runtime.NumGoroutine") = false := by kernel_rfl
@[simp] theorem efn18 : E0.fn 18 = some Try.f18 := (show (if fns0.contains 18 = true then Try.prog.funcs[18]? else none) = some Try.f18 from (if_pos (by decide)).trans Try.func18)
theorem okf18 : ∀ b, Try.f18.body = some b → okC E0 0 true Try.f18.ntmps b = true := by
  have h : (match Try.f18.body with | some b => okC E0 0 true Try.f18.ntmps b | none => true) = true := by kernel_rfl
  intro b hb; rw [hb] at h; exact h
theorem nmf18 : (Try.f18.name == "runtime.NumGoroutine") = false := by kernel_rfl
@[simp] theorem efn19 : E0.fn 19 = some Try.f19 := (show (if fns0.contains 19 = true then Try.prog.funcs[19]? else none) = some Try.f19 from (if_pos (by decide)).trans Try.func19)
theorem okf19 : ∀ b, Try.f19.body = some b → okC E0 0 true Try.f19.ntmps b = true := by
  have h : (match Try.f19.body with | some b => okC E0 0 true Try.f19.ntmps b | none => true) = true := by kernel_rfl
  intro b hb; rw [hb] at h; exact h
theorem nmf19 : (Try.f19.name == "runtime.NumGoroutine") = false := by kernel_rfl
@[simp] theorem efn20 : E0.fn 20 = some Try.f20 := (show (if fns0.contains 20 = true then Try.prog.funcs[20]? else none) = some Try.f20 from (if_pos (by decide)).trans Try.func20)
theorem okf20 : ∀ b, Try.f20.body = some b → okC E0 0 true Try.f20.ntmps b = true := by
  have h : (match Try.f20.body with | some b => okC E0 0 true Try.f20.ntmps b | none => true) = true := by kernel_rfl
  intro b hb; rw [hb] at h; exact h
theorem nmf20 : (Try.f20.name == "runtime.NumGoroutine") = false := by kernel_rfl
@[simp] theorem efn21 : E0.fn 21 = some Try.f21 := (show (if fns0.contains 21 = true then Try.prog.funcs[21]? else none) = some Try.f21 from (if_pos (by decide)).trans Try.func21)
theorem okf21 : ∀ b, Try.f21.body = some b → okC E0 0 true Try.f21.ntmps b = true := by
  have h : (match Try.f21.body with | some b => okC E0 0 true Try.f21.ntmps b | none => true) = true := by kernel_rfl
  intro b hb; rw [hb] at h; exact h
theorem nmf21 : (Try.f21.name == "runtime.NumGoroutine") = false := by kernel_rfl
@[simp] theorem efn22 : E0.fn 22 = some Try.f22 := (show (if fns0.contains 22 = true then Try.prog.funcs[22]? else none) = some Try.f22 from (if_pos (by decide)).trans Try.func22)
theorem okf22 : ∀ b, Try.f22.body = some b → okC E0 0 true Try.f22.ntmps b = true := by
  have h : (match Try.f22.body with | some b => okC E0 0 true Try.f22.ntmps b | none => true) = true := by kernel_rfl
  intro b hb; rw [hb] at h; exact h
theorem nmf22 : (Try.f22.name == "runtime.NumGoroutine") = false := by kernel_rfl
@[simp] theorem efn23 : E0.fn 23 = some Try.f23 := (show (if fns0.contains 23 = true then Try.prog.funcs[23]? else none) = some Try.f23 from (if_pos (by decide)).trans Try.func23)
theorem okf23 : ∀ b, Try.f23.body = some b → okC E0 0 true Try.f23.ntmps b = true := by
  have h : (match Try.f23.body with | some b => okC E0 0 true Try.f23.ntmps b | none => true) = true := by kernel_rfl
  intro b hb; rw [hb] at h; exact h
theorem nmf23 : (Try.f23.name == "runtime.NumGoroutine") = false := by kernel_rfl
@[simp] theorem efn24 : E0.fn 24 = some Try.f24 := (show (if fns0.contains 24 = true then Try.prog.funcs[24]? else none) = some Try.f24 from (if_pos (by decide)).trans Try.func24)
theorem okf24 : ∀ b, Try.f24.body = some b → okC E0 0 true Try.f24.ntmps b = true := by
  have h : (match Try.f24.body with | some b => okC E0 0 true Try.f24.ntmps b | none => true) = true := by kernel_rfl
  intro b hb; rw [hb] at h; exact h
theorem nmf24 : (Try.f24.name == "runtime.NumGoroutine") = false := by kernel_rfl
@[simp] theorem efn25 : E0.fn 25 = some Try.f25 := (show (if fns0.contains 25 = true then Try.prog.funcs[25]? else none) = some Try.f25 from (if_pos (by decide)).trans Try.func25)
theorem okf25 : ∀ b, Try.f25.body = some b → okC E0 0 true Try.f25.ntmps b = true := by
  have h : (match Try.f25.body with | some b => okC E0 0 true Try.f25.ntmps b | none => true) = true := by kernel_rfl
  intro b hb; rw [hb] at h; exact h
theorem nmf25 : (Try.f25.name == "runtime.NumGoroutine") = false := by kernel_rfl
@[simp] theorem efn26 : E0.fn 26 = some Try.f26 := (show (if fns0.contains 26 = true then Try.prog.funcs[26]? else none) = some Try.f26 from (if_pos (by decide)).trans Try.func26)
theorem okf26 : ∀ b, Try.f26.body = some b → okC E0 0 true Try.f26.ntmps b = true := by
  have h : (match Try.f26.body with | some b => okC E0 0 true Try.f26.ntmps b | none => true) = true := by kernel_rfl
  intro b hb; rw [hb] at h; exact h
theorem nmf26 : (Try.f26.name == "runtime.NumGoroutine") = false := by kernel_rfl
@[simp] theorem efn27 : E0.fn 27 = some Try.f27 := (show (if fns0.contains 27 = true then Try.prog.funcs[27]? else none) = some Try.f27 from (if_pos (by decide)).trans Try.func27)
theorem okf27 : ∀ b, Try.f27.body = some b → okC E0 0 true Try.f27.ntmps b = true := by
  have h : (match Try.f27.body with | some b => okC E0 0 true Try.f27.ntmps b | none => true) = true := by kernel_rfl
  intro b hb; rw [hb] at h; exact h
theorem nmf27 : (Try.f27.name == "runtime.NumGoroutine") = false := by kernel_rfl
@[simp] theorem efn28 : E0.fn 28 = some Try.f28 := (show (if fns0.contains 28 = true then Try.prog.funcs[28]? else none) = some Try.f28 from (if_pos (by decide)).trans Try.func28)
theorem okf28 : ∀ b, Try.f28.body = some b → okC E0 0 true Try.f28.ntmps b = true := by
  have h : (match Try.f28.body with | some b => okC E0 0 true Try.f28.ntmps b | none => true) = true := by kernel_rfl
  intro b hb; rw [hb] at h; exact h
theorem nmf28 : (Try.f28.name == "runtime.NumGoroutine") = false := by kernel_rfl
@[simp] theorem efn29 : E0.fn 29 = some Try.f29 := (show (if fns0.contains 29 = true then Try.prog.funcs[29]? else none) = some Try.f29 from (if_pos (by decide)).trans Try.func29)
theorem okf29 : ∀ b, Try.f29.body = some b → okC E0 0 true Try.f29.ntmps b = true := by
  have h : (match Try.f29.body with | some b => okC E0 0 true Try.f29.ntmps b | none => true) = true := by kernel_rfl
  intro b hb; rw [hb] at h; exact h
theorem nmf29 : (Try.f29.name == "runtime.NumGoroutine") = false := by kernel_rfl
@[simp] theorem efn30 : E0.fn 30 = some Try.f30 := (show (if fns0.contains 30 = true then Try.prog.funcs[30]? else none) = some Try.f30 from (if_pos (by decide)).trans Try.func30)
theorem okf30 : ∀ b, Try.f30.body = some b → okC E0 0 true Try.f30.ntmps b = true := by
  have h : (match Try.f30.body with | some b => okC E0 0 true Try.f30.ntmps b | none => true) = true := by kernel_rfl
  intro b hb; rw [hb] at h; exact h
theorem nmf30 : (Try.f30.name == "runtime.NumGoroutine") = false := by kernel_rfl
@[simp] theorem efn31 : E0.fn 31 = some Try.f31 := (show (if fns0.contains 31 = true then Try.prog.funcs[31]? else none) = some Try.f31 from (if_pos (by decide)).trans Try.func31)
theorem okf31 : ∀ b, Try.f31.body = some b → okC E0 0 true Try.f31.ntmps b = true := by
  have h : (match Try.f31.body with | some b => okC E0 0 true Try.f31.ntmps b | none => true) = true := by kernel_rfl
  intro b hb; rw [hb] at h; exact h
theorem nmf31 : (Try.f31.name == "runtime.NumGoroutine") = false := by kernel_rfl
@[simp] theorem efn32 : E0.fn 32 = some Try.f32 := (show (if fns0.contains 32 = true then Try.prog.funcs[32]? else none) = some Try.f32 from (if_pos (by decide)).trans Try.func32)
theorem okf32 : ∀ b, Try.f32.body = some b → okC E0 0 true Try.f32.ntmps b = true := by
  have h : (match Try.f32.body with | some b => okC E0 0 true Try.f32.ntmps b | none => true) = true := by kernel_rfl
  intro b hb; rw [hb] at h; exact h
theorem nmf32 : (Try.f32.name == "runtime.NumGoroutine") = false := by kernel_rfl
@[simp] theorem efn33 : E0.fn 33 = some Try.f33 := (show (if fns0.contains 33 = true then Try.prog.funcs[33]? else none) = some Try.f33 from (if_pos (by decide)).trans Try.func33)
theorem okf33 : ∀ b, Try.f33.body = some b → okC E0 0 true Try.f33.ntmps b = true := by
  have h : (match Try.f33.body with | some b => okC E0 0 true Try.f33.ntmps b | none => true) = true := by kernel_rfl
  intro b hb; rw [hb] at h; exact h
theorem nmf33 : (Try.f33.name == "runtime.NumGoroutine") = false := by kernel_rfl
@[simp] theorem efn34 : E0.fn 34 = some Try.f34 := (show (if fns0.contains 34 = true then Try.prog.funcs[34]? else none) = some Try.f34 from (if_pos (by decide)).trans Try.func34)
theorem okf34 : ∀ b, Try.f34.body = some b → okC E0 0 true Try.f34.ntmps b = true := by
  have h : (match Try.f34.body with | some b => okC E0 0 true Try.f34.ntmps b | none => true) = true := by kernel_rfl
  intro b hb; rw [hb] at h; exact h
theorem nmf34 : (Try.f34.name == "runtime.NumGoroutine") = false := by kernel_rfl
@[simp] theorem efn35 : E0.fn 35 = some Try.f35 := (show (if fns0.contains 35 = true then Try.prog.funcs[35]? else none) = some Try.f35 from (if_pos (by decide)).trans Try.func35)
theorem okf35 : ∀ b, Try.f35.body = some b → okC E0 0 true Try.f35.ntmps b = true := by
  have h : (match Try.f35.body with | some b => okC E0 0 true Try.f35.ntmps b | none => true) = true := by kernel_rfl
  intro b hb; rw [hb] at h; exact h
theorem nmf35 : (Try.f35.name == "runtime.NumGoroutine") = false := by kernel_rfl
@[simp] theorem efn36 : E0.fn 36 = some Try.f36 := (show (if fns0.contains 36 = true then Try.prog.funcs[36]? else none) = some Try.f36 from (if_pos (by decide)).trans Try.func36)
theorem okf36 : ∀ b, Try.f36.body = some b → okC E0 0 true Try.f36.ntmps b = true := by
  have h : (match Try.f36.body with | some b => okC E0 0 true Try.f36.ntmps b | none => true) = true := by kernel_rfl
  intro b hb; rw [hb] at h; exact h
theorem nmf36 : (Try.f36.name == "runtime.NumGoroutine") = false := by kernel_rfl
@[simp] theorem efn37 : E0.fn 37 = some Try.f37 := (show (if fns0.contains 37 = true then Try.prog.funcs[37]? else none) = some Try.f37 from (if_pos (by decide)).trans Try.func37)
theorem okf37 : ∀ b, Try.f37.body = some b → okC E0 0 true Try.f37.ntmps b = true := by
  have h : (match Try.f37.body with | some b => okC E0 0 true Try.f37.ntmps b | none => true) = true := by kernel_rfl
  intro b hb; rw [hb] at h; exact h
theorem nmf37 : (Try.f37.name == "runtime.NumGoroutine") = false := by kernel_rfl
@[simp] theorem efn38 : E0.fn 38 = some Try.f38 := (show (if fns0.contains 38 = true then Try.prog.funcs[38]? else none) = some Try.f38 from (if_pos (by decide)).trans Try.func38)
theorem okf38 : ∀ b, Try.f38.body = some b → okC E0 0 true Try.f38.ntmps b = true := by
  have h : (match Try.f38.body with | some b => okC E0 0 true Try.f38.ntmps b | none => true) = true := by kernel_rfl
  intro b hb; rw [hb] at h; exact h
theorem nmf38 : (Try.f38.name == "runtime.NumGoroutine") = false := by kernel_rfl
@[simp] theorem efn39 : E0.fn 39 = some Try.f39 := (show (if fns0.contains 39 = true then Try.prog.funcs[39]? else none) = some Try.f39 from (if_pos (by decide)).trans Try.func39)
theorem okf39 : ∀ b, Try.f39.body = some b → okC E0 0 true Try.f39.ntmps b = true := by
  have h : (match Try.f39.body with | some b => okC E0 0 true Try.f39.ntmps b | none => true) = true := by kernel_rfl
  intro b hb; rw [hb] at h; exact h
theorem nmf39 : (Try.f39.name == "runtime.NumGoroutine") = false := by kernel_rfl
@[simp] theorem efn40 : E0.fn 40 = some Try.f40 := (show (if fns0.contains 40 = true then Try.prog.funcs[40]? else none) = some Try.f40 from (if_pos (by decide)).trans Try.func40)
theorem okf40 : ∀ b, Try.f40.body = some b → okC E0 0 true Try.f40.ntmps b = true := by
  have h : (match Try.f40.body with | some b => okC E0 0 true Try.f40.ntmps b | none => true) = true := by kernel_rfl
  intro b hb; rw [hb] at h; exact h
theorem nmf40 : (Try.f40.name == "runtime.NumGoroutine") = false := by kernel_rfl
@[simp] theorem efn41 : E0.fn 41 = some Try.f41 := (show (if fns0.contains 41 = true then Try.prog.funcs[41]? else none) = some Try.f41 from (if_pos (by decide)).trans Try.func41)
theorem okf41 : ∀ b, Try.f41.body = some b → okC E0 0 true Try.f41.ntmps b = true := by
  have h : (match Try.f41.body with | some b => okC E0 0 true Try.f41.ntmps b | none => true) = true := by kernel_rfl
  intro b hb; rw [hb] at h; exact h
theorem nmf41 : (Try.f41.name == "runtime.NumGoroutine") = false := by kernel_rfl
@[simp] theorem efn42 : E0.fn 42 = some Try.f42 := (show (if fns0.contains 42 = true then Try.prog.funcs[42]? else none) = some Try.f42 from (if_pos (by decide)).trans Try.func42)
theorem okf42 : ∀ b, Try.f42.body = some b → okC E0 0 true Try.f42.ntmps b = true := by
  have h : (match Try.f42.body with | some b => okC E0 0 true Try.f42.ntmps b | none => true) = true := by kernel_rfl
  intro b hb; rw [hb] at h; exact h
theorem nmf42 : (Try.f42.name == "runtime.NumGoroutine") = false := by kernel_rfl
@[simp] theorem efn43 : E0.fn 43 = some Try.f43 := (show (if fns0.contains 43 = true then Try.prog.funcs[43]? else none) = some Try.f43 from (if_pos (by decide)).trans Try.func43)
theorem okf43 : ∀ b, Try.f43.body = some b → okC E0 0 true Try.f43.ntmps b = true := by
  have h : (match Try.f43.body with | some b => okC E0 0 true Try.f43.ntmps b | none => true) = true := by kernel_rfl
  intro b hb; rw [hb] at h; exact h
theorem nmf43 : (Try.f43.name == "runtime.NumGoroutine") = false := by kernel_rfl
@[simp] theorem efn44 : E0.fn 44 = some Try.f44 := (show (if fns0.contains 44 = true then Try.prog.funcs[44]? else none) = some Try.f44 from (if_pos (by decide)).trans Try.func44)
theorem okf44 : ∀ b, Try.f44.body = some b → okC E0 0 true Try.f44.ntmps b = true := by
  have h : (match Try.f44.body with | some b => okC E0 0 true Try.f44.ntmps b | none => true) = true := by kernel_rfl
  intro b hb; rw [hb] at h; exact h
theorem nmf44 : (Try.f44.name == "runtime.NumGoroutine") = false := by kernel_rfl
@[simp] theorem efn45 : E0.fn 45 = some Try.f45 := (show (if fns0.contains 45 = true then Try.prog.funcs[45]? else none) = some Try.f45 from (if_pos (by decide)).trans Try.func45)
theorem okf45 : ∀ b, Try.f45.body = some b → okC E0 0 true Try.f45.ntmps b = true := by
  have h : (match Try.f45.body with | some b => okC E0 0 true Try.f45.ntmps b | none => true) = true := by kernel_rfl
  intro b hb; rw [hb] at h; exact h
theorem nmf45 : (Try.f45.name == "runtime.NumGoroutine") = false := by kernel_rfl
@[simp] theorem efn46 : E0.fn 46 = some Try.f46 := (show (if fns0.contains 46 = true then Try.prog.funcs[46]? else none) = some Try.f46 from (if_pos (by decide)).trans Try.func46)
theorem okf46 : ∀ b, Try.f46.body = some b → okC E0 0 true Try.f46.ntmps b = true := by
  have h : (match Try.f46.body with | some b => okC E0 0 true Try.f46.ntmps b | none => true) = true := by kernel_rfl
  intro b hb; rw [hb] at h; exact h
theorem nmf46 : (Try.f46.name == "runtime.NumGoroutine") = false := by kernel_rfl
@[simp] theorem efn47 : E0.fn 47 = some Try.f47 := (show (if fns0.contains 47 = true then Try.prog.funcs[47]? else none) = some Try.f47 from (if_pos (by decide)).trans Try.func47)
theorem okf47 : ∀ b, Try.f47.body = some b → okC E0 0 true Try.f47.ntmps b = true := by
  have h : (match Try.f47.body with | some b => okC E0 0 true Try.f47.ntmps b | none => true) = true := by kernel_rfl
  intro b hb; rw [hb] at h; exact h
theorem nmf47 : (Try.f47.name == "runtime.NumGoroutine") = false := by kernel_rfl
@[simp] theorem efn48 : E0.fn 48 = some Try.f48 := (show (if fns0.contains 48 = true then Try.prog.funcs[48]? else none) = some Try.f48 from (if_pos (by decide)).trans Try.func48)
theorem okf48 : ∀ b, Try.f48.body = some b → okC E0 0 true Try.f48.ntmps b = true := by
  have h : (match Try.f48.body with | some b => okC E0 0 true Try.f48.ntmps b | none => true) = true := by kernel_rfl
  intro b hb; rw [hb] at h; exact h
theorem nmf48 : (Try.f48.name == "runtime.NumGoroutine") = false := by kernel_rfl
@[simp] theorem efn49 : E0.fn 49 = some Try.f49 := (show (if fns0.contains 49 = true then Try.prog.funcs[49]? else none) = some Try.f49 from (if_pos (by decide)).trans Try.func49)
theorem okf49 : ∀ b, Try.f49.body = some b → okC E0 0 true Try.f49.ntmps b = true := by
  have h : (match Try.f49.body with | some b => okC E0 0 true Try.f49.ntmps b | none => true) = true := by kernel_rfl
  intro b hb; rw [hb] at h; exact h
theorem nmf49 : (Try.f49.name == "runtime.NumGoroutine") = false := by kernel_rfl
@[simp] theorem efn50 : E0.fn 50 = some Try.f50 := (show (if fns0.contains 50 = true then Try.prog.funcs[50]? else none) = some Try.f50 from (if_pos (by decide)).trans Try.func50)
theorem okf50 : ∀ b, Try.f50.body = some b → okC E0 0 true Try.f50.ntmps b = true := by
  have h : (match Try.f50.body with | some b => okC E0 0 true Try.f50.ntmps b | none => true) = true := by kernel_rfl
  intro b hb; rw [hb] at h; exact h
theorem nmf50 : (Try.f50.name == "runtime.NumGoroutine") = false := by kernel_rfl
@[simp] theorem efn51 : E0.fn 51 = some Try.f51 := (show (if fns0.contains 51 = true then Try.prog.funcs[51]? else none) = some Try.f51 from (if_pos (by decide)).trans Try.func51)
theorem okf51 : ∀ b, Try.f51.body = some b → okC E0 0 true Try.f51.ntmps b = true := by
  have h : (match Try.f51.body with | some b => okC E0 0 true Try.f51.ntmps b | none => true) = true := by kernel_rfl
  intro b hb; rw [hb] at h; exact h
theorem nmf51 : (Try.f51.name == "runtime.NumGoroutine") = false := by kernel_rfl
@[simp] theorem efn52 : E0.fn 52 = some Try.f52 := (show (if fns0.contains 52 = true then Try.prog.funcs[52]? else none) = some Try.f52 from (if_pos (by decide)).trans Try.func52)
theorem okf52 : ∀ b, Try.f52.body = some b → okC E0 0 true Try.f52.ntmps b = true := by
  have h : (match Try.f52.body with | some b => okC E0 0 true Try.f52.ntmps b | none => true) = true := by kernel_rfl
  intro b hb; rw [hb] at h; exact h
theorem nmf52 : (Try.f52.name == "runtime.NumGoroutine") = false := by kernel_rfl
@[simp] theorem efn53 : E0.fn 53 = some Try.f53 := (show (if fns0.contains 53 = true then Try.prog.funcs[53]? else none) = some Try.f53 from (if_pos (by decide)).trans Try.func53)
theorem okf53 : ∀ b, Try.f53.body = some b → okC E0 0 true Try.f53.ntmps b = true := by
  have h : (match Try.f53.body with | some b => okC E0 0 true Try.f53.ntmps b | none => true) = true := by kernel_rfl
  intro b hb; rw [hb] at h; exact h
theorem nmf53 : (Try.f53.name == "runtime.NumGoroutine") = false := by kernel_rfl
@[simp] theorem efn54 : E0.fn 54 = some Try.f54 := (show (if fns0.contains 54 = true then Try.prog.funcs[54]? else none) = some Try.f54 from (if_pos (by decide)).trans Try.func54)
theorem okf54 : ∀ b, Try.f54.body = some b → okC E0 0 true Try.f54.ntmps b = true := by
  have h : (match Try.f54.body with | some b => okC E0 0 true Try.f54.ntmps b | none => true) = true := by kernel_rfl
  intro b hb; rw [hb] at h; exact h
theorem nmf54 : (Try.f54.name == "runtime.NumGoroutine") = false := by kernel_rfl
@[simp] theorem efn55 : E0.fn 55 = some Try.f55 := (show (if fns0.contains 55 = true then Try.prog.funcs[55]? else none) = some Try.f55 from (if_pos (by decide)).trans Try.func55)
theorem okf55 : ∀ b, Try.f55.body = some b → okC E0 0 true Try.f55.ntmps b = true := by
  have h : (match Try.f55.body with | some b => okC E0 0 true Try.f55.ntmps b | none => true) = true := by kernel_rfl
  intro b hb; rw [hb] at h; exact h
theorem nmf55 : (Try.f55.name == "runtime.NumGoroutine") = false := by kernel_rfl
@[simp] theorem efn56 : E0.fn 56 = some Try.f56 := (show (if fns0.contains 56 = true then Try.prog.funcs[56]? else none) = some Try.f56 from (if_pos (by decide)).trans Try.func56)
theorem okf56 : ∀ b, Try.f56.body = some b → okC E0 0 true Try.f56.ntmps b = true := by
  have h : (match Try.f56.body with | some b => okC E0 0 true Try.f56.ntmps b | none => true) = true := by kernel_rfl
  intro b hb; rw [hb] at h; exact h
theorem nmf56 : (Try.f56.name == "runtime.NumGoroutine") = false := by kernel_rfl
@[simp] theorem efn57 : E0.fn 57 = some Try.f57 := (show (if fns0.contains 57 = true then Try.prog.funcs[57]? else none) = some Try.f57 from (if_pos (by decide)).trans Try.func57)
theorem okf57 : ∀ b, Try.f57.body = some b → okC E0 0 true Try.f57.ntmps b = true := by
  have h : (match Try.f57.body with | some b => okC E0 0 true Try.f57.ntmps b | none => true) = true := by kernel_rfl
  intro b hb; rw [hb] at h; exact h
theorem nmf57 : (Try.f57.name == "runtime.NumGoroutine") = false := by kernel_rfl
@[simp] theorem efn58 : E0.fn 58 = some Try.f58 := (show (if fns0.contains 58 = true then Try.prog.funcs[58]? else none) = some Try.f58 from (if_pos (by decide)).trans Try.func58)
theorem okf58 : ∀ b, Try.f58.body = some b → okC E0 0 true Try.f58.ntmps b = true := by
  have h : (match Try.f58.body with | some b => okC E0 0 true Try.f58.ntmps b | none => true) = true := by kernel_rfl
  intro b hb; rw [hb] at h; exact h
theorem nmf58 : (Try.f58.name == "runtime.NumGoroutine") = false := by kernel_rfl
@[simp] theorem efn59 : E0.fn 59 = some Try.f59 := (show (if fns0.contains 59 = true then Try.prog.funcs[59]? else none) = some Try.f59 from (if_pos (by decide)).trans Try.func59)
theorem okf59 : ∀ b, Try.f59.body = some b → okC E0 0 true Try.f59.ntmps b = true := by
  have h : (match Try.f59.body with | some b => okC E0 0 true Try.f59.ntmps b | none => true) = true := by kernel_rfl
  intro b hb; rw [hb] at h; exact h
theorem nmf59 : (Try.f59.name == "runtime.NumGoroutine") = false := by kernel_rfl
@[simp] theorem efn60 : E0.fn 60 = some Try.f60 := (show (if fns0.contains 60 = true then Try.prog.funcs[60]? else none) = some Try.f60 from (if_pos (by decide)).trans Try.func60)
theorem okf60 : ∀ b, Try.f60.body = some b → okC E0 0 true Try.f60.ntmps b = true := by
  have h : (match Try.f60.body with | some b => okC E0 0 true Try.f60.ntmps b | none => true) = true := by kernel_rfl
  intro b hb; rw [hb] at h; exact h
theorem nmf60 : (Try.f60.name == "runtime.NumGoroutine") = false := by kernel_rfl
@[simp] theorem efn61 : E0.fn 61 = some Try.f61 := (show (if fns0.contains 61 = true then Try.prog.funcs[61]? else none) = some Try.f61 from (if_pos (by decide)).trans Try.func61)
theorem okf61 : ∀ b, Try.f61.body = some b → okC E0 0 true Try.f61.ntmps b = true := by
  have h : (match Try.f61.body with | some b => okC E0 0 true Try.f61.ntmps b | none => true) = true := by kernel_rfl
  intro b hb; rw [hb] at h; exact h
theorem nmf61 : (Try.f61.name == "runtime.NumGoroutine") = false := by kernel_rfl
@[simp] theorem efn62 : E0.fn 62 = some Try.f62 := (show (if fns0.contains 62 = true then Try.prog.funcs[62]? else none) = some Try.f62 from (if_pos (by decide)).trans Try.func62)
theorem okf62 : ∀ b, Try.f62.body = some b → okC E0 0 true Try.f62.ntmps b = true := by
  have h : (match Try.f62.body with | some b => okC E0 0 true Try.f62.ntmps b | none => true) = true := by kernel_rfl
  intro b hb; rw [hb] at h; exact h
theorem nmf62 : (Try.f62.name == "runtime.NumGoroutine") = false := by kernel_rfl
@[simp] theorem efn63 : E0.fn 63 = some Try.f63 := (show (if fns0.contains 63 = true then Try.prog.funcs[63]? else none) = some Try.f63 from (if_pos (by decide)).trans Try.func63)
theorem okf63 : ∀ b, Try.f63.body = some b → okC E0 0 true Try.f63.ntmps b = true := by
  have h : (match Try.f63.body with | some b => okC E0 0 true Try.f63.ntmps b | none => true) = true := by kernel_rfl
  intro b hb; rw [hb] at h; exact h
theorem nmf63 : (Try.f63.name == "runtime.NumGoroutine") = false := by kernel_rfl
@[simp] theorem efn64 : E0.fn 64 = some Try.f64 := (show (if fns0.contains 64 = true then Try.prog.funcs[64]? else none) = some Try.f64 from (if_pos (by decide)).trans Try.func64)
theorem okf64 : ∀ b, Try.f64.body = some b → okC E0 0 true Try.f64.ntmps b = true := by
  have h : (match Try.f64.body with | some b => okC E0 0 true Try.f64.ntmps b | none => true) = true := by kernel_rfl
  intro b hb; rw [hb] at h; exact h
theorem nmf64 : (Try.f64.name == "runtime.NumGoroutine") = false := by kernel_rfl
@[simp] theorem efn65 : E0.fn 65 = some Try.f65 := (show (if fns0.contains 65 = true then Try.prog.funcs[65]? else none) = some Try.f65 from (if_pos (by decide)).trans Try.func65)
theorem okf65 : ∀ b, Try.f65.body = some b → okC E0 0 true Try.f65.ntmps b = true := by
  have h : (match Try.f65.body with | some b => okC E0 0 true Try.f65.ntmps b | none => true) = true := by kernel_rfl
  intro b hb; rw [hb] at h; exact h
theorem nmf65 : (Try.f65.name == "runtime.NumGoroutine") = false := by kernel_rfl
@[simp] theorem efn66 : E0.fn 66 = some Try.f66 := (show (if fns0.contains 66 = true then Try.prog.funcs[66]? else none) = some Try.f66 from (if_pos (by decide)).trans Try.func66)
theorem okf66 : ∀ b, Try.f66.body = some b → okC E0 0 true Try.f66.ntmps b = true := by
  have h : (match Try.f66.body with | some b => okC E0 0 true Try.f66.ntmps b | none => true) = true := by kernel_rfl
  intro b hb; rw [hb] at h; exact h
theorem nmf66 : (Try.f66.name == "runtime.NumGoroutine") = false := by kernel_rfl
@[simp] theorem efn67 : E0.fn 67 = some Try.f67 := (show (if fns0.contains 67 = true then Try.prog.funcs[67]? else none) = some Try.f67 from (if_pos (by decide)).trans Try.func67)
theorem okf67 : ∀ b, Try.f67.body = some b → okC E0 0 true Try.f67.ntmps b = true := by
  have h : (match Try.f67.body with | some b => okC E0 0 true Try.f67.ntmps b | none => true) = true := by kernel_rfl
  intro b hb; rw [hb] at h; exact h
theorem nmf67 : (Try.f67.name == "runtime.NumGoroutine") = false := by kernel_rfl
@[simp] theorem efn68 : E0.fn 68 = some Try.f68 := (show (if fns0.contains 68 = true then Try.prog.funcs[68]? else none) = some Try.f68 from (if_pos (by decide)).trans Try.func68)
theorem okf68 : ∀ b, Try.f68.body = some b → okC E0 0 true Try.f68.ntmps b = true := by
  have h : (match Try.f68.body with | some b => okC E0 0 true Try.f68.ntmps b | none => true) = true := by kernel_rfl
  intro b hb; rw [hb] at h; exact h
theorem nmf68 : (Try.f68.name == "runtime.NumGoroutine") = false := by kernel_rfl
@[simp] theorem efn69 : E0.fn 69 = some Try.f69 := (show (if fns0.contains 69 = true then Try.prog.funcs[69]? else none) = some Try.f69 from (if_pos (by decide)).trans Try.func69)
theorem okf69 : ∀ b, Try.f69.body = some b → okC E0 0 true Try.f69.ntmps b = true := by
  have h : (match Try.f69.body with | some b => okC E0 0 true Try.f69.ntmps b | none => true) = true := by kernel_rfl
  intro b hb; rw [hb] at h; exact h
theorem nmf69 : (Try.f69.name == "runtime.NumGoroutine") = false := by kernel_rfl
@[simp] theorem efn70 : E0.fn 70 = some Try.f70 := (show (if fns0.contains 70 = true then Try.prog.funcs[70]? else none) = some Try.f70 from (if_pos (by decide)).trans Try.func70)
theorem okf70 : ∀ b, Try.f70.body = some b → okC E0 0 true Try.f70.ntmps b = true := by
  have h : (match Try.f70.body with | some b => okC E0 0 true Try.f70.ntmps b | none => true) = true := by kernel_rfl
  intro b hb; rw [hb] at h; exact h
theorem nmf70 : (Try.f70.name == "runtime.NumGoroutine") = false := by kernel_rfl
@[simp] theorem efn71 : E0.fn 71 = some Try.f71 := (show (if fns0.contains 71 = true then Try.prog.funcs[71]? else none) = some Try.f71 from (if_pos (by decide)).trans Try.func71)
theorem okf71 : ∀ b, Try.f71.body = some b → okC E0 0 true Try.f71.ntmps b = true := by
  have h : (match Try.f71.body with | some b => okC E0 0 true Try.f71.ntmps b | none => true) = true := by kernel_rfl
  intro b hb; rw [hb] at h; exact h
theorem nmf71 : (Try.f71.name == "runtime.NumGoroutine") = false := by kernel_rfl
@[simp] theorem efn72 : E0.fn 72 = some Try.f72 := (show (if fns0.contains 72 = true then Try.prog.funcs[72]? else none) = some Try.f72 from (if_pos (by decide)).trans Try.func72)
theorem okf72 : ∀ b, Try.f72.body = some b → okC E0 0 true Try.f72.ntmps b = true := by
  have h : (match Try.f72.body with | some b => okC E0 0 true Try.f72.ntmps b | none => true) = true := by kernel_rfl
  intro b hb; rw [hb] at h; exact h
theorem nmf72 : (Try.f72.name == "runtime.NumGoroutine") = false := by kernel_rfl
@[simp] theorem efn73 : E0.fn 73 = some Try.f73 := (show (if fns0.contains 73 = true then Try.prog.funcs[73]? else none) = some Try.f73 from (if_pos (by decide)).trans Try.func73)
theorem okf73 : ∀ b, Try.f73.body = some b → okC E0 0 true Try.f73.ntmps b = true := by
  have h : (match Try.f73.body with | some b => okC E0 0 true Try.f73.ntmps b | none => true) = true := by kernel_rfl
  intro b hb; rw [hb] at h; exact h
theorem nmf73 : (Try.f73.name == "runtime.NumGoroutine") = false := by kernel_rfl
theorem mem0 {f : Nat} (h : fns0.contains f = true) : f = 3 ∨ f = 4 ∨ f = 5 ∨ f = 6 ∨ f = 7 ∨ f = 8 ∨ f = 9 ∨ f = 10 ∨ f = 11 ∨ f = 12 ∨ f = 13 ∨ f = 14 ∨ f = 15 ∨ f = 16 ∨ f = 17 ∨ f = 18 ∨ f = 19 ∨ f = 20 ∨ f = 21 ∨ f = 22 ∨ f = 23 ∨ f = 24 ∨ f = 25 ∨ f = 26 ∨ f = 27 ∨ f = 28 ∨ f = 29 ∨ f = 30 ∨ f = 31 ∨ f = 32 ∨ f = 33 ∨ f = 34 ∨ f = 35 ∨ f = 36 ∨ f = 37 ∨ f = 38 ∨ f = 39 ∨ f = 40 ∨ f = 41 ∨ f = 42 ∨ f = 43 ∨ f = 44 ∨ f = 45 ∨ f = 46 ∨ f = 47 ∨ f = 48 ∨ f = 49 ∨ f = 50 ∨ f = 51 ∨ f = 52 ∨ f = 53 ∨ f = 54 ∨ f = 55 ∨ f = 56 ∨ f = 57 ∨ f = 58 ∨ f = 59 ∨ f = 60 ∨ f = 61 ∨ f = 62 ∨ f = 63 ∨ f = 64 ∨ f = 65 ∨ f = 66 ∨ f = 67 ∨ f = 68 ∨ f = 69 ∨ f = 70 ∨ f = 71 ∨ f = 72 ∨ f = 73 := by simpa [fns0] using h
theorem env0 : EnvOk Try.prog E0 where
  ty := fun t => rfl
  fn := fun f fn h => by
    simp only [E0] at h
    split at h
    · exact h
    · cases h
  nm := fun f fn h _ => by
    have hc : fns0.contains f = true := by
      simp only [E0] at h
      split at h
      · assumption
      · cases h
    rcases mem0 hc with rfl | rfl | rfl | rfl | rfl | rfl | rfl | rfl | rfl | rfl | rfl | rfl | rfl | rfl | rfl | rfl | rfl | rfl | rfl | rfl | rfl | rfl | rfl | rfl | rfl | rfl | rfl | rfl | rfl | rfl | rfl | rfl | rfl | rfl | rfl | rfl | rfl | rfl | rfl | rfl | rfl | rfl | rfl | rfl | rfl | rfl | rfl | rfl | rfl | rfl | rfl | rfl | rfl | rfl | rfl | rfl | rfl | rfl | rfl | rfl | rfl | rfl | rfl | rfl | rfl | rfl | rfl | rfl | rfl | rfl | rfl
    · rw [efn3] at h; cases h; exact nmf3
    · rw [efn4] at h; cases h; exact nmf4
    · rw [efn5] at h; cases h; exact nmf5
    · rw [efn6] at h; cases h; exact nmf6
    · rw [efn7] at h; cases h; exact nmf7
    · rw [efn8] at h; cases h; exact nmf8
    · rw [efn9] at h; cases h; exact nmf9
    · rw [efn10] at h; cases h; exact nmf10
    · rw [efn11] at h; cases h; exact nmf11
    · rw [efn12] at h; cases h; exact nmf12
    · rw [efn13] at h; cases h; exact nmf13
    · rw [efn14] at h; cases h; exact nmf14
    · rw [efn15] at h; cases h; exact nmf15
    · rw [efn16] at h; cases h; exact nmf16
    · rw [efn17] at h; cases h; exact nmf17
    · rw [efn18] at h; cases h; exact nmf18
    · rw [efn19] at h; cases h; exact nmf19
    · rw [efn20] at h; cases h; exact nmf20
    · rw [efn21] at h; cases h; exact nmf21
    · rw [efn22] at h; cases h; exact nmf22
    · rw [efn23] at h; cases h; exact nmf23
    · rw [efn24] at h; cases h; exact nmf24
    · rw [efn25] at h; cases h; exact nmf25
    · rw [efn26] at h; cases h; exact nmf26
    · rw [efn27] at h; cases h; exact nmf27
    · rw [efn28] at h; cases h; exact nmf28
    · rw [efn29] at h; cases h; exact nmf29
    · rw [efn30] at h; cases h; exact nmf30
    · rw [efn31] at h; cases h; exact nmf31
    · rw [efn32] at h; cases h; exact nmf32
    · rw [efn33] at h; cases h; exact nmf33
    · rw [efn34] at h; cases h; exact nmf34
    · rw [efn35] at h; cases h; exact nmf35
    · rw [efn36] at h; cases h; exact nmf36
    · rw [efn37] at h; cases h; exact nmf37
    · rw [efn38] at h; cases h; exact nmf38
    · rw [efn39] at h; cases h; exact nmf39
    · rw [efn40] at h; cases h; exact nmf40
    · rw [efn41] at h; cases h; exact nmf41
    · rw [efn42] at h; cases h; exact nmf42
    · rw [efn43] at h; cases h; exact nmf43
    · rw [efn44] at h; cases h; exact nmf44
    · rw [efn45] at h; cases h; exact nmf45
    · rw [efn46] at h; cases h; exact nmf46
    · rw [efn47] at h; cases h; exact nmf47
    · rw [efn48] at h; cases h; exact nmf48
    · rw [efn49] at h; cases h; exact nmf49
    · rw [efn50] at h; cases h; exact nmf50
    · rw [efn51] at h; cases h; exact nmf51
    · rw [efn52] at h; cases h; exact nmf52
    · rw [efn53] at h; cases h; exact nmf53
    · rw [efn54] at h; cases h; exact nmf54
    · rw [efn55] at h; cases h; exact nmf55
    · rw [efn56] at h; cases h; exact nmf56
    · rw [efn57] at h; cases h; exact nmf57
    · rw [efn58] at h; cases h; exact nmf58
    · rw [efn59] at h; cases h; exact nmf59
    · rw [efn60] at h; cases h; exact nmf60
    · rw [efn61] at h; cases h; exact nmf61
    · rw [efn62] at h; cases h; exact nmf62
    · rw [efn63] at h; cases h; exact nmf63
    · rw [efn64] at h; cases h; exact nmf64
    · rw [efn65] at h; cases h; exact nmf65
    · rw [efn66] at h; cases h; exact nmf66
    · rw [efn67] at h; cases h; exact nmf67
    · rw [efn68] at h; cases h; exact nmf68
    · rw [efn69] at h; cases h; exact nmf69
    · rw [efn70] at h; cases h; exact nmf70
    · rw [efn71] at h; cases h; exact nmf71
    · rw [efn72] at h; cases h; exact nmf72
    · rw [efn73] at h; cases h; exact nmf73
  eqo := fun t h => by
    simp only [E0, List.contains_cons, List.contains_nil, Bool.or_eq_true, beq_iff_eq, Bool.false_eq_true, or_false] at h
    rcases h with rfl | rfl | rfl | rfl | rfl | rfl | rfl | rfl | rfl | rfl | rfl | rfl | rfl | rfl | rfl
    · exact ⟨Try.stoodInHeld7, Try.eqGuardType7⟩
    · exact ⟨Try.stoodInHeld8, Try.eqGuardType8⟩
    · exact ⟨Try.stoodInHeld32, Try.eqGuardType32⟩
    · exact ⟨Try.stoodInHeld33, Try.eqGuardType33⟩
    · exact ⟨Try.stoodInHeld38, Try.eqGuardType38⟩
    · exact ⟨Try.stoodInHeld39, Try.eqGuardType39⟩
    · exact ⟨Try.stoodInHeld55, Try.eqGuardType55⟩
    · exact ⟨Try.stoodInHeld56, Try.eqGuardType56⟩
    · exact ⟨Try.stoodInHeld61, Try.eqGuardType61⟩
    · exact ⟨Try.stoodInHeld62, Try.eqGuardType62⟩
    · exact ⟨Try.stoodInHeld66, Try.eqGuardType66⟩
    · exact ⟨Try.stoodInHeld67, Try.eqGuardType67⟩
    · exact ⟨Try.stoodInHeld68, Try.eqGuardType68⟩
    · exact ⟨Try.stoodInHeld69, Try.eqGuardType69⟩
    · exact ⟨by kernel_rfl, by kernel_rfl⟩
theorem code0 : ∀ f fn b, E0.fn f = some fn → fn.body = some b → okC E0 0 true fn.ntmps b = true := fun f fn b h hb => by
  have hc : fns0.contains f = true := by
    simp only [E0] at h
    split at h
    · assumption
    · cases h
  rcases mem0 hc with rfl | rfl | rfl | rfl | rfl | rfl | rfl | rfl | rfl | rfl | rfl | rfl | rfl | rfl | rfl | rfl | rfl | rfl | rfl | rfl | rfl | rfl | rfl | rfl | rfl | rfl | rfl | rfl | rfl | rfl | rfl | rfl | rfl | rfl | rfl | rfl | rfl | rfl | rfl | rfl | rfl | rfl | rfl | rfl | rfl | rfl | rfl | rfl | rfl | rfl | rfl | rfl | rfl | rfl | rfl | rfl | rfl | rfl | rfl | rfl | rfl | rfl | rfl | rfl | rfl | rfl | rfl | rfl | rfl | rfl | rfl
  · rw [efn3] at h; cases h; exact okf3 b hb
  · rw [efn4] at h; cases h; exact okf4 b hb
  · rw [efn5] at h; cases h; exact okf5 b hb
  · rw [efn6] at h; cases h; exact okf6 b hb
  · rw [efn7] at h; cases h; exact okf7 b hb
  · rw [efn8] at h; cases h; exact okf8 b hb
  · rw [efn9] at h; cases h; exact okf9 b hb
  · rw [efn10] at h; cases h; exact okf10 b hb
  · rw [efn11] at h; cases h; exact okf11 b hb
  · rw [efn12] at h; cases h; exact okf12 b hb
  · rw [efn13] at h; cases h; exact okf13 b hb
  · rw [efn14] at h; cases h; exact okf14 b hb
  · rw [efn15] at h; cases h; exact okf15 b hb
  · rw [efn16] at h; cases h; exact okf16 b hb
  · rw [efn17] at h; cases h; exact okf17 b hb
  · rw [efn18] at h; cases h; exact okf18 b hb
  · rw [efn19] at h; cases h; exact okf19 b hb
  · rw [efn20] at h; cases h; exact okf20 b hb
  · rw [efn21] at h; cases h; exact okf21 b hb
  · rw [efn22] at h; cases h; exact okf22 b hb
  · rw [efn23] at h; cases h; exact okf23 b hb
  · rw [efn24] at h; cases h; exact okf24 b hb
  · rw [efn25] at h; cases h; exact okf25 b hb
  · rw [efn26] at h; cases h; exact okf26 b hb
  · rw [efn27] at h; cases h; exact okf27 b hb
  · rw [efn28] at h; cases h; exact okf28 b hb
  · rw [efn29] at h; cases h; exact okf29 b hb
  · rw [efn30] at h; cases h; exact okf30 b hb
  · rw [efn31] at h; cases h; exact okf31 b hb
  · rw [efn32] at h; cases h; exact okf32 b hb
  · rw [efn33] at h; cases h; exact okf33 b hb
  · rw [efn34] at h; cases h; exact okf34 b hb
  · rw [efn35] at h; cases h; exact okf35 b hb
  · rw [efn36] at h; cases h; exact okf36 b hb
  · rw [efn37] at h; cases h; exact okf37 b hb
  · rw [efn38] at h; cases h; exact okf38 b hb
  · rw [efn39] at h; cases h; exact okf39 b hb
  · rw [efn40] at h; cases h; exact okf40 b hb
  · rw [efn41] at h; cases h; exact okf41 b hb
  · rw [efn42] at h; cases h; exact okf42 b hb
  · rw [efn43] at h; cases h; exact okf43 b hb
  · rw [efn44] at h; cases h; exact okf44 b hb
  · rw [efn45] at h; cases h; exact okf45 b hb
  · rw [efn46] at h; cases h; exact okf46 b hb
  · rw [efn47] at h; cases h; exact okf47 b hb
  · rw [efn48] at h; cases h; exact okf48 b hb
  · rw [efn49] at h; cases h; exact okf49 b hb
  · rw [efn50] at h; cases h; exact okf50 b hb
  · rw [efn51] at h; cases h; exact okf51 b hb
  · rw [efn52] at h; cases h; exact okf52 b hb
  · rw [efn53] at h; cases h; exact okf53 b hb
  · rw [efn54] at h; cases h; exact okf54 b hb
  · rw [efn55] at h; cases h; exact okf55 b hb
  · rw [efn56] at h; cases h; exact okf56 b hb
  · rw [efn57] at h; cases h; exact okf57 b hb
  · rw [efn58] at h; cases h; exact okf58 b hb
  · rw [efn59] at h; cases h; exact okf59 b hb
  · rw [efn60] at h; cases h; exact okf60 b hb
  · rw [efn61] at h; cases h; exact okf61 b hb
  · rw [efn62] at h; cases h; exact okf62 b hb
  · rw [efn63] at h; cases h; exact okf63 b hb
  · rw [efn64] at h; cases h; exact okf64 b hb
  · rw [efn65] at h; cases h; exact okf65 b hb
  · rw [efn66] at h; cases h; exact okf66 b hb
  · rw [efn67] at h; cases h; exact okf67 b hb
  · rw [efn68] at h; cases h; exact okf68 b hb
  · rw [efn69] at h; cases h; exact okf69 b hb
  · rw [efn70] at h; cases h; exact okf70 b hb
  · rw [efn71] at h; cases h; exact okf71 b hb
  · rw [efn72] at h; cases h; exact okf72 b hb
  · rw [efn73] at h; cases h; exact okf73 b hb
theorem mixed0 : Try.prog.follows .mixedOrders = true := by kernel_rfl
end Go.Dm
