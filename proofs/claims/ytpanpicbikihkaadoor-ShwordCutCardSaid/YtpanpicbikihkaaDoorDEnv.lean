/- The machine D, 31: this seat's environment. Written by wip/gen/env.py. -/
import Derived.Test.YtpanpicbikihkaaDoorDSymB
import Derived.Test.YtpanpicbikihkaaDoorProg
set_option linter.unusedVariables false
set_option linter.unusedSimpArgs false
set_option maxRecDepth 100000
namespace Go.Dm
open Go.Proofs
abbrev G0 : Nat := 1
def fns0 : List Nat := [3, 4, 5, 6, 7, 8, 9, 10, 11, 12, 13, 14, 15, 16, 17, 18, 19, 20, 21, 22, 23, 24, 25, 26, 27, 28, 29, 30, 32]
noncomputable def E0 : Env := { ty := Tryd.prog.info?, fn := fun f => if fns0.contains f then Tryd.prog.funcs[f]? else none, eqo := fun t => [7, 8, 33, 34, 40, 41, 45, 54, 55].contains t, mark := fun t => [5, 55].contains t }
@[simp] theorem eqo0 : E0.eqo 0 = false := by kernel_rfl
@[simp] theorem mrk0 : E0.mark 0 = false := by kernel_rfl
@[simp] theorem und0 : E0.und 0 = some (TypeDesc.tuple #[]) := by kernel_rfl
@[simp] theorem siz0 : E0.siz 0 = some 1 := by kernel_rfl
@[simp] theorem byt0 : E0.byt 0 = some 0 := by kernel_rfl
@[simp] theorem eqo1 : E0.eqo 1 = false := by kernel_rfl
@[simp] theorem mrk1 : E0.mark 1 = false := by kernel_rfl
@[simp] theorem und1 : E0.und 1 = some (TypeDesc.func #[] #[] false) := by kernel_rfl
@[simp] theorem siz1 : E0.siz 1 = some 1 := by kernel_rfl
@[simp] theorem byt1 : E0.byt 1 = some 8 := by kernel_rfl
@[simp] theorem zer1 : zeroD E0 1 = some (Value.nilFunc) := by kernel_rfl
@[simp] theorem eqo2 : E0.eqo 2 = false := by kernel_rfl
@[simp] theorem mrk2 : E0.mark 2 = false := by kernel_rfl
@[simp] theorem und2 : E0.und 2 = some (TypeDesc.int IntKind.i64) := by kernel_rfl
@[simp] theorem siz2 : E0.siz 2 = some 1 := by kernel_rfl
@[simp] theorem byt2 : E0.byt 2 = some 8 := by kernel_rfl
@[simp] theorem zer2 : zeroD E0 2 = some ((Value.int IntKind.i64 0)) := by kernel_rfl
@[simp] theorem eqo3 : E0.eqo 3 = false := by kernel_rfl
@[simp] theorem mrk3 : E0.mark 3 = false := by kernel_rfl
@[simp] theorem und3 : E0.und 3 = some (TypeDesc.int IntKind.i64) := by kernel_rfl
@[simp] theorem siz3 : E0.siz 3 = some 1 := by kernel_rfl
@[simp] theorem byt3 : E0.byt 3 = some 8 := by kernel_rfl
@[simp] theorem zer3 : zeroD E0 3 = some ((Value.int IntKind.i64 0)) := by kernel_rfl
@[simp] theorem eqo4 : E0.eqo 4 = false := by kernel_rfl
@[simp] theorem mrk4 : E0.mark 4 = false := by kernel_rfl
@[simp] theorem und4 : E0.und 4 = some TypeDesc.bool := by kernel_rfl
@[simp] theorem siz4 : E0.siz 4 = some 1 := by kernel_rfl
@[simp] theorem byt4 : E0.byt 4 = some 1 := by kernel_rfl
@[simp] theorem zer4 : zeroD E0 4 = some ((Value.bool false)) := by kernel_rfl
@[simp] theorem eqo5 : E0.eqo 5 = false := by kernel_rfl
@[simp] theorem mrk5 : E0.mark 5 = true := by kernel_rfl
@[simp] theorem und5 : E0.und 5 = some (TypeDesc.int IntKind.u8) := by kernel_rfl
@[simp] theorem siz5 : E0.siz 5 = some 1 := by kernel_rfl
@[simp] theorem byt5 : E0.byt 5 = some 1 := by kernel_rfl
@[simp] theorem zer5 : zeroD E0 5 = some ((Value.int IntKind.u8 0)) := by kernel_rfl
@[simp] theorem eqo6 : E0.eqo 6 = false := by kernel_rfl
@[simp] theorem mrk6 : E0.mark 6 = false := by kernel_rfl
@[simp] theorem und6 : E0.und 6 = some (TypeDesc.int IntKind.u8) := by kernel_rfl
@[simp] theorem siz6 : E0.siz 6 = some 1 := by kernel_rfl
@[simp] theorem byt6 : E0.byt 6 = some 1 := by kernel_rfl
@[simp] theorem zer6 : zeroD E0 6 = some ((Value.int IntKind.u8 0)) := by kernel_rfl
@[simp] theorem eqo7 : E0.eqo 7 = true := by kernel_rfl
@[simp] theorem mrk7 : E0.mark 7 = false := by kernel_rfl
@[simp] theorem und7 : E0.und 7 = some (TypeDesc.struct #[{ name := "x", type := 2, offset := 0, embedded := false, tag := "", pkgPath := "runtime", byteOffset := 0 }, { name := "y", type := 3, offset := 1, embedded := false, tag := "", pkgPath := "runtime", byteOffset := 8 }, { name := "signed", type := 4, offset := 2, embedded := false, tag := "", pkgPath := "runtime", byteOffset := 16 }, { name := "code", type := 6, offset := 3, embedded := false, tag := "", pkgPath := "runtime", byteOffset := 17 }]) := by kernel_rfl
@[simp] theorem siz7 : E0.siz 7 = some 4 := by kernel_rfl
@[simp] theorem byt7 : E0.byt 7 = some 24 := by kernel_rfl
@[simp] theorem zer7 : zeroD E0 7 = some ((Value.agg #[Value.int IntKind.i64 0, Value.int IntKind.i64 0, Value.bool false, Value.int IntKind.u8 0])) := by kernel_rfl
@[simp] theorem eqo8 : E0.eqo 8 = true := by kernel_rfl
@[simp] theorem mrk8 : E0.mark 8 = false := by kernel_rfl
@[simp] theorem und8 : E0.und 8 = some (TypeDesc.struct #[{ name := "x", type := 2, offset := 0, embedded := false, tag := "", pkgPath := "runtime", byteOffset := 0 }, { name := "y", type := 3, offset := 1, embedded := false, tag := "", pkgPath := "runtime", byteOffset := 8 }, { name := "signed", type := 4, offset := 2, embedded := false, tag := "", pkgPath := "runtime", byteOffset := 16 }, { name := "code", type := 6, offset := 3, embedded := false, tag := "", pkgPath := "runtime", byteOffset := 17 }]) := by kernel_rfl
@[simp] theorem siz8 : E0.siz 8 = some 4 := by kernel_rfl
@[simp] theorem byt8 : E0.byt 8 = some 24 := by kernel_rfl
@[simp] theorem zer8 : zeroD E0 8 = some ((Value.agg #[Value.int IntKind.i64 0, Value.int IntKind.i64 0, Value.bool false, Value.int IntKind.u8 0])) := by kernel_rfl
@[simp] theorem eqo9 : E0.eqo 9 = false := by kernel_rfl
@[simp] theorem mrk9 : E0.mark 9 = false := by kernel_rfl
@[simp] theorem und9 : E0.und 9 = some TypeDesc.string := by kernel_rfl
@[simp] theorem siz9 : E0.siz 9 = some 1 := by kernel_rfl
@[simp] theorem byt9 : E0.byt 9 = some 16 := by kernel_rfl
@[simp] theorem zer9 : zeroD E0 9 = some ((Value.string { data := #[] })) := by kernel_rfl
@[simp] theorem eqo10 : E0.eqo 10 = false := by kernel_rfl
@[simp] theorem mrk10 : E0.mark 10 = false := by kernel_rfl
@[simp] theorem und10 : E0.und 10 = some TypeDesc.string := by kernel_rfl
@[simp] theorem siz10 : E0.siz 10 = some 1 := by kernel_rfl
@[simp] theorem byt10 : E0.byt 10 = some 16 := by kernel_rfl
@[simp] theorem zer10 : zeroD E0 10 = some ((Value.string { data := #[] })) := by kernel_rfl
@[simp] theorem eqo11 : E0.eqo 11 = false := by kernel_rfl
@[simp] theorem mrk11 : E0.mark 11 = false := by kernel_rfl
@[simp] theorem und11 : E0.und 11 = some TypeDesc.string := by kernel_rfl
@[simp] theorem siz11 : E0.siz 11 = some 1 := by kernel_rfl
@[simp] theorem byt11 : E0.byt 11 = some 16 := by kernel_rfl
@[simp] theorem zer11 : zeroD E0 11 = some ((Value.string { data := #[] })) := by kernel_rfl
@[simp] theorem eqo12 : E0.eqo 12 = false := by kernel_rfl
@[simp] theorem mrk12 : E0.mark 12 = false := by kernel_rfl
@[simp] theorem und12 : E0.und 12 = some (TypeDesc.int IntKind.u64) := by kernel_rfl
@[simp] theorem siz12 : E0.siz 12 = some 1 := by kernel_rfl
@[simp] theorem byt12 : E0.byt 12 = some 8 := by kernel_rfl
@[simp] theorem zer12 : zeroD E0 12 = some ((Value.int IntKind.u64 0)) := by kernel_rfl
@[simp] theorem eqo13 : E0.eqo 13 = false := by kernel_rfl
@[simp] theorem mrk13 : E0.mark 13 = false := by kernel_rfl
@[simp] theorem und13 : E0.und 13 = some (TypeDesc.struct #[{ name := "msg", type := 9, offset := 0, embedded := false, tag := "", pkgPath := "runtime", byteOffset := 0 }, { name := "addr", type := 12, offset := 1, embedded := false, tag := "", pkgPath := "runtime", byteOffset := 16 }]) := by kernel_rfl
@[simp] theorem siz13 : E0.siz 13 = some 2 := by kernel_rfl
@[simp] theorem byt13 : E0.byt 13 = some 24 := by kernel_rfl
@[simp] theorem zer13 : zeroD E0 13 = some ((Value.agg #[Value.string { data := #[] }, Value.int IntKind.u64 0])) := by kernel_rfl
@[simp] theorem eqo14 : E0.eqo 14 = false := by kernel_rfl
@[simp] theorem mrk14 : E0.mark 14 = false := by kernel_rfl
@[simp] theorem und14 : E0.und 14 = some (TypeDesc.struct #[{ name := "msg", type := 9, offset := 0, embedded := false, tag := "", pkgPath := "runtime", byteOffset := 0 }, { name := "addr", type := 12, offset := 1, embedded := false, tag := "", pkgPath := "runtime", byteOffset := 16 }]) := by kernel_rfl
@[simp] theorem siz14 : E0.siz 14 = some 2 := by kernel_rfl
@[simp] theorem byt14 : E0.byt 14 = some 24 := by kernel_rfl
@[simp] theorem zer14 : zeroD E0 14 = some ((Value.agg #[Value.string { data := #[] }, Value.int IntKind.u64 0])) := by kernel_rfl
@[simp] theorem eqo15 : E0.eqo 15 = false := by kernel_rfl
@[simp] theorem mrk15 : E0.mark 15 = false := by kernel_rfl
@[simp] theorem und15 : E0.und 15 = some (TypeDesc.pointer 65) := by kernel_rfl
@[simp] theorem siz15 : E0.siz 15 = some 1 := by kernel_rfl
@[simp] theorem byt15 : E0.byt 15 = some 8 := by kernel_rfl
@[simp] theorem zer15 : zeroD E0 15 = some ((Value.pointer none)) := by kernel_rfl
@[simp] theorem eqo16 : E0.eqo 16 = false := by kernel_rfl
@[simp] theorem mrk16 : E0.mark 16 = false := by kernel_rfl
@[simp] theorem und16 : E0.und 16 = some (TypeDesc.pointer 68) := by kernel_rfl
@[simp] theorem siz16 : E0.siz 16 = some 1 := by kernel_rfl
@[simp] theorem byt16 : E0.byt 16 = some 8 := by kernel_rfl
@[simp] theorem zer16 : zeroD E0 16 = some ((Value.pointer none)) := by kernel_rfl
@[simp] theorem eqo17 : E0.eqo 17 = false := by kernel_rfl
@[simp] theorem mrk17 : E0.mark 17 = false := by kernel_rfl
@[simp] theorem und17 : E0.und 17 = some (TypeDesc.pointer 77) := by kernel_rfl
@[simp] theorem siz17 : E0.siz 17 = some 1 := by kernel_rfl
@[simp] theorem byt17 : E0.byt 17 = some 8 := by kernel_rfl
@[simp] theorem zer17 : zeroD E0 17 = some ((Value.pointer none)) := by kernel_rfl
@[simp] theorem eqo18 : E0.eqo 18 = false := by kernel_rfl
@[simp] theorem mrk18 : E0.mark 18 = false := by kernel_rfl
@[simp] theorem und18 : E0.und 18 = some (TypeDesc.struct #[{ name := "typ", type := 17, offset := 0, embedded := false, tag := "", pkgPath := "internal/runtime/maps", byteOffset := 0 }]) := by kernel_rfl
@[simp] theorem siz18 : E0.siz 18 = some 1 := by kernel_rfl
@[simp] theorem byt18 : E0.byt 18 = some 8 := by kernel_rfl
@[simp] theorem zer18 : zeroD E0 18 = some ((Value.agg #[Value.pointer none])) := by kernel_rfl
@[simp] theorem eqo19 : E0.eqo 19 = false := by kernel_rfl
@[simp] theorem mrk19 : E0.mark 19 = false := by kernel_rfl
@[simp] theorem und19 : E0.und 19 = some (TypeDesc.struct #[{ name := "typ", type := 17, offset := 0, embedded := false, tag := "", pkgPath := "internal/runtime/maps", byteOffset := 0 }]) := by kernel_rfl
@[simp] theorem siz19 : E0.siz 19 = some 1 := by kernel_rfl
@[simp] theorem byt19 : E0.byt 19 = some 8 := by kernel_rfl
@[simp] theorem zer19 : zeroD E0 19 = some ((Value.agg #[Value.pointer none])) := by kernel_rfl
@[simp] theorem eqo20 : E0.eqo 20 = false := by kernel_rfl
@[simp] theorem mrk20 : E0.mark 20 = false := by kernel_rfl
@[simp] theorem und20 : E0.und 20 = some (TypeDesc.interface #[]) := by kernel_rfl
@[simp] theorem siz20 : E0.siz 20 = some 1 := by kernel_rfl
@[simp] theorem byt20 : E0.byt 20 = some 16 := by kernel_rfl
@[simp] theorem zer20 : zeroD E0 20 = some (Value.nilIface) := by kernel_rfl
@[simp] theorem eqo21 : E0.eqo 21 = false := by kernel_rfl
@[simp] theorem mrk21 : E0.mark 21 = false := by kernel_rfl
@[simp] theorem und21 : E0.und 21 = some (TypeDesc.int IntKind.i32) := by kernel_rfl
@[simp] theorem siz21 : E0.siz 21 = some 1 := by kernel_rfl
@[simp] theorem byt21 : E0.byt 21 = some 4 := by kernel_rfl
@[simp] theorem zer21 : zeroD E0 21 = some ((Value.int IntKind.i32 0)) := by kernel_rfl
@[simp] theorem eqo22 : E0.eqo 22 = false := by kernel_rfl
@[simp] theorem mrk22 : E0.mark 22 = false := by kernel_rfl
@[simp] theorem und22 : E0.und 22 = some (TypeDesc.func #[] #[4] false) := by kernel_rfl
@[simp] theorem siz22 : E0.siz 22 = some 1 := by kernel_rfl
@[simp] theorem byt22 : E0.byt 22 = some 8 := by kernel_rfl
@[simp] theorem zer22 : zeroD E0 22 = some (Value.nilFunc) := by kernel_rfl
@[simp] theorem eqo23 : E0.eqo 23 = false := by kernel_rfl
@[simp] theorem mrk23 : E0.mark 23 = false := by kernel_rfl
@[simp] theorem und23 : E0.und 23 = some (TypeDesc.slice 34) := by kernel_rfl
@[simp] theorem siz23 : E0.siz 23 = some 1 := by kernel_rfl
@[simp] theorem byt23 : E0.byt 23 = some 24 := by kernel_rfl
@[simp] theorem zer23 : zeroD E0 23 = some ((Value.slice none 0 0)) := by kernel_rfl
@[simp] theorem eqo24 : E0.eqo 24 = false := by kernel_rfl
@[simp] theorem mrk24 : E0.mark 24 = false := by kernel_rfl
@[simp] theorem und24 : E0.und 24 = some (TypeDesc.tuple #[23, 5]) := by kernel_rfl
@[simp] theorem siz24 : E0.siz 24 = some 1 := by kernel_rfl
@[simp] theorem byt24 : E0.byt 24 = some 0 := by kernel_rfl
@[simp] theorem eqo25 : E0.eqo 25 = false := by kernel_rfl
@[simp] theorem mrk25 : E0.mark 25 = false := by kernel_rfl
@[simp] theorem und25 : E0.und 25 = some (TypeDesc.func #[9, 3, 5] #[23, 5] false) := by kernel_rfl
@[simp] theorem siz25 : E0.siz 25 = some 1 := by kernel_rfl
@[simp] theorem byt25 : E0.byt 25 = some 8 := by kernel_rfl
@[simp] theorem zer25 : zeroD E0 25 = some (Value.nilFunc) := by kernel_rfl
@[simp] theorem eqo26 : E0.eqo 26 = false := by kernel_rfl
@[simp] theorem mrk26 : E0.mark 26 = false := by kernel_rfl
@[simp] theorem und26 : E0.und 26 = some (TypeDesc.slice 45) := by kernel_rfl
@[simp] theorem siz26 : E0.siz 26 = some 1 := by kernel_rfl
@[simp] theorem byt26 : E0.byt 26 = some 24 := by kernel_rfl
@[simp] theorem zer26 : zeroD E0 26 = some ((Value.slice none 0 0)) := by kernel_rfl
@[simp] theorem eqo27 : E0.eqo 27 = false := by kernel_rfl
@[simp] theorem mrk27 : E0.mark 27 = false := by kernel_rfl
@[simp] theorem und27 : E0.und 27 = some (TypeDesc.tuple #[26, 5]) := by kernel_rfl
@[simp] theorem siz27 : E0.siz 27 = some 1 := by kernel_rfl
@[simp] theorem byt27 : E0.byt 27 = some 0 := by kernel_rfl
@[simp] theorem eqo28 : E0.eqo 28 = false := by kernel_rfl
@[simp] theorem mrk28 : E0.mark 28 = false := by kernel_rfl
@[simp] theorem und28 : E0.und 28 = some (TypeDesc.func #[9, 3, 5] #[26, 5] false) := by kernel_rfl
@[simp] theorem siz28 : E0.siz 28 = some 1 := by kernel_rfl
@[simp] theorem byt28 : E0.byt 28 = some 8 := by kernel_rfl
@[simp] theorem zer28 : zeroD E0 28 = some (Value.nilFunc) := by kernel_rfl
@[simp] theorem eqo29 : E0.eqo 29 = false := by kernel_rfl
@[simp] theorem mrk29 : E0.mark 29 = false := by kernel_rfl
@[simp] theorem und29 : E0.und 29 = some (TypeDesc.func #[23, 26] #[4] false) := by kernel_rfl
@[simp] theorem siz29 : E0.siz 29 = some 1 := by kernel_rfl
@[simp] theorem byt29 : E0.byt 29 = some 8 := by kernel_rfl
@[simp] theorem zer29 : zeroD E0 29 = some (Value.nilFunc) := by kernel_rfl
@[simp] theorem eqo30 : E0.eqo 30 = false := by kernel_rfl
@[simp] theorem mrk30 : E0.mark 30 = false := by kernel_rfl
@[simp] theorem und30 : E0.und 30 = some (TypeDesc.func #[9, 3, 5] #[4] false) := by kernel_rfl
@[simp] theorem siz30 : E0.siz 30 = some 1 := by kernel_rfl
@[simp] theorem byt30 : E0.byt 30 = some 8 := by kernel_rfl
@[simp] theorem zer30 : zeroD E0 30 = some (Value.nilFunc) := by kernel_rfl
@[simp] theorem eqo31 : E0.eqo 31 = false := by kernel_rfl
@[simp] theorem mrk31 : E0.mark 31 = false := by kernel_rfl
@[simp] theorem und31 : E0.und 31 = some (TypeDesc.func #[9, 3] #[3] false) := by kernel_rfl
@[simp] theorem siz31 : E0.siz 31 = some 1 := by kernel_rfl
@[simp] theorem byt31 : E0.byt 31 = some 8 := by kernel_rfl
@[simp] theorem zer31 : zeroD E0 31 = some (Value.nilFunc) := by kernel_rfl
@[simp] theorem eqo32 : E0.eqo 32 = false := by kernel_rfl
@[simp] theorem mrk32 : E0.mark 32 = false := by kernel_rfl
@[simp] theorem und32 : E0.und 32 = some (TypeDesc.func #[9, 3] #[4] false) := by kernel_rfl
@[simp] theorem siz32 : E0.siz 32 = some 1 := by kernel_rfl
@[simp] theorem byt32 : E0.byt 32 = some 8 := by kernel_rfl
@[simp] theorem zer32 : zeroD E0 32 = some (Value.nilFunc) := by kernel_rfl
@[simp] theorem eqo33 : E0.eqo 33 = true := by kernel_rfl
@[simp] theorem mrk33 : E0.mark 33 = false := by kernel_rfl
@[simp] theorem und33 : E0.und 33 = some (TypeDesc.struct #[{ name := "Kind", type := 5, offset := 0, embedded := false, tag := "", pkgPath := "", byteOffset := 0 }, { name := "From", type := 3, offset := 1, embedded := false, tag := "", pkgPath := "", byteOffset := 8 }, { name := "To", type := 3, offset := 2, embedded := false, tag := "", pkgPath := "", byteOffset := 16 }, { name := "Text", type := 9, offset := 3, embedded := false, tag := "", pkgPath := "", byteOffset := 24 }, { name := "Raw", type := 4, offset := 4, embedded := false, tag := "", pkgPath := "", byteOffset := 40 }, { name := "Whole", type := 4, offset := 5, embedded := false, tag := "", pkgPath := "", byteOffset := 41 }]) := by kernel_rfl
@[simp] theorem siz33 : E0.siz 33 = some 6 := by kernel_rfl
@[simp] theorem byt33 : E0.byt 33 = some 48 := by kernel_rfl
@[simp] theorem zer33 : zeroD E0 33 = some ((Value.agg #[Value.int IntKind.u8 0, Value.int IntKind.i64 0, Value.int IntKind.i64 0, Value.string { data := #[] }, Value.bool false, Value.bool false])) := by kernel_rfl
@[simp] theorem eqo34 : E0.eqo 34 = true := by kernel_rfl
@[simp] theorem mrk34 : E0.mark 34 = false := by kernel_rfl
@[simp] theorem und34 : E0.und 34 = some (TypeDesc.struct #[{ name := "Kind", type := 5, offset := 0, embedded := false, tag := "", pkgPath := "", byteOffset := 0 }, { name := "From", type := 3, offset := 1, embedded := false, tag := "", pkgPath := "", byteOffset := 8 }, { name := "To", type := 3, offset := 2, embedded := false, tag := "", pkgPath := "", byteOffset := 16 }, { name := "Text", type := 9, offset := 3, embedded := false, tag := "", pkgPath := "", byteOffset := 24 }, { name := "Raw", type := 4, offset := 4, embedded := false, tag := "", pkgPath := "", byteOffset := 40 }, { name := "Whole", type := 4, offset := 5, embedded := false, tag := "", pkgPath := "", byteOffset := 41 }]) := by kernel_rfl
@[simp] theorem siz34 : E0.siz 34 = some 6 := by kernel_rfl
@[simp] theorem byt34 : E0.byt 34 = some 48 := by kernel_rfl
@[simp] theorem zer34 : zeroD E0 34 = some ((Value.agg #[Value.int IntKind.u8 0, Value.int IntKind.i64 0, Value.int IntKind.i64 0, Value.string { data := #[] }, Value.bool false, Value.bool false])) := by kernel_rfl
@[simp] theorem eqo35 : E0.eqo 35 = false := by kernel_rfl
@[simp] theorem mrk35 : E0.mark 35 = false := by kernel_rfl
@[simp] theorem und35 : E0.und 35 = some (TypeDesc.func #[9] #[4] false) := by kernel_rfl
@[simp] theorem siz35 : E0.siz 35 = some 1 := by kernel_rfl
@[simp] theorem byt35 : E0.byt 35 = some 8 := by kernel_rfl
@[simp] theorem zer35 : zeroD E0 35 = some (Value.nilFunc) := by kernel_rfl
@[simp] theorem eqo36 : E0.eqo 36 = false := by kernel_rfl
@[simp] theorem mrk36 : E0.mark 36 = false := by kernel_rfl
@[simp] theorem und36 : E0.und 36 = some (TypeDesc.func #[9, 5, 5] #[4] false) := by kernel_rfl
@[simp] theorem siz36 : E0.siz 36 = some 1 := by kernel_rfl
@[simp] theorem byt36 : E0.byt 36 = some 8 := by kernel_rfl
@[simp] theorem zer36 : zeroD E0 36 = some (Value.nilFunc) := by kernel_rfl
@[simp] theorem eqo37 : E0.eqo 37 = false := by kernel_rfl
@[simp] theorem mrk37 : E0.mark 37 = false := by kernel_rfl
@[simp] theorem und37 : E0.und 37 = some (TypeDesc.tuple #[9, 4]) := by kernel_rfl
@[simp] theorem siz37 : E0.siz 37 = some 1 := by kernel_rfl
@[simp] theorem byt37 : E0.byt 37 = some 0 := by kernel_rfl
@[simp] theorem eqo38 : E0.eqo 38 = false := by kernel_rfl
@[simp] theorem mrk38 : E0.mark 38 = false := by kernel_rfl
@[simp] theorem und38 : E0.und 38 = some (TypeDesc.func #[9, 9] #[9, 4] false) := by kernel_rfl
@[simp] theorem siz38 : E0.siz 38 = some 1 := by kernel_rfl
@[simp] theorem byt38 : E0.byt 38 = some 8 := by kernel_rfl
@[simp] theorem zer38 : zeroD E0 38 = some (Value.nilFunc) := by kernel_rfl
@[simp] theorem eqo39 : E0.eqo 39 = false := by kernel_rfl
@[simp] theorem mrk39 : E0.mark 39 = false := by kernel_rfl
@[simp] theorem und39 : E0.und 39 = some (TypeDesc.pointer 41) := by kernel_rfl
@[simp] theorem siz39 : E0.siz 39 = some 1 := by kernel_rfl
@[simp] theorem byt39 : E0.byt 39 = some 8 := by kernel_rfl
@[simp] theorem zer39 : zeroD E0 39 = some ((Value.pointer none)) := by kernel_rfl
@[simp] theorem eqo40 : E0.eqo 40 = true := by kernel_rfl
@[simp] theorem mrk40 : E0.mark 40 = false := by kernel_rfl
@[simp] theorem und40 : E0.und 40 = some (TypeDesc.struct #[{ name := "s", type := 9, offset := 0, embedded := false, tag := "", pkgPath := "indenture/shword", byteOffset := 0 }, { name := "lf", type := 4, offset := 1, embedded := false, tag := "", pkgPath := "indenture/shword", byteOffset := 16 }, { name := "at", type := 3, offset := 2, embedded := false, tag := "", pkgPath := "indenture/shword", byteOffset := 24 }]) := by kernel_rfl
@[simp] theorem siz40 : E0.siz 40 = some 3 := by kernel_rfl
@[simp] theorem byt40 : E0.byt 40 = some 32 := by kernel_rfl
@[simp] theorem zer40 : zeroD E0 40 = some ((Value.agg #[Value.string { data := #[] }, Value.bool false, Value.int IntKind.i64 0])) := by kernel_rfl
@[simp] theorem eqo41 : E0.eqo 41 = true := by kernel_rfl
@[simp] theorem mrk41 : E0.mark 41 = false := by kernel_rfl
@[simp] theorem und41 : E0.und 41 = some (TypeDesc.struct #[{ name := "s", type := 9, offset := 0, embedded := false, tag := "", pkgPath := "indenture/shword", byteOffset := 0 }, { name := "lf", type := 4, offset := 1, embedded := false, tag := "", pkgPath := "indenture/shword", byteOffset := 16 }, { name := "at", type := 3, offset := 2, embedded := false, tag := "", pkgPath := "indenture/shword", byteOffset := 24 }]) := by kernel_rfl
@[simp] theorem siz41 : E0.siz 41 = some 3 := by kernel_rfl
@[simp] theorem byt41 : E0.byt 41 = some 32 := by kernel_rfl
@[simp] theorem zer41 : zeroD E0 41 = some ((Value.agg #[Value.string { data := #[] }, Value.bool false, Value.int IntKind.i64 0])) := by kernel_rfl
@[simp] theorem eqo42 : E0.eqo 42 = false := by kernel_rfl
@[simp] theorem mrk42 : E0.mark 42 = false := by kernel_rfl
@[simp] theorem und42 : E0.und 42 = some (TypeDesc.tuple #[34, 5]) := by kernel_rfl
@[simp] theorem siz42 : E0.siz 42 = some 1 := by kernel_rfl
@[simp] theorem byt42 : E0.byt 42 = some 0 := by kernel_rfl
@[simp] theorem eqo43 : E0.eqo 43 = false := by kernel_rfl
@[simp] theorem mrk43 : E0.mark 43 = false := by kernel_rfl
@[simp] theorem und43 : E0.und 43 = some (TypeDesc.func #[5] #[34, 5] false) := by kernel_rfl
@[simp] theorem siz43 : E0.siz 43 = some 1 := by kernel_rfl
@[simp] theorem byt43 : E0.byt 43 = some 8 := by kernel_rfl
@[simp] theorem zer43 : zeroD E0 43 = some (Value.nilFunc) := by kernel_rfl
@[simp] theorem eqo44 : E0.eqo 44 = false := by kernel_rfl
@[simp] theorem mrk44 : E0.mark 44 = false := by kernel_rfl
@[simp] theorem und44 : E0.und 44 = some (TypeDesc.func #[9] #[3] false) := by kernel_rfl
@[simp] theorem siz44 : E0.siz 44 = some 1 := by kernel_rfl
@[simp] theorem byt44 : E0.byt 44 = some 8 := by kernel_rfl
@[simp] theorem zer44 : zeroD E0 44 = some (Value.nilFunc) := by kernel_rfl
@[simp] theorem eqo45 : E0.eqo 45 = true := by kernel_rfl
@[simp] theorem mrk45 : E0.mark 45 = false := by kernel_rfl
@[simp] theorem und45 : E0.und 45 = some (TypeDesc.struct #[{ name := "Kind", type := 5, offset := 0, embedded := false, tag := "", pkgPath := "", byteOffset := 0 }, { name := "From", type := 3, offset := 1, embedded := false, tag := "", pkgPath := "", byteOffset := 8 }, { name := "To", type := 3, offset := 2, embedded := false, tag := "", pkgPath := "", byteOffset := 16 }, { name := "Text", type := 9, offset := 3, embedded := false, tag := "", pkgPath := "", byteOffset := 24 }, { name := "Raw", type := 4, offset := 4, embedded := false, tag := "", pkgPath := "", byteOffset := 40 }, { name := "Whole", type := 4, offset := 5, embedded := false, tag := "", pkgPath := "", byteOffset := 41 }]) := by kernel_rfl
@[simp] theorem siz45 : E0.siz 45 = some 6 := by kernel_rfl
@[simp] theorem byt45 : E0.byt 45 = some 48 := by kernel_rfl
@[simp] theorem zer45 : zeroD E0 45 = some ((Value.agg #[Value.int IntKind.u8 0, Value.int IntKind.i64 0, Value.int IntKind.i64 0, Value.string { data := #[] }, Value.bool false, Value.bool false])) := by kernel_rfl
@[simp] theorem eqo46 : E0.eqo 46 = false := by kernel_rfl
@[simp] theorem mrk46 : E0.mark 46 = false := by kernel_rfl
@[simp] theorem und46 : E0.und 46 = some (TypeDesc.tuple #[45, 5]) := by kernel_rfl
@[simp] theorem siz46 : E0.siz 46 = some 1 := by kernel_rfl
@[simp] theorem byt46 : E0.byt 46 = some 0 := by kernel_rfl
@[simp] theorem eqo47 : E0.eqo 47 = false := by kernel_rfl
@[simp] theorem mrk47 : E0.mark 47 = false := by kernel_rfl
@[simp] theorem und47 : E0.und 47 = some (TypeDesc.func #[9, 3, 5] #[45, 5] false) := by kernel_rfl
@[simp] theorem siz47 : E0.siz 47 = some 1 := by kernel_rfl
@[simp] theorem byt47 : E0.byt 47 = some 8 := by kernel_rfl
@[simp] theorem zer47 : zeroD E0 47 = some (Value.nilFunc) := by kernel_rfl
@[simp] theorem eqo48 : E0.eqo 48 = false := by kernel_rfl
@[simp] theorem mrk48 : E0.mark 48 = false := by kernel_rfl
@[simp] theorem und48 : E0.und 48 = some (TypeDesc.array 17 9) := by kernel_rfl
@[simp] theorem siz48 : E0.siz 48 = some 17 := by kernel_rfl
@[simp] theorem byt48 : E0.byt 48 = some 272 := by kernel_rfl
@[simp] theorem zer48 : zeroD E0 48 = some ((Value.agg #[Value.string { data := #[] }, Value.string { data := #[] }, Value.string { data := #[] }, Value.string { data := #[] }, Value.string { data := #[] }, Value.string { data := #[] }, Value.string { data := #[] }, Value.string { data := #[] }, Value.string { data := #[] }, Value.string { data := #[] }, Value.string { data := #[] }, Value.string { data := #[] }, Value.string { data := #[] }, Value.string { data := #[] }, Value.string { data := #[] }, Value.string { data := #[] }, Value.string { data := #[] }])) := by kernel_rfl
@[simp] theorem eqo49 : E0.eqo 49 = false := by kernel_rfl
@[simp] theorem mrk49 : E0.mark 49 = false := by kernel_rfl
@[simp] theorem und49 : E0.und 49 = some (TypeDesc.func #[9, 9] #[4] false) := by kernel_rfl
@[simp] theorem siz49 : E0.siz 49 = some 1 := by kernel_rfl
@[simp] theorem byt49 : E0.byt 49 = some 8 := by kernel_rfl
@[simp] theorem zer49 : zeroD E0 49 = some (Value.nilFunc) := by kernel_rfl
@[simp] theorem eqo50 : E0.eqo 50 = false := by kernel_rfl
@[simp] theorem mrk50 : E0.mark 50 = false := by kernel_rfl
@[simp] theorem und50 : E0.und 50 = some (TypeDesc.slice 9) := by kernel_rfl
@[simp] theorem siz50 : E0.siz 50 = some 1 := by kernel_rfl
@[simp] theorem byt50 : E0.byt 50 = some 24 := by kernel_rfl
@[simp] theorem zer50 : zeroD E0 50 = some ((Value.slice none 0 0)) := by kernel_rfl
@[simp] theorem eqo51 : E0.eqo 51 = false := by kernel_rfl
@[simp] theorem mrk51 : E0.mark 51 = false := by kernel_rfl
@[simp] theorem und51 : E0.und 51 = some (TypeDesc.func #[] #[50] false) := by kernel_rfl
@[simp] theorem siz51 : E0.siz 51 = some 1 := by kernel_rfl
@[simp] theorem byt51 : E0.byt 51 = some 8 := by kernel_rfl
@[simp] theorem zer51 : zeroD E0 51 = some (Value.nilFunc) := by kernel_rfl
@[simp] theorem eqo52 : E0.eqo 52 = false := by kernel_rfl
@[simp] theorem mrk52 : E0.mark 52 = false := by kernel_rfl
@[simp] theorem und52 : E0.und 52 = some (TypeDesc.pointer 55) := by kernel_rfl
@[simp] theorem siz52 : E0.siz 52 = some 1 := by kernel_rfl
@[simp] theorem byt52 : E0.byt 52 = some 8 := by kernel_rfl
@[simp] theorem zer52 : zeroD E0 52 = some ((Value.pointer none)) := by kernel_rfl
@[simp] theorem eqo53 : E0.eqo 53 = false := by kernel_rfl
@[simp] theorem mrk53 : E0.mark 53 = false := by kernel_rfl
@[simp] theorem und53 : E0.und 53 = some (TypeDesc.slice 5) := by kernel_rfl
@[simp] theorem siz53 : E0.siz 53 = some 1 := by kernel_rfl
@[simp] theorem byt53 : E0.byt 53 = some 24 := by kernel_rfl
@[simp] theorem zer53 : zeroD E0 53 = some ((Value.slice none 0 0)) := by kernel_rfl
@[simp] theorem eqo54 : E0.eqo 54 = true := by kernel_rfl
@[simp] theorem mrk54 : E0.mark 54 = false := by kernel_rfl
@[simp] theorem und54 : E0.und 54 = some (TypeDesc.struct #[{ name := "addr", type := 52, offset := 0, embedded := false, tag := "", pkgPath := "strings", byteOffset := 0 }, { name := "buf", type := 53, offset := 1, embedded := false, tag := "", pkgPath := "strings", byteOffset := 8 }]) := by kernel_rfl
@[simp] theorem siz54 : E0.siz 54 = some 2 := by kernel_rfl
@[simp] theorem byt54 : E0.byt 54 = some 32 := by kernel_rfl
@[simp] theorem zer54 : zeroD E0 54 = some ((Value.agg #[Value.pointer none, Value.slice none 0 0])) := by kernel_rfl
@[simp] theorem eqo55 : E0.eqo 55 = true := by kernel_rfl
@[simp] theorem mrk55 : E0.mark 55 = true := by kernel_rfl
@[simp] theorem und55 : E0.und 55 = some (TypeDesc.struct #[{ name := "addr", type := 52, offset := 0, embedded := false, tag := "", pkgPath := "strings", byteOffset := 0 }, { name := "buf", type := 53, offset := 1, embedded := false, tag := "", pkgPath := "strings", byteOffset := 8 }]) := by kernel_rfl
@[simp] theorem siz55 : E0.siz 55 = some 2 := by kernel_rfl
@[simp] theorem byt55 : E0.byt 55 = some 32 := by kernel_rfl
@[simp] theorem zer55 : zeroD E0 55 = some ((Value.agg #[Value.pointer none, Value.slice none 0 0])) := by kernel_rfl
@[simp] theorem eqo56 : E0.eqo 56 = false := by kernel_rfl
@[simp] theorem mrk56 : E0.mark 56 = false := by kernel_rfl
@[simp] theorem und56 : E0.und 56 = some (TypeDesc.func #[5] #[58] false) := by kernel_rfl
@[simp] theorem siz56 : E0.siz 56 = some 1 := by kernel_rfl
@[simp] theorem byt56 : E0.byt 56 = some 8 := by kernel_rfl
@[simp] theorem zer56 : zeroD E0 56 = some (Value.nilFunc) := by kernel_rfl
@[simp] theorem eqo57 : E0.eqo 57 = false := by kernel_rfl
@[simp] theorem mrk57 : E0.mark 57 = false := by kernel_rfl
@[simp] theorem und57 : E0.und 57 = some (TypeDesc.interface #[("Error", 59)]) := by kernel_rfl
@[simp] theorem siz57 : E0.siz 57 = some 1 := by kernel_rfl
@[simp] theorem byt57 : E0.byt 57 = some 16 := by kernel_rfl
@[simp] theorem zer57 : zeroD E0 57 = some (Value.nilIface) := by kernel_rfl
@[simp] theorem eqo58 : E0.eqo 58 = false := by kernel_rfl
@[simp] theorem mrk58 : E0.mark 58 = false := by kernel_rfl
@[simp] theorem und58 : E0.und 58 = some (TypeDesc.interface #[("Error", 59)]) := by kernel_rfl
@[simp] theorem siz58 : E0.siz 58 = some 1 := by kernel_rfl
@[simp] theorem byt58 : E0.byt 58 = some 16 := by kernel_rfl
@[simp] theorem zer58 : zeroD E0 58 = some (Value.nilIface) := by kernel_rfl
@[simp] theorem eqo59 : E0.eqo 59 = false := by kernel_rfl
@[simp] theorem mrk59 : E0.mark 59 = false := by kernel_rfl
@[simp] theorem und59 : E0.und 59 = some (TypeDesc.func #[] #[9] false) := by kernel_rfl
@[simp] theorem siz59 : E0.siz 59 = some 1 := by kernel_rfl
@[simp] theorem byt59 : E0.byt 59 = some 8 := by kernel_rfl
@[simp] theorem zer59 : zeroD E0 59 = some (Value.nilFunc) := by kernel_rfl
@[simp] theorem eqo60 : E0.eqo 60 = false := by kernel_rfl
@[simp] theorem mrk60 : E0.mark 60 = false := by kernel_rfl
@[simp] theorem und60 : E0.und 60 = some (TypeDesc.func #[9, 5] #[3] false) := by kernel_rfl
@[simp] theorem siz60 : E0.siz 60 = some 1 := by kernel_rfl
@[simp] theorem byt60 : E0.byt 60 = some 8 := by kernel_rfl
@[simp] theorem zer60 : zeroD E0 60 = some (Value.nilFunc) := by kernel_rfl
@[simp] theorem eqo61 : E0.eqo 61 = false := by kernel_rfl
@[simp] theorem mrk61 : E0.mark 61 = false := by kernel_rfl
@[simp] theorem und61 : E0.und 61 = some (TypeDesc.pointer 5) := by kernel_rfl
@[simp] theorem siz61 : E0.siz 61 = some 1 := by kernel_rfl
@[simp] theorem byt61 : E0.byt 61 = some 8 := by kernel_rfl
@[simp] theorem zer61 : zeroD E0 61 = some ((Value.pointer none)) := by kernel_rfl
@[simp] theorem eqo62 : E0.eqo 62 = false := by kernel_rfl
@[simp] theorem mrk62 : E0.mark 62 = false := by kernel_rfl
@[simp] theorem und62 : E0.und 62 = some TypeDesc.unsafePointer := by kernel_rfl
@[simp] theorem siz62 : E0.siz 62 = some 1 := by kernel_rfl
@[simp] theorem byt62 : E0.byt 62 = some 8 := by kernel_rfl
@[simp] theorem zer62 : zeroD E0 62 = some ((Value.pointer none)) := by kernel_rfl
@[simp] theorem eqo63 : E0.eqo 63 = false := by kernel_rfl
@[simp] theorem mrk63 : E0.mark 63 = false := by kernel_rfl
@[simp] theorem und63 : E0.und 63 = some (TypeDesc.func #[62] #[62] false) := by kernel_rfl
@[simp] theorem siz63 : E0.siz 63 = some 1 := by kernel_rfl
@[simp] theorem byt63 : E0.byt 63 = some 8 := by kernel_rfl
@[simp] theorem zer63 : zeroD E0 63 = some (Value.nilFunc) := by kernel_rfl
@[simp] theorem eqo64 : E0.eqo 64 = false := by kernel_rfl
@[simp] theorem mrk64 : E0.mark 64 = false := by kernel_rfl
@[simp] theorem und64 : E0.und 64 = some (TypeDesc.struct #[{ name := "_interface", type := 17, offset := 0, embedded := false, tag := "", pkgPath := "runtime", byteOffset := 0 }, { name := "concrete", type := 17, offset := 1, embedded := false, tag := "", pkgPath := "runtime", byteOffset := 8 }, { name := "asserted", type := 17, offset := 2, embedded := false, tag := "", pkgPath := "runtime", byteOffset := 16 }, { name := "missingMethod", type := 9, offset := 3, embedded := false, tag := "", pkgPath := "runtime", byteOffset := 24 }]) := by kernel_rfl
@[simp] theorem siz64 : E0.siz 64 = some 4 := by kernel_rfl
@[simp] theorem byt64 : E0.byt 64 = some 40 := by kernel_rfl
@[simp] theorem zer64 : zeroD E0 64 = some ((Value.agg #[Value.pointer none, Value.pointer none, Value.pointer none, Value.string { data := #[] }])) := by kernel_rfl
@[simp] theorem eqo65 : E0.eqo 65 = false := by kernel_rfl
@[simp] theorem mrk65 : E0.mark 65 = false := by kernel_rfl
@[simp] theorem und65 : E0.und 65 = some (TypeDesc.struct #[{ name := "_interface", type := 17, offset := 0, embedded := false, tag := "", pkgPath := "runtime", byteOffset := 0 }, { name := "concrete", type := 17, offset := 1, embedded := false, tag := "", pkgPath := "runtime", byteOffset := 8 }, { name := "asserted", type := 17, offset := 2, embedded := false, tag := "", pkgPath := "runtime", byteOffset := 16 }, { name := "missingMethod", type := 9, offset := 3, embedded := false, tag := "", pkgPath := "runtime", byteOffset := 24 }]) := by kernel_rfl
@[simp] theorem siz65 : E0.siz 65 = some 4 := by kernel_rfl
@[simp] theorem byt65 : E0.byt 65 = some 40 := by kernel_rfl
@[simp] theorem zer65 : zeroD E0 65 = some ((Value.agg #[Value.pointer none, Value.pointer none, Value.pointer none, Value.string { data := #[] }])) := by kernel_rfl
@[simp] theorem eqo66 : E0.eqo 66 = false := by kernel_rfl
@[simp] theorem mrk66 : E0.mark 66 = false := by kernel_rfl
@[simp] theorem und66 : E0.und 66 = some (TypeDesc.array 0 16) := by kernel_rfl
@[simp] theorem siz66 : E0.siz 66 = some 0 := by kernel_rfl
@[simp] theorem byt66 : E0.byt 66 = some 0 := by kernel_rfl
@[simp] theorem zer66 : zeroD E0 66 = some ((Value.agg #[])) := by kernel_rfl
@[simp] theorem eqo67 : E0.eqo 67 = false := by kernel_rfl
@[simp] theorem mrk67 : E0.mark 67 = false := by kernel_rfl
@[simp] theorem und67 : E0.und 67 = some (TypeDesc.struct #[{ name := "_", type := 66, offset := 0, embedded := false, tag := "", pkgPath := "runtime", byteOffset := 0 }]) := by kernel_rfl
@[simp] theorem siz67 : E0.siz 67 = some 0 := by kernel_rfl
@[simp] theorem byt67 : E0.byt 67 = some 0 := by kernel_rfl
@[simp] theorem zer67 : zeroD E0 67 = some ((Value.agg #[])) := by kernel_rfl
@[simp] theorem eqo68 : E0.eqo 68 = false := by kernel_rfl
@[simp] theorem mrk68 : E0.mark 68 = false := by kernel_rfl
@[simp] theorem und68 : E0.und 68 = some (TypeDesc.struct #[{ name := "_", type := 66, offset := 0, embedded := false, tag := "", pkgPath := "runtime", byteOffset := 0 }]) := by kernel_rfl
@[simp] theorem siz68 : E0.siz 68 = some 0 := by kernel_rfl
@[simp] theorem byt68 : E0.byt 68 = some 0 := by kernel_rfl
@[simp] theorem zer68 : zeroD E0 68 = some ((Value.agg #[])) := by kernel_rfl
@[simp] theorem eqo69 : E0.eqo 69 = false := by kernel_rfl
@[simp] theorem mrk69 : E0.mark 69 = false := by kernel_rfl
@[simp] theorem und69 : E0.und 69 = some (TypeDesc.func #[] #[3] false) := by kernel_rfl
@[simp] theorem siz69 : E0.siz 69 = some 1 := by kernel_rfl
@[simp] theorem byt69 : E0.byt 69 = some 8 := by kernel_rfl
@[simp] theorem zer69 : zeroD E0 69 = some (Value.nilFunc) := by kernel_rfl
@[simp] theorem eqo70 : E0.eqo 70 = false := by kernel_rfl
@[simp] theorem mrk70 : E0.mark 70 = false := by kernel_rfl
@[simp] theorem und70 : E0.und 70 = some (TypeDesc.int IntKind.u32) := by kernel_rfl
@[simp] theorem siz70 : E0.siz 70 = some 1 := by kernel_rfl
@[simp] theorem byt70 : E0.byt 70 = some 4 := by kernel_rfl
@[simp] theorem zer70 : zeroD E0 70 = some ((Value.int IntKind.u32 0)) := by kernel_rfl
@[simp] theorem eqo71 : E0.eqo 71 = false := by kernel_rfl
@[simp] theorem mrk71 : E0.mark 71 = false := by kernel_rfl
@[simp] theorem und71 : E0.und 71 = some (TypeDesc.int IntKind.u8) := by kernel_rfl
@[simp] theorem siz71 : E0.siz 71 = some 1 := by kernel_rfl
@[simp] theorem byt71 : E0.byt 71 = some 1 := by kernel_rfl
@[simp] theorem zer71 : zeroD E0 71 = some ((Value.int IntKind.u8 0)) := by kernel_rfl
@[simp] theorem eqo72 : E0.eqo 72 = false := by kernel_rfl
@[simp] theorem mrk72 : E0.mark 72 = false := by kernel_rfl
@[simp] theorem und72 : E0.und 72 = some (TypeDesc.int IntKind.u8) := by kernel_rfl
@[simp] theorem siz72 : E0.siz 72 = some 1 := by kernel_rfl
@[simp] theorem byt72 : E0.byt 72 = some 1 := by kernel_rfl
@[simp] theorem zer72 : zeroD E0 72 = some ((Value.int IntKind.u8 0)) := by kernel_rfl
@[simp] theorem eqo73 : E0.eqo 73 = false := by kernel_rfl
@[simp] theorem mrk73 : E0.mark 73 = false := by kernel_rfl
@[simp] theorem und73 : E0.und 73 = some (TypeDesc.func #[62, 62] #[4] false) := by kernel_rfl
@[simp] theorem siz73 : E0.siz 73 = some 1 := by kernel_rfl
@[simp] theorem byt73 : E0.byt 73 = some 8 := by kernel_rfl
@[simp] theorem zer73 : zeroD E0 73 = some (Value.nilFunc) := by kernel_rfl
@[simp] theorem eqo74 : E0.eqo 74 = false := by kernel_rfl
@[simp] theorem mrk74 : E0.mark 74 = false := by kernel_rfl
@[simp] theorem und74 : E0.und 74 = some (TypeDesc.int IntKind.i32) := by kernel_rfl
@[simp] theorem siz74 : E0.siz 74 = some 1 := by kernel_rfl
@[simp] theorem byt74 : E0.byt 74 = some 4 := by kernel_rfl
@[simp] theorem zer74 : zeroD E0 74 = some ((Value.int IntKind.i32 0)) := by kernel_rfl
@[simp] theorem eqo75 : E0.eqo 75 = false := by kernel_rfl
@[simp] theorem mrk75 : E0.mark 75 = false := by kernel_rfl
@[simp] theorem und75 : E0.und 75 = some (TypeDesc.int IntKind.i32) := by kernel_rfl
@[simp] theorem siz75 : E0.siz 75 = some 1 := by kernel_rfl
@[simp] theorem byt75 : E0.byt 75 = some 4 := by kernel_rfl
@[simp] theorem zer75 : zeroD E0 75 = some ((Value.int IntKind.i32 0)) := by kernel_rfl
@[simp] theorem eqo76 : E0.eqo 76 = false := by kernel_rfl
@[simp] theorem mrk76 : E0.mark 76 = false := by kernel_rfl
@[simp] theorem und76 : E0.und 76 = some (TypeDesc.struct #[{ name := "Size_", type := 12, offset := 0, embedded := false, tag := "", pkgPath := "", byteOffset := 0 }, { name := "PtrBytes", type := 12, offset := 1, embedded := false, tag := "", pkgPath := "", byteOffset := 8 }, { name := "Hash", type := 70, offset := 2, embedded := false, tag := "", pkgPath := "", byteOffset := 16 }, { name := "TFlag", type := 71, offset := 3, embedded := false, tag := "", pkgPath := "", byteOffset := 20 }, { name := "Align_", type := 5, offset := 4, embedded := false, tag := "", pkgPath := "", byteOffset := 21 }, { name := "FieldAlign_", type := 5, offset := 5, embedded := false, tag := "", pkgPath := "", byteOffset := 22 }, { name := "Kind_", type := 72, offset := 6, embedded := false, tag := "", pkgPath := "", byteOffset := 23 }, { name := "Equal", type := 73, offset := 7, embedded := false, tag := "", pkgPath := "", byteOffset := 24 }, { name := "GCData", type := 61, offset := 8, embedded := false, tag := "", pkgPath := "", byteOffset := 32 }, { name := "Str", type := 74, offset := 9, embedded := false, tag := "", pkgPath := "", byteOffset := 40 }, { name := "PtrToThis", type := 75, offset := 10, embedded := false, tag := "", pkgPath := "", byteOffset := 44 }]) := by kernel_rfl
@[simp] theorem siz76 : E0.siz 76 = some 11 := by kernel_rfl
@[simp] theorem byt76 : E0.byt 76 = some 48 := by kernel_rfl
@[simp] theorem zer76 : zeroD E0 76 = some ((Value.agg #[Value.int IntKind.u64 0, Value.int IntKind.u64 0, Value.int IntKind.u32 0, Value.int IntKind.u8 0, Value.int IntKind.u8 0, Value.int IntKind.u8 0, Value.int IntKind.u8 0, Value.nilFunc, Value.pointer none, Value.int IntKind.i32 0, Value.int IntKind.i32 0])) := by kernel_rfl
@[simp] theorem eqo77 : E0.eqo 77 = false := by kernel_rfl
@[simp] theorem mrk77 : E0.mark 77 = false := by kernel_rfl
@[simp] theorem und77 : E0.und 77 = some (TypeDesc.struct #[{ name := "Size_", type := 12, offset := 0, embedded := false, tag := "", pkgPath := "", byteOffset := 0 }, { name := "PtrBytes", type := 12, offset := 1, embedded := false, tag := "", pkgPath := "", byteOffset := 8 }, { name := "Hash", type := 70, offset := 2, embedded := false, tag := "", pkgPath := "", byteOffset := 16 }, { name := "TFlag", type := 71, offset := 3, embedded := false, tag := "", pkgPath := "", byteOffset := 20 }, { name := "Align_", type := 5, offset := 4, embedded := false, tag := "", pkgPath := "", byteOffset := 21 }, { name := "FieldAlign_", type := 5, offset := 5, embedded := false, tag := "", pkgPath := "", byteOffset := 22 }, { name := "Kind_", type := 72, offset := 6, embedded := false, tag := "", pkgPath := "", byteOffset := 23 }, { name := "Equal", type := 73, offset := 7, embedded := false, tag := "", pkgPath := "", byteOffset := 24 }, { name := "GCData", type := 61, offset := 8, embedded := false, tag := "", pkgPath := "", byteOffset := 32 }, { name := "Str", type := 74, offset := 9, embedded := false, tag := "", pkgPath := "", byteOffset := 40 }, { name := "PtrToThis", type := 75, offset := 10, embedded := false, tag := "", pkgPath := "", byteOffset := 44 }]) := by kernel_rfl
@[simp] theorem siz77 : E0.siz 77 = some 11 := by kernel_rfl
@[simp] theorem byt77 : E0.byt 77 = some 48 := by kernel_rfl
@[simp] theorem zer77 : zeroD E0 77 = some ((Value.agg #[Value.int IntKind.u64 0, Value.int IntKind.u64 0, Value.int IntKind.u32 0, Value.int IntKind.u8 0, Value.int IntKind.u8 0, Value.int IntKind.u8 0, Value.int IntKind.u8 0, Value.nilFunc, Value.pointer none, Value.int IntKind.i32 0, Value.int IntKind.i32 0])) := by kernel_rfl
@[simp] theorem efn3 : E0.fn 3 = some Tryd.f3 := (show (if fns0.contains 3 = true then Tryd.prog.funcs[3]? else none) = some Tryd.f3 from (if_pos (by decide)).trans Tryd.func3)
theorem okf3 : ∀ b, Tryd.f3.body = some b → okC E0 1 true Tryd.f3.ntmps b = true := by
  have h : (match Tryd.f3.body with | some b => okC E0 1 true Tryd.f3.ntmps b | none => true) = true := by kernel_rfl
  intro b hb; rw [hb] at h; exact h
theorem nmf3 : (Tryd.f3.name == "runtime.NumGoroutine") = false := by kernel_rfl
@[simp] theorem efn4 : E0.fn 4 = some Tryd.f4 := (show (if fns0.contains 4 = true then Tryd.prog.funcs[4]? else none) = some Tryd.f4 from (if_pos (by decide)).trans Tryd.func4)
theorem okf4 : ∀ b, Tryd.f4.body = some b → okC E0 1 true Tryd.f4.ntmps b = true := by
  have h : (match Tryd.f4.body with | some b => okC E0 1 true Tryd.f4.ntmps b | none => true) = true := by kernel_rfl
  intro b hb; rw [hb] at h; exact h
theorem nmf4 : (Tryd.f4.name == "runtime.NumGoroutine") = false := by kernel_rfl
@[simp] theorem efn5 : E0.fn 5 = some Tryd.f5 := (show (if fns0.contains 5 = true then Tryd.prog.funcs[5]? else none) = some Tryd.f5 from (if_pos (by decide)).trans Tryd.func5)
theorem okf5 : ∀ b, Tryd.f5.body = some b → okC E0 1 true Tryd.f5.ntmps b = true := by
  have h : (match Tryd.f5.body with | some b => okC E0 1 true Tryd.f5.ntmps b | none => true) = true := by kernel_rfl
  intro b hb; rw [hb] at h; exact h
theorem nmf5 : (Tryd.f5.name == "runtime.NumGoroutine") = false := by kernel_rfl
@[simp] theorem efn6 : E0.fn 6 = some Tryd.f6 := (show (if fns0.contains 6 = true then Tryd.prog.funcs[6]? else none) = some Tryd.f6 from (if_pos (by decide)).trans Tryd.func6)
theorem okf6 : ∀ b, Tryd.f6.body = some b → okC E0 1 true Tryd.f6.ntmps b = true := by
  have h : (match Tryd.f6.body with | some b => okC E0 1 true Tryd.f6.ntmps b | none => true) = true := by kernel_rfl
  intro b hb; rw [hb] at h; exact h
theorem nmf6 : (Tryd.f6.name == "runtime.NumGoroutine") = false := by kernel_rfl
@[simp] theorem efn7 : E0.fn 7 = some Tryd.f7 := (show (if fns0.contains 7 = true then Tryd.prog.funcs[7]? else none) = some Tryd.f7 from (if_pos (by decide)).trans Tryd.func7)
theorem okf7 : ∀ b, Tryd.f7.body = some b → okC E0 1 true Tryd.f7.ntmps b = true := by
  have h : (match Tryd.f7.body with | some b => okC E0 1 true Tryd.f7.ntmps b | none => true) = true := by kernel_rfl
  intro b hb; rw [hb] at h; exact h
theorem nmf7 : (Tryd.f7.name == "runtime.NumGoroutine") = false := by kernel_rfl
@[simp] theorem efn8 : E0.fn 8 = some Tryd.f8 := (show (if fns0.contains 8 = true then Tryd.prog.funcs[8]? else none) = some Tryd.f8 from (if_pos (by decide)).trans Tryd.func8)
theorem okf8 : ∀ b, Tryd.f8.body = some b → okC E0 1 true Tryd.f8.ntmps b = true := by
  have h : (match Tryd.f8.body with | some b => okC E0 1 true Tryd.f8.ntmps b | none => true) = true := by kernel_rfl
  intro b hb; rw [hb] at h; exact h
theorem nmf8 : (Tryd.f8.name == "runtime.NumGoroutine") = false := by kernel_rfl
@[simp] theorem efn9 : E0.fn 9 = some Tryd.f9 := (show (if fns0.contains 9 = true then Tryd.prog.funcs[9]? else none) = some Tryd.f9 from (if_pos (by decide)).trans Tryd.func9)
theorem okf9 : ∀ b, Tryd.f9.body = some b → okC E0 1 true Tryd.f9.ntmps b = true := by
  have h : (match Tryd.f9.body with | some b => okC E0 1 true Tryd.f9.ntmps b | none => true) = true := by kernel_rfl
  intro b hb; rw [hb] at h; exact h
theorem nmf9 : (Tryd.f9.name == "runtime.NumGoroutine") = false := by kernel_rfl
@[simp] theorem efn10 : E0.fn 10 = some Tryd.f10 := (show (if fns0.contains 10 = true then Tryd.prog.funcs[10]? else none) = some Tryd.f10 from (if_pos (by decide)).trans Tryd.func10)
theorem okf10 : ∀ b, Tryd.f10.body = some b → okC E0 1 true Tryd.f10.ntmps b = true := by
  have h : (match Tryd.f10.body with | some b => okC E0 1 true Tryd.f10.ntmps b | none => true) = true := by kernel_rfl
  intro b hb; rw [hb] at h; exact h
theorem nmf10 : (Tryd.f10.name == "runtime.NumGoroutine") = false := by kernel_rfl
@[simp] theorem efn11 : E0.fn 11 = some Tryd.f11 := (show (if fns0.contains 11 = true then Tryd.prog.funcs[11]? else none) = some Tryd.f11 from (if_pos (by decide)).trans Tryd.func11)
theorem okf11 : ∀ b, Tryd.f11.body = some b → okC E0 1 true Tryd.f11.ntmps b = true := by
  have h : (match Tryd.f11.body with | some b => okC E0 1 true Tryd.f11.ntmps b | none => true) = true := by kernel_rfl
  intro b hb; rw [hb] at h; exact h
theorem nmf11 : (Tryd.f11.name == "runtime.NumGoroutine") = false := by kernel_rfl
@[simp] theorem efn12 : E0.fn 12 = some Tryd.f12 := (show (if fns0.contains 12 = true then Tryd.prog.funcs[12]? else none) = some Tryd.f12 from (if_pos (by decide)).trans Tryd.func12)
theorem okf12 : ∀ b, Tryd.f12.body = some b → okC E0 1 true Tryd.f12.ntmps b = true := by
  have h : (match Tryd.f12.body with | some b => okC E0 1 true Tryd.f12.ntmps b | none => true) = true := by kernel_rfl
  intro b hb; rw [hb] at h; exact h
theorem nmf12 : (Tryd.f12.name == "runtime.NumGoroutine") = false := by kernel_rfl
@[simp] theorem efn13 : E0.fn 13 = some Tryd.f13 := (show (if fns0.contains 13 = true then Tryd.prog.funcs[13]? else none) = some Tryd.f13 from (if_pos (by decide)).trans Tryd.func13)
theorem okf13 : ∀ b, Tryd.f13.body = some b → okC E0 1 true Tryd.f13.ntmps b = true := by
  have h : (match Tryd.f13.body with | some b => okC E0 1 true Tryd.f13.ntmps b | none => true) = true := by kernel_rfl
  intro b hb; rw [hb] at h; exact h
theorem nmf13 : (Tryd.f13.name == "runtime.NumGoroutine") = false := by kernel_rfl
@[simp] theorem efn14 : E0.fn 14 = some Tryd.f14 := (show (if fns0.contains 14 = true then Tryd.prog.funcs[14]? else none) = some Tryd.f14 from (if_pos (by decide)).trans Tryd.func14)
theorem okf14 : ∀ b, Tryd.f14.body = some b → okC E0 1 true Tryd.f14.ntmps b = true := by
  have h : (match Tryd.f14.body with | some b => okC E0 1 true Tryd.f14.ntmps b | none => true) = true := by kernel_rfl
  intro b hb; rw [hb] at h; exact h
theorem nmf14 : (Tryd.f14.name == "runtime.NumGoroutine") = false := by kernel_rfl
@[simp] theorem efn15 : E0.fn 15 = some Tryd.f15 := (show (if fns0.contains 15 = true then Tryd.prog.funcs[15]? else none) = some Tryd.f15 from (if_pos (by decide)).trans Tryd.func15)
theorem okf15 : ∀ b, Tryd.f15.body = some b → okC E0 1 true Tryd.f15.ntmps b = true := by
  have h : (match Tryd.f15.body with | some b => okC E0 1 true Tryd.f15.ntmps b | none => true) = true := by kernel_rfl
  intro b hb; rw [hb] at h; exact h
theorem nmf15 : (Tryd.f15.name == "runtime.NumGoroutine") = false := by kernel_rfl
@[simp] theorem efn16 : E0.fn 16 = some Tryd.f16 := (show (if fns0.contains 16 = true then Tryd.prog.funcs[16]? else none) = some Tryd.f16 from (if_pos (by decide)).trans Tryd.func16)
theorem okf16 : ∀ b, Tryd.f16.body = some b → okC E0 1 true Tryd.f16.ntmps b = true := by
  have h : (match Tryd.f16.body with | some b => okC E0 1 true Tryd.f16.ntmps b | none => true) = true := by kernel_rfl
  intro b hb; rw [hb] at h; exact h
theorem nmf16 : (Tryd.f16.name == "runtime.NumGoroutine") = false := by kernel_rfl
@[simp] theorem efn17 : E0.fn 17 = some Tryd.f17 := (show (if fns0.contains 17 = true then Tryd.prog.funcs[17]? else none) = some Tryd.f17 from (if_pos (by decide)).trans Tryd.func17)
theorem okf17 : ∀ b, Tryd.f17.body = some b → okC E0 1 true Tryd.f17.ntmps b = true := by
  have h : (match Tryd.f17.body with | some b => okC E0 1 true Tryd.f17.ntmps b | none => true) = true := by kernel_rfl
  intro b hb; rw [hb] at h; exact h
theorem nmf17 : (Tryd.f17.name == "runtime.NumGoroutine") = false := by kernel_rfl
@[simp] theorem efn18 : E0.fn 18 = some Tryd.f18 := (show (if fns0.contains 18 = true then Tryd.prog.funcs[18]? else none) = some Tryd.f18 from (if_pos (by decide)).trans Tryd.func18)
theorem okf18 : ∀ b, Tryd.f18.body = some b → okC E0 1 true Tryd.f18.ntmps b = true := by
  have h : (match Tryd.f18.body with | some b => okC E0 1 true Tryd.f18.ntmps b | none => true) = true := by kernel_rfl
  intro b hb; rw [hb] at h; exact h
theorem nmf18 : (Tryd.f18.name == "runtime.NumGoroutine") = false := by kernel_rfl
@[simp] theorem efn19 : E0.fn 19 = some Tryd.f19 := (show (if fns0.contains 19 = true then Tryd.prog.funcs[19]? else none) = some Tryd.f19 from (if_pos (by decide)).trans Tryd.func19)
theorem okf19 : ∀ b, Tryd.f19.body = some b → okC E0 1 true Tryd.f19.ntmps b = true := by
  have h : (match Tryd.f19.body with | some b => okC E0 1 true Tryd.f19.ntmps b | none => true) = true := by kernel_rfl
  intro b hb; rw [hb] at h; exact h
theorem nmf19 : (Tryd.f19.name == "runtime.NumGoroutine") = false := by kernel_rfl
@[simp] theorem efn20 : E0.fn 20 = some Tryd.f20 := (show (if fns0.contains 20 = true then Tryd.prog.funcs[20]? else none) = some Tryd.f20 from (if_pos (by decide)).trans Tryd.func20)
theorem okf20 : ∀ b, Tryd.f20.body = some b → okC E0 1 true Tryd.f20.ntmps b = true := by
  have h : (match Tryd.f20.body with | some b => okC E0 1 true Tryd.f20.ntmps b | none => true) = true := by kernel_rfl
  intro b hb; rw [hb] at h; exact h
theorem nmf20 : (Tryd.f20.name == "runtime.NumGoroutine") = false := by kernel_rfl
@[simp] theorem efn21 : E0.fn 21 = some Tryd.f21 := (show (if fns0.contains 21 = true then Tryd.prog.funcs[21]? else none) = some Tryd.f21 from (if_pos (by decide)).trans Tryd.func21)
theorem okf21 : ∀ b, Tryd.f21.body = some b → okC E0 1 true Tryd.f21.ntmps b = true := by
  have h : (match Tryd.f21.body with | some b => okC E0 1 true Tryd.f21.ntmps b | none => true) = true := by kernel_rfl
  intro b hb; rw [hb] at h; exact h
theorem nmf21 : (Tryd.f21.name == "runtime.NumGoroutine") = false := by kernel_rfl
@[simp] theorem efn22 : E0.fn 22 = some Tryd.f22 := (show (if fns0.contains 22 = true then Tryd.prog.funcs[22]? else none) = some Tryd.f22 from (if_pos (by decide)).trans Tryd.func22)
theorem okf22 : ∀ b, Tryd.f22.body = some b → okC E0 1 true Tryd.f22.ntmps b = true := by
  have h : (match Tryd.f22.body with | some b => okC E0 1 true Tryd.f22.ntmps b | none => true) = true := by kernel_rfl
  intro b hb; rw [hb] at h; exact h
theorem nmf22 : (Tryd.f22.name == "runtime.NumGoroutine") = false := by kernel_rfl
@[simp] theorem efn23 : E0.fn 23 = some Tryd.f23 := (show (if fns0.contains 23 = true then Tryd.prog.funcs[23]? else none) = some Tryd.f23 from (if_pos (by decide)).trans Tryd.func23)
theorem okf23 : ∀ b, Tryd.f23.body = some b → okC E0 1 true Tryd.f23.ntmps b = true := by
  have h : (match Tryd.f23.body with | some b => okC E0 1 true Tryd.f23.ntmps b | none => true) = true := by kernel_rfl
  intro b hb; rw [hb] at h; exact h
theorem nmf23 : (Tryd.f23.name == "runtime.NumGoroutine") = false := by kernel_rfl
@[simp] theorem efn24 : E0.fn 24 = some Tryd.f24 := (show (if fns0.contains 24 = true then Tryd.prog.funcs[24]? else none) = some Tryd.f24 from (if_pos (by decide)).trans Tryd.func24)
theorem okf24 : ∀ b, Tryd.f24.body = some b → okC E0 1 true Tryd.f24.ntmps b = true := by
  have h : (match Tryd.f24.body with | some b => okC E0 1 true Tryd.f24.ntmps b | none => true) = true := by kernel_rfl
  intro b hb; rw [hb] at h; exact h
theorem nmf24 : (Tryd.f24.name == "runtime.NumGoroutine") = false := by kernel_rfl
@[simp] theorem efn25 : E0.fn 25 = some Tryd.f25 := (show (if fns0.contains 25 = true then Tryd.prog.funcs[25]? else none) = some Tryd.f25 from (if_pos (by decide)).trans Tryd.func25)
theorem okf25 : ∀ b, Tryd.f25.body = some b → okC E0 1 true Tryd.f25.ntmps b = true := by
  have h : (match Tryd.f25.body with | some b => okC E0 1 true Tryd.f25.ntmps b | none => true) = true := by kernel_rfl
  intro b hb; rw [hb] at h; exact h
theorem nmf25 : (Tryd.f25.name == "runtime.NumGoroutine") = false := by kernel_rfl
@[simp] theorem efn26 : E0.fn 26 = some Tryd.f26 := (show (if fns0.contains 26 = true then Tryd.prog.funcs[26]? else none) = some Tryd.f26 from (if_pos (by decide)).trans Tryd.func26)
theorem okf26 : ∀ b, Tryd.f26.body = some b → okC E0 1 true Tryd.f26.ntmps b = true := by
  have h : (match Tryd.f26.body with | some b => okC E0 1 true Tryd.f26.ntmps b | none => true) = true := by kernel_rfl
  intro b hb; rw [hb] at h; exact h
theorem nmf26 : (Tryd.f26.name == "runtime.NumGoroutine") = false := by kernel_rfl
@[simp] theorem efn27 : E0.fn 27 = some Tryd.f27 := (show (if fns0.contains 27 = true then Tryd.prog.funcs[27]? else none) = some Tryd.f27 from (if_pos (by decide)).trans Tryd.func27)
theorem okf27 : ∀ b, Tryd.f27.body = some b → okC E0 1 true Tryd.f27.ntmps b = true := by
  have h : (match Tryd.f27.body with | some b => okC E0 1 true Tryd.f27.ntmps b | none => true) = true := by kernel_rfl
  intro b hb; rw [hb] at h; exact h
theorem nmf27 : (Tryd.f27.name == "runtime.NumGoroutine") = false := by kernel_rfl
@[simp] theorem efn28 : E0.fn 28 = some Tryd.f28 := (show (if fns0.contains 28 = true then Tryd.prog.funcs[28]? else none) = some Tryd.f28 from (if_pos (by decide)).trans Tryd.func28)
theorem okf28 : ∀ b, Tryd.f28.body = some b → okC E0 1 true Tryd.f28.ntmps b = true := by
  have h : (match Tryd.f28.body with | some b => okC E0 1 true Tryd.f28.ntmps b | none => true) = true := by kernel_rfl
  intro b hb; rw [hb] at h; exact h
theorem nmf28 : (Tryd.f28.name == "runtime.NumGoroutine") = false := by kernel_rfl
@[simp] theorem efn29 : E0.fn 29 = some Tryd.f29 := (show (if fns0.contains 29 = true then Tryd.prog.funcs[29]? else none) = some Tryd.f29 from (if_pos (by decide)).trans Tryd.func29)
theorem okf29 : ∀ b, Tryd.f29.body = some b → okC E0 1 true Tryd.f29.ntmps b = true := by
  have h : (match Tryd.f29.body with | some b => okC E0 1 true Tryd.f29.ntmps b | none => true) = true := by kernel_rfl
  intro b hb; rw [hb] at h; exact h
theorem nmf29 : (Tryd.f29.name == "runtime.NumGoroutine") = false := by kernel_rfl
@[simp] theorem efn30 : E0.fn 30 = some Tryd.f30 := (show (if fns0.contains 30 = true then Tryd.prog.funcs[30]? else none) = some Tryd.f30 from (if_pos (by decide)).trans Tryd.func30)
theorem okf30 : ∀ b, Tryd.f30.body = some b → okC E0 1 true Tryd.f30.ntmps b = true := by
  have h : (match Tryd.f30.body with | some b => okC E0 1 true Tryd.f30.ntmps b | none => true) = true := by kernel_rfl
  intro b hb; rw [hb] at h; exact h
theorem nmf30 : (Tryd.f30.name == "runtime.NumGoroutine") = false := by kernel_rfl
@[simp] theorem efn32 : E0.fn 32 = some Tryd.f32 := (show (if fns0.contains 32 = true then Tryd.prog.funcs[32]? else none) = some Tryd.f32 from (if_pos (by decide)).trans Tryd.func32)
theorem okf32 : ∀ b, Tryd.f32.body = some b → okC E0 1 true Tryd.f32.ntmps b = true := by
  have h : (match Tryd.f32.body with | some b => okC E0 1 true Tryd.f32.ntmps b | none => true) = true := by kernel_rfl
  intro b hb; rw [hb] at h; exact h
theorem nmf32 : (Tryd.f32.name == "runtime.NumGoroutine") = false := by kernel_rfl
theorem mem0 {f : Nat} (h : fns0.contains f = true) : f = 3 ∨ f = 4 ∨ f = 5 ∨ f = 6 ∨ f = 7 ∨ f = 8 ∨ f = 9 ∨ f = 10 ∨ f = 11 ∨ f = 12 ∨ f = 13 ∨ f = 14 ∨ f = 15 ∨ f = 16 ∨ f = 17 ∨ f = 18 ∨ f = 19 ∨ f = 20 ∨ f = 21 ∨ f = 22 ∨ f = 23 ∨ f = 24 ∨ f = 25 ∨ f = 26 ∨ f = 27 ∨ f = 28 ∨ f = 29 ∨ f = 30 ∨ f = 32 := by simpa [fns0] using h
theorem env0 : EnvOk Tryd.prog E0 where
  ty := fun t => rfl
  fn := fun f fn h => by
    simp only [E0] at h
    split at h
    · exact h
    · cases h
  nm := fun f fn h _ => by
    have hc : fns0.contains f = true := by
      simp only [E0] at h
      split at h
      · assumption
      · cases h
    rcases mem0 hc with rfl | rfl | rfl | rfl | rfl | rfl | rfl | rfl | rfl | rfl | rfl | rfl | rfl | rfl | rfl | rfl | rfl | rfl | rfl | rfl | rfl | rfl | rfl | rfl | rfl | rfl | rfl | rfl | rfl
    · rw [efn3] at h; cases h; exact nmf3
    · rw [efn4] at h; cases h; exact nmf4
    · rw [efn5] at h; cases h; exact nmf5
    · rw [efn6] at h; cases h; exact nmf6
    · rw [efn7] at h; cases h; exact nmf7
    · rw [efn8] at h; cases h; exact nmf8
    · rw [efn9] at h; cases h; exact nmf9
    · rw [efn10] at h; cases h; exact nmf10
    · rw [efn11] at h; cases h; exact nmf11
    · rw [efn12] at h; cases h; exact nmf12
    · rw [efn13] at h; cases h; exact nmf13
    · rw [efn14] at h; cases h; exact nmf14
    · rw [efn15] at h; cases h; exact nmf15
    · rw [efn16] at h; cases h; exact nmf16
    · rw [efn17] at h; cases h; exact nmf17
    · rw [efn18] at h; cases h; exact nmf18
    · rw [efn19] at h; cases h; exact nmf19
    · rw [efn20] at h; cases h; exact nmf20
    · rw [efn21] at h; cases h; exact nmf21
    · rw [efn22] at h; cases h; exact nmf22
    · rw [efn23] at h; cases h; exact nmf23
    · rw [efn24] at h; cases h; exact nmf24
    · rw [efn25] at h; cases h; exact nmf25
    · rw [efn26] at h; cases h; exact nmf26
    · rw [efn27] at h; cases h; exact nmf27
    · rw [efn28] at h; cases h; exact nmf28
    · rw [efn29] at h; cases h; exact nmf29
    · rw [efn30] at h; cases h; exact nmf30
    · rw [efn32] at h; cases h; exact nmf32
  eqo := fun t h => by
    simp only [E0, List.contains_cons, List.contains_nil, Bool.or_eq_true, beq_iff_eq, Bool.false_eq_true, or_false] at h
    rcases h with rfl | rfl | rfl | rfl | rfl | rfl | rfl | rfl | rfl
    · exact ⟨Tryd.stoodInHeld7, Tryd.eqGuardType7⟩
    · exact ⟨Tryd.stoodInHeld8, Tryd.eqGuardType8⟩
    · exact ⟨Tryd.stoodInHeld33, Tryd.eqGuardType33⟩
    · exact ⟨Tryd.stoodInHeld34, Tryd.eqGuardType34⟩
    · exact ⟨Tryd.stoodInHeld40, Tryd.eqGuardType40⟩
    · exact ⟨Tryd.stoodInHeld41, Tryd.eqGuardType41⟩
    · exact ⟨Tryd.stoodInHeld45, Tryd.eqGuardType45⟩
    · exact ⟨Tryd.stoodInHeld54, Tryd.eqGuardType54⟩
    · exact ⟨Tryd.stoodInHeld55, Tryd.eqGuardType55⟩
theorem code0 : ∀ f fn b, E0.fn f = some fn → fn.body = some b → okC E0 1 true fn.ntmps b = true := fun f fn b h hb => by
  have hc : fns0.contains f = true := by
    simp only [E0] at h
    split at h
    · assumption
    · cases h
  rcases mem0 hc with rfl | rfl | rfl | rfl | rfl | rfl | rfl | rfl | rfl | rfl | rfl | rfl | rfl | rfl | rfl | rfl | rfl | rfl | rfl | rfl | rfl | rfl | rfl | rfl | rfl | rfl | rfl | rfl | rfl
  · rw [efn3] at h; cases h; exact okf3 b hb
  · rw [efn4] at h; cases h; exact okf4 b hb
  · rw [efn5] at h; cases h; exact okf5 b hb
  · rw [efn6] at h; cases h; exact okf6 b hb
  · rw [efn7] at h; cases h; exact okf7 b hb
  · rw [efn8] at h; cases h; exact okf8 b hb
  · rw [efn9] at h; cases h; exact okf9 b hb
  · rw [efn10] at h; cases h; exact okf10 b hb
  · rw [efn11] at h; cases h; exact okf11 b hb
  · rw [efn12] at h; cases h; exact okf12 b hb
  · rw [efn13] at h; cases h; exact okf13 b hb
  · rw [efn14] at h; cases h; exact okf14 b hb
  · rw [efn15] at h; cases h; exact okf15 b hb
  · rw [efn16] at h; cases h; exact okf16 b hb
  · rw [efn17] at h; cases h; exact okf17 b hb
  · rw [efn18] at h; cases h; exact okf18 b hb
  · rw [efn19] at h; cases h; exact okf19 b hb
  · rw [efn20] at h; cases h; exact okf20 b hb
  · rw [efn21] at h; cases h; exact okf21 b hb
  · rw [efn22] at h; cases h; exact okf22 b hb
  · rw [efn23] at h; cases h; exact okf23 b hb
  · rw [efn24] at h; cases h; exact okf24 b hb
  · rw [efn25] at h; cases h; exact okf25 b hb
  · rw [efn26] at h; cases h; exact okf26 b hb
  · rw [efn27] at h; cases h; exact okf27 b hb
  · rw [efn28] at h; cases h; exact okf28 b hb
  · rw [efn29] at h; cases h; exact okf29 b hb
  · rw [efn30] at h; cases h; exact okf30 b hb
  · rw [efn32] at h; cases h; exact okf32 b hb
theorem mixed0 : Tryd.prog.follows .mixedOrders = true := by kernel_rfl
end Go.Dm
