import Derived.Test.YtdcienojgkioiaaGreatDoorChecked
import Derived.Test.YtdcienojgkioiaaGreatDoorSh
import Derived.Test.YtdcienojgkioiaaGreatDoorBMd
namespace Go.Proofs
open Go Go.Fl Go.RowKit Go.Rg
set_option maxRecDepth 100000
set_option linter.unusedVariables false
attribute [local irreducible] Go.Calls doAll Does DoesG W Wr
theorem un9 : Tryz.prog.underlying 9 = some (.string) := by kernel_rfl
theorem zero26 (w : World) : (zeroValue 26).run Tryz.prog w = .ok (.agg #[.slice none 0 0, .slice none 0 0, .slice none 0 0, .slice none 0 0]) w := by kernel_rfl
theorem un32 : Tryz.prog.underlying 32 = some (.slice 9) := by kernel_rfl
theorem size9 (w : World) : (sizeOf 9).run Tryz.prog w = .ok 1 w := by kernel_rfl
theorem infoz9 : Tryz.t9.zero = some (.string (bs ([] : List UInt8))) := by kernel_rfl
theorem info9 : Tryz.prog.info? 9 = some Tryz.t9 := by kernel_rfl
theorem en25 : Enters Tryz.prog 25 := enters (fn := Tryz.f25) (by kernel_rfl) (by kernel_rfl) (by kernel_rfl)
theorem size26 (w : World) : (sizeOf 26).run Tryz.prog w = .ok 4 w := by kernel_rfl
theorem agg26 (w : World) : (isAgg 26).run Tryz.prog w = .ok true w := by kernel_rfl
theorem agg9 (w : World) : (isAgg 9).run Tryz.prog w = .ok false w := by kernel_rfl
theorem cn_f32_0 : cn .f32 0 = 0 := by decide +kernel
theorem un22 : Tryz.prog.underlying 22 = some (.slice 57) := by kernel_rfl
theorem size57 (w : World) : (sizeOf 57).run Tryz.prog w = .ok 3 w := by kernel_rfl
theorem zero57 (w : World) : (zeroValue 57).run Tryz.prog w = .ok (.agg #[.float .f32 0, .float .f32 0, .float .f32 0]) w := by kernel_rfl
theorem un23 : Tryz.prog.underlying 23 = some (.slice 40) := by kernel_rfl
theorem size40 (w : World) : (sizeOf 40).run Tryz.prog w = .ok 1 w := by kernel_rfl
theorem un5 : Tryz.prog.underlying 5 = some (.int .u8) := by kernel_rfl
theorem un2 : Tryz.prog.underlying 2 = some (.int .i64) := by kernel_rfl
theorem un91 : Tryz.prog.underlying 91 = some (.int .u32) := by kernel_rfl
theorem ext61_0 : Tryz.prog.funcs[61]? = some Tryz.f61 := by kernel_rfl
theorem ext61_1 : (Tryz.f61.name == "runtime.NumGoroutine") = false := by kernel_rfl
theorem ext61_2 : Tryz.f61.body.isNone = true := by kernel_rfl
theorem ext61_3 : (Extern.findNext Tryz.f61).isNone = true := by kernel_rfl
theorem ext61_4 : Extern.find Tryz.f61 = some Extern.MathFloatBits.float32frombits := by kernel_rfl
theorem en42 : Enters Tryz.prog 42 := enters (fn := Tryz.f42) (by kernel_rfl) (by kernel_rfl) (by kernel_rfl)
theorem ext62_0 : Tryz.prog.funcs[62]? = some Tryz.f62 := by kernel_rfl
theorem ext62_1 : (Tryz.f62.name == "runtime.NumGoroutine") = false := by kernel_rfl
theorem ext62_2 : Tryz.f62.body.isNone = true := by kernel_rfl
theorem ext62_3 : (Extern.findNext Tryz.f62).isNone = true := by kernel_rfl
theorem ext62_4 : Extern.find Tryz.f62 = some Extern.MathFloatBits.float32bits := by kernel_rfl
theorem en43 : Enters Tryz.prog 43 := enters (fn := Tryz.f43) (by kernel_rfl) (by kernel_rfl) (by kernel_rfl)
theorem infoz40 : Tryz.t40.zero = some (.float .f32 0) := by kernel_rfl
theorem info40 : Tryz.prog.info? 40 = some Tryz.t40 := by kernel_rfl
theorem en27 : Enters Tryz.prog 27 := enters (fn := Tryz.f27) (by kernel_rfl) (by kernel_rfl) (by kernel_rfl)
theorem agg57 (w : World) : (isAgg 57).run Tryz.prog w = .ok true w := by kernel_rfl
theorem mixed : Tryz.prog.follows .mixedOrders = true := by kernel_rfl
theorem agg40 (w : World) : (isAgg 40).run Tryz.prog w = .ok false w := by kernel_rfl
theorem en41 : Enters Tryz.prog 41 := enters (fn := Tryz.f41) (by kernel_rfl) (by kernel_rfl) (by kernel_rfl)
theorem infoz57 : Tryz.t57.zero = some (.agg #[.float .f32 0, .float .f32 0, .float .f32 0]) := by kernel_rfl
theorem info57 : Tryz.prog.info? 57 = some Tryz.t57 := by kernel_rfl
theorem en26 : Enters Tryz.prog 26 := enters (fn := Tryz.f26) (by kernel_rfl) (by kernel_rfl) (by kernel_rfl)
theorem un24 : Tryz.prog.underlying 24 = some (.slice 42) := by kernel_rfl
theorem size42 (w : World) : (sizeOf 42).run Tryz.prog w = .ok 3 w := by kernel_rfl
theorem un65 : Tryz.prog.underlying 65 = some (.slice 2) := by kernel_rfl
theorem size2 (w : World) : (sizeOf 2).run Tryz.prog w = .ok 1 w := by kernel_rfl
theorem en66 : Enters Tryz.prog 66 := enters (fn := Tryz.f66) (by kernel_rfl) (by kernel_rfl) (by kernel_rfl)
theorem un110 : Tryz.prog.underlying 110 = some (.slice 5) := by kernel_rfl
theorem size5 (w : World) : (sizeOf 5).run Tryz.prog w = .ok 1 w := by kernel_rfl
theorem infoz5 : Tryz.t5.zero = some (.int .u8 0) := by kernel_rfl
theorem info5 : Tryz.prog.info? 5 = some Tryz.t5 := by kernel_rfl
theorem en81 : Enters Tryz.prog 81 := enters (fn := Tryz.f81) (by kernel_rfl) (by kernel_rfl) (by kernel_rfl)
theorem en63 : Enters Tryz.prog 63 := enters (fn := Tryz.f63) (by kernel_rfl) (by kernel_rfl) (by kernel_rfl)
theorem infoz2 : Tryz.t2.zero = some (.int .i64 0) := by kernel_rfl
theorem info2 : Tryz.prog.info? 2 = some Tryz.t2 := by kernel_rfl
theorem en44 : Enters Tryz.prog 44 := enters (fn := Tryz.f44) (by kernel_rfl) (by kernel_rfl) (by kernel_rfl)
theorem agg2 (w : World) : (isAgg 2).run Tryz.prog w = .ok false w := by kernel_rfl
theorem infoz42 : Tryz.t42.zero = some (.agg #[.int .i64 0, .int .i64 0, .float .f32 0]) := by kernel_rfl
theorem info42 : Tryz.prog.info? 42 = some Tryz.t42 := by kernel_rfl
theorem en28 : Enters Tryz.prog 28 := enters (fn := Tryz.f28) (by kernel_rfl) (by kernel_rfl) (by kernel_rfl)
theorem fa26_0 (b o : Nat) (w : World) : (Instr.fieldAt 26 (.pointer (some ⟨b, o, none⟩)) 0).run Tryz.prog w = .ok (.pointer (some ⟨b, o, none⟩)) w := by kernel_rfl
theorem agg22 (w : World) : (isAgg 22).run Tryz.prog w = .ok false w := by kernel_rfl
theorem fa26_1 (b o : Nat) (w : World) : (Instr.fieldAt 26 (.pointer (some ⟨b, o, none⟩)) 1).run Tryz.prog w = .ok (.pointer (some ⟨b, o + 1, none⟩)) w := by kernel_rfl
theorem fa26_2 (b o : Nat) (w : World) : (Instr.fieldAt 26 (.pointer (some ⟨b, o, none⟩)) 2).run Tryz.prog w = .ok (.pointer (some ⟨b, o + 2, none⟩)) w := by kernel_rfl
theorem agg23 (w : World) : (isAgg 23).run Tryz.prog w = .ok false w := by kernel_rfl
theorem fa26_3 (b o : Nat) (w : World) : (Instr.fieldAt 26 (.pointer (some ⟨b, o, none⟩)) 3).run Tryz.prog w = .ok (.pointer (some ⟨b, o + 3, none⟩)) w := by kernel_rfl
theorem agg24 (w : World) : (isAgg 24).run Tryz.prog w = .ok false w := by kernel_rfl
theorem fa57_0 (b o : Nat) (w : World) : (Instr.fieldAt 57 (.pointer (some ⟨b, o, none⟩)) 0).run Tryz.prog w = .ok (.pointer (some ⟨b, o, none⟩)) w := by kernel_rfl
theorem en82 : Enters Tryz.prog 82 := enters (fn := Tryz.f82) (by kernel_rfl) (by kernel_rfl) (by kernel_rfl)
theorem fa57_1 (b o : Nat) (w : World) : (Instr.fieldAt 57 (.pointer (some ⟨b, o, none⟩)) 1).run Tryz.prog w = .ok (.pointer (some ⟨b, o + 1, none⟩)) w := by kernel_rfl
theorem fa57_2 (b o : Nat) (w : World) : (Instr.fieldAt 57 (.pointer (some ⟨b, o, none⟩)) 2).run Tryz.prog w = .ok (.pointer (some ⟨b, o + 2, none⟩)) w := by kernel_rfl
theorem en64 : Enters Tryz.prog 64 := enters (fn := Tryz.f64) (by kernel_rfl) (by kernel_rfl) (by kernel_rfl)
theorem en65 : Enters Tryz.prog 65 := enters (fn := Tryz.f65) (by kernel_rfl) (by kernel_rfl) (by kernel_rfl)
theorem agg42 (w : World) : (isAgg 42).run Tryz.prog w = .ok true w := by kernel_rfl
theorem zero42 (w : World) : (zeroValue 42).run Tryz.prog w = .ok (.agg #[.int .i64 0, .int .i64 0, .float .f32 0]) w := by kernel_rfl
theorem fa42_0 (b o : Nat) (w : World) : (Instr.fieldAt 42 (.pointer (some ⟨b, o, none⟩)) 0).run Tryz.prog w = .ok (.pointer (some ⟨b, o, none⟩)) w := by kernel_rfl
theorem fa42_1 (b o : Nat) (w : World) : (Instr.fieldAt 42 (.pointer (some ⟨b, o, none⟩)) 1).run Tryz.prog w = .ok (.pointer (some ⟨b, o + 1, none⟩)) w := by kernel_rfl
theorem fa42_2 (b o : Nat) (w : World) : (Instr.fieldAt 42 (.pointer (some ⟨b, o, none⟩)) 2).run Tryz.prog w = .ok (.pointer (some ⟨b, o + 2, none⟩)) w := by kernel_rfl
theorem en45 : Enters Tryz.prog 45 := enters (fn := Tryz.f45) (by kernel_rfl) (by kernel_rfl) (by kernel_rfl)
theorem en29 : Enters Tryz.prog 29 := enters (fn := Tryz.f29) (by kernel_rfl) (by kernel_rfl) (by kernel_rfl)
theorem en9 : Enters Tryz.prog 9 := enters (fn := Tryz.f9) (by kernel_rfl) (by kernel_rfl) (by kernel_rfl)
theorem en4 : Enters Tryz.prog 4 := enters (fn := Tryz.f4) (by kernel_rfl) (by kernel_rfl) (by kernel_rfl)
theorem ext69_0 : Tryz.prog.funcs[69]? = some Tryz.f69 := by kernel_rfl
theorem ext69_1 : (Tryz.f69.name == "runtime.NumGoroutine") = false := by kernel_rfl
theorem ext69_2 : Tryz.f69.body.isNone = true := by kernel_rfl
theorem ext69_3 : (Extern.findNext Tryz.f69).isNone = true := by kernel_rfl
theorem ext69_4 : Extern.find Tryz.f69 = some Extern.BytealgCount.count := by kernel_rfl
theorem en47 : Enters Tryz.prog 47 := enters (fn := Tryz.f47) (by kernel_rfl) (by kernel_rfl) (by kernel_rfl)
theorem ext87_0 : Tryz.prog.funcs[87]? = some Tryz.f87 := by kernel_rfl
theorem ext87_1 : (Tryz.f87.name == "runtime.NumGoroutine") = false := by kernel_rfl
theorem ext87_2 : Tryz.f87.body.isNone = true := by kernel_rfl
theorem ext87_3 : (Extern.findNext Tryz.f87).isNone = true := by kernel_rfl
theorem ext87_4 : Extern.find Tryz.f87 = some Extern.BytealgIndexByte.indexByte := by kernel_rfl
theorem en71 : Enters Tryz.prog 71 := enters (fn := Tryz.f71) (by kernel_rfl) (by kernel_rfl) (by kernel_rfl)
theorem en70 : Enters Tryz.prog 70 := enters (fn := Tryz.f70) (by kernel_rfl) (by kernel_rfl) (by kernel_rfl)
theorem en48 : Enters Tryz.prog 48 := enters (fn := Tryz.f48) (by kernel_rfl) (by kernel_rfl) (by kernel_rfl)
theorem en30 : Enters Tryz.prog 30 := enters (fn := Tryz.f30) (by kernel_rfl) (by kernel_rfl) (by kernel_rfl)
theorem en10 : Enters Tryz.prog 10 := enters (fn := Tryz.f10) (by kernel_rfl) (by kernel_rfl) (by kernel_rfl)
theorem en13 : Enters Tryz.prog 13 := enters (fn := Tryz.f13) (by kernel_rfl) (by kernel_rfl) (by kernel_rfl)
theorem en32 : Enters Tryz.prog 32 := enters (fn := Tryz.f32) (by kernel_rfl) (by kernel_rfl) (by kernel_rfl)
theorem en49 : Enters Tryz.prog 49 := enters (fn := Tryz.f49) (by kernel_rfl) (by kernel_rfl) (by kernel_rfl)
theorem en72 : Enters Tryz.prog 72 := enters (fn := Tryz.f72) (by kernel_rfl) (by kernel_rfl) (by kernel_rfl)
theorem en50 : Enters Tryz.prog 50 := enters (fn := Tryz.f50) (by kernel_rfl) (by kernel_rfl) (by kernel_rfl)
theorem en73 : Enters Tryz.prog 73 := enters (fn := Tryz.f73) (by kernel_rfl) (by kernel_rfl) (by kernel_rfl)
theorem en51 : Enters Tryz.prog 51 := enters (fn := Tryz.f51) (by kernel_rfl) (by kernel_rfl) (by kernel_rfl)
theorem en33 : Enters Tryz.prog 33 := enters (fn := Tryz.f33) (by kernel_rfl) (by kernel_rfl) (by kernel_rfl)
theorem en12 : Enters Tryz.prog 12 := enters (fn := Tryz.f12) (by kernel_rfl) (by kernel_rfl) (by kernel_rfl)
theorem en31 : Enters Tryz.prog 31 := enters (fn := Tryz.f31) (by kernel_rfl) (by kernel_rfl) (by kernel_rfl)
theorem en11 : Enters Tryz.prog 11 := enters (fn := Tryz.f11) (by kernel_rfl) (by kernel_rfl) (by kernel_rfl)
theorem en52 : Enters Tryz.prog 52 := enters (fn := Tryz.f52) (by kernel_rfl) (by kernel_rfl) (by kernel_rfl)
theorem en34 : Enters Tryz.prog 34 := enters (fn := Tryz.f34) (by kernel_rfl) (by kernel_rfl) (by kernel_rfl)
theorem en74 : Enters Tryz.prog 74 := enters (fn := Tryz.f74) (by kernel_rfl) (by kernel_rfl) (by kernel_rfl)
theorem sh74 {s : List UInt8} {r : Int × Bool} {w : World} (hr : pint s = some r) (t1 : TSyn Tryz.prog w) (t2 : TRan Tryz.prog w) : Calls Tryz.prog 74 #[.string (bs s), .int .i64 10, .int .i64 64] w fun e w' => ∃ er, e = .returned (.tuple #[.int .i64 r.1, er]) ∧ ErrIs er r.2 ∧ Ext w w' := pint_of (fun s h1 v h2 w => Tryz.strconv_ParseInt_10_at64_ok s h1 v h2 w) (fun s h1 h2 tp p w h3 => Tryz.strconv_ParseInt_10_at64_syntax_var s h1 h2 tp p w h3) (fun s h1 h2 tp p w h3 => Tryz.strconv_ParseInt_10_at64_range_var s h1 h2 tp p w h3) hr t1 t2
theorem en90 : Enters Tryz.prog 90 := enters (fn := Tryz.f90) (by kernel_rfl) (by kernel_rfl) (by kernel_rfl)
theorem sh90 {k : Int} {r : List UInt8} {w : World} (hr : fmt10 k = some r) (t : T10 Tryz.prog w) : Calls Tryz.prog 90 #[.int .i64 k, .int .i64 10] w fun e w' => e = .returned (.string (bs r)) ∧ Ext w w' := fmt10_of (fun k h0 h1 w t => Tryz.strconv_FormatInt_10 k h0 h1 w t) hr t
theorem en75 : Enters Tryz.prog 75 := enters (fn := Tryz.f75) (by kernel_rfl) (by kernel_rfl) (by kernel_rfl)
theorem en53 : Enters Tryz.prog 53 := enters (fn := Tryz.f53) (by kernel_rfl) (by kernel_rfl) (by kernel_rfl)
theorem en35 : Enters Tryz.prog 35 := enters (fn := Tryz.f35) (by kernel_rfl) (by kernel_rfl) (by kernel_rfl)
theorem en36 : Enters Tryz.prog 36 := enters (fn := Tryz.f36) (by kernel_rfl) (by kernel_rfl) (by kernel_rfl)
theorem en14 : Enters Tryz.prog 14 := enters (fn := Tryz.f14) (by kernel_rfl) (by kernel_rfl) (by kernel_rfl)
theorem size24 (w : World) : (sizeOf 24).run Tryz.prog w = .ok 1 w := by kernel_rfl
theorem en92 : Enters Tryz.prog 92 := enters (fn := Tryz.f92) (by kernel_rfl) (by kernel_rfl) (by kernel_rfl)
theorem en100 : Enters Tryz.prog 100 := enters (fn := Tryz.f100) (by kernel_rfl) (by kernel_rfl) (by kernel_rfl)
theorem en78 : Enters Tryz.prog 78 := enters (fn := Tryz.f78) (by kernel_rfl) (by kernel_rfl) (by kernel_rfl)
theorem en56 : Enters Tryz.prog 56 := enters (fn := Tryz.f56) (by kernel_rfl) (by kernel_rfl) (by kernel_rfl)
theorem en91 : Enters Tryz.prog 91 := enters (fn := Tryz.f91) (by kernel_rfl) (by kernel_rfl) (by kernel_rfl)
theorem en77 : Enters Tryz.prog 77 := enters (fn := Tryz.f77) (by kernel_rfl) (by kernel_rfl) (by kernel_rfl)
theorem en55 : Enters Tryz.prog 55 := enters (fn := Tryz.f55) (by kernel_rfl) (by kernel_rfl) (by kernel_rfl)
theorem en76 : Enters Tryz.prog 76 := enters (fn := Tryz.f76) (by kernel_rfl) (by kernel_rfl) (by kernel_rfl)
theorem en54 : Enters Tryz.prog 54 := enters (fn := Tryz.f54) (by kernel_rfl) (by kernel_rfl) (by kernel_rfl)
theorem en79 : Enters Tryz.prog 79 := enters (fn := Tryz.f79) (by kernel_rfl) (by kernel_rfl) (by kernel_rfl)
theorem en57 : Enters Tryz.prog 57 := enters (fn := Tryz.f57) (by kernel_rfl) (by kernel_rfl) (by kernel_rfl)
theorem en60 : Enters Tryz.prog 60 := enters (fn := Tryz.f60) (by kernel_rfl) (by kernel_rfl) (by kernel_rfl)
theorem en59 : Enters Tryz.prog 59 := enters (fn := Tryz.f59) (by kernel_rfl) (by kernel_rfl) (by kernel_rfl)
theorem en80 : Enters Tryz.prog 80 := enters (fn := Tryz.f80) (by kernel_rfl) (by kernel_rfl) (by kernel_rfl)
theorem en58 : Enters Tryz.prog 58 := enters (fn := Tryz.f58) (by kernel_rfl) (by kernel_rfl) (by kernel_rfl)
theorem en37 : Enters Tryz.prog 37 := enters (fn := Tryz.f37) (by kernel_rfl) (by kernel_rfl) (by kernel_rfl)
theorem en15 : Enters Tryz.prog 15 := enters (fn := Tryz.f15) (by kernel_rfl) (by kernel_rfl) (by kernel_rfl)
theorem en5 : Enters Tryz.prog 5 := enters (fn := Tryz.f5) (by kernel_rfl) (by kernel_rfl) (by kernel_rfl)
theorem un40 : Tryz.prog.underlying 40 = some (.float .f32) := by kernel_rfl
theorem un72 : Tryz.prog.underlying 72 = some (.float .f64) := by kernel_rfl
theorem cn_f64_0 : cn .f64 0 = 0 := by decide +kernel
theorem cn_f64_4607182418800017408 : cn .f64 4607182418800017408 = 4607182418800017408 := by decide +kernel
theorem un4 : Tryz.prog.underlying 4 = some (.bool) := by kernel_rfl
theorem en39 : Enters Tryz.prog 39 := enters (fn := Tryz.f39) (by kernel_rfl) (by kernel_rfl) (by kernel_rfl)
theorem en38 : Enters Tryz.prog 38 := enters (fn := Tryz.f38) (by kernel_rfl) (by kernel_rfl) (by kernel_rfl)
theorem en16 : Enters Tryz.prog 16 := enters (fn := Tryz.f16) (by kernel_rfl) (by kernel_rfl) (by kernel_rfl)
theorem en17 : Enters Tryz.prog 17 := enters (fn := Tryz.f17) (by kernel_rfl) (by kernel_rfl) (by kernel_rfl)
theorem en40 : Enters Tryz.prog 40 := enters (fn := Tryz.f40) (by kernel_rfl) (by kernel_rfl) (by kernel_rfl)
theorem en18 : Enters Tryz.prog 18 := enters (fn := Tryz.f18) (by kernel_rfl) (by kernel_rfl) (by kernel_rfl)
theorem en6 : Enters Tryz.prog 6 := enters (fn := Tryz.f6) (by kernel_rfl) (by kernel_rfl) (by kernel_rfl)
theorem un3 : Tryz.prog.underlying 3 = some (.int .i64) := by kernel_rfl
theorem en19 : Enters Tryz.prog 19 := enters (fn := Tryz.f19) (by kernel_rfl) (by kernel_rfl) (by kernel_rfl)
theorem en20 : Enters Tryz.prog 20 := enters (fn := Tryz.f20) (by kernel_rfl) (by kernel_rfl) (by kernel_rfl)
theorem en21 : Enters Tryz.prog 21 := enters (fn := Tryz.f21) (by kernel_rfl) (by kernel_rfl) (by kernel_rfl)
theorem en7 : Enters Tryz.prog 7 := enters (fn := Tryz.f7) (by kernel_rfl) (by kernel_rfl) (by kernel_rfl)
theorem en22 : Enters Tryz.prog 22 := enters (fn := Tryz.f22) (by kernel_rfl) (by kernel_rfl) (by kernel_rfl)
theorem en23 : Enters Tryz.prog 23 := enters (fn := Tryz.f23) (by kernel_rfl) (by kernel_rfl) (by kernel_rfl)
theorem en24 : Enters Tryz.prog 24 := enters (fn := Tryz.f24) (by kernel_rfl) (by kernel_rfl) (by kernel_rfl)
theorem en8 : Enters Tryz.prog 8 := enters (fn := Tryz.f8) (by kernel_rfl) (by kernel_rfl) (by kernel_rfl)
end Go.Proofs
