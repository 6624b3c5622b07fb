import Derived.Test.YtdcienojgkioiaaDoorChecked
import Derived.Test.YtdcienojgkioiaaDoorSh
import Derived.Test.YtdcienojgkioiaaDoorBMd
namespace Go.Proofs
open Go Go.Fl Go.RowKit Go.Rg
set_option maxRecDepth 100000
set_option linter.unusedVariables false
attribute [local irreducible] Go.Calls doAll Does DoesG W Wr
theorem un9 : Tryd.prog.underlying 9 = some (.string) := by kernel_rfl
theorem cn_f32_0 : cn .f32 0 = 0 := by decide +kernel
theorem zero48 (w : World) : (zeroValue 48).run Tryd.prog w = .ok (.agg #[.float .f32 0, .float .f32 0, .float .f32 0, .float .f32 0, .float .f32 0, .float .f32 0, .float .f32 0, .float .f32 0, .float .f32 0, .float .f32 0]) w := by kernel_rfl
theorem un34 : Tryd.prog.underlying 34 = some (.slice 9) := by kernel_rfl
theorem size9 (w : World) : (sizeOf 9).run Tryd.prog w = .ok 1 w := by kernel_rfl
theorem infoz9 : Tryd.t9.zero = some (.string (bs ([] : List UInt8))) := by kernel_rfl
theorem info9 : Tryd.prog.info? 9 = some Tryd.t9 := by kernel_rfl
theorem en119 : Enters Tryd.prog 119 := enters (fn := Tryd.f119) (by kernel_rfl) (by kernel_rfl) (by kernel_rfl)
theorem size48 (w : World) : (sizeOf 48).run Tryd.prog w = .ok 10 w := by kernel_rfl
theorem agg48 (w : World) : (isAgg 48).run Tryd.prog w = .ok true w := by kernel_rfl
theorem agg9 (w : World) : (isAgg 9).run Tryd.prog w = .ok false w := by kernel_rfl
theorem zero44 (w : World) : (zeroValue 44).run Tryd.prog w = .ok (.agg #[.float .f32 0, .float .f32 0, .float .f32 0]) w := by kernel_rfl
theorem un53 : Tryd.prog.underlying 53 = some (.slice 22) := by kernel_rfl
theorem size22 (w : World) : (sizeOf 22).run Tryd.prog w = .ok 1 w := by kernel_rfl
theorem un5 : Tryd.prog.underlying 5 = some (.int .u8) := by kernel_rfl
theorem un2 : Tryd.prog.underlying 2 = some (.int .i64) := by kernel_rfl
theorem un193 : Tryd.prog.underlying 193 = some (.int .u32) := by kernel_rfl
theorem ext186_0 : Tryd.prog.funcs[186]? = some Tryd.f186 := by kernel_rfl
theorem ext186_1 : (Tryd.f186.name == "runtime.NumGoroutine") = false := by kernel_rfl
theorem ext186_2 : Tryd.f186.body.isNone = true := by kernel_rfl
theorem ext186_3 : (Extern.findNext Tryd.f186).isNone = true := by kernel_rfl
theorem ext186_4 : Extern.find Tryd.f186 = some Extern.MathFloatBits.float32frombits := by kernel_rfl
theorem en158 : Enters Tryd.prog 158 := enters (fn := Tryd.f158) (by kernel_rfl) (by kernel_rfl) (by kernel_rfl)
theorem ext154_0 : Tryd.prog.funcs[154]? = some Tryd.f154 := by kernel_rfl
theorem ext154_1 : (Tryd.f154.name == "runtime.NumGoroutine") = false := by kernel_rfl
theorem ext154_2 : Tryd.f154.body.isNone = true := by kernel_rfl
theorem ext154_3 : (Extern.findNext Tryd.f154).isNone = true := by kernel_rfl
theorem ext154_4 : Extern.find Tryd.f154 = some Extern.MathFloatBits.float32bits := by kernel_rfl
theorem en159 : Enters Tryd.prog 159 := enters (fn := Tryd.f159) (by kernel_rfl) (by kernel_rfl) (by kernel_rfl)
theorem infoz22 : Tryd.t22.zero = some (.float .f32 0) := by kernel_rfl
theorem info22 : Tryd.prog.info? 22 = some Tryd.t22 := by kernel_rfl
theorem en105 : Enters Tryd.prog 105 := enters (fn := Tryd.f105) (by kernel_rfl) (by kernel_rfl) (by kernel_rfl)
theorem size44 (w : World) : (sizeOf 44).run Tryd.prog w = .ok 3 w := by kernel_rfl
theorem agg44 (w : World) : (isAgg 44).run Tryd.prog w = .ok true w := by kernel_rfl
theorem mixed : Tryd.prog.follows .mixedOrders = true := by kernel_rfl
theorem agg22 (w : World) : (isAgg 22).run Tryd.prog w = .ok false w := by kernel_rfl
theorem en120 : Enters Tryd.prog 120 := enters (fn := Tryd.f120) (by kernel_rfl) (by kernel_rfl) (by kernel_rfl)
theorem fa48_0 (b o : Nat) (w : World) : (Instr.fieldAt 48 (.pointer (some ⟨b, o, none⟩)) 0).run Tryd.prog w = .ok (.pointer (some ⟨b, o, none⟩)) w := by kernel_rfl
theorem fa44_0 (b o : Nat) (w : World) : (Instr.fieldAt 44 (.pointer (some ⟨b, o, none⟩)) 0).run Tryd.prog w = .ok (.pointer (some ⟨b, o, none⟩)) w := by kernel_rfl
theorem en164 : Enters Tryd.prog 164 := enters (fn := Tryd.f164) (by kernel_rfl) (by kernel_rfl) (by kernel_rfl)
theorem en162 : Enters Tryd.prog 162 := enters (fn := Tryd.f162) (by kernel_rfl) (by kernel_rfl) (by kernel_rfl)
theorem fa44_1 (b o : Nat) (w : World) : (Instr.fieldAt 44 (.pointer (some ⟨b, o, none⟩)) 1).run Tryd.prog w = .ok (.pointer (some ⟨b, o + 1, none⟩)) w := by kernel_rfl
theorem fa44_2 (b o : Nat) (w : World) : (Instr.fieldAt 44 (.pointer (some ⟨b, o, none⟩)) 2).run Tryd.prog w = .ok (.pointer (some ⟨b, o + 2, none⟩)) w := by kernel_rfl
theorem fa48_1 (b o : Nat) (w : World) : (Instr.fieldAt 48 (.pointer (some ⟨b, o, none⟩)) 1).run Tryd.prog w = .ok (.pointer (some ⟨b, o + 3, none⟩)) w := by kernel_rfl
theorem fa46_0 (b o : Nat) (w : World) : (Instr.fieldAt 46 (.pointer (some ⟨b, o, none⟩)) 0).run Tryd.prog w = .ok (.pointer (some ⟨b, o, none⟩)) w := by kernel_rfl
theorem fa46_1 (b o : Nat) (w : World) : (Instr.fieldAt 46 (.pointer (some ⟨b, o, none⟩)) 1).run Tryd.prog w = .ok (.pointer (some ⟨b, o + 1, none⟩)) w := by kernel_rfl
theorem fa46_2 (b o : Nat) (w : World) : (Instr.fieldAt 46 (.pointer (some ⟨b, o, none⟩)) 2).run Tryd.prog w = .ok (.pointer (some ⟨b, o + 2, none⟩)) w := by kernel_rfl
theorem fa46_3 (b o : Nat) (w : World) : (Instr.fieldAt 46 (.pointer (some ⟨b, o, none⟩)) 3).run Tryd.prog w = .ok (.pointer (some ⟨b, o + 3, none⟩)) w := by kernel_rfl
theorem en169 : Enters Tryd.prog 169 := enters (fn := Tryd.f169) (by kernel_rfl) (by kernel_rfl) (by kernel_rfl)
theorem fa48_2 (b o : Nat) (w : World) : (Instr.fieldAt 48 (.pointer (some ⟨b, o, none⟩)) 2).run Tryd.prog w = .ok (.pointer (some ⟨b, o + 7, none⟩)) w := by kernel_rfl
theorem en132 : Enters Tryd.prog 132 := enters (fn := Tryd.f132) (by kernel_rfl) (by kernel_rfl) (by kernel_rfl)
theorem en121 : Enters Tryd.prog 121 := enters (fn := Tryd.f121) (by kernel_rfl) (by kernel_rfl) (by kernel_rfl)
theorem en65 : Enters Tryd.prog 65 := enters (fn := Tryd.f65) (by kernel_rfl) (by kernel_rfl) (by kernel_rfl)
theorem en26 : Enters Tryd.prog 26 := enters (fn := Tryd.f26) (by kernel_rfl) (by kernel_rfl) (by kernel_rfl)
theorem ext198_0 : Tryd.prog.funcs[198]? = some Tryd.f198 := by kernel_rfl
theorem ext198_1 : (Tryd.f198.name == "runtime.NumGoroutine") = false := by kernel_rfl
theorem ext198_2 : Tryd.f198.body.isNone = true := by kernel_rfl
theorem ext198_3 : (Extern.findNext Tryd.f198).isNone = true := by kernel_rfl
theorem ext198_4 : Extern.find Tryd.f198 = some Extern.BytealgCount.count := by kernel_rfl
theorem en171 : Enters Tryd.prog 171 := enters (fn := Tryd.f171) (by kernel_rfl) (by kernel_rfl) (by kernel_rfl)
theorem ext168_0 : Tryd.prog.funcs[168]? = some Tryd.f168 := by kernel_rfl
theorem ext168_1 : (Tryd.f168.name == "runtime.NumGoroutine") = false := by kernel_rfl
theorem ext168_2 : Tryd.f168.body.isNone = true := by kernel_rfl
theorem ext168_3 : (Extern.findNext Tryd.f168).isNone = true := by kernel_rfl
theorem ext168_4 : Extern.find Tryd.f168 = some Extern.BytealgIndexByte.indexByte := by kernel_rfl
theorem en117 : Enters Tryd.prog 117 := enters (fn := Tryd.f117) (by kernel_rfl) (by kernel_rfl) (by kernel_rfl)
theorem en165 : Enters Tryd.prog 165 := enters (fn := Tryd.f165) (by kernel_rfl) (by kernel_rfl) (by kernel_rfl)
theorem en113 : Enters Tryd.prog 113 := enters (fn := Tryd.f113) (by kernel_rfl) (by kernel_rfl) (by kernel_rfl)
theorem en122 : Enters Tryd.prog 122 := enters (fn := Tryd.f122) (by kernel_rfl) (by kernel_rfl) (by kernel_rfl)
theorem en66 : Enters Tryd.prog 66 := enters (fn := Tryd.f66) (by kernel_rfl) (by kernel_rfl) (by kernel_rfl)
theorem en100 : Enters Tryd.prog 100 := enters (fn := Tryd.f100) (by kernel_rfl) (by kernel_rfl) (by kernel_rfl)
theorem en62 : Enters Tryd.prog 62 := enters (fn := Tryd.f62) (by kernel_rfl) (by kernel_rfl) (by kernel_rfl)
theorem en103 : Enters Tryd.prog 103 := enters (fn := Tryd.f103) (by kernel_rfl) (by kernel_rfl) (by kernel_rfl)
theorem en155 : Enters Tryd.prog 155 := enters (fn := Tryd.f155) (by kernel_rfl) (by kernel_rfl) (by kernel_rfl)
theorem en153 : Enters Tryd.prog 153 := enters (fn := Tryd.f153) (by kernel_rfl) (by kernel_rfl) (by kernel_rfl)
theorem en98 : Enters Tryd.prog 98 := enters (fn := Tryd.f98) (by kernel_rfl) (by kernel_rfl) (by kernel_rfl)
theorem en101 : Enters Tryd.prog 101 := enters (fn := Tryd.f101) (by kernel_rfl) (by kernel_rfl) (by kernel_rfl)
theorem en43 : Enters Tryd.prog 43 := enters (fn := Tryd.f43) (by kernel_rfl) (by kernel_rfl) (by kernel_rfl)
theorem en67 : Enters Tryd.prog 67 := enters (fn := Tryd.f67) (by kernel_rfl) (by kernel_rfl) (by kernel_rfl)
theorem en49 : Enters Tryd.prog 49 := enters (fn := Tryd.f49) (by kernel_rfl) (by kernel_rfl) (by kernel_rfl)
theorem en130 : Enters Tryd.prog 130 := enters (fn := Tryd.f130) (by kernel_rfl) (by kernel_rfl) (by kernel_rfl)
theorem en123 : Enters Tryd.prog 123 := enters (fn := Tryd.f123) (by kernel_rfl) (by kernel_rfl) (by kernel_rfl)
theorem agg46 (w : World) : (isAgg 46).run Tryd.prog w = .ok true w := by kernel_rfl
theorem size46 (w : World) : (sizeOf 46).run Tryd.prog w = .ok 4 w := by kernel_rfl
theorem en172 : Enters Tryd.prog 172 := enters (fn := Tryd.f172) (by kernel_rfl) (by kernel_rfl) (by kernel_rfl)
theorem en161 : Enters Tryd.prog 161 := enters (fn := Tryd.f161) (by kernel_rfl) (by kernel_rfl) (by kernel_rfl)
theorem en179 : Enters Tryd.prog 179 := enters (fn := Tryd.f179) (by kernel_rfl) (by kernel_rfl) (by kernel_rfl)
theorem en142 : Enters Tryd.prog 142 := enters (fn := Tryd.f142) (by kernel_rfl) (by kernel_rfl) (by kernel_rfl)
theorem en107 : Enters Tryd.prog 107 := enters (fn := Tryd.f107) (by kernel_rfl) (by kernel_rfl) (by kernel_rfl)
theorem en124 : Enters Tryd.prog 124 := enters (fn := Tryd.f124) (by kernel_rfl) (by kernel_rfl) (by kernel_rfl)
theorem en125 : Enters Tryd.prog 125 := enters (fn := Tryd.f125) (by kernel_rfl) (by kernel_rfl) (by kernel_rfl)
theorem en68 : Enters Tryd.prog 68 := enters (fn := Tryd.f68) (by kernel_rfl) (by kernel_rfl) (by kernel_rfl)
theorem en27 : Enters Tryd.prog 27 := enters (fn := Tryd.f27) (by kernel_rfl) (by kernel_rfl) (by kernel_rfl)
theorem un22 : Tryd.prog.underlying 22 = some (.float .f32) := by kernel_rfl
theorem un89 : Tryd.prog.underlying 89 = some (.float .f64) := by kernel_rfl
theorem cn_f64_0 : cn .f64 0 = 0 := by decide +kernel
theorem cn_f64_4607182418800017408 : cn .f64 4607182418800017408 = 4607182418800017408 := by decide +kernel
theorem un4 : Tryd.prog.underlying 4 = some (.bool) := by kernel_rfl
theorem en51 : Enters Tryd.prog 51 := enters (fn := Tryd.f51) (by kernel_rfl) (by kernel_rfl) (by kernel_rfl)
theorem en69 : Enters Tryd.prog 69 := enters (fn := Tryd.f69) (by kernel_rfl) (by kernel_rfl) (by kernel_rfl)
theorem en70 : Enters Tryd.prog 70 := enters (fn := Tryd.f70) (by kernel_rfl) (by kernel_rfl) (by kernel_rfl)
theorem en28 : Enters Tryd.prog 28 := enters (fn := Tryd.f28) (by kernel_rfl) (by kernel_rfl) (by kernel_rfl)
end Go.Proofs
