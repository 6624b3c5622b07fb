import Derived.Test.YtodohnoicfmneaaDoorChecked
import Derived.Test.YtodohnoicfmneaaDoorSh
import Derived.Test.YtodohnoicfmneaaDoorBMd
namespace Go.Proofs
open Go Go.Fl Go.RowKit Go.Rg
set_option maxRecDepth 100000
set_option linter.unusedVariables false
attribute [local irreducible] Go.Calls doAll Does DoesG W Wr
theorem un22 : Tryd.prog.underlying 22 = some (.slice 5) := by kernel_rfl
theorem en4 : Enters Tryd.prog 4 := enters (fn := Tryd.f4) (by kernel_rfl) (by kernel_rfl) (by kernel_rfl)
theorem cn_f32_0 : cn .f32 0 = 0 := by decide +kernel
theorem zero26 (w : World) : (zeroValue 26).run Tryd.prog w = .ok (.agg #[.float .f32 0, .float .f32 0, .float .f32 0]) w := by kernel_rfl
theorem en21 : Enters Tryd.prog 21 := enters (fn := Tryd.f21) (by kernel_rfl) (by kernel_rfl) (by kernel_rfl)
theorem mixed : Tryd.prog.follows .mixedOrders = true := by kernel_rfl
theorem fa54_1 (b o : Nat) (w : World) : (Instr.fieldAt 54 (.pointer (some ⟨b, o, none⟩)) 1).run Tryd.prog w = .ok (.pointer (some ⟨b, o + 1, none⟩)) w := by kernel_rfl
theorem agg3 (w : World) : (isAgg 3).run Tryd.prog w = .ok false w := by kernel_rfl
theorem fa54_0 (b o : Nat) (w : World) : (Instr.fieldAt 54 (.pointer (some ⟨b, o, none⟩)) 0).run Tryd.prog w = .ok (.pointer (some ⟨b, o, none⟩)) w := by kernel_rfl
theorem agg22 (w : World) : (isAgg 22).run Tryd.prog w = .ok false w := by kernel_rfl
theorem size5 (w : World) : (sizeOf 5).run Tryd.prog w = .ok 1 w := by kernel_rfl
theorem agg5 (w : World) : (isAgg 5).run Tryd.prog w = .ok false w := by kernel_rfl
theorem un5 : Tryd.prog.underlying 5 = some (.int .u8) := by kernel_rfl
theorem un3 : Tryd.prog.underlying 3 = some (.int .i64) := by kernel_rfl
theorem size3 (w : World) : (sizeOf 3).run Tryd.prog w = .ok 1 w := by kernel_rfl
theorem fa54_2 (b o : Nat) (w : World) : (Instr.fieldAt 54 (.pointer (some ⟨b, o, none⟩)) 2).run Tryd.prog w = .ok (.pointer (some ⟨b, o + 2, none⟩)) w := by kernel_rfl
theorem agg52 (w : World) : (isAgg 52).run Tryd.prog w = .ok false w := by kernel_rfl
theorem un52 : Tryd.prog.underlying 52 = some (.int .u64) := by kernel_rfl
theorem size52 (w : World) : (sizeOf 52).run Tryd.prog w = .ok 1 w := by kernel_rfl
theorem un2 : Tryd.prog.underlying 2 = some (.int .i64) := by kernel_rfl
theorem en32 : Enters Tryd.prog 32 := enters (fn := Tryd.f32) (by kernel_rfl) (by kernel_rfl) (by kernel_rfl)
theorem en22 : Enters Tryd.prog 22 := enters (fn := Tryd.f22) (by kernel_rfl) (by kernel_rfl) (by kernel_rfl)
theorem un24 : Tryd.prog.underlying 24 = some (.float .f32) := by kernel_rfl
theorem size26 (w : World) : (sizeOf 26).run Tryd.prog w = .ok 3 w := by kernel_rfl
theorem fa26_1 (b o : Nat) (w : World) : (Instr.fieldAt 26 (.pointer (some ⟨b, o, none⟩)) 1).run Tryd.prog w = .ok (.pointer (some ⟨b, o + 1, none⟩)) w := by kernel_rfl
theorem size24 (w : World) : (sizeOf 24).run Tryd.prog w = .ok 1 w := by kernel_rfl
theorem fa26_2 (b o : Nat) (w : World) : (Instr.fieldAt 26 (.pointer (some ⟨b, o, none⟩)) 2).run Tryd.prog w = .ok (.pointer (some ⟨b, o + 2, none⟩)) w := by kernel_rfl
theorem agg26 (w : World) : (isAgg 26).run Tryd.prog w = .ok true w := by kernel_rfl
theorem en5 : Enters Tryd.prog 5 := enters (fn := Tryd.f5) (by kernel_rfl) (by kernel_rfl) (by kernel_rfl)
theorem agg24 (w : World) : (isAgg 24).run Tryd.prog w = .ok false w := by kernel_rfl
theorem en23 : Enters Tryd.prog 23 := enters (fn := Tryd.f23) (by kernel_rfl) (by kernel_rfl) (by kernel_rfl)
theorem fa26_0 (b o : Nat) (w : World) : (Instr.fieldAt 26 (.pointer (some ⟨b, o, none⟩)) 0).run Tryd.prog w = .ok (.pointer (some ⟨b, o, none⟩)) w := by kernel_rfl
theorem en6 : Enters Tryd.prog 6 := enters (fn := Tryd.f6) (by kernel_rfl) (by kernel_rfl) (by kernel_rfl)
theorem en8 : Enters Tryd.prog 8 := enters (fn := Tryd.f8) (by kernel_rfl) (by kernel_rfl) (by kernel_rfl)
theorem en7 : Enters Tryd.prog 7 := enters (fn := Tryd.f7) (by kernel_rfl) (by kernel_rfl) (by kernel_rfl)
theorem cn_f32_1073741824 : cn .f32 1073741824 = 1073741824 := by decide +kernel
theorem en9 : Enters Tryd.prog 9 := enters (fn := Tryd.f9) (by kernel_rfl) (by kernel_rfl) (by kernel_rfl)
theorem cn_f32_3212836864 : cn .f32 3212836864 = 3212836864 := by decide +kernel
theorem en11 : Enters Tryd.prog 11 := enters (fn := Tryd.f11) (by kernel_rfl) (by kernel_rfl) (by kernel_rfl)
theorem un57 : Tryd.prog.underlying 57 = some (.float .f64) := by kernel_rfl
theorem cn_f64_0 : cn .f64 0 = 0 := by decide +kernel
theorem sqrtF0 : Tryd.prog.funcs[47]? = some Tryd.f47 := by kernel_rfl
theorem sqrtF1 : (Tryd.f47.name == "runtime.NumGoroutine") = false := by kernel_rfl
theorem sqrtF2 : Tryd.f47.body.isNone = true := by kernel_rfl
theorem sqrtF3 : (Extern.findNext Tryd.f47).isNone = true := by kernel_rfl
theorem sqrtF4 : Extern.find Tryd.f47 = some Extern.MathSqrt.sqrt := by kernel_rfl
theorem en34 : Enters Tryd.prog 34 := enters (fn := Tryd.f34) (by kernel_rfl) (by kernel_rfl) (by kernel_rfl)
theorem en25 : Enters Tryd.prog 25 := enters (fn := Tryd.f25) (by kernel_rfl) (by kernel_rfl) (by kernel_rfl)
theorem en35 : Enters Tryd.prog 35 := enters (fn := Tryd.f35) (by kernel_rfl) (by kernel_rfl) (by kernel_rfl)
theorem en26 : Enters Tryd.prog 26 := enters (fn := Tryd.f26) (by kernel_rfl) (by kernel_rfl) (by kernel_rfl)
theorem ext46_0 : Tryd.prog.funcs[46]? = some Tryd.f46 := by kernel_rfl
theorem ext46_1 : (Tryd.f46.name == "runtime.NumGoroutine") = false := by kernel_rfl
theorem ext46_2 : Tryd.f46.body.isNone = true := by kernel_rfl
theorem ext46_3 : (Extern.findNext Tryd.f46).isNone = true := by kernel_rfl
theorem ext46_4 : Extern.find Tryd.f46 = some Extern.MathFloatBits.float32bits := by kernel_rfl
theorem un70 : Tryd.prog.underlying 70 = some (.int .u32) := by kernel_rfl
theorem en33 : Enters Tryd.prog 33 := enters (fn := Tryd.f33) (by kernel_rfl) (by kernel_rfl) (by kernel_rfl)
theorem en24 : Enters Tryd.prog 24 := enters (fn := Tryd.f24) (by kernel_rfl) (by kernel_rfl) (by kernel_rfl)
theorem en10 : Enters Tryd.prog 10 := enters (fn := Tryd.f10) (by kernel_rfl) (by kernel_rfl) (by kernel_rfl)
theorem en12 : Enters Tryd.prog 12 := enters (fn := Tryd.f12) (by kernel_rfl) (by kernel_rfl) (by kernel_rfl)
theorem en14 : Enters Tryd.prog 14 := enters (fn := Tryd.f14) (by kernel_rfl) (by kernel_rfl) (by kernel_rfl)
theorem en15 : Enters Tryd.prog 15 := enters (fn := Tryd.f15) (by kernel_rfl) (by kernel_rfl) (by kernel_rfl)
theorem en13 : Enters Tryd.prog 13 := enters (fn := Tryd.f13) (by kernel_rfl) (by kernel_rfl) (by kernel_rfl)
theorem cn_f32_1065353216 : cn .f32 1065353216 = 1065353216 := by decide +kernel
theorem en16 : Enters Tryd.prog 16 := enters (fn := Tryd.f16) (by kernel_rfl) (by kernel_rfl) (by kernel_rfl)
theorem en36 : Enters Tryd.prog 36 := enters (fn := Tryd.f36) (by kernel_rfl) (by kernel_rfl) (by kernel_rfl)
theorem cn_f32_1082130432 : cn .f32 1082130432 = 1082130432 := by decide +kernel
theorem en37 : Enters Tryd.prog 37 := enters (fn := Tryd.f37) (by kernel_rfl) (by kernel_rfl) (by kernel_rfl)
theorem cn_f32_1088421888 : cn .f32 1088421888 = 1088421888 := by decide +kernel
theorem cn_f32_1098907648 : cn .f32 1098907648 = 1098907648 := by decide +kernel
theorem en48 : Enters Tryd.prog 48 := enters (fn := Tryd.f48) (by kernel_rfl) (by kernel_rfl) (by kernel_rfl)
theorem un74 : Tryd.prog.underlying 74 = some (.slice 2) := by kernel_rfl
theorem size2 (w : World) : (sizeOf 2).run Tryd.prog w = .ok 1 w := by kernel_rfl
theorem agg2 (w : World) : (isAgg 2).run Tryd.prog w = .ok false w := by kernel_rfl
theorem en50 : Enters Tryd.prog 50 := enters (fn := Tryd.f50) (by kernel_rfl) (by kernel_rfl) (by kernel_rfl)
theorem ext56_0 : Tryd.prog.funcs[56]? = some Tryd.f56 := by kernel_rfl
theorem ext56_1 : (Tryd.f56.name == "runtime.NumGoroutine") = false := by kernel_rfl
theorem ext56_2 : Tryd.f56.body.isNone = true := by kernel_rfl
theorem ext56_3 : (Extern.findNext Tryd.f56).isNone = true := by kernel_rfl
theorem ext56_4 : Extern.find Tryd.f56 = some Extern.MathFloatBits.float32frombits := by kernel_rfl
theorem en49 : Enters Tryd.prog 49 := enters (fn := Tryd.f49) (by kernel_rfl) (by kernel_rfl) (by kernel_rfl)
theorem en38 : Enters Tryd.prog 38 := enters (fn := Tryd.f38) (by kernel_rfl) (by kernel_rfl) (by kernel_rfl)
theorem en27 : Enters Tryd.prog 27 := enters (fn := Tryd.f27) (by kernel_rfl) (by kernel_rfl) (by kernel_rfl)
theorem en17 : Enters Tryd.prog 17 := enters (fn := Tryd.f17) (by kernel_rfl) (by kernel_rfl) (by kernel_rfl)
theorem un47 : Tryd.prog.underlying 47 = some (.slice 24) := by kernel_rfl
theorem en29 : Enters Tryd.prog 29 := enters (fn := Tryd.f29) (by kernel_rfl) (by kernel_rfl) (by kernel_rfl)
theorem en39 : Enters Tryd.prog 39 := enters (fn := Tryd.f39) (by kernel_rfl) (by kernel_rfl) (by kernel_rfl)
theorem un63 : Tryd.prog.underlying 63 = some (.slice 9) := by kernel_rfl
theorem size9 (w : World) : (sizeOf 9).run Tryd.prog w = .ok 1 w := by kernel_rfl
theorem en51 : Enters Tryd.prog 51 := enters (fn := Tryd.f51) (by kernel_rfl) (by kernel_rfl) (by kernel_rfl)
theorem en40 : Enters Tryd.prog 40 := enters (fn := Tryd.f40) (by kernel_rfl) (by kernel_rfl) (by kernel_rfl)
theorem un9 : Tryd.prog.underlying 9 = some (.string) := by kernel_rfl
theorem infoz5 : Tryd.t5.zero = some (.int .u8 0) := by kernel_rfl
theorem info5 : Tryd.prog.info? 5 = some Tryd.t5 := by kernel_rfl
theorem infoz9 : Tryd.t9.zero = some (.string (bs ([] : List UInt8))) := by kernel_rfl
theorem info9 : Tryd.prog.info? 9 = some Tryd.t9 := by kernel_rfl
theorem en52 : Enters Tryd.prog 52 := enters (fn := Tryd.f52) (by kernel_rfl) (by kernel_rfl) (by kernel_rfl)
theorem sh52 {v : Value} {xs : List (List UInt8)} {sep r : List UInt8} {w : World} (hr : sjoin xs sep = some r) (h : RS w encS v xs) : Calls Tryd.prog 52 #[v, .string (bs sep)] w fun e w' => e = .returned (.string (bs r)) ∧ Ext w w' := join_of rfl (fun a c sep w => Tryd.strings_Join_none a c sep w) (fun bk o c xs sep w h1 h2 h3 h4 h5 => Tryd.strings_Join bk o c xs sep w h1 h2 h3 h4 h5) hr h
theorem en41 : Enters Tryd.prog 41 := enters (fn := Tryd.f41) (by kernel_rfl) (by kernel_rfl) (by kernel_rfl)
theorem en28 : Enters Tryd.prog 28 := enters (fn := Tryd.f28) (by kernel_rfl) (by kernel_rfl) (by kernel_rfl)
theorem en18 : Enters Tryd.prog 18 := enters (fn := Tryd.f18) (by kernel_rfl) (by kernel_rfl) (by kernel_rfl)
theorem ext73_0 : Tryd.prog.funcs[73]? = some Tryd.f73 := by kernel_rfl
theorem ext73_1 : (Tryd.f73.name == "runtime.NumGoroutine") = false := by kernel_rfl
theorem ext73_2 : Tryd.f73.body.isNone = true := by kernel_rfl
theorem ext73_3 : (Extern.findNext Tryd.f73).isNone = true := by kernel_rfl
theorem ext73_4 : Extern.find Tryd.f73 = some Extern.BytealgCount.count := by kernel_rfl
theorem en66 : Enters Tryd.prog 66 := enters (fn := Tryd.f66) (by kernel_rfl) (by kernel_rfl) (by kernel_rfl)
theorem ext68_0 : Tryd.prog.funcs[68]? = some Tryd.f68 := by kernel_rfl
theorem ext68_1 : (Tryd.f68.name == "runtime.NumGoroutine") = false := by kernel_rfl
theorem ext68_2 : Tryd.f68.body.isNone = true := by kernel_rfl
theorem ext68_3 : (Extern.findNext Tryd.f68).isNone = true := by kernel_rfl
theorem ext68_4 : Extern.find Tryd.f68 = some Extern.BytealgIndexByte.indexByte := by kernel_rfl
theorem en61 : Enters Tryd.prog 61 := enters (fn := Tryd.f61) (by kernel_rfl) (by kernel_rfl) (by kernel_rfl)
theorem en74 : Enters Tryd.prog 74 := enters (fn := Tryd.f74) (by kernel_rfl) (by kernel_rfl) (by kernel_rfl)
theorem en67 : Enters Tryd.prog 67 := enters (fn := Tryd.f67) (by kernel_rfl) (by kernel_rfl) (by kernel_rfl)
theorem en60 : Enters Tryd.prog 60 := enters (fn := Tryd.f60) (by kernel_rfl) (by kernel_rfl) (by kernel_rfl)
theorem en53 : Enters Tryd.prog 53 := enters (fn := Tryd.f53) (by kernel_rfl) (by kernel_rfl) (by kernel_rfl)
theorem en42 : Enters Tryd.prog 42 := enters (fn := Tryd.f42) (by kernel_rfl) (by kernel_rfl) (by kernel_rfl)
theorem agg9 (w : World) : (isAgg 9).run Tryd.prog w = .ok false w := by kernel_rfl
theorem en54 : Enters Tryd.prog 54 := enters (fn := Tryd.f54) (by kernel_rfl) (by kernel_rfl) (by kernel_rfl)
theorem en62 : Enters Tryd.prog 62 := enters (fn := Tryd.f62) (by kernel_rfl) (by kernel_rfl) (by kernel_rfl)
theorem en55 : Enters Tryd.prog 55 := enters (fn := Tryd.f55) (by kernel_rfl) (by kernel_rfl) (by kernel_rfl)
theorem en43 : Enters Tryd.prog 43 := enters (fn := Tryd.f43) (by kernel_rfl) (by kernel_rfl) (by kernel_rfl)
theorem infoz24 : Tryd.t24.zero = some (.float .f32 0) := by kernel_rfl
theorem info24 : Tryd.prog.info? 24 = some Tryd.t24 := by kernel_rfl
theorem en30 : Enters Tryd.prog 30 := enters (fn := Tryd.f30) (by kernel_rfl) (by kernel_rfl) (by kernel_rfl)
theorem en19 : Enters Tryd.prog 19 := enters (fn := Tryd.f19) (by kernel_rfl) (by kernel_rfl) (by kernel_rfl)
theorem en45 : Enters Tryd.prog 45 := enters (fn := Tryd.f45) (by kernel_rfl) (by kernel_rfl) (by kernel_rfl)
theorem en44 : Enters Tryd.prog 44 := enters (fn := Tryd.f44) (by kernel_rfl) (by kernel_rfl) (by kernel_rfl)
theorem en31 : Enters Tryd.prog 31 := enters (fn := Tryd.f31) (by kernel_rfl) (by kernel_rfl) (by kernel_rfl)
theorem en20 : Enters Tryd.prog 20 := enters (fn := Tryd.f20) (by kernel_rfl) (by kernel_rfl) (by kernel_rfl)
end Go.Proofs
