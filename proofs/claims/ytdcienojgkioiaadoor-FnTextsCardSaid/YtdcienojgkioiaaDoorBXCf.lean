import Derived.Test.YtdcienojgkioiaaDoorChecked
import Derived.Test.YtdcienojgkioiaaDoorSh
import Derived.Test.YtdcienojgkioiaaDoorBMd
namespace Go.Proofs
open Go Go.Fl Go.RowKit Go.Rg
set_option maxRecDepth 100000
set_option linter.unusedVariables false
attribute [local irreducible] Go.Calls doAll Does DoesG W Wr
theorem un73 : Tryd.prog.underlying 73 = some (.slice 5) := by kernel_rfl
theorem en39 : Enters Tryd.prog 39 := enters (fn := Tryd.f39) (by kernel_rfl) (by kernel_rfl) (by kernel_rfl)
theorem size5 (w : World) : (sizeOf 5).run Tryd.prog w = .ok 1 w := by kernel_rfl
theorem agg5 (w : World) : (isAgg 5).run Tryd.prog w = .ok false w := by kernel_rfl
theorem un5 : Tryd.prog.underlying 5 = some (.int .u8) := by kernel_rfl
theorem un2 : Tryd.prog.underlying 2 = some (.int .i64) := by kernel_rfl
theorem en41 : Enters Tryd.prog 41 := enters (fn := Tryd.f41) (by kernel_rfl) (by kernel_rfl) (by kernel_rfl)
theorem en95 : Enters Tryd.prog 95 := enters (fn := Tryd.f95) (by kernel_rfl) (by kernel_rfl) (by kernel_rfl)
theorem cn_f32_0 : cn .f32 0 = 0 := by decide +kernel
theorem un53 : Tryd.prog.underlying 53 = some (.slice 22) := by kernel_rfl
theorem size22 (w : World) : (sizeOf 22).run Tryd.prog w = .ok 1 w := by kernel_rfl
theorem mixed : Tryd.prog.follows .mixedOrders = true := by kernel_rfl
theorem fa190_1 (b o : Nat) (w : World) : (Instr.fieldAt 190 (.pointer (some ⟨b, o, none⟩)) 1).run Tryd.prog w = .ok (.pointer (some ⟨b, o + 1, none⟩)) w := by kernel_rfl
theorem agg3 (w : World) : (isAgg 3).run Tryd.prog w = .ok false w := by kernel_rfl
theorem fa190_0 (b o : Nat) (w : World) : (Instr.fieldAt 190 (.pointer (some ⟨b, o, none⟩)) 0).run Tryd.prog w = .ok (.pointer (some ⟨b, o, none⟩)) w := by kernel_rfl
theorem agg73 (w : World) : (isAgg 73).run Tryd.prog w = .ok false w := by kernel_rfl
theorem un3 : Tryd.prog.underlying 3 = some (.int .i64) := by kernel_rfl
theorem size3 (w : World) : (sizeOf 3).run Tryd.prog w = .ok 1 w := by kernel_rfl
theorem fa190_2 (b o : Nat) (w : World) : (Instr.fieldAt 190 (.pointer (some ⟨b, o, none⟩)) 2).run Tryd.prog w = .ok (.pointer (some ⟨b, o + 2, none⟩)) w := by kernel_rfl
theorem agg188 (w : World) : (isAgg 188).run Tryd.prog w = .ok false w := by kernel_rfl
theorem un188 : Tryd.prog.underlying 188 = some (.int .u64) := by kernel_rfl
theorem size188 (w : World) : (sizeOf 188).run Tryd.prog w = .ok 1 w := by kernel_rfl
theorem en200 : Enters Tryd.prog 200 := enters (fn := Tryd.f200) (by kernel_rfl) (by kernel_rfl) (by kernel_rfl)
theorem en184 : Enters Tryd.prog 184 := enters (fn := Tryd.f184) (by kernel_rfl) (by kernel_rfl) (by kernel_rfl)
theorem en150 : Enters Tryd.prog 150 := enters (fn := Tryd.f150) (by kernel_rfl) (by kernel_rfl) (by kernel_rfl)
theorem un22 : Tryd.prog.underlying 22 = some (.float .f32) := by kernel_rfl
theorem cn_f32_1088421888 : cn .f32 1088421888 = 1088421888 := by decide +kernel
theorem cn_f32_1098907648 : cn .f32 1098907648 = 1098907648 := by decide +kernel
theorem en152 : Enters Tryd.prog 152 := enters (fn := Tryd.f152) (by kernel_rfl) (by kernel_rfl) (by kernel_rfl)
theorem un81 : Tryd.prog.underlying 81 = some (.slice 2) := by kernel_rfl
theorem size2 (w : World) : (sizeOf 2).run Tryd.prog w = .ok 1 w := by kernel_rfl
theorem agg2 (w : World) : (isAgg 2).run Tryd.prog w = .ok false w := by kernel_rfl
theorem en185 : Enters Tryd.prog 185 := enters (fn := Tryd.f185) (by kernel_rfl) (by kernel_rfl) (by kernel_rfl)
theorem un193 : Tryd.prog.underlying 193 = some (.int .u32) := by kernel_rfl
theorem ext186_0 : Tryd.prog.funcs[186]? = some Tryd.f186 := by kernel_rfl
theorem ext186_1 : (Tryd.f186.name == "runtime.NumGoroutine") = false := by kernel_rfl
theorem ext186_2 : Tryd.f186.body.isNone = true := by kernel_rfl
theorem ext186_3 : (Extern.findNext Tryd.f186).isNone = true := by kernel_rfl
theorem ext186_4 : Extern.find Tryd.f186 = some Extern.MathFloatBits.float32frombits := by kernel_rfl
theorem en158 : Enters Tryd.prog 158 := enters (fn := Tryd.f158) (by kernel_rfl) (by kernel_rfl) (by kernel_rfl)
theorem en151 : Enters Tryd.prog 151 := enters (fn := Tryd.f151) (by kernel_rfl) (by kernel_rfl) (by kernel_rfl)
theorem infoz22 : Tryd.t22.zero = some (.float .f32 0) := by kernel_rfl
theorem info22 : Tryd.prog.info? 22 = some Tryd.t22 := by kernel_rfl
theorem en96 : Enters Tryd.prog 96 := enters (fn := Tryd.f96) (by kernel_rfl) (by kernel_rfl) (by kernel_rfl)
theorem en40 : Enters Tryd.prog 40 := enters (fn := Tryd.f40) (by kernel_rfl) (by kernel_rfl) (by kernel_rfl)
theorem en97 : Enters Tryd.prog 97 := enters (fn := Tryd.f97) (by kernel_rfl) (by kernel_rfl) (by kernel_rfl)
theorem un34 : Tryd.prog.underlying 34 = some (.slice 9) := by kernel_rfl
theorem size9 (w : World) : (sizeOf 9).run Tryd.prog w = .ok 1 w := by kernel_rfl
theorem agg22 (w : World) : (isAgg 22).run Tryd.prog w = .ok false w := by kernel_rfl
theorem en153 : Enters Tryd.prog 153 := enters (fn := Tryd.f153) (by kernel_rfl) (by kernel_rfl) (by kernel_rfl)
theorem ext154_0 : Tryd.prog.funcs[154]? = some Tryd.f154 := by kernel_rfl
theorem ext154_1 : (Tryd.f154.name == "runtime.NumGoroutine") = false := by kernel_rfl
theorem ext154_2 : Tryd.f154.body.isNone = true := by kernel_rfl
theorem ext154_3 : (Extern.findNext Tryd.f154).isNone = true := by kernel_rfl
theorem ext154_4 : Extern.find Tryd.f154 = some Extern.MathFloatBits.float32bits := by kernel_rfl
theorem en98 : Enters Tryd.prog 98 := enters (fn := Tryd.f98) (by kernel_rfl) (by kernel_rfl) (by kernel_rfl)
theorem un9 : Tryd.prog.underlying 9 = some (.string) := by kernel_rfl
theorem infoz5 : Tryd.t5.zero = some (.int .u8 0) := by kernel_rfl
theorem info5 : Tryd.prog.info? 5 = some Tryd.t5 := by kernel_rfl
theorem infoz9 : Tryd.t9.zero = some (.string (bs ([] : List UInt8))) := by kernel_rfl
theorem info9 : Tryd.prog.info? 9 = some Tryd.t9 := by kernel_rfl
theorem en90 : Enters Tryd.prog 90 := enters (fn := Tryd.f90) (by kernel_rfl) (by kernel_rfl) (by kernel_rfl)
theorem sh90 {v : Value} {xs : List (List UInt8)} {sep r : List UInt8} {w : World} (hr : sjoin xs sep = some r) (h : RS w encS v xs) : Calls Tryd.prog 90 #[v, .string (bs sep)] w fun e w' => e = .returned (.string (bs r)) ∧ Ext w w' := join_of rfl (fun a c sep w => Tryd.strings_Join_none a c sep w) (fun bk o c xs sep w h1 h2 h3 h4 h5 => Tryd.strings_Join bk o c xs sep w h1 h2 h3 h4 h5) hr h
theorem en99 : Enters Tryd.prog 99 := enters (fn := Tryd.f99) (by kernel_rfl) (by kernel_rfl) (by kernel_rfl)
theorem en42 : Enters Tryd.prog 42 := enters (fn := Tryd.f42) (by kernel_rfl) (by kernel_rfl) (by kernel_rfl)
theorem ext198_0 : Tryd.prog.funcs[198]? = some Tryd.f198 := by kernel_rfl
theorem ext198_1 : (Tryd.f198.name == "runtime.NumGoroutine") = false := by kernel_rfl
theorem ext198_2 : Tryd.f198.body.isNone = true := by kernel_rfl
theorem ext198_3 : (Extern.findNext Tryd.f198).isNone = true := by kernel_rfl
theorem ext198_4 : Extern.find Tryd.f198 = some Extern.BytealgCount.count := by kernel_rfl
theorem en171 : Enters Tryd.prog 171 := enters (fn := Tryd.f171) (by kernel_rfl) (by kernel_rfl) (by kernel_rfl)
theorem ext168_0 : Tryd.prog.funcs[168]? = some Tryd.f168 := by kernel_rfl
theorem ext168_1 : (Tryd.f168.name == "runtime.NumGoroutine") = false := by kernel_rfl
theorem ext168_2 : Tryd.f168.body.isNone = true := by kernel_rfl
theorem ext168_3 : (Extern.findNext Tryd.f168).isNone = true := by kernel_rfl
theorem ext168_4 : Extern.find Tryd.f168 = some Extern.BytealgIndexByte.indexByte := by kernel_rfl
theorem en117 : Enters Tryd.prog 117 := enters (fn := Tryd.f117) (by kernel_rfl) (by kernel_rfl) (by kernel_rfl)
theorem en165 : Enters Tryd.prog 165 := enters (fn := Tryd.f165) (by kernel_rfl) (by kernel_rfl) (by kernel_rfl)
theorem en113 : Enters Tryd.prog 113 := enters (fn := Tryd.f113) (by kernel_rfl) (by kernel_rfl) (by kernel_rfl)
theorem en122 : Enters Tryd.prog 122 := enters (fn := Tryd.f122) (by kernel_rfl) (by kernel_rfl) (by kernel_rfl)
theorem en66 : Enters Tryd.prog 66 := enters (fn := Tryd.f66) (by kernel_rfl) (by kernel_rfl) (by kernel_rfl)
theorem en100 : Enters Tryd.prog 100 := enters (fn := Tryd.f100) (by kernel_rfl) (by kernel_rfl) (by kernel_rfl)
theorem agg9 (w : World) : (isAgg 9).run Tryd.prog w = .ok false w := by kernel_rfl
theorem en62 : Enters Tryd.prog 62 := enters (fn := Tryd.f62) (by kernel_rfl) (by kernel_rfl) (by kernel_rfl)
theorem en103 : Enters Tryd.prog 103 := enters (fn := Tryd.f103) (by kernel_rfl) (by kernel_rfl) (by kernel_rfl)
theorem en155 : Enters Tryd.prog 155 := enters (fn := Tryd.f155) (by kernel_rfl) (by kernel_rfl) (by kernel_rfl)
theorem en101 : Enters Tryd.prog 101 := enters (fn := Tryd.f101) (by kernel_rfl) (by kernel_rfl) (by kernel_rfl)
theorem en43 : Enters Tryd.prog 43 := enters (fn := Tryd.f43) (by kernel_rfl) (by kernel_rfl) (by kernel_rfl)
theorem en159 : Enters Tryd.prog 159 := enters (fn := Tryd.f159) (by kernel_rfl) (by kernel_rfl) (by kernel_rfl)
theorem en156 : Enters Tryd.prog 156 := enters (fn := Tryd.f156) (by kernel_rfl) (by kernel_rfl) (by kernel_rfl)
theorem en102 : Enters Tryd.prog 102 := enters (fn := Tryd.f102) (by kernel_rfl) (by kernel_rfl) (by kernel_rfl)
theorem en44 : Enters Tryd.prog 44 := enters (fn := Tryd.f44) (by kernel_rfl) (by kernel_rfl) (by kernel_rfl)
theorem infoz2 : Tryd.t2.zero = some (.int .i64 0) := by kernel_rfl
theorem info2 : Tryd.prog.info? 2 = some Tryd.t2 := by kernel_rfl
theorem en115 : Enters Tryd.prog 115 := enters (fn := Tryd.f115) (by kernel_rfl) (by kernel_rfl) (by kernel_rfl)
theorem sh115 {k : Int} {r : List UInt8} {w : World} (hr : fmt10 k = some r) (t : T10 Tryd.prog w) : Calls Tryd.prog 115 #[.int .i64 k, .int .i64 10] w fun e w' => e = .returned (.string (bs r)) ∧ Ext w w' := fmt10_of (fun k h0 h1 w t => Tryd.strconv_FormatInt_10 k h0 h1 w t) hr t
theorem en59 : Enters Tryd.prog 59 := enters (fn := Tryd.f59) (by kernel_rfl) (by kernel_rfl) (by kernel_rfl)
theorem en45 : Enters Tryd.prog 45 := enters (fn := Tryd.f45) (by kernel_rfl) (by kernel_rfl) (by kernel_rfl)
theorem en157 : Enters Tryd.prog 157 := enters (fn := Tryd.f157) (by kernel_rfl) (by kernel_rfl) (by kernel_rfl)
theorem sh157 {s : List UInt8} {r : Int × Bool} {w : World} (hr : pint s = some r) (t1 : TSyn Tryd.prog w) (t2 : TRan Tryd.prog w) : Calls Tryd.prog 157 #[.string (bs s), .int .i64 10, .int .i64 64] w fun e w' => ∃ er, e = .returned (.tuple #[.int .i64 r.1, er]) ∧ ErrIs er r.2 ∧ Ext w w' := pint_of (fun s h1 v h2 w => Tryd.strconv_ParseInt_10_at64_ok s h1 v h2 w) (fun s h1 h2 tp p w h3 => Tryd.strconv_ParseInt_10_at64_syntax_var s h1 h2 tp p w h3) (fun s h1 h2 tp p w h3 => Tryd.strconv_ParseInt_10_at64_range_var s h1 h2 tp p w h3) hr t1 t2
theorem en104 : Enters Tryd.prog 104 := enters (fn := Tryd.f104) (by kernel_rfl) (by kernel_rfl) (by kernel_rfl)
theorem en46 : Enters Tryd.prog 46 := enters (fn := Tryd.f46) (by kernel_rfl) (by kernel_rfl) (by kernel_rfl)
theorem en47 : Enters Tryd.prog 47 := enters (fn := Tryd.f47) (by kernel_rfl) (by kernel_rfl) (by kernel_rfl)
end Go.Proofs
