import Derived.Test.YtdcienojgkioiaaDoorChecked
import Derived.Test.YtdcienojgkioiaaDoorSh
import Derived.Test.YtdcienojgkioiaaDoorBMd
namespace Go.Proofs
open Go Go.Fl Go.RowKit Go.Rg
set_option maxRecDepth 100000
set_option linter.unusedVariables false
attribute [local irreducible] Go.Calls doAll Does DoesG W Wr
theorem un9 : Tryd.prog.underlying 9 = some (.string) := by kernel_rfl
theorem un34 : Tryd.prog.underlying 34 = some (.slice 9) := by kernel_rfl
theorem size9 (w : World) : (sizeOf 9).run Tryd.prog w = .ok 1 w := by kernel_rfl
theorem infoz9 : Tryd.t9.zero = some (.string (bs ([] : List UInt8))) := by kernel_rfl
theorem info9 : Tryd.prog.info? 9 = some Tryd.t9 := by kernel_rfl
theorem en119 : Enters Tryd.prog 119 := enters (fn := Tryd.f119) (by kernel_rfl) (by kernel_rfl) (by kernel_rfl)
theorem mixed : Tryd.prog.follows .mixedOrders = true := by kernel_rfl
theorem agg9 (w : World) : (isAgg 9).run Tryd.prog w = .ok false w := by kernel_rfl
theorem en116 : Enters Tryd.prog 116 := enters (fn := Tryd.f116) (by kernel_rfl) (by kernel_rfl) (by kernel_rfl)
theorem un5 : Tryd.prog.underlying 5 = some (.int .u8) := by kernel_rfl
theorem un2 : Tryd.prog.underlying 2 = some (.int .i64) := by kernel_rfl
theorem en111 : Enters Tryd.prog 111 := enters (fn := Tryd.f111) (by kernel_rfl) (by kernel_rfl) (by kernel_rfl)
theorem un73 : Tryd.prog.underlying 73 = some (.slice 5) := by kernel_rfl
theorem size5 (w : World) : (sizeOf 5).run Tryd.prog w = .ok 1 w := by kernel_rfl
theorem infoz5 : Tryd.t5.zero = some (.int .u8 0) := by kernel_rfl
theorem info5 : Tryd.prog.info? 5 = some Tryd.t5 := by kernel_rfl
theorem en112 : Enters Tryd.prog 112 := enters (fn := Tryd.f112) (by kernel_rfl) (by kernel_rfl) (by kernel_rfl)
theorem en61 : Enters Tryd.prog 61 := enters (fn := Tryd.f61) (by kernel_rfl) (by kernel_rfl) (by kernel_rfl)
theorem en22 : Enters Tryd.prog 22 := enters (fn := Tryd.f22) (by kernel_rfl) (by kernel_rfl) (by kernel_rfl)
theorem ext168_0 : Tryd.prog.funcs[168]? = some Tryd.f168 := by kernel_rfl
theorem ext168_1 : (Tryd.f168.name == "runtime.NumGoroutine") = false := by kernel_rfl
theorem ext168_2 : Tryd.f168.body.isNone = true := by kernel_rfl
theorem ext168_3 : (Extern.findNext Tryd.f168).isNone = true := by kernel_rfl
theorem ext168_4 : Extern.find Tryd.f168 = some Extern.BytealgIndexByte.indexByte := by kernel_rfl
theorem en117 : Enters Tryd.prog 117 := enters (fn := Tryd.f117) (by kernel_rfl) (by kernel_rfl) (by kernel_rfl)
theorem en62 : Enters Tryd.prog 62 := enters (fn := Tryd.f62) (by kernel_rfl) (by kernel_rfl) (by kernel_rfl)
theorem en165 : Enters Tryd.prog 165 := enters (fn := Tryd.f165) (by kernel_rfl) (by kernel_rfl) (by kernel_rfl)
theorem en118 : Enters Tryd.prog 118 := enters (fn := Tryd.f118) (by kernel_rfl) (by kernel_rfl) (by kernel_rfl)
theorem en63 : Enters Tryd.prog 63 := enters (fn := Tryd.f63) (by kernel_rfl) (by kernel_rfl) (by kernel_rfl)
theorem en103 : Enters Tryd.prog 103 := enters (fn := Tryd.f103) (by kernel_rfl) (by kernel_rfl) (by kernel_rfl)
theorem en57 : Enters Tryd.prog 57 := enters (fn := Tryd.f57) (by kernel_rfl) (by kernel_rfl) (by kernel_rfl)
theorem en115 : Enters Tryd.prog 115 := enters (fn := Tryd.f115) (by kernel_rfl) (by kernel_rfl) (by kernel_rfl)
theorem sh115 {k : Int} {r : List UInt8} {w : World} (hr : fmt10 k = some r) (t : T10 Tryd.prog w) : Calls Tryd.prog 115 #[.int .i64 k, .int .i64 10] w fun e w' => e = .returned (.string (bs r)) ∧ Ext w w' := fmt10_of (fun k h0 h1 w t => Tryd.strconv_FormatInt_10 k h0 h1 w t) hr t
theorem en59 : Enters Tryd.prog 59 := enters (fn := Tryd.f59) (by kernel_rfl) (by kernel_rfl) (by kernel_rfl)
theorem en23 : Enters Tryd.prog 23 := enters (fn := Tryd.f23) (by kernel_rfl) (by kernel_rfl) (by kernel_rfl)
theorem en21 : Enters Tryd.prog 21 := enters (fn := Tryd.f21) (by kernel_rfl) (by kernel_rfl) (by kernel_rfl)
theorem un4 : Tryd.prog.underlying 4 = some (.bool) := by kernel_rfl
theorem un3 : Tryd.prog.underlying 3 = some (.int .i64) := by kernel_rfl
theorem en64 : Enters Tryd.prog 64 := enters (fn := Tryd.f64) (by kernel_rfl) (by kernel_rfl) (by kernel_rfl)
theorem en24 : Enters Tryd.prog 24 := enters (fn := Tryd.f24) (by kernel_rfl) (by kernel_rfl) (by kernel_rfl)
theorem en25 : Enters Tryd.prog 25 := enters (fn := Tryd.f25) (by kernel_rfl) (by kernel_rfl) (by kernel_rfl)
end Go.Proofs
