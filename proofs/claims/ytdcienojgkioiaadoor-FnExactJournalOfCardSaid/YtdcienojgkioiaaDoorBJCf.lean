import Derived.Test.YtdcienojgkioiaaDoorChecked
import Derived.Test.YtdcienojgkioiaaDoorSh
import Derived.Test.YtdcienojgkioiaaDoorBMd
namespace Go.Proofs
open Go Go.Fl Go.RowKit Go.Rg
set_option maxRecDepth 100000
set_option linter.unusedVariables false
attribute [local irreducible] Go.Calls doAll Does DoesG W Wr
theorem un34 : Tryd.prog.underlying 34 = some (.slice 9) := by kernel_rfl
theorem size9 (w : World) : (sizeOf 9).run Tryd.prog w = .ok 1 w := by kernel_rfl
theorem agg9 (w : World) : (isAgg 9).run Tryd.prog w = .ok false w := by kernel_rfl
theorem un9 : Tryd.prog.underlying 9 = some (.string) := by kernel_rfl
theorem en17 : Enters Tryd.prog 17 := enters (fn := Tryd.f17) (by kernel_rfl) (by kernel_rfl) (by kernel_rfl)
theorem infoz9 : Tryd.t9.zero = some (.string (bs ([] : List UInt8))) := by kernel_rfl
theorem info9 : Tryd.prog.info? 9 = some Tryd.t9 := by kernel_rfl
theorem en19 : Enters Tryd.prog 19 := enters (fn := Tryd.f19) (by kernel_rfl) (by kernel_rfl) (by kernel_rfl)
theorem un5 : Tryd.prog.underlying 5 = some (.int .u8) := by kernel_rfl
theorem un2 : Tryd.prog.underlying 2 = some (.int .i64) := by kernel_rfl
theorem en111 : Enters Tryd.prog 111 := enters (fn := Tryd.f111) (by kernel_rfl) (by kernel_rfl) (by kernel_rfl)
theorem un73 : Tryd.prog.underlying 73 = some (.slice 5) := by kernel_rfl
theorem size5 (w : World) : (sizeOf 5).run Tryd.prog w = .ok 1 w := by kernel_rfl
theorem infoz5 : Tryd.t5.zero = some (.int .u8 0) := by kernel_rfl
theorem info5 : Tryd.prog.info? 5 = some Tryd.t5 := by kernel_rfl
theorem mixed : Tryd.prog.follows .mixedOrders = true := by kernel_rfl
theorem en112 : Enters Tryd.prog 112 := enters (fn := Tryd.f112) (by kernel_rfl) (by kernel_rfl) (by kernel_rfl)
theorem en54 : Enters Tryd.prog 54 := enters (fn := Tryd.f54) (by kernel_rfl) (by kernel_rfl) (by kernel_rfl)
theorem en18 : Enters Tryd.prog 18 := enters (fn := Tryd.f18) (by kernel_rfl) (by kernel_rfl) (by kernel_rfl)
theorem zero94 (w : World) : (zeroValue 94).run Tryd.prog w = .ok (.agg #[.pointer none, .slice none 0 0]) w := by kernel_rfl
theorem size94 (w : World) : (sizeOf 94).run Tryd.prog w = .ok 2 w := by kernel_rfl
theorem ext168_0 : Tryd.prog.funcs[168]? = some Tryd.f168 := by kernel_rfl
theorem ext168_1 : (Tryd.f168.name == "runtime.NumGoroutine") = false := by kernel_rfl
theorem ext168_2 : Tryd.f168.body.isNone = true := by kernel_rfl
theorem ext168_3 : (Extern.findNext Tryd.f168).isNone = true := by kernel_rfl
theorem ext168_4 : Extern.find Tryd.f168 = some Extern.BytealgIndexByte.indexByte := by kernel_rfl
theorem en117 : Enters Tryd.prog 117 := enters (fn := Tryd.f117) (by kernel_rfl) (by kernel_rfl) (by kernel_rfl)
theorem en165 : Enters Tryd.prog 165 := enters (fn := Tryd.f165) (by kernel_rfl) (by kernel_rfl) (by kernel_rfl)
theorem en113 : Enters Tryd.prog 113 := enters (fn := Tryd.f113) (by kernel_rfl) (by kernel_rfl) (by kernel_rfl)
theorem en55 : Enters Tryd.prog 55 := enters (fn := Tryd.f55) (by kernel_rfl) (by kernel_rfl) (by kernel_rfl)
theorem en56 : Enters Tryd.prog 56 := enters (fn := Tryd.f56) (by kernel_rfl) (by kernel_rfl) (by kernel_rfl)
theorem sh56 {w0 w : World} {b : Nat} {xs : List UInt8} (h : Bld 94 5 w0.heap.size b xs w) : Calls Tryd.prog 56 #[.pointer (some ⟨b, 0, none⟩)] w fun e w' => e = .returned (.int .i64 xs.length) ∧ w' = w := bld_len (fun B b cs w h => Tryd.Builder_Len B b cs w h) h
theorem en103 : Enters Tryd.prog 103 := enters (fn := Tryd.f103) (by kernel_rfl) (by kernel_rfl) (by kernel_rfl)
theorem en57 : Enters Tryd.prog 57 := enters (fn := Tryd.f57) (by kernel_rfl) (by kernel_rfl) (by kernel_rfl)
theorem en115 : Enters Tryd.prog 115 := enters (fn := Tryd.f115) (by kernel_rfl) (by kernel_rfl) (by kernel_rfl)
theorem sh115 {k : Int} {r : List UInt8} {w : World} (hr : fmt10 k = some r) (t : T10 Tryd.prog w) : Calls Tryd.prog 115 #[.int .i64 k, .int .i64 10] w fun e w' => e = .returned (.string (bs r)) ∧ Ext w w' := fmt10_of (fun k h0 h1 w t => Tryd.strconv_FormatInt_10 k h0 h1 w t) hr t
theorem en59 : Enters Tryd.prog 59 := enters (fn := Tryd.f59) (by kernel_rfl) (by kernel_rfl) (by kernel_rfl)
theorem en58 : Enters Tryd.prog 58 := enters (fn := Tryd.f58) (by kernel_rfl) (by kernel_rfl) (by kernel_rfl)
theorem sh58 {w0 w : World} {b : Nat} {xs s r : List UInt8} (h : Bld 94 5 w0.heap.size b xs w) (hr : app 1 xs s = some r) (X : Ext w0 w) : Calls Tryd.prog 58 #[.pointer (some ⟨b, 0, none⟩), .string (bs s)] w fun e w' => e = .returned (.tuple #[.int .i64 s.length, .nilIface]) ∧ Bld 94 5 w0.heap.size b r w' ∧ Ext w0 w' := bld_writeString (fun B b cs s w h hl hB => Tryd.Builder_WriteString B b cs s w h hl hB) h hr X
theorem en60 : Enters Tryd.prog 60 := enters (fn := Tryd.f60) (by kernel_rfl) (by kernel_rfl) (by kernel_rfl)
theorem sh60 {w0 w : World} {b : Nat} {xs : List UInt8} (h : Bld 94 5 w0.heap.size b xs w) (X : Ext w0 w) : Calls Tryd.prog 60 #[.pointer (some ⟨b, 0, none⟩)] w fun e w' => e = .returned (.string (bs xs)) ∧ Ext w0 w' := bld_string (fun B b l w h hB => Tryd.Builder_String_any B b l w h hB) h X
theorem en20 : Enters Tryd.prog 20 := enters (fn := Tryd.f20) (by kernel_rfl) (by kernel_rfl) (by kernel_rfl)
theorem un4 : Tryd.prog.underlying 4 = some (.bool) := by kernel_rfl
theorem en21 : Enters Tryd.prog 21 := enters (fn := Tryd.f21) (by kernel_rfl) (by kernel_rfl) (by kernel_rfl)
end Go.Proofs
