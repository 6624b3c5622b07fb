import Derived.Test.YtdcienojgkioiaaDoorChecked
import Derived.Test.YtdcienojgkioiaaDoorSh
import Derived.Test.YtdcienojgkioiaaDoorBMd
namespace Go.Proofs
open Go Go.Fl Go.RowKit Go.Rg
set_option maxRecDepth 100000
set_option linter.unusedVariables false
attribute [local irreducible] Go.Calls doAll Does DoesG W Wr
theorem agg63 (w : World) : (isAgg 63).run Tryd.prog w = .ok true w := by kernel_rfl
theorem size63 (w : World) : (sizeOf 63).run Tryd.prog w = .ok 4 w := by kernel_rfl
theorem fa63_0 (b o : Nat) (w : World) : (Instr.fieldAt 63 (.pointer (some ⟨b, o, none⟩)) 0).run Tryd.prog w = .ok (.pointer (some ⟨b, o, none⟩)) w := by kernel_rfl
theorem agg60 (w : World) : (isAgg 60).run Tryd.prog w = .ok false w := by kernel_rfl
theorem un60 : Tryd.prog.underlying 60 = some (.slice 178) := by kernel_rfl
theorem en80 : Enters Tryd.prog 80 := enters (fn := Tryd.f80) (by kernel_rfl) (by kernel_rfl) (by kernel_rfl)
theorem fa63_1 (b o : Nat) (w : World) : (Instr.fieldAt 63 (.pointer (some ⟨b, o, none⟩)) 1).run Tryd.prog w = .ok (.pointer (some ⟨b, o + 1, none⟩)) w := by kernel_rfl
theorem fa63_2 (b o : Nat) (w : World) : (Instr.fieldAt 63 (.pointer (some ⟨b, o, none⟩)) 2).run Tryd.prog w = .ok (.pointer (some ⟨b, o + 2, none⟩)) w := by kernel_rfl
theorem agg53 (w : World) : (isAgg 53).run Tryd.prog w = .ok false w := by kernel_rfl
theorem un53 : Tryd.prog.underlying 53 = some (.slice 22) := by kernel_rfl
theorem en81 : Enters Tryd.prog 81 := enters (fn := Tryd.f81) (by kernel_rfl) (by kernel_rfl) (by kernel_rfl)
theorem fa63_3 (b o : Nat) (w : World) : (Instr.fieldAt 63 (.pointer (some ⟨b, o, none⟩)) 3).run Tryd.prog w = .ok (.pointer (some ⟨b, o + 3, none⟩)) w := by kernel_rfl
theorem agg61 (w : World) : (isAgg 61).run Tryd.prog w = .ok false w := by kernel_rfl
theorem un61 : Tryd.prog.underlying 61 = some (.slice 180) := by kernel_rfl
theorem en82 : Enters Tryd.prog 82 := enters (fn := Tryd.f82) (by kernel_rfl) (by kernel_rfl) (by kernel_rfl)
theorem en34 : Enters Tryd.prog 34 := enters (fn := Tryd.f34) (by kernel_rfl) (by kernel_rfl) (by kernel_rfl)
theorem zero69 (w : World) : (zeroValue 69).run Tryd.prog w = .ok (.agg #[.slice none 0 0, .slice none 0 0, .slice none 0 0, .slice none 0 0]) w := by kernel_rfl
theorem cn_f32_0 : cn .f32 0 = 0 := by decide +kernel
theorem infoz44 : Tryd.t44.zero = some (.agg #[.float .f32 0, .float .f32 0, .float .f32 0]) := by kernel_rfl
theorem info44 : Tryd.prog.info? 44 = some Tryd.t44 := by kernel_rfl
theorem un66 : Tryd.prog.underlying 66 = some (.slice 44) := by kernel_rfl
theorem size178 (w : World) : (sizeOf 178).run Tryd.prog w = .ok 3 w := by kernel_rfl
theorem agg178 (w : World) : (isAgg 178).run Tryd.prog w = .ok true w := by kernel_rfl
theorem zero44 (w : World) : (zeroValue 44).run Tryd.prog w = .ok (.agg #[.float .f32 0, .float .f32 0, .float .f32 0]) w := by kernel_rfl
theorem fa178_0 (b o : Nat) (w : World) : (Instr.fieldAt 178 (.pointer (some ⟨b, o, none⟩)) 0).run Tryd.prog w = .ok (.pointer (some ⟨b, o, none⟩)) w := by kernel_rfl
theorem agg22 (w : World) : (isAgg 22).run Tryd.prog w = .ok false w := by kernel_rfl
theorem fa44_0 (b o : Nat) (w : World) : (Instr.fieldAt 44 (.pointer (some ⟨b, o, none⟩)) 0).run Tryd.prog w = .ok (.pointer (some ⟨b, o, none⟩)) w := by kernel_rfl
theorem size22 (w : World) : (sizeOf 22).run Tryd.prog w = .ok 1 w := by kernel_rfl
theorem fa178_1 (b o : Nat) (w : World) : (Instr.fieldAt 178 (.pointer (some ⟨b, o, none⟩)) 1).run Tryd.prog w = .ok (.pointer (some ⟨b, o + 1, none⟩)) w := by kernel_rfl
theorem fa44_1 (b o : Nat) (w : World) : (Instr.fieldAt 44 (.pointer (some ⟨b, o, none⟩)) 1).run Tryd.prog w = .ok (.pointer (some ⟨b, o + 1, none⟩)) w := by kernel_rfl
theorem fa178_2 (b o : Nat) (w : World) : (Instr.fieldAt 178 (.pointer (some ⟨b, o, none⟩)) 2).run Tryd.prog w = .ok (.pointer (some ⟨b, o + 2, none⟩)) w := by kernel_rfl
theorem fa44_2 (b o : Nat) (w : World) : (Instr.fieldAt 44 (.pointer (some ⟨b, o, none⟩)) 2).run Tryd.prog w = .ok (.pointer (some ⟨b, o + 2, none⟩)) w := by kernel_rfl
theorem agg44 (w : World) : (isAgg 44).run Tryd.prog w = .ok true w := by kernel_rfl
theorem size44 (w : World) : (sizeOf 44).run Tryd.prog w = .ok 3 w := by kernel_rfl
theorem en138 : Enters Tryd.prog 138 := enters (fn := Tryd.f138) (by kernel_rfl) (by kernel_rfl) (by kernel_rfl)
theorem en85 : Enters Tryd.prog 85 := enters (fn := Tryd.f85) (by kernel_rfl) (by kernel_rfl) (by kernel_rfl)
theorem fa69_0 (b o : Nat) (w : World) : (Instr.fieldAt 69 (.pointer (some ⟨b, o, none⟩)) 0).run Tryd.prog w = .ok (.pointer (some ⟨b, o, none⟩)) w := by kernel_rfl
theorem size66 (w : World) : (sizeOf 66).run Tryd.prog w = .ok 1 w := by kernel_rfl
theorem fa69_1 (b o : Nat) (w : World) : (Instr.fieldAt 69 (.pointer (some ⟨b, o, none⟩)) 1).run Tryd.prog w = .ok (.pointer (some ⟨b, o + 1, none⟩)) w := by kernel_rfl
theorem infoz22 : Tryd.t22.zero = some (.float .f32 0) := by kernel_rfl
theorem info22 : Tryd.prog.info? 22 = some Tryd.t22 := by kernel_rfl
theorem en86 : Enters Tryd.prog 86 := enters (fn := Tryd.f86) (by kernel_rfl) (by kernel_rfl) (by kernel_rfl)
theorem fa69_2 (b o : Nat) (w : World) : (Instr.fieldAt 69 (.pointer (some ⟨b, o, none⟩)) 2).run Tryd.prog w = .ok (.pointer (some ⟨b, o + 2, none⟩)) w := by kernel_rfl
theorem size53 (w : World) : (sizeOf 53).run Tryd.prog w = .ok 1 w := by kernel_rfl
theorem infoz136 : Tryd.t136.zero = some (.agg #[.int .i64 0, .int .i64 0, .float .f32 0]) := by kernel_rfl
theorem info136 : Tryd.prog.info? 136 = some Tryd.t136 := by kernel_rfl
theorem un67 : Tryd.prog.underlying 67 = some (.slice 136) := by kernel_rfl
theorem size180 (w : World) : (sizeOf 180).run Tryd.prog w = .ok 3 w := by kernel_rfl
theorem agg180 (w : World) : (isAgg 180).run Tryd.prog w = .ok true w := by kernel_rfl
theorem zero136 (w : World) : (zeroValue 136).run Tryd.prog w = .ok (.agg #[.int .i64 0, .int .i64 0, .float .f32 0]) w := by kernel_rfl
theorem fa180_0 (b o : Nat) (w : World) : (Instr.fieldAt 180 (.pointer (some ⟨b, o, none⟩)) 0).run Tryd.prog w = .ok (.pointer (some ⟨b, o, none⟩)) w := by kernel_rfl
theorem agg2 (w : World) : (isAgg 2).run Tryd.prog w = .ok false w := by kernel_rfl
theorem fa136_0 (b o : Nat) (w : World) : (Instr.fieldAt 136 (.pointer (some ⟨b, o, none⟩)) 0).run Tryd.prog w = .ok (.pointer (some ⟨b, o, none⟩)) w := by kernel_rfl
theorem size2 (w : World) : (sizeOf 2).run Tryd.prog w = .ok 1 w := by kernel_rfl
theorem fa180_1 (b o : Nat) (w : World) : (Instr.fieldAt 180 (.pointer (some ⟨b, o, none⟩)) 1).run Tryd.prog w = .ok (.pointer (some ⟨b, o + 1, none⟩)) w := by kernel_rfl
theorem fa136_1 (b o : Nat) (w : World) : (Instr.fieldAt 136 (.pointer (some ⟨b, o, none⟩)) 1).run Tryd.prog w = .ok (.pointer (some ⟨b, o + 1, none⟩)) w := by kernel_rfl
theorem fa180_2 (b o : Nat) (w : World) : (Instr.fieldAt 180 (.pointer (some ⟨b, o, none⟩)) 2).run Tryd.prog w = .ok (.pointer (some ⟨b, o + 2, none⟩)) w := by kernel_rfl
theorem fa136_2 (b o : Nat) (w : World) : (Instr.fieldAt 136 (.pointer (some ⟨b, o, none⟩)) 2).run Tryd.prog w = .ok (.pointer (some ⟨b, o + 2, none⟩)) w := by kernel_rfl
theorem agg136 (w : World) : (isAgg 136).run Tryd.prog w = .ok true w := by kernel_rfl
theorem size136 (w : World) : (sizeOf 136).run Tryd.prog w = .ok 3 w := by kernel_rfl
theorem en139 : Enters Tryd.prog 139 := enters (fn := Tryd.f139) (by kernel_rfl) (by kernel_rfl) (by kernel_rfl)
theorem en87 : Enters Tryd.prog 87 := enters (fn := Tryd.f87) (by kernel_rfl) (by kernel_rfl) (by kernel_rfl)
theorem fa69_3 (b o : Nat) (w : World) : (Instr.fieldAt 69 (.pointer (some ⟨b, o, none⟩)) 3).run Tryd.prog w = .ok (.pointer (some ⟨b, o + 3, none⟩)) w := by kernel_rfl
theorem size67 (w : World) : (sizeOf 67).run Tryd.prog w = .ok 1 w := by kernel_rfl
theorem agg69 (w : World) : (isAgg 69).run Tryd.prog w = .ok true w := by kernel_rfl
theorem size69 (w : World) : (sizeOf 69).run Tryd.prog w = .ok 4 w := by kernel_rfl
theorem en36 : Enters Tryd.prog 36 := enters (fn := Tryd.f36) (by kernel_rfl) (by kernel_rfl) (by kernel_rfl)
theorem agg66 (w : World) : (isAgg 66).run Tryd.prog w = .ok false w := by kernel_rfl
theorem agg67 (w : World) : (isAgg 67).run Tryd.prog w = .ok false w := by kernel_rfl
theorem en164 : Enters Tryd.prog 164 := enters (fn := Tryd.f164) (by kernel_rfl) (by kernel_rfl) (by kernel_rfl)
theorem en132 : Enters Tryd.prog 132 := enters (fn := Tryd.f132) (by kernel_rfl) (by kernel_rfl) (by kernel_rfl)
theorem en133 : Enters Tryd.prog 133 := enters (fn := Tryd.f133) (by kernel_rfl) (by kernel_rfl) (by kernel_rfl)
theorem en134 : Enters Tryd.prog 134 := enters (fn := Tryd.f134) (by kernel_rfl) (by kernel_rfl) (by kernel_rfl)
theorem en83 : Enters Tryd.prog 83 := enters (fn := Tryd.f83) (by kernel_rfl) (by kernel_rfl) (by kernel_rfl)
theorem ext154_0 : Tryd.prog.funcs[154]? = some Tryd.f154 := by kernel_rfl
theorem ext154_1 : (Tryd.f154.name == "runtime.NumGoroutine") = false := by kernel_rfl
theorem ext154_2 : Tryd.f154.body.isNone = true := by kernel_rfl
theorem ext154_3 : (Extern.findNext Tryd.f154).isNone = true := by kernel_rfl
theorem ext154_4 : Extern.find Tryd.f154 = some Extern.MathFloatBits.float32bits := by kernel_rfl
theorem un193 : Tryd.prog.underlying 193 = some (.int .u32) := by kernel_rfl
theorem un2 : Tryd.prog.underlying 2 = some (.int .i64) := by kernel_rfl
theorem en159 : Enters Tryd.prog 159 := enters (fn := Tryd.f159) (by kernel_rfl) (by kernel_rfl) (by kernel_rfl)
theorem un73 : Tryd.prog.underlying 73 = some (.slice 5) := by kernel_rfl
theorem size5 (w : World) : (sizeOf 5).run Tryd.prog w = .ok 1 w := by kernel_rfl
theorem un3 : Tryd.prog.underlying 3 = some (.int .i64) := by kernel_rfl
theorem un219 : Tryd.prog.underlying 219 = some (.int .u64) := by kernel_rfl
theorem un9 : Tryd.prog.underlying 9 = some (.string) := by kernel_rfl
theorem infoz5 : Tryd.t5.zero = some (.int .u8 0) := by kernel_rfl
theorem info5 : Tryd.prog.info? 5 = some Tryd.t5 := by kernel_rfl
theorem un5 : Tryd.prog.underlying 5 = some (.int .u8) := by kernel_rfl
theorem en176 : Enters Tryd.prog 176 := enters (fn := Tryd.f176) (by kernel_rfl) (by kernel_rfl) (by kernel_rfl)
theorem en136 : Enters Tryd.prog 136 := enters (fn := Tryd.f136) (by kernel_rfl) (by kernel_rfl) (by kernel_rfl)
theorem en175 : Enters Tryd.prog 175 := enters (fn := Tryd.f175) (by kernel_rfl) (by kernel_rfl) (by kernel_rfl)
theorem un81 : Tryd.prog.underlying 81 = some (.slice 2) := by kernel_rfl
theorem en112 : Enters Tryd.prog 112 := enters (fn := Tryd.f112) (by kernel_rfl) (by kernel_rfl) (by kernel_rfl)
theorem mixed : Tryd.prog.follows .mixedOrders = true := by kernel_rfl
theorem en177 : Enters Tryd.prog 177 := enters (fn := Tryd.f177) (by kernel_rfl) (by kernel_rfl) (by kernel_rfl)
theorem en135 : Enters Tryd.prog 135 := enters (fn := Tryd.f135) (by kernel_rfl) (by kernel_rfl) (by kernel_rfl)
theorem en137 : Enters Tryd.prog 137 := enters (fn := Tryd.f137) (by kernel_rfl) (by kernel_rfl) (by kernel_rfl)
theorem en84 : Enters Tryd.prog 84 := enters (fn := Tryd.f84) (by kernel_rfl) (by kernel_rfl) (by kernel_rfl)
theorem en35 : Enters Tryd.prog 35 := enters (fn := Tryd.f35) (by kernel_rfl) (by kernel_rfl) (by kernel_rfl)
theorem en130 : Enters Tryd.prog 130 := enters (fn := Tryd.f130) (by kernel_rfl) (by kernel_rfl) (by kernel_rfl)
theorem en161 : Enters Tryd.prog 161 := enters (fn := Tryd.f161) (by kernel_rfl) (by kernel_rfl) (by kernel_rfl)
theorem en179 : Enters Tryd.prog 179 := enters (fn := Tryd.f179) (by kernel_rfl) (by kernel_rfl) (by kernel_rfl)
theorem en142 : Enters Tryd.prog 142 := enters (fn := Tryd.f142) (by kernel_rfl) (by kernel_rfl) (by kernel_rfl)
theorem en107 : Enters Tryd.prog 107 := enters (fn := Tryd.f107) (by kernel_rfl) (by kernel_rfl) (by kernel_rfl)
theorem en125 : Enters Tryd.prog 125 := enters (fn := Tryd.f125) (by kernel_rfl) (by kernel_rfl) (by kernel_rfl)
theorem en141 : Enters Tryd.prog 141 := enters (fn := Tryd.f141) (by kernel_rfl) (by kernel_rfl) (by kernel_rfl)
theorem en178 : Enters Tryd.prog 178 := enters (fn := Tryd.f178) (by kernel_rfl) (by kernel_rfl) (by kernel_rfl)
theorem en140 : Enters Tryd.prog 140 := enters (fn := Tryd.f140) (by kernel_rfl) (by kernel_rfl) (by kernel_rfl)
theorem en180 : Enters Tryd.prog 180 := enters (fn := Tryd.f180) (by kernel_rfl) (by kernel_rfl) (by kernel_rfl)
theorem en143 : Enters Tryd.prog 143 := enters (fn := Tryd.f143) (by kernel_rfl) (by kernel_rfl) (by kernel_rfl)
theorem en103 : Enters Tryd.prog 103 := enters (fn := Tryd.f103) (by kernel_rfl) (by kernel_rfl) (by kernel_rfl)
theorem en146 : Enters Tryd.prog 146 := enters (fn := Tryd.f146) (by kernel_rfl) (by kernel_rfl) (by kernel_rfl)
theorem en145 : Enters Tryd.prog 145 := enters (fn := Tryd.f145) (by kernel_rfl) (by kernel_rfl) (by kernel_rfl)
theorem en181 : Enters Tryd.prog 181 := enters (fn := Tryd.f181) (by kernel_rfl) (by kernel_rfl) (by kernel_rfl)
theorem en144 : Enters Tryd.prog 144 := enters (fn := Tryd.f144) (by kernel_rfl) (by kernel_rfl) (by kernel_rfl)
theorem en88 : Enters Tryd.prog 88 := enters (fn := Tryd.f88) (by kernel_rfl) (by kernel_rfl) (by kernel_rfl)
theorem un34 : Tryd.prog.underlying 34 = some (.slice 9) := by kernel_rfl
theorem size9 (w : World) : (sizeOf 9).run Tryd.prog w = .ok 1 w := by kernel_rfl
theorem en115 : Enters Tryd.prog 115 := enters (fn := Tryd.f115) (by kernel_rfl) (by kernel_rfl) (by kernel_rfl)
theorem sh115 {k : Int} {r : List UInt8} {w : World} (hr : fmt10 k = some r) (t : T10 Tryd.prog w) : Calls Tryd.prog 115 #[.int .i64 k, .int .i64 10] w fun e w' => e = .returned (.string (bs r)) ∧ Ext w w' := fmt10_of (fun k h0 h1 w t => Tryd.strconv_FormatInt_10 k h0 h1 w t) hr t
theorem en59 : Enters Tryd.prog 59 := enters (fn := Tryd.f59) (by kernel_rfl) (by kernel_rfl) (by kernel_rfl)
theorem infoz9 : Tryd.t9.zero = some (.string (bs ([] : List UInt8))) := by kernel_rfl
theorem info9 : Tryd.prog.info? 9 = some Tryd.t9 := by kernel_rfl
theorem en90 : Enters Tryd.prog 90 := enters (fn := Tryd.f90) (by kernel_rfl) (by kernel_rfl) (by kernel_rfl)
theorem sh90 {v : Value} {xs : List (List UInt8)} {sep r : List UInt8} {w : World} (hr : sjoin xs sep = some r) (h : RS w encS v xs) : Calls Tryd.prog 90 #[v, .string (bs sep)] w fun e w' => e = .returned (.string (bs r)) ∧ Ext w w' := join_of rfl (fun a c sep w => Tryd.strings_Join_none a c sep w) (fun bk o c xs sep w h1 h2 h3 h4 h5 => Tryd.strings_Join bk o c xs sep w h1 h2 h3 h4 h5) hr h
theorem en99 : Enters Tryd.prog 99 := enters (fn := Tryd.f99) (by kernel_rfl) (by kernel_rfl) (by kernel_rfl)
theorem en45 : Enters Tryd.prog 45 := enters (fn := Tryd.f45) (by kernel_rfl) (by kernel_rfl) (by kernel_rfl)
theorem en97 : Enters Tryd.prog 97 := enters (fn := Tryd.f97) (by kernel_rfl) (by kernel_rfl) (by kernel_rfl)
theorem en153 : Enters Tryd.prog 153 := enters (fn := Tryd.f153) (by kernel_rfl) (by kernel_rfl) (by kernel_rfl)
theorem en98 : Enters Tryd.prog 98 := enters (fn := Tryd.f98) (by kernel_rfl) (by kernel_rfl) (by kernel_rfl)
theorem en42 : Enters Tryd.prog 42 := enters (fn := Tryd.f42) (by kernel_rfl) (by kernel_rfl) (by kernel_rfl)
theorem en89 : Enters Tryd.prog 89 := enters (fn := Tryd.f89) (by kernel_rfl) (by kernel_rfl) (by kernel_rfl)
theorem en183 : Enters Tryd.prog 183 := enters (fn := Tryd.f183) (by kernel_rfl) (by kernel_rfl) (by kernel_rfl)
theorem en148 : Enters Tryd.prog 148 := enters (fn := Tryd.f148) (by kernel_rfl) (by kernel_rfl) (by kernel_rfl)
theorem en92 : Enters Tryd.prog 92 := enters (fn := Tryd.f92) (by kernel_rfl) (by kernel_rfl) (by kernel_rfl)
theorem en91 : Enters Tryd.prog 91 := enters (fn := Tryd.f91) (by kernel_rfl) (by kernel_rfl) (by kernel_rfl)
theorem en37 : Enters Tryd.prog 37 := enters (fn := Tryd.f37) (by kernel_rfl) (by kernel_rfl) (by kernel_rfl)
theorem un4 : Tryd.prog.underlying 4 = some (.bool) := by kernel_rfl
theorem un22 : Tryd.prog.underlying 22 = some (.float .f32) := by kernel_rfl
theorem un89 : Tryd.prog.underlying 89 = some (.float .f64) := by kernel_rfl
theorem cn_f64_0 : cn .f64 0 = 0 := by decide +kernel
theorem cn_f64_4607182418800017408 : cn .f64 4607182418800017408 = 4607182418800017408 := by decide +kernel
theorem en51 : Enters Tryd.prog 51 := enters (fn := Tryd.f51) (by kernel_rfl) (by kernel_rfl) (by kernel_rfl)
theorem en69 : Enters Tryd.prog 69 := enters (fn := Tryd.f69) (by kernel_rfl) (by kernel_rfl) (by kernel_rfl)
theorem en93 : Enters Tryd.prog 93 := enters (fn := Tryd.f93) (by kernel_rfl) (by kernel_rfl) (by kernel_rfl)
theorem en75 : Enters Tryd.prog 75 := enters (fn := Tryd.f75) (by kernel_rfl) (by kernel_rfl) (by kernel_rfl)
theorem en149 : Enters Tryd.prog 149 := enters (fn := Tryd.f149) (by kernel_rfl) (by kernel_rfl) (by kernel_rfl)
theorem en94 : Enters Tryd.prog 94 := enters (fn := Tryd.f94) (by kernel_rfl) (by kernel_rfl) (by kernel_rfl)
theorem en38 : Enters Tryd.prog 38 := enters (fn := Tryd.f38) (by kernel_rfl) (by kernel_rfl) (by kernel_rfl)
end Go.Proofs
