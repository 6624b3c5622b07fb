import Derived.Test.YtdcienojgkioiaaChecked
import Derived.Test.YtdcienojgkioiaaMd
namespace Go.Proofs
open Go Go.Fl Go.RowKit Go.Rg
set_option maxRecDepth 100000
set_option linter.unusedVariables false
attribute [local irreducible] Go.Calls doAll Does DoesG W Wr
theorem cn_f32_0 : cn .f32 0 = 0 := by decide +kernel
theorem zero32 (w : World) : (zeroValue 32).run Try.prog w = .ok (.agg #[.float .f32 0, .float .f32 0, .float .f32 0, .float .f32 0, .float .f32 0, .float .f32 0, .float .f32 0, .float .f32 0, .float .f32 0, .float .f32 0]) w := by kernel_rfl
theorem fa28_0 (b o : Nat) (w : World) : (Instr.fieldAt 28 (.pointer (some ⟨b, o, none⟩)) 0).run Try.prog w = .ok (.pointer (some ⟨b, o, none⟩)) w := by kernel_rfl
theorem agg24 (w : World) : (isAgg 24).run Try.prog w = .ok true w := by kernel_rfl
theorem size24 (w : World) : (sizeOf 24).run Try.prog w = .ok 3 w := by kernel_rfl
theorem zero29 (w : World) : (zeroValue 29).run Try.prog w = .ok (.agg #[.float .f32 0, .float .f32 0, .float .f32 0]) w := by kernel_rfl
theorem fa24_0 (b o : Nat) (w : World) : (Instr.fieldAt 24 (.pointer (some ⟨b, o, none⟩)) 0).run Try.prog w = .ok (.pointer (some ⟨b, o, none⟩)) w := by kernel_rfl
theorem agg22 (w : World) : (isAgg 22).run Try.prog w = .ok false w := by kernel_rfl
theorem fa29_0 (b o : Nat) (w : World) : (Instr.fieldAt 29 (.pointer (some ⟨b, o, none⟩)) 0).run Try.prog w = .ok (.pointer (some ⟨b, o, none⟩)) w := by kernel_rfl
theorem size22 (w : World) : (sizeOf 22).run Try.prog w = .ok 1 w := by kernel_rfl
theorem fa24_1 (b o : Nat) (w : World) : (Instr.fieldAt 24 (.pointer (some ⟨b, o, none⟩)) 1).run Try.prog w = .ok (.pointer (some ⟨b, o + 1, none⟩)) w := by kernel_rfl
theorem fa29_1 (b o : Nat) (w : World) : (Instr.fieldAt 29 (.pointer (some ⟨b, o, none⟩)) 1).run Try.prog w = .ok (.pointer (some ⟨b, o + 1, none⟩)) w := by kernel_rfl
theorem fa24_2 (b o : Nat) (w : World) : (Instr.fieldAt 24 (.pointer (some ⟨b, o, none⟩)) 2).run Try.prog w = .ok (.pointer (some ⟨b, o + 2, none⟩)) w := by kernel_rfl
theorem fa29_2 (b o : Nat) (w : World) : (Instr.fieldAt 29 (.pointer (some ⟨b, o, none⟩)) 2).run Try.prog w = .ok (.pointer (some ⟨b, o + 2, none⟩)) w := by kernel_rfl
theorem agg29 (w : World) : (isAgg 29).run Try.prog w = .ok true w := by kernel_rfl
theorem size29 (w : World) : (sizeOf 29).run Try.prog w = .ok 3 w := by kernel_rfl
theorem en8 : Enters Try.prog 8 := enters (fn := Try.f8) (by kernel_rfl) (by kernel_rfl) (by kernel_rfl)
theorem fa32_0 (b o : Nat) (w : World) : (Instr.fieldAt 32 (.pointer (some ⟨b, o, none⟩)) 0).run Try.prog w = .ok (.pointer (some ⟨b, o, none⟩)) w := by kernel_rfl
theorem fa28_1 (b o : Nat) (w : World) : (Instr.fieldAt 28 (.pointer (some ⟨b, o, none⟩)) 1).run Try.prog w = .ok (.pointer (some ⟨b, o + 3, none⟩)) w := by kernel_rfl
theorem agg26 (w : World) : (isAgg 26).run Try.prog w = .ok true w := by kernel_rfl
theorem size26 (w : World) : (sizeOf 26).run Try.prog w = .ok 4 w := by kernel_rfl
theorem zero30 (w : World) : (zeroValue 30).run Try.prog w = .ok (.agg #[.float .f32 0, .float .f32 0, .float .f32 0, .float .f32 0]) w := by kernel_rfl
theorem fa26_0 (b o : Nat) (w : World) : (Instr.fieldAt 26 (.pointer (some ⟨b, o, none⟩)) 0).run Try.prog w = .ok (.pointer (some ⟨b, o, none⟩)) w := by kernel_rfl
theorem fa30_0 (b o : Nat) (w : World) : (Instr.fieldAt 30 (.pointer (some ⟨b, o, none⟩)) 0).run Try.prog w = .ok (.pointer (some ⟨b, o, none⟩)) w := by kernel_rfl
theorem fa26_1 (b o : Nat) (w : World) : (Instr.fieldAt 26 (.pointer (some ⟨b, o, none⟩)) 1).run Try.prog w = .ok (.pointer (some ⟨b, o + 1, none⟩)) w := by kernel_rfl
theorem fa30_1 (b o : Nat) (w : World) : (Instr.fieldAt 30 (.pointer (some ⟨b, o, none⟩)) 1).run Try.prog w = .ok (.pointer (some ⟨b, o + 1, none⟩)) w := by kernel_rfl
theorem fa26_2 (b o : Nat) (w : World) : (Instr.fieldAt 26 (.pointer (some ⟨b, o, none⟩)) 2).run Try.prog w = .ok (.pointer (some ⟨b, o + 2, none⟩)) w := by kernel_rfl
theorem fa30_2 (b o : Nat) (w : World) : (Instr.fieldAt 30 (.pointer (some ⟨b, o, none⟩)) 2).run Try.prog w = .ok (.pointer (some ⟨b, o + 2, none⟩)) w := by kernel_rfl
theorem fa26_3 (b o : Nat) (w : World) : (Instr.fieldAt 26 (.pointer (some ⟨b, o, none⟩)) 3).run Try.prog w = .ok (.pointer (some ⟨b, o + 3, none⟩)) w := by kernel_rfl
theorem fa30_3 (b o : Nat) (w : World) : (Instr.fieldAt 30 (.pointer (some ⟨b, o, none⟩)) 3).run Try.prog w = .ok (.pointer (some ⟨b, o + 3, none⟩)) w := by kernel_rfl
theorem agg30 (w : World) : (isAgg 30).run Try.prog w = .ok true w := by kernel_rfl
theorem size30 (w : World) : (sizeOf 30).run Try.prog w = .ok 4 w := by kernel_rfl
theorem en24 : Enters Try.prog 24 := enters (fn := Try.f24) (by kernel_rfl) (by kernel_rfl) (by kernel_rfl)
theorem fa32_1 (b o : Nat) (w : World) : (Instr.fieldAt 32 (.pointer (some ⟨b, o, none⟩)) 1).run Try.prog w = .ok (.pointer (some ⟨b, o + 3, none⟩)) w := by kernel_rfl
theorem fa28_2 (b o : Nat) (w : World) : (Instr.fieldAt 28 (.pointer (some ⟨b, o, none⟩)) 2).run Try.prog w = .ok (.pointer (some ⟨b, o + 7, none⟩)) w := by kernel_rfl
theorem fa32_2 (b o : Nat) (w : World) : (Instr.fieldAt 32 (.pointer (some ⟨b, o, none⟩)) 2).run Try.prog w = .ok (.pointer (some ⟨b, o + 7, none⟩)) w := by kernel_rfl
theorem agg32 (w : World) : (isAgg 32).run Try.prog w = .ok true w := by kernel_rfl
theorem size32 (w : World) : (sizeOf 32).run Try.prog w = .ok 10 w := by kernel_rfl
theorem en31 : Enters Try.prog 31 := enters (fn := Try.f31) (by kernel_rfl) (by kernel_rfl) (by kernel_rfl)
theorem en58 : Enters Try.prog 58 := enters (fn := Try.f58) (by kernel_rfl) (by kernel_rfl) (by kernel_rfl)
theorem en59 : Enters Try.prog 59 := enters (fn := Try.f59) (by kernel_rfl) (by kernel_rfl) (by kernel_rfl)
theorem en47 : Enters Try.prog 47 := enters (fn := Try.f47) (by kernel_rfl) (by kernel_rfl) (by kernel_rfl)
theorem en30 : Enters Try.prog 30 := enters (fn := Try.f30) (by kernel_rfl) (by kernel_rfl) (by kernel_rfl)
theorem en21 : Enters Try.prog 21 := enters (fn := Try.f21) (by kernel_rfl) (by kernel_rfl) (by kernel_rfl)
theorem en48 : Enters Try.prog 48 := enters (fn := Try.f48) (by kernel_rfl) (by kernel_rfl) (by kernel_rfl)
theorem en22 : Enters Try.prog 22 := enters (fn := Try.f22) (by kernel_rfl) (by kernel_rfl) (by kernel_rfl)
theorem un33 : Try.prog.underlying 33 = some (.slice 29) := by kernel_rfl
theorem en86 : Enters Try.prog 86 := enters (fn := Try.f86) (by kernel_rfl) (by kernel_rfl) (by kernel_rfl)
theorem en110 : Enters Try.prog 110 := enters (fn := Try.f110) (by kernel_rfl) (by kernel_rfl) (by kernel_rfl)
theorem en84 : Enters Try.prog 84 := enters (fn := Try.f84) (by kernel_rfl) (by kernel_rfl) (by kernel_rfl)
theorem cn_f32_1073741824 : cn .f32 1073741824 = 1073741824 := by decide +kernel
theorem en88 : Enters Try.prog 88 := enters (fn := Try.f88) (by kernel_rfl) (by kernel_rfl) (by kernel_rfl)
theorem mixed : Try.prog.follows .mixedOrders = true := by kernel_rfl
theorem en87 : Enters Try.prog 87 := enters (fn := Try.f87) (by kernel_rfl) (by kernel_rfl) (by kernel_rfl)
theorem en85 : Enters Try.prog 85 := enters (fn := Try.f85) (by kernel_rfl) (by kernel_rfl) (by kernel_rfl)
theorem en49 : Enters Try.prog 49 := enters (fn := Try.f49) (by kernel_rfl) (by kernel_rfl) (by kernel_rfl)
theorem cn_f32_1056964608 : cn .f32 1056964608 = 1056964608 := by decide +kernel
theorem en89 : Enters Try.prog 89 := enters (fn := Try.f89) (by kernel_rfl) (by kernel_rfl) (by kernel_rfl)
theorem en90 : Enters Try.prog 90 := enters (fn := Try.f90) (by kernel_rfl) (by kernel_rfl) (by kernel_rfl)
theorem un22 : Try.prog.underlying 22 = some (.float .f32) := by kernel_rfl
theorem un95 : Try.prog.underlying 95 = some (.float .f64) := by kernel_rfl
theorem cn_f64_0 : cn .f64 0 = 0 := by decide +kernel
theorem sqrtF0 : Try.prog.funcs[135]? = some Try.f135 := by kernel_rfl
theorem sqrtF1 : (Try.f135.name == "runtime.NumGoroutine") = false := by kernel_rfl
theorem sqrtF2 : Try.f135.body.isNone = true := by kernel_rfl
theorem sqrtF3 : (Extern.findNext Try.f135).isNone = true := by kernel_rfl
theorem sqrtF4 : Extern.find Try.f135 = some Extern.MathSqrt.sqrt := by kernel_rfl
theorem en134 : Enters Try.prog 134 := enters (fn := Try.f134) (by kernel_rfl) (by kernel_rfl) (by kernel_rfl)
theorem en133 : Enters Try.prog 133 := enters (fn := Try.f133) (by kernel_rfl) (by kernel_rfl) (by kernel_rfl)
theorem en127 : Enters Try.prog 127 := enters (fn := Try.f127) (by kernel_rfl) (by kernel_rfl) (by kernel_rfl)
theorem en111 : Enters Try.prog 111 := enters (fn := Try.f111) (by kernel_rfl) (by kernel_rfl) (by kernel_rfl)
theorem en91 : Enters Try.prog 91 := enters (fn := Try.f91) (by kernel_rfl) (by kernel_rfl) (by kernel_rfl)
theorem en50 : Enters Try.prog 50 := enters (fn := Try.f50) (by kernel_rfl) (by kernel_rfl) (by kernel_rfl)
theorem cn_f32_1065353216 : cn .f32 1065353216 = 1065353216 := by decide +kernel
theorem en51 : Enters Try.prog 51 := enters (fn := Try.f51) (by kernel_rfl) (by kernel_rfl) (by kernel_rfl)
theorem infoz29 : Try.t29.zero = some (.agg #[.float .f32 0, .float .f32 0, .float .f32 0]) := by kernel_rfl
theorem info29 : Try.prog.info? 29 = some Try.t29 := by kernel_rfl
theorem en23 : Enters Try.prog 23 := enters (fn := Try.f23) (by kernel_rfl) (by kernel_rfl) (by kernel_rfl)
theorem agg28 (w : World) : (isAgg 28).run Try.prog w = .ok true w := by kernel_rfl
theorem size28 (w : World) : (sizeOf 28).run Try.prog w = .ok 10 w := by kernel_rfl
theorem en7 : Enters Try.prog 7 := enters (fn := Try.f7) (by kernel_rfl) (by kernel_rfl) (by kernel_rfl)
theorem en6 : Enters Try.prog 6 := enters (fn := Try.f6) (by kernel_rfl) (by kernel_rfl) (by kernel_rfl)
theorem un48 : Try.prog.underlying 48 = some (.slice 22) := by kernel_rfl
theorem en53 : Enters Try.prog 53 := enters (fn := Try.f53) (by kernel_rfl) (by kernel_rfl) (by kernel_rfl)
theorem en61 : Enters Try.prog 61 := enters (fn := Try.f61) (by kernel_rfl) (by kernel_rfl) (by kernel_rfl)
theorem en99 : Enters Try.prog 99 := enters (fn := Try.f99) (by kernel_rfl) (by kernel_rfl) (by kernel_rfl)
theorem en60 : Enters Try.prog 60 := enters (fn := Try.f60) (by kernel_rfl) (by kernel_rfl) (by kernel_rfl)
theorem en32 : Enters Try.prog 32 := enters (fn := Try.f32) (by kernel_rfl) (by kernel_rfl) (by kernel_rfl)
theorem en25 : Enters Try.prog 25 := enters (fn := Try.f25) (by kernel_rfl) (by kernel_rfl) (by kernel_rfl)
theorem en70 : Enters Try.prog 70 := enters (fn := Try.f70) (by kernel_rfl) (by kernel_rfl) (by kernel_rfl)
theorem en112 : Enters Try.prog 112 := enters (fn := Try.f112) (by kernel_rfl) (by kernel_rfl) (by kernel_rfl)
theorem en92 : Enters Try.prog 92 := enters (fn := Try.f92) (by kernel_rfl) (by kernel_rfl) (by kernel_rfl)
theorem en52 : Enters Try.prog 52 := enters (fn := Try.f52) (by kernel_rfl) (by kernel_rfl) (by kernel_rfl)
theorem en54 : Enters Try.prog 54 := enters (fn := Try.f54) (by kernel_rfl) (by kernel_rfl) (by kernel_rfl)
theorem en27 : Enters Try.prog 27 := enters (fn := Try.f27) (by kernel_rfl) (by kernel_rfl) (by kernel_rfl)
theorem en113 : Enters Try.prog 113 := enters (fn := Try.f113) (by kernel_rfl) (by kernel_rfl) (by kernel_rfl)
theorem en93 : Enters Try.prog 93 := enters (fn := Try.f93) (by kernel_rfl) (by kernel_rfl) (by kernel_rfl)
theorem en95 : Enters Try.prog 95 := enters (fn := Try.f95) (by kernel_rfl) (by kernel_rfl) (by kernel_rfl)
theorem en94 : Enters Try.prog 94 := enters (fn := Try.f94) (by kernel_rfl) (by kernel_rfl) (by kernel_rfl)
theorem cn_f32_3212836864 : cn .f32 3212836864 = 3212836864 := by decide +kernel
theorem ia145_0 (b o : Nat) (w : World) : (Instr.indexAt 145 (.pointer (some ⟨b, o, none⟩)) (.int .i64 0)).run Try.prog w = .ok (.pointer (some ⟨b, o, none⟩)) w := by kernel_rfl
theorem agg146 (w : World) : (isAgg 146).run Try.prog w = .ok true w := by kernel_rfl
theorem size146 (w : World) : (sizeOf 146).run Try.prog w = .ok 3 w := by kernel_rfl
theorem ix146_0 (x0 x1 x2 : Value) (w : World) : (Instr.index 146 (.agg #[x0, x1, x2]) (.int .i64 0)).run Try.prog w = .ok (x0) w := by kernel_rfl
theorem ia145_1 (b o : Nat) (w : World) : (Instr.indexAt 145 (.pointer (some ⟨b, o, none⟩)) (.int .i64 1)).run Try.prog w = .ok (.pointer (some ⟨b, o + 1, none⟩)) w := by kernel_rfl
theorem ix146_1 (x0 x1 x2 : Value) (w : World) : (Instr.index 146 (.agg #[x0, x1, x2]) (.int .i64 1)).run Try.prog w = .ok (x1) w := by kernel_rfl
theorem ia145_2 (b o : Nat) (w : World) : (Instr.indexAt 145 (.pointer (some ⟨b, o, none⟩)) (.int .i64 2)).run Try.prog w = .ok (.pointer (some ⟨b, o + 2, none⟩)) w := by kernel_rfl
theorem ix146_2 (x0 x1 x2 : Value) (w : World) : (Instr.index 146 (.agg #[x0, x1, x2]) (.int .i64 2)).run Try.prog w = .ok (x2) w := by kernel_rfl
theorem ia145_3 (b o : Nat) (w : World) : (Instr.indexAt 145 (.pointer (some ⟨b, o, none⟩)) (.int .i64 3)).run Try.prog w = .ok (.pointer (some ⟨b, o + 3, none⟩)) w := by kernel_rfl
theorem en116 : Enters Try.prog 116 := enters (fn := Try.f116) (by kernel_rfl) (by kernel_rfl) (by kernel_rfl)
theorem en129 : Enters Try.prog 129 := enters (fn := Try.f129) (by kernel_rfl) (by kernel_rfl) (by kernel_rfl)
theorem en128 : Enters Try.prog 128 := enters (fn := Try.f128) (by kernel_rfl) (by kernel_rfl) (by kernel_rfl)
theorem en114 : Enters Try.prog 114 := enters (fn := Try.f114) (by kernel_rfl) (by kernel_rfl) (by kernel_rfl)
theorem en115 : Enters Try.prog 115 := enters (fn := Try.f115) (by kernel_rfl) (by kernel_rfl) (by kernel_rfl)
theorem en98 : Enters Try.prog 98 := enters (fn := Try.f98) (by kernel_rfl) (by kernel_rfl) (by kernel_rfl)
theorem en97 : Enters Try.prog 97 := enters (fn := Try.f97) (by kernel_rfl) (by kernel_rfl) (by kernel_rfl)
theorem en96 : Enters Try.prog 96 := enters (fn := Try.f96) (by kernel_rfl) (by kernel_rfl) (by kernel_rfl)
theorem en55 : Enters Try.prog 55 := enters (fn := Try.f55) (by kernel_rfl) (by kernel_rfl) (by kernel_rfl)
theorem en101 : Enters Try.prog 101 := enters (fn := Try.f101) (by kernel_rfl) (by kernel_rfl) (by kernel_rfl)
theorem en100 : Enters Try.prog 100 := enters (fn := Try.f100) (by kernel_rfl) (by kernel_rfl) (by kernel_rfl)
theorem en63 : Enters Try.prog 63 := enters (fn := Try.f63) (by kernel_rfl) (by kernel_rfl) (by kernel_rfl)
theorem en64 : Enters Try.prog 64 := enters (fn := Try.f64) (by kernel_rfl) (by kernel_rfl) (by kernel_rfl)
theorem en56 : Enters Try.prog 56 := enters (fn := Try.f56) (by kernel_rfl) (by kernel_rfl) (by kernel_rfl)
theorem en26 : Enters Try.prog 26 := enters (fn := Try.f26) (by kernel_rfl) (by kernel_rfl) (by kernel_rfl)
theorem en9 : Enters Try.prog 9 := enters (fn := Try.f9) (by kernel_rfl) (by kernel_rfl) (by kernel_rfl)
theorem cn_f64_4607182418800017408 : cn .f64 4607182418800017408 = 4607182418800017408 := by decide +kernel
theorem un4 : Try.prog.underlying 4 = some (.bool) := by kernel_rfl
theorem en57 : Enters Try.prog 57 := enters (fn := Try.f57) (by kernel_rfl) (by kernel_rfl) (by kernel_rfl)
theorem en28 : Enters Try.prog 28 := enters (fn := Try.f28) (by kernel_rfl) (by kernel_rfl) (by kernel_rfl)
theorem en29 : Enters Try.prog 29 := enters (fn := Try.f29) (by kernel_rfl) (by kernel_rfl) (by kernel_rfl)
theorem en10 : Enters Try.prog 10 := enters (fn := Try.f10) (by kernel_rfl) (by kernel_rfl) (by kernel_rfl)
theorem en11 : Enters Try.prog 11 := enters (fn := Try.f11) (by kernel_rfl) (by kernel_rfl) (by kernel_rfl)
theorem un3 : Try.prog.underlying 3 = some (.int .i64) := by kernel_rfl
theorem en12 : Enters Try.prog 12 := enters (fn := Try.f12) (by kernel_rfl) (by kernel_rfl) (by kernel_rfl)
theorem en13 : Enters Try.prog 13 := enters (fn := Try.f13) (by kernel_rfl) (by kernel_rfl) (by kernel_rfl)
theorem en14 : Enters Try.prog 14 := enters (fn := Try.f14) (by kernel_rfl) (by kernel_rfl) (by kernel_rfl)
theorem en65 : Enters Try.prog 65 := enters (fn := Try.f65) (by kernel_rfl) (by kernel_rfl) (by kernel_rfl)
theorem en62 : Enters Try.prog 62 := enters (fn := Try.f62) (by kernel_rfl) (by kernel_rfl) (by kernel_rfl)
theorem en34 : Enters Try.prog 34 := enters (fn := Try.f34) (by kernel_rfl) (by kernel_rfl) (by kernel_rfl)
theorem en33 : Enters Try.prog 33 := enters (fn := Try.f33) (by kernel_rfl) (by kernel_rfl) (by kernel_rfl)
theorem en15 : Enters Try.prog 15 := enters (fn := Try.f15) (by kernel_rfl) (by kernel_rfl) (by kernel_rfl)
end Go.Proofs
