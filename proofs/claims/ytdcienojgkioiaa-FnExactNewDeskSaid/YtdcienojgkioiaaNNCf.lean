import Derived.Test.YtdcienojgkioiaaChecked
import Derived.Test.YtdcienojgkioiaaNMd
namespace Go.Proofs
open Go Go.Fl Go.RowKit Go.Rg
set_option maxRecDepth 100000
set_option linter.unusedVariables false
attribute [local irreducible] Go.Calls doAll Does DoesG W Wr
theorem cn_f32_0 : cn .f32 0 = 0 := by decide +kernel
theorem zero56 (w : World) : (zeroValue 56).run Try.prog w = .ok (.agg #[.float .f32 0, .float .f32 0, .float .f32 0, .float .f32 0, .float .f32 0, .float .f32 0, .float .f32 0, .float .f32 0, .slice none 0 0, .slice none 0 0, .slice none 0 0, .slice none 0 0, .float .f32 0, .float .f32 0, .float .f32 0, .float .f32 0, .float .f32 0, .float .f32 0, .float .f32 0, .float .f32 0, .float .f32 0, .float .f32 0, .slice none 0 0, .slice none 0 0]) w := by kernel_rfl
theorem cn_f32_1065353216 : cn .f32 1065353216 = 1065353216 := by decide +kernel
theorem size56 (w : World) : (sizeOf 56).run Try.prog w = .ok 24 w := by kernel_rfl
theorem zero51 (w : World) : (zeroValue 51).run Try.prog w = .ok (.agg #[.slice none 0 0, .slice none 0 0, .slice none 0 0, .slice none 0 0]) w := by kernel_rfl
theorem en48 : Enters Try.prog 48 := enters (fn := Try.f48) (by kernel_rfl) (by kernel_rfl) (by kernel_rfl)
theorem en31 : Enters Try.prog 31 := enters (fn := Try.f31) (by kernel_rfl) (by kernel_rfl) (by kernel_rfl)
theorem en66 : Enters Try.prog 66 := enters (fn := Try.f66) (by kernel_rfl) (by kernel_rfl) (by kernel_rfl)
theorem size51 (w : World) : (sizeOf 51).run Try.prog w = .ok 4 w := by kernel_rfl
theorem agg51 (w : World) : (isAgg 51).run Try.prog w = .ok true w := by kernel_rfl
theorem un2 : Try.prog.underlying 2 = some (.int .i64) := by kernel_rfl
theorem un22 : Try.prog.underlying 22 = some (.float .f32) := by kernel_rfl
theorem en67 : Enters Try.prog 67 := enters (fn := Try.f67) (by kernel_rfl) (by kernel_rfl) (by kernel_rfl)
theorem mixed : Try.prog.follows .mixedOrders = true := by kernel_rfl
theorem fa51_0 (b o : Nat) (w : World) : (Instr.fieldAt 51 (.pointer (some ⟨b, o, none⟩)) 0).run Try.prog w = .ok (.pointer (some ⟨b, o, none⟩)) w := by kernel_rfl
theorem agg33 (w : World) : (isAgg 33).run Try.prog w = .ok false w := by kernel_rfl
theorem agg29 (w : World) : (isAgg 29).run Try.prog w = .ok true w := by kernel_rfl
theorem size29 (w : World) : (sizeOf 29).run Try.prog w = .ok 3 w := by kernel_rfl
theorem un33 : Try.prog.underlying 33 = some (.slice 29) := by kernel_rfl
theorem infoz29 : Try.t29.zero = some (.agg #[.float .f32 0, .float .f32 0, .float .f32 0]) := by kernel_rfl
theorem info29 : Try.prog.info? 29 = some Try.t29 := by kernel_rfl
theorem size33 (w : World) : (sizeOf 33).run Try.prog w = .ok 1 w := by kernel_rfl
theorem fa51_1 (b o : Nat) (w : World) : (Instr.fieldAt 51 (.pointer (some ⟨b, o, none⟩)) 1).run Try.prog w = .ok (.pointer (some ⟨b, o + 1, none⟩)) w := by kernel_rfl
theorem fa51_2 (b o : Nat) (w : World) : (Instr.fieldAt 51 (.pointer (some ⟨b, o, none⟩)) 2).run Try.prog w = .ok (.pointer (some ⟨b, o + 2, none⟩)) w := by kernel_rfl
theorem agg48 (w : World) : (isAgg 48).run Try.prog w = .ok false w := by kernel_rfl
theorem un48 : Try.prog.underlying 48 = some (.slice 22) := by kernel_rfl
theorem infoz22 : Try.t22.zero = some (.float .f32 0) := by kernel_rfl
theorem info22 : Try.prog.info? 22 = some Try.t22 := by kernel_rfl
theorem size48 (w : World) : (sizeOf 48).run Try.prog w = .ok 1 w := by kernel_rfl
theorem fa51_3 (b o : Nat) (w : World) : (Instr.fieldAt 51 (.pointer (some ⟨b, o, none⟩)) 3).run Try.prog w = .ok (.pointer (some ⟨b, o + 3, none⟩)) w := by kernel_rfl
theorem agg49 (w : World) : (isAgg 49).run Try.prog w = .ok false w := by kernel_rfl
theorem un49 : Try.prog.underlying 49 = some (.slice 104) := by kernel_rfl
theorem infoz104 : Try.t104.zero = some (.agg #[.int .i64 0, .int .i64 0, .float .f32 0]) := by kernel_rfl
theorem info104 : Try.prog.info? 104 = some Try.t104 := by kernel_rfl
theorem size49 (w : World) : (sizeOf 49).run Try.prog w = .ok 1 w := by kernel_rfl
theorem fa29_0 (b o : Nat) (w : World) : (Instr.fieldAt 29 (.pointer (some ⟨b, o, none⟩)) 0).run Try.prog w = .ok (.pointer (some ⟨b, o, none⟩)) w := by kernel_rfl
theorem agg22 (w : World) : (isAgg 22).run Try.prog w = .ok false w := by kernel_rfl
theorem fa29_1 (b o : Nat) (w : World) : (Instr.fieldAt 29 (.pointer (some ⟨b, o, none⟩)) 1).run Try.prog w = .ok (.pointer (some ⟨b, o + 1, none⟩)) w := by kernel_rfl
theorem fa29_2 (b o : Nat) (w : World) : (Instr.fieldAt 29 (.pointer (some ⟨b, o, none⟩)) 2).run Try.prog w = .ok (.pointer (some ⟨b, o + 2, none⟩)) w := by kernel_rfl
theorem en47 : Enters Try.prog 47 := enters (fn := Try.f47) (by kernel_rfl) (by kernel_rfl) (by kernel_rfl)
theorem size22 (w : World) : (sizeOf 22).run Try.prog w = .ok 1 w := by kernel_rfl
theorem en117 : Enters Try.prog 117 := enters (fn := Try.f117) (by kernel_rfl) (by kernel_rfl) (by kernel_rfl)
theorem size104 (w : World) : (sizeOf 104).run Try.prog w = .ok 3 w := by kernel_rfl
theorem agg104 (w : World) : (isAgg 104).run Try.prog w = .ok true w := by kernel_rfl
theorem zero104 (w : World) : (zeroValue 104).run Try.prog w = .ok (.agg #[.int .i64 0, .int .i64 0, .float .f32 0]) w := by kernel_rfl
theorem fa104_0 (b o : Nat) (w : World) : (Instr.fieldAt 104 (.pointer (some ⟨b, o, none⟩)) 0).run Try.prog w = .ok (.pointer (some ⟨b, o, none⟩)) w := by kernel_rfl
theorem agg2 (w : World) : (isAgg 2).run Try.prog w = .ok false w := by kernel_rfl
theorem fa104_1 (b o : Nat) (w : World) : (Instr.fieldAt 104 (.pointer (some ⟨b, o, none⟩)) 1).run Try.prog w = .ok (.pointer (some ⟨b, o + 1, none⟩)) w := by kernel_rfl
theorem fa104_2 (b o : Nat) (w : World) : (Instr.fieldAt 104 (.pointer (some ⟨b, o, none⟩)) 2).run Try.prog w = .ok (.pointer (some ⟨b, o + 2, none⟩)) w := by kernel_rfl
theorem en102 : Enters Try.prog 102 := enters (fn := Try.f102) (by kernel_rfl) (by kernel_rfl) (by kernel_rfl)
theorem en68 : Enters Try.prog 68 := enters (fn := Try.f68) (by kernel_rfl) (by kernel_rfl) (by kernel_rfl)
theorem en35 : Enters Try.prog 35 := enters (fn := Try.f35) (by kernel_rfl) (by kernel_rfl) (by kernel_rfl)
theorem zero54 (w : World) : (zeroValue 54).run Try.prog w = .ok (.agg #[.slice none 0 0, .slice none 0 0]) w := by kernel_rfl
theorem size54 (w : World) : (sizeOf 54).run Try.prog w = .ok 2 w := by kernel_rfl
theorem agg54 (w : World) : (isAgg 54).run Try.prog w = .ok true w := by kernel_rfl
theorem fa54_0 (b o : Nat) (w : World) : (Instr.fieldAt 54 (.pointer (some ⟨b, o, none⟩)) 0).run Try.prog w = .ok (.pointer (some ⟨b, o, none⟩)) w := by kernel_rfl
theorem agg52 (w : World) : (isAgg 52).run Try.prog w = .ok false w := by kernel_rfl
theorem un52 : Try.prog.underlying 52 = some (.slice 109) := by kernel_rfl
theorem infoz109 : Try.t109.zero = some (.agg #[.float .f32 0, .float .f32 0]) := by kernel_rfl
theorem info109 : Try.prog.info? 109 = some Try.t109 := by kernel_rfl
theorem size52 (w : World) : (sizeOf 52).run Try.prog w = .ok 1 w := by kernel_rfl
theorem fa54_1 (b o : Nat) (w : World) : (Instr.fieldAt 54 (.pointer (some ⟨b, o, none⟩)) 1).run Try.prog w = .ok (.pointer (some ⟨b, o + 1, none⟩)) w := by kernel_rfl
theorem size109 (w : World) : (sizeOf 109).run Try.prog w = .ok 2 w := by kernel_rfl
theorem fa109_0 (b o : Nat) (w : World) : (Instr.fieldAt 109 (.pointer (some ⟨b, o, none⟩)) 0).run Try.prog w = .ok (.pointer (some ⟨b, o, none⟩)) w := by kernel_rfl
theorem fa109_1 (b o : Nat) (w : World) : (Instr.fieldAt 109 (.pointer (some ⟨b, o, none⟩)) 1).run Try.prog w = .ok (.pointer (some ⟨b, o + 1, none⟩)) w := by kernel_rfl
theorem en103 : Enters Try.prog 103 := enters (fn := Try.f103) (by kernel_rfl) (by kernel_rfl) (by kernel_rfl)
theorem en69 : Enters Try.prog 69 := enters (fn := Try.f69) (by kernel_rfl) (by kernel_rfl) (by kernel_rfl)
theorem en36 : Enters Try.prog 36 := enters (fn := Try.f36) (by kernel_rfl) (by kernel_rfl) (by kernel_rfl)
theorem fa56_2 (b o : Nat) (w : World) : (Instr.fieldAt 56 (.pointer (some ⟨b, o, none⟩)) 2).run Try.prog w = .ok (.pointer (some ⟨b, o + 8, none⟩)) w := by kernel_rfl
theorem fa56_3 (b o : Nat) (w : World) : (Instr.fieldAt 56 (.pointer (some ⟨b, o, none⟩)) 3).run Try.prog w = .ok (.pointer (some ⟨b, o + 12, none⟩)) w := by kernel_rfl
theorem size32 (w : World) : (sizeOf 32).run Try.prog w = .ok 10 w := by kernel_rfl
theorem fa56_4 (b o : Nat) (w : World) : (Instr.fieldAt 56 (.pointer (some ⟨b, o, none⟩)) 4).run Try.prog w = .ok (.pointer (some ⟨b, o + 22, none⟩)) w := by kernel_rfl
theorem agg56 (w : World) : (isAgg 56).run Try.prog w = .ok true w := by kernel_rfl
theorem en16 : Enters Try.prog 16 := enters (fn := Try.f16) (by kernel_rfl) (by kernel_rfl) (by kernel_rfl)
theorem en54 : Enters Try.prog 54 := enters (fn := Try.f54) (by kernel_rfl) (by kernel_rfl) (by kernel_rfl)
theorem en53 : Enters Try.prog 53 := enters (fn := Try.f53) (by kernel_rfl) (by kernel_rfl) (by kernel_rfl)
theorem en70 : Enters Try.prog 70 := enters (fn := Try.f70) (by kernel_rfl) (by kernel_rfl) (by kernel_rfl)
theorem en71 : Enters Try.prog 71 := enters (fn := Try.f71) (by kernel_rfl) (by kernel_rfl) (by kernel_rfl)
theorem en61 : Enters Try.prog 61 := enters (fn := Try.f61) (by kernel_rfl) (by kernel_rfl) (by kernel_rfl)
theorem en99 : Enters Try.prog 99 := enters (fn := Try.f99) (by kernel_rfl) (by kernel_rfl) (by kernel_rfl)
theorem en60 : Enters Try.prog 60 := enters (fn := Try.f60) (by kernel_rfl) (by kernel_rfl) (by kernel_rfl)
theorem en32 : Enters Try.prog 32 := enters (fn := Try.f32) (by kernel_rfl) (by kernel_rfl) (by kernel_rfl)
theorem en25 : Enters Try.prog 25 := enters (fn := Try.f25) (by kernel_rfl) (by kernel_rfl) (by kernel_rfl)
theorem en119 : Enters Try.prog 119 := enters (fn := Try.f119) (by kernel_rfl) (by kernel_rfl) (by kernel_rfl)
theorem en130 : Enters Try.prog 130 := enters (fn := Try.f130) (by kernel_rfl) (by kernel_rfl) (by kernel_rfl)
theorem en118 : Enters Try.prog 118 := enters (fn := Try.f118) (by kernel_rfl) (by kernel_rfl) (by kernel_rfl)
theorem en131 : Enters Try.prog 131 := enters (fn := Try.f131) (by kernel_rfl) (by kernel_rfl) (by kernel_rfl)
theorem en120 : Enters Try.prog 120 := enters (fn := Try.f120) (by kernel_rfl) (by kernel_rfl) (by kernel_rfl)
theorem en123 : Enters Try.prog 123 := enters (fn := Try.f123) (by kernel_rfl) (by kernel_rfl) (by kernel_rfl)
theorem en122 : Enters Try.prog 122 := enters (fn := Try.f122) (by kernel_rfl) (by kernel_rfl) (by kernel_rfl)
theorem en132 : Enters Try.prog 132 := enters (fn := Try.f132) (by kernel_rfl) (by kernel_rfl) (by kernel_rfl)
theorem en121 : Enters Try.prog 121 := enters (fn := Try.f121) (by kernel_rfl) (by kernel_rfl) (by kernel_rfl)
theorem en104 : Enters Try.prog 104 := enters (fn := Try.f104) (by kernel_rfl) (by kernel_rfl) (by kernel_rfl)
theorem en72 : Enters Try.prog 72 := enters (fn := Try.f72) (by kernel_rfl) (by kernel_rfl) (by kernel_rfl)
theorem en37 : Enters Try.prog 37 := enters (fn := Try.f37) (by kernel_rfl) (by kernel_rfl) (by kernel_rfl)
theorem un3 : Try.prog.underlying 3 = some (.int .i64) := by kernel_rfl
theorem un133 : Try.prog.underlying 133 = some (.int .u64) := by kernel_rfl
theorem en125 : Enters Try.prog 125 := enters (fn := Try.f125) (by kernel_rfl) (by kernel_rfl) (by kernel_rfl)
theorem en105 : Enters Try.prog 105 := enters (fn := Try.f105) (by kernel_rfl) (by kernel_rfl) (by kernel_rfl)
theorem en73 : Enters Try.prog 73 := enters (fn := Try.f73) (by kernel_rfl) (by kernel_rfl) (by kernel_rfl)
theorem agg109 (w : World) : (isAgg 109).run Try.prog w = .ok true w := by kernel_rfl
theorem en107 : Enters Try.prog 107 := enters (fn := Try.f107) (by kernel_rfl) (by kernel_rfl) (by kernel_rfl)
theorem en126 : Enters Try.prog 126 := enters (fn := Try.f126) (by kernel_rfl) (by kernel_rfl) (by kernel_rfl)
theorem en106 : Enters Try.prog 106 := enters (fn := Try.f106) (by kernel_rfl) (by kernel_rfl) (by kernel_rfl)
theorem en74 : Enters Try.prog 74 := enters (fn := Try.f74) (by kernel_rfl) (by kernel_rfl) (by kernel_rfl)
theorem en38 : Enters Try.prog 38 := enters (fn := Try.f38) (by kernel_rfl) (by kernel_rfl) (by kernel_rfl)
theorem en17 : Enters Try.prog 17 := enters (fn := Try.f17) (by kernel_rfl) (by kernel_rfl) (by kernel_rfl)
theorem fa56_0 (b o : Nat) (w : World) : (Instr.fieldAt 56 (.pointer (some ⟨b, o, none⟩)) 0).run Try.prog w = .ok (.pointer (some ⟨b, o, none⟩)) w := by kernel_rfl
theorem agg45 (w : World) : (isAgg 45).run Try.prog w = .ok true w := by kernel_rfl
theorem size45 (w : World) : (sizeOf 45).run Try.prog w = .ok 5 w := by kernel_rfl
theorem fa45_0 (b o : Nat) (w : World) : (Instr.fieldAt 45 (.pointer (some ⟨b, o, none⟩)) 0).run Try.prog w = .ok (.pointer (some ⟨b, o, none⟩)) w := by kernel_rfl
theorem un95 : Try.prog.underlying 95 = some (.float .f64) := by kernel_rfl
theorem cn_f64_0 : cn .f64 0 = 0 := by decide +kernel
theorem cn_f64_4607182418800017408 : cn .f64 4607182418800017408 = 4607182418800017408 := by decide +kernel
theorem un4 : Try.prog.underlying 4 = some (.bool) := by kernel_rfl
theorem en57 : Enters Try.prog 57 := enters (fn := Try.f57) (by kernel_rfl) (by kernel_rfl) (by kernel_rfl)
theorem fa45_1 (b o : Nat) (w : World) : (Instr.fieldAt 45 (.pointer (some ⟨b, o, none⟩)) 1).run Try.prog w = .ok (.pointer (some ⟨b, o + 1, none⟩)) w := by kernel_rfl
theorem fa45_2 (b o : Nat) (w : World) : (Instr.fieldAt 45 (.pointer (some ⟨b, o, none⟩)) 2).run Try.prog w = .ok (.pointer (some ⟨b, o + 2, none⟩)) w := by kernel_rfl
theorem fa45_3 (b o : Nat) (w : World) : (Instr.fieldAt 45 (.pointer (some ⟨b, o, none⟩)) 3).run Try.prog w = .ok (.pointer (some ⟨b, o + 3, none⟩)) w := by kernel_rfl
theorem fa45_4 (b o : Nat) (w : World) : (Instr.fieldAt 45 (.pointer (some ⟨b, o, none⟩)) 4).run Try.prog w = .ok (.pointer (some ⟨b, o + 4, none⟩)) w := by kernel_rfl
theorem en39 : Enters Try.prog 39 := enters (fn := Try.f39) (by kernel_rfl) (by kernel_rfl) (by kernel_rfl)
theorem fa56_1 (b o : Nat) (w : World) : (Instr.fieldAt 56 (.pointer (some ⟨b, o, none⟩)) 1).run Try.prog w = .ok (.pointer (some ⟨b, o + 5, none⟩)) w := by kernel_rfl
theorem agg47 (w : World) : (isAgg 47).run Try.prog w = .ok true w := by kernel_rfl
theorem size47 (w : World) : (sizeOf 47).run Try.prog w = .ok 3 w := by kernel_rfl
theorem fa47_0 (b o : Nat) (w : World) : (Instr.fieldAt 47 (.pointer (some ⟨b, o, none⟩)) 0).run Try.prog w = .ok (.pointer (some ⟨b, o, none⟩)) w := by kernel_rfl
theorem fa47_1 (b o : Nat) (w : World) : (Instr.fieldAt 47 (.pointer (some ⟨b, o, none⟩)) 1).run Try.prog w = .ok (.pointer (some ⟨b, o + 1, none⟩)) w := by kernel_rfl
theorem fa47_2 (b o : Nat) (w : World) : (Instr.fieldAt 47 (.pointer (some ⟨b, o, none⟩)) 2).run Try.prog w = .ok (.pointer (some ⟨b, o + 2, none⟩)) w := by kernel_rfl
theorem en40 : Enters Try.prog 40 := enters (fn := Try.f40) (by kernel_rfl) (by kernel_rfl) (by kernel_rfl)
theorem en28 : Enters Try.prog 28 := enters (fn := Try.f28) (by kernel_rfl) (by kernel_rfl) (by kernel_rfl)
theorem en11 : Enters Try.prog 11 := enters (fn := Try.f11) (by kernel_rfl) (by kernel_rfl) (by kernel_rfl)
theorem en75 : Enters Try.prog 75 := enters (fn := Try.f75) (by kernel_rfl) (by kernel_rfl) (by kernel_rfl)
theorem en108 : Enters Try.prog 108 := enters (fn := Try.f108) (by kernel_rfl) (by kernel_rfl) (by kernel_rfl)
theorem en76 : Enters Try.prog 76 := enters (fn := Try.f76) (by kernel_rfl) (by kernel_rfl) (by kernel_rfl)
theorem en41 : Enters Try.prog 41 := enters (fn := Try.f41) (by kernel_rfl) (by kernel_rfl) (by kernel_rfl)
theorem agg32 (w : World) : (isAgg 32).run Try.prog w = .ok true w := by kernel_rfl
theorem fa32_0 (b o : Nat) (w : World) : (Instr.fieldAt 32 (.pointer (some ⟨b, o, none⟩)) 0).run Try.prog w = .ok (.pointer (some ⟨b, o, none⟩)) w := by kernel_rfl
theorem fa32_1 (b o : Nat) (w : World) : (Instr.fieldAt 32 (.pointer (some ⟨b, o, none⟩)) 1).run Try.prog w = .ok (.pointer (some ⟨b, o + 3, none⟩)) w := by kernel_rfl
theorem agg30 (w : World) : (isAgg 30).run Try.prog w = .ok true w := by kernel_rfl
theorem size30 (w : World) : (sizeOf 30).run Try.prog w = .ok 4 w := by kernel_rfl
theorem fa30_0 (b o : Nat) (w : World) : (Instr.fieldAt 30 (.pointer (some ⟨b, o, none⟩)) 0).run Try.prog w = .ok (.pointer (some ⟨b, o, none⟩)) w := by kernel_rfl
theorem fa30_1 (b o : Nat) (w : World) : (Instr.fieldAt 30 (.pointer (some ⟨b, o, none⟩)) 1).run Try.prog w = .ok (.pointer (some ⟨b, o + 1, none⟩)) w := by kernel_rfl
theorem fa30_2 (b o : Nat) (w : World) : (Instr.fieldAt 30 (.pointer (some ⟨b, o, none⟩)) 2).run Try.prog w = .ok (.pointer (some ⟨b, o + 2, none⟩)) w := by kernel_rfl
theorem fa30_3 (b o : Nat) (w : World) : (Instr.fieldAt 30 (.pointer (some ⟨b, o, none⟩)) 3).run Try.prog w = .ok (.pointer (some ⟨b, o + 3, none⟩)) w := by kernel_rfl
theorem en29 : Enters Try.prog 29 := enters (fn := Try.f29) (by kernel_rfl) (by kernel_rfl) (by kernel_rfl)
theorem fa32_2 (b o : Nat) (w : World) : (Instr.fieldAt 32 (.pointer (some ⟨b, o, none⟩)) 2).run Try.prog w = .ok (.pointer (some ⟨b, o + 7, none⟩)) w := by kernel_rfl
theorem en10 : Enters Try.prog 10 := enters (fn := Try.f10) (by kernel_rfl) (by kernel_rfl) (by kernel_rfl)
theorem en109 : Enters Try.prog 109 := enters (fn := Try.f109) (by kernel_rfl) (by kernel_rfl) (by kernel_rfl)
theorem en77 : Enters Try.prog 77 := enters (fn := Try.f77) (by kernel_rfl) (by kernel_rfl) (by kernel_rfl)
theorem en42 : Enters Try.prog 42 := enters (fn := Try.f42) (by kernel_rfl) (by kernel_rfl) (by kernel_rfl)
theorem en18 : Enters Try.prog 18 := enters (fn := Try.f18) (by kernel_rfl) (by kernel_rfl) (by kernel_rfl)
theorem en12 : Enters Try.prog 12 := enters (fn := Try.f12) (by kernel_rfl) (by kernel_rfl) (by kernel_rfl)
theorem en78 : Enters Try.prog 78 := enters (fn := Try.f78) (by kernel_rfl) (by kernel_rfl) (by kernel_rfl)
theorem size2 (w : World) : (sizeOf 2).run Try.prog w = .ok 1 w := by kernel_rfl
theorem en79 : Enters Try.prog 79 := enters (fn := Try.f79) (by kernel_rfl) (by kernel_rfl) (by kernel_rfl)
theorem en43 : Enters Try.prog 43 := enters (fn := Try.f43) (by kernel_rfl) (by kernel_rfl) (by kernel_rfl)
theorem en80 : Enters Try.prog 80 := enters (fn := Try.f80) (by kernel_rfl) (by kernel_rfl) (by kernel_rfl)
theorem en44 : Enters Try.prog 44 := enters (fn := Try.f44) (by kernel_rfl) (by kernel_rfl) (by kernel_rfl)
theorem en19 : Enters Try.prog 19 := enters (fn := Try.f19) (by kernel_rfl) (by kernel_rfl) (by kernel_rfl)
theorem en13 : Enters Try.prog 13 := enters (fn := Try.f13) (by kernel_rfl) (by kernel_rfl) (by kernel_rfl)
theorem en81 : Enters Try.prog 81 := enters (fn := Try.f81) (by kernel_rfl) (by kernel_rfl) (by kernel_rfl)
theorem en82 : Enters Try.prog 82 := enters (fn := Try.f82) (by kernel_rfl) (by kernel_rfl) (by kernel_rfl)
theorem en45 : Enters Try.prog 45 := enters (fn := Try.f45) (by kernel_rfl) (by kernel_rfl) (by kernel_rfl)
theorem en83 : Enters Try.prog 83 := enters (fn := Try.f83) (by kernel_rfl) (by kernel_rfl) (by kernel_rfl)
theorem en46 : Enters Try.prog 46 := enters (fn := Try.f46) (by kernel_rfl) (by kernel_rfl) (by kernel_rfl)
theorem en20 : Enters Try.prog 20 := enters (fn := Try.f20) (by kernel_rfl) (by kernel_rfl) (by kernel_rfl)
end Go.Proofs
