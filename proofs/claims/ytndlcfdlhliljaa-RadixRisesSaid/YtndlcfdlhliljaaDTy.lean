/- Of each type of the program how many cells and bytes it has (ti), and its zero value (zt). Conditions: none. -/
import Derived.Test.YtndlcfdlhliljaaDTac
import Derived.Test.YtndlcfdlhliljaaChecked
import Derived.KernelRfl
namespace Go.Proofs.Ytndlcfdlhliljaa.D
theorem mixed : Try.prog.follows .mixedOrders = true := by kernel_rfl
theorem ti_0 : tI Try.prog 0 = some (1, 0, false) := by kernel_rfl
theorem zt_0 : zeroT Try.prog 0 = some (.tuple #[]) := by kernel_rfl
theorem ti_2 : tI Try.prog 2 = some (1, 8, false) := by kernel_rfl
theorem zt_2 : zeroT Try.prog 2 = some (.int .i64 (0)) := by kernel_rfl
theorem ti_3 : tI Try.prog 3 = some (1, 8, false) := by kernel_rfl
theorem zt_3 : zeroT Try.prog 3 = some (.int .i64 (0)) := by kernel_rfl
theorem ti_4 : tI Try.prog 4 = some (1, 1, false) := by kernel_rfl
theorem zt_4 : zeroT Try.prog 4 = some (.bool false) := by kernel_rfl
theorem ti_5 : tI Try.prog 5 = some (1, 1, false) := by kernel_rfl
theorem zt_5 : zeroT Try.prog 5 = some (.int .u8 (0)) := by kernel_rfl
theorem ti_6 : tI Try.prog 6 = some (1, 1, false) := by kernel_rfl
theorem zt_6 : zeroT Try.prog 6 = some (.int .u8 (0)) := by kernel_rfl
theorem ti_7 : tI Try.prog 7 = some (4, 24, true) := by kernel_rfl
theorem zt_7 : zeroT Try.prog 7 = some (.agg #[.int .i64 (0), .int .i64 (0), .bool false, .int .u8 (0)]) := by kernel_rfl
theorem ti_8 : tI Try.prog 8 = some (4, 24, true) := by kernel_rfl
theorem zt_8 : zeroT Try.prog 8 = some (.agg #[.int .i64 (0), .int .i64 (0), .bool false, .int .u8 (0)]) := by kernel_rfl
theorem ti_9 : tI Try.prog 9 = some (1, 16, false) := by kernel_rfl
theorem zt_9 : zeroT Try.prog 9 = some (.string ⟨#[]⟩) := by kernel_rfl
theorem ti_10 : tI Try.prog 10 = some (1, 16, false) := by kernel_rfl
theorem zt_10 : zeroT Try.prog 10 = some (.string ⟨#[]⟩) := by kernel_rfl
theorem ti_11 : tI Try.prog 11 = some (1, 16, false) := by kernel_rfl
theorem zt_11 : zeroT Try.prog 11 = some (.string ⟨#[]⟩) := by kernel_rfl
theorem ti_12 : tI Try.prog 12 = some (1, 8, false) := by kernel_rfl
theorem zt_12 : zeroT Try.prog 12 = some (.int .u64 (0)) := by kernel_rfl
theorem ti_13 : tI Try.prog 13 = some (2, 24, true) := by kernel_rfl
theorem zt_13 : zeroT Try.prog 13 = some (.agg #[.string ⟨#[]⟩, .int .u64 (0)]) := by kernel_rfl
theorem ti_14 : tI Try.prog 14 = some (2, 24, true) := by kernel_rfl
theorem zt_14 : zeroT Try.prog 14 = some (.agg #[.string ⟨#[]⟩, .int .u64 (0)]) := by kernel_rfl
theorem ti_15 : tI Try.prog 15 = some (1, 8, false) := by kernel_rfl
theorem zt_15 : zeroT Try.prog 15 = some (.pointer none) := by kernel_rfl
theorem ti_16 : tI Try.prog 16 = some (1, 8, false) := by kernel_rfl
theorem zt_16 : zeroT Try.prog 16 = some (.pointer none) := by kernel_rfl
theorem ti_17 : tI Try.prog 17 = some (1, 8, false) := by kernel_rfl
theorem zt_17 : zeroT Try.prog 17 = some (.pointer none) := by kernel_rfl
theorem ti_18 : tI Try.prog 18 = some (1, 8, true) := by kernel_rfl
theorem zt_18 : zeroT Try.prog 18 = some (.agg #[.pointer none]) := by kernel_rfl
theorem ti_19 : tI Try.prog 19 = some (1, 8, true) := by kernel_rfl
theorem zt_19 : zeroT Try.prog 19 = some (.agg #[.pointer none]) := by kernel_rfl
theorem ti_20 : tI Try.prog 20 = some (1, 16, false) := by kernel_rfl
theorem zt_20 : zeroT Try.prog 20 = some .nilIface := by kernel_rfl
theorem ti_21 : tI Try.prog 21 = some (1, 4, false) := by kernel_rfl
theorem zt_21 : zeroT Try.prog 21 = some (.int .i32 (0)) := by kernel_rfl
theorem ti_25 : tI Try.prog 25 = some (1, 8, false) := by kernel_rfl
theorem zt_25 : zeroT Try.prog 25 = some (.int .i64 (0)) := by kernel_rfl
theorem ti_26 : tI Try.prog 26 = some (1, 0, false) := by kernel_rfl
theorem zt_26 : zeroT Try.prog 26 = some (.tuple #[.int .i64 (0), .int .i64 (0), .int .i64 (0)]) := by kernel_rfl
theorem ti_28 : tI Try.prog 28 = some (1, 8, false) := by kernel_rfl
theorem zt_28 : zeroT Try.prog 28 = some (.int .u64 (0)) := by kernel_rfl
theorem ti_29 : tI Try.prog 29 = some (1, 0, false) := by kernel_rfl
theorem zt_29 : zeroT Try.prog 29 = some (.tuple #[.int .u64 (0), .int .i64 (0), .int .i64 (0)]) := by kernel_rfl
theorem ti_33 : tI Try.prog 33 = some (1, 0, false) := by kernel_rfl
theorem zt_33 : zeroT Try.prog 33 = some (.tuple #[.string ⟨#[]⟩, .int .i64 (0), .int .i64 (0)]) := by kernel_rfl
theorem ti_38 : tI Try.prog 38 = some (1, 24, false) := by kernel_rfl
theorem zt_38 : zeroT Try.prog 38 = some (.slice none 0 0) := by kernel_rfl
theorem ti_39 : tI Try.prog 39 = some (1, 0, false) := by kernel_rfl
theorem zt_39 : zeroT Try.prog 39 = some (.tuple #[.slice none 0 0, .int .i64 (0), .int .i64 (0)]) := by kernel_rfl
theorem ti_41 : tI Try.prog 41 = some (1, 0, false) := by kernel_rfl
theorem zt_41 : zeroT Try.prog 41 = some (.tuple #[.slice none 0 0, .int .i64 (0)]) := by kernel_rfl
theorem ti_51 : tI Try.prog 51 = some (1, 24, false) := by kernel_rfl
theorem zt_51 : zeroT Try.prog 51 = some (.slice none 0 0) := by kernel_rfl
theorem ti_53 : tI Try.prog 53 = some (1, 0, false) := by kernel_rfl
theorem zt_53 : zeroT Try.prog 53 = some (.tuple #[.slice none 0 0, .int .i64 (0)]) := by kernel_rfl
theorem ti_55 : tI Try.prog 55 = some (1, 0, false) := by kernel_rfl
theorem zt_55 : zeroT Try.prog 55 = some (.tuple #[.slice none 0 0, .bool false]) := by kernel_rfl
theorem ti_59 : tI Try.prog 59 = some (1, 24, false) := by kernel_rfl
theorem zt_59 : zeroT Try.prog 59 = some (.slice none 0 0) := by kernel_rfl
theorem ti_72 : tI Try.prog 72 = some (1, 24, false) := by kernel_rfl
theorem zt_72 : zeroT Try.prog 72 = some (.slice none 0 0) := by kernel_rfl
theorem ti_73 : tI Try.prog 73 = some (1, 24, false) := by kernel_rfl
theorem zt_73 : zeroT Try.prog 73 = some (.slice none 0 0) := by kernel_rfl
theorem ti_77 : tI Try.prog 77 = some (1, 0, false) := by kernel_rfl
theorem zt_77 : zeroT Try.prog 77 = some (.tuple #[.int .u64 (0), .int .u64 (0)]) := by kernel_rfl
theorem ti_79 : tI Try.prog 79 = some (1, 8, false) := by kernel_rfl
theorem zt_79 : zeroT Try.prog 79 = some (.pointer none) := by kernel_rfl
theorem ti_80 : tI Try.prog 80 = some (1, 0, false) := by kernel_rfl
theorem zt_80 : zeroT Try.prog 80 = some (.tuple #[.pointer none, .int .i64 (0)]) := by kernel_rfl
theorem ti_85 : tI Try.prog 85 = some (1, 4, false) := by kernel_rfl
theorem zt_85 : zeroT Try.prog 85 = some (.int .u32 (0)) := by kernel_rfl
theorem ti_86 : tI Try.prog 86 = some (2, 8, true) := by kernel_rfl
theorem zt_86 : zeroT Try.prog 86 = some (.agg #[.int .u32 (0), .int .u32 (0)]) := by kernel_rfl
theorem ti_87 : tI Try.prog 87 = some (2, 8, true) := by kernel_rfl
theorem zt_87 : zeroT Try.prog 87 = some (.agg #[.int .u32 (0), .int .u32 (0)]) := by kernel_rfl
theorem ti_90 : tI Try.prog 90 = some (1, 8, false) := by kernel_rfl
theorem zt_90 : zeroT Try.prog 90 = some (.int .u64 (0)) := by kernel_rfl
theorem ti_91 : tI Try.prog 91 = some (1, 8, false) := by kernel_rfl
theorem zt_91 : zeroT Try.prog 91 = some (.map none) := by kernel_rfl
theorem ti_92 : tI Try.prog 92 = some (3, 24, true) := by kernel_rfl
theorem zt_92 : zeroT Try.prog 92 = some (.agg #[.map none, .int .i64 (0), .int .i64 (0)]) := by kernel_rfl
theorem ti_93 : tI Try.prog 93 = some (3, 24, true) := by kernel_rfl
theorem zt_93 : zeroT Try.prog 93 = some (.agg #[.map none, .int .i64 (0), .int .i64 (0)]) := by kernel_rfl
theorem ti_98 : tI Try.prog 98 = some (256, 2048, true) := by kernel_rfl
theorem ti_100 : tI Try.prog 100 = some (4, 40, true) := by kernel_rfl
theorem zt_100 : zeroT Try.prog 100 = some (.agg #[.pointer none, .pointer none, .pointer none, .string ⟨#[]⟩]) := by kernel_rfl
theorem ti_101 : tI Try.prog 101 = some (4, 40, true) := by kernel_rfl
theorem zt_101 : zeroT Try.prog 101 = some (.agg #[.pointer none, .pointer none, .pointer none, .string ⟨#[]⟩]) := by kernel_rfl
theorem ti_102 : tI Try.prog 102 = some (0, 0, true) := by kernel_rfl
theorem zt_102 : zeroT Try.prog 102 = some (.agg #[]) := by kernel_rfl
theorem ti_103 : tI Try.prog 103 = some (0, 0, true) := by kernel_rfl
theorem zt_103 : zeroT Try.prog 103 = some (.agg #[]) := by kernel_rfl
theorem ti_104 : tI Try.prog 104 = some (0, 0, true) := by kernel_rfl
theorem zt_104 : zeroT Try.prog 104 = some (.agg #[]) := by kernel_rfl
theorem ti_105 : tI Try.prog 105 = some (1, 1, false) := by kernel_rfl
theorem zt_105 : zeroT Try.prog 105 = some (.int .u8 (0)) := by kernel_rfl
theorem ti_106 : tI Try.prog 106 = some (1, 1, false) := by kernel_rfl
theorem zt_106 : zeroT Try.prog 106 = some (.int .u8 (0)) := by kernel_rfl
theorem ti_108 : tI Try.prog 108 = some (1, 8, false) := by kernel_rfl
theorem zt_108 : zeroT Try.prog 108 = some (.pointer none) := by kernel_rfl
theorem ti_109 : tI Try.prog 109 = some (1, 4, false) := by kernel_rfl
theorem zt_109 : zeroT Try.prog 109 = some (.int .i32 (0)) := by kernel_rfl
theorem ti_110 : tI Try.prog 110 = some (1, 4, false) := by kernel_rfl
theorem zt_110 : zeroT Try.prog 110 = some (.int .i32 (0)) := by kernel_rfl
theorem ti_111 : tI Try.prog 111 = some (11, 48, true) := by kernel_rfl
theorem zt_111 : zeroT Try.prog 111 = some (.agg #[.int .u64 (0), .int .u64 (0), .int .u32 (0), .int .u8 (0), .int .u8 (0), .int .u8 (0), .int .u8 (0), .nilFunc, .pointer none, .int .i32 (0), .int .i32 (0)]) := by kernel_rfl
theorem ti_112 : tI Try.prog 112 = some (11, 48, true) := by kernel_rfl
theorem zt_112 : zeroT Try.prog 112 = some (.agg #[.int .u64 (0), .int .u64 (0), .int .u32 (0), .int .u8 (0), .int .u8 (0), .int .u8 (0), .int .u8 (0), .nilFunc, .pointer none, .int .i32 (0), .int .i32 (0)]) := by kernel_rfl
theorem ti_113 : tI Try.prog 113 = some (1, 8, false) := by kernel_rfl
attribute [go_sem] ti_0 zt_0 ti_2 zt_2 ti_3 zt_3 ti_4 zt_4 ti_5 zt_5 ti_6 zt_6 ti_7 zt_7 ti_8 zt_8 ti_9 zt_9 ti_10 zt_10 ti_11 zt_11 ti_12 zt_12 ti_13 zt_13 ti_14 zt_14 ti_15 zt_15 ti_16 zt_16 ti_17 zt_17 ti_18 zt_18 ti_19 zt_19 ti_20 zt_20 ti_21 zt_21 ti_25 zt_25 ti_26 zt_26 ti_28 zt_28 ti_29 zt_29 ti_33 zt_33 ti_38 zt_38 ti_39 zt_39 ti_41 zt_41 ti_51 zt_51 ti_53 zt_53 ti_55 zt_55 ti_59 zt_59 ti_72 zt_72 ti_73 zt_73 ti_77 zt_77 ti_79 zt_79 ti_80 zt_80 ti_85 zt_85 ti_86 zt_86 ti_87 zt_87 ti_90 zt_90 ti_91 zt_91 ti_92 zt_92 ti_93 zt_93 ti_98 ti_100 zt_100 ti_101 zt_101 ti_102 zt_102 ti_103 zt_103 ti_104 zt_104 ti_105 zt_105 ti_106 zt_106 ti_108 zt_108 ti_109 zt_109 ti_110 zt_110 ti_111 zt_111 ti_112 zt_112 ti_113
attribute [go_sem] Try.underlying0 Try.underlying1 Try.underlying2 Try.underlying3 Try.underlying4 Try.underlying5 Try.underlying6 Try.underlying7 Try.underlying8 Try.underlying9 Try.underlying10 Try.underlying11 Try.underlying12 Try.underlying13 Try.underlying14 Try.underlying15 Try.underlying16 Try.underlying17 Try.underlying18 Try.underlying19 Try.underlying20 Try.underlying21 Try.underlying22 Try.underlying23 Try.underlying24 Try.underlying25 Try.underlying26 Try.underlying27 Try.underlying28 Try.underlying29 Try.underlying30 Try.underlying31 Try.underlying32 Try.underlying33 Try.underlying34 Try.underlying35 Try.underlying36 Try.underlying37 Try.underlying38 Try.underlying39 Try.underlying40 Try.underlying41 Try.underlying42 Try.underlying43 Try.underlying44 Try.underlying45 Try.underlying46 Try.underlying47 Try.underlying48 Try.underlying49 Try.underlying50 Try.underlying51 Try.underlying52 Try.underlying53 Try.underlying54 Try.underlying55 Try.underlying56 Try.underlying57 Try.underlying58 Try.underlying59 Try.underlying60 Try.underlying61 Try.underlying62 Try.underlying63 Try.underlying64 Try.underlying65 Try.underlying66 Try.underlying67 Try.underlying68 Try.underlying69 Try.underlying70 Try.underlying71 Try.underlying72 Try.underlying73 Try.underlying74 Try.underlying75 Try.underlying76 Try.underlying77 Try.underlying78 Try.underlying79 Try.underlying80 Try.underlying81 Try.underlying82 Try.underlying83 Try.underlying84 Try.underlying85 Try.underlying86 Try.underlying87 Try.underlying88 Try.underlying89 Try.underlying90 Try.underlying91 Try.underlying92 Try.underlying93 Try.underlying94 Try.underlying95 Try.underlying96 Try.underlying97 Try.underlying98 Try.underlying99 Try.underlying100 Try.underlying101 Try.underlying102 Try.underlying103 Try.underlying104 Try.underlying105 Try.underlying106 Try.underlying107 Try.underlying108 Try.underlying109 Try.underlying110 Try.underlying111 Try.underlying112 Try.underlying113
end Go.Proofs.Ytndlcfdlhliljaa.D
