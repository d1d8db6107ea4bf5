/- Of each type of the program how many cells and bytes it has (ti), and its zero value (zt). Conditions: none. -/
import Derived.Test.YtnlodeadhnonpaaDoorDTac
import Derived.Test.YtnlodeadhnonpaaDoorChecked
import Derived.KernelRfl
namespace Go.Proofs.YtnlodeadhnonpaaDoor.D
theorem mixed : Tryd.prog.follows .mixedOrders = true := by kernel_rfl
theorem ti_0 : tI Tryd.prog 0 = some (1, 0, false) := by kernel_rfl
theorem zt_0 : zeroT Tryd.prog 0 = some (.tuple #[]) := by kernel_rfl
theorem ti_2 : tI Tryd.prog 2 = some (1, 8, false) := by kernel_rfl
theorem zt_2 : zeroT Tryd.prog 2 = some (.int .i64 (0)) := by kernel_rfl
theorem ti_3 : tI Tryd.prog 3 = some (1, 8, false) := by kernel_rfl
theorem zt_3 : zeroT Tryd.prog 3 = some (.int .i64 (0)) := by kernel_rfl
theorem ti_4 : tI Tryd.prog 4 = some (1, 1, false) := by kernel_rfl
theorem zt_4 : zeroT Tryd.prog 4 = some (.bool false) := by kernel_rfl
theorem ti_5 : tI Tryd.prog 5 = some (1, 1, false) := by kernel_rfl
theorem zt_5 : zeroT Tryd.prog 5 = some (.int .u8 (0)) := by kernel_rfl
theorem ti_6 : tI Tryd.prog 6 = some (1, 1, false) := by kernel_rfl
theorem zt_6 : zeroT Tryd.prog 6 = some (.int .u8 (0)) := by kernel_rfl
theorem ti_7 : tI Tryd.prog 7 = some (4, 24, true) := by kernel_rfl
theorem zt_7 : zeroT Tryd.prog 7 = some (.agg #[.int .i64 (0), .int .i64 (0), .bool false, .int .u8 (0)]) := by kernel_rfl
theorem ps_7 : plainStruct Tryd.prog 7 = True := ps_of (by kernel_rfl)
theorem ti_8 : tI Tryd.prog 8 = some (4, 24, true) := by kernel_rfl
theorem zt_8 : zeroT Tryd.prog 8 = some (.agg #[.int .i64 (0), .int .i64 (0), .bool false, .int .u8 (0)]) := by kernel_rfl
theorem ps_8 : plainStruct Tryd.prog 8 = True := ps_of (by kernel_rfl)
theorem ti_9 : tI Tryd.prog 9 = some (1, 16, false) := by kernel_rfl
theorem zt_9 : zeroT Tryd.prog 9 = some (.string ⟨#[]⟩) := by kernel_rfl
theorem ti_10 : tI Tryd.prog 10 = some (1, 16, false) := by kernel_rfl
theorem zt_10 : zeroT Tryd.prog 10 = some (.string ⟨#[]⟩) := by kernel_rfl
theorem ti_11 : tI Tryd.prog 11 = some (1, 16, false) := by kernel_rfl
theorem zt_11 : zeroT Tryd.prog 11 = some (.string ⟨#[]⟩) := by kernel_rfl
theorem ti_12 : tI Tryd.prog 12 = some (1, 8, false) := by kernel_rfl
theorem zt_12 : zeroT Tryd.prog 12 = some (.int .u64 (0)) := by kernel_rfl
theorem ti_13 : tI Tryd.prog 13 = some (2, 24, true) := by kernel_rfl
theorem zt_13 : zeroT Tryd.prog 13 = some (.agg #[.string ⟨#[]⟩, .int .u64 (0)]) := by kernel_rfl
theorem ti_14 : tI Tryd.prog 14 = some (2, 24, true) := by kernel_rfl
theorem zt_14 : zeroT Tryd.prog 14 = some (.agg #[.string ⟨#[]⟩, .int .u64 (0)]) := by kernel_rfl
theorem ti_15 : tI Tryd.prog 15 = some (1, 8, false) := by kernel_rfl
theorem zt_15 : zeroT Tryd.prog 15 = some (.pointer none) := by kernel_rfl
theorem ti_16 : tI Tryd.prog 16 = some (1, 8, false) := by kernel_rfl
theorem zt_16 : zeroT Tryd.prog 16 = some (.pointer none) := by kernel_rfl
theorem ti_17 : tI Tryd.prog 17 = some (1, 8, false) := by kernel_rfl
theorem zt_17 : zeroT Tryd.prog 17 = some (.pointer none) := by kernel_rfl
theorem ti_18 : tI Tryd.prog 18 = some (1, 8, true) := by kernel_rfl
theorem zt_18 : zeroT Tryd.prog 18 = some (.agg #[.pointer none]) := by kernel_rfl
theorem ti_19 : tI Tryd.prog 19 = some (1, 8, true) := by kernel_rfl
theorem zt_19 : zeroT Tryd.prog 19 = some (.agg #[.pointer none]) := by kernel_rfl
theorem ti_20 : tI Tryd.prog 20 = some (1, 16, false) := by kernel_rfl
theorem zt_20 : zeroT Tryd.prog 20 = some .nilIface := by kernel_rfl
theorem ti_21 : tI Tryd.prog 21 = some (1, 4, false) := by kernel_rfl
theorem zt_21 : zeroT Tryd.prog 21 = some (.int .i32 (0)) := by kernel_rfl
theorem ti_22 : tI Tryd.prog 22 = some (1, 24, false) := by kernel_rfl
theorem zt_22 : zeroT Tryd.prog 22 = some (.slice none 0 0) := by kernel_rfl
theorem ti_23 : tI Tryd.prog 23 = some (1, 8, false) := by kernel_rfl
theorem zt_23 : zeroT Tryd.prog 23 = some (.pointer none) := by kernel_rfl
theorem ti_24 : tI Tryd.prog 24 = some (1, 8, false) := by kernel_rfl
theorem zt_24 : zeroT Tryd.prog 24 = some (.int .i64 (0)) := by kernel_rfl
theorem ti_25 : tI Tryd.prog 25 = some (1, 0, false) := by kernel_rfl
theorem zt_25 : zeroT Tryd.prog 25 = some (.tuple #[.pointer none, .int .i64 (0)]) := by kernel_rfl
theorem ti_28 : tI Tryd.prog 28 = some (1, 8, false) := by kernel_rfl
theorem zt_28 : zeroT Tryd.prog 28 = some (.pointer none) := by kernel_rfl
theorem ti_29 : tI Tryd.prog 29 = some (1, 24, false) := by kernel_rfl
theorem zt_29 : zeroT Tryd.prog 29 = some (.slice none 0 0) := by kernel_rfl
theorem ti_30 : tI Tryd.prog 30 = some (2, 32, true) := by kernel_rfl
theorem zt_30 : zeroT Tryd.prog 30 = some (.agg #[.slice none 0 0, .int .i64 (0)]) := by kernel_rfl
theorem ps_30 : plainStruct Tryd.prog 30 = True := ps_of (by kernel_rfl)
theorem ti_31 : tI Tryd.prog 31 = some (2, 32, true) := by kernel_rfl
theorem zt_31 : zeroT Tryd.prog 31 = some (.agg #[.slice none 0 0, .int .i64 (0)]) := by kernel_rfl
theorem ps_31 : plainStruct Tryd.prog 31 = True := ps_of (by kernel_rfl)
theorem ti_33 : tI Tryd.prog 33 = some (3, 32, true) := by kernel_rfl
theorem zt_33 : zeroT Tryd.prog 33 = some (.agg #[.int .i64 (0), .string ⟨#[]⟩, .int .i64 (0)]) := by kernel_rfl
theorem ps_33 : plainStruct Tryd.prog 33 = True := ps_of (by kernel_rfl)
theorem ti_34 : tI Tryd.prog 34 = some (3, 32, true) := by kernel_rfl
theorem zt_34 : zeroT Tryd.prog 34 = some (.agg #[.int .i64 (0), .string ⟨#[]⟩, .int .i64 (0)]) := by kernel_rfl
theorem ps_34 : plainStruct Tryd.prog 34 = True := ps_of (by kernel_rfl)
theorem ti_39 : tI Tryd.prog 39 = some (1, 24, false) := by kernel_rfl
theorem zt_39 : zeroT Tryd.prog 39 = some (.slice none 0 0) := by kernel_rfl
theorem ti_41 : tI Tryd.prog 41 = some (2, 24, true) := by kernel_rfl
theorem zt_41 : zeroT Tryd.prog 41 = some (.agg #[.string ⟨#[]⟩, .int .i64 (0)]) := by kernel_rfl
theorem ps_41 : plainStruct Tryd.prog 41 = True := ps_of (by kernel_rfl)
theorem ti_42 : tI Tryd.prog 42 = some (2, 24, true) := by kernel_rfl
theorem zt_42 : zeroT Tryd.prog 42 = some (.agg #[.string ⟨#[]⟩, .int .i64 (0)]) := by kernel_rfl
theorem ps_42 : plainStruct Tryd.prog 42 = True := ps_of (by kernel_rfl)
theorem ti_48 : tI Tryd.prog 48 = some (1, 24, false) := by kernel_rfl
theorem zt_48 : zeroT Tryd.prog 48 = some (.slice none 0 0) := by kernel_rfl
theorem ti_49 : tI Tryd.prog 49 = some (1, 24, false) := by kernel_rfl
theorem zt_49 : zeroT Tryd.prog 49 = some (.slice none 0 0) := by kernel_rfl
theorem ti_50 : tI Tryd.prog 50 = some (2, 48, true) := by kernel_rfl
theorem zt_50 : zeroT Tryd.prog 50 = some (.agg #[.slice none 0 0, .slice none 0 0]) := by kernel_rfl
theorem ps_50 : plainStruct Tryd.prog 50 = True := ps_of (by kernel_rfl)
theorem ti_51 : tI Tryd.prog 51 = some (2, 48, true) := by kernel_rfl
theorem zt_51 : zeroT Tryd.prog 51 = some (.agg #[.slice none 0 0, .slice none 0 0]) := by kernel_rfl
theorem ps_51 : plainStruct Tryd.prog 51 = True := ps_of (by kernel_rfl)
theorem ti_52 : tI Tryd.prog 52 = some (1, 0, false) := by kernel_rfl
theorem zt_52 : zeroT Tryd.prog 52 = some (.tuple #[.agg #[.slice none 0 0, .slice none 0 0], .int .i64 (0), .int .i64 (0)]) := by kernel_rfl
theorem ti_56 : tI Tryd.prog 56 = some (1, 24, false) := by kernel_rfl
theorem zt_56 : zeroT Tryd.prog 56 = some (.slice none 0 0) := by kernel_rfl
theorem ti_57 : tI Tryd.prog 57 = some (2, 40, true) := by kernel_rfl
theorem zt_57 : zeroT Tryd.prog 57 = some (.agg #[.string ⟨#[]⟩, .slice none 0 0]) := by kernel_rfl
theorem ps_57 : plainStruct Tryd.prog 57 = True := ps_of (by kernel_rfl)
theorem ti_58 : tI Tryd.prog 58 = some (2, 40, true) := by kernel_rfl
theorem zt_58 : zeroT Tryd.prog 58 = some (.agg #[.string ⟨#[]⟩, .slice none 0 0]) := by kernel_rfl
theorem ps_58 : plainStruct Tryd.prog 58 = True := ps_of (by kernel_rfl)
theorem ti_60 : tI Tryd.prog 60 = some (4, 40, true) := by kernel_rfl
theorem zt_60 : zeroT Tryd.prog 60 = some (.agg #[.int .i64 (0), .int .i64 (0), .string ⟨#[]⟩, .int .i64 (0)]) := by kernel_rfl
theorem ps_60 : plainStruct Tryd.prog 60 = True := ps_of (by kernel_rfl)
theorem ti_61 : tI Tryd.prog 61 = some (4, 40, true) := by kernel_rfl
theorem zt_61 : zeroT Tryd.prog 61 = some (.agg #[.int .i64 (0), .int .i64 (0), .string ⟨#[]⟩, .int .i64 (0)]) := by kernel_rfl
theorem ps_61 : plainStruct Tryd.prog 61 = True := ps_of (by kernel_rfl)
theorem ti_65 : tI Tryd.prog 65 = some (1, 0, false) := by kernel_rfl
theorem zt_65 : zeroT Tryd.prog 65 = some (.tuple #[.int .i64 (0), .int .i64 (0)]) := by kernel_rfl
theorem ti_67 : tI Tryd.prog 67 = some (1, 8, false) := by kernel_rfl
theorem zt_67 : zeroT Tryd.prog 67 = some (.map none) := by kernel_rfl
theorem ti_68 : tI Tryd.prog 68 = some (3, 24, true) := by kernel_rfl
theorem zt_68 : zeroT Tryd.prog 68 = some (.agg #[.map none, .int .i64 (0), .int .i64 (0)]) := by kernel_rfl
theorem ps_68 : plainStruct Tryd.prog 68 = True := ps_of (by kernel_rfl)
theorem ti_69 : tI Tryd.prog 69 = some (3, 24, true) := by kernel_rfl
theorem zt_69 : zeroT Tryd.prog 69 = some (.agg #[.map none, .int .i64 (0), .int .i64 (0)]) := by kernel_rfl
theorem ps_69 : plainStruct Tryd.prog 69 = True := ps_of (by kernel_rfl)
theorem ti_73 : tI Tryd.prog 73 = some (1, 0, false) := by kernel_rfl
theorem zt_73 : zeroT Tryd.prog 73 = some (.tuple #[.agg #[.string ⟨#[]⟩, .slice none 0 0], .bool false]) := by kernel_rfl
theorem ti_75 : tI Tryd.prog 75 = some (1, 0, false) := by kernel_rfl
theorem zt_75 : zeroT Tryd.prog 75 = some (.tuple #[.agg #[.int .i64 (0), .int .i64 (0), .string ⟨#[]⟩, .int .i64 (0)], .bool false]) := by kernel_rfl
theorem ti_77 : tI Tryd.prog 77 = some (3, 32, true) := by kernel_rfl
theorem zt_77 : zeroT Tryd.prog 77 = some (.agg #[.int .i64 (0), .int .i64 (0), .string ⟨#[]⟩]) := by kernel_rfl
theorem ps_77 : plainStruct Tryd.prog 77 = True := ps_of (by kernel_rfl)
theorem ti_78 : tI Tryd.prog 78 = some (3, 32, true) := by kernel_rfl
theorem zt_78 : zeroT Tryd.prog 78 = some (.agg #[.int .i64 (0), .int .i64 (0), .string ⟨#[]⟩]) := by kernel_rfl
theorem ps_78 : plainStruct Tryd.prog 78 = True := ps_of (by kernel_rfl)
theorem ti_79 : tI Tryd.prog 79 = some (4, 48, true) := by kernel_rfl
theorem zt_79 : zeroT Tryd.prog 79 = some (.agg #[.string ⟨#[]⟩, .int .i64 (0), .int .i64 (0), .string ⟨#[]⟩]) := by kernel_rfl
theorem ps_79 : plainStruct Tryd.prog 79 = True := ps_of (by kernel_rfl)
theorem ti_80 : tI Tryd.prog 80 = some (4, 48, true) := by kernel_rfl
theorem zt_80 : zeroT Tryd.prog 80 = some (.agg #[.string ⟨#[]⟩, .int .i64 (0), .int .i64 (0), .string ⟨#[]⟩]) := by kernel_rfl
theorem ps_80 : plainStruct Tryd.prog 80 = True := ps_of (by kernel_rfl)
theorem ti_88 : tI Tryd.prog 88 = some (1, 8, false) := by kernel_rfl
theorem zt_88 : zeroT Tryd.prog 88 = some .nilFunc := by kernel_rfl
theorem ti_91 : tI Tryd.prog 91 = some (1, 8, false) := by kernel_rfl
theorem zt_91 : zeroT Tryd.prog 91 = some (.int .u64 (0)) := by kernel_rfl
theorem ti_94 : tI Tryd.prog 94 = some (1, 0, false) := by kernel_rfl
theorem zt_94 : zeroT Tryd.prog 94 = some (.tuple #[.string ⟨#[]⟩, .string ⟨#[]⟩, .bool false]) := by kernel_rfl
theorem ti_96 : tI Tryd.prog 96 = some (1, 0, false) := by kernel_rfl
theorem zt_96 : zeroT Tryd.prog 96 = some (.tuple #[.slice none 0 0, .bool false]) := by kernel_rfl
theorem ti_98 : tI Tryd.prog 98 = some (1, 16, false) := by kernel_rfl
theorem zt_98 : zeroT Tryd.prog 98 = some .nilIface := by kernel_rfl
theorem ti_99 : tI Tryd.prog 99 = some (1, 16, false) := by kernel_rfl
theorem zt_99 : zeroT Tryd.prog 99 = some .nilIface := by kernel_rfl
theorem ti_100 : tI Tryd.prog 100 = some (1, 0, false) := by kernel_rfl
theorem zt_100 : zeroT Tryd.prog 100 = some (.tuple #[.int .i64 (0), .nilIface]) := by kernel_rfl
theorem ti_107 : tI Tryd.prog 107 = some (1, 0, false) := by kernel_rfl
theorem zt_107 : zeroT Tryd.prog 107 = some (.tuple #[.agg #[.int .i64 (0), .int .i64 (0), .string ⟨#[]⟩], .int .i64 (0), .int .i64 (0)]) := by kernel_rfl
theorem ti_109 : tI Tryd.prog 109 = some (1, 0, false) := by kernel_rfl
theorem zt_109 : zeroT Tryd.prog 109 = some (.tuple #[.string ⟨#[]⟩, .int .i64 (0)]) := by kernel_rfl
theorem ti_117 : tI Tryd.prog 117 = some (1, 8, false) := by kernel_rfl
theorem zt_117 : zeroT Tryd.prog 117 = some (.int .u64 (0)) := by kernel_rfl
theorem ti_119 : tI Tryd.prog 119 = some (1, 0, false) := by kernel_rfl
theorem zt_119 : zeroT Tryd.prog 119 = some (.tuple #[.int .i32 (0), .int .i64 (0)]) := by kernel_rfl
theorem ti_123 : tI Tryd.prog 123 = some (1, 24, false) := by kernel_rfl
theorem zt_123 : zeroT Tryd.prog 123 = some (.slice none 0 0) := by kernel_rfl
theorem ti_124 : tI Tryd.prog 124 = some (1, 8, false) := by kernel_rfl
theorem zt_124 : zeroT Tryd.prog 124 = some (.int .i64 (0)) := by kernel_rfl
theorem ti_125 : tI Tryd.prog 125 = some (1, 0, false) := by kernel_rfl
theorem zt_125 : zeroT Tryd.prog 125 = some (.tuple #[.int .i64 (0), .nilIface]) := by kernel_rfl
theorem ti_127 : tI Tryd.prog 127 = some (1, 8, false) := by kernel_rfl
theorem zt_127 : zeroT Tryd.prog 127 = some (.pointer none) := by kernel_rfl
theorem ti_130 : tI Tryd.prog 130 = some (1, 8, false) := by kernel_rfl
theorem zt_130 : zeroT Tryd.prog 130 = some (.pointer none) := by kernel_rfl
theorem ti_131 : tI Tryd.prog 131 = some (2, 32, true) := by kernel_rfl
theorem zt_131 : zeroT Tryd.prog 131 = some (.agg #[.pointer none, .slice none 0 0]) := by kernel_rfl
theorem ps_131 : plainStruct Tryd.prog 131 = True := ps_of (by kernel_rfl)
theorem ti_132 : tI Tryd.prog 132 = some (2, 32, true) := by kernel_rfl
theorem zt_132 : zeroT Tryd.prog 132 = some (.agg #[.pointer none, .slice none 0 0]) := by kernel_rfl
theorem ps_132 : plainStruct Tryd.prog 132 = True := ps_of (by kernel_rfl)
theorem ti_136 : tI Tryd.prog 136 = some (1, 8, false) := by kernel_rfl
theorem zt_136 : zeroT Tryd.prog 136 = some (.int .i64 (0)) := by kernel_rfl
theorem ti_137 : tI Tryd.prog 137 = some (1, 0, false) := by kernel_rfl
theorem zt_137 : zeroT Tryd.prog 137 = some (.tuple #[.int .i64 (0), .int .i64 (0)]) := by kernel_rfl
theorem ti_141 : tI Tryd.prog 141 = some (1, 0, false) := by kernel_rfl
theorem zt_141 : zeroT Tryd.prog 141 = some (.tuple #[.int .i64 (0), .bool false]) := by kernel_rfl
theorem ti_144 : tI Tryd.prog 144 = some (1, 4, false) := by kernel_rfl
theorem zt_144 : zeroT Tryd.prog 144 = some (.int .u32 (0)) := by kernel_rfl
theorem ti_146 : tI Tryd.prog 146 = some (24, 24, true) := by kernel_rfl
theorem zt_146 : zeroT Tryd.prog 146 = some (.agg #[.int .u8 (0), .int .u8 (0), .int .u8 (0), .int .u8 (0), .int .u8 (0), .int .u8 (0), .int .u8 (0), .int .u8 (0), .int .u8 (0), .int .u8 (0), .int .u8 (0), .int .u8 (0), .int .u8 (0), .int .u8 (0), .int .u8 (0), .int .u8 (0), .int .u8 (0), .int .u8 (0), .int .u8 (0), .int .u8 (0), .int .u8 (0), .int .u8 (0), .int .u8 (0), .int .u8 (0)]) := by kernel_rfl
theorem ti_148 : tI Tryd.prog 148 = some (1, 0, false) := by kernel_rfl
theorem zt_148 : zeroT Tryd.prog 148 = some (.tuple #[.slice none 0 0, .string ⟨#[]⟩]) := by kernel_rfl
theorem ti_151 : tI Tryd.prog 151 = some (1, 0, false) := by kernel_rfl
theorem zt_151 : zeroT Tryd.prog 151 = some (.tuple #[.int .u64 (0), .nilIface]) := by kernel_rfl
theorem ti_154 : tI Tryd.prog 154 = some (3, 48, true) := by kernel_rfl
theorem zt_154 : zeroT Tryd.prog 154 = some (.agg #[.string ⟨#[]⟩, .string ⟨#[]⟩, .nilIface]) := by kernel_rfl
theorem ti_155 : tI Tryd.prog 155 = some (3, 48, true) := by kernel_rfl
theorem zt_155 : zeroT Tryd.prog 155 = some (.agg #[.string ⟨#[]⟩, .string ⟨#[]⟩, .nilIface]) := by kernel_rfl
theorem ti_157 : tI Tryd.prog 157 = some (1, 8, false) := by kernel_rfl
theorem zt_157 : zeroT Tryd.prog 157 = some (.pointer none) := by kernel_rfl
theorem ti_158 : tI Tryd.prog 158 = some (1, 8, false) := by kernel_rfl
theorem zt_158 : zeroT Tryd.prog 158 = some (.int .u64 (0)) := by kernel_rfl
theorem ti_162 : tI Tryd.prog 162 = some (1, 8, false) := by kernel_rfl
theorem zt_162 : zeroT Tryd.prog 162 = some (.pointer none) := by kernel_rfl
theorem ti_165 : tI Tryd.prog 165 = some (20, 160, true) := by kernel_rfl
theorem zt_165 : zeroT Tryd.prog 165 = some (.agg #[.int .u64 (0), .int .u64 (0), .int .u64 (0), .int .u64 (0), .int .u64 (0), .int .u64 (0), .int .u64 (0), .int .u64 (0), .int .u64 (0), .int .u64 (0), .int .u64 (0), .int .u64 (0), .int .u64 (0), .int .u64 (0), .int .u64 (0), .int .u64 (0), .int .u64 (0), .int .u64 (0), .int .u64 (0), .int .u64 (0)]) := by kernel_rfl
theorem ti_166 : tI Tryd.prog 166 = some (65, 65, true) := by kernel_rfl
theorem zt_166 : zeroT Tryd.prog 166 = some (.agg #[.int .u8 (0), .int .u8 (0), .int .u8 (0), .int .u8 (0), .int .u8 (0), .int .u8 (0), .int .u8 (0), .int .u8 (0), .int .u8 (0), .int .u8 (0), .int .u8 (0), .int .u8 (0), .int .u8 (0), .int .u8 (0), .int .u8 (0), .int .u8 (0), .int .u8 (0), .int .u8 (0), .int .u8 (0), .int .u8 (0), .int .u8 (0), .int .u8 (0), .int .u8 (0), .int .u8 (0), .int .u8 (0), .int .u8 (0), .int .u8 (0), .int .u8 (0), .int .u8 (0), .int .u8 (0), .int .u8 (0), .int .u8 (0), .int .u8 (0), .int .u8 (0), .int .u8 (0), .int .u8 (0), .int .u8 (0), .int .u8 (0), .int .u8 (0), .int .u8 (0), .int .u8 (0), .int .u8 (0), .int .u8 (0), .int .u8 (0), .int .u8 (0), .int .u8 (0), .int .u8 (0), .int .u8 (0), .int .u8 (0), .int .u8 (0), .int .u8 (0), .int .u8 (0), .int .u8 (0), .int .u8 (0), .int .u8 (0), .int .u8 (0), .int .u8 (0), .int .u8 (0), .int .u8 (0), .int .u8 (0), .int .u8 (0), .int .u8 (0), .int .u8 (0), .int .u8 (0), .int .u8 (0)]) := by kernel_rfl
theorem ti_167 : tI Tryd.prog 167 = some (256, 256, true) := by kernel_rfl
theorem ti_168 : tI Tryd.prog 168 = some (2, 2, true) := by kernel_rfl
theorem zt_168 : zeroT Tryd.prog 168 = some (.agg #[.int .u8 (0), .int .u8 (0)]) := by kernel_rfl
theorem ps_168 : plainStruct Tryd.prog 168 = True := ps_of (by kernel_rfl)
theorem ti_169 : tI Tryd.prog 169 = some (2, 2, true) := by kernel_rfl
theorem zt_169 : zeroT Tryd.prog 169 = some (.agg #[.int .u8 (0), .int .u8 (0)]) := by kernel_rfl
theorem ps_169 : plainStruct Tryd.prog 169 = True := ps_of (by kernel_rfl)
theorem ti_170 : tI Tryd.prog 170 = some (32, 32, true) := by kernel_rfl
theorem zt_170 : zeroT Tryd.prog 170 = some (.agg #[.int .u8 (0), .int .u8 (0), .int .u8 (0), .int .u8 (0), .int .u8 (0), .int .u8 (0), .int .u8 (0), .int .u8 (0), .int .u8 (0), .int .u8 (0), .int .u8 (0), .int .u8 (0), .int .u8 (0), .int .u8 (0), .int .u8 (0), .int .u8 (0), .int .u8 (0), .int .u8 (0), .int .u8 (0), .int .u8 (0), .int .u8 (0), .int .u8 (0), .int .u8 (0), .int .u8 (0), .int .u8 (0), .int .u8 (0), .int .u8 (0), .int .u8 (0), .int .u8 (0), .int .u8 (0), .int .u8 (0), .int .u8 (0)]) := by kernel_rfl
theorem ti_171 : tI Tryd.prog 171 = some (1, 0, false) := by kernel_rfl
theorem zt_171 : zeroT Tryd.prog 171 = some (.tuple #[.int .u32 (0), .int .u32 (0)]) := by kernel_rfl
theorem ti_174 : tI Tryd.prog 174 = some (1, 8, false) := by kernel_rfl
theorem zt_174 : zeroT Tryd.prog 174 = some (.pointer none) := by kernel_rfl
theorem ti_175 : tI Tryd.prog 175 = some (1, 16, true) := by kernel_rfl
theorem zt_175 : zeroT Tryd.prog 175 = some (.agg #[.string ⟨#[]⟩]) := by kernel_rfl
theorem ps_175 : plainStruct Tryd.prog 175 = True := ps_of (by kernel_rfl)
theorem ti_176 : tI Tryd.prog 176 = some (1, 16, true) := by kernel_rfl
theorem zt_176 : zeroT Tryd.prog 176 = some (.agg #[.string ⟨#[]⟩]) := by kernel_rfl
theorem ps_176 : plainStruct Tryd.prog 176 = True := ps_of (by kernel_rfl)
theorem ti_177 : tI Tryd.prog 177 = some (1, 8, false) := by kernel_rfl
theorem zt_177 : zeroT Tryd.prog 177 = some (.pointer none) := by kernel_rfl
theorem ti_180 : tI Tryd.prog 180 = some (1, 8, false) := by kernel_rfl
theorem zt_180 : zeroT Tryd.prog 180 = some (.pointer none) := by kernel_rfl
theorem ti_181 : tI Tryd.prog 181 = some (1, 0, false) := by kernel_rfl
theorem zt_181 : zeroT Tryd.prog 181 = some (.tuple #[.int .i64 (0), .int .i64 (0)]) := by kernel_rfl
theorem ti_183 : tI Tryd.prog 183 = some (32, 32, true) := by kernel_rfl
theorem zt_183 : zeroT Tryd.prog 183 = some (.agg #[.int .u8 (0), .int .u8 (0), .int .u8 (0), .int .u8 (0), .int .u8 (0), .int .u8 (0), .int .u8 (0), .int .u8 (0), .int .u8 (0), .int .u8 (0), .int .u8 (0), .int .u8 (0), .int .u8 (0), .int .u8 (0), .int .u8 (0), .int .u8 (0), .int .u8 (0), .int .u8 (0), .int .u8 (0), .int .u8 (0), .int .u8 (0), .int .u8 (0), .int .u8 (0), .int .u8 (0), .int .u8 (0), .int .u8 (0), .int .u8 (0), .int .u8 (0), .int .u8 (0), .int .u8 (0), .int .u8 (0), .int .u8 (0)]) := by kernel_rfl
theorem ti_184 : tI Tryd.prog 184 = some (64, 64, true) := by kernel_rfl
theorem zt_184 : zeroT Tryd.prog 184 = some (.agg #[.int .u8 (0), .int .u8 (0), .int .u8 (0), .int .u8 (0), .int .u8 (0), .int .u8 (0), .int .u8 (0), .int .u8 (0), .int .u8 (0), .int .u8 (0), .int .u8 (0), .int .u8 (0), .int .u8 (0), .int .u8 (0), .int .u8 (0), .int .u8 (0), .int .u8 (0), .int .u8 (0), .int .u8 (0), .int .u8 (0), .int .u8 (0), .int .u8 (0), .int .u8 (0), .int .u8 (0), .int .u8 (0), .int .u8 (0), .int .u8 (0), .int .u8 (0), .int .u8 (0), .int .u8 (0), .int .u8 (0), .int .u8 (0), .int .u8 (0), .int .u8 (0), .int .u8 (0), .int .u8 (0), .int .u8 (0), .int .u8 (0), .int .u8 (0), .int .u8 (0), .int .u8 (0), .int .u8 (0), .int .u8 (0), .int .u8 (0), .int .u8 (0), .int .u8 (0), .int .u8 (0), .int .u8 (0), .int .u8 (0), .int .u8 (0), .int .u8 (0), .int .u8 (0), .int .u8 (0), .int .u8 (0), .int .u8 (0), .int .u8 (0), .int .u8 (0), .int .u8 (0), .int .u8 (0), .int .u8 (0), .int .u8 (0), .int .u8 (0), .int .u8 (0), .int .u8 (0)]) := by kernel_rfl
theorem ti_185 : tI Tryd.prog 185 = some (4, 40, true) := by kernel_rfl
theorem zt_185 : zeroT Tryd.prog 185 = some (.agg #[.pointer none, .pointer none, .pointer none, .string ⟨#[]⟩]) := by kernel_rfl
theorem ti_186 : tI Tryd.prog 186 = some (4, 40, true) := by kernel_rfl
theorem zt_186 : zeroT Tryd.prog 186 = some (.agg #[.pointer none, .pointer none, .pointer none, .string ⟨#[]⟩]) := by kernel_rfl
theorem ti_187 : tI Tryd.prog 187 = some (0, 0, true) := by kernel_rfl
theorem zt_187 : zeroT Tryd.prog 187 = some (.agg #[]) := by kernel_rfl
theorem ti_188 : tI Tryd.prog 188 = some (0, 0, true) := by kernel_rfl
theorem zt_188 : zeroT Tryd.prog 188 = some (.agg #[]) := by kernel_rfl
theorem ti_189 : tI Tryd.prog 189 = some (0, 0, true) := by kernel_rfl
theorem zt_189 : zeroT Tryd.prog 189 = some (.agg #[]) := by kernel_rfl
theorem ti_190 : tI Tryd.prog 190 = some (1, 1, false) := by kernel_rfl
theorem zt_190 : zeroT Tryd.prog 190 = some (.int .u8 (0)) := by kernel_rfl
theorem ti_191 : tI Tryd.prog 191 = some (1, 1, false) := by kernel_rfl
theorem zt_191 : zeroT Tryd.prog 191 = some (.int .u8 (0)) := by kernel_rfl
theorem ti_193 : tI Tryd.prog 193 = some (1, 4, false) := by kernel_rfl
theorem zt_193 : zeroT Tryd.prog 193 = some (.int .i32 (0)) := by kernel_rfl
theorem ti_194 : tI Tryd.prog 194 = some (1, 4, false) := by kernel_rfl
theorem zt_194 : zeroT Tryd.prog 194 = some (.int .i32 (0)) := by kernel_rfl
theorem ti_195 : tI Tryd.prog 195 = some (11, 48, true) := by kernel_rfl
theorem zt_195 : zeroT Tryd.prog 195 = some (.agg #[.int .u64 (0), .int .u64 (0), .int .u32 (0), .int .u8 (0), .int .u8 (0), .int .u8 (0), .int .u8 (0), .nilFunc, .pointer none, .int .i32 (0), .int .i32 (0)]) := by kernel_rfl
theorem ti_196 : tI Tryd.prog 196 = some (11, 48, true) := by kernel_rfl
theorem zt_196 : zeroT Tryd.prog 196 = some (.agg #[.int .u64 (0), .int .u64 (0), .int .u32 (0), .int .u8 (0), .int .u8 (0), .int .u8 (0), .int .u8 (0), .nilFunc, .pointer none, .int .i32 (0), .int .i32 (0)]) := by kernel_rfl
attribute [go_sem] ti_0 zt_0 ti_2 zt_2 ti_3 zt_3 ti_4 zt_4 ti_5 zt_5 ti_6 zt_6 ti_7 zt_7 ps_7 ti_8 zt_8 ps_8 ti_9 zt_9 ti_10 zt_10 ti_11 zt_11 ti_12 zt_12 ti_13 zt_13 ti_14 zt_14 ti_15 zt_15 ti_16 zt_16 ti_17 zt_17 ti_18 zt_18 ti_19 zt_19 ti_20 zt_20 ti_21 zt_21 ti_22 zt_22 ti_23 zt_23 ti_24 zt_24 ti_25 zt_25 ti_28 zt_28 ti_29 zt_29 ti_30 zt_30 ps_30 ti_31 zt_31 ps_31 ti_33 zt_33 ps_33 ti_34 zt_34 ps_34 ti_39 zt_39 ti_41 zt_41 ps_41 ti_42 zt_42 ps_42 ti_48 zt_48 ti_49 zt_49 ti_50 zt_50 ps_50 ti_51 zt_51 ps_51 ti_52 zt_52 ti_56 zt_56 ti_57 zt_57 ps_57 ti_58 zt_58 ps_58 ti_60 zt_60 ps_60 ti_61 zt_61 ps_61 ti_65 zt_65 ti_67 zt_67 ti_68 zt_68 ps_68 ti_69 zt_69 ps_69 ti_73 zt_73 ti_75 zt_75 ti_77 zt_77 ps_77 ti_78 zt_78 ps_78 ti_79 zt_79 ps_79 ti_80 zt_80 ps_80 ti_88 zt_88 ti_91 zt_91 ti_94 zt_94 ti_96 zt_96 ti_98 zt_98 ti_99 zt_99 ti_100 zt_100 ti_107 zt_107 ti_109 zt_109 ti_117 zt_117 ti_119 zt_119 ti_123 zt_123 ti_124 zt_124 ti_125 zt_125 ti_127 zt_127 ti_130 zt_130 ti_131 zt_131 ps_131 ti_132 zt_132 ps_132 ti_136 zt_136 ti_137 zt_137 ti_141 zt_141 ti_144 zt_144 ti_146 zt_146 ti_148 zt_148 ti_151 zt_151 ti_154 zt_154 ti_155 zt_155 ti_157 zt_157 ti_158 zt_158 ti_162 zt_162 ti_165 zt_165 ti_166 zt_166 ti_167 ti_168 zt_168 ps_168 ti_169 zt_169 ps_169 ti_170 zt_170 ti_171 zt_171 ti_174 zt_174 ti_175 zt_175 ps_175 ti_176 zt_176 ps_176 ti_177 zt_177 ti_180 zt_180 ti_181 zt_181 ti_183 zt_183 ti_184 zt_184 ti_185 zt_185 ti_186 zt_186 ti_187 zt_187 ti_188 zt_188 ti_189 zt_189 ti_190 zt_190 ti_191 zt_191 ti_193 zt_193 ti_194 zt_194 ti_195 zt_195 ti_196 zt_196
attribute [go_sem] Tryd.underlying0 Tryd.underlying1 Tryd.underlying2 Tryd.underlying3 Tryd.underlying4 Tryd.underlying5 Tryd.underlying6 Tryd.underlying7 Tryd.underlying8 Tryd.underlying9 Tryd.underlying10 Tryd.underlying11 Tryd.underlying12 Tryd.underlying13 Tryd.underlying14 Tryd.underlying15 Tryd.underlying16 Tryd.underlying17 Tryd.underlying18 Tryd.underlying19 Tryd.underlying20 Tryd.underlying21 Tryd.underlying22 Tryd.underlying23 Tryd.underlying24 Tryd.underlying25 Tryd.underlying26 Tryd.underlying27 Tryd.underlying28 Tryd.underlying29 Tryd.underlying30 Tryd.underlying31 Tryd.underlying32 Tryd.underlying33 Tryd.underlying34 Tryd.underlying35 Tryd.underlying36 Tryd.underlying37 Tryd.underlying38 Tryd.underlying39 Tryd.underlying40 Tryd.underlying41 Tryd.underlying42 Tryd.underlying43 Tryd.underlying44 Tryd.underlying45 Tryd.underlying46 Tryd.underlying47 Tryd.underlying48 Tryd.underlying49 Tryd.underlying50 Tryd.underlying51 Tryd.underlying52 Tryd.underlying53 Tryd.underlying54 Tryd.underlying55 Tryd.underlying56 Tryd.underlying57 Tryd.underlying58 Tryd.underlying59 Tryd.underlying60 Tryd.underlying61 Tryd.underlying62 Tryd.underlying63 Tryd.underlying64 Tryd.underlying65 Tryd.underlying66 Tryd.underlying67 Tryd.underlying68 Tryd.underlying69 Tryd.underlying70 Tryd.underlying71 Tryd.underlying72 Tryd.underlying73 Tryd.underlying74 Tryd.underlying75 Tryd.underlying76 Tryd.underlying77 Tryd.underlying78 Tryd.underlying79 Tryd.underlying80 Tryd.underlying81 Tryd.underlying82 Tryd.underlying83 Tryd.underlying84 Tryd.underlying85 Tryd.underlying86 Tryd.underlying87 Tryd.underlying88 Tryd.underlying89 Tryd.underlying90 Tryd.underlying91 Tryd.underlying92 Tryd.underlying93 Tryd.underlying94 Tryd.underlying95 Tryd.underlying96 Tryd.underlying97 Tryd.underlying98 Tryd.underlying99 Tryd.underlying100 Tryd.underlying101 Tryd.underlying102 Tryd.underlying103 Tryd.underlying104 Tryd.underlying105 Tryd.underlying106 Tryd.underlying107 Tryd.underlying108 Tryd.underlying109 Tryd.underlying110 Tryd.underlying111 Tryd.underlying112 Tryd.underlying113 Tryd.underlying114 Tryd.underlying115 Tryd.underlying116 Tryd.underlying117 Tryd.underlying118 Tryd.underlying119 Tryd.underlying120 Tryd.underlying121 Tryd.underlying122 Tryd.underlying123 Tryd.underlying124 Tryd.underlying125 Tryd.underlying126 Tryd.underlying127 Tryd.underlying128 Tryd.underlying129 Tryd.underlying130 Tryd.underlying131 Tryd.underlying132 Tryd.underlying133 Tryd.underlying134 Tryd.underlying135 Tryd.underlying136 Tryd.underlying137 Tryd.underlying138 Tryd.underlying139 Tryd.underlying140 Tryd.underlying141 Tryd.underlying142 Tryd.underlying143 Tryd.underlying144 Tryd.underlying145 Tryd.underlying146 Tryd.underlying147 Tryd.underlying148 Tryd.underlying149 Tryd.underlying150 Tryd.underlying151 Tryd.underlying152 Tryd.underlying153 Tryd.underlying154 Tryd.underlying155 Tryd.underlying156 Tryd.underlying157 Tryd.underlying158 Tryd.underlying159 Tryd.underlying160 Tryd.underlying161 Tryd.underlying162 Tryd.underlying163 Tryd.underlying164 Tryd.underlying165 Tryd.underlying166 Tryd.underlying167 Tryd.underlying168 Tryd.underlying169 Tryd.underlying170 Tryd.underlying171 Tryd.underlying172 Tryd.underlying173 Tryd.underlying174 Tryd.underlying175 Tryd.underlying176 Tryd.underlying177 Tryd.underlying178 Tryd.underlying179 Tryd.underlying180 Tryd.underlying181 Tryd.underlying182 Tryd.underlying183 Tryd.underlying184 Tryd.underlying185 Tryd.underlying186 Tryd.underlying187 Tryd.underlying188 Tryd.underlying189 Tryd.underlying190 Tryd.underlying191 Tryd.underlying192 Tryd.underlying193 Tryd.underlying194 Tryd.underlying195 Tryd.underlying196
end Go.Proofs.YtnlodeadhnonpaaDoor.D
