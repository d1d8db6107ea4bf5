/- Of each type of the program how many cells and bytes it has (ti), and its zero value (zt). Conditions: none. -/
import Derived.Test.YtfmhfpbdhfdopaaGreatDoorDTac
import Derived.Test.YtfmhfpbdhfdopaaGreatDoorChecked
import Derived.KernelRfl
namespace Go.Proofs.YtfmhfpbdhfdopaaGreatDoor.D
theorem mixed : Tryz.prog.follows .mixedOrders = true := by kernel_rfl
theorem ti_0 : tI Tryz.prog 0 = some (1, 0, false) := by kernel_rfl
theorem zt_0 : zeroT Tryz.prog 0 = some (.tuple #[]) := by kernel_rfl
theorem ti_2 : tI Tryz.prog 2 = some (1, 8, false) := by kernel_rfl
theorem zt_2 : zeroT Tryz.prog 2 = some (.int .i64 (0)) := by kernel_rfl
theorem ti_3 : tI Tryz.prog 3 = some (1, 8, false) := by kernel_rfl
theorem zt_3 : zeroT Tryz.prog 3 = some (.int .i64 (0)) := by kernel_rfl
theorem ti_4 : tI Tryz.prog 4 = some (1, 1, false) := by kernel_rfl
theorem zt_4 : zeroT Tryz.prog 4 = some (.bool false) := by kernel_rfl
theorem ti_5 : tI Tryz.prog 5 = some (1, 1, false) := by kernel_rfl
theorem zt_5 : zeroT Tryz.prog 5 = some (.int .u8 (0)) := by kernel_rfl
theorem ti_6 : tI Tryz.prog 6 = some (1, 1, false) := by kernel_rfl
theorem zt_6 : zeroT Tryz.prog 6 = some (.int .u8 (0)) := by kernel_rfl
theorem ti_7 : tI Tryz.prog 7 = some (4, 24, true) := by kernel_rfl
theorem zt_7 : zeroT Tryz.prog 7 = some (.agg #[.int .i64 (0), .int .i64 (0), .bool false, .int .u8 (0)]) := by kernel_rfl
theorem ps_7 : plainStruct Tryz.prog 7 = True := ps_of (by kernel_rfl)
theorem ti_8 : tI Tryz.prog 8 = some (4, 24, true) := by kernel_rfl
theorem zt_8 : zeroT Tryz.prog 8 = some (.agg #[.int .i64 (0), .int .i64 (0), .bool false, .int .u8 (0)]) := by kernel_rfl
theorem ps_8 : plainStruct Tryz.prog 8 = True := ps_of (by kernel_rfl)
theorem ti_9 : tI Tryz.prog 9 = some (1, 16, false) := by kernel_rfl
theorem zt_9 : zeroT Tryz.prog 9 = some (.string ⟨#[]⟩) := by kernel_rfl
theorem ti_10 : tI Tryz.prog 10 = some (1, 16, false) := by kernel_rfl
theorem zt_10 : zeroT Tryz.prog 10 = some (.string ⟨#[]⟩) := by kernel_rfl
theorem ti_11 : tI Tryz.prog 11 = some (1, 16, false) := by kernel_rfl
theorem zt_11 : zeroT Tryz.prog 11 = some (.string ⟨#[]⟩) := by kernel_rfl
theorem ti_12 : tI Tryz.prog 12 = some (1, 8, false) := by kernel_rfl
theorem zt_12 : zeroT Tryz.prog 12 = some (.int .u64 (0)) := by kernel_rfl
theorem ti_13 : tI Tryz.prog 13 = some (2, 24, true) := by kernel_rfl
theorem zt_13 : zeroT Tryz.prog 13 = some (.agg #[.string ⟨#[]⟩, .int .u64 (0)]) := by kernel_rfl
theorem ti_14 : tI Tryz.prog 14 = some (2, 24, true) := by kernel_rfl
theorem zt_14 : zeroT Tryz.prog 14 = some (.agg #[.string ⟨#[]⟩, .int .u64 (0)]) := by kernel_rfl
theorem ti_15 : tI Tryz.prog 15 = some (1, 8, false) := by kernel_rfl
theorem zt_15 : zeroT Tryz.prog 15 = some (.pointer none) := by kernel_rfl
theorem ti_16 : tI Tryz.prog 16 = some (1, 8, false) := by kernel_rfl
theorem zt_16 : zeroT Tryz.prog 16 = some (.pointer none) := by kernel_rfl
theorem ti_17 : tI Tryz.prog 17 = some (1, 8, false) := by kernel_rfl
theorem zt_17 : zeroT Tryz.prog 17 = some (.pointer none) := by kernel_rfl
theorem ti_18 : tI Tryz.prog 18 = some (1, 8, true) := by kernel_rfl
theorem zt_18 : zeroT Tryz.prog 18 = some (.agg #[.pointer none]) := by kernel_rfl
theorem ti_19 : tI Tryz.prog 19 = some (1, 8, true) := by kernel_rfl
theorem zt_19 : zeroT Tryz.prog 19 = some (.agg #[.pointer none]) := by kernel_rfl
theorem ti_20 : tI Tryz.prog 20 = some (1, 16, false) := by kernel_rfl
theorem zt_20 : zeroT Tryz.prog 20 = some .nilIface := by kernel_rfl
theorem ti_21 : tI Tryz.prog 21 = some (1, 4, false) := by kernel_rfl
theorem zt_21 : zeroT Tryz.prog 21 = some (.int .i32 (0)) := by kernel_rfl
theorem ti_22 : tI Tryz.prog 22 = some (1, 8, false) := by kernel_rfl
theorem zt_22 : zeroT Tryz.prog 22 = some (.int .u64 (0)) := by kernel_rfl
theorem ti_23 : tI Tryz.prog 23 = some (1, 24, false) := by kernel_rfl
theorem zt_23 : zeroT Tryz.prog 23 = some (.slice none 0 0) := by kernel_rfl
theorem ti_24 : tI Tryz.prog 24 = some (1, 8, false) := by kernel_rfl
theorem zt_24 : zeroT Tryz.prog 24 = some (.pointer none) := by kernel_rfl
theorem ti_25 : tI Tryz.prog 25 = some (1, 0, false) := by kernel_rfl
theorem zt_25 : zeroT Tryz.prog 25 = some (.tuple #[.slice none 0 0, .bool false]) := by kernel_rfl
theorem ti_27 : tI Tryz.prog 27 = some (1, 0, false) := by kernel_rfl
theorem zt_27 : zeroT Tryz.prog 27 = some (.tuple #[.int .u64 (0), .bool false]) := by kernel_rfl
theorem ti_32 : tI Tryz.prog 32 = some (1, 24, false) := by kernel_rfl
theorem zt_32 : zeroT Tryz.prog 32 = some (.slice none 0 0) := by kernel_rfl
theorem ti_36 : tI Tryz.prog 36 = some (3, 24, true) := by kernel_rfl
theorem zt_36 : zeroT Tryz.prog 36 = some (.agg #[.int .i64 (0), .int .i64 (0), .int .i64 (0)]) := by kernel_rfl
theorem ps_36 : plainStruct Tryz.prog 36 = True := ps_of (by kernel_rfl)
theorem ti_37 : tI Tryz.prog 37 = some (3, 24, true) := by kernel_rfl
theorem zt_37 : zeroT Tryz.prog 37 = some (.agg #[.int .i64 (0), .int .i64 (0), .int .i64 (0)]) := by kernel_rfl
theorem ps_37 : plainStruct Tryz.prog 37 = True := ps_of (by kernel_rfl)
theorem ti_38 : tI Tryz.prog 38 = some (1, 0, false) := by kernel_rfl
theorem zt_38 : zeroT Tryz.prog 38 = some (.tuple #[.agg #[.int .i64 (0), .int .i64 (0), .int .i64 (0)], .int .u64 (0)]) := by kernel_rfl
theorem ti_40 : tI Tryz.prog 40 = some (1, 16, false) := by kernel_rfl
theorem zt_40 : zeroT Tryz.prog 40 = some .nilIface := by kernel_rfl
theorem ti_41 : tI Tryz.prog 41 = some (1, 16, false) := by kernel_rfl
theorem zt_41 : zeroT Tryz.prog 41 = some .nilIface := by kernel_rfl
theorem ti_42 : tI Tryz.prog 42 = some (1, 16, true) := by kernel_rfl
theorem zt_42 : zeroT Tryz.prog 42 = some (.agg #[.nilIface]) := by kernel_rfl
theorem ti_43 : tI Tryz.prog 43 = some (1, 16, true) := by kernel_rfl
theorem zt_43 : zeroT Tryz.prog 43 = some (.agg #[.nilIface]) := by kernel_rfl
theorem ti_45 : tI Tryz.prog 45 = some (1, 24, false) := by kernel_rfl
theorem zt_45 : zeroT Tryz.prog 45 = some (.slice none 0 0) := by kernel_rfl
theorem ti_47 : tI Tryz.prog 47 = some (2, 16, true) := by kernel_rfl
theorem zt_47 : zeroT Tryz.prog 47 = some (.agg #[.int .i64 (0), .bool false]) := by kernel_rfl
theorem ps_47 : plainStruct Tryz.prog 47 = True := ps_of (by kernel_rfl)
theorem ti_48 : tI Tryz.prog 48 = some (2, 16, true) := by kernel_rfl
theorem zt_48 : zeroT Tryz.prog 48 = some (.agg #[.int .i64 (0), .bool false]) := by kernel_rfl
theorem ps_48 : plainStruct Tryz.prog 48 = True := ps_of (by kernel_rfl)
theorem ti_49 : tI Tryz.prog 49 = some (6, 48, true) := by kernel_rfl
theorem zt_49 : zeroT Tryz.prog 49 = some (.agg #[.int .i64 (0), .bool false, .int .i64 (0), .int .i64 (0), .int .i64 (0), .int .u64 (0)]) := by kernel_rfl
theorem ps_49 : plainStruct Tryz.prog 49 = True := ps_of (by kernel_rfl)
theorem ti_50 : tI Tryz.prog 50 = some (6, 48, true) := by kernel_rfl
theorem zt_50 : zeroT Tryz.prog 50 = some (.agg #[.int .i64 (0), .bool false, .int .i64 (0), .int .i64 (0), .int .i64 (0), .int .u64 (0)]) := by kernel_rfl
theorem ps_50 : plainStruct Tryz.prog 50 = True := ps_of (by kernel_rfl)
theorem ti_54 : tI Tryz.prog 54 = some (1, 24, false) := by kernel_rfl
theorem zt_54 : zeroT Tryz.prog 54 = some (.slice none 0 0) := by kernel_rfl
theorem ti_55 : tI Tryz.prog 55 = some (1, 0, false) := by kernel_rfl
theorem zt_55 : zeroT Tryz.prog 55 = some (.tuple #[.slice none 0 0, .agg #[.int .i64 (0), .int .i64 (0), .int .i64 (0)], .bool false]) := by kernel_rfl
theorem ti_58 : tI Tryz.prog 58 = some (10, 80, true) := by kernel_rfl
theorem zt_58 : zeroT Tryz.prog 58 = some (.agg #[.int .i64 (0), .int .i64 (0), .int .i64 (0), .int .i64 (0), .bool false, .int .i64 (0), .int .i64 (0), .int .i64 (0), .int .u64 (0), .bool false]) := by kernel_rfl
theorem ps_58 : plainStruct Tryz.prog 58 = True := ps_of (by kernel_rfl)
theorem ti_59 : tI Tryz.prog 59 = some (10, 80, true) := by kernel_rfl
theorem zt_59 : zeroT Tryz.prog 59 = some (.agg #[.int .i64 (0), .int .i64 (0), .int .i64 (0), .int .i64 (0), .bool false, .int .i64 (0), .int .i64 (0), .int .i64 (0), .int .u64 (0), .bool false]) := by kernel_rfl
theorem ps_59 : plainStruct Tryz.prog 59 = True := ps_of (by kernel_rfl)
theorem ti_60 : tI Tryz.prog 60 = some (1, 24, false) := by kernel_rfl
theorem zt_60 : zeroT Tryz.prog 60 = some (.slice none 0 0) := by kernel_rfl
theorem ti_61 : tI Tryz.prog 61 = some (1, 24, false) := by kernel_rfl
theorem zt_61 : zeroT Tryz.prog 61 = some (.slice none 0 0) := by kernel_rfl
theorem ti_62 : tI Tryz.prog 62 = some (2, 48, true) := by kernel_rfl
theorem zt_62 : zeroT Tryz.prog 62 = some (.agg #[.slice none 0 0, .slice none 0 0]) := by kernel_rfl
theorem ps_62 : plainStruct Tryz.prog 62 = True := ps_of (by kernel_rfl)
theorem ti_63 : tI Tryz.prog 63 = some (2, 48, true) := by kernel_rfl
theorem zt_63 : zeroT Tryz.prog 63 = some (.agg #[.slice none 0 0, .slice none 0 0]) := by kernel_rfl
theorem ps_63 : plainStruct Tryz.prog 63 = True := ps_of (by kernel_rfl)
theorem ti_65 : tI Tryz.prog 65 = some (1, 8, false) := by kernel_rfl
theorem zt_65 : zeroT Tryz.prog 65 = some (.pointer none) := by kernel_rfl
theorem ti_66 : tI Tryz.prog 66 = some (1, 8, false) := by kernel_rfl
theorem zt_66 : zeroT Tryz.prog 66 = some (.int .i64 (0)) := by kernel_rfl
theorem ti_67 : tI Tryz.prog 67 = some (1, 0, false) := by kernel_rfl
theorem zt_67 : zeroT Tryz.prog 67 = some (.tuple #[.pointer none, .int .i64 (0)]) := by kernel_rfl
theorem ti_69 : tI Tryz.prog 69 = some (1, 0, false) := by kernel_rfl
theorem zt_69 : zeroT Tryz.prog 69 = some (.tuple #[.pointer none, .int .i64 (0)]) := by kernel_rfl
theorem ti_71 : tI Tryz.prog 71 = some (2, 24, true) := by kernel_rfl
theorem zt_71 : zeroT Tryz.prog 71 = some (.agg #[.string ⟨#[]⟩, .bool false]) := by kernel_rfl
theorem ps_71 : plainStruct Tryz.prog 71 = True := ps_of (by kernel_rfl)
theorem ti_72 : tI Tryz.prog 72 = some (2, 24, true) := by kernel_rfl
theorem zt_72 : zeroT Tryz.prog 72 = some (.agg #[.string ⟨#[]⟩, .bool false]) := by kernel_rfl
theorem ps_72 : plainStruct Tryz.prog 72 = True := ps_of (by kernel_rfl)
theorem ti_73 : tI Tryz.prog 73 = some (1, 24, false) := by kernel_rfl
theorem zt_73 : zeroT Tryz.prog 73 = some (.slice none 0 0) := by kernel_rfl
theorem ti_74 : tI Tryz.prog 74 = some (4, 56, true) := by kernel_rfl
theorem zt_74 : zeroT Tryz.prog 74 = some (.agg #[.int .i64 (0), .string ⟨#[]⟩, .bool false, .slice none 0 0]) := by kernel_rfl
theorem ps_74 : plainStruct Tryz.prog 74 = True := ps_of (by kernel_rfl)
theorem ti_75 : tI Tryz.prog 75 = some (4, 56, true) := by kernel_rfl
theorem zt_75 : zeroT Tryz.prog 75 = some (.agg #[.int .i64 (0), .string ⟨#[]⟩, .bool false, .slice none 0 0]) := by kernel_rfl
theorem ps_75 : plainStruct Tryz.prog 75 = True := ps_of (by kernel_rfl)
theorem ti_77 : tI Tryz.prog 77 = some (9, 120, true) := by kernel_rfl
theorem zt_77 : zeroT Tryz.prog 77 = some (.agg #[.string ⟨#[]⟩, .string ⟨#[]⟩, .int .i64 (0), .string ⟨#[]⟩, .bool false, .slice none 0 0, .string ⟨#[]⟩, .int .i64 (0), .bool false]) := by kernel_rfl
theorem ps_77 : plainStruct Tryz.prog 77 = True := ps_of (by kernel_rfl)
theorem ti_78 : tI Tryz.prog 78 = some (9, 120, true) := by kernel_rfl
theorem zt_78 : zeroT Tryz.prog 78 = some (.agg #[.string ⟨#[]⟩, .string ⟨#[]⟩, .int .i64 (0), .string ⟨#[]⟩, .bool false, .slice none 0 0, .string ⟨#[]⟩, .int .i64 (0), .bool false]) := by kernel_rfl
theorem ps_78 : plainStruct Tryz.prog 78 = True := ps_of (by kernel_rfl)
theorem ti_80 : tI Tryz.prog 80 = some (1, 0, false) := by kernel_rfl
theorem zt_80 : zeroT Tryz.prog 80 = some (.tuple #[.agg #[.int .i64 (0), .int .i64 (0), .int .i64 (0)], .bool false]) := by kernel_rfl
theorem ti_83 : tI Tryz.prog 83 = some (1, 24, false) := by kernel_rfl
theorem zt_83 : zeroT Tryz.prog 83 = some (.slice none 0 0) := by kernel_rfl
theorem ti_84 : tI Tryz.prog 84 = some (2, 40, true) := by kernel_rfl
theorem zt_84 : zeroT Tryz.prog 84 = some (.agg #[.string ⟨#[]⟩, .slice none 0 0]) := by kernel_rfl
theorem ps_84 : plainStruct Tryz.prog 84 = True := ps_of (by kernel_rfl)
theorem ti_85 : tI Tryz.prog 85 = some (2, 40, true) := by kernel_rfl
theorem zt_85 : zeroT Tryz.prog 85 = some (.agg #[.string ⟨#[]⟩, .slice none 0 0]) := by kernel_rfl
theorem ps_85 : plainStruct Tryz.prog 85 = True := ps_of (by kernel_rfl)
theorem ti_86 : tI Tryz.prog 86 = some (4, 40, true) := by kernel_rfl
theorem zt_86 : zeroT Tryz.prog 86 = some (.agg #[.int .i64 (0), .int .i64 (0), .string ⟨#[]⟩, .int .i64 (0)]) := by kernel_rfl
theorem ps_86 : plainStruct Tryz.prog 86 = True := ps_of (by kernel_rfl)
theorem ti_87 : tI Tryz.prog 87 = some (4, 40, true) := by kernel_rfl
theorem zt_87 : zeroT Tryz.prog 87 = some (.agg #[.int .i64 (0), .int .i64 (0), .string ⟨#[]⟩, .int .i64 (0)]) := by kernel_rfl
theorem ps_87 : plainStruct Tryz.prog 87 = True := ps_of (by kernel_rfl)
theorem ti_88 : tI Tryz.prog 88 = some (1, 0, false) := by kernel_rfl
theorem zt_88 : zeroT Tryz.prog 88 = some (.tuple #[.int .i64 (0), .int .i64 (0)]) := by kernel_rfl
theorem ti_90 : tI Tryz.prog 90 = some (1, 24, false) := by kernel_rfl
theorem zt_90 : zeroT Tryz.prog 90 = some (.slice none 0 0) := by kernel_rfl
theorem ti_92 : tI Tryz.prog 92 = some (1, 24, false) := by kernel_rfl
theorem zt_92 : zeroT Tryz.prog 92 = some (.slice none 0 0) := by kernel_rfl
theorem ti_93 : tI Tryz.prog 93 = some (1, 24, false) := by kernel_rfl
theorem zt_93 : zeroT Tryz.prog 93 = some (.slice none 0 0) := by kernel_rfl
theorem ti_94 : tI Tryz.prog 94 = some (2, 48, true) := by kernel_rfl
theorem zt_94 : zeroT Tryz.prog 94 = some (.agg #[.slice none 0 0, .slice none 0 0]) := by kernel_rfl
theorem ps_94 : plainStruct Tryz.prog 94 = True := ps_of (by kernel_rfl)
theorem ti_95 : tI Tryz.prog 95 = some (2, 48, true) := by kernel_rfl
theorem zt_95 : zeroT Tryz.prog 95 = some (.agg #[.slice none 0 0, .slice none 0 0]) := by kernel_rfl
theorem ps_95 : plainStruct Tryz.prog 95 = True := ps_of (by kernel_rfl)
theorem ti_96 : tI Tryz.prog 96 = some (4, 96, true) := by kernel_rfl
theorem zt_96 : zeroT Tryz.prog 96 = some (.agg #[.slice none 0 0, .slice none 0 0, .slice none 0 0, .slice none 0 0]) := by kernel_rfl
theorem ti_97 : tI Tryz.prog 97 = some (1, 24, false) := by kernel_rfl
theorem zt_97 : zeroT Tryz.prog 97 = some (.slice none 0 0) := by kernel_rfl
theorem ti_98 : tI Tryz.prog 98 = some (7, 152, true) := by kernel_rfl
theorem zt_98 : zeroT Tryz.prog 98 = some (.agg #[.int .i64 (0), .slice none 0 0, .slice none 0 0, .slice none 0 0, .slice none 0 0, .slice none 0 0, .slice none 0 0]) := by kernel_rfl
theorem ps_98 : plainStruct Tryz.prog 98 = True := ps_of (by kernel_rfl)
theorem ti_99 : tI Tryz.prog 99 = some (7, 152, true) := by kernel_rfl
theorem zt_99 : zeroT Tryz.prog 99 = some (.agg #[.int .i64 (0), .slice none 0 0, .slice none 0 0, .slice none 0 0, .slice none 0 0, .slice none 0 0, .slice none 0 0]) := by kernel_rfl
theorem ps_99 : plainStruct Tryz.prog 99 = True := ps_of (by kernel_rfl)
theorem ti_100 : tI Tryz.prog 100 = some (1, 0, false) := by kernel_rfl
theorem zt_100 : zeroT Tryz.prog 100 = some (.tuple #[.int .i64 (0), .bool false]) := by kernel_rfl
theorem ti_102 : tI Tryz.prog 102 = some (4, 32, true) := by kernel_rfl
theorem zt_102 : zeroT Tryz.prog 102 = some (.agg #[.int .i64 (0), .int .i64 (0), .int .i64 (0), .int .i64 (0)]) := by kernel_rfl
theorem ps_102 : plainStruct Tryz.prog 102 = True := ps_of (by kernel_rfl)
theorem ti_103 : tI Tryz.prog 103 = some (4, 32, true) := by kernel_rfl
theorem zt_103 : zeroT Tryz.prog 103 = some (.agg #[.int .i64 (0), .int .i64 (0), .int .i64 (0), .int .i64 (0)]) := by kernel_rfl
theorem ps_103 : plainStruct Tryz.prog 103 = True := ps_of (by kernel_rfl)
theorem ti_104 : tI Tryz.prog 104 = some (2, 16, true) := by kernel_rfl
theorem zt_104 : zeroT Tryz.prog 104 = some (.agg #[.int .i64 (0), .int .i64 (0)]) := by kernel_rfl
theorem ti_106 : tI Tryz.prog 106 = some (1, 24, false) := by kernel_rfl
theorem zt_106 : zeroT Tryz.prog 106 = some (.slice none 0 0) := by kernel_rfl
theorem ti_107 : tI Tryz.prog 107 = some (1, 24, false) := by kernel_rfl
theorem zt_107 : zeroT Tryz.prog 107 = some (.slice none 0 0) := by kernel_rfl
theorem ti_108 : tI Tryz.prog 108 = some (1, 24, false) := by kernel_rfl
theorem zt_108 : zeroT Tryz.prog 108 = some (.slice none 0 0) := by kernel_rfl
theorem ti_109 : tI Tryz.prog 109 = some (3, 72, true) := by kernel_rfl
theorem zt_109 : zeroT Tryz.prog 109 = some (.agg #[.slice none 0 0, .slice none 0 0, .slice none 0 0]) := by kernel_rfl
theorem ps_109 : plainStruct Tryz.prog 109 = True := ps_of (by kernel_rfl)
theorem ti_110 : tI Tryz.prog 110 = some (3, 72, true) := by kernel_rfl
theorem zt_110 : zeroT Tryz.prog 110 = some (.agg #[.slice none 0 0, .slice none 0 0, .slice none 0 0]) := by kernel_rfl
theorem ps_110 : plainStruct Tryz.prog 110 = True := ps_of (by kernel_rfl)
theorem ti_111 : tI Tryz.prog 111 = some (1, 0, false) := by kernel_rfl
theorem zt_111 : zeroT Tryz.prog 111 = some (.tuple #[.agg #[.slice none 0 0, .slice none 0 0, .slice none 0 0], .int .i64 (0)]) := by kernel_rfl
theorem ti_114 : tI Tryz.prog 114 = some (1, 8, false) := by kernel_rfl
theorem zt_114 : zeroT Tryz.prog 114 = some (.pointer none) := by kernel_rfl
theorem ti_115 : tI Tryz.prog 115 = some (1, 0, false) := by kernel_rfl
theorem zt_115 : zeroT Tryz.prog 115 = some (.tuple #[.pointer none, .int .i64 (0)]) := by kernel_rfl
theorem ti_117 : tI Tryz.prog 117 = some (1, 8, false) := by kernel_rfl
theorem zt_117 : zeroT Tryz.prog 117 = some (.pointer none) := by kernel_rfl
theorem ti_118 : tI Tryz.prog 118 = some (1, 0, false) := by kernel_rfl
theorem zt_118 : zeroT Tryz.prog 118 = some (.tuple #[.pointer none, .int .i64 (0)]) := by kernel_rfl
theorem ti_122 : tI Tryz.prog 122 = some (1, 8, false) := by kernel_rfl
theorem zt_122 : zeroT Tryz.prog 122 = some (.map none) := by kernel_rfl
theorem ti_124 : tI Tryz.prog 124 = some (1, 8, false) := by kernel_rfl
theorem zt_124 : zeroT Tryz.prog 124 = some (.int .u64 (0)) := by kernel_rfl
theorem ti_129 : tI Tryz.prog 129 = some (1, 0, false) := by kernel_rfl
theorem zt_129 : zeroT Tryz.prog 129 = some (.tuple #[.slice none 0 0, .int .i64 (0)]) := by kernel_rfl
theorem ti_134 : tI Tryz.prog 134 = some (1, 8, false) := by kernel_rfl
theorem zt_134 : zeroT Tryz.prog 134 = some (.map none) := by kernel_rfl
theorem ti_135 : tI Tryz.prog 135 = some (6, 96, true) := by kernel_rfl
theorem zt_135 : zeroT Tryz.prog 135 = some (.agg #[.pointer none, .slice none 0 0, .slice none 0 0, .slice none 0 0, .int .i64 (0), .map none]) := by kernel_rfl
theorem ps_135 : plainStruct Tryz.prog 135 = True := ps_of (by kernel_rfl)
theorem ti_136 : tI Tryz.prog 136 = some (6, 96, true) := by kernel_rfl
theorem zt_136 : zeroT Tryz.prog 136 = some (.agg #[.pointer none, .slice none 0 0, .slice none 0 0, .slice none 0 0, .int .i64 (0), .map none]) := by kernel_rfl
theorem ps_136 : plainStruct Tryz.prog 136 = True := ps_of (by kernel_rfl)
theorem ti_137 : tI Tryz.prog 137 = some (1, 8, false) := by kernel_rfl
theorem zt_137 : zeroT Tryz.prog 137 = some (.map none) := by kernel_rfl
theorem ti_138 : tI Tryz.prog 138 = some (7, 104, true) := by kernel_rfl
theorem zt_138 : zeroT Tryz.prog 138 = some (.agg #[.pointer none, .slice none 0 0, .slice none 0 0, .slice none 0 0, .int .i64 (0), .int .i64 (0), .map none]) := by kernel_rfl
theorem ps_138 : plainStruct Tryz.prog 138 = True := ps_of (by kernel_rfl)
theorem ti_139 : tI Tryz.prog 139 = some (7, 104, true) := by kernel_rfl
theorem zt_139 : zeroT Tryz.prog 139 = some (.agg #[.pointer none, .slice none 0 0, .slice none 0 0, .slice none 0 0, .int .i64 (0), .int .i64 (0), .map none]) := by kernel_rfl
theorem ps_139 : plainStruct Tryz.prog 139 = True := ps_of (by kernel_rfl)
theorem ti_140 : tI Tryz.prog 140 = some (1, 8, false) := by kernel_rfl
theorem zt_140 : zeroT Tryz.prog 140 = some (.pointer none) := by kernel_rfl
theorem ti_141 : tI Tryz.prog 141 = some (1, 24, false) := by kernel_rfl
theorem zt_141 : zeroT Tryz.prog 141 = some (.slice none 0 0) := by kernel_rfl
theorem ti_142 : tI Tryz.prog 142 = some (2, 32, true) := by kernel_rfl
theorem zt_142 : zeroT Tryz.prog 142 = some (.agg #[.pointer none, .slice none 0 0]) := by kernel_rfl
theorem ps_142 : plainStruct Tryz.prog 142 = True := ps_of (by kernel_rfl)
theorem ti_143 : tI Tryz.prog 143 = some (2, 32, true) := by kernel_rfl
theorem zt_143 : zeroT Tryz.prog 143 = some (.agg #[.pointer none, .slice none 0 0]) := by kernel_rfl
theorem ps_143 : plainStruct Tryz.prog 143 = True := ps_of (by kernel_rfl)
theorem ti_145 : tI Tryz.prog 145 = some (1, 16, false) := by kernel_rfl
theorem zt_145 : zeroT Tryz.prog 145 = some .nilIface := by kernel_rfl
theorem ti_146 : tI Tryz.prog 146 = some (1, 16, false) := by kernel_rfl
theorem zt_146 : zeroT Tryz.prog 146 = some .nilIface := by kernel_rfl
theorem ti_147 : tI Tryz.prog 147 = some (1, 0, false) := by kernel_rfl
theorem zt_147 : zeroT Tryz.prog 147 = some (.tuple #[.int .i64 (0), .nilIface]) := by kernel_rfl
theorem ti_154 : tI Tryz.prog 154 = some (1, 8, false) := by kernel_rfl
theorem zt_154 : zeroT Tryz.prog 154 = some .nilFunc := by kernel_rfl
theorem ti_156 : tI Tryz.prog 156 = some (1, 24, false) := by kernel_rfl
theorem zt_156 : zeroT Tryz.prog 156 = some (.slice none 0 0) := by kernel_rfl
theorem ti_157 : tI Tryz.prog 157 = some (1, 24, false) := by kernel_rfl
theorem zt_157 : zeroT Tryz.prog 157 = some (.slice none 0 0) := by kernel_rfl
theorem ti_159 : tI Tryz.prog 159 = some (1, 8, false) := by kernel_rfl
theorem zt_159 : zeroT Tryz.prog 159 = some (.pointer none) := by kernel_rfl
theorem ti_160 : tI Tryz.prog 160 = some (1, 0, false) := by kernel_rfl
theorem zt_160 : zeroT Tryz.prog 160 = some (.tuple #[.pointer none, .int .i64 (0)]) := by kernel_rfl
theorem ti_162 : tI Tryz.prog 162 = some (1, 8, false) := by kernel_rfl
theorem zt_162 : zeroT Tryz.prog 162 = some (.pointer none) := by kernel_rfl
theorem ti_163 : tI Tryz.prog 163 = some (1, 8, false) := by kernel_rfl
theorem zt_163 : zeroT Tryz.prog 163 = some (.map none) := by kernel_rfl
theorem ti_164 : tI Tryz.prog 164 = some (6, 112, true) := by kernel_rfl
theorem zt_164 : zeroT Tryz.prog 164 = some (.agg #[.pointer none, .map none, .slice none 0 0, .slice none 0 0, .slice none 0 0, .slice none 0 0]) := by kernel_rfl
theorem ps_164 : plainStruct Tryz.prog 164 = True := ps_of (by kernel_rfl)
theorem ti_165 : tI Tryz.prog 165 = some (6, 112, true) := by kernel_rfl
theorem zt_165 : zeroT Tryz.prog 165 = some (.agg #[.pointer none, .map none, .slice none 0 0, .slice none 0 0, .slice none 0 0, .slice none 0 0]) := by kernel_rfl
theorem ps_165 : plainStruct Tryz.prog 165 = True := ps_of (by kernel_rfl)
theorem ti_173 : tI Tryz.prog 173 = some (1, 24, false) := by kernel_rfl
theorem zt_173 : zeroT Tryz.prog 173 = some (.slice none 0 0) := by kernel_rfl
theorem ti_174 : tI Tryz.prog 174 = some (2, 16, true) := by kernel_rfl
theorem zt_174 : zeroT Tryz.prog 174 = some (.agg #[.int .i64 (0), .int .i64 (0)]) := by kernel_rfl
theorem ps_174 : plainStruct Tryz.prog 174 = True := ps_of (by kernel_rfl)
theorem ti_175 : tI Tryz.prog 175 = some (2, 16, true) := by kernel_rfl
theorem zt_175 : zeroT Tryz.prog 175 = some (.agg #[.int .i64 (0), .int .i64 (0)]) := by kernel_rfl
theorem ps_175 : plainStruct Tryz.prog 175 = True := ps_of (by kernel_rfl)
theorem ti_176 : tI Tryz.prog 176 = some (2, 16, true) := by kernel_rfl
theorem zt_176 : zeroT Tryz.prog 176 = some (.agg #[.int .i64 (0), .int .u64 (0)]) := by kernel_rfl
theorem ps_176 : plainStruct Tryz.prog 176 = True := ps_of (by kernel_rfl)
theorem ti_177 : tI Tryz.prog 177 = some (2, 16, true) := by kernel_rfl
theorem zt_177 : zeroT Tryz.prog 177 = some (.agg #[.int .i64 (0), .int .u64 (0)]) := by kernel_rfl
theorem ps_177 : plainStruct Tryz.prog 177 = True := ps_of (by kernel_rfl)
theorem ti_179 : tI Tryz.prog 179 = some (1, 0, false) := by kernel_rfl
theorem zt_179 : zeroT Tryz.prog 179 = some (.tuple #[.agg #[.int .i64 (0), .int .u64 (0)], .bool false]) := by kernel_rfl
theorem ti_181 : tI Tryz.prog 181 = some (1, 8, false) := by kernel_rfl
theorem zt_181 : zeroT Tryz.prog 181 = some (.pointer none) := by kernel_rfl
theorem ti_182 : tI Tryz.prog 182 = some (3, 32, true) := by kernel_rfl
theorem zt_182 : zeroT Tryz.prog 182 = some (.agg #[.int .i64 (0), .int .i64 (0), .string ⟨#[]⟩]) := by kernel_rfl
theorem ps_182 : plainStruct Tryz.prog 182 = True := ps_of (by kernel_rfl)
theorem ti_183 : tI Tryz.prog 183 = some (3, 32, true) := by kernel_rfl
theorem zt_183 : zeroT Tryz.prog 183 = some (.agg #[.int .i64 (0), .int .i64 (0), .string ⟨#[]⟩]) := by kernel_rfl
theorem ps_183 : plainStruct Tryz.prog 183 = True := ps_of (by kernel_rfl)
theorem ti_184 : tI Tryz.prog 184 = some (4, 48, true) := by kernel_rfl
theorem zt_184 : zeroT Tryz.prog 184 = some (.agg #[.string ⟨#[]⟩, .int .i64 (0), .int .i64 (0), .string ⟨#[]⟩]) := by kernel_rfl
theorem ps_184 : plainStruct Tryz.prog 184 = True := ps_of (by kernel_rfl)
theorem ti_185 : tI Tryz.prog 185 = some (4, 48, true) := by kernel_rfl
theorem zt_185 : zeroT Tryz.prog 185 = some (.agg #[.string ⟨#[]⟩, .int .i64 (0), .int .i64 (0), .string ⟨#[]⟩]) := by kernel_rfl
theorem ps_185 : plainStruct Tryz.prog 185 = True := ps_of (by kernel_rfl)
theorem ti_191 : tI Tryz.prog 191 = some (1, 24, false) := by kernel_rfl
theorem zt_191 : zeroT Tryz.prog 191 = some (.slice none 0 0) := by kernel_rfl
theorem ti_193 : tI Tryz.prog 193 = some (1, 8, false) := by kernel_rfl
theorem zt_193 : zeroT Tryz.prog 193 = some (.pointer none) := by kernel_rfl
theorem ti_194 : tI Tryz.prog 194 = some (4, 80, true) := by kernel_rfl
theorem zt_194 : zeroT Tryz.prog 194 = some (.agg #[.slice none 0 0, .slice none 0 0, .pointer none, .slice none 0 0]) := by kernel_rfl
theorem ps_194 : plainStruct Tryz.prog 194 = True := ps_of (by kernel_rfl)
theorem ti_195 : tI Tryz.prog 195 = some (4, 80, true) := by kernel_rfl
theorem zt_195 : zeroT Tryz.prog 195 = some (.agg #[.slice none 0 0, .slice none 0 0, .pointer none, .slice none 0 0]) := by kernel_rfl
theorem ps_195 : plainStruct Tryz.prog 195 = True := ps_of (by kernel_rfl)
theorem ti_196 : tI Tryz.prog 196 = some (3, 24, true) := by kernel_rfl
theorem zt_196 : zeroT Tryz.prog 196 = some (.agg #[.bool false, .pointer none, .pointer none]) := by kernel_rfl
theorem ps_196 : plainStruct Tryz.prog 196 = True := ps_of (by kernel_rfl)
theorem ti_197 : tI Tryz.prog 197 = some (3, 24, true) := by kernel_rfl
theorem zt_197 : zeroT Tryz.prog 197 = some (.agg #[.bool false, .pointer none, .pointer none]) := by kernel_rfl
theorem ps_197 : plainStruct Tryz.prog 197 = True := ps_of (by kernel_rfl)
theorem ti_200 : tI Tryz.prog 200 = some (4, 32, true) := by kernel_rfl
theorem zt_200 : zeroT Tryz.prog 200 = some (.agg #[.int .u64 (0), .int .u64 (0), .int .u64 (0), .int .u64 (0)]) := by kernel_rfl
theorem ti_205 : tI Tryz.prog 205 = some (24, 24, true) := by kernel_rfl
theorem zt_205 : zeroT Tryz.prog 205 = some (.agg #[.int .u8 (0), .int .u8 (0), .int .u8 (0), .int .u8 (0), .int .u8 (0), .int .u8 (0), .int .u8 (0), .int .u8 (0), .int .u8 (0), .int .u8 (0), .int .u8 (0), .int .u8 (0), .int .u8 (0), .int .u8 (0), .int .u8 (0), .int .u8 (0), .int .u8 (0), .int .u8 (0), .int .u8 (0), .int .u8 (0), .int .u8 (0), .int .u8 (0), .int .u8 (0), .int .u8 (0)]) := by kernel_rfl
theorem ti_208 : tI Tryz.prog 208 = some (1, 0, false) := by kernel_rfl
theorem zt_208 : zeroT Tryz.prog 208 = some (.tuple #[.slice none 0 0, .string ⟨#[]⟩]) := by kernel_rfl
theorem ti_210 : tI Tryz.prog 210 = some (1, 8, false) := by kernel_rfl
theorem zt_210 : zeroT Tryz.prog 210 = some (.pointer none) := by kernel_rfl
theorem ti_229 : tI Tryz.prog 229 = some (1, 24, true) := by kernel_rfl
theorem zt_229 : zeroT Tryz.prog 229 = some (.agg #[.slice none 0 0]) := by kernel_rfl
theorem ps_229 : plainStruct Tryz.prog 229 = True := ps_of (by kernel_rfl)
theorem ti_230 : tI Tryz.prog 230 = some (1, 24, true) := by kernel_rfl
theorem zt_230 : zeroT Tryz.prog 230 = some (.agg #[.slice none 0 0]) := by kernel_rfl
theorem ps_230 : plainStruct Tryz.prog 230 = True := ps_of (by kernel_rfl)
theorem ti_236 : tI Tryz.prog 236 = some (1, 0, false) := by kernel_rfl
theorem zt_236 : zeroT Tryz.prog 236 = some (.tuple #[.slice none 0 0, .int .i64 (0)]) := by kernel_rfl
theorem ti_243 : tI Tryz.prog 243 = some (20, 160, true) := by kernel_rfl
theorem zt_243 : zeroT Tryz.prog 243 = some (.agg #[.int .u64 (0), .int .u64 (0), .int .u64 (0), .int .u64 (0), .int .u64 (0), .int .u64 (0), .int .u64 (0), .int .u64 (0), .int .u64 (0), .int .u64 (0), .int .u64 (0), .int .u64 (0), .int .u64 (0), .int .u64 (0), .int .u64 (0), .int .u64 (0), .int .u64 (0), .int .u64 (0), .int .u64 (0), .int .u64 (0)]) := by kernel_rfl
theorem ti_244 : tI Tryz.prog 244 = some (1, 4, false) := by kernel_rfl
theorem zt_244 : zeroT Tryz.prog 244 = some (.int .u32 (0)) := by kernel_rfl
theorem ti_245 : tI Tryz.prog 245 = some (65, 65, true) := by kernel_rfl
theorem zt_245 : zeroT Tryz.prog 245 = some (.agg #[.int .u8 (0), .int .u8 (0), .int .u8 (0), .int .u8 (0), .int .u8 (0), .int .u8 (0), .int .u8 (0), .int .u8 (0), .int .u8 (0), .int .u8 (0), .int .u8 (0), .int .u8 (0), .int .u8 (0), .int .u8 (0), .int .u8 (0), .int .u8 (0), .int .u8 (0), .int .u8 (0), .int .u8 (0), .int .u8 (0), .int .u8 (0), .int .u8 (0), .int .u8 (0), .int .u8 (0), .int .u8 (0), .int .u8 (0), .int .u8 (0), .int .u8 (0), .int .u8 (0), .int .u8 (0), .int .u8 (0), .int .u8 (0), .int .u8 (0), .int .u8 (0), .int .u8 (0), .int .u8 (0), .int .u8 (0), .int .u8 (0), .int .u8 (0), .int .u8 (0), .int .u8 (0), .int .u8 (0), .int .u8 (0), .int .u8 (0), .int .u8 (0), .int .u8 (0), .int .u8 (0), .int .u8 (0), .int .u8 (0), .int .u8 (0), .int .u8 (0), .int .u8 (0), .int .u8 (0), .int .u8 (0), .int .u8 (0), .int .u8 (0), .int .u8 (0), .int .u8 (0), .int .u8 (0), .int .u8 (0), .int .u8 (0), .int .u8 (0), .int .u8 (0), .int .u8 (0), .int .u8 (0)]) := by kernel_rfl
theorem ti_247 : tI Tryz.prog 247 = some (1, 8, false) := by kernel_rfl
theorem zt_247 : zeroT Tryz.prog 247 = some (.int .i64 (0)) := by kernel_rfl
theorem ti_248 : tI Tryz.prog 248 = some (1, 0, false) := by kernel_rfl
theorem zt_248 : zeroT Tryz.prog 248 = some (.tuple #[.int .i64 (0), .int .i64 (0)]) := by kernel_rfl
theorem ti_254 : tI Tryz.prog 254 = some (256, 2048, true) := by kernel_rfl
theorem ti_258 : tI Tryz.prog 258 = some (1, 8, false) := by kernel_rfl
theorem zt_258 : zeroT Tryz.prog 258 = some (.map none) := by kernel_rfl
theorem ti_260 : tI Tryz.prog 260 = some (2, 24, true) := by kernel_rfl
theorem zt_260 : zeroT Tryz.prog 260 = some (.agg #[.int .i64 (0), .string ⟨#[]⟩]) := by kernel_rfl
theorem ps_260 : plainStruct Tryz.prog 260 = True := ps_of (by kernel_rfl)
theorem ti_261 : tI Tryz.prog 261 = some (2, 24, true) := by kernel_rfl
theorem zt_261 : zeroT Tryz.prog 261 = some (.agg #[.int .i64 (0), .string ⟨#[]⟩]) := by kernel_rfl
theorem ps_261 : plainStruct Tryz.prog 261 = True := ps_of (by kernel_rfl)
theorem ti_262 : tI Tryz.prog 262 = some (1, 8, false) := by kernel_rfl
theorem zt_262 : zeroT Tryz.prog 262 = some (.int .u64 (0)) := by kernel_rfl
theorem ti_266 : tI Tryz.prog 266 = some (1, 8, false) := by kernel_rfl
theorem zt_266 : zeroT Tryz.prog 266 = some (.pointer none) := by kernel_rfl
theorem ti_274 : tI Tryz.prog 274 = some (32, 32, true) := by kernel_rfl
theorem zt_274 : zeroT Tryz.prog 274 = some (.agg #[.int .u8 (0), .int .u8 (0), .int .u8 (0), .int .u8 (0), .int .u8 (0), .int .u8 (0), .int .u8 (0), .int .u8 (0), .int .u8 (0), .int .u8 (0), .int .u8 (0), .int .u8 (0), .int .u8 (0), .int .u8 (0), .int .u8 (0), .int .u8 (0), .int .u8 (0), .int .u8 (0), .int .u8 (0), .int .u8 (0), .int .u8 (0), .int .u8 (0), .int .u8 (0), .int .u8 (0), .int .u8 (0), .int .u8 (0), .int .u8 (0), .int .u8 (0), .int .u8 (0), .int .u8 (0), .int .u8 (0), .int .u8 (0)]) := by kernel_rfl
theorem ti_275 : tI Tryz.prog 275 = some (64, 64, true) := by kernel_rfl
theorem zt_275 : zeroT Tryz.prog 275 = some (.agg #[.int .u8 (0), .int .u8 (0), .int .u8 (0), .int .u8 (0), .int .u8 (0), .int .u8 (0), .int .u8 (0), .int .u8 (0), .int .u8 (0), .int .u8 (0), .int .u8 (0), .int .u8 (0), .int .u8 (0), .int .u8 (0), .int .u8 (0), .int .u8 (0), .int .u8 (0), .int .u8 (0), .int .u8 (0), .int .u8 (0), .int .u8 (0), .int .u8 (0), .int .u8 (0), .int .u8 (0), .int .u8 (0), .int .u8 (0), .int .u8 (0), .int .u8 (0), .int .u8 (0), .int .u8 (0), .int .u8 (0), .int .u8 (0), .int .u8 (0), .int .u8 (0), .int .u8 (0), .int .u8 (0), .int .u8 (0), .int .u8 (0), .int .u8 (0), .int .u8 (0), .int .u8 (0), .int .u8 (0), .int .u8 (0), .int .u8 (0), .int .u8 (0), .int .u8 (0), .int .u8 (0), .int .u8 (0), .int .u8 (0), .int .u8 (0), .int .u8 (0), .int .u8 (0), .int .u8 (0), .int .u8 (0), .int .u8 (0), .int .u8 (0), .int .u8 (0), .int .u8 (0), .int .u8 (0), .int .u8 (0), .int .u8 (0), .int .u8 (0), .int .u8 (0), .int .u8 (0)]) := by kernel_rfl
theorem ti_276 : tI Tryz.prog 276 = some (1, 8, false) := by kernel_rfl
theorem zt_276 : zeroT Tryz.prog 276 = some (.pointer none) := by kernel_rfl
theorem ti_277 : tI Tryz.prog 277 = some (1, 0, false) := by kernel_rfl
theorem zt_277 : zeroT Tryz.prog 277 = some (.tuple #[.int .i64 (0), .int .i64 (0)]) := by kernel_rfl
theorem ti_282 : tI Tryz.prog 282 = some (4, 40, true) := by kernel_rfl
theorem zt_282 : zeroT Tryz.prog 282 = some (.agg #[.pointer none, .pointer none, .pointer none, .string ⟨#[]⟩]) := by kernel_rfl
theorem ti_283 : tI Tryz.prog 283 = some (4, 40, true) := by kernel_rfl
theorem zt_283 : zeroT Tryz.prog 283 = some (.agg #[.pointer none, .pointer none, .pointer none, .string ⟨#[]⟩]) := by kernel_rfl
theorem ti_284 : tI Tryz.prog 284 = some (0, 0, true) := by kernel_rfl
theorem zt_284 : zeroT Tryz.prog 284 = some (.agg #[]) := by kernel_rfl
theorem ti_285 : tI Tryz.prog 285 = some (0, 0, true) := by kernel_rfl
theorem zt_285 : zeroT Tryz.prog 285 = some (.agg #[]) := by kernel_rfl
theorem ti_286 : tI Tryz.prog 286 = some (0, 0, true) := by kernel_rfl
theorem zt_286 : zeroT Tryz.prog 286 = some (.agg #[]) := by kernel_rfl
theorem ti_287 : tI Tryz.prog 287 = some (1, 1, false) := by kernel_rfl
theorem zt_287 : zeroT Tryz.prog 287 = some (.int .u8 (0)) := by kernel_rfl
theorem ti_288 : tI Tryz.prog 288 = some (1, 1, false) := by kernel_rfl
theorem zt_288 : zeroT Tryz.prog 288 = some (.int .u8 (0)) := by kernel_rfl
theorem ti_290 : tI Tryz.prog 290 = some (1, 4, false) := by kernel_rfl
theorem zt_290 : zeroT Tryz.prog 290 = some (.int .i32 (0)) := by kernel_rfl
theorem ti_291 : tI Tryz.prog 291 = some (1, 4, false) := by kernel_rfl
theorem zt_291 : zeroT Tryz.prog 291 = some (.int .i32 (0)) := by kernel_rfl
theorem ti_292 : tI Tryz.prog 292 = some (11, 48, true) := by kernel_rfl
theorem zt_292 : zeroT Tryz.prog 292 = some (.agg #[.int .u64 (0), .int .u64 (0), .int .u32 (0), .int .u8 (0), .int .u8 (0), .int .u8 (0), .int .u8 (0), .nilFunc, .pointer none, .int .i32 (0), .int .i32 (0)]) := by kernel_rfl
theorem ti_293 : tI Tryz.prog 293 = some (11, 48, true) := by kernel_rfl
theorem zt_293 : zeroT Tryz.prog 293 = some (.agg #[.int .u64 (0), .int .u64 (0), .int .u32 (0), .int .u8 (0), .int .u8 (0), .int .u8 (0), .int .u8 (0), .nilFunc, .pointer none, .int .i32 (0), .int .i32 (0)]) := by kernel_rfl
theorem ti_294 : tI Tryz.prog 294 = some (4, 32, true) := by kernel_rfl
theorem zt_294 : zeroT Tryz.prog 294 = some (.agg #[.int .i64 (0), .int .i64 (0), .int .i64 (0), .int .u64 (0)]) := by kernel_rfl
theorem ps_294 : plainStruct Tryz.prog 294 = True := ps_of (by kernel_rfl)
theorem ti_295 : tI Tryz.prog 295 = some (4, 32, true) := by kernel_rfl
theorem zt_295 : zeroT Tryz.prog 295 = some (.agg #[.int .i64 (0), .int .i64 (0), .int .i64 (0), .int .u64 (0)]) := by kernel_rfl
attribute [go_sem] ti_0 zt_0 ti_2 zt_2 ti_3 zt_3 ti_4 zt_4 ti_5 zt_5 ti_6 zt_6 ti_7 zt_7 ps_7 ti_8 zt_8 ps_8 ti_9 zt_9 ti_10 zt_10 ti_11 zt_11 ti_12 zt_12 ti_13 zt_13 ti_14 zt_14 ti_15 zt_15 ti_16 zt_16 ti_17 zt_17 ti_18 zt_18 ti_19 zt_19 ti_20 zt_20 ti_21 zt_21 ti_22 zt_22 ti_23 zt_23 ti_24 zt_24 ti_25 zt_25 ti_27 zt_27 ti_32 zt_32 ti_36 zt_36 ps_36 ti_37 zt_37 ps_37 ti_38 zt_38 ti_40 zt_40 ti_41 zt_41 ti_42 zt_42 ti_43 zt_43 ti_45 zt_45 ti_47 zt_47 ps_47 ti_48 zt_48 ps_48 ti_49 zt_49 ps_49 ti_50 zt_50 ps_50 ti_54 zt_54 ti_55 zt_55 ti_58 zt_58 ps_58 ti_59 zt_59 ps_59 ti_60 zt_60 ti_61 zt_61 ti_62 zt_62 ps_62 ti_63 zt_63 ps_63 ti_65 zt_65 ti_66 zt_66 ti_67 zt_67 ti_69 zt_69 ti_71 zt_71 ps_71 ti_72 zt_72 ps_72 ti_73 zt_73 ti_74 zt_74 ps_74 ti_75 zt_75 ps_75 ti_77 zt_77 ps_77 ti_78 zt_78 ps_78 ti_80 zt_80 ti_83 zt_83 ti_84 zt_84 ps_84 ti_85 zt_85 ps_85 ti_86 zt_86 ps_86 ti_87 zt_87 ps_87 ti_88 zt_88 ti_90 zt_90 ti_92 zt_92 ti_93 zt_93 ti_94 zt_94 ps_94 ti_95 zt_95 ps_95 ti_96 zt_96 ti_97 zt_97 ti_98 zt_98 ps_98 ti_99 zt_99 ps_99 ti_100 zt_100 ti_102 zt_102 ps_102 ti_103 zt_103 ps_103 ti_104 zt_104 ti_106 zt_106 ti_107 zt_107 ti_108 zt_108 ti_109 zt_109 ps_109 ti_110 zt_110 ps_110 ti_111 zt_111 ti_114 zt_114 ti_115 zt_115 ti_117 zt_117 ti_118 zt_118 ti_122 zt_122 ti_124 zt_124 ti_129 zt_129 ti_134 zt_134 ti_135 zt_135 ps_135 ti_136 zt_136 ps_136 ti_137 zt_137 ti_138 zt_138 ps_138 ti_139 zt_139 ps_139 ti_140 zt_140 ti_141 zt_141 ti_142 zt_142 ps_142 ti_143 zt_143 ps_143 ti_145 zt_145 ti_146 zt_146 ti_147 zt_147 ti_154 zt_154 ti_156 zt_156 ti_157 zt_157 ti_159 zt_159 ti_160 zt_160 ti_162 zt_162 ti_163 zt_163 ti_164 zt_164 ps_164 ti_165 zt_165 ps_165 ti_173 zt_173 ti_174 zt_174 ps_174 ti_175 zt_175 ps_175 ti_176 zt_176 ps_176 ti_177 zt_177 ps_177 ti_179 zt_179 ti_181 zt_181 ti_182 zt_182 ps_182 ti_183 zt_183 ps_183 ti_184 zt_184 ps_184 ti_185 zt_185 ps_185 ti_191 zt_191 ti_193 zt_193 ti_194 zt_194 ps_194 ti_195 zt_195 ps_195 ti_196 zt_196 ps_196 ti_197 zt_197 ps_197 ti_200 zt_200 ti_205 zt_205 ti_208 zt_208 ti_210 zt_210 ti_229 zt_229 ps_229 ti_230 zt_230 ps_230 ti_236 zt_236 ti_243 zt_243 ti_244 zt_244 ti_245 zt_245 ti_247 zt_247 ti_248 zt_248 ti_254 ti_258 zt_258 ti_260 zt_260 ps_260 ti_261 zt_261 ps_261 ti_262 zt_262 ti_266 zt_266 ti_274 zt_274 ti_275 zt_275 ti_276 zt_276 ti_277 zt_277 ti_282 zt_282 ti_283 zt_283 ti_284 zt_284 ti_285 zt_285 ti_286 zt_286 ti_287 zt_287 ti_288 zt_288 ti_290 zt_290 ti_291 zt_291 ti_292 zt_292 ti_293 zt_293 ti_294 zt_294 ps_294 ti_295 zt_295
attribute [go_sem] Tryz.underlying0 Tryz.underlying1 Tryz.underlying2 Tryz.underlying3 Tryz.underlying4 Tryz.underlying5 Tryz.underlying6 Tryz.underlying7 Tryz.underlying8 Tryz.underlying9 Tryz.underlying10 Tryz.underlying11 Tryz.underlying12 Tryz.underlying13 Tryz.underlying14 Tryz.underlying15 Tryz.underlying16 Tryz.underlying17 Tryz.underlying18 Tryz.underlying19 Tryz.underlying20 Tryz.underlying21 Tryz.underlying22 Tryz.underlying23 Tryz.underlying24 Tryz.underlying25 Tryz.underlying26 Tryz.underlying27 Tryz.underlying28 Tryz.underlying29 Tryz.underlying30 Tryz.underlying31 Tryz.underlying32 Tryz.underlying33 Tryz.underlying34 Tryz.underlying35 Tryz.underlying36 Tryz.underlying37 Tryz.underlying38 Tryz.underlying39 Tryz.underlying40 Tryz.underlying41 Tryz.underlying42 Tryz.underlying43 Tryz.underlying44 Tryz.underlying45 Tryz.underlying46 Tryz.underlying47 Tryz.underlying48 Tryz.underlying49 Tryz.underlying50 Tryz.underlying51 Tryz.underlying52 Tryz.underlying53 Tryz.underlying54 Tryz.underlying55 Tryz.underlying56 Tryz.underlying57 Tryz.underlying58 Tryz.underlying59 Tryz.underlying60 Tryz.underlying61 Tryz.underlying62 Tryz.underlying63 Tryz.underlying64 Tryz.underlying65 Tryz.underlying66 Tryz.underlying67 Tryz.underlying68 Tryz.underlying69 Tryz.underlying70 Tryz.underlying71 Tryz.underlying72 Tryz.underlying73 Tryz.underlying74 Tryz.underlying75 Tryz.underlying76 Tryz.underlying77 Tryz.underlying78 Tryz.underlying79 Tryz.underlying80 Tryz.underlying81 Tryz.underlying82 Tryz.underlying83 Tryz.underlying84 Tryz.underlying85 Tryz.underlying86 Tryz.underlying87 Tryz.underlying88 Tryz.underlying89 Tryz.underlying90 Tryz.underlying91 Tryz.underlying92 Tryz.underlying93 Tryz.underlying94 Tryz.underlying95 Tryz.underlying96 Tryz.underlying97 Tryz.underlying98 Tryz.underlying99 Tryz.underlying100 Tryz.underlying101 Tryz.underlying102 Tryz.underlying103 Tryz.underlying104 Tryz.underlying105 Tryz.underlying106 Tryz.underlying107 Tryz.underlying108 Tryz.underlying109 Tryz.underlying110 Tryz.underlying111 Tryz.underlying112 Tryz.underlying113 Tryz.underlying114 Tryz.underlying115 Tryz.underlying116 Tryz.underlying117 Tryz.underlying118 Tryz.underlying119 Tryz.underlying120 Tryz.underlying121 Tryz.underlying122 Tryz.underlying123 Tryz.underlying124 Tryz.underlying125 Tryz.underlying126 Tryz.underlying127 Tryz.underlying128 Tryz.underlying129 Tryz.underlying130 Tryz.underlying131 Tryz.underlying132 Tryz.underlying133 Tryz.underlying134 Tryz.underlying135 Tryz.underlying136 Tryz.underlying137 Tryz.underlying138 Tryz.underlying139 Tryz.underlying140 Tryz.underlying141 Tryz.underlying142 Tryz.underlying143 Tryz.underlying144 Tryz.underlying145 Tryz.underlying146 Tryz.underlying147 Tryz.underlying148 Tryz.underlying149 Tryz.underlying150 Tryz.underlying151 Tryz.underlying152 Tryz.underlying153 Tryz.underlying154 Tryz.underlying155 Tryz.underlying156 Tryz.underlying157 Tryz.underlying158 Tryz.underlying159 Tryz.underlying160 Tryz.underlying161 Tryz.underlying162 Tryz.underlying163 Tryz.underlying164 Tryz.underlying165 Tryz.underlying166 Tryz.underlying167 Tryz.underlying168 Tryz.underlying169 Tryz.underlying170 Tryz.underlying171 Tryz.underlying172 Tryz.underlying173 Tryz.underlying174 Tryz.underlying175 Tryz.underlying176 Tryz.underlying177 Tryz.underlying178 Tryz.underlying179 Tryz.underlying180 Tryz.underlying181 Tryz.underlying182 Tryz.underlying183 Tryz.underlying184 Tryz.underlying185 Tryz.underlying186 Tryz.underlying187 Tryz.underlying188 Tryz.underlying189 Tryz.underlying190 Tryz.underlying191 Tryz.underlying192 Tryz.underlying193 Tryz.underlying194 Tryz.underlying195 Tryz.underlying196 Tryz.underlying197 Tryz.underlying198 Tryz.underlying199 Tryz.underlying200 Tryz.underlying201 Tryz.underlying202 Tryz.underlying203 Tryz.underlying204 Tryz.underlying205 Tryz.underlying206 Tryz.underlying207 Tryz.underlying208 Tryz.underlying209 Tryz.underlying210 Tryz.underlying211 Tryz.underlying212 Tryz.underlying213 Tryz.underlying214 Tryz.underlying215 Tryz.underlying216 Tryz.underlying217 Tryz.underlying218 Tryz.underlying219 Tryz.underlying220 Tryz.underlying221 Tryz.underlying222 Tryz.underlying223 Tryz.underlying224 Tryz.underlying225 Tryz.underlying226 Tryz.underlying227 Tryz.underlying228 Tryz.underlying229 Tryz.underlying230 Tryz.underlying231 Tryz.underlying232 Tryz.underlying233 Tryz.underlying234 Tryz.underlying235 Tryz.underlying236 Tryz.underlying237 Tryz.underlying238 Tryz.underlying239 Tryz.underlying240 Tryz.underlying241 Tryz.underlying242 Tryz.underlying243 Tryz.underlying244 Tryz.underlying245 Tryz.underlying246 Tryz.underlying247 Tryz.underlying248 Tryz.underlying249 Tryz.underlying250 Tryz.underlying251 Tryz.underlying252 Tryz.underlying253 Tryz.underlying254 Tryz.underlying255 Tryz.underlying256 Tryz.underlying257 Tryz.underlying258 Tryz.underlying259 Tryz.underlying260 Tryz.underlying261 Tryz.underlying262 Tryz.underlying263 Tryz.underlying264 Tryz.underlying265 Tryz.underlying266 Tryz.underlying267 Tryz.underlying268 Tryz.underlying269 Tryz.underlying270 Tryz.underlying271 Tryz.underlying272 Tryz.underlying273 Tryz.underlying274 Tryz.underlying275 Tryz.underlying276 Tryz.underlying277 Tryz.underlying278 Tryz.underlying279 Tryz.underlying280 Tryz.underlying281 Tryz.underlying282 Tryz.underlying283 Tryz.underlying284 Tryz.underlying285 Tryz.underlying286 Tryz.underlying287 Tryz.underlying288 Tryz.underlying289 Tryz.underlying290 Tryz.underlying291 Tryz.underlying292 Tryz.underlying293 Tryz.underlying294 Tryz.underlying295 Tryz.underlying296 Tryz.underlying297 Tryz.underlying298 Tryz.underlying299 Tryz.underlying300 Tryz.underlying301 Tryz.underlying302 Tryz.underlying303 Tryz.underlying304 Tryz.underlying305 Tryz.underlying306 Tryz.underlying307 Tryz.underlying308 Tryz.underlying309 Tryz.underlying310
end Go.Proofs.YtfmhfpbdhfdopaaGreatDoor.D
