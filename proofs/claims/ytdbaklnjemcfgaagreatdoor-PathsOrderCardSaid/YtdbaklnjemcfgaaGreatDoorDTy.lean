/- Of each type of the program how many cells and bytes it has (ti), and its zero value (zt). Conditions: none. -/
import Derived.Test.YtdbaklnjemcfgaaGreatDoorDTac
import Derived.Test.YtdbaklnjemcfgaaGreatDoorChecked
import Derived.KernelRfl
namespace Go.Proofs.YtdbaklnjemcfgaaGreatDoor.D
theorem mixed : Tryz.prog.follows .mixedOrders = true := by kernel_rfl
theorem ti_0 : tI Tryz.prog 0 = some (1, 0, false) := by kernel_rfl
theorem zt_0 : zeroT Tryz.prog 0 = some (.tuple #[]) := by kernel_rfl
theorem ti_2 : tI Tryz.prog 2 = some (1, 8, false) := by kernel_rfl
theorem zt_2 : zeroT Tryz.prog 2 = some (.int .i64 (0)) := by kernel_rfl
theorem ti_3 : tI Tryz.prog 3 = some (1, 8, false) := by kernel_rfl
theorem zt_3 : zeroT Tryz.prog 3 = some (.int .i64 (0)) := by kernel_rfl
theorem ti_4 : tI Tryz.prog 4 = some (1, 1, false) := by kernel_rfl
theorem zt_4 : zeroT Tryz.prog 4 = some (.bool false) := by kernel_rfl
theorem ti_5 : tI Tryz.prog 5 = some (1, 1, false) := by kernel_rfl
theorem zt_5 : zeroT Tryz.prog 5 = some (.int .u8 (0)) := by kernel_rfl
theorem ti_6 : tI Tryz.prog 6 = some (1, 1, false) := by kernel_rfl
theorem zt_6 : zeroT Tryz.prog 6 = some (.int .u8 (0)) := by kernel_rfl
theorem ti_7 : tI Tryz.prog 7 = some (4, 24, true) := by kernel_rfl
theorem zt_7 : zeroT Tryz.prog 7 = some (.agg #[.int .i64 (0), .int .i64 (0), .bool false, .int .u8 (0)]) := by kernel_rfl
theorem ps_7 : plainStruct Tryz.prog 7 = True := ps_of (by kernel_rfl)
theorem ti_8 : tI Tryz.prog 8 = some (4, 24, true) := by kernel_rfl
theorem zt_8 : zeroT Tryz.prog 8 = some (.agg #[.int .i64 (0), .int .i64 (0), .bool false, .int .u8 (0)]) := by kernel_rfl
theorem ps_8 : plainStruct Tryz.prog 8 = True := ps_of (by kernel_rfl)
theorem ti_9 : tI Tryz.prog 9 = some (1, 16, false) := by kernel_rfl
theorem zt_9 : zeroT Tryz.prog 9 = some (.string ⟨#[]⟩) := by kernel_rfl
theorem ti_10 : tI Tryz.prog 10 = some (1, 16, false) := by kernel_rfl
theorem zt_10 : zeroT Tryz.prog 10 = some (.string ⟨#[]⟩) := by kernel_rfl
theorem ti_11 : tI Tryz.prog 11 = some (1, 16, false) := by kernel_rfl
theorem zt_11 : zeroT Tryz.prog 11 = some (.string ⟨#[]⟩) := by kernel_rfl
theorem ti_12 : tI Tryz.prog 12 = some (1, 8, false) := by kernel_rfl
theorem zt_12 : zeroT Tryz.prog 12 = some (.int .u64 (0)) := by kernel_rfl
theorem ti_13 : tI Tryz.prog 13 = some (2, 24, true) := by kernel_rfl
theorem zt_13 : zeroT Tryz.prog 13 = some (.agg #[.string ⟨#[]⟩, .int .u64 (0)]) := by kernel_rfl
theorem ti_14 : tI Tryz.prog 14 = some (2, 24, true) := by kernel_rfl
theorem zt_14 : zeroT Tryz.prog 14 = some (.agg #[.string ⟨#[]⟩, .int .u64 (0)]) := by kernel_rfl
theorem ti_15 : tI Tryz.prog 15 = some (1, 8, false) := by kernel_rfl
theorem zt_15 : zeroT Tryz.prog 15 = some (.pointer none) := by kernel_rfl
theorem ti_16 : tI Tryz.prog 16 = some (1, 8, false) := by kernel_rfl
theorem zt_16 : zeroT Tryz.prog 16 = some (.pointer none) := by kernel_rfl
theorem ti_17 : tI Tryz.prog 17 = some (1, 8, false) := by kernel_rfl
theorem zt_17 : zeroT Tryz.prog 17 = some (.pointer none) := by kernel_rfl
theorem ti_18 : tI Tryz.prog 18 = some (1, 8, true) := by kernel_rfl
theorem zt_18 : zeroT Tryz.prog 18 = some (.agg #[.pointer none]) := by kernel_rfl
theorem ti_19 : tI Tryz.prog 19 = some (1, 8, true) := by kernel_rfl
theorem zt_19 : zeroT Tryz.prog 19 = some (.agg #[.pointer none]) := by kernel_rfl
theorem ti_20 : tI Tryz.prog 20 = some (1, 16, false) := by kernel_rfl
theorem zt_20 : zeroT Tryz.prog 20 = some .nilIface := by kernel_rfl
theorem ti_21 : tI Tryz.prog 21 = some (1, 4, false) := by kernel_rfl
theorem zt_21 : zeroT Tryz.prog 21 = some (.int .i32 (0)) := by kernel_rfl
theorem ti_22 : tI Tryz.prog 22 = some (1, 24, false) := by kernel_rfl
theorem zt_22 : zeroT Tryz.prog 22 = some (.slice none 0 0) := by kernel_rfl
theorem ti_29 : tI Tryz.prog 29 = some (2, 16, true) := by kernel_rfl
theorem zt_29 : zeroT Tryz.prog 29 = some (.agg #[.int .i64 (0), .bool false]) := by kernel_rfl
theorem ps_29 : plainStruct Tryz.prog 29 = True := ps_of (by kernel_rfl)
theorem ti_30 : tI Tryz.prog 30 = some (2, 16, true) := by kernel_rfl
theorem zt_30 : zeroT Tryz.prog 30 = some (.agg #[.int .i64 (0), .bool false]) := by kernel_rfl
theorem ps_30 : plainStruct Tryz.prog 30 = True := ps_of (by kernel_rfl)
theorem ti_33 : tI Tryz.prog 33 = some (1, 24, false) := by kernel_rfl
theorem zt_33 : zeroT Tryz.prog 33 = some (.slice none 0 0) := by kernel_rfl
theorem ti_36 : tI Tryz.prog 36 = some (1, 24, false) := by kernel_rfl
theorem zt_36 : zeroT Tryz.prog 36 = some (.slice none 0 0) := by kernel_rfl
theorem ti_37 : tI Tryz.prog 37 = some (1, 24, false) := by kernel_rfl
theorem zt_37 : zeroT Tryz.prog 37 = some (.slice none 0 0) := by kernel_rfl
theorem ti_38 : tI Tryz.prog 38 = some (2, 48, true) := by kernel_rfl
theorem zt_38 : zeroT Tryz.prog 38 = some (.agg #[.slice none 0 0, .slice none 0 0]) := by kernel_rfl
theorem ps_38 : plainStruct Tryz.prog 38 = True := ps_of (by kernel_rfl)
theorem ti_39 : tI Tryz.prog 39 = some (2, 48, true) := by kernel_rfl
theorem zt_39 : zeroT Tryz.prog 39 = some (.agg #[.slice none 0 0, .slice none 0 0]) := by kernel_rfl
theorem ps_39 : plainStruct Tryz.prog 39 = True := ps_of (by kernel_rfl)
theorem ti_41 : tI Tryz.prog 41 = some (1, 8, false) := by kernel_rfl
theorem zt_41 : zeroT Tryz.prog 41 = some (.pointer none) := by kernel_rfl
theorem ti_42 : tI Tryz.prog 42 = some (1, 8, false) := by kernel_rfl
theorem zt_42 : zeroT Tryz.prog 42 = some (.int .i64 (0)) := by kernel_rfl
theorem ti_43 : tI Tryz.prog 43 = some (1, 0, false) := by kernel_rfl
theorem zt_43 : zeroT Tryz.prog 43 = some (.tuple #[.pointer none, .int .i64 (0)]) := by kernel_rfl
theorem ti_45 : tI Tryz.prog 45 = some (1, 8, false) := by kernel_rfl
theorem zt_45 : zeroT Tryz.prog 45 = some (.pointer none) := by kernel_rfl
theorem ti_46 : tI Tryz.prog 46 = some (1, 0, false) := by kernel_rfl
theorem zt_46 : zeroT Tryz.prog 46 = some (.tuple #[.pointer none, .int .i64 (0)]) := by kernel_rfl
theorem ti_48 : tI Tryz.prog 48 = some (2, 24, true) := by kernel_rfl
theorem zt_48 : zeroT Tryz.prog 48 = some (.agg #[.string ⟨#[]⟩, .bool false]) := by kernel_rfl
theorem ps_48 : plainStruct Tryz.prog 48 = True := ps_of (by kernel_rfl)
theorem ti_49 : tI Tryz.prog 49 = some (2, 24, true) := by kernel_rfl
theorem zt_49 : zeroT Tryz.prog 49 = some (.agg #[.string ⟨#[]⟩, .bool false]) := by kernel_rfl
theorem ps_49 : plainStruct Tryz.prog 49 = True := ps_of (by kernel_rfl)
theorem ti_50 : tI Tryz.prog 50 = some (1, 24, false) := by kernel_rfl
theorem zt_50 : zeroT Tryz.prog 50 = some (.slice none 0 0) := by kernel_rfl
theorem ti_51 : tI Tryz.prog 51 = some (4, 56, true) := by kernel_rfl
theorem zt_51 : zeroT Tryz.prog 51 = some (.agg #[.int .i64 (0), .string ⟨#[]⟩, .bool false, .slice none 0 0]) := by kernel_rfl
theorem ps_51 : plainStruct Tryz.prog 51 = True := ps_of (by kernel_rfl)
theorem ti_52 : tI Tryz.prog 52 = some (4, 56, true) := by kernel_rfl
theorem zt_52 : zeroT Tryz.prog 52 = some (.agg #[.int .i64 (0), .string ⟨#[]⟩, .bool false, .slice none 0 0]) := by kernel_rfl
theorem ps_52 : plainStruct Tryz.prog 52 = True := ps_of (by kernel_rfl)
theorem ti_54 : tI Tryz.prog 54 = some (9, 120, true) := by kernel_rfl
theorem zt_54 : zeroT Tryz.prog 54 = some (.agg #[.string ⟨#[]⟩, .string ⟨#[]⟩, .int .i64 (0), .string ⟨#[]⟩, .bool false, .slice none 0 0, .string ⟨#[]⟩, .int .i64 (0), .bool false]) := by kernel_rfl
theorem ps_54 : plainStruct Tryz.prog 54 = True := ps_of (by kernel_rfl)
theorem ti_55 : tI Tryz.prog 55 = some (9, 120, true) := by kernel_rfl
theorem zt_55 : zeroT Tryz.prog 55 = some (.agg #[.string ⟨#[]⟩, .string ⟨#[]⟩, .int .i64 (0), .string ⟨#[]⟩, .bool false, .slice none 0 0, .string ⟨#[]⟩, .int .i64 (0), .bool false]) := by kernel_rfl
theorem ps_55 : plainStruct Tryz.prog 55 = True := ps_of (by kernel_rfl)
theorem ti_56 : tI Tryz.prog 56 = some (1, 0, false) := by kernel_rfl
theorem zt_56 : zeroT Tryz.prog 56 = some (.tuple #[.slice none 0 0, .bool false]) := by kernel_rfl
theorem ti_58 : tI Tryz.prog 58 = some (1, 8, false) := by kernel_rfl
theorem zt_58 : zeroT Tryz.prog 58 = some (.int .u64 (0)) := by kernel_rfl
theorem ti_60 : tI Tryz.prog 60 = some (1, 8, false) := by kernel_rfl
theorem zt_60 : zeroT Tryz.prog 60 = some (.pointer none) := by kernel_rfl
theorem ti_61 : tI Tryz.prog 61 = some (1, 24, false) := by kernel_rfl
theorem zt_61 : zeroT Tryz.prog 61 = some (.slice none 0 0) := by kernel_rfl
theorem ti_62 : tI Tryz.prog 62 = some (2, 32, true) := by kernel_rfl
theorem zt_62 : zeroT Tryz.prog 62 = some (.agg #[.pointer none, .slice none 0 0]) := by kernel_rfl
theorem ps_62 : plainStruct Tryz.prog 62 = True := ps_of (by kernel_rfl)
theorem ti_63 : tI Tryz.prog 63 = some (2, 32, true) := by kernel_rfl
theorem zt_63 : zeroT Tryz.prog 63 = some (.agg #[.pointer none, .slice none 0 0]) := by kernel_rfl
theorem ps_63 : plainStruct Tryz.prog 63 = True := ps_of (by kernel_rfl)
theorem ti_65 : tI Tryz.prog 65 = some (1, 16, false) := by kernel_rfl
theorem zt_65 : zeroT Tryz.prog 65 = some .nilIface := by kernel_rfl
theorem ti_66 : tI Tryz.prog 66 = some (1, 16, false) := by kernel_rfl
theorem zt_66 : zeroT Tryz.prog 66 = some .nilIface := by kernel_rfl
theorem ti_67 : tI Tryz.prog 67 = some (1, 0, false) := by kernel_rfl
theorem zt_67 : zeroT Tryz.prog 67 = some (.tuple #[.int .i64 (0), .nilIface]) := by kernel_rfl
theorem ti_71 : tI Tryz.prog 71 = some (1, 24, false) := by kernel_rfl
theorem zt_71 : zeroT Tryz.prog 71 = some (.slice none 0 0) := by kernel_rfl
theorem ti_72 : tI Tryz.prog 72 = some (2, 40, true) := by kernel_rfl
theorem zt_72 : zeroT Tryz.prog 72 = some (.agg #[.string ⟨#[]⟩, .slice none 0 0]) := by kernel_rfl
theorem ps_72 : plainStruct Tryz.prog 72 = True := ps_of (by kernel_rfl)
theorem ti_73 : tI Tryz.prog 73 = some (2, 40, true) := by kernel_rfl
theorem zt_73 : zeroT Tryz.prog 73 = some (.agg #[.string ⟨#[]⟩, .slice none 0 0]) := by kernel_rfl
theorem ps_73 : plainStruct Tryz.prog 73 = True := ps_of (by kernel_rfl)
theorem ti_74 : tI Tryz.prog 74 = some (4, 40, true) := by kernel_rfl
theorem zt_74 : zeroT Tryz.prog 74 = some (.agg #[.int .i64 (0), .int .i64 (0), .string ⟨#[]⟩, .int .i64 (0)]) := by kernel_rfl
theorem ps_74 : plainStruct Tryz.prog 74 = True := ps_of (by kernel_rfl)
theorem ti_75 : tI Tryz.prog 75 = some (4, 40, true) := by kernel_rfl
theorem zt_75 : zeroT Tryz.prog 75 = some (.agg #[.int .i64 (0), .int .i64 (0), .string ⟨#[]⟩, .int .i64 (0)]) := by kernel_rfl
theorem ps_75 : plainStruct Tryz.prog 75 = True := ps_of (by kernel_rfl)
theorem ti_76 : tI Tryz.prog 76 = some (1, 0, false) := by kernel_rfl
theorem zt_76 : zeroT Tryz.prog 76 = some (.tuple #[.int .i64 (0), .int .i64 (0)]) := by kernel_rfl
theorem ti_79 : tI Tryz.prog 79 = some (1, 24, false) := by kernel_rfl
theorem zt_79 : zeroT Tryz.prog 79 = some (.slice none 0 0) := by kernel_rfl
theorem ti_80 : tI Tryz.prog 80 = some (1, 24, false) := by kernel_rfl
theorem zt_80 : zeroT Tryz.prog 80 = some (.slice none 0 0) := by kernel_rfl
theorem ti_81 : tI Tryz.prog 81 = some (2, 48, true) := by kernel_rfl
theorem zt_81 : zeroT Tryz.prog 81 = some (.agg #[.slice none 0 0, .slice none 0 0]) := by kernel_rfl
theorem ps_81 : plainStruct Tryz.prog 81 = True := ps_of (by kernel_rfl)
theorem ti_82 : tI Tryz.prog 82 = some (2, 48, true) := by kernel_rfl
theorem zt_82 : zeroT Tryz.prog 82 = some (.agg #[.slice none 0 0, .slice none 0 0]) := by kernel_rfl
theorem ps_82 : plainStruct Tryz.prog 82 = True := ps_of (by kernel_rfl)
theorem ti_83 : tI Tryz.prog 83 = some (4, 96, true) := by kernel_rfl
theorem zt_83 : zeroT Tryz.prog 83 = some (.agg #[.slice none 0 0, .slice none 0 0, .slice none 0 0, .slice none 0 0]) := by kernel_rfl
theorem ti_84 : tI Tryz.prog 84 = some (1, 24, false) := by kernel_rfl
theorem zt_84 : zeroT Tryz.prog 84 = some (.slice none 0 0) := by kernel_rfl
theorem ti_85 : tI Tryz.prog 85 = some (7, 152, true) := by kernel_rfl
theorem zt_85 : zeroT Tryz.prog 85 = some (.agg #[.int .i64 (0), .slice none 0 0, .slice none 0 0, .slice none 0 0, .slice none 0 0, .slice none 0 0, .slice none 0 0]) := by kernel_rfl
theorem ps_85 : plainStruct Tryz.prog 85 = True := ps_of (by kernel_rfl)
theorem ti_86 : tI Tryz.prog 86 = some (7, 152, true) := by kernel_rfl
theorem zt_86 : zeroT Tryz.prog 86 = some (.agg #[.int .i64 (0), .slice none 0 0, .slice none 0 0, .slice none 0 0, .slice none 0 0, .slice none 0 0, .slice none 0 0]) := by kernel_rfl
theorem ps_86 : plainStruct Tryz.prog 86 = True := ps_of (by kernel_rfl)
theorem ti_87 : tI Tryz.prog 87 = some (1, 0, false) := by kernel_rfl
theorem zt_87 : zeroT Tryz.prog 87 = some (.tuple #[.int .i64 (0), .bool false]) := by kernel_rfl
theorem ti_89 : tI Tryz.prog 89 = some (4, 32, true) := by kernel_rfl
theorem zt_89 : zeroT Tryz.prog 89 = some (.agg #[.int .i64 (0), .int .i64 (0), .int .i64 (0), .int .i64 (0)]) := by kernel_rfl
theorem ps_89 : plainStruct Tryz.prog 89 = True := ps_of (by kernel_rfl)
theorem ti_90 : tI Tryz.prog 90 = some (4, 32, true) := by kernel_rfl
theorem zt_90 : zeroT Tryz.prog 90 = some (.agg #[.int .i64 (0), .int .i64 (0), .int .i64 (0), .int .i64 (0)]) := by kernel_rfl
theorem ps_90 : plainStruct Tryz.prog 90 = True := ps_of (by kernel_rfl)
theorem ti_91 : tI Tryz.prog 91 = some (2, 16, true) := by kernel_rfl
theorem zt_91 : zeroT Tryz.prog 91 = some (.agg #[.int .i64 (0), .int .i64 (0)]) := by kernel_rfl
theorem ti_93 : tI Tryz.prog 93 = some (1, 24, false) := by kernel_rfl
theorem zt_93 : zeroT Tryz.prog 93 = some (.slice none 0 0) := by kernel_rfl
theorem ti_94 : tI Tryz.prog 94 = some (1, 24, false) := by kernel_rfl
theorem zt_94 : zeroT Tryz.prog 94 = some (.slice none 0 0) := by kernel_rfl
theorem ti_95 : tI Tryz.prog 95 = some (1, 24, false) := by kernel_rfl
theorem zt_95 : zeroT Tryz.prog 95 = some (.slice none 0 0) := by kernel_rfl
theorem ti_96 : tI Tryz.prog 96 = some (3, 72, true) := by kernel_rfl
theorem zt_96 : zeroT Tryz.prog 96 = some (.agg #[.slice none 0 0, .slice none 0 0, .slice none 0 0]) := by kernel_rfl
theorem ps_96 : plainStruct Tryz.prog 96 = True := ps_of (by kernel_rfl)
theorem ti_97 : tI Tryz.prog 97 = some (3, 72, true) := by kernel_rfl
theorem zt_97 : zeroT Tryz.prog 97 = some (.agg #[.slice none 0 0, .slice none 0 0, .slice none 0 0]) := by kernel_rfl
theorem ps_97 : plainStruct Tryz.prog 97 = True := ps_of (by kernel_rfl)
theorem ti_98 : tI Tryz.prog 98 = some (1, 0, false) := by kernel_rfl
theorem zt_98 : zeroT Tryz.prog 98 = some (.tuple #[.agg #[.slice none 0 0, .slice none 0 0, .slice none 0 0], .int .i64 (0)]) := by kernel_rfl
theorem ti_101 : tI Tryz.prog 101 = some (1, 8, false) := by kernel_rfl
theorem zt_101 : zeroT Tryz.prog 101 = some (.pointer none) := by kernel_rfl
theorem ti_102 : tI Tryz.prog 102 = some (1, 0, false) := by kernel_rfl
theorem zt_102 : zeroT Tryz.prog 102 = some (.tuple #[.pointer none, .int .i64 (0)]) := by kernel_rfl
theorem ti_104 : tI Tryz.prog 104 = some (1, 16, false) := by kernel_rfl
theorem zt_104 : zeroT Tryz.prog 104 = some .nilIface := by kernel_rfl
theorem ti_105 : tI Tryz.prog 105 = some (1, 16, false) := by kernel_rfl
theorem zt_105 : zeroT Tryz.prog 105 = some .nilIface := by kernel_rfl
theorem ti_106 : tI Tryz.prog 106 = some (1, 16, true) := by kernel_rfl
theorem zt_106 : zeroT Tryz.prog 106 = some (.agg #[.nilIface]) := by kernel_rfl
theorem ti_107 : tI Tryz.prog 107 = some (1, 16, true) := by kernel_rfl
theorem zt_107 : zeroT Tryz.prog 107 = some (.agg #[.nilIface]) := by kernel_rfl
theorem ti_108 : tI Tryz.prog 108 = some (1, 8, false) := by kernel_rfl
theorem zt_108 : zeroT Tryz.prog 108 = some (.pointer none) := by kernel_rfl
theorem ti_109 : tI Tryz.prog 109 = some (1, 0, false) := by kernel_rfl
theorem zt_109 : zeroT Tryz.prog 109 = some (.tuple #[.pointer none, .int .i64 (0)]) := by kernel_rfl
theorem ti_111 : tI Tryz.prog 111 = some (3, 24, true) := by kernel_rfl
theorem zt_111 : zeroT Tryz.prog 111 = some (.agg #[.int .i64 (0), .int .i64 (0), .int .i64 (0)]) := by kernel_rfl
theorem ps_111 : plainStruct Tryz.prog 111 = True := ps_of (by kernel_rfl)
theorem ti_112 : tI Tryz.prog 112 = some (3, 24, true) := by kernel_rfl
theorem zt_112 : zeroT Tryz.prog 112 = some (.agg #[.int .i64 (0), .int .i64 (0), .int .i64 (0)]) := by kernel_rfl
theorem ps_112 : plainStruct Tryz.prog 112 = True := ps_of (by kernel_rfl)
theorem ti_113 : tI Tryz.prog 113 = some (1, 0, false) := by kernel_rfl
theorem zt_113 : zeroT Tryz.prog 113 = some (.tuple #[.agg #[.int .i64 (0), .int .i64 (0), .int .i64 (0)], .int .u64 (0)]) := by kernel_rfl
theorem ti_116 : tI Tryz.prog 116 = some (1, 24, false) := by kernel_rfl
theorem zt_116 : zeroT Tryz.prog 116 = some (.slice none 0 0) := by kernel_rfl
theorem ti_118 : tI Tryz.prog 118 = some (6, 48, true) := by kernel_rfl
theorem zt_118 : zeroT Tryz.prog 118 = some (.agg #[.int .i64 (0), .bool false, .int .i64 (0), .int .i64 (0), .int .i64 (0), .int .u64 (0)]) := by kernel_rfl
theorem ps_118 : plainStruct Tryz.prog 118 = True := ps_of (by kernel_rfl)
theorem ti_119 : tI Tryz.prog 119 = some (6, 48, true) := by kernel_rfl
theorem zt_119 : zeroT Tryz.prog 119 = some (.agg #[.int .i64 (0), .bool false, .int .i64 (0), .int .i64 (0), .int .i64 (0), .int .u64 (0)]) := by kernel_rfl
theorem ps_119 : plainStruct Tryz.prog 119 = True := ps_of (by kernel_rfl)
theorem ti_121 : tI Tryz.prog 121 = some (1, 8, false) := by kernel_rfl
theorem zt_121 : zeroT Tryz.prog 121 = some (.pointer none) := by kernel_rfl
theorem ti_122 : tI Tryz.prog 122 = some (1, 8, false) := by kernel_rfl
theorem zt_122 : zeroT Tryz.prog 122 = some (.map none) := by kernel_rfl
theorem ti_124 : tI Tryz.prog 124 = some (1, 8, false) := by kernel_rfl
theorem zt_124 : zeroT Tryz.prog 124 = some (.int .u64 (0)) := by kernel_rfl
theorem ti_129 : tI Tryz.prog 129 = some (1, 0, false) := by kernel_rfl
theorem zt_129 : zeroT Tryz.prog 129 = some (.tuple #[.slice none 0 0, .int .i64 (0)]) := by kernel_rfl
theorem ti_134 : tI Tryz.prog 134 = some (1, 8, false) := by kernel_rfl
theorem zt_134 : zeroT Tryz.prog 134 = some (.map none) := by kernel_rfl
theorem ti_135 : tI Tryz.prog 135 = some (6, 96, true) := by kernel_rfl
theorem zt_135 : zeroT Tryz.prog 135 = some (.agg #[.pointer none, .slice none 0 0, .slice none 0 0, .slice none 0 0, .int .i64 (0), .map none]) := by kernel_rfl
theorem ps_135 : plainStruct Tryz.prog 135 = True := ps_of (by kernel_rfl)
theorem ti_136 : tI Tryz.prog 136 = some (6, 96, true) := by kernel_rfl
theorem zt_136 : zeroT Tryz.prog 136 = some (.agg #[.pointer none, .slice none 0 0, .slice none 0 0, .slice none 0 0, .int .i64 (0), .map none]) := by kernel_rfl
theorem ps_136 : plainStruct Tryz.prog 136 = True := ps_of (by kernel_rfl)
theorem ti_137 : tI Tryz.prog 137 = some (1, 8, false) := by kernel_rfl
theorem zt_137 : zeroT Tryz.prog 137 = some (.map none) := by kernel_rfl
theorem ti_138 : tI Tryz.prog 138 = some (7, 104, true) := by kernel_rfl
theorem zt_138 : zeroT Tryz.prog 138 = some (.agg #[.pointer none, .slice none 0 0, .slice none 0 0, .slice none 0 0, .int .i64 (0), .int .i64 (0), .map none]) := by kernel_rfl
theorem ps_138 : plainStruct Tryz.prog 138 = True := ps_of (by kernel_rfl)
theorem ti_139 : tI Tryz.prog 139 = some (7, 104, true) := by kernel_rfl
theorem zt_139 : zeroT Tryz.prog 139 = some (.agg #[.pointer none, .slice none 0 0, .slice none 0 0, .slice none 0 0, .int .i64 (0), .int .i64 (0), .map none]) := by kernel_rfl
theorem ps_139 : plainStruct Tryz.prog 139 = True := ps_of (by kernel_rfl)
theorem ti_140 : tI Tryz.prog 140 = some (1, 0, false) := by kernel_rfl
theorem zt_140 : zeroT Tryz.prog 140 = some (.tuple #[.agg #[.int .i64 (0), .int .i64 (0), .int .i64 (0)], .bool false]) := by kernel_rfl
theorem ti_143 : tI Tryz.prog 143 = some (24, 24, true) := by kernel_rfl
theorem zt_143 : zeroT Tryz.prog 143 = some (.agg #[.int .u8 (0), .int .u8 (0), .int .u8 (0), .int .u8 (0), .int .u8 (0), .int .u8 (0), .int .u8 (0), .int .u8 (0), .int .u8 (0), .int .u8 (0), .int .u8 (0), .int .u8 (0), .int .u8 (0), .int .u8 (0), .int .u8 (0), .int .u8 (0), .int .u8 (0), .int .u8 (0), .int .u8 (0), .int .u8 (0), .int .u8 (0), .int .u8 (0), .int .u8 (0), .int .u8 (0)]) := by kernel_rfl
theorem ti_146 : tI Tryz.prog 146 = some (1, 0, false) := by kernel_rfl
theorem zt_146 : zeroT Tryz.prog 146 = some (.tuple #[.slice none 0 0, .string ⟨#[]⟩]) := by kernel_rfl
theorem ti_148 : tI Tryz.prog 148 = some (1, 8, false) := by kernel_rfl
theorem zt_148 : zeroT Tryz.prog 148 = some (.pointer none) := by kernel_rfl
theorem ti_155 : tI Tryz.prog 155 = some (1, 8, false) := by kernel_rfl
theorem zt_155 : zeroT Tryz.prog 155 = some .nilFunc := by kernel_rfl
theorem ti_157 : tI Tryz.prog 157 = some (1, 24, false) := by kernel_rfl
theorem zt_157 : zeroT Tryz.prog 157 = some (.slice none 0 0) := by kernel_rfl
theorem ti_158 : tI Tryz.prog 158 = some (1, 24, false) := by kernel_rfl
theorem zt_158 : zeroT Tryz.prog 158 = some (.slice none 0 0) := by kernel_rfl
theorem ti_160 : tI Tryz.prog 160 = some (1, 8, false) := by kernel_rfl
theorem zt_160 : zeroT Tryz.prog 160 = some (.pointer none) := by kernel_rfl
theorem ti_161 : tI Tryz.prog 161 = some (1, 0, false) := by kernel_rfl
theorem zt_161 : zeroT Tryz.prog 161 = some (.tuple #[.pointer none, .int .i64 (0)]) := by kernel_rfl
theorem ti_163 : tI Tryz.prog 163 = some (1, 8, false) := by kernel_rfl
theorem zt_163 : zeroT Tryz.prog 163 = some (.pointer none) := by kernel_rfl
theorem ti_164 : tI Tryz.prog 164 = some (1, 8, false) := by kernel_rfl
theorem zt_164 : zeroT Tryz.prog 164 = some (.map none) := by kernel_rfl
theorem ti_165 : tI Tryz.prog 165 = some (6, 112, true) := by kernel_rfl
theorem zt_165 : zeroT Tryz.prog 165 = some (.agg #[.pointer none, .map none, .slice none 0 0, .slice none 0 0, .slice none 0 0, .slice none 0 0]) := by kernel_rfl
theorem ps_165 : plainStruct Tryz.prog 165 = True := ps_of (by kernel_rfl)
theorem ti_166 : tI Tryz.prog 166 = some (6, 112, true) := by kernel_rfl
theorem zt_166 : zeroT Tryz.prog 166 = some (.agg #[.pointer none, .map none, .slice none 0 0, .slice none 0 0, .slice none 0 0, .slice none 0 0]) := by kernel_rfl
theorem ps_166 : plainStruct Tryz.prog 166 = True := ps_of (by kernel_rfl)
theorem ti_174 : tI Tryz.prog 174 = some (1, 24, false) := by kernel_rfl
theorem zt_174 : zeroT Tryz.prog 174 = some (.slice none 0 0) := by kernel_rfl
theorem ti_175 : tI Tryz.prog 175 = some (2, 16, true) := by kernel_rfl
theorem zt_175 : zeroT Tryz.prog 175 = some (.agg #[.int .i64 (0), .int .i64 (0)]) := by kernel_rfl
theorem ps_175 : plainStruct Tryz.prog 175 = True := ps_of (by kernel_rfl)
theorem ti_176 : tI Tryz.prog 176 = some (2, 16, true) := by kernel_rfl
theorem zt_176 : zeroT Tryz.prog 176 = some (.agg #[.int .i64 (0), .int .i64 (0)]) := by kernel_rfl
theorem ps_176 : plainStruct Tryz.prog 176 = True := ps_of (by kernel_rfl)
theorem ti_177 : tI Tryz.prog 177 = some (2, 16, true) := by kernel_rfl
theorem zt_177 : zeroT Tryz.prog 177 = some (.agg #[.int .i64 (0), .int .u64 (0)]) := by kernel_rfl
theorem ps_177 : plainStruct Tryz.prog 177 = True := ps_of (by kernel_rfl)
theorem ti_178 : tI Tryz.prog 178 = some (2, 16, true) := by kernel_rfl
theorem zt_178 : zeroT Tryz.prog 178 = some (.agg #[.int .i64 (0), .int .u64 (0)]) := by kernel_rfl
theorem ps_178 : plainStruct Tryz.prog 178 = True := ps_of (by kernel_rfl)
theorem ti_180 : tI Tryz.prog 180 = some (1, 0, false) := by kernel_rfl
theorem zt_180 : zeroT Tryz.prog 180 = some (.tuple #[.agg #[.int .i64 (0), .int .u64 (0)], .bool false]) := by kernel_rfl
theorem ti_183 : tI Tryz.prog 183 = some (20, 160, true) := by kernel_rfl
theorem zt_183 : zeroT Tryz.prog 183 = some (.agg #[.int .u64 (0), .int .u64 (0), .int .u64 (0), .int .u64 (0), .int .u64 (0), .int .u64 (0), .int .u64 (0), .int .u64 (0), .int .u64 (0), .int .u64 (0), .int .u64 (0), .int .u64 (0), .int .u64 (0), .int .u64 (0), .int .u64 (0), .int .u64 (0), .int .u64 (0), .int .u64 (0), .int .u64 (0), .int .u64 (0)]) := by kernel_rfl
theorem ti_184 : tI Tryz.prog 184 = some (1, 4, false) := by kernel_rfl
theorem zt_184 : zeroT Tryz.prog 184 = some (.int .u32 (0)) := by kernel_rfl
theorem ti_185 : tI Tryz.prog 185 = some (65, 65, true) := by kernel_rfl
theorem zt_185 : zeroT Tryz.prog 185 = some (.agg #[.int .u8 (0), .int .u8 (0), .int .u8 (0), .int .u8 (0), .int .u8 (0), .int .u8 (0), .int .u8 (0), .int .u8 (0), .int .u8 (0), .int .u8 (0), .int .u8 (0), .int .u8 (0), .int .u8 (0), .int .u8 (0), .int .u8 (0), .int .u8 (0), .int .u8 (0), .int .u8 (0), .int .u8 (0), .int .u8 (0), .int .u8 (0), .int .u8 (0), .int .u8 (0), .int .u8 (0), .int .u8 (0), .int .u8 (0), .int .u8 (0), .int .u8 (0), .int .u8 (0), .int .u8 (0), .int .u8 (0), .int .u8 (0), .int .u8 (0), .int .u8 (0), .int .u8 (0), .int .u8 (0), .int .u8 (0), .int .u8 (0), .int .u8 (0), .int .u8 (0), .int .u8 (0), .int .u8 (0), .int .u8 (0), .int .u8 (0), .int .u8 (0), .int .u8 (0), .int .u8 (0), .int .u8 (0), .int .u8 (0), .int .u8 (0), .int .u8 (0), .int .u8 (0), .int .u8 (0), .int .u8 (0), .int .u8 (0), .int .u8 (0), .int .u8 (0), .int .u8 (0), .int .u8 (0), .int .u8 (0), .int .u8 (0), .int .u8 (0), .int .u8 (0), .int .u8 (0), .int .u8 (0)]) := by kernel_rfl
theorem ti_188 : tI Tryz.prog 188 = some (3, 32, true) := by kernel_rfl
theorem zt_188 : zeroT Tryz.prog 188 = some (.agg #[.int .i64 (0), .int .i64 (0), .string ⟨#[]⟩]) := by kernel_rfl
theorem ps_188 : plainStruct Tryz.prog 188 = True := ps_of (by kernel_rfl)
theorem ti_189 : tI Tryz.prog 189 = some (3, 32, true) := by kernel_rfl
theorem zt_189 : zeroT Tryz.prog 189 = some (.agg #[.int .i64 (0), .int .i64 (0), .string ⟨#[]⟩]) := by kernel_rfl
theorem ps_189 : plainStruct Tryz.prog 189 = True := ps_of (by kernel_rfl)
theorem ti_190 : tI Tryz.prog 190 = some (4, 48, true) := by kernel_rfl
theorem zt_190 : zeroT Tryz.prog 190 = some (.agg #[.string ⟨#[]⟩, .int .i64 (0), .int .i64 (0), .string ⟨#[]⟩]) := by kernel_rfl
theorem ps_190 : plainStruct Tryz.prog 190 = True := ps_of (by kernel_rfl)
theorem ti_191 : tI Tryz.prog 191 = some (4, 48, true) := by kernel_rfl
theorem zt_191 : zeroT Tryz.prog 191 = some (.agg #[.string ⟨#[]⟩, .int .i64 (0), .int .i64 (0), .string ⟨#[]⟩]) := by kernel_rfl
theorem ps_191 : plainStruct Tryz.prog 191 = True := ps_of (by kernel_rfl)
theorem ti_196 : tI Tryz.prog 196 = some (1, 24, false) := by kernel_rfl
theorem zt_196 : zeroT Tryz.prog 196 = some (.slice none 0 0) := by kernel_rfl
theorem ti_198 : tI Tryz.prog 198 = some (1, 8, false) := by kernel_rfl
theorem zt_198 : zeroT Tryz.prog 198 = some (.pointer none) := by kernel_rfl
theorem ti_199 : tI Tryz.prog 199 = some (4, 80, true) := by kernel_rfl
theorem zt_199 : zeroT Tryz.prog 199 = some (.agg #[.slice none 0 0, .slice none 0 0, .pointer none, .slice none 0 0]) := by kernel_rfl
theorem ps_199 : plainStruct Tryz.prog 199 = True := ps_of (by kernel_rfl)
theorem ti_200 : tI Tryz.prog 200 = some (4, 80, true) := by kernel_rfl
theorem zt_200 : zeroT Tryz.prog 200 = some (.agg #[.slice none 0 0, .slice none 0 0, .pointer none, .slice none 0 0]) := by kernel_rfl
theorem ps_200 : plainStruct Tryz.prog 200 = True := ps_of (by kernel_rfl)
theorem ti_201 : tI Tryz.prog 201 = some (3, 24, true) := by kernel_rfl
theorem zt_201 : zeroT Tryz.prog 201 = some (.agg #[.bool false, .pointer none, .pointer none]) := by kernel_rfl
theorem ps_201 : plainStruct Tryz.prog 201 = True := ps_of (by kernel_rfl)
theorem ti_202 : tI Tryz.prog 202 = some (3, 24, true) := by kernel_rfl
theorem zt_202 : zeroT Tryz.prog 202 = some (.agg #[.bool false, .pointer none, .pointer none]) := by kernel_rfl
theorem ps_202 : plainStruct Tryz.prog 202 = True := ps_of (by kernel_rfl)
theorem ti_205 : tI Tryz.prog 205 = some (4, 32, true) := by kernel_rfl
theorem zt_205 : zeroT Tryz.prog 205 = some (.agg #[.int .u64 (0), .int .u64 (0), .int .u64 (0), .int .u64 (0)]) := by kernel_rfl
theorem ti_226 : tI Tryz.prog 226 = some (1, 24, true) := by kernel_rfl
theorem zt_226 : zeroT Tryz.prog 226 = some (.agg #[.slice none 0 0]) := by kernel_rfl
theorem ps_226 : plainStruct Tryz.prog 226 = True := ps_of (by kernel_rfl)
theorem ti_227 : tI Tryz.prog 227 = some (1, 24, true) := by kernel_rfl
theorem zt_227 : zeroT Tryz.prog 227 = some (.agg #[.slice none 0 0]) := by kernel_rfl
theorem ps_227 : plainStruct Tryz.prog 227 = True := ps_of (by kernel_rfl)
theorem ti_233 : tI Tryz.prog 233 = some (1, 0, false) := by kernel_rfl
theorem zt_233 : zeroT Tryz.prog 233 = some (.tuple #[.slice none 0 0, .int .i64 (0)]) := by kernel_rfl
theorem ti_239 : tI Tryz.prog 239 = some (32, 32, true) := by kernel_rfl
theorem zt_239 : zeroT Tryz.prog 239 = some (.agg #[.int .u8 (0), .int .u8 (0), .int .u8 (0), .int .u8 (0), .int .u8 (0), .int .u8 (0), .int .u8 (0), .int .u8 (0), .int .u8 (0), .int .u8 (0), .int .u8 (0), .int .u8 (0), .int .u8 (0), .int .u8 (0), .int .u8 (0), .int .u8 (0), .int .u8 (0), .int .u8 (0), .int .u8 (0), .int .u8 (0), .int .u8 (0), .int .u8 (0), .int .u8 (0), .int .u8 (0), .int .u8 (0), .int .u8 (0), .int .u8 (0), .int .u8 (0), .int .u8 (0), .int .u8 (0), .int .u8 (0), .int .u8 (0)]) := by kernel_rfl
theorem ti_240 : tI Tryz.prog 240 = some (64, 64, true) := by kernel_rfl
theorem zt_240 : zeroT Tryz.prog 240 = some (.agg #[.int .u8 (0), .int .u8 (0), .int .u8 (0), .int .u8 (0), .int .u8 (0), .int .u8 (0), .int .u8 (0), .int .u8 (0), .int .u8 (0), .int .u8 (0), .int .u8 (0), .int .u8 (0), .int .u8 (0), .int .u8 (0), .int .u8 (0), .int .u8 (0), .int .u8 (0), .int .u8 (0), .int .u8 (0), .int .u8 (0), .int .u8 (0), .int .u8 (0), .int .u8 (0), .int .u8 (0), .int .u8 (0), .int .u8 (0), .int .u8 (0), .int .u8 (0), .int .u8 (0), .int .u8 (0), .int .u8 (0), .int .u8 (0), .int .u8 (0), .int .u8 (0), .int .u8 (0), .int .u8 (0), .int .u8 (0), .int .u8 (0), .int .u8 (0), .int .u8 (0), .int .u8 (0), .int .u8 (0), .int .u8 (0), .int .u8 (0), .int .u8 (0), .int .u8 (0), .int .u8 (0), .int .u8 (0), .int .u8 (0), .int .u8 (0), .int .u8 (0), .int .u8 (0), .int .u8 (0), .int .u8 (0), .int .u8 (0), .int .u8 (0), .int .u8 (0), .int .u8 (0), .int .u8 (0), .int .u8 (0), .int .u8 (0), .int .u8 (0), .int .u8 (0), .int .u8 (0)]) := by kernel_rfl
theorem ti_242 : tI Tryz.prog 242 = some (1, 8, false) := by kernel_rfl
theorem zt_242 : zeroT Tryz.prog 242 = some (.int .i64 (0)) := by kernel_rfl
theorem ti_243 : tI Tryz.prog 243 = some (1, 0, false) := by kernel_rfl
theorem zt_243 : zeroT Tryz.prog 243 = some (.tuple #[.int .i64 (0), .int .i64 (0)]) := by kernel_rfl
theorem ti_248 : tI Tryz.prog 248 = some (256, 2048, true) := by kernel_rfl
theorem ti_252 : tI Tryz.prog 252 = some (1, 8, false) := by kernel_rfl
theorem zt_252 : zeroT Tryz.prog 252 = some (.map none) := by kernel_rfl
theorem ti_254 : tI Tryz.prog 254 = some (2, 24, true) := by kernel_rfl
theorem zt_254 : zeroT Tryz.prog 254 = some (.agg #[.int .i64 (0), .string ⟨#[]⟩]) := by kernel_rfl
theorem ps_254 : plainStruct Tryz.prog 254 = True := ps_of (by kernel_rfl)
theorem ti_255 : tI Tryz.prog 255 = some (2, 24, true) := by kernel_rfl
theorem zt_255 : zeroT Tryz.prog 255 = some (.agg #[.int .i64 (0), .string ⟨#[]⟩]) := by kernel_rfl
theorem ps_255 : plainStruct Tryz.prog 255 = True := ps_of (by kernel_rfl)
theorem ti_256 : tI Tryz.prog 256 = some (1, 8, false) := by kernel_rfl
theorem zt_256 : zeroT Tryz.prog 256 = some (.int .u64 (0)) := by kernel_rfl
theorem ti_260 : tI Tryz.prog 260 = some (1, 8, false) := by kernel_rfl
theorem zt_260 : zeroT Tryz.prog 260 = some (.pointer none) := by kernel_rfl
theorem ti_268 : tI Tryz.prog 268 = some (1, 8, false) := by kernel_rfl
theorem zt_268 : zeroT Tryz.prog 268 = some (.pointer none) := by kernel_rfl
theorem ti_269 : tI Tryz.prog 269 = some (1, 0, false) := by kernel_rfl
theorem zt_269 : zeroT Tryz.prog 269 = some (.tuple #[.int .i64 (0), .int .i64 (0)]) := by kernel_rfl
theorem ti_274 : tI Tryz.prog 274 = some (4, 40, true) := by kernel_rfl
theorem zt_274 : zeroT Tryz.prog 274 = some (.agg #[.pointer none, .pointer none, .pointer none, .string ⟨#[]⟩]) := by kernel_rfl
theorem ti_275 : tI Tryz.prog 275 = some (4, 40, true) := by kernel_rfl
theorem zt_275 : zeroT Tryz.prog 275 = some (.agg #[.pointer none, .pointer none, .pointer none, .string ⟨#[]⟩]) := by kernel_rfl
theorem ti_276 : tI Tryz.prog 276 = some (0, 0, true) := by kernel_rfl
theorem zt_276 : zeroT Tryz.prog 276 = some (.agg #[]) := by kernel_rfl
theorem ti_277 : tI Tryz.prog 277 = some (0, 0, true) := by kernel_rfl
theorem zt_277 : zeroT Tryz.prog 277 = some (.agg #[]) := by kernel_rfl
theorem ti_278 : tI Tryz.prog 278 = some (0, 0, true) := by kernel_rfl
theorem zt_278 : zeroT Tryz.prog 278 = some (.agg #[]) := by kernel_rfl
theorem ti_279 : tI Tryz.prog 279 = some (1, 1, false) := by kernel_rfl
theorem zt_279 : zeroT Tryz.prog 279 = some (.int .u8 (0)) := by kernel_rfl
theorem ti_280 : tI Tryz.prog 280 = some (1, 1, false) := by kernel_rfl
theorem zt_280 : zeroT Tryz.prog 280 = some (.int .u8 (0)) := by kernel_rfl
theorem ti_282 : tI Tryz.prog 282 = some (1, 4, false) := by kernel_rfl
theorem zt_282 : zeroT Tryz.prog 282 = some (.int .i32 (0)) := by kernel_rfl
theorem ti_283 : tI Tryz.prog 283 = some (1, 4, false) := by kernel_rfl
theorem zt_283 : zeroT Tryz.prog 283 = some (.int .i32 (0)) := by kernel_rfl
theorem ti_284 : tI Tryz.prog 284 = some (11, 48, true) := by kernel_rfl
theorem zt_284 : zeroT Tryz.prog 284 = some (.agg #[.int .u64 (0), .int .u64 (0), .int .u32 (0), .int .u8 (0), .int .u8 (0), .int .u8 (0), .int .u8 (0), .nilFunc, .pointer none, .int .i32 (0), .int .i32 (0)]) := by kernel_rfl
theorem ti_285 : tI Tryz.prog 285 = some (11, 48, true) := by kernel_rfl
theorem zt_285 : zeroT Tryz.prog 285 = some (.agg #[.int .u64 (0), .int .u64 (0), .int .u32 (0), .int .u8 (0), .int .u8 (0), .int .u8 (0), .int .u8 (0), .nilFunc, .pointer none, .int .i32 (0), .int .i32 (0)]) := by kernel_rfl
theorem ti_301 : tI Tryz.prog 301 = some (1, 24, false) := by kernel_rfl
theorem zt_301 : zeroT Tryz.prog 301 = some (.slice none 0 0) := by kernel_rfl
theorem ti_302 : tI Tryz.prog 302 = some (4, 32, true) := by kernel_rfl
theorem zt_302 : zeroT Tryz.prog 302 = some (.agg #[.int .i64 (0), .int .i64 (0), .int .i64 (0), .int .u64 (0)]) := by kernel_rfl
theorem ps_302 : plainStruct Tryz.prog 302 = True := ps_of (by kernel_rfl)
theorem ti_303 : tI Tryz.prog 303 = some (4, 32, true) := by kernel_rfl
theorem zt_303 : zeroT Tryz.prog 303 = some (.agg #[.int .i64 (0), .int .i64 (0), .int .i64 (0), .int .u64 (0)]) := by kernel_rfl
attribute [go_sem] ti_0 zt_0 ti_2 zt_2 ti_3 zt_3 ti_4 zt_4 ti_5 zt_5 ti_6 zt_6 ti_7 zt_7 ps_7 ti_8 zt_8 ps_8 ti_9 zt_9 ti_10 zt_10 ti_11 zt_11 ti_12 zt_12 ti_13 zt_13 ti_14 zt_14 ti_15 zt_15 ti_16 zt_16 ti_17 zt_17 ti_18 zt_18 ti_19 zt_19 ti_20 zt_20 ti_21 zt_21 ti_22 zt_22 ti_29 zt_29 ps_29 ti_30 zt_30 ps_30 ti_33 zt_33 ti_36 zt_36 ti_37 zt_37 ti_38 zt_38 ps_38 ti_39 zt_39 ps_39 ti_41 zt_41 ti_42 zt_42 ti_43 zt_43 ti_45 zt_45 ti_46 zt_46 ti_48 zt_48 ps_48 ti_49 zt_49 ps_49 ti_50 zt_50 ti_51 zt_51 ps_51 ti_52 zt_52 ps_52 ti_54 zt_54 ps_54 ti_55 zt_55 ps_55 ti_56 zt_56 ti_58 zt_58 ti_60 zt_60 ti_61 zt_61 ti_62 zt_62 ps_62 ti_63 zt_63 ps_63 ti_65 zt_65 ti_66 zt_66 ti_67 zt_67 ti_71 zt_71 ti_72 zt_72 ps_72 ti_73 zt_73 ps_73 ti_74 zt_74 ps_74 ti_75 zt_75 ps_75 ti_76 zt_76 ti_79 zt_79 ti_80 zt_80 ti_81 zt_81 ps_81 ti_82 zt_82 ps_82 ti_83 zt_83 ti_84 zt_84 ti_85 zt_85 ps_85 ti_86 zt_86 ps_86 ti_87 zt_87 ti_89 zt_89 ps_89 ti_90 zt_90 ps_90 ti_91 zt_91 ti_93 zt_93 ti_94 zt_94 ti_95 zt_95 ti_96 zt_96 ps_96 ti_97 zt_97 ps_97 ti_98 zt_98 ti_101 zt_101 ti_102 zt_102 ti_104 zt_104 ti_105 zt_105 ti_106 zt_106 ti_107 zt_107 ti_108 zt_108 ti_109 zt_109 ti_111 zt_111 ps_111 ti_112 zt_112 ps_112 ti_113 zt_113 ti_116 zt_116 ti_118 zt_118 ps_118 ti_119 zt_119 ps_119 ti_121 zt_121 ti_122 zt_122 ti_124 zt_124 ti_129 zt_129 ti_134 zt_134 ti_135 zt_135 ps_135 ti_136 zt_136 ps_136 ti_137 zt_137 ti_138 zt_138 ps_138 ti_139 zt_139 ps_139 ti_140 zt_140 ti_143 zt_143 ti_146 zt_146 ti_148 zt_148 ti_155 zt_155 ti_157 zt_157 ti_158 zt_158 ti_160 zt_160 ti_161 zt_161 ti_163 zt_163 ti_164 zt_164 ti_165 zt_165 ps_165 ti_166 zt_166 ps_166 ti_174 zt_174 ti_175 zt_175 ps_175 ti_176 zt_176 ps_176 ti_177 zt_177 ps_177 ti_178 zt_178 ps_178 ti_180 zt_180 ti_183 zt_183 ti_184 zt_184 ti_185 zt_185 ti_188 zt_188 ps_188 ti_189 zt_189 ps_189 ti_190 zt_190 ps_190 ti_191 zt_191 ps_191 ti_196 zt_196 ti_198 zt_198 ti_199 zt_199 ps_199 ti_200 zt_200 ps_200 ti_201 zt_201 ps_201 ti_202 zt_202 ps_202 ti_205 zt_205 ti_226 zt_226 ps_226 ti_227 zt_227 ps_227 ti_233 zt_233 ti_239 zt_239 ti_240 zt_240 ti_242 zt_242 ti_243 zt_243 ti_248 ti_252 zt_252 ti_254 zt_254 ps_254 ti_255 zt_255 ps_255 ti_256 zt_256 ti_260 zt_260 ti_268 zt_268 ti_269 zt_269 ti_274 zt_274 ti_275 zt_275 ti_276 zt_276 ti_277 zt_277 ti_278 zt_278 ti_279 zt_279 ti_280 zt_280 ti_282 zt_282 ti_283 zt_283 ti_284 zt_284 ti_285 zt_285 ti_301 zt_301 ti_302 zt_302 ps_302 ti_303 zt_303
attribute [go_sem] Tryz.underlying0 Tryz.underlying1 Tryz.underlying2 Tryz.underlying3 Tryz.underlying4 Tryz.underlying5 Tryz.underlying6 Tryz.underlying7 Tryz.underlying8 Tryz.underlying9 Tryz.underlying10 Tryz.underlying11 Tryz.underlying12 Tryz.underlying13 Tryz.underlying14 Tryz.underlying15 Tryz.underlying16 Tryz.underlying17 Tryz.underlying18 Tryz.underlying19 Tryz.underlying20 Tryz.underlying21 Tryz.underlying22 Tryz.underlying23 Tryz.underlying24 Tryz.underlying25 Tryz.underlying26 Tryz.underlying27 Tryz.underlying28 Tryz.underlying29 Tryz.underlying30 Tryz.underlying31 Tryz.underlying32 Tryz.underlying33 Tryz.underlying34 Tryz.underlying35 Tryz.underlying36 Tryz.underlying37 Tryz.underlying38 Tryz.underlying39 Tryz.underlying40 Tryz.underlying41 Tryz.underlying42 Tryz.underlying43 Tryz.underlying44 Tryz.underlying45 Tryz.underlying46 Tryz.underlying47 Tryz.underlying48 Tryz.underlying49 Tryz.underlying50 Tryz.underlying51 Tryz.underlying52 Tryz.underlying53 Tryz.underlying54 Tryz.underlying55 Tryz.underlying56 Tryz.underlying57 Tryz.underlying58 Tryz.underlying59 Tryz.underlying60 Tryz.underlying61 Tryz.underlying62 Tryz.underlying63 Tryz.underlying64 Tryz.underlying65 Tryz.underlying66 Tryz.underlying67 Tryz.underlying68 Tryz.underlying69 Tryz.underlying70 Tryz.underlying71 Tryz.underlying72 Tryz.underlying73 Tryz.underlying74 Tryz.underlying75 Tryz.underlying76 Tryz.underlying77 Tryz.underlying78 Tryz.underlying79 Tryz.underlying80 Tryz.underlying81 Tryz.underlying82 Tryz.underlying83 Tryz.underlying84 Tryz.underlying85 Tryz.underlying86 Tryz.underlying87 Tryz.underlying88 Tryz.underlying89 Tryz.underlying90 Tryz.underlying91 Tryz.underlying92 Tryz.underlying93 Tryz.underlying94 Tryz.underlying95 Tryz.underlying96 Tryz.underlying97 Tryz.underlying98 Tryz.underlying99 Tryz.underlying100 Tryz.underlying101 Tryz.underlying102 Tryz.underlying103 Tryz.underlying104 Tryz.underlying105 Tryz.underlying106 Tryz.underlying107 Tryz.underlying108 Tryz.underlying109 Tryz.underlying110 Tryz.underlying111 Tryz.underlying112 Tryz.underlying113 Tryz.underlying114 Tryz.underlying115 Tryz.underlying116 Tryz.underlying117 Tryz.underlying118 Tryz.underlying119 Tryz.underlying120 Tryz.underlying121 Tryz.underlying122 Tryz.underlying123 Tryz.underlying124 Tryz.underlying125 Tryz.underlying126 Tryz.underlying127 Tryz.underlying128 Tryz.underlying129 Tryz.underlying130 Tryz.underlying131 Tryz.underlying132 Tryz.underlying133 Tryz.underlying134 Tryz.underlying135 Tryz.underlying136 Tryz.underlying137 Tryz.underlying138 Tryz.underlying139 Tryz.underlying140 Tryz.underlying141 Tryz.underlying142 Tryz.underlying143 Tryz.underlying144 Tryz.underlying145 Tryz.underlying146 Tryz.underlying147 Tryz.underlying148 Tryz.underlying149 Tryz.underlying150 Tryz.underlying151 Tryz.underlying152 Tryz.underlying153 Tryz.underlying154 Tryz.underlying155 Tryz.underlying156 Tryz.underlying157 Tryz.underlying158 Tryz.underlying159 Tryz.underlying160 Tryz.underlying161 Tryz.underlying162 Tryz.underlying163 Tryz.underlying164 Tryz.underlying165 Tryz.underlying166 Tryz.underlying167 Tryz.underlying168 Tryz.underlying169 Tryz.underlying170 Tryz.underlying171 Tryz.underlying172 Tryz.underlying173 Tryz.underlying174 Tryz.underlying175 Tryz.underlying176 Tryz.underlying177 Tryz.underlying178 Tryz.underlying179 Tryz.underlying180 Tryz.underlying181 Tryz.underlying182 Tryz.underlying183 Tryz.underlying184 Tryz.underlying185 Tryz.underlying186 Tryz.underlying187 Tryz.underlying188 Tryz.underlying189 Tryz.underlying190 Tryz.underlying191 Tryz.underlying192 Tryz.underlying193 Tryz.underlying194 Tryz.underlying195 Tryz.underlying196 Tryz.underlying197 Tryz.underlying198 Tryz.underlying199 Tryz.underlying200 Tryz.underlying201 Tryz.underlying202 Tryz.underlying203 Tryz.underlying204 Tryz.underlying205 Tryz.underlying206 Tryz.underlying207 Tryz.underlying208 Tryz.underlying209 Tryz.underlying210 Tryz.underlying211 Tryz.underlying212 Tryz.underlying213 Tryz.underlying214 Tryz.underlying215 Tryz.underlying216 Tryz.underlying217 Tryz.underlying218 Tryz.underlying219 Tryz.underlying220 Tryz.underlying221 Tryz.underlying222 Tryz.underlying223 Tryz.underlying224 Tryz.underlying225 Tryz.underlying226 Tryz.underlying227 Tryz.underlying228 Tryz.underlying229 Tryz.underlying230 Tryz.underlying231 Tryz.underlying232 Tryz.underlying233 Tryz.underlying234 Tryz.underlying235 Tryz.underlying236 Tryz.underlying237 Tryz.underlying238 Tryz.underlying239 Tryz.underlying240 Tryz.underlying241 Tryz.underlying242 Tryz.underlying243 Tryz.underlying244 Tryz.underlying245 Tryz.underlying246 Tryz.underlying247 Tryz.underlying248 Tryz.underlying249 Tryz.underlying250 Tryz.underlying251 Tryz.underlying252 Tryz.underlying253 Tryz.underlying254 Tryz.underlying255 Tryz.underlying256 Tryz.underlying257 Tryz.underlying258 Tryz.underlying259 Tryz.underlying260 Tryz.underlying261 Tryz.underlying262 Tryz.underlying263 Tryz.underlying264 Tryz.underlying265 Tryz.underlying266 Tryz.underlying267 Tryz.underlying268 Tryz.underlying269 Tryz.underlying270 Tryz.underlying271 Tryz.underlying272 Tryz.underlying273 Tryz.underlying274 Tryz.underlying275 Tryz.underlying276 Tryz.underlying277 Tryz.underlying278 Tryz.underlying279 Tryz.underlying280 Tryz.underlying281 Tryz.underlying282 Tryz.underlying283 Tryz.underlying284 Tryz.underlying285 Tryz.underlying286 Tryz.underlying287 Tryz.underlying288 Tryz.underlying289 Tryz.underlying290 Tryz.underlying291 Tryz.underlying292 Tryz.underlying293 Tryz.underlying294 Tryz.underlying295 Tryz.underlying296 Tryz.underlying297 Tryz.underlying298 Tryz.underlying299 Tryz.underlying300 Tryz.underlying301 Tryz.underlying302 Tryz.underlying303
end Go.Proofs.YtdbaklnjemcfgaaGreatDoor.D
