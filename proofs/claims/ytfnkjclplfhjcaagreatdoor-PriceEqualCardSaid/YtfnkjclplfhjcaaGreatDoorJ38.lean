/- Parts 38 of the abstract machine over this program, joined: what each part says stands at its head. -/
import Derived.Test.YtfnkjclplfhjcaaGreatDoorJ36
set_option linter.unusedSimpArgs false
set_option linter.unusedVariables false
/- Facts of the program's types. Printed by mk_facts.py. -/
namespace Go.Am
open Go Go.Proofs

theorem size_3 : CC.size 3 = some 1 := by kernel_rfl
theorem zero_3 : CC.zero 3 = some (.int .i64 0) := by kernel_rfl
theorem und_3 : CC.und 3 = some (.int .i64) := by kernel_rfl
theorem part_3 (l : List Value) (p : Nat) : partOf CC 3 l p = l[p]? := part_one' (by kernel_rfl) l p
theorem ld_3 (b p : Nat) (sp : Option Nat) (h : Heap) : aLoad CC 3 (.pointer (some ⟨b, p, sp⟩)) h = obind (rowAt h b) fun l => l[p]? := load_one (by kernel_rfl) b p sp h
theorem size_4 : CC.size 4 = some 1 := by kernel_rfl
theorem zero_4 : CC.zero 4 = some (.bool false) := by kernel_rfl
theorem und_4 : CC.und 4 = some .bool := by kernel_rfl
theorem ld_4 (b p : Nat) (sp : Option Nat) (h : Heap) : aLoad CC 4 (.pointer (some ⟨b, p, sp⟩)) h = obind (rowAt h b) fun l => l[p]? := load_one (by kernel_rfl) b p sp h
theorem size_5 : CC.size 5 = some 1 := by kernel_rfl
theorem zero_5 : CC.zero 5 = some (.int .u8 0) := by kernel_rfl
theorem und_5 : CC.und 5 = some (.int .u8) := by kernel_rfl
theorem part_5 (l : List Value) (p : Nat) : partOf CC 5 l p = l[p]? := part_one' (by kernel_rfl) l p
theorem size_9 : CC.size 9 = some 1 := by kernel_rfl
theorem zero_9 : CC.zero 9 = some (.string ⟨⟨[]⟩⟩) := by kernel_rfl
theorem und_9 : CC.und 9 = some .string := by kernel_rfl
theorem len_9 (s : ByteArray) (h : Heap) : aLen CC 9 (.string s) h = some (.int .i64 s.data.toList.length) := M_len_str CC 9 h s und_9
theorem size_22 : CC.size 22 = some 1 := by kernel_rfl
theorem zero_22 : CC.zero 22 = some (.slice none 0 0) := by kernel_rfl
theorem und_22 : CC.und 22 = some (.slice 3) := by kernel_rfl
theorem part_22 (l : List Value) (p : Nat) : partOf CC 22 l p = l[p]? := part_one' (by kernel_rfl) l p
theorem ld_22 (b p : Nat) (sp : Option Nat) (h : Heap) : aLoad CC 22 (.pointer (some ⟨b, p, sp⟩)) h = obind (rowAt h b) fun l => l[p]? := load_one (by kernel_rfl) b p sp h
theorem len_22 (p : Option Addr) (n m : Nat) (h : Heap) : aLen CC 22 (.slice p n m) h = some (.int .i64 n) := M_len_slice CC 22 h p n m _ und_22
theorem size_23 : CC.size 23 = some 1 := by kernel_rfl
theorem zero_23 : CC.zero 23 = some (.slice none 0 0) := by kernel_rfl
theorem und_23 : CC.und 23 = some (.slice 72) := by kernel_rfl
theorem ld_23 (b p : Nat) (sp : Option Nat) (h : Heap) : aLoad CC 23 (.pointer (some ⟨b, p, sp⟩)) h = obind (rowAt h b) fun l => l[p]? := load_one (by kernel_rfl) b p sp h
theorem len_23 (p : Option Addr) (n m : Nat) (h : Heap) : aLen CC 23 (.slice p n m) h = some (.int .i64 n) := M_len_slice CC 23 h p n m _ und_23
theorem size_24 : CC.size 24 = some 1 := by kernel_rfl
theorem zero_24 : CC.zero 24 = some (.slice none 0 0) := by kernel_rfl
theorem und_24 : CC.und 24 = some (.slice 41) := by kernel_rfl
theorem ld_24 (b p : Nat) (sp : Option Nat) (h : Heap) : aLoad CC 24 (.pointer (some ⟨b, p, sp⟩)) h = obind (rowAt h b) fun l => l[p]? := load_one (by kernel_rfl) b p sp h
theorem len_24 (p : Option Addr) (n m : Nat) (h : Heap) : aLen CC 24 (.slice p n m) h = some (.int .i64 n) := M_len_slice CC 24 h p n m _ und_24
theorem size_26 : CC.size 26 = some 3 := by kernel_rfl
theorem zero_26 : CC.zero 26 = some (.agg ⟨[.slice none 0 0, .slice none 0 0, .slice none 0 0]⟩) := by kernel_rfl
theorem ld_26 (b p : Nat) (sp : Option Nat) (h : Heap) : aLoad CC 26 (.pointer (some ⟨b, p, sp⟩)) h = obind (rowAt h b) fun l => obind (take? l p 3) fun l => some (mkAgg l) := load_agg (by kernel_rfl) size_26 b p sp h
theorem fld_26_0 : CC.fieldAt 26 0 = some (0, 22, 1) := by kernel_rfl
theorem fp_26_0 (b p : Nat) (sp : Option Nat) : aFieldAddr CC 26 (.pointer (some ⟨b, p, sp⟩)) 0 = some (.val (.pointer (some ⟨b, p + 0, none⟩))) := fieldAddr_at fld_26_0 rfl b p sp
theorem fld_26_1 : CC.fieldAt 26 1 = some (1, 23, 1) := by kernel_rfl
theorem fp_26_1 (b p : Nat) (sp : Option Nat) : aFieldAddr CC 26 (.pointer (some ⟨b, p, sp⟩)) 1 = some (.val (.pointer (some ⟨b, p + 1, none⟩))) := fieldAddr_at fld_26_1 rfl b p sp
theorem fld_26_2 : CC.fieldAt 26 2 = some (2, 24, 1) := by kernel_rfl
theorem fp_26_2 (b p : Nat) (sp : Option Nat) : aFieldAddr CC 26 (.pointer (some ⟨b, p, sp⟩)) 2 = some (.val (.pointer (some ⟨b, p + 2, none⟩))) := fieldAddr_at fld_26_2 rfl b p sp
theorem size_30 : CC.size 30 = some 2 := by kernel_rfl
theorem zero_30 : CC.zero 30 = some (.agg ⟨[.int .i64 0, .int .i64 0]⟩) := by kernel_rfl
theorem ld_30 (b p : Nat) (sp : Option Nat) (h : Heap) : aLoad CC 30 (.pointer (some ⟨b, p, sp⟩)) h = obind (rowAt h b) fun l => obind (take? l p 2) fun l => some (mkAgg l) := load_agg (by kernel_rfl) size_30 b p sp h
theorem fld_30_0 : CC.fieldAt 30 0 = some (0, 3, 1) := by kernel_rfl
theorem fp_30_0 (b p : Nat) (sp : Option Nat) : aFieldAddr CC 30 (.pointer (some ⟨b, p, sp⟩)) 0 = some (.val (.pointer (some ⟨b, p + 0, none⟩))) := fieldAddr_at fld_30_0 rfl b p sp
theorem fld_30_1 : CC.fieldAt 30 1 = some (1, 3, 1) := by kernel_rfl
theorem fp_30_1 (b p : Nat) (sp : Option Nat) : aFieldAddr CC 30 (.pointer (some ⟨b, p, sp⟩)) 1 = some (.val (.pointer (some ⟨b, p + 1, none⟩))) := fieldAddr_at fld_30_1 rfl b p sp
theorem size_31 : CC.size 31 = some 1 := by kernel_rfl
theorem zero_31 : CC.zero 31 = some (.int .i64 0) := by kernel_rfl
theorem und_31 : CC.und 31 = some (.int .i64) := by kernel_rfl
theorem ld_31 (b p : Nat) (sp : Option Nat) (h : Heap) : aLoad CC 31 (.pointer (some ⟨b, p, sp⟩)) h = obind (rowAt h b) fun l => l[p]? := load_one (by kernel_rfl) b p sp h
theorem ld_38 (b p : Nat) (sp : Option Nat) (h : Heap) : aLoad CC 38 (.pointer (some ⟨b, p, sp⟩)) h = obind (rowAt h b) fun l => l[p]? := load_one (by kernel_rfl) b p sp h
theorem size_39 : CC.size 39 = some 1 := by kernel_rfl
theorem zero_39 : CC.zero 39 = some (.int .i64 0) := by kernel_rfl
theorem und_39 : CC.und 39 = some (.int .i64) := by kernel_rfl
theorem ld_39 (b p : Nat) (sp : Option Nat) (h : Heap) : aLoad CC 39 (.pointer (some ⟨b, p, sp⟩)) h = obind (rowAt h b) fun l => l[p]? := load_one (by kernel_rfl) b p sp h
theorem size_41 : CC.size 41 = some 5 := by kernel_rfl
theorem zero_41 : CC.zero 41 = some (.agg ⟨[.int .i64 0, .int .i64 0, .int .i64 0, .int .i64 0, .bool false]⟩) := by kernel_rfl
theorem part_41 (l : List Value) (p : Nat) : partOf CC 41 l p = obind (take? l p 5) fun l => some (mkAgg l) := part_agg' (by kernel_rfl) size_41 l p
theorem ld_41 (b p : Nat) (sp : Option Nat) (h : Heap) : aLoad CC 41 (.pointer (some ⟨b, p, sp⟩)) h = obind (rowAt h b) fun l => obind (take? l p 5) fun l => some (mkAgg l) := load_agg (by kernel_rfl) size_41 b p sp h
theorem fld_41_0 : CC.fieldAt 41 0 = some (0, 38, 1) := by kernel_rfl
theorem fp_41_0 (b p : Nat) (sp : Option Nat) : aFieldAddr CC 41 (.pointer (some ⟨b, p, sp⟩)) 0 = some (.val (.pointer (some ⟨b, p + 0, none⟩))) := fieldAddr_at fld_41_0 rfl b p sp
theorem fld_41_1 : CC.fieldAt 41 1 = some (1, 3, 1) := by kernel_rfl
theorem fp_41_1 (b p : Nat) (sp : Option Nat) : aFieldAddr CC 41 (.pointer (some ⟨b, p, sp⟩)) 1 = some (.val (.pointer (some ⟨b, p + 1, none⟩))) := fieldAddr_at fld_41_1 rfl b p sp
theorem fld_41_2 : CC.fieldAt 41 2 = some (2, 3, 1) := by kernel_rfl
theorem fp_41_2 (b p : Nat) (sp : Option Nat) : aFieldAddr CC 41 (.pointer (some ⟨b, p, sp⟩)) 2 = some (.val (.pointer (some ⟨b, p + 2, none⟩))) := fieldAddr_at fld_41_2 rfl b p sp
theorem fld_41_3 : CC.fieldAt 41 3 = some (3, 39, 1) := by kernel_rfl
theorem fp_41_3 (b p : Nat) (sp : Option Nat) : aFieldAddr CC 41 (.pointer (some ⟨b, p, sp⟩)) 3 = some (.val (.pointer (some ⟨b, p + 3, none⟩))) := fieldAddr_at fld_41_3 rfl b p sp
theorem fld_41_4 : CC.fieldAt 41 4 = some (4, 4, 1) := by kernel_rfl
theorem fp_41_4 (b p : Nat) (sp : Option Nat) : aFieldAddr CC 41 (.pointer (some ⟨b, p, sp⟩)) 4 = some (.val (.pointer (some ⟨b, p + 4, none⟩))) := fieldAddr_at fld_41_4 rfl b p sp
theorem size_43 : CC.size 43 = some 1 := by kernel_rfl
theorem zero_43 : CC.zero 43 = some (.nilFunc) := by kernel_rfl
theorem ld_43 (b p : Nat) (sp : Option Nat) (h : Heap) : aLoad CC 43 (.pointer (some ⟨b, p, sp⟩)) h = obind (rowAt h b) fun l => l[p]? := load_one (by kernel_rfl) b p sp h
theorem size_54 : CC.size 54 = some 1 := by kernel_rfl
theorem zero_54 : CC.zero 54 = some (.slice none 0 0) := by kernel_rfl
theorem und_54 : CC.und 54 = some (.slice 22) := by kernel_rfl
theorem len_54 (p : Option Addr) (n m : Nat) (h : Heap) : aLen CC 54 (.slice p n m) h = some (.int .i64 n) := M_len_slice CC 54 h p n m _ und_54
theorem size_72 : CC.size 72 = some 5 := by kernel_rfl
theorem zero_72 : CC.zero 72 = some (.agg ⟨[.int .i64 0, .int .i64 0, .int .i64 0, .int .i64 0, .int .i64 0]⟩) := by kernel_rfl
theorem part_72 (l : List Value) (p : Nat) : partOf CC 72 l p = obind (take? l p 5) fun l => some (mkAgg l) := part_agg' (by kernel_rfl) size_72 l p
theorem ld_72 (b p : Nat) (sp : Option Nat) (h : Heap) : aLoad CC 72 (.pointer (some ⟨b, p, sp⟩)) h = obind (rowAt h b) fun l => obind (take? l p 5) fun l => some (mkAgg l) := load_agg (by kernel_rfl) size_72 b p sp h
theorem fld_72_0 : CC.fieldAt 72 0 = some (0, 3, 1) := by kernel_rfl
theorem fp_72_0 (b p : Nat) (sp : Option Nat) : aFieldAddr CC 72 (.pointer (some ⟨b, p, sp⟩)) 0 = some (.val (.pointer (some ⟨b, p + 0, none⟩))) := fieldAddr_at fld_72_0 rfl b p sp
theorem fld_72_1 : CC.fieldAt 72 1 = some (1, 3, 1) := by kernel_rfl
theorem fp_72_1 (b p : Nat) (sp : Option Nat) : aFieldAddr CC 72 (.pointer (some ⟨b, p, sp⟩)) 1 = some (.val (.pointer (some ⟨b, p + 1, none⟩))) := fieldAddr_at fld_72_1 rfl b p sp
theorem fld_72_2 : CC.fieldAt 72 2 = some (2, 30, 2) := by kernel_rfl
theorem fp_72_2 (b p : Nat) (sp : Option Nat) : aFieldAddr CC 72 (.pointer (some ⟨b, p, sp⟩)) 2 = some (.val (.pointer (some ⟨b, p + 2, none⟩))) := fieldAddr_at fld_72_2 rfl b p sp
theorem fld_72_3 : CC.fieldAt 72 3 = some (4, 3, 1) := by kernel_rfl
theorem fp_72_3 (b p : Nat) (sp : Option Nat) : aFieldAddr CC 72 (.pointer (some ⟨b, p, sp⟩)) 3 = some (.val (.pointer (some ⟨b, p + 4, none⟩))) := fieldAddr_at fld_72_3 rfl b p sp
theorem size_88 : CC.size 88 = some 1 := by kernel_rfl
theorem zero_88 : CC.zero 88 = some (.slice none 0 0) := by kernel_rfl
theorem und_88 : CC.und 88 = some (.slice 5) := by kernel_rfl
theorem size_92 : CC.size 92 = some 1 := by kernel_rfl
theorem zero_92 : CC.zero 92 = some (.map none) := by kernel_rfl
theorem und_92 : CC.und 92 = some (.map 154 3) := by kernel_rfl
theorem ld_92 (b p : Nat) (sp : Option Nat) (h : Heap) : aLoad CC 92 (.pointer (some ⟨b, p, sp⟩)) h = obind (rowAt h b) fun l => l[p]? := load_one (by kernel_rfl) b p sp h
theorem size_94 : CC.size 94 = some 5 := by kernel_rfl
theorem zero_94 : CC.zero 94 = some (.agg ⟨[.slice none 0 0, .slice none 0 0, .slice none 0 0, .slice none 0 0, .map none]⟩) := by kernel_rfl
theorem ld_94 (b p : Nat) (sp : Option Nat) (h : Heap) : aLoad CC 94 (.pointer (some ⟨b, p, sp⟩)) h = obind (rowAt h b) fun l => obind (take? l p 5) fun l => some (mkAgg l) := load_agg (by kernel_rfl) size_94 b p sp h
theorem fld_94_0 : CC.fieldAt 94 0 = some (0, 26, 3) := by kernel_rfl
theorem fp_94_0 (b p : Nat) (sp : Option Nat) : aFieldAddr CC 94 (.pointer (some ⟨b, p, sp⟩)) 0 = some (.val (.pointer (some ⟨b, p + 0, none⟩))) := fieldAddr_at fld_94_0 rfl b p sp
theorem fld_94_1 : CC.fieldAt 94 1 = some (3, 22, 1) := by kernel_rfl
theorem fp_94_1 (b p : Nat) (sp : Option Nat) : aFieldAddr CC 94 (.pointer (some ⟨b, p, sp⟩)) 1 = some (.val (.pointer (some ⟨b, p + 3, none⟩))) := fieldAddr_at fld_94_1 rfl b p sp
theorem fld_94_2 : CC.fieldAt 94 2 = some (4, 92, 1) := by kernel_rfl
theorem fp_94_2 (b p : Nat) (sp : Option Nat) : aFieldAddr CC 94 (.pointer (some ⟨b, p, sp⟩)) 2 = some (.val (.pointer (some ⟨b, p + 4, none⟩))) := fieldAddr_at fld_94_2 rfl b p sp
theorem size_107 : CC.size 107 = some 1 := by kernel_rfl
theorem zero_107 : CC.zero 107 = some (.agg ⟨[.int .i64 0]⟩) := by kernel_rfl
theorem fld_107_0 : CC.fieldAt 107 0 = some (0, 3, 1) := by kernel_rfl
theorem fp_107_0 (b p : Nat) (sp : Option Nat) : aFieldAddr CC 107 (.pointer (some ⟨b, p, sp⟩)) 0 = some (.val (.pointer (some ⟨b, p + 0, none⟩))) := fieldAddr_at fld_107_0 rfl b p sp
theorem size_108 : CC.size 108 = some 1 := by kernel_rfl
theorem zero_108 : CC.zero 108 = some (.slice none 0 0) := by kernel_rfl
theorem und_108 : CC.und 108 = some (.slice 110) := by kernel_rfl
theorem len_108 (p : Option Addr) (n m : Nat) (h : Heap) : aLen CC 108 (.slice p n m) h = some (.int .i64 n) := M_len_slice CC 108 h p n m _ und_108
theorem size_110 : CC.size 110 = some 2 := by kernel_rfl
theorem zero_110 : CC.zero 110 = some (.agg ⟨[.int .i64 0, .int .i64 0]⟩) := by kernel_rfl
theorem part_110 (l : List Value) (p : Nat) : partOf CC 110 l p = obind (take? l p 2) fun l => some (mkAgg l) := part_agg' (by kernel_rfl) size_110 l p
theorem ld_110 (b p : Nat) (sp : Option Nat) (h : Heap) : aLoad CC 110 (.pointer (some ⟨b, p, sp⟩)) h = obind (rowAt h b) fun l => obind (take? l p 2) fun l => some (mkAgg l) := load_agg (by kernel_rfl) size_110 b p sp h
theorem fld_110_0 : CC.fieldAt 110 0 = some (0, 3, 1) := by kernel_rfl
theorem fp_110_0 (b p : Nat) (sp : Option Nat) : aFieldAddr CC 110 (.pointer (some ⟨b, p, sp⟩)) 0 = some (.val (.pointer (some ⟨b, p + 0, none⟩))) := fieldAddr_at fld_110_0 rfl b p sp
theorem fld_110_1 : CC.fieldAt 110 1 = some (1, 3, 1) := by kernel_rfl
theorem fp_110_1 (b p : Nat) (sp : Option Nat) : aFieldAddr CC 110 (.pointer (some ⟨b, p, sp⟩)) 1 = some (.val (.pointer (some ⟨b, p + 1, none⟩))) := fieldAddr_at fld_110_1 rfl b p sp
theorem size_113 : CC.size 113 = some 2 := by kernel_rfl
theorem zero_113 : CC.zero 113 = some (.agg ⟨[.int .i64 0, .int .i64 0]⟩) := by kernel_rfl
theorem und_113 : CC.und 113 = some (.array 2 3) := by kernel_rfl
theorem und_117 : CC.und 117 = some (.slice 9) := by kernel_rfl
theorem size_129 : CC.size 129 = some 1 := by kernel_rfl
theorem zero_129 : CC.zero 129 = some (.agg ⟨[.string ⟨⟨[]⟩⟩]⟩) := by kernel_rfl
theorem size_137 : CC.size 137 = some 1 := by kernel_rfl
theorem zero_137 : CC.zero 137 = some (.slice none 0 0) := by kernel_rfl
theorem und_137 : CC.und 137 = some (.slice 139) := by kernel_rfl
theorem len_137 (p : Option Addr) (n m : Nat) (h : Heap) : aLen CC 137 (.slice p n m) h = some (.int .i64 n) := M_len_slice CC 137 h p n m _ und_137
theorem size_139 : CC.size 139 = some 2 := by kernel_rfl
theorem zero_139 : CC.zero 139 = some (.agg ⟨[.int .i64 0, .int .i64 0]⟩) := by kernel_rfl
theorem part_139 (l : List Value) (p : Nat) : partOf CC 139 l p = obind (take? l p 2) fun l => some (mkAgg l) := part_agg' (by kernel_rfl) size_139 l p
theorem ld_139 (b p : Nat) (sp : Option Nat) (h : Heap) : aLoad CC 139 (.pointer (some ⟨b, p, sp⟩)) h = obind (rowAt h b) fun l => obind (take? l p 2) fun l => some (mkAgg l) := load_agg (by kernel_rfl) size_139 b p sp h
theorem fld_139_0 : CC.fieldAt 139 0 = some (0, 3, 1) := by kernel_rfl
theorem fp_139_0 (b p : Nat) (sp : Option Nat) : aFieldAddr CC 139 (.pointer (some ⟨b, p, sp⟩)) 0 = some (.val (.pointer (some ⟨b, p + 0, none⟩))) := fieldAddr_at fld_139_0 rfl b p sp
theorem fld_139_1 : CC.fieldAt 139 1 = some (1, 3, 1) := by kernel_rfl
theorem fp_139_1 (b p : Nat) (sp : Option Nat) : aFieldAddr CC 139 (.pointer (some ⟨b, p, sp⟩)) 1 = some (.val (.pointer (some ⟨b, p + 1, none⟩))) := fieldAddr_at fld_139_1 rfl b p sp
theorem und_143 : CC.und 143 = some (.array 6 9) := by kernel_rfl
theorem size_154 : CC.size 154 = some 6 := by kernel_rfl
theorem zero_154 : CC.zero 154 = some (.agg ⟨[.int .i64 0, .int .i64 0, .int .i64 0, .int .i64 0, .bool false, .int .i64 0]⟩) := by kernel_rfl
theorem ld_154 (b p : Nat) (sp : Option Nat) (h : Heap) : aLoad CC 154 (.pointer (some ⟨b, p, sp⟩)) h = obind (rowAt h b) fun l => obind (take? l p 6) fun l => some (mkAgg l) := load_agg (by kernel_rfl) size_154 b p sp h
theorem fld_154_0 : CC.fieldAt 154 0 = some (0, 41, 5) := by kernel_rfl
theorem fld_154_1 : CC.fieldAt 154 1 = some (5, 3, 1) := by kernel_rfl
theorem size_156 : CC.size 156 = some 2 := by kernel_rfl
theorem zero_156 : CC.zero 156 = some (.agg ⟨[.int .i64 0, .int .i64 0]⟩) := by kernel_rfl
theorem ld_156 (b p : Nat) (sp : Option Nat) (h : Heap) : aLoad CC 156 (.pointer (some ⟨b, p, sp⟩)) h = obind (rowAt h b) fun l => obind (take? l p 2) fun l => some (mkAgg l) := load_agg (by kernel_rfl) size_156 b p sp h
theorem fld_156_0 : CC.fieldAt 156 0 = some (0, 3, 1) := by kernel_rfl
theorem fp_156_0 (b p : Nat) (sp : Option Nat) : aFieldAddr CC 156 (.pointer (some ⟨b, p, sp⟩)) 0 = some (.val (.pointer (some ⟨b, p + 0, none⟩))) := fieldAddr_at fld_156_0 rfl b p sp
theorem fld_156_1 : CC.fieldAt 156 1 = some (1, 3, 1) := by kernel_rfl
theorem fp_156_1 (b p : Nat) (sp : Option Nat) : aFieldAddr CC 156 (.pointer (some ⟨b, p, sp⟩)) 1 = some (.val (.pointer (some ⟨b, p + 1, none⟩))) := fieldAddr_at fld_156_1 rfl b p sp
theorem size_160 : CC.size 160 = some 1 := by kernel_rfl
theorem part_160 (l : List Value) (p : Nat) : partOf CC 160 l p = l[p]? := part_one' (by kernel_rfl) l p
theorem und_166 : CC.und 166 = some (.int .u64) := by kernel_rfl
theorem und_170 : CC.und 170 = some (.array 4 9) := by kernel_rfl
theorem size_183 : CC.size 183 = some 1 := by kernel_rfl
theorem part_183 (l : List Value) (p : Nat) : partOf CC 183 l p = l[p]? := part_one' (by kernel_rfl) l p
theorem ld_183 (b p : Nat) (sp : Option Nat) (h : Heap) : aLoad CC 183 (.pointer (some ⟨b, p, sp⟩)) h = obind (rowAt h b) fun l => l[p]? := load_one (by kernel_rfl) b p sp h
theorem size_184 : CC.size 184 = some 4 := by kernel_rfl
theorem zero_184 : CC.zero 184 = some (.agg ⟨[.nilFunc, .nilFunc, .nilFunc, .nilFunc]⟩) := by kernel_rfl
theorem und_184 : CC.und 184 = some (.array 4 183) := by kernel_rfl
theorem size_186 : CC.size 186 = some 0 := by kernel_rfl
theorem zero_186 : CC.zero 186 = some (.agg ⟨[]⟩) := by kernel_rfl
theorem size_187 : CC.size 187 = some 0 := by kernel_rfl
theorem zero_187 : CC.zero 187 = some (.agg ⟨[]⟩) := by kernel_rfl
theorem size_188 : CC.size 188 = some 0 := by kernel_rfl
theorem zero_188 : CC.zero 188 = some (.agg ⟨[]⟩) := by kernel_rfl
theorem size_189 : CC.size 189 = some 0 := by kernel_rfl
theorem zero_189 : CC.zero 189 = some (.agg ⟨[]⟩) := by kernel_rfl
theorem size_190 : CC.size 190 = some 4 := by kernel_rfl
theorem zero_190 : CC.zero 190 = some (.agg ⟨[.nilIface, .nilIface, .nilIface, .nilIface]⟩) := by kernel_rfl
theorem und_190 : CC.und 190 = some (.array 4 160) := by kernel_rfl
theorem und_191 : CC.und 191 = some (.int .u32) := by kernel_rfl
theorem mi_1 (v : Value) : aMakeIface CC 1 v = some (.val (.iface 1 v)) := make_iface (by kernel_rfl) v
theorem mi_2 (v : Value) : aMakeIface CC 2 v = some (.val (.iface 2 v)) := make_iface (by kernel_rfl) v
theorem mi_3 (v : Value) : aMakeIface CC 3 v = some (.val (.iface 3 v)) := make_iface (by kernel_rfl) v
theorem mi_4 (v : Value) : aMakeIface CC 4 v = some (.val (.iface 4 v)) := make_iface (by kernel_rfl) v
theorem mi_5 (v : Value) : aMakeIface CC 5 v = some (.val (.iface 5 v)) := make_iface (by kernel_rfl) v
theorem mi_6 (v : Value) : aMakeIface CC 6 v = some (.val (.iface 6 v)) := make_iface (by kernel_rfl) v
theorem mi_7 (v : Value) : aMakeIface CC 7 v = some (.val (.iface 7 v)) := make_iface (by kernel_rfl) v
theorem mi_8 (v : Value) : aMakeIface CC 8 v = some (.val (.iface 8 v)) := make_iface (by kernel_rfl) v
theorem mi_9 (v : Value) : aMakeIface CC 9 v = some (.val (.iface 9 v)) := make_iface (by kernel_rfl) v
theorem mi_10 (v : Value) : aMakeIface CC 10 v = some (.val (.iface 10 v)) := make_iface (by kernel_rfl) v
theorem mi_11 (v : Value) : aMakeIface CC 11 v = some (.val (.iface 11 v)) := make_iface (by kernel_rfl) v
theorem mi_12 (v : Value) : aMakeIface CC 12 v = some (.val (.iface 12 v)) := make_iface (by kernel_rfl) v
theorem mi_13 (v : Value) : aMakeIface CC 13 v = some (.val (.iface 13 v)) := make_iface (by kernel_rfl) v
theorem mi_14 (v : Value) : aMakeIface CC 14 v = some (.val (.iface 14 v)) := make_iface (by kernel_rfl) v
theorem mi_15 (v : Value) : aMakeIface CC 15 v = some (.val (.iface 15 v)) := make_iface (by kernel_rfl) v
theorem mi_16 (v : Value) : aMakeIface CC 16 v = some (.val (.iface 16 v)) := make_iface (by kernel_rfl) v
theorem mi_17 (v : Value) : aMakeIface CC 17 v = some (.val (.iface 17 v)) := make_iface (by kernel_rfl) v
theorem mi_18 (v : Value) : aMakeIface CC 18 v = some (.val (.iface 18 v)) := make_iface (by kernel_rfl) v
theorem mi_19 (v : Value) : aMakeIface CC 19 v = some (.val (.iface 19 v)) := make_iface (by kernel_rfl) v
theorem mi_21 (v : Value) : aMakeIface CC 21 v = some (.val (.iface 21 v)) := make_iface (by kernel_rfl) v
theorem mi_22 (v : Value) : aMakeIface CC 22 v = some (.val (.iface 22 v)) := make_iface (by kernel_rfl) v
theorem ix_22 (b o : Nat) (sp : Option Nat) (len cap i : Nat) (hi : i < len) : aIndexAddr CC 22 (.slice (some ⟨b, o, sp⟩) len cap) (.int .i64 i) = some (.pointer (some ⟨b, o + i * 1, none⟩)) := ix_slice und_22 size_3 b o sp len cap i hi
theorem bs_22 {v : Value} (h : cellsOf v = [v]) : aBuildSlice CC 22 1 [(0, v)] = some (.new (.row [v] 1 true) (sliceTo 1 1 1)) := buildSlice_one und_22 size_3 zero_3 rfl h
theorem app_22 : AppT CC 22 22 1 := appT (by kernel_rfl)
theorem mi_23 (v : Value) : aMakeIface CC 23 v = some (.val (.iface 23 v)) := make_iface (by kernel_rfl) v
theorem ix_23 (b o : Nat) (sp : Option Nat) (len cap i : Nat) (hi : i < len) : aIndexAddr CC 23 (.slice (some ⟨b, o, sp⟩) len cap) (.int .i64 i) = some (.pointer (some ⟨b, o + i * 5, none⟩)) := ix_slice und_23 size_72 b o sp len cap i hi
theorem app_23 : AppT CC 23 23 5 := appT (by kernel_rfl)
theorem mi_24 (v : Value) : aMakeIface CC 24 v = some (.val (.iface 24 v)) := make_iface (by kernel_rfl) v
theorem ix_24 (b o : Nat) (sp : Option Nat) (len cap i : Nat) (hi : i < len) : aIndexAddr CC 24 (.slice (some ⟨b, o, sp⟩) len cap) (.int .i64 i) = some (.pointer (some ⟨b, o + i * 5, none⟩)) := ix_slice und_24 size_41 b o sp len cap i hi
theorem app_24 : AppT CC 24 24 5 := appT (by kernel_rfl)
theorem mi_25 (v : Value) : aMakeIface CC 25 v = some (.val (.iface 25 v)) := make_iface (by kernel_rfl) v
theorem sp_26_0 : structPlace CC 26 0 = some (0, 1) := place_struct fld_26_0
theorem sp_26_1 : structPlace CC 26 1 = some (1, 1) := place_struct fld_26_1
theorem sp_26_2 : structPlace CC 26 2 = some (2, 1) := place_struct fld_26_2
theorem bld_26 (p : List (Nat × Value)) : aBuild CC 26 p = obind (fillWith (structPlace CC 26) p [.slice none 0 0, .slice none 0 0, .slice none 0 0]) fun l => some (mkAgg l) := build_struct (by kernel_rfl) zero_26 p
theorem mi_26 (v : Value) : aMakeIface CC 26 v = some (.val (.iface 26 v)) := make_iface (by kernel_rfl) v
theorem mi_27 (v : Value) : aMakeIface CC 27 v = some (.val (.iface 27 v)) := make_iface (by kernel_rfl) v
theorem mi_28 (v : Value) : aMakeIface CC 28 v = some (.val (.iface 28 v)) := make_iface (by kernel_rfl) v
theorem mi_29 (v : Value) : aMakeIface CC 29 v = some (.val (.iface 29 v)) := make_iface (by kernel_rfl) v
theorem sp_30_0 : structPlace CC 30 0 = some (0, 1) := place_struct fld_30_0
theorem sp_30_1 : structPlace CC 30 1 = some (1, 1) := place_struct fld_30_1
theorem bld_30 (p : List (Nat × Value)) : aBuild CC 30 p = obind (fillWith (structPlace CC 30) p [.int .i64 0, .int .i64 0]) fun l => some (mkAgg l) := build_struct (by kernel_rfl) zero_30 p
theorem mi_30 (v : Value) : aMakeIface CC 30 v = some (.val (.iface 30 v)) := make_iface (by kernel_rfl) v
theorem mi_31 (v : Value) : aMakeIface CC 31 v = some (.val (.iface 31 v)) := make_iface (by kernel_rfl) v
theorem mi_33 (v : Value) : aMakeIface CC 33 v = some (.val (.iface 33 v)) := make_iface (by kernel_rfl) v
theorem mi_35 (v : Value) : aMakeIface CC 35 v = some (.val (.iface 35 v)) := make_iface (by kernel_rfl) v
theorem mi_36 (v : Value) : aMakeIface CC 36 v = some (.val (.iface 36 v)) := make_iface (by kernel_rfl) v
theorem mi_37 (v : Value) : aMakeIface CC 37 v = some (.val (.iface 37 v)) := make_iface (by kernel_rfl) v
theorem mi_38 (v : Value) : aMakeIface CC 38 v = some (.val (.iface 38 v)) := make_iface (by kernel_rfl) v
theorem mi_39 (v : Value) : aMakeIface CC 39 v = some (.val (.iface 39 v)) := make_iface (by kernel_rfl) v
theorem mi_40 (v : Value) : aMakeIface CC 40 v = some (.val (.iface 40 v)) := make_iface (by kernel_rfl) v
theorem sp_41_0 : structPlace CC 41 0 = some (0, 1) := place_struct fld_41_0
theorem sp_41_1 : structPlace CC 41 1 = some (1, 1) := place_struct fld_41_1
theorem sp_41_2 : structPlace CC 41 2 = some (2, 1) := place_struct fld_41_2
theorem sp_41_3 : structPlace CC 41 3 = some (3, 1) := place_struct fld_41_3
theorem sp_41_4 : structPlace CC 41 4 = some (4, 1) := place_struct fld_41_4
theorem bld_41 (p : List (Nat × Value)) : aBuild CC 41 p = obind (fillWith (structPlace CC 41) p [.int .i64 0, .int .i64 0, .int .i64 0, .int .i64 0, .bool false]) fun l => some (mkAgg l) := build_struct (by kernel_rfl) zero_41 p
theorem mi_41 (v : Value) : aMakeIface CC 41 v = some (.val (.iface 41 v)) := make_iface (by kernel_rfl) v
theorem mi_42 (v : Value) : aMakeIface CC 42 v = some (.val (.iface 42 v)) := make_iface (by kernel_rfl) v
theorem mi_43 (v : Value) : aMakeIface CC 43 v = some (.val (.iface 43 v)) := make_iface (by kernel_rfl) v
theorem mi_45 (v : Value) : aMakeIface CC 45 v = some (.val (.iface 45 v)) := make_iface (by kernel_rfl) v
theorem mi_46 (v : Value) : aMakeIface CC 46 v = some (.val (.iface 46 v)) := make_iface (by kernel_rfl) v
theorem mi_47 (v : Value) : aMakeIface CC 47 v = some (.val (.iface 47 v)) := make_iface (by kernel_rfl) v
theorem mi_48 (v : Value) : aMakeIface CC 48 v = some (.val (.iface 48 v)) := make_iface (by kernel_rfl) v
theorem mi_49 (v : Value) : aMakeIface CC 49 v = some (.val (.iface 49 v)) := make_iface (by kernel_rfl) v
theorem mi_50 (v : Value) : aMakeIface CC 50 v = some (.val (.iface 50 v)) := make_iface (by kernel_rfl) v
theorem mi_52 (v : Value) : aMakeIface CC 52 v = some (.val (.iface 52 v)) := make_iface (by kernel_rfl) v
theorem mi_53 (v : Value) : aMakeIface CC 53 v = some (.val (.iface 53 v)) := make_iface (by kernel_rfl) v
theorem mi_54 (v : Value) : aMakeIface CC 54 v = some (.val (.iface 54 v)) := make_iface (by kernel_rfl) v
theorem ix_54 (b o : Nat) (sp : Option Nat) (len cap i : Nat) (hi : i < len) : aIndexAddr CC 54 (.slice (some ⟨b, o, sp⟩) len cap) (.int .i64 i) = some (.pointer (some ⟨b, o + i * 1, none⟩)) := ix_slice und_54 size_22 b o sp len cap i hi
theorem bs_54 {v : Value} (h : cellsOf v = [v]) : aBuildSlice CC 54 1 [(0, v)] = some (.new (.row [v] 1 true) (sliceTo 1 1 1)) := buildSlice_one und_54 size_22 zero_22 rfl h
theorem app_54 : AppT CC 54 54 1 := appT (by kernel_rfl)
theorem mi_55 (v : Value) : aMakeIface CC 55 v = some (.val (.iface 55 v)) := make_iface (by kernel_rfl) v
theorem mi_56 (v : Value) : aMakeIface CC 56 v = some (.val (.iface 56 v)) := make_iface (by kernel_rfl) v
theorem mi_57 (v : Value) : aMakeIface CC 57 v = some (.val (.iface 57 v)) := make_iface (by kernel_rfl) v
theorem mi_58 (v : Value) : aMakeIface CC 58 v = some (.val (.iface 58 v)) := make_iface (by kernel_rfl) v
theorem mi_59 (v : Value) : aMakeIface CC 59 v = some (.val (.iface 59 v)) := make_iface (by kernel_rfl) v
theorem mi_60 (v : Value) : aMakeIface CC 60 v = some (.val (.iface 60 v)) := make_iface (by kernel_rfl) v
theorem mi_62 (v : Value) : aMakeIface CC 62 v = some (.val (.iface 62 v)) := make_iface (by kernel_rfl) v
theorem mi_64 (v : Value) : aMakeIface CC 64 v = some (.val (.iface 64 v)) := make_iface (by kernel_rfl) v
theorem mi_66 (v : Value) : aMakeIface CC 66 v = some (.val (.iface 66 v)) := make_iface (by kernel_rfl) v
theorem mi_67 (v : Value) : aMakeIface CC 67 v = some (.val (.iface 67 v)) := make_iface (by kernel_rfl) v
theorem mi_68 (v : Value) : aMakeIface CC 68 v = some (.val (.iface 68 v)) := make_iface (by kernel_rfl) v
theorem mi_69 (v : Value) : aMakeIface CC 69 v = some (.val (.iface 69 v)) := make_iface (by kernel_rfl) v
theorem mi_70 (v : Value) : aMakeIface CC 70 v = some (.val (.iface 70 v)) := make_iface (by kernel_rfl) v
theorem mi_71 (v : Value) : aMakeIface CC 71 v = some (.val (.iface 71 v)) := make_iface (by kernel_rfl) v
theorem sp_72_0 : structPlace CC 72 0 = some (0, 1) := place_struct fld_72_0
theorem sp_72_1 : structPlace CC 72 1 = some (1, 1) := place_struct fld_72_1
theorem sp_72_2 : structPlace CC 72 2 = some (2, 2) := place_struct fld_72_2
theorem sp_72_3 : structPlace CC 72 3 = some (4, 1) := place_struct fld_72_3
theorem bld_72 (p : List (Nat × Value)) : aBuild CC 72 p = obind (fillWith (structPlace CC 72) p [.int .i64 0, .int .i64 0, .int .i64 0, .int .i64 0, .int .i64 0]) fun l => some (mkAgg l) := build_struct (by kernel_rfl) zero_72 p
theorem mi_72 (v : Value) : aMakeIface CC 72 v = some (.val (.iface 72 v)) := make_iface (by kernel_rfl) v
theorem mi_73 (v : Value) : aMakeIface CC 73 v = some (.val (.iface 73 v)) := make_iface (by kernel_rfl) v
theorem mi_74 (v : Value) : aMakeIface CC 74 v = some (.val (.iface 74 v)) := make_iface (by kernel_rfl) v
theorem mi_75 (v : Value) : aMakeIface CC 75 v = some (.val (.iface 75 v)) := make_iface (by kernel_rfl) v
theorem mi_76 (v : Value) : aMakeIface CC 76 v = some (.val (.iface 76 v)) := make_iface (by kernel_rfl) v
theorem mi_77 (v : Value) : aMakeIface CC 77 v = some (.val (.iface 77 v)) := make_iface (by kernel_rfl) v
theorem mi_78 (v : Value) : aMakeIface CC 78 v = some (.val (.iface 78 v)) := make_iface (by kernel_rfl) v
theorem mi_80 (v : Value) : aMakeIface CC 80 v = some (.val (.iface 80 v)) := make_iface (by kernel_rfl) v
theorem mi_82 (v : Value) : aMakeIface CC 82 v = some (.val (.iface 82 v)) := make_iface (by kernel_rfl) v
theorem mi_83 (v : Value) : aMakeIface CC 83 v = some (.val (.iface 83 v)) := make_iface (by kernel_rfl) v
theorem mi_84 (v : Value) : aMakeIface CC 84 v = some (.val (.iface 84 v)) := make_iface (by kernel_rfl) v
theorem mi_86 (v : Value) : aMakeIface CC 86 v = some (.val (.iface 86 v)) := make_iface (by kernel_rfl) v
theorem mi_87 (v : Value) : aMakeIface CC 87 v = some (.val (.iface 87 v)) := make_iface (by kernel_rfl) v
theorem mi_88 (v : Value) : aMakeIface CC 88 v = some (.val (.iface 88 v)) := make_iface (by kernel_rfl) v
theorem ix_88 (b o : Nat) (sp : Option Nat) (len cap i : Nat) (hi : i < len) : aIndexAddr CC 88 (.slice (some ⟨b, o, sp⟩) len cap) (.int .i64 i) = some (.pointer (some ⟨b, o + i * 1, none⟩)) := ix_slice und_88 size_5 b o sp len cap i hi
theorem bs_88 {v : Value} (h : cellsOf v = [v]) : aBuildSlice CC 88 1 [(0, v)] = some (.new (.row [v] 1 true) (sliceTo 1 1 1)) := buildSlice_one und_88 size_5 zero_5 rfl h
theorem app_88 : AppT CC 88 88 1 := appT (by kernel_rfl)
theorem mi_89 (v : Value) : aMakeIface CC 89 v = some (.val (.iface 89 v)) := make_iface (by kernel_rfl) v
theorem mi_91 (v : Value) : aMakeIface CC 91 v = some (.val (.iface 91 v)) := make_iface (by kernel_rfl) v
theorem mi_92 (v : Value) : aMakeIface CC 92 v = some (.val (.iface 92 v)) := make_iface (by kernel_rfl) v
theorem mi_93 (v : Value) : aMakeIface CC 93 v = some (.val (.iface 93 v)) := make_iface (by kernel_rfl) v
theorem sp_94_0 : structPlace CC 94 0 = some (0, 3) := place_struct fld_94_0
theorem sp_94_1 : structPlace CC 94 1 = some (3, 1) := place_struct fld_94_1
theorem sp_94_2 : structPlace CC 94 2 = some (4, 1) := place_struct fld_94_2
theorem bld_94 (p : List (Nat × Value)) : aBuild CC 94 p = obind (fillWith (structPlace CC 94) p [.slice none 0 0, .slice none 0 0, .slice none 0 0, .slice none 0 0, .map none]) fun l => some (mkAgg l) := build_struct (by kernel_rfl) zero_94 p
theorem mi_94 (v : Value) : aMakeIface CC 94 v = some (.val (.iface 94 v)) := make_iface (by kernel_rfl) v
theorem mi_95 (v : Value) : aMakeIface CC 95 v = some (.val (.iface 95 v)) := make_iface (by kernel_rfl) v
theorem mi_96 (v : Value) : aMakeIface CC 96 v = some (.val (.iface 96 v)) := make_iface (by kernel_rfl) v
theorem mi_97 (v : Value) : aMakeIface CC 97 v = some (.val (.iface 97 v)) := make_iface (by kernel_rfl) v
theorem mi_98 (v : Value) : aMakeIface CC 98 v = some (.val (.iface 98 v)) := make_iface (by kernel_rfl) v
theorem mi_99 (v : Value) : aMakeIface CC 99 v = some (.val (.iface 99 v)) := make_iface (by kernel_rfl) v
theorem mi_100 (v : Value) : aMakeIface CC 100 v = some (.val (.iface 100 v)) := make_iface (by kernel_rfl) v
theorem mi_101 (v : Value) : aMakeIface CC 101 v = some (.val (.iface 101 v)) := make_iface (by kernel_rfl) v
theorem mi_102 (v : Value) : aMakeIface CC 102 v = some (.val (.iface 102 v)) := make_iface (by kernel_rfl) v
theorem mi_103 (v : Value) : aMakeIface CC 103 v = some (.val (.iface 103 v)) := make_iface (by kernel_rfl) v
theorem mi_104 (v : Value) : aMakeIface CC 104 v = some (.val (.iface 104 v)) := make_iface (by kernel_rfl) v
theorem mi_105 (v : Value) : aMakeIface CC 105 v = some (.val (.iface 105 v)) := make_iface (by kernel_rfl) v
theorem mi_106 (v : Value) : aMakeIface CC 106 v = some (.val (.iface 106 v)) := make_iface (by kernel_rfl) v
theorem sp_107_0 : structPlace CC 107 0 = some (0, 1) := place_struct fld_107_0
theorem bld_107 (p : List (Nat × Value)) : aBuild CC 107 p = obind (fillWith (structPlace CC 107) p [.int .i64 0]) fun l => some (mkAgg l) := build_struct (by kernel_rfl) zero_107 p
theorem mi_107 (v : Value) : aMakeIface CC 107 v = some (.val (.iface 107 v)) := make_iface (by kernel_rfl) v
theorem mi_108 (v : Value) : aMakeIface CC 108 v = some (.val (.iface 108 v)) := make_iface (by kernel_rfl) v
theorem ix_108 (b o : Nat) (sp : Option Nat) (len cap i : Nat) (hi : i < len) : aIndexAddr CC 108 (.slice (some ⟨b, o, sp⟩) len cap) (.int .i64 i) = some (.pointer (some ⟨b, o + i * 2, none⟩)) := ix_slice und_108 size_110 b o sp len cap i hi
theorem app_108 : AppT CC 108 108 2 := appT (by kernel_rfl)
theorem mi_109 (v : Value) : aMakeIface CC 109 v = some (.val (.iface 109 v)) := make_iface (by kernel_rfl) v
theorem sp_110_0 : structPlace CC 110 0 = some (0, 1) := place_struct fld_110_0
theorem sp_110_1 : structPlace CC 110 1 = some (1, 1) := place_struct fld_110_1
theorem bld_110 (p : List (Nat × Value)) : aBuild CC 110 p = obind (fillWith (structPlace CC 110) p [.int .i64 0, .int .i64 0]) fun l => some (mkAgg l) := build_struct (by kernel_rfl) zero_110 p
theorem mi_110 (v : Value) : aMakeIface CC 110 v = some (.val (.iface 110 v)) := make_iface (by kernel_rfl) v
theorem mi_111 (v : Value) : aMakeIface CC 111 v = some (.val (.iface 111 v)) := make_iface (by kernel_rfl) v
theorem mi_112 (v : Value) : aMakeIface CC 112 v = some (.val (.iface 112 v)) := make_iface (by kernel_rfl) v
theorem bld_113 (p : List (Nat × Value)) : aBuild CC 113 p = obind (fillWith (rowPlace 1) p [.int .i64 0, .int .i64 0]) fun l => some (mkAgg l) := build_array und_113 size_3 zero_113 p
theorem ia_113_0 (b o : Nat) (sp : Option Nat) : aIndexAddr CC 113 (.pointer (some ⟨b, o, sp⟩)) (.int .i64 0) = some (.pointer (some ⟨b, o + 0, none⟩)) := indexAddr_array und_113 size_3 b o sp 0 (by decide)
theorem xi_113_0 (l : List Value) : aIndex CC 113 (.agg ⟨l⟩) (.int .i64 0) = l[0]? := index_array und_113 size_3 (by kernel_rfl) l 0 (by decide)
theorem ia_113_1 (b o : Nat) (sp : Option Nat) : aIndexAddr CC 113 (.pointer (some ⟨b, o, sp⟩)) (.int .i64 1) = some (.pointer (some ⟨b, o + 1, none⟩)) := indexAddr_array und_113 size_3 b o sp 1 (by decide)
theorem xi_113_1 (l : List Value) : aIndex CC 113 (.agg ⟨l⟩) (.int .i64 1) = l[1]? := index_array und_113 size_3 (by kernel_rfl) l 1 (by decide)
theorem mi_113 (v : Value) : aMakeIface CC 113 v = some (.val (.iface 113 v)) := make_iface (by kernel_rfl) v
theorem mi_114 (v : Value) : aMakeIface CC 114 v = some (.val (.iface 114 v)) := make_iface (by kernel_rfl) v
theorem mi_115 (v : Value) : aMakeIface CC 115 v = some (.val (.iface 115 v)) := make_iface (by kernel_rfl) v
theorem mi_116 (v : Value) : aMakeIface CC 116 v = some (.val (.iface 116 v)) := make_iface (by kernel_rfl) v
theorem mi_117 (v : Value) : aMakeIface CC 117 v = some (.val (.iface 117 v)) := make_iface (by kernel_rfl) v
theorem bs_117 {v : Value} (h : cellsOf v = [v]) : aBuildSlice CC 117 1 [(0, v)] = some (.new (.row [v] 1 true) (sliceTo 1 1 1)) := buildSlice_one und_117 size_9 zero_9 rfl h
theorem app_117 : AppT CC 117 117 1 := appT (by kernel_rfl)
theorem mi_118 (v : Value) : aMakeIface CC 118 v = some (.val (.iface 118 v)) := make_iface (by kernel_rfl) v
theorem mi_119 (v : Value) : aMakeIface CC 119 v = some (.val (.iface 119 v)) := make_iface (by kernel_rfl) v
theorem mi_120 (v : Value) : aMakeIface CC 120 v = some (.val (.iface 120 v)) := make_iface (by kernel_rfl) v
theorem mi_121 (v : Value) : aMakeIface CC 121 v = some (.val (.iface 121 v)) := make_iface (by kernel_rfl) v
theorem mi_123 (v : Value) : aMakeIface CC 123 v = some (.val (.iface 123 v)) := make_iface (by kernel_rfl) v
theorem mi_125 (v : Value) : aMakeIface CC 125 v = some (.val (.iface 125 v)) := make_iface (by kernel_rfl) v
theorem mi_126 (v : Value) : aMakeIface CC 126 v = some (.val (.iface 126 v)) := make_iface (by kernel_rfl) v
theorem mi_127 (v : Value) : aMakeIface CC 127 v = some (.val (.iface 127 v)) := make_iface (by kernel_rfl) v
theorem mi_128 (v : Value) : aMakeIface CC 128 v = some (.val (.iface 128 v)) := make_iface (by kernel_rfl) v
theorem mi_129 (v : Value) : aMakeIface CC 129 v = some (.val (.iface 129 v)) := make_iface (by kernel_rfl) v
theorem mi_130 (v : Value) : aMakeIface CC 130 v = some (.val (.iface 130 v)) := make_iface (by kernel_rfl) v
theorem mi_131 (v : Value) : aMakeIface CC 131 v = some (.val (.iface 131 v)) := make_iface (by kernel_rfl) v
theorem mi_132 (v : Value) : aMakeIface CC 132 v = some (.val (.iface 132 v)) := make_iface (by kernel_rfl) v
theorem mi_133 (v : Value) : aMakeIface CC 133 v = some (.val (.iface 133 v)) := make_iface (by kernel_rfl) v
theorem mi_134 (v : Value) : aMakeIface CC 134 v = some (.val (.iface 134 v)) := make_iface (by kernel_rfl) v
theorem mi_135 (v : Value) : aMakeIface CC 135 v = some (.val (.iface 135 v)) := make_iface (by kernel_rfl) v
theorem mi_136 (v : Value) : aMakeIface CC 136 v = some (.val (.iface 136 v)) := make_iface (by kernel_rfl) v
theorem mi_137 (v : Value) : aMakeIface CC 137 v = some (.val (.iface 137 v)) := make_iface (by kernel_rfl) v
theorem ix_137 (b o : Nat) (sp : Option Nat) (len cap i : Nat) (hi : i < len) : aIndexAddr CC 137 (.slice (some ⟨b, o, sp⟩) len cap) (.int .i64 i) = some (.pointer (some ⟨b, o + i * 2, none⟩)) := ix_slice und_137 size_139 b o sp len cap i hi
theorem app_137 : AppT CC 137 137 2 := appT (by kernel_rfl)
theorem mi_138 (v : Value) : aMakeIface CC 138 v = some (.val (.iface 138 v)) := make_iface (by kernel_rfl) v
theorem sp_139_0 : structPlace CC 139 0 = some (0, 1) := place_struct fld_139_0
theorem sp_139_1 : structPlace CC 139 1 = some (1, 1) := place_struct fld_139_1
theorem bld_139 (p : List (Nat × Value)) : aBuild CC 139 p = obind (fillWith (structPlace CC 139) p [.int .i64 0, .int .i64 0]) fun l => some (mkAgg l) := build_struct (by kernel_rfl) zero_139 p
theorem mi_139 (v : Value) : aMakeIface CC 139 v = some (.val (.iface 139 v)) := make_iface (by kernel_rfl) v
theorem mi_140 (v : Value) : aMakeIface CC 140 v = some (.val (.iface 140 v)) := make_iface (by kernel_rfl) v
theorem mi_141 (v : Value) : aMakeIface CC 141 v = some (.val (.iface 141 v)) := make_iface (by kernel_rfl) v
theorem mi_142 (v : Value) : aMakeIface CC 142 v = some (.val (.iface 142 v)) := make_iface (by kernel_rfl) v
theorem ia_143_0 (b o : Nat) (sp : Option Nat) : aIndexAddr CC 143 (.pointer (some ⟨b, o, sp⟩)) (.int .i64 0) = some (.pointer (some ⟨b, o + 0, none⟩)) := indexAddr_array und_143 size_9 b o sp 0 (by decide)
theorem xi_143_0 (l : List Value) : aIndex CC 143 (.agg ⟨l⟩) (.int .i64 0) = l[0]? := index_array und_143 size_9 (by kernel_rfl) l 0 (by decide)
theorem ia_143_1 (b o : Nat) (sp : Option Nat) : aIndexAddr CC 143 (.pointer (some ⟨b, o, sp⟩)) (.int .i64 1) = some (.pointer (some ⟨b, o + 1, none⟩)) := indexAddr_array und_143 size_9 b o sp 1 (by decide)
theorem xi_143_1 (l : List Value) : aIndex CC 143 (.agg ⟨l⟩) (.int .i64 1) = l[1]? := index_array und_143 size_9 (by kernel_rfl) l 1 (by decide)
theorem ia_143_2 (b o : Nat) (sp : Option Nat) : aIndexAddr CC 143 (.pointer (some ⟨b, o, sp⟩)) (.int .i64 2) = some (.pointer (some ⟨b, o + 2, none⟩)) := indexAddr_array und_143 size_9 b o sp 2 (by decide)
theorem xi_143_2 (l : List Value) : aIndex CC 143 (.agg ⟨l⟩) (.int .i64 2) = l[2]? := index_array und_143 size_9 (by kernel_rfl) l 2 (by decide)
theorem ia_143_3 (b o : Nat) (sp : Option Nat) : aIndexAddr CC 143 (.pointer (some ⟨b, o, sp⟩)) (.int .i64 3) = some (.pointer (some ⟨b, o + 3, none⟩)) := indexAddr_array und_143 size_9 b o sp 3 (by decide)
theorem xi_143_3 (l : List Value) : aIndex CC 143 (.agg ⟨l⟩) (.int .i64 3) = l[3]? := index_array und_143 size_9 (by kernel_rfl) l 3 (by decide)
theorem ia_143_4 (b o : Nat) (sp : Option Nat) : aIndexAddr CC 143 (.pointer (some ⟨b, o, sp⟩)) (.int .i64 4) = some (.pointer (some ⟨b, o + 4, none⟩)) := indexAddr_array und_143 size_9 b o sp 4 (by decide)
theorem xi_143_4 (l : List Value) : aIndex CC 143 (.agg ⟨l⟩) (.int .i64 4) = l[4]? := index_array und_143 size_9 (by kernel_rfl) l 4 (by decide)
theorem ia_143_5 (b o : Nat) (sp : Option Nat) : aIndexAddr CC 143 (.pointer (some ⟨b, o, sp⟩)) (.int .i64 5) = some (.pointer (some ⟨b, o + 5, none⟩)) := indexAddr_array und_143 size_9 b o sp 5 (by decide)
theorem xi_143_5 (l : List Value) : aIndex CC 143 (.agg ⟨l⟩) (.int .i64 5) = l[5]? := index_array und_143 size_9 (by kernel_rfl) l 5 (by decide)
theorem mi_143 (v : Value) : aMakeIface CC 143 v = some (.val (.iface 143 v)) := make_iface (by kernel_rfl) v
theorem mi_144 (v : Value) : aMakeIface CC 144 v = some (.val (.iface 144 v)) := make_iface (by kernel_rfl) v
theorem mi_145 (v : Value) : aMakeIface CC 145 v = some (.val (.iface 145 v)) := make_iface (by kernel_rfl) v
theorem mi_146 (v : Value) : aMakeIface CC 146 v = some (.val (.iface 146 v)) := make_iface (by kernel_rfl) v
theorem mi_147 (v : Value) : aMakeIface CC 147 v = some (.val (.iface 147 v)) := make_iface (by kernel_rfl) v
theorem mi_148 (v : Value) : aMakeIface CC 148 v = some (.val (.iface 148 v)) := make_iface (by kernel_rfl) v
theorem mi_149 (v : Value) : aMakeIface CC 149 v = some (.val (.iface 149 v)) := make_iface (by kernel_rfl) v
theorem mi_150 (v : Value) : aMakeIface CC 150 v = some (.val (.iface 150 v)) := make_iface (by kernel_rfl) v
theorem mi_151 (v : Value) : aMakeIface CC 151 v = some (.val (.iface 151 v)) := make_iface (by kernel_rfl) v
theorem mi_152 (v : Value) : aMakeIface CC 152 v = some (.val (.iface 152 v)) := make_iface (by kernel_rfl) v
theorem mi_153 (v : Value) : aMakeIface CC 153 v = some (.val (.iface 153 v)) := make_iface (by kernel_rfl) v
theorem sp_154_0 : structPlace CC 154 0 = some (0, 5) := place_struct fld_154_0
theorem sp_154_1 : structPlace CC 154 1 = some (5, 1) := place_struct fld_154_1
theorem bld_154 (p : List (Nat × Value)) : aBuild CC 154 p = obind (fillWith (structPlace CC 154) p [.int .i64 0, .int .i64 0, .int .i64 0, .int .i64 0, .bool false, .int .i64 0]) fun l => some (mkAgg l) := build_struct (by kernel_rfl) zero_154 p
theorem mi_154 (v : Value) : aMakeIface CC 154 v = some (.val (.iface 154 v)) := make_iface (by kernel_rfl) v
theorem mi_155 (v : Value) : aMakeIface CC 155 v = some (.val (.iface 155 v)) := make_iface (by kernel_rfl) v
theorem sp_156_0 : structPlace CC 156 0 = some (0, 1) := place_struct fld_156_0
theorem sp_156_1 : structPlace CC 156 1 = some (1, 1) := place_struct fld_156_1
theorem bld_156 (p : List (Nat × Value)) : aBuild CC 156 p = obind (fillWith (structPlace CC 156) p [.int .i64 0, .int .i64 0]) fun l => some (mkAgg l) := build_struct (by kernel_rfl) zero_156 p
theorem mi_156 (v : Value) : aMakeIface CC 156 v = some (.val (.iface 156 v)) := make_iface (by kernel_rfl) v
theorem mi_157 (v : Value) : aMakeIface CC 157 v = some (.val (.iface 157 v)) := make_iface (by kernel_rfl) v
theorem mi_158 (v : Value) : aMakeIface CC 158 v = some (.val (.iface 158 v)) := make_iface (by kernel_rfl) v
theorem mi_161 (v : Value) : aMakeIface CC 161 v = some (.val (.iface 161 v)) := make_iface (by kernel_rfl) v
theorem mi_162 (v : Value) : aMakeIface CC 162 v = some (.val (.iface 162 v)) := make_iface (by kernel_rfl) v
theorem mi_163 (v : Value) : aMakeIface CC 163 v = some (.val (.iface 163 v)) := make_iface (by kernel_rfl) v
theorem mi_164 (v : Value) : aMakeIface CC 164 v = some (.val (.iface 164 v)) := make_iface (by kernel_rfl) v
theorem mi_165 (v : Value) : aMakeIface CC 165 v = some (.val (.iface 165 v)) := make_iface (by kernel_rfl) v
theorem mi_166 (v : Value) : aMakeIface CC 166 v = some (.val (.iface 166 v)) := make_iface (by kernel_rfl) v
theorem mi_168 (v : Value) : aMakeIface CC 168 v = some (.val (.iface 168 v)) := make_iface (by kernel_rfl) v
theorem mi_169 (v : Value) : aMakeIface CC 169 v = some (.val (.iface 169 v)) := make_iface (by kernel_rfl) v
theorem ia_170_0 (b o : Nat) (sp : Option Nat) : aIndexAddr CC 170 (.pointer (some ⟨b, o, sp⟩)) (.int .i64 0) = some (.pointer (some ⟨b, o + 0, none⟩)) := indexAddr_array und_170 size_9 b o sp 0 (by decide)
theorem xi_170_0 (l : List Value) : aIndex CC 170 (.agg ⟨l⟩) (.int .i64 0) = l[0]? := index_array und_170 size_9 (by kernel_rfl) l 0 (by decide)
theorem ia_170_1 (b o : Nat) (sp : Option Nat) : aIndexAddr CC 170 (.pointer (some ⟨b, o, sp⟩)) (.int .i64 1) = some (.pointer (some ⟨b, o + 1, none⟩)) := indexAddr_array und_170 size_9 b o sp 1 (by decide)
theorem xi_170_1 (l : List Value) : aIndex CC 170 (.agg ⟨l⟩) (.int .i64 1) = l[1]? := index_array und_170 size_9 (by kernel_rfl) l 1 (by decide)
theorem ia_170_2 (b o : Nat) (sp : Option Nat) : aIndexAddr CC 170 (.pointer (some ⟨b, o, sp⟩)) (.int .i64 2) = some (.pointer (some ⟨b, o + 2, none⟩)) := indexAddr_array und_170 size_9 b o sp 2 (by decide)
theorem xi_170_2 (l : List Value) : aIndex CC 170 (.agg ⟨l⟩) (.int .i64 2) = l[2]? := index_array und_170 size_9 (by kernel_rfl) l 2 (by decide)
theorem ia_170_3 (b o : Nat) (sp : Option Nat) : aIndexAddr CC 170 (.pointer (some ⟨b, o, sp⟩)) (.int .i64 3) = some (.pointer (some ⟨b, o + 3, none⟩)) := indexAddr_array und_170 size_9 b o sp 3 (by decide)
theorem xi_170_3 (l : List Value) : aIndex CC 170 (.agg ⟨l⟩) (.int .i64 3) = l[3]? := index_array und_170 size_9 (by kernel_rfl) l 3 (by decide)
theorem mi_170 (v : Value) : aMakeIface CC 170 v = some (.val (.iface 170 v)) := make_iface (by kernel_rfl) v
theorem mi_171 (v : Value) : aMakeIface CC 171 v = some (.val (.iface 171 v)) := make_iface (by kernel_rfl) v
theorem mi_172 (v : Value) : aMakeIface CC 172 v = some (.val (.iface 172 v)) := make_iface (by kernel_rfl) v
theorem mi_173 (v : Value) : aMakeIface CC 173 v = some (.val (.iface 173 v)) := make_iface (by kernel_rfl) v
theorem mi_174 (v : Value) : aMakeIface CC 174 v = some (.val (.iface 174 v)) := make_iface (by kernel_rfl) v
theorem mi_175 (v : Value) : aMakeIface CC 175 v = some (.val (.iface 175 v)) := make_iface (by kernel_rfl) v
theorem mi_179 (v : Value) : aMakeIface CC 179 v = some (.val (.iface 179 v)) := make_iface (by kernel_rfl) v
theorem mi_180 (v : Value) : aMakeIface CC 180 v = some (.val (.iface 180 v)) := make_iface (by kernel_rfl) v
theorem mi_181 (v : Value) : aMakeIface CC 181 v = some (.val (.iface 181 v)) := make_iface (by kernel_rfl) v
theorem mi_182 (v : Value) : aMakeIface CC 182 v = some (.val (.iface 182 v)) := make_iface (by kernel_rfl) v
theorem mi_183 (v : Value) : aMakeIface CC 183 v = some (.val (.iface 183 v)) := make_iface (by kernel_rfl) v
theorem bld_184 (p : List (Nat × Value)) : aBuild CC 184 p = obind (fillWith (rowPlace 1) p [.nilFunc, .nilFunc, .nilFunc, .nilFunc]) fun l => some (mkAgg l) := build_array und_184 size_183 zero_184 p
theorem ia_184_0 (b o : Nat) (sp : Option Nat) : aIndexAddr CC 184 (.pointer (some ⟨b, o, sp⟩)) (.int .i64 0) = some (.pointer (some ⟨b, o + 0, none⟩)) := indexAddr_array und_184 size_183 b o sp 0 (by decide)
theorem xi_184_0 (l : List Value) : aIndex CC 184 (.agg ⟨l⟩) (.int .i64 0) = l[0]? := index_array und_184 size_183 (by kernel_rfl) l 0 (by decide)
theorem ia_184_1 (b o : Nat) (sp : Option Nat) : aIndexAddr CC 184 (.pointer (some ⟨b, o, sp⟩)) (.int .i64 1) = some (.pointer (some ⟨b, o + 1, none⟩)) := indexAddr_array und_184 size_183 b o sp 1 (by decide)
theorem xi_184_1 (l : List Value) : aIndex CC 184 (.agg ⟨l⟩) (.int .i64 1) = l[1]? := index_array und_184 size_183 (by kernel_rfl) l 1 (by decide)
theorem ia_184_2 (b o : Nat) (sp : Option Nat) : aIndexAddr CC 184 (.pointer (some ⟨b, o, sp⟩)) (.int .i64 2) = some (.pointer (some ⟨b, o + 2, none⟩)) := indexAddr_array und_184 size_183 b o sp 2 (by decide)
theorem xi_184_2 (l : List Value) : aIndex CC 184 (.agg ⟨l⟩) (.int .i64 2) = l[2]? := index_array und_184 size_183 (by kernel_rfl) l 2 (by decide)
theorem ia_184_3 (b o : Nat) (sp : Option Nat) : aIndexAddr CC 184 (.pointer (some ⟨b, o, sp⟩)) (.int .i64 3) = some (.pointer (some ⟨b, o + 3, none⟩)) := indexAddr_array und_184 size_183 b o sp 3 (by decide)
theorem xi_184_3 (l : List Value) : aIndex CC 184 (.agg ⟨l⟩) (.int .i64 3) = l[3]? := index_array und_184 size_183 (by kernel_rfl) l 3 (by decide)
theorem mi_184 (v : Value) : aMakeIface CC 184 v = some (.val (.iface 184 v)) := make_iface (by kernel_rfl) v
theorem mi_185 (v : Value) : aMakeIface CC 185 v = some (.val (.iface 185 v)) := make_iface (by kernel_rfl) v
theorem bld_186 (p : List (Nat × Value)) : aBuild CC 186 p = obind (fillWith (structPlace CC 186) p []) fun l => some (mkAgg l) := build_struct (by kernel_rfl) zero_186 p
theorem mi_186 (v : Value) : aMakeIface CC 186 v = some (.val (.iface 186 v)) := make_iface (by kernel_rfl) v
theorem bld_187 (p : List (Nat × Value)) : aBuild CC 187 p = obind (fillWith (structPlace CC 187) p []) fun l => some (mkAgg l) := build_struct (by kernel_rfl) zero_187 p
theorem mi_187 (v : Value) : aMakeIface CC 187 v = some (.val (.iface 187 v)) := make_iface (by kernel_rfl) v
theorem bld_188 (p : List (Nat × Value)) : aBuild CC 188 p = obind (fillWith (structPlace CC 188) p []) fun l => some (mkAgg l) := build_struct (by kernel_rfl) zero_188 p
theorem mi_188 (v : Value) : aMakeIface CC 188 v = some (.val (.iface 188 v)) := make_iface (by kernel_rfl) v
theorem bld_189 (p : List (Nat × Value)) : aBuild CC 189 p = obind (fillWith (structPlace CC 189) p []) fun l => some (mkAgg l) := build_struct (by kernel_rfl) zero_189 p
theorem mi_189 (v : Value) : aMakeIface CC 189 v = some (.val (.iface 189 v)) := make_iface (by kernel_rfl) v
theorem bld_190 (p : List (Nat × Value)) : aBuild CC 190 p = obind (fillWith (rowPlace 1) p [.nilIface, .nilIface, .nilIface, .nilIface]) fun l => some (mkAgg l) := build_array und_190 size_160 zero_190 p
theorem ia_190_0 (b o : Nat) (sp : Option Nat) : aIndexAddr CC 190 (.pointer (some ⟨b, o, sp⟩)) (.int .i64 0) = some (.pointer (some ⟨b, o + 0, none⟩)) := indexAddr_array und_190 size_160 b o sp 0 (by decide)
theorem xi_190_0 (l : List Value) : aIndex CC 190 (.agg ⟨l⟩) (.int .i64 0) = l[0]? := index_array und_190 size_160 (by kernel_rfl) l 0 (by decide)
theorem ia_190_1 (b o : Nat) (sp : Option Nat) : aIndexAddr CC 190 (.pointer (some ⟨b, o, sp⟩)) (.int .i64 1) = some (.pointer (some ⟨b, o + 1, none⟩)) := indexAddr_array und_190 size_160 b o sp 1 (by decide)
theorem xi_190_1 (l : List Value) : aIndex CC 190 (.agg ⟨l⟩) (.int .i64 1) = l[1]? := index_array und_190 size_160 (by kernel_rfl) l 1 (by decide)
theorem ia_190_2 (b o : Nat) (sp : Option Nat) : aIndexAddr CC 190 (.pointer (some ⟨b, o, sp⟩)) (.int .i64 2) = some (.pointer (some ⟨b, o + 2, none⟩)) := indexAddr_array und_190 size_160 b o sp 2 (by decide)
theorem xi_190_2 (l : List Value) : aIndex CC 190 (.agg ⟨l⟩) (.int .i64 2) = l[2]? := index_array und_190 size_160 (by kernel_rfl) l 2 (by decide)
theorem ia_190_3 (b o : Nat) (sp : Option Nat) : aIndexAddr CC 190 (.pointer (some ⟨b, o, sp⟩)) (.int .i64 3) = some (.pointer (some ⟨b, o + 3, none⟩)) := indexAddr_array und_190 size_160 b o sp 3 (by decide)
theorem xi_190_3 (l : List Value) : aIndex CC 190 (.agg ⟨l⟩) (.int .i64 3) = l[3]? := index_array und_190 size_160 (by kernel_rfl) l 3 (by decide)
theorem mi_190 (v : Value) : aMakeIface CC 190 v = some (.val (.iface 190 v)) := make_iface (by kernel_rfl) v
theorem mi_191 (v : Value) : aMakeIface CC 191 v = some (.val (.iface 191 v)) := make_iface (by kernel_rfl) v
theorem mi_193 (v : Value) : aMakeIface CC 193 v = some (.val (.iface 193 v)) := make_iface (by kernel_rfl) v
theorem mi_194 (v : Value) : aMakeIface CC 194 v = some (.val (.iface 194 v)) := make_iface (by kernel_rfl) v
theorem mi_196 (v : Value) : aMakeIface CC 196 v = some (.val (.iface 196 v)) := make_iface (by kernel_rfl) v
theorem mi_197 (v : Value) : aMakeIface CC 197 v = some (.val (.iface 197 v)) := make_iface (by kernel_rfl) v
theorem mi_198 (v : Value) : aMakeIface CC 198 v = some (.val (.iface 198 v)) := make_iface (by kernel_rfl) v
theorem mi_199 (v : Value) : aMakeIface CC 199 v = some (.val (.iface 199 v)) := make_iface (by kernel_rfl) v
end Go.Am
