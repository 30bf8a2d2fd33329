/- Facts of the program's types. Printed by mk_facts.py. -/
import Derived.Test.YtlflfbnnjlkkcaaGreatJT37
set_option linter.unusedSimpArgs false
set_option linter.unusedVariables false
set_option linter.defProp false
namespace Go.Am
open Go Go.Proofs
theorem size_3 : CC.size 3 = some 1 := by kernel_rfl
theorem zero_3 : CC.zero 3 = some (.int .i64 0) := by kernel_rfl
theorem und_3 : CC.und 3 = some (.int .i64) := by kernel_rfl
theorem part_3 (l : List Value) (p : Nat) : partOf CC 3 l p = l[p]? := part_one' (by kernel_rfl) l p
theorem ld_3 (b p : Nat) (sp : Option Nat) (h : Heap) : aLoad CC 3 (.pointer (some ⟨b, p, sp⟩)) h = obind (rowAt h b) fun l => l[p]? := load_one (by kernel_rfl) b p sp h
theorem size_4 : CC.size 4 = some 1 := by kernel_rfl
theorem zero_4 : CC.zero 4 = some (.bool false) := by kernel_rfl
theorem und_4 : CC.und 4 = some .bool := by kernel_rfl
theorem ld_4 (b p : Nat) (sp : Option Nat) (h : Heap) : aLoad CC 4 (.pointer (some ⟨b, p, sp⟩)) h = obind (rowAt h b) fun l => l[p]? := load_one (by kernel_rfl) b p sp h
theorem size_22 : CC.size 22 = some 1 := by kernel_rfl
theorem zero_22 : CC.zero 22 = some (.slice none 0 0) := by kernel_rfl
theorem und_22 : CC.und 22 = some (.slice 3) := by kernel_rfl
theorem part_22 (l : List Value) (p : Nat) : partOf CC 22 l p = l[p]? := part_one' (by kernel_rfl) l p
theorem ld_22 (b p : Nat) (sp : Option Nat) (h : Heap) : aLoad CC 22 (.pointer (some ⟨b, p, sp⟩)) h = obind (rowAt h b) fun l => l[p]? := load_one (by kernel_rfl) b p sp h
theorem len_22 (p : Option Addr) (n m : Nat) (h : Heap) : aLen CC 22 (.slice p n m) h = some (.int .i64 n) := M_len_slice CC 22 h p n m _ und_22
theorem size_23 : CC.size 23 = some 1 := by kernel_rfl
theorem zero_23 : CC.zero 23 = some (.slice none 0 0) := by kernel_rfl
theorem und_23 : CC.und 23 = some (.slice 200) := by kernel_rfl
theorem ld_23 (b p : Nat) (sp : Option Nat) (h : Heap) : aLoad CC 23 (.pointer (some ⟨b, p, sp⟩)) h = obind (rowAt h b) fun l => l[p]? := load_one (by kernel_rfl) b p sp h
theorem size_25 : CC.size 25 = some 2 := by kernel_rfl
theorem zero_25 : CC.zero 25 = some (.agg ⟨[.int .i64 0, .int .i64 0]⟩) := by kernel_rfl
theorem part_25 (l : List Value) (p : Nat) : partOf CC 25 l p = obind (take? l p 2) fun l => some (mkAgg l) := part_agg' (by kernel_rfl) size_25 l p
theorem ld_25 (b p : Nat) (sp : Option Nat) (h : Heap) : aLoad CC 25 (.pointer (some ⟨b, p, sp⟩)) h = obind (rowAt h b) fun l => obind (take? l p 2) fun l => some (mkAgg l) := load_agg (by kernel_rfl) size_25 b p sp h
theorem fld_25_0 : CC.fieldAt 25 0 = some (0, 3, 1) := by kernel_rfl
theorem fp_25_0 (b p : Nat) (sp : Option Nat) : aFieldAddr CC 25 (.pointer (some ⟨b, p, sp⟩)) 0 = some (.val (.pointer (some ⟨b, p + 0, none⟩))) := fieldAddr_at fld_25_0 rfl b p sp
theorem fld_25_1 : CC.fieldAt 25 1 = some (1, 3, 1) := by kernel_rfl
theorem fp_25_1 (b p : Nat) (sp : Option Nat) : aFieldAddr CC 25 (.pointer (some ⟨b, p, sp⟩)) 1 = some (.val (.pointer (some ⟨b, p + 1, none⟩))) := fieldAddr_at fld_25_1 rfl b p sp
theorem size_26 : CC.size 26 = some 1 := by kernel_rfl
theorem zero_26 : CC.zero 26 = some (.slice none 0 0) := by kernel_rfl
theorem und_26 : CC.und 26 = some (.slice 94) := by kernel_rfl
theorem ld_26 (b p : Nat) (sp : Option Nat) (h : Heap) : aLoad CC 26 (.pointer (some ⟨b, p, sp⟩)) h = obind (rowAt h b) fun l => l[p]? := load_one (by kernel_rfl) b p sp h
theorem len_26 (p : Option Addr) (n m : Nat) (h : Heap) : aLen CC 26 (.slice p n m) h = some (.int .i64 n) := M_len_slice CC 26 h p n m _ und_26
theorem size_28 : CC.size 28 = some 10 := by kernel_rfl
theorem ld_28 (b p : Nat) (sp : Option Nat) (h : Heap) : aLoad CC 28 (.pointer (some ⟨b, p, sp⟩)) h = obind (rowAt h b) fun l => obind (take? l p 10) fun l => some (mkAgg l) := load_agg (by kernel_rfl) size_28 b p sp h
theorem fld_28_0 : CC.fieldAt 28 0 = some (0, 22, 1) := by kernel_rfl
theorem fp_28_0 (b p : Nat) (sp : Option Nat) : aFieldAddr CC 28 (.pointer (some ⟨b, p, sp⟩)) 0 = some (.val (.pointer (some ⟨b, p + 0, none⟩))) := fieldAddr_at fld_28_0 rfl b p sp
theorem fld_28_1 : CC.fieldAt 28 1 = some (1, 23, 1) := by kernel_rfl
theorem fp_28_1 (b p : Nat) (sp : Option Nat) : aFieldAddr CC 28 (.pointer (some ⟨b, p, sp⟩)) 1 = some (.val (.pointer (some ⟨b, p + 1, none⟩))) := fieldAddr_at fld_28_1 rfl b p sp
theorem fld_28_5 : CC.fieldAt 28 5 = some (7, 26, 1) := by kernel_rfl
theorem fp_28_5 (b p : Nat) (sp : Option Nat) : aFieldAddr CC 28 (.pointer (some ⟨b, p, sp⟩)) 5 = some (.val (.pointer (some ⟨b, p + 7, none⟩))) := fieldAddr_at fld_28_5 rfl b p sp
theorem fld_28_6 : CC.fieldAt 28 6 = some (8, 3, 1) := by kernel_rfl
theorem fp_28_6 (b p : Nat) (sp : Option Nat) : aFieldAddr CC 28 (.pointer (some ⟨b, p, sp⟩)) 6 = some (.val (.pointer (some ⟨b, p + 8, none⟩))) := fieldAddr_at fld_28_6 rfl b p sp
theorem size_29 : CC.size 29 = some 1 := by kernel_rfl
theorem zero_29 : CC.zero 29 = some (.slice none 0 0) := by kernel_rfl
theorem und_29 : CC.und 29 = some (.slice 25) := by kernel_rfl
theorem ld_29 (b p : Nat) (sp : Option Nat) (h : Heap) : aLoad CC 29 (.pointer (some ⟨b, p, sp⟩)) h = obind (rowAt h b) fun l => l[p]? := load_one (by kernel_rfl) b p sp h
theorem len_29 (p : Option Addr) (n m : Nat) (h : Heap) : aLen CC 29 (.slice p n m) h = some (.int .i64 n) := M_len_slice CC 29 h p n m _ und_29
theorem size_30 : CC.size 30 = some 1 := by kernel_rfl
theorem zero_30 : CC.zero 30 = some (.slice none 0 0) := by kernel_rfl
theorem und_30 : CC.und 30 = some (.slice 206) := by kernel_rfl
theorem ld_30 (b p : Nat) (sp : Option Nat) (h : Heap) : aLoad CC 30 (.pointer (some ⟨b, p, sp⟩)) h = obind (rowAt h b) fun l => l[p]? := load_one (by kernel_rfl) b p sp h
theorem size_32 : CC.size 32 = some 3 := by kernel_rfl
theorem zero_32 : CC.zero 32 = some (.agg ⟨[.slice none 0 0, .slice none 0 0, .slice none 0 0]⟩) := by kernel_rfl
theorem ld_32 (b p : Nat) (sp : Option Nat) (h : Heap) : aLoad CC 32 (.pointer (some ⟨b, p, sp⟩)) h = obind (rowAt h b) fun l => obind (take? l p 3) fun l => some (mkAgg l) := load_agg (by kernel_rfl) size_32 b p sp h
theorem fld_32_0 : CC.fieldAt 32 0 = some (0, 29, 1) := by kernel_rfl
theorem fp_32_0 (b p : Nat) (sp : Option Nat) : aFieldAddr CC 32 (.pointer (some ⟨b, p, sp⟩)) 0 = some (.val (.pointer (some ⟨b, p + 0, none⟩))) := fieldAddr_at fld_32_0 rfl b p sp
theorem fld_32_1 : CC.fieldAt 32 1 = some (1, 22, 1) := by kernel_rfl
theorem fp_32_1 (b p : Nat) (sp : Option Nat) : aFieldAddr CC 32 (.pointer (some ⟨b, p, sp⟩)) 1 = some (.val (.pointer (some ⟨b, p + 1, none⟩))) := fieldAddr_at fld_32_1 rfl b p sp
theorem fld_32_2 : CC.fieldAt 32 2 = some (2, 30, 1) := by kernel_rfl
theorem fp_32_2 (b p : Nat) (sp : Option Nat) : aFieldAddr CC 32 (.pointer (some ⟨b, p, sp⟩)) 2 = some (.val (.pointer (some ⟨b, p + 2, none⟩))) := fieldAddr_at fld_32_2 rfl b p sp
theorem size_33 : CC.size 33 = some 1 := by kernel_rfl
theorem zero_33 : CC.zero 33 = some (.slice none 0 0) := by kernel_rfl
theorem und_33 : CC.und 33 = some (.slice 22) := by kernel_rfl
theorem ld_33 (b p : Nat) (sp : Option Nat) (h : Heap) : aLoad CC 33 (.pointer (some ⟨b, p, sp⟩)) h = obind (rowAt h b) fun l => l[p]? := load_one (by kernel_rfl) b p sp h
theorem len_33 (p : Option Addr) (n m : Nat) (h : Heap) : aLen CC 33 (.slice p n m) h = some (.int .i64 n) := M_len_slice CC 33 h p n m _ und_33
theorem size_35 : CC.size 35 = some 2 := by kernel_rfl
theorem zero_35 : CC.zero 35 = some (.agg ⟨[.int .i64 0, .slice none 0 0]⟩) := by kernel_rfl
theorem ld_35 (b p : Nat) (sp : Option Nat) (h : Heap) : aLoad CC 35 (.pointer (some ⟨b, p, sp⟩)) h = obind (rowAt h b) fun l => obind (take? l p 2) fun l => some (mkAgg l) := load_agg (by kernel_rfl) size_35 b p sp h
theorem fld_35_1 : CC.fieldAt 35 1 = some (1, 33, 1) := by kernel_rfl
theorem fp_35_1 (b p : Nat) (sp : Option Nat) : aFieldAddr CC 35 (.pointer (some ⟨b, p, sp⟩)) 1 = some (.val (.pointer (some ⟨b, p + 1, none⟩))) := fieldAddr_at fld_35_1 rfl b p sp
theorem size_36 : CC.size 36 = some 1 := by kernel_rfl
theorem zero_36 : CC.zero 36 = some (.slice none 0 0) := by kernel_rfl
theorem und_36 : CC.und 36 = some (.slice 96) := by kernel_rfl
theorem ld_36 (b p : Nat) (sp : Option Nat) (h : Heap) : aLoad CC 36 (.pointer (some ⟨b, p, sp⟩)) h = obind (rowAt h b) fun l => l[p]? := load_one (by kernel_rfl) b p sp h
theorem len_36 (p : Option Addr) (n m : Nat) (h : Heap) : aLen CC 36 (.slice p n m) h = some (.int .i64 n) := M_len_slice CC 36 h p n m _ und_36
theorem size_38 : CC.size 38 = some 3 := by kernel_rfl
theorem ld_38 (b p : Nat) (sp : Option Nat) (h : Heap) : aLoad CC 38 (.pointer (some ⟨b, p, sp⟩)) h = obind (rowAt h b) fun l => obind (take? l p 3) fun l => some (mkAgg l) := load_agg (by kernel_rfl) size_38 b p sp h
theorem fld_38_0 : CC.fieldAt 38 0 = some (0, 3, 1) := by kernel_rfl
theorem fp_38_0 (b p : Nat) (sp : Option Nat) : aFieldAddr CC 38 (.pointer (some ⟨b, p, sp⟩)) 0 = some (.val (.pointer (some ⟨b, p + 0, none⟩))) := fieldAddr_at fld_38_0 rfl b p sp
theorem fld_38_1 : CC.fieldAt 38 1 = some (1, 22, 1) := by kernel_rfl
theorem fp_38_1 (b p : Nat) (sp : Option Nat) : aFieldAddr CC 38 (.pointer (some ⟨b, p, sp⟩)) 1 = some (.val (.pointer (some ⟨b, p + 1, none⟩))) := fieldAddr_at fld_38_1 rfl b p sp
theorem fld_38_2 : CC.fieldAt 38 2 = some (2, 36, 1) := by kernel_rfl
theorem fp_38_2 (b p : Nat) (sp : Option Nat) : aFieldAddr CC 38 (.pointer (some ⟨b, p, sp⟩)) 2 = some (.val (.pointer (some ⟨b, p + 2, none⟩))) := fieldAddr_at fld_38_2 rfl b p sp
theorem size_41 : CC.size 41 = some 1 := by kernel_rfl
theorem zero_41 : CC.zero 41 = some (.slice none 0 0) := by kernel_rfl
theorem und_41 : CC.und 41 = some (.slice 143) := by kernel_rfl
theorem ld_41 (b p : Nat) (sp : Option Nat) (h : Heap) : aLoad CC 41 (.pointer (some ⟨b, p, sp⟩)) h = obind (rowAt h b) fun l => l[p]? := load_one (by kernel_rfl) b p sp h
theorem len_41 (p : Option Addr) (n m : Nat) (h : Heap) : aLen CC 41 (.slice p n m) h = some (.int .i64 n) := M_len_slice CC 41 h p n m _ und_41
theorem size_43 : CC.size 43 = some 13 := by kernel_rfl
theorem ld_43 (b p : Nat) (sp : Option Nat) (h : Heap) : aLoad CC 43 (.pointer (some ⟨b, p, sp⟩)) h = obind (rowAt h b) fun l => obind (take? l p 13) fun l => some (mkAgg l) := load_agg (by kernel_rfl) size_43 b p sp h
theorem fld_43_4 : CC.fieldAt 43 4 = some (12, 41, 1) := by kernel_rfl
theorem fp_43_4 (b p : Nat) (sp : Option Nat) : aFieldAddr CC 43 (.pointer (some ⟨b, p, sp⟩)) 4 = some (.val (.pointer (some ⟨b, p + 12, none⟩))) := fieldAddr_at fld_43_4 rfl b p sp
theorem size_44 : CC.size 44 = some 1 := by kernel_rfl
theorem zero_44 : CC.zero 44 = some (.slice none 0 0) := by kernel_rfl
theorem und_44 : CC.und 44 = some (.slice 89) := by kernel_rfl
theorem ld_44 (b p : Nat) (sp : Option Nat) (h : Heap) : aLoad CC 44 (.pointer (some ⟨b, p, sp⟩)) h = obind (rowAt h b) fun l => l[p]? := load_one (by kernel_rfl) b p sp h
theorem len_44 (p : Option Addr) (n m : Nat) (h : Heap) : aLen CC 44 (.slice p n m) h = some (.int .i64 n) := M_len_slice CC 44 h p n m _ und_44
theorem size_45 : CC.size 45 = some 1 := by kernel_rfl
theorem zero_45 : CC.zero 45 = some (.slice none 0 0) := by kernel_rfl
theorem und_45 : CC.und 45 = some (.slice 166) := by kernel_rfl
theorem ld_45 (b p : Nat) (sp : Option Nat) (h : Heap) : aLoad CC 45 (.pointer (some ⟨b, p, sp⟩)) h = obind (rowAt h b) fun l => l[p]? := load_one (by kernel_rfl) b p sp h
theorem len_45 (p : Option Addr) (n m : Nat) (h : Heap) : aLen CC 45 (.slice p n m) h = some (.int .i64 n) := M_len_slice CC 45 h p n m _ und_45
theorem size_47 : CC.size 47 = some 3 := by kernel_rfl
theorem zero_47 : CC.zero 47 = some (.agg ⟨[.slice none 0 0, .slice none 0 0, .slice none 0 0]⟩) := by kernel_rfl
theorem ld_47 (b p : Nat) (sp : Option Nat) (h : Heap) : aLoad CC 47 (.pointer (some ⟨b, p, sp⟩)) h = obind (rowAt h b) fun l => obind (take? l p 3) fun l => some (mkAgg l) := load_agg (by kernel_rfl) size_47 b p sp h
theorem fld_47_0 : CC.fieldAt 47 0 = some (0, 22, 1) := by kernel_rfl
theorem fp_47_0 (b p : Nat) (sp : Option Nat) : aFieldAddr CC 47 (.pointer (some ⟨b, p, sp⟩)) 0 = some (.val (.pointer (some ⟨b, p + 0, none⟩))) := fieldAddr_at fld_47_0 rfl b p sp
theorem fld_47_1 : CC.fieldAt 47 1 = some (1, 44, 1) := by kernel_rfl
theorem fp_47_1 (b p : Nat) (sp : Option Nat) : aFieldAddr CC 47 (.pointer (some ⟨b, p, sp⟩)) 1 = some (.val (.pointer (some ⟨b, p + 1, none⟩))) := fieldAddr_at fld_47_1 rfl b p sp
theorem fld_47_2 : CC.fieldAt 47 2 = some (2, 45, 1) := by kernel_rfl
theorem fp_47_2 (b p : Nat) (sp : Option Nat) : aFieldAddr CC 47 (.pointer (some ⟨b, p, sp⟩)) 2 = some (.val (.pointer (some ⟨b, p + 2, none⟩))) := fieldAddr_at fld_47_2 rfl b p sp
theorem size_49 : CC.size 49 = some 35 := by kernel_rfl
theorem ld_49 (b p : Nat) (sp : Option Nat) (h : Heap) : aLoad CC 49 (.pointer (some ⟨b, p, sp⟩)) h = obind (rowAt h b) fun l => obind (take? l p 35) fun l => some (mkAgg l) := load_agg (by kernel_rfl) size_49 b p sp h
theorem fld_49_0 : CC.fieldAt 49 0 = some (0, 28, 10) := by kernel_rfl
theorem fp_49_0 (b p : Nat) (sp : Option Nat) : aFieldAddr CC 49 (.pointer (some ⟨b, p, sp⟩)) 0 = some (.val (.pointer (some ⟨b, p + 0, none⟩))) := fieldAddr_at fld_49_0 rfl b p sp
theorem fld_49_1 : CC.fieldAt 49 1 = some (10, 32, 3) := by kernel_rfl
theorem fp_49_1 (b p : Nat) (sp : Option Nat) : aFieldAddr CC 49 (.pointer (some ⟨b, p, sp⟩)) 1 = some (.val (.pointer (some ⟨b, p + 10, none⟩))) := fieldAddr_at fld_49_1 rfl b p sp
theorem fld_49_2 : CC.fieldAt 49 2 = some (13, 35, 2) := by kernel_rfl
theorem fp_49_2 (b p : Nat) (sp : Option Nat) : aFieldAddr CC 49 (.pointer (some ⟨b, p, sp⟩)) 2 = some (.val (.pointer (some ⟨b, p + 13, none⟩))) := fieldAddr_at fld_49_2 rfl b p sp
theorem fld_49_3 : CC.fieldAt 49 3 = some (15, 38, 3) := by kernel_rfl
theorem fp_49_3 (b p : Nat) (sp : Option Nat) : aFieldAddr CC 49 (.pointer (some ⟨b, p, sp⟩)) 3 = some (.val (.pointer (some ⟨b, p + 15, none⟩))) := fieldAddr_at fld_49_3 rfl b p sp
theorem fld_49_4 : CC.fieldAt 49 4 = some (18, 43, 13) := by kernel_rfl
theorem fp_49_4 (b p : Nat) (sp : Option Nat) : aFieldAddr CC 49 (.pointer (some ⟨b, p, sp⟩)) 4 = some (.val (.pointer (some ⟨b, p + 18, none⟩))) := fieldAddr_at fld_49_4 rfl b p sp
theorem fld_49_5 : CC.fieldAt 49 5 = some (31, 22, 1) := by kernel_rfl
theorem fp_49_5 (b p : Nat) (sp : Option Nat) : aFieldAddr CC 49 (.pointer (some ⟨b, p, sp⟩)) 5 = some (.val (.pointer (some ⟨b, p + 31, none⟩))) := fieldAddr_at fld_49_5 rfl b p sp
theorem fld_49_6 : CC.fieldAt 49 6 = some (32, 47, 3) := by kernel_rfl
theorem fp_49_6 (b p : Nat) (sp : Option Nat) : aFieldAddr CC 49 (.pointer (some ⟨b, p, sp⟩)) 6 = some (.val (.pointer (some ⟨b, p + 32, none⟩))) := fieldAddr_at fld_49_6 rfl b p sp
theorem ld_52 (b p : Nat) (sp : Option Nat) (h : Heap) : aLoad CC 52 (.pointer (some ⟨b, p, sp⟩)) h = obind (rowAt h b) fun l => l[p]? := load_one (by kernel_rfl) b p sp h
theorem ld_69 (b p : Nat) (sp : Option Nat) (h : Heap) : aLoad CC 69 (.pointer (some ⟨b, p, sp⟩)) h = obind (rowAt h b) fun l => l[p]? := load_one (by kernel_rfl) b p sp h
theorem ld_77 (b p : Nat) (sp : Option Nat) (h : Heap) : aLoad CC 77 (.pointer (some ⟨b, p, sp⟩)) h = obind (rowAt h b) fun l => l[p]? := load_one (by kernel_rfl) b p sp h
theorem size_80 : CC.size 80 = some 2 := by kernel_rfl
theorem zero_80 : CC.zero 80 = some (.agg ⟨[.int .i64 0, .slice none 0 0]⟩) := by kernel_rfl
theorem part_80 (l : List Value) (p : Nat) : partOf CC 80 l p = obind (take? l p 2) fun l => some (mkAgg l) := part_agg' (by kernel_rfl) size_80 l p
theorem ld_80 (b p : Nat) (sp : Option Nat) (h : Heap) : aLoad CC 80 (.pointer (some ⟨b, p, sp⟩)) h = obind (rowAt h b) fun l => obind (take? l p 2) fun l => some (mkAgg l) := load_agg (by kernel_rfl) size_80 b p sp h
theorem fld_80_0 : CC.fieldAt 80 0 = some (0, 77, 1) := by kernel_rfl
theorem fp_80_0 (b p : Nat) (sp : Option Nat) : aFieldAddr CC 80 (.pointer (some ⟨b, p, sp⟩)) 0 = some (.val (.pointer (some ⟨b, p + 0, none⟩))) := fieldAddr_at fld_80_0 rfl b p sp
theorem fld_80_1 : CC.fieldAt 80 1 = some (1, 22, 1) := by kernel_rfl
theorem fp_80_1 (b p : Nat) (sp : Option Nat) : aFieldAddr CC 80 (.pointer (some ⟨b, p, sp⟩)) 1 = some (.val (.pointer (some ⟨b, p + 1, none⟩))) := fieldAddr_at fld_80_1 rfl b p sp
theorem size_89 : CC.size 89 = some 5 := by kernel_rfl
theorem zero_89 : CC.zero 89 = some (.agg ⟨[.int .i64 0, .int .i64 0, .int .i64 0, .int .i64 0, .int .i64 0]⟩) := by kernel_rfl
theorem part_89 (l : List Value) (p : Nat) : partOf CC 89 l p = obind (take? l p 5) fun l => some (mkAgg l) := part_agg' (by kernel_rfl) size_89 l p
theorem ld_89 (b p : Nat) (sp : Option Nat) (h : Heap) : aLoad CC 89 (.pointer (some ⟨b, p, sp⟩)) h = obind (rowAt h b) fun l => obind (take? l p 5) fun l => some (mkAgg l) := load_agg (by kernel_rfl) size_89 b p sp h
theorem fld_89_0 : CC.fieldAt 89 0 = some (0, 3, 1) := by kernel_rfl
theorem fp_89_0 (b p : Nat) (sp : Option Nat) : aFieldAddr CC 89 (.pointer (some ⟨b, p, sp⟩)) 0 = some (.val (.pointer (some ⟨b, p + 0, none⟩))) := fieldAddr_at fld_89_0 rfl b p sp
theorem fld_89_1 : CC.fieldAt 89 1 = some (1, 3, 1) := by kernel_rfl
theorem fp_89_1 (b p : Nat) (sp : Option Nat) : aFieldAddr CC 89 (.pointer (some ⟨b, p, sp⟩)) 1 = some (.val (.pointer (some ⟨b, p + 1, none⟩))) := fieldAddr_at fld_89_1 rfl b p sp
theorem fld_89_2 : CC.fieldAt 89 2 = some (2, 25, 2) := by kernel_rfl
theorem fp_89_2 (b p : Nat) (sp : Option Nat) : aFieldAddr CC 89 (.pointer (some ⟨b, p, sp⟩)) 2 = some (.val (.pointer (some ⟨b, p + 2, none⟩))) := fieldAddr_at fld_89_2 rfl b p sp
theorem fld_89_3 : CC.fieldAt 89 3 = some (4, 3, 1) := by kernel_rfl
theorem fp_89_3 (b p : Nat) (sp : Option Nat) : aFieldAddr CC 89 (.pointer (some ⟨b, p, sp⟩)) 3 = some (.val (.pointer (some ⟨b, p + 4, none⟩))) := fieldAddr_at fld_89_3 rfl b p sp
theorem size_92 : CC.size 92 = some 2 := by kernel_rfl
theorem zero_92 : CC.zero 92 = some (.agg ⟨[.int .i64 0, .slice none 0 0]⟩) := by kernel_rfl
theorem ld_92 (b p : Nat) (sp : Option Nat) (h : Heap) : aLoad CC 92 (.pointer (some ⟨b, p, sp⟩)) h = obind (rowAt h b) fun l => obind (take? l p 2) fun l => some (mkAgg l) := load_agg (by kernel_rfl) size_92 b p sp h
theorem fld_92_0 : CC.fieldAt 92 0 = some (0, 69, 1) := by kernel_rfl
theorem fp_92_0 (b p : Nat) (sp : Option Nat) : aFieldAddr CC 92 (.pointer (some ⟨b, p, sp⟩)) 0 = some (.val (.pointer (some ⟨b, p + 0, none⟩))) := fieldAddr_at fld_92_0 rfl b p sp
theorem fld_92_1 : CC.fieldAt 92 1 = some (1, 22, 1) := by kernel_rfl
theorem fp_92_1 (b p : Nat) (sp : Option Nat) : aFieldAddr CC 92 (.pointer (some ⟨b, p, sp⟩)) 1 = some (.val (.pointer (some ⟨b, p + 1, none⟩))) := fieldAddr_at fld_92_1 rfl b p sp
theorem size_94 : CC.size 94 = some 3 := by kernel_rfl
theorem zero_94 : CC.zero 94 = some (.agg ⟨[.slice none 0 0, .slice none 0 0, .bool false]⟩) := by kernel_rfl
theorem part_94 (l : List Value) (p : Nat) : partOf CC 94 l p = obind (take? l p 3) fun l => some (mkAgg l) := part_agg' (by kernel_rfl) size_94 l p
theorem ld_94 (b p : Nat) (sp : Option Nat) (h : Heap) : aLoad CC 94 (.pointer (some ⟨b, p, sp⟩)) h = obind (rowAt h b) fun l => obind (take? l p 3) fun l => some (mkAgg l) := load_agg (by kernel_rfl) size_94 b p sp h
theorem fld_94_0 : CC.fieldAt 94 0 = some (0, 22, 1) := by kernel_rfl
theorem fp_94_0 (b p : Nat) (sp : Option Nat) : aFieldAddr CC 94 (.pointer (some ⟨b, p, sp⟩)) 0 = some (.val (.pointer (some ⟨b, p + 0, none⟩))) := fieldAddr_at fld_94_0 rfl b p sp
theorem fld_94_1 : CC.fieldAt 94 1 = some (1, 22, 1) := by kernel_rfl
theorem fp_94_1 (b p : Nat) (sp : Option Nat) : aFieldAddr CC 94 (.pointer (some ⟨b, p, sp⟩)) 1 = some (.val (.pointer (some ⟨b, p + 1, none⟩))) := fieldAddr_at fld_94_1 rfl b p sp
theorem fld_94_2 : CC.fieldAt 94 2 = some (2, 4, 1) := by kernel_rfl
theorem fp_94_2 (b p : Nat) (sp : Option Nat) : aFieldAddr CC 94 (.pointer (some ⟨b, p, sp⟩)) 2 = some (.val (.pointer (some ⟨b, p + 2, none⟩))) := fieldAddr_at fld_94_2 rfl b p sp
theorem size_96 : CC.size 96 = some 5 := by kernel_rfl
theorem zero_96 : CC.zero 96 = some (.agg ⟨[.int .i64 0, .bool false, .int .i64 0, .int .i64 0, .slice none 0 0]⟩) := by kernel_rfl
theorem part_96 (l : List Value) (p : Nat) : partOf CC 96 l p = obind (take? l p 5) fun l => some (mkAgg l) := part_agg' (by kernel_rfl) size_96 l p
theorem ld_96 (b p : Nat) (sp : Option Nat) (h : Heap) : aLoad CC 96 (.pointer (some ⟨b, p, sp⟩)) h = obind (rowAt h b) fun l => obind (take? l p 5) fun l => some (mkAgg l) := load_agg (by kernel_rfl) size_96 b p sp h
theorem fld_96_1 : CC.fieldAt 96 1 = some (1, 4, 1) := by kernel_rfl
theorem fp_96_1 (b p : Nat) (sp : Option Nat) : aFieldAddr CC 96 (.pointer (some ⟨b, p, sp⟩)) 1 = some (.val (.pointer (some ⟨b, p + 1, none⟩))) := fieldAddr_at fld_96_1 rfl b p sp
theorem fld_96_3 : CC.fieldAt 96 3 = some (4, 22, 1) := by kernel_rfl
theorem fp_96_3 (b p : Nat) (sp : Option Nat) : aFieldAddr CC 96 (.pointer (some ⟨b, p, sp⟩)) 3 = some (.val (.pointer (some ⟨b, p + 4, none⟩))) := fieldAddr_at fld_96_3 rfl b p sp
theorem size_108 : CC.size 108 = some 1 := by kernel_rfl
theorem zero_108 : CC.zero 108 = some (.slice none 0 0) := by kernel_rfl
theorem und_108 : CC.und 108 = some (.slice 80) := by kernel_rfl
theorem ld_108 (b p : Nat) (sp : Option Nat) (h : Heap) : aLoad CC 108 (.pointer (some ⟨b, p, sp⟩)) h = obind (rowAt h b) fun l => l[p]? := load_one (by kernel_rfl) b p sp h
theorem len_108 (p : Option Addr) (n m : Nat) (h : Heap) : aLen CC 108 (.slice p n m) h = some (.int .i64 n) := M_len_slice CC 108 h p n m _ und_108
theorem size_110 : CC.size 110 = some 37 := by kernel_rfl
theorem fld_110_0 : CC.fieldAt 110 0 = some (0, 4, 1) := by kernel_rfl
theorem fp_110_0 (b p : Nat) (sp : Option Nat) : aFieldAddr CC 110 (.pointer (some ⟨b, p, sp⟩)) 0 = some (.val (.pointer (some ⟨b, p + 0, none⟩))) := fieldAddr_at fld_110_0 rfl b p sp
theorem fld_110_1 : CC.fieldAt 110 1 = some (1, 49, 35) := by kernel_rfl
theorem fp_110_1 (b p : Nat) (sp : Option Nat) : aFieldAddr CC 110 (.pointer (some ⟨b, p, sp⟩)) 1 = some (.val (.pointer (some ⟨b, p + 1, none⟩))) := fieldAddr_at fld_110_1 rfl b p sp
theorem fld_110_2 : CC.fieldAt 110 2 = some (36, 108, 1) := by kernel_rfl
theorem fp_110_2 (b p : Nat) (sp : Option Nat) : aFieldAddr CC 110 (.pointer (some ⟨b, p, sp⟩)) 2 = some (.val (.pointer (some ⟨b, p + 36, none⟩))) := fieldAddr_at fld_110_2 rfl b p sp
theorem size_143 : CC.size 143 = some 6 := by kernel_rfl
theorem part_143 (l : List Value) (p : Nat) : partOf CC 143 l p = obind (take? l p 6) fun l => some (mkAgg l) := part_agg' (by kernel_rfl) size_143 l p
theorem size_154 : CC.size 154 = some 1 := by kernel_rfl
theorem zero_154 : CC.zero 154 = some (.pointer none) := by kernel_rfl
theorem und_154 : CC.und 154 = some (.pointer 257) := by kernel_rfl
theorem ld_154 (b p : Nat) (sp : Option Nat) (h : Heap) : aLoad CC 154 (.pointer (some ⟨b, p, sp⟩)) h = obind (rowAt h b) fun l => l[p]? := load_one (by kernel_rfl) b p sp h
theorem ld_163 (b p : Nat) (sp : Option Nat) (h : Heap) : aLoad CC 163 (.pointer (some ⟨b, p, sp⟩)) h = obind (rowAt h b) fun l => l[p]? := load_one (by kernel_rfl) b p sp h
theorem ld_164 (b p : Nat) (sp : Option Nat) (h : Heap) : aLoad CC 164 (.pointer (some ⟨b, p, sp⟩)) h = obind (rowAt h b) fun l => l[p]? := load_one (by kernel_rfl) b p sp h
theorem size_166 : CC.size 166 = some 5 := by kernel_rfl
theorem zero_166 : CC.zero 166 = some (.agg ⟨[.int .i64 0, .int .i64 0, .int .i64 0, .int .i64 0, .bool false]⟩) := by kernel_rfl
theorem part_166 (l : List Value) (p : Nat) : partOf CC 166 l p = obind (take? l p 5) fun l => some (mkAgg l) := part_agg' (by kernel_rfl) size_166 l p
theorem ld_166 (b p : Nat) (sp : Option Nat) (h : Heap) : aLoad CC 166 (.pointer (some ⟨b, p, sp⟩)) h = obind (rowAt h b) fun l => obind (take? l p 5) fun l => some (mkAgg l) := load_agg (by kernel_rfl) size_166 b p sp h
theorem fld_166_0 : CC.fieldAt 166 0 = some (0, 163, 1) := by kernel_rfl
theorem fp_166_0 (b p : Nat) (sp : Option Nat) : aFieldAddr CC 166 (.pointer (some ⟨b, p, sp⟩)) 0 = some (.val (.pointer (some ⟨b, p + 0, none⟩))) := fieldAddr_at fld_166_0 rfl b p sp
theorem fld_166_1 : CC.fieldAt 166 1 = some (1, 3, 1) := by kernel_rfl
theorem fp_166_1 (b p : Nat) (sp : Option Nat) : aFieldAddr CC 166 (.pointer (some ⟨b, p, sp⟩)) 1 = some (.val (.pointer (some ⟨b, p + 1, none⟩))) := fieldAddr_at fld_166_1 rfl b p sp
theorem fld_166_2 : CC.fieldAt 166 2 = some (2, 3, 1) := by kernel_rfl
theorem fp_166_2 (b p : Nat) (sp : Option Nat) : aFieldAddr CC 166 (.pointer (some ⟨b, p, sp⟩)) 2 = some (.val (.pointer (some ⟨b, p + 2, none⟩))) := fieldAddr_at fld_166_2 rfl b p sp
theorem fld_166_3 : CC.fieldAt 166 3 = some (3, 164, 1) := by kernel_rfl
theorem fp_166_3 (b p : Nat) (sp : Option Nat) : aFieldAddr CC 166 (.pointer (some ⟨b, p, sp⟩)) 3 = some (.val (.pointer (some ⟨b, p + 3, none⟩))) := fieldAddr_at fld_166_3 rfl b p sp
theorem fld_166_4 : CC.fieldAt 166 4 = some (4, 4, 1) := by kernel_rfl
theorem fp_166_4 (b p : Nat) (sp : Option Nat) : aFieldAddr CC 166 (.pointer (some ⟨b, p, sp⟩)) 4 = some (.val (.pointer (some ⟨b, p + 4, none⟩))) := fieldAddr_at fld_166_4 rfl b p sp
theorem size_175 : CC.size 175 = some 1 := by kernel_rfl
theorem zero_175 : CC.zero 175 = some (.map none) := by kernel_rfl
theorem und_175 : CC.und 175 = some (.map 353 3) := by kernel_rfl
theorem ld_175 (b p : Nat) (sp : Option Nat) (h : Heap) : aLoad CC 175 (.pointer (some ⟨b, p, sp⟩)) h = obind (rowAt h b) fun l => l[p]? := load_one (by kernel_rfl) b p sp h
theorem size_177 : CC.size 177 = some 5 := by kernel_rfl
theorem zero_177 : CC.zero 177 = some (.agg ⟨[.slice none 0 0, .slice none 0 0, .slice none 0 0, .slice none 0 0, .map none]⟩) := by kernel_rfl
theorem ld_177 (b p : Nat) (sp : Option Nat) (h : Heap) : aLoad CC 177 (.pointer (some ⟨b, p, sp⟩)) h = obind (rowAt h b) fun l => obind (take? l p 5) fun l => some (mkAgg l) := load_agg (by kernel_rfl) size_177 b p sp h
theorem fld_177_0 : CC.fieldAt 177 0 = some (0, 47, 3) := by kernel_rfl
theorem fp_177_0 (b p : Nat) (sp : Option Nat) : aFieldAddr CC 177 (.pointer (some ⟨b, p, sp⟩)) 0 = some (.val (.pointer (some ⟨b, p + 0, none⟩))) := fieldAddr_at fld_177_0 rfl b p sp
theorem fld_177_1 : CC.fieldAt 177 1 = some (3, 22, 1) := by kernel_rfl
theorem fp_177_1 (b p : Nat) (sp : Option Nat) : aFieldAddr CC 177 (.pointer (some ⟨b, p, sp⟩)) 1 = some (.val (.pointer (some ⟨b, p + 3, none⟩))) := fieldAddr_at fld_177_1 rfl b p sp
theorem fld_177_2 : CC.fieldAt 177 2 = some (4, 175, 1) := by kernel_rfl
theorem fp_177_2 (b p : Nat) (sp : Option Nat) : aFieldAddr CC 177 (.pointer (some ⟨b, p, sp⟩)) 2 = some (.val (.pointer (some ⟨b, p + 4, none⟩))) := fieldAddr_at fld_177_2 rfl b p sp
theorem size_181 : CC.size 181 = some 1 := by kernel_rfl
theorem part_181 (l : List Value) (p : Nat) : partOf CC 181 l p = l[p]? := part_one' (by kernel_rfl) l p
theorem size_182 : CC.size 182 = some 16 := by kernel_rfl
theorem zero_182 : CC.zero 182 = some (.agg ⟨[.nilFunc, .nilFunc, .nilFunc, .nilFunc, .nilFunc, .nilFunc, .nilFunc, .nilFunc, .nilFunc, .nilFunc, .nilFunc, .nilFunc, .nilFunc, .nilFunc, .nilFunc, .nilFunc]⟩) := by kernel_rfl
theorem und_182 : CC.und 182 = some (.array 16 181) := by kernel_rfl
theorem ld_182 (b p : Nat) (sp : Option Nat) (h : Heap) : aLoad CC 182 (.pointer (some ⟨b, p, sp⟩)) h = obind (rowAt h b) fun l => obind (take? l p 16) fun l => some (mkAgg l) := load_agg (by kernel_rfl) size_182 b p sp h
theorem size_200 : CC.size 200 = some 4 := by kernel_rfl
theorem part_200 (l : List Value) (p : Nat) : partOf CC 200 l p = obind (take? l p 4) fun l => some (mkAgg l) := part_agg' (by kernel_rfl) size_200 l p
theorem size_206 : CC.size 206 = some 2 := by kernel_rfl
theorem part_206 (l : List Value) (p : Nat) : partOf CC 206 l p = obind (take? l p 2) fun l => some (mkAgg l) := part_agg' (by kernel_rfl) size_206 l p
theorem size_241 : CC.size 241 = some 1 := by kernel_rfl
theorem part_241 (l : List Value) (p : Nat) : partOf CC 241 l p = l[p]? := part_one' (by kernel_rfl) l p
theorem ld_241 (b p : Nat) (sp : Option Nat) (h : Heap) : aLoad CC 241 (.pointer (some ⟨b, p, sp⟩)) h = obind (rowAt h b) fun l => l[p]? := load_one (by kernel_rfl) b p sp h
theorem size_255 : CC.size 255 = some 1 := by kernel_rfl
theorem zero_255 : CC.zero 255 = some (.map none) := by kernel_rfl
theorem und_255 : CC.und 255 = some (.map 3 4) := by kernel_rfl
theorem ld_255 (b p : Nat) (sp : Option Nat) (h : Heap) : aLoad CC 255 (.pointer (some ⟨b, p, sp⟩)) h = obind (rowAt h b) fun l => l[p]? := load_one (by kernel_rfl) b p sp h
theorem size_257 : CC.size 257 = some 44 := by kernel_rfl
theorem fld_257_0 : CC.fieldAt 257 0 = some (0, 49, 35) := by kernel_rfl
theorem fp_257_0 (b p : Nat) (sp : Option Nat) : aFieldAddr CC 257 (.pointer (some ⟨b, p, sp⟩)) 0 = some (.val (.pointer (some ⟨b, p + 0, none⟩))) := fieldAddr_at fld_257_0 rfl b p sp
theorem fld_257_1 : CC.fieldAt 257 1 = some (35, 3, 1) := by kernel_rfl
theorem fp_257_1 (b p : Nat) (sp : Option Nat) : aFieldAddr CC 257 (.pointer (some ⟨b, p, sp⟩)) 1 = some (.val (.pointer (some ⟨b, p + 35, none⟩))) := fieldAddr_at fld_257_1 rfl b p sp
theorem fld_257_2 : CC.fieldAt 257 2 = some (36, 22, 1) := by kernel_rfl
theorem fp_257_2 (b p : Nat) (sp : Option Nat) : aFieldAddr CC 257 (.pointer (some ⟨b, p, sp⟩)) 2 = some (.val (.pointer (some ⟨b, p + 36, none⟩))) := fieldAddr_at fld_257_2 rfl b p sp
theorem fld_257_3 : CC.fieldAt 257 3 = some (37, 3, 1) := by kernel_rfl
theorem fp_257_3 (b p : Nat) (sp : Option Nat) : aFieldAddr CC 257 (.pointer (some ⟨b, p, sp⟩)) 3 = some (.val (.pointer (some ⟨b, p + 37, none⟩))) := fieldAddr_at fld_257_3 rfl b p sp
theorem fld_257_4 : CC.fieldAt 257 4 = some (38, 255, 1) := by kernel_rfl
theorem fp_257_4 (b p : Nat) (sp : Option Nat) : aFieldAddr CC 257 (.pointer (some ⟨b, p, sp⟩)) 4 = some (.val (.pointer (some ⟨b, p + 38, none⟩))) := fieldAddr_at fld_257_4 rfl b p sp
theorem fld_257_5 : CC.fieldAt 257 5 = some (39, 22, 1) := by kernel_rfl
theorem fp_257_5 (b p : Nat) (sp : Option Nat) : aFieldAddr CC 257 (.pointer (some ⟨b, p, sp⟩)) 5 = some (.val (.pointer (some ⟨b, p + 39, none⟩))) := fieldAddr_at fld_257_5 rfl b p sp
theorem fld_257_6 : CC.fieldAt 257 6 = some (40, 22, 1) := by kernel_rfl
theorem fp_257_6 (b p : Nat) (sp : Option Nat) : aFieldAddr CC 257 (.pointer (some ⟨b, p, sp⟩)) 6 = some (.val (.pointer (some ⟨b, p + 40, none⟩))) := fieldAddr_at fld_257_6 rfl b p sp
theorem fld_257_7 : CC.fieldAt 257 7 = some (41, 3, 1) := by kernel_rfl
theorem fp_257_7 (b p : Nat) (sp : Option Nat) : aFieldAddr CC 257 (.pointer (some ⟨b, p, sp⟩)) 7 = some (.val (.pointer (some ⟨b, p + 41, none⟩))) := fieldAddr_at fld_257_7 rfl b p sp
theorem fld_257_8 : CC.fieldAt 257 8 = some (42, 22, 1) := by kernel_rfl
theorem fp_257_8 (b p : Nat) (sp : Option Nat) : aFieldAddr CC 257 (.pointer (some ⟨b, p, sp⟩)) 8 = some (.val (.pointer (some ⟨b, p + 42, none⟩))) := fieldAddr_at fld_257_8 rfl b p sp
theorem fld_257_9 : CC.fieldAt 257 9 = some (43, 22, 1) := by kernel_rfl
theorem fp_257_9 (b p : Nat) (sp : Option Nat) : aFieldAddr CC 257 (.pointer (some ⟨b, p, sp⟩)) 9 = some (.val (.pointer (some ⟨b, p + 43, none⟩))) := fieldAddr_at fld_257_9 rfl b p sp
theorem size_263 : CC.size 263 = some 1 := by kernel_rfl
theorem zero_263 : CC.zero 263 = some (.agg ⟨[.string ⟨⟨[]⟩⟩]⟩) := by kernel_rfl
theorem fld_263_0 : CC.fieldAt 263 0 = some (0, 9, 1) := by kernel_rfl
theorem size_265 : CC.size 265 = some 1 := by kernel_rfl
theorem zero_265 : CC.zero 265 = some (.int .i64 0) := by kernel_rfl
theorem und_265 : CC.und 265 = some (.int .i64) := by kernel_rfl
theorem size_267 : CC.size 267 = some 0 := by kernel_rfl
theorem zero_267 : CC.zero 267 = some (.agg ⟨[]⟩) := by kernel_rfl
theorem size_269 : CC.size 269 = some 3 := by kernel_rfl
theorem zero_269 : CC.zero 269 = some (.agg ⟨[.int .i64 0, .int .i64 0, .int .i64 0]⟩) := by kernel_rfl
theorem ld_269 (b p : Nat) (sp : Option Nat) (h : Heap) : aLoad CC 269 (.pointer (some ⟨b, p, sp⟩)) h = obind (rowAt h b) fun l => obind (take? l p 3) fun l => some (mkAgg l) := load_agg (by kernel_rfl) size_269 b p sp h
theorem fld_269_0 : CC.fieldAt 269 0 = some (0, 3, 1) := by kernel_rfl
theorem fld_269_1 : CC.fieldAt 269 1 = some (1, 25, 2) := by kernel_rfl
theorem size_270 : CC.size 270 = some 1 := by kernel_rfl
theorem zero_270 : CC.zero 270 = some (.slice none 0 0) := by kernel_rfl
theorem und_270 : CC.und 270 = some (.slice 3) := by kernel_rfl
theorem size_271 : CC.size 271 = some 1 := by kernel_rfl
theorem zero_271 : CC.zero 271 = some (.slice none 0 0) := by kernel_rfl
theorem und_271 : CC.und 271 = some (.slice 3) := by kernel_rfl
theorem len_271 (p : Option Addr) (n m : Nat) (h : Heap) : aLen CC 271 (.slice p n m) h = some (.int .i64 n) := M_len_slice CC 271 h p n m _ und_271
theorem size_273 : CC.size 273 = some 2 := by kernel_rfl
theorem zero_273 : CC.zero 273 = some (.agg ⟨[.int .i64 0, .int .i64 0]⟩) := by kernel_rfl
theorem fld_273_0 : CC.fieldAt 273 0 = some (0, 3, 1) := by kernel_rfl
theorem fp_273_0 (b p : Nat) (sp : Option Nat) : aFieldAddr CC 273 (.pointer (some ⟨b, p, sp⟩)) 0 = some (.val (.pointer (some ⟨b, p + 0, none⟩))) := fieldAddr_at fld_273_0 rfl b p sp
theorem fld_273_1 : CC.fieldAt 273 1 = some (1, 3, 1) := by kernel_rfl
theorem fp_273_1 (b p : Nat) (sp : Option Nat) : aFieldAddr CC 273 (.pointer (some ⟨b, p, sp⟩)) 1 = some (.val (.pointer (some ⟨b, p + 1, none⟩))) := fieldAddr_at fld_273_1 rfl b p sp
theorem size_275 : CC.size 275 = some 2 := by kernel_rfl
theorem zero_275 : CC.zero 275 = some (.agg ⟨[.int .i64 0, .int .i64 0]⟩) := by kernel_rfl
theorem fld_275_0 : CC.fieldAt 275 0 = some (0, 3, 1) := by kernel_rfl
theorem fp_275_0 (b p : Nat) (sp : Option Nat) : aFieldAddr CC 275 (.pointer (some ⟨b, p, sp⟩)) 0 = some (.val (.pointer (some ⟨b, p + 0, none⟩))) := fieldAddr_at fld_275_0 rfl b p sp
theorem fld_275_1 : CC.fieldAt 275 1 = some (1, 3, 1) := by kernel_rfl
theorem fp_275_1 (b p : Nat) (sp : Option Nat) : aFieldAddr CC 275 (.pointer (some ⟨b, p, sp⟩)) 1 = some (.val (.pointer (some ⟨b, p + 1, none⟩))) := fieldAddr_at fld_275_1 rfl b p sp
theorem size_276 : CC.size 276 = some 1 := by kernel_rfl
theorem zero_276 : CC.zero 276 = some (.int .i64 0) := by kernel_rfl
theorem und_276 : CC.und 276 = some (.int .i64) := by kernel_rfl
theorem size_278 : CC.size 278 = some 2 := by kernel_rfl
theorem zero_278 : CC.zero 278 = some (.agg ⟨[.int .i64 0, .int .i64 0]⟩) := by kernel_rfl
theorem fld_278_0 : CC.fieldAt 278 0 = some (0, 3, 1) := by kernel_rfl
theorem fp_278_0 (b p : Nat) (sp : Option Nat) : aFieldAddr CC 278 (.pointer (some ⟨b, p, sp⟩)) 0 = some (.val (.pointer (some ⟨b, p + 0, none⟩))) := fieldAddr_at fld_278_0 rfl b p sp
theorem fld_278_1 : CC.fieldAt 278 1 = some (1, 3, 1) := by kernel_rfl
theorem fp_278_1 (b p : Nat) (sp : Option Nat) : aFieldAddr CC 278 (.pointer (some ⟨b, p, sp⟩)) 1 = some (.val (.pointer (some ⟨b, p + 1, none⟩))) := fieldAddr_at fld_278_1 rfl b p sp
theorem size_279 : CC.size 279 = some 1 := by kernel_rfl
theorem zero_279 : CC.zero 279 = some (.int .i64 0) := by kernel_rfl
theorem und_279 : CC.und 279 = some (.int .i64) := by kernel_rfl
theorem size_281 : CC.size 281 = some 2 := by kernel_rfl
theorem zero_281 : CC.zero 281 = some (.agg ⟨[.int .i64 0, .int .i64 0]⟩) := by kernel_rfl
theorem fld_281_0 : CC.fieldAt 281 0 = some (0, 3, 1) := by kernel_rfl
theorem fp_281_0 (b p : Nat) (sp : Option Nat) : aFieldAddr CC 281 (.pointer (some ⟨b, p, sp⟩)) 0 = some (.val (.pointer (some ⟨b, p + 0, none⟩))) := fieldAddr_at fld_281_0 rfl b p sp
theorem fld_281_1 : CC.fieldAt 281 1 = some (1, 3, 1) := by kernel_rfl
theorem fp_281_1 (b p : Nat) (sp : Option Nat) : aFieldAddr CC 281 (.pointer (some ⟨b, p, sp⟩)) 1 = some (.val (.pointer (some ⟨b, p + 1, none⟩))) := fieldAddr_at fld_281_1 rfl b p sp
theorem size_282 : CC.size 282 = some 1 := by kernel_rfl
theorem zero_282 : CC.zero 282 = some (.int .i64 0) := by kernel_rfl
theorem und_282 : CC.und 282 = some (.int .i64) := by kernel_rfl
theorem size_283 : CC.size 283 = some 0 := by kernel_rfl
theorem zero_283 : CC.zero 283 = some (.agg ⟨[]⟩) := by kernel_rfl
theorem size_353 : CC.size 353 = some 6 := by kernel_rfl
theorem zero_353 : CC.zero 353 = some (.agg ⟨[.int .i64 0, .int .i64 0, .int .i64 0, .int .i64 0, .bool false, .int .i64 0]⟩) := by kernel_rfl
theorem ld_353 (b p : Nat) (sp : Option Nat) (h : Heap) : aLoad CC 353 (.pointer (some ⟨b, p, sp⟩)) h = obind (rowAt h b) fun l => obind (take? l p 6) fun l => some (mkAgg l) := load_agg (by kernel_rfl) size_353 b p sp h
theorem fld_353_0 : CC.fieldAt 353 0 = some (0, 166, 5) := by kernel_rfl
theorem fld_353_1 : CC.fieldAt 353 1 = some (5, 3, 1) := by kernel_rfl
theorem size_355 : CC.size 355 = some 2 := by kernel_rfl
theorem zero_355 : CC.zero 355 = some (.agg ⟨[.int .i64 0, .int .i64 0]⟩) := by kernel_rfl
theorem ld_355 (b p : Nat) (sp : Option Nat) (h : Heap) : aLoad CC 355 (.pointer (some ⟨b, p, sp⟩)) h = obind (rowAt h b) fun l => obind (take? l p 2) fun l => some (mkAgg l) := load_agg (by kernel_rfl) size_355 b p sp h
theorem fld_355_0 : CC.fieldAt 355 0 = some (0, 3, 1) := by kernel_rfl
theorem fp_355_0 (b p : Nat) (sp : Option Nat) : aFieldAddr CC 355 (.pointer (some ⟨b, p, sp⟩)) 0 = some (.val (.pointer (some ⟨b, p + 0, none⟩))) := fieldAddr_at fld_355_0 rfl b p sp
theorem fld_355_1 : CC.fieldAt 355 1 = some (1, 3, 1) := by kernel_rfl
theorem fp_355_1 (b p : Nat) (sp : Option Nat) : aFieldAddr CC 355 (.pointer (some ⟨b, p, sp⟩)) 1 = some (.val (.pointer (some ⟨b, p + 1, none⟩))) := fieldAddr_at fld_355_1 rfl b p sp
theorem size_359 : CC.size 359 = some 1 := by kernel_rfl
theorem part_359 (l : List Value) (p : Nat) : partOf CC 359 l p = l[p]? := part_one' (by kernel_rfl) l p
theorem size_409 : CC.size 409 = some 4 := by kernel_rfl
theorem zero_409 : CC.zero 409 = some (.agg ⟨[.nilFunc, .nilFunc, .nilFunc, .nilFunc]⟩) := by kernel_rfl
theorem und_409 : CC.und 409 = some (.array 4 241) := by kernel_rfl
theorem size_410 : CC.size 410 = some 0 := by kernel_rfl
theorem zero_410 : CC.zero 410 = some (.agg ⟨[]⟩) := by kernel_rfl
theorem size_411 : CC.size 411 = some 0 := by kernel_rfl
theorem zero_411 : CC.zero 411 = some (.agg ⟨[]⟩) := by kernel_rfl
theorem size_412 : CC.size 412 = some 0 := by kernel_rfl
theorem zero_412 : CC.zero 412 = some (.agg ⟨[]⟩) := by kernel_rfl
theorem size_413 : CC.size 413 = some 0 := by kernel_rfl
theorem zero_413 : CC.zero 413 = some (.agg ⟨[]⟩) := by kernel_rfl
theorem size_414 : CC.size 414 = some 4 := by kernel_rfl
theorem zero_414 : CC.zero 414 = some (.agg ⟨[.nilIface, .nilIface, .nilIface, .nilIface]⟩) := by kernel_rfl
theorem und_414 : CC.und 414 = some (.array 4 359) := by kernel_rfl
theorem size_436 : CC.size 436 = some 1 := by kernel_rfl
theorem zero_436 : CC.zero 436 = some (.slice none 0 0) := by kernel_rfl
theorem und_436 : CC.und 436 = some (.slice 438) := by kernel_rfl
theorem len_436 (p : Option Addr) (n m : Nat) (h : Heap) : aLen CC 436 (.slice p n m) h = some (.int .i64 n) := M_len_slice CC 436 h p n m _ und_436
theorem size_438 : CC.size 438 = some 2 := by kernel_rfl
theorem zero_438 : CC.zero 438 = some (.agg ⟨[.int .i64 0, .int .i64 0]⟩) := by kernel_rfl
theorem part_438 (l : List Value) (p : Nat) : partOf CC 438 l p = obind (take? l p 2) fun l => some (mkAgg l) := part_agg' (by kernel_rfl) size_438 l p
theorem ld_438 (b p : Nat) (sp : Option Nat) (h : Heap) : aLoad CC 438 (.pointer (some ⟨b, p, sp⟩)) h = obind (rowAt h b) fun l => obind (take? l p 2) fun l => some (mkAgg l) := load_agg (by kernel_rfl) size_438 b p sp h
theorem fld_438_0 : CC.fieldAt 438 0 = some (0, 3, 1) := by kernel_rfl
theorem fp_438_0 (b p : Nat) (sp : Option Nat) : aFieldAddr CC 438 (.pointer (some ⟨b, p, sp⟩)) 0 = some (.val (.pointer (some ⟨b, p + 0, none⟩))) := fieldAddr_at fld_438_0 rfl b p sp
theorem fld_438_1 : CC.fieldAt 438 1 = some (1, 3, 1) := by kernel_rfl
theorem fp_438_1 (b p : Nat) (sp : Option Nat) : aFieldAddr CC 438 (.pointer (some ⟨b, p, sp⟩)) 1 = some (.val (.pointer (some ⟨b, p + 1, none⟩))) := fieldAddr_at fld_438_1 rfl b p sp
theorem ix_22 (b o : Nat) (sp : Option Nat) (len cap i : Nat) (hi : i < len) : aIndexAddr CC 22 (.slice (some ⟨b, o, sp⟩) len cap) (.int .i64 i) = some (.pointer (some ⟨b, o + i * 1, none⟩)) := ix_slice und_22 size_3 b o sp len cap i hi
theorem bs_22 {v : Value} (h : cellsOf v = [v]) : aBuildSlice CC 22 1 [(0, v)] = some (.new (.row [v] 1 true) (sliceTo 1 1 1)) := buildSlice_one und_22 size_3 zero_3 rfl h
theorem app_22 : AppT CC 22 22 1 := appT (by kernel_rfl)
theorem ix_23 (b o : Nat) (sp : Option Nat) (len cap i : Nat) (hi : i < len) : aIndexAddr CC 23 (.slice (some ⟨b, o, sp⟩) len cap) (.int .i64 i) = some (.pointer (some ⟨b, o + i * 4, none⟩)) := ix_slice und_23 size_200 b o sp len cap i hi
theorem sp_25_0 : structPlace CC 25 0 = some (0, 1) := place_struct fld_25_0
theorem sp_25_1 : structPlace CC 25 1 = some (1, 1) := place_struct fld_25_1
theorem bld_25 (p : List (Nat × Value)) : aBuild CC 25 p = obind (fillWith (structPlace CC 25) p [.int .i64 0, .int .i64 0]) fun l => some (mkAgg l) := build_struct (by kernel_rfl) zero_25 p
theorem ix_26 (b o : Nat) (sp : Option Nat) (len cap i : Nat) (hi : i < len) : aIndexAddr CC 26 (.slice (some ⟨b, o, sp⟩) len cap) (.int .i64 i) = some (.pointer (some ⟨b, o + i * 3, none⟩)) := ix_slice und_26 size_94 b o sp len cap i hi
theorem ix_29 (b o : Nat) (sp : Option Nat) (len cap i : Nat) (hi : i < len) : aIndexAddr CC 29 (.slice (some ⟨b, o, sp⟩) len cap) (.int .i64 i) = some (.pointer (some ⟨b, o + i * 2, none⟩)) := ix_slice und_29 size_25 b o sp len cap i hi
theorem ix_30 (b o : Nat) (sp : Option Nat) (len cap i : Nat) (hi : i < len) : aIndexAddr CC 30 (.slice (some ⟨b, o, sp⟩) len cap) (.int .i64 i) = some (.pointer (some ⟨b, o + i * 2, none⟩)) := ix_slice und_30 size_206 b o sp len cap i hi
theorem ix_33 (b o : Nat) (sp : Option Nat) (len cap i : Nat) (hi : i < len) : aIndexAddr CC 33 (.slice (some ⟨b, o, sp⟩) len cap) (.int .i64 i) = some (.pointer (some ⟨b, o + i * 1, none⟩)) := ix_slice und_33 size_22 b o sp len cap i hi
theorem bs_33 {v : Value} (h : cellsOf v = [v]) : aBuildSlice CC 33 1 [(0, v)] = some (.new (.row [v] 1 true) (sliceTo 1 1 1)) := buildSlice_one und_33 size_22 zero_22 rfl h
theorem ix_36 (b o : Nat) (sp : Option Nat) (len cap i : Nat) (hi : i < len) : aIndexAddr CC 36 (.slice (some ⟨b, o, sp⟩) len cap) (.int .i64 i) = some (.pointer (some ⟨b, o + i * 5, none⟩)) := ix_slice und_36 size_96 b o sp len cap i hi
theorem ix_41 (b o : Nat) (sp : Option Nat) (len cap i : Nat) (hi : i < len) : aIndexAddr CC 41 (.slice (some ⟨b, o, sp⟩) len cap) (.int .i64 i) = some (.pointer (some ⟨b, o + i * 6, none⟩)) := ix_slice und_41 size_143 b o sp len cap i hi
theorem ix_44 (b o : Nat) (sp : Option Nat) (len cap i : Nat) (hi : i < len) : aIndexAddr CC 44 (.slice (some ⟨b, o, sp⟩) len cap) (.int .i64 i) = some (.pointer (some ⟨b, o + i * 5, none⟩)) := ix_slice und_44 size_89 b o sp len cap i hi
theorem ix_45 (b o : Nat) (sp : Option Nat) (len cap i : Nat) (hi : i < len) : aIndexAddr CC 45 (.slice (some ⟨b, o, sp⟩) len cap) (.int .i64 i) = some (.pointer (some ⟨b, o + i * 5, none⟩)) := ix_slice und_45 size_166 b o sp len cap i hi
theorem sp_80_0 : structPlace CC 80 0 = some (0, 1) := place_struct fld_80_0
theorem sp_80_1 : structPlace CC 80 1 = some (1, 1) := place_struct fld_80_1
theorem bld_80 (p : List (Nat × Value)) : aBuild CC 80 p = obind (fillWith (structPlace CC 80) p [.int .i64 0, .slice none 0 0]) fun l => some (mkAgg l) := build_struct (by kernel_rfl) zero_80 p
theorem sp_92_0 : structPlace CC 92 0 = some (0, 1) := place_struct fld_92_0
theorem sp_92_1 : structPlace CC 92 1 = some (1, 1) := place_struct fld_92_1
theorem bld_92 (p : List (Nat × Value)) : aBuild CC 92 p = obind (fillWith (structPlace CC 92) p [.int .i64 0, .slice none 0 0]) fun l => some (mkAgg l) := build_struct (by kernel_rfl) zero_92 p
theorem sp_94_0 : structPlace CC 94 0 = some (0, 1) := place_struct fld_94_0
theorem sp_94_1 : structPlace CC 94 1 = some (1, 1) := place_struct fld_94_1
theorem sp_94_2 : structPlace CC 94 2 = some (2, 1) := place_struct fld_94_2
theorem bld_94 (p : List (Nat × Value)) : aBuild CC 94 p = obind (fillWith (structPlace CC 94) p [.slice none 0 0, .slice none 0 0, .bool false]) fun l => some (mkAgg l) := build_struct (by kernel_rfl) zero_94 p
theorem ix_108 (b o : Nat) (sp : Option Nat) (len cap i : Nat) (hi : i < len) : aIndexAddr CC 108 (.slice (some ⟨b, o, sp⟩) len cap) (.int .i64 i) = some (.pointer (some ⟨b, o + i * 2, none⟩)) := ix_slice und_108 size_80 b o sp len cap i hi
theorem sp_110_0 : structPlace CC 110 0 = some (0, 1) := place_struct fld_110_0
theorem sp_110_1 : structPlace CC 110 1 = some (1, 35) := place_struct fld_110_1
theorem sp_110_2 : structPlace CC 110 2 = some (36, 1) := place_struct fld_110_2
theorem sp_177_0 : structPlace CC 177 0 = some (0, 3) := place_struct fld_177_0
theorem sp_177_1 : structPlace CC 177 1 = some (3, 1) := place_struct fld_177_1
theorem sp_177_2 : structPlace CC 177 2 = some (4, 1) := place_struct fld_177_2
theorem bld_177 (p : List (Nat × Value)) : aBuild CC 177 p = obind (fillWith (structPlace CC 177) p [.slice none 0 0, .slice none 0 0, .slice none 0 0, .slice none 0 0, .map none]) fun l => some (mkAgg l) := build_struct (by kernel_rfl) zero_177 p
theorem bld_182 (p : List (Nat × Value)) : aBuild CC 182 p = obind (fillWith (rowPlace 1) p [.nilFunc, .nilFunc, .nilFunc, .nilFunc, .nilFunc, .nilFunc, .nilFunc, .nilFunc, .nilFunc, .nilFunc, .nilFunc, .nilFunc, .nilFunc, .nilFunc, .nilFunc, .nilFunc]) fun l => some (mkAgg l) := build_array und_182 size_181 zero_182 p
theorem ia_182_0 (b o : Nat) (sp : Option Nat) : aIndexAddr CC 182 (.pointer (some ⟨b, o, sp⟩)) (.int .i64 0) = some (.pointer (some ⟨b, o + 0, none⟩)) := indexAddr_array und_182 size_181 b o sp 0 (by decide)
theorem xi_182_0 (l : List Value) : aIndex CC 182 (.agg ⟨l⟩) (.int .i64 0) = l[0]? := index_array und_182 size_181 (by kernel_rfl) l 0 (by decide)
theorem ia_182_1 (b o : Nat) (sp : Option Nat) : aIndexAddr CC 182 (.pointer (some ⟨b, o, sp⟩)) (.int .i64 1) = some (.pointer (some ⟨b, o + 1, none⟩)) := indexAddr_array und_182 size_181 b o sp 1 (by decide)
theorem xi_182_1 (l : List Value) : aIndex CC 182 (.agg ⟨l⟩) (.int .i64 1) = l[1]? := index_array und_182 size_181 (by kernel_rfl) l 1 (by decide)
theorem ia_182_2 (b o : Nat) (sp : Option Nat) : aIndexAddr CC 182 (.pointer (some ⟨b, o, sp⟩)) (.int .i64 2) = some (.pointer (some ⟨b, o + 2, none⟩)) := indexAddr_array und_182 size_181 b o sp 2 (by decide)
theorem xi_182_2 (l : List Value) : aIndex CC 182 (.agg ⟨l⟩) (.int .i64 2) = l[2]? := index_array und_182 size_181 (by kernel_rfl) l 2 (by decide)
theorem ia_182_3 (b o : Nat) (sp : Option Nat) : aIndexAddr CC 182 (.pointer (some ⟨b, o, sp⟩)) (.int .i64 3) = some (.pointer (some ⟨b, o + 3, none⟩)) := indexAddr_array und_182 size_181 b o sp 3 (by decide)
theorem xi_182_3 (l : List Value) : aIndex CC 182 (.agg ⟨l⟩) (.int .i64 3) = l[3]? := index_array und_182 size_181 (by kernel_rfl) l 3 (by decide)
theorem ia_182_4 (b o : Nat) (sp : Option Nat) : aIndexAddr CC 182 (.pointer (some ⟨b, o, sp⟩)) (.int .i64 4) = some (.pointer (some ⟨b, o + 4, none⟩)) := indexAddr_array und_182 size_181 b o sp 4 (by decide)
theorem xi_182_4 (l : List Value) : aIndex CC 182 (.agg ⟨l⟩) (.int .i64 4) = l[4]? := index_array und_182 size_181 (by kernel_rfl) l 4 (by decide)
theorem ia_182_5 (b o : Nat) (sp : Option Nat) : aIndexAddr CC 182 (.pointer (some ⟨b, o, sp⟩)) (.int .i64 5) = some (.pointer (some ⟨b, o + 5, none⟩)) := indexAddr_array und_182 size_181 b o sp 5 (by decide)
theorem xi_182_5 (l : List Value) : aIndex CC 182 (.agg ⟨l⟩) (.int .i64 5) = l[5]? := index_array und_182 size_181 (by kernel_rfl) l 5 (by decide)
theorem ia_182_6 (b o : Nat) (sp : Option Nat) : aIndexAddr CC 182 (.pointer (some ⟨b, o, sp⟩)) (.int .i64 6) = some (.pointer (some ⟨b, o + 6, none⟩)) := indexAddr_array und_182 size_181 b o sp 6 (by decide)
theorem xi_182_6 (l : List Value) : aIndex CC 182 (.agg ⟨l⟩) (.int .i64 6) = l[6]? := index_array und_182 size_181 (by kernel_rfl) l 6 (by decide)
theorem ia_182_7 (b o : Nat) (sp : Option Nat) : aIndexAddr CC 182 (.pointer (some ⟨b, o, sp⟩)) (.int .i64 7) = some (.pointer (some ⟨b, o + 7, none⟩)) := indexAddr_array und_182 size_181 b o sp 7 (by decide)
theorem xi_182_7 (l : List Value) : aIndex CC 182 (.agg ⟨l⟩) (.int .i64 7) = l[7]? := index_array und_182 size_181 (by kernel_rfl) l 7 (by decide)
theorem sp_257_0 : structPlace CC 257 0 = some (0, 35) := place_struct fld_257_0
theorem sp_257_1 : structPlace CC 257 1 = some (35, 1) := place_struct fld_257_1
theorem sp_257_2 : structPlace CC 257 2 = some (36, 1) := place_struct fld_257_2
theorem sp_257_3 : structPlace CC 257 3 = some (37, 1) := place_struct fld_257_3
theorem sp_257_4 : structPlace CC 257 4 = some (38, 1) := place_struct fld_257_4
theorem sp_257_5 : structPlace CC 257 5 = some (39, 1) := place_struct fld_257_5
theorem sp_257_6 : structPlace CC 257 6 = some (40, 1) := place_struct fld_257_6
theorem sp_257_7 : structPlace CC 257 7 = some (41, 1) := place_struct fld_257_7
theorem sp_257_8 : structPlace CC 257 8 = some (42, 1) := place_struct fld_257_8
theorem sp_257_9 : structPlace CC 257 9 = some (43, 1) := place_struct fld_257_9
theorem sp_263_0 : structPlace CC 263 0 = some (0, 1) := place_struct fld_263_0
theorem bld_263 (p : List (Nat × Value)) : aBuild CC 263 p = obind (fillWith (structPlace CC 263) p [.string ⟨⟨[]⟩⟩]) fun l => some (mkAgg l) := build_struct (by kernel_rfl) zero_263 p
theorem mi_263 (v : Value) : aMakeIface CC 263 v = some (.val (.iface 263 v)) := make_iface (by kernel_rfl) v
theorem mi_265 (v : Value) : aMakeIface CC 265 v = some (.val (.iface 265 v)) := make_iface (by kernel_rfl) v
theorem bld_267 (p : List (Nat × Value)) : aBuild CC 267 p = obind (fillWith (structPlace CC 267) p []) fun l => some (mkAgg l) := build_struct (by kernel_rfl) zero_267 p
theorem mi_267 (v : Value) : aMakeIface CC 267 v = some (.val (.iface 267 v)) := make_iface (by kernel_rfl) v
theorem sp_269_0 : structPlace CC 269 0 = some (0, 1) := place_struct fld_269_0
theorem sp_269_1 : structPlace CC 269 1 = some (1, 2) := place_struct fld_269_1
theorem bld_269 (p : List (Nat × Value)) : aBuild CC 269 p = obind (fillWith (structPlace CC 269) p [.int .i64 0, .int .i64 0, .int .i64 0]) fun l => some (mkAgg l) := build_struct (by kernel_rfl) zero_269 p
theorem mi_269 (v : Value) : aMakeIface CC 269 v = some (.val (.iface 269 v)) := make_iface (by kernel_rfl) v
theorem mi_270 (v : Value) : aMakeIface CC 270 v = some (.val (.iface 270 v)) := make_iface (by kernel_rfl) v
theorem ix_270 (b o : Nat) (sp : Option Nat) (len cap i : Nat) (hi : i < len) : aIndexAddr CC 270 (.slice (some ⟨b, o, sp⟩) len cap) (.int .i64 i) = some (.pointer (some ⟨b, o + i * 1, none⟩)) := ix_slice und_270 size_3 b o sp len cap i hi
theorem mi_271 (v : Value) : aMakeIface CC 271 v = some (.val (.iface 271 v)) := make_iface (by kernel_rfl) v
theorem ix_271 (b o : Nat) (sp : Option Nat) (len cap i : Nat) (hi : i < len) : aIndexAddr CC 271 (.slice (some ⟨b, o, sp⟩) len cap) (.int .i64 i) = some (.pointer (some ⟨b, o + i * 1, none⟩)) := ix_slice und_271 size_3 b o sp len cap i hi
theorem sp_273_0 : structPlace CC 273 0 = some (0, 1) := place_struct fld_273_0
theorem sp_273_1 : structPlace CC 273 1 = some (1, 1) := place_struct fld_273_1
theorem bld_273 (p : List (Nat × Value)) : aBuild CC 273 p = obind (fillWith (structPlace CC 273) p [.int .i64 0, .int .i64 0]) fun l => some (mkAgg l) := build_struct (by kernel_rfl) zero_273 p
theorem mi_273 (v : Value) : aMakeIface CC 273 v = some (.val (.iface 273 v)) := make_iface (by kernel_rfl) v
theorem sp_275_0 : structPlace CC 275 0 = some (0, 1) := place_struct fld_275_0
theorem sp_275_1 : structPlace CC 275 1 = some (1, 1) := place_struct fld_275_1
theorem bld_275 (p : List (Nat × Value)) : aBuild CC 275 p = obind (fillWith (structPlace CC 275) p [.int .i64 0, .int .i64 0]) fun l => some (mkAgg l) := build_struct (by kernel_rfl) zero_275 p
theorem mi_275 (v : Value) : aMakeIface CC 275 v = some (.val (.iface 275 v)) := make_iface (by kernel_rfl) v
theorem mi_276 (v : Value) : aMakeIface CC 276 v = some (.val (.iface 276 v)) := make_iface (by kernel_rfl) v
theorem sp_278_0 : structPlace CC 278 0 = some (0, 1) := place_struct fld_278_0
theorem sp_278_1 : structPlace CC 278 1 = some (1, 1) := place_struct fld_278_1
theorem bld_278 (p : List (Nat × Value)) : aBuild CC 278 p = obind (fillWith (structPlace CC 278) p [.int .i64 0, .int .i64 0]) fun l => some (mkAgg l) := build_struct (by kernel_rfl) zero_278 p
theorem mi_278 (v : Value) : aMakeIface CC 278 v = some (.val (.iface 278 v)) := make_iface (by kernel_rfl) v
theorem mi_279 (v : Value) : aMakeIface CC 279 v = some (.val (.iface 279 v)) := make_iface (by kernel_rfl) v
theorem sp_281_0 : structPlace CC 281 0 = some (0, 1) := place_struct fld_281_0
theorem sp_281_1 : structPlace CC 281 1 = some (1, 1) := place_struct fld_281_1
theorem bld_281 (p : List (Nat × Value)) : aBuild CC 281 p = obind (fillWith (structPlace CC 281) p [.int .i64 0, .int .i64 0]) fun l => some (mkAgg l) := build_struct (by kernel_rfl) zero_281 p
theorem mi_281 (v : Value) : aMakeIface CC 281 v = some (.val (.iface 281 v)) := make_iface (by kernel_rfl) v
theorem mi_282 (v : Value) : aMakeIface CC 282 v = some (.val (.iface 282 v)) := make_iface (by kernel_rfl) v
theorem bld_283 (p : List (Nat × Value)) : aBuild CC 283 p = obind (fillWith (structPlace CC 283) p []) fun l => some (mkAgg l) := build_struct (by kernel_rfl) zero_283 p
theorem mi_283 (v : Value) : aMakeIface CC 283 v = some (.val (.iface 283 v)) := make_iface (by kernel_rfl) v
theorem sp_353_0 : structPlace CC 353 0 = some (0, 5) := place_struct fld_353_0
theorem sp_353_1 : structPlace CC 353 1 = some (5, 1) := place_struct fld_353_1
theorem bld_353 (p : List (Nat × Value)) : aBuild CC 353 p = obind (fillWith (structPlace CC 353) p [.int .i64 0, .int .i64 0, .int .i64 0, .int .i64 0, .bool false, .int .i64 0]) fun l => some (mkAgg l) := build_struct (by kernel_rfl) zero_353 p
theorem sp_355_0 : structPlace CC 355 0 = some (0, 1) := place_struct fld_355_0
theorem sp_355_1 : structPlace CC 355 1 = some (1, 1) := place_struct fld_355_1
theorem bld_355 (p : List (Nat × Value)) : aBuild CC 355 p = obind (fillWith (structPlace CC 355) p [.int .i64 0, .int .i64 0]) fun l => some (mkAgg l) := build_struct (by kernel_rfl) zero_355 p
theorem bld_409 (p : List (Nat × Value)) : aBuild CC 409 p = obind (fillWith (rowPlace 1) p [.nilFunc, .nilFunc, .nilFunc, .nilFunc]) fun l => some (mkAgg l) := build_array und_409 size_241 zero_409 p
theorem ia_409_0 (b o : Nat) (sp : Option Nat) : aIndexAddr CC 409 (.pointer (some ⟨b, o, sp⟩)) (.int .i64 0) = some (.pointer (some ⟨b, o + 0, none⟩)) := indexAddr_array und_409 size_241 b o sp 0 (by decide)
theorem xi_409_0 (l : List Value) : aIndex CC 409 (.agg ⟨l⟩) (.int .i64 0) = l[0]? := index_array und_409 size_241 (by kernel_rfl) l 0 (by decide)
theorem ia_409_1 (b o : Nat) (sp : Option Nat) : aIndexAddr CC 409 (.pointer (some ⟨b, o, sp⟩)) (.int .i64 1) = some (.pointer (some ⟨b, o + 1, none⟩)) := indexAddr_array und_409 size_241 b o sp 1 (by decide)
theorem xi_409_1 (l : List Value) : aIndex CC 409 (.agg ⟨l⟩) (.int .i64 1) = l[1]? := index_array und_409 size_241 (by kernel_rfl) l 1 (by decide)
theorem ia_409_2 (b o : Nat) (sp : Option Nat) : aIndexAddr CC 409 (.pointer (some ⟨b, o, sp⟩)) (.int .i64 2) = some (.pointer (some ⟨b, o + 2, none⟩)) := indexAddr_array und_409 size_241 b o sp 2 (by decide)
theorem xi_409_2 (l : List Value) : aIndex CC 409 (.agg ⟨l⟩) (.int .i64 2) = l[2]? := index_array und_409 size_241 (by kernel_rfl) l 2 (by decide)
theorem ia_409_3 (b o : Nat) (sp : Option Nat) : aIndexAddr CC 409 (.pointer (some ⟨b, o, sp⟩)) (.int .i64 3) = some (.pointer (some ⟨b, o + 3, none⟩)) := indexAddr_array und_409 size_241 b o sp 3 (by decide)
theorem xi_409_3 (l : List Value) : aIndex CC 409 (.agg ⟨l⟩) (.int .i64 3) = l[3]? := index_array und_409 size_241 (by kernel_rfl) l 3 (by decide)
theorem bld_410 (p : List (Nat × Value)) : aBuild CC 410 p = obind (fillWith (structPlace CC 410) p []) fun l => some (mkAgg l) := build_struct (by kernel_rfl) zero_410 p
theorem mi_410 (v : Value) : aMakeIface CC 410 v = some (.val (.iface 410 v)) := make_iface (by kernel_rfl) v
theorem bld_411 (p : List (Nat × Value)) : aBuild CC 411 p = obind (fillWith (structPlace CC 411) p []) fun l => some (mkAgg l) := build_struct (by kernel_rfl) zero_411 p
theorem mi_411 (v : Value) : aMakeIface CC 411 v = some (.val (.iface 411 v)) := make_iface (by kernel_rfl) v
theorem bld_412 (p : List (Nat × Value)) : aBuild CC 412 p = obind (fillWith (structPlace CC 412) p []) fun l => some (mkAgg l) := build_struct (by kernel_rfl) zero_412 p
theorem mi_412 (v : Value) : aMakeIface CC 412 v = some (.val (.iface 412 v)) := make_iface (by kernel_rfl) v
theorem bld_413 (p : List (Nat × Value)) : aBuild CC 413 p = obind (fillWith (structPlace CC 413) p []) fun l => some (mkAgg l) := build_struct (by kernel_rfl) zero_413 p
theorem mi_413 (v : Value) : aMakeIface CC 413 v = some (.val (.iface 413 v)) := make_iface (by kernel_rfl) v
theorem bld_414 (p : List (Nat × Value)) : aBuild CC 414 p = obind (fillWith (rowPlace 1) p [.nilIface, .nilIface, .nilIface, .nilIface]) fun l => some (mkAgg l) := build_array und_414 size_359 zero_414 p
theorem ia_414_0 (b o : Nat) (sp : Option Nat) : aIndexAddr CC 414 (.pointer (some ⟨b, o, sp⟩)) (.int .i64 0) = some (.pointer (some ⟨b, o + 0, none⟩)) := indexAddr_array und_414 size_359 b o sp 0 (by decide)
theorem xi_414_0 (l : List Value) : aIndex CC 414 (.agg ⟨l⟩) (.int .i64 0) = l[0]? := index_array und_414 size_359 (by kernel_rfl) l 0 (by decide)
theorem ia_414_1 (b o : Nat) (sp : Option Nat) : aIndexAddr CC 414 (.pointer (some ⟨b, o, sp⟩)) (.int .i64 1) = some (.pointer (some ⟨b, o + 1, none⟩)) := indexAddr_array und_414 size_359 b o sp 1 (by decide)
theorem xi_414_1 (l : List Value) : aIndex CC 414 (.agg ⟨l⟩) (.int .i64 1) = l[1]? := index_array und_414 size_359 (by kernel_rfl) l 1 (by decide)
theorem ia_414_2 (b o : Nat) (sp : Option Nat) : aIndexAddr CC 414 (.pointer (some ⟨b, o, sp⟩)) (.int .i64 2) = some (.pointer (some ⟨b, o + 2, none⟩)) := indexAddr_array und_414 size_359 b o sp 2 (by decide)
theorem xi_414_2 (l : List Value) : aIndex CC 414 (.agg ⟨l⟩) (.int .i64 2) = l[2]? := index_array und_414 size_359 (by kernel_rfl) l 2 (by decide)
theorem ia_414_3 (b o : Nat) (sp : Option Nat) : aIndexAddr CC 414 (.pointer (some ⟨b, o, sp⟩)) (.int .i64 3) = some (.pointer (some ⟨b, o + 3, none⟩)) := indexAddr_array und_414 size_359 b o sp 3 (by decide)
theorem xi_414_3 (l : List Value) : aIndex CC 414 (.agg ⟨l⟩) (.int .i64 3) = l[3]? := index_array und_414 size_359 (by kernel_rfl) l 3 (by decide)
theorem ix_436 (b o : Nat) (sp : Option Nat) (len cap i : Nat) (hi : i < len) : aIndexAddr CC 436 (.slice (some ⟨b, o, sp⟩) len cap) (.int .i64 i) = some (.pointer (some ⟨b, o + i * 2, none⟩)) := ix_slice und_436 size_438 b o sp len cap i hi
theorem app_436 : AppT CC 436 436 2 := appT (by kernel_rfl)
theorem sp_438_0 : structPlace CC 438 0 = some (0, 1) := place_struct fld_438_0
theorem sp_438_1 : structPlace CC 438 1 = some (1, 1) := place_struct fld_438_1
theorem bld_438 (p : List (Nat × Value)) : aBuild CC 438 p = obind (fillWith (structPlace CC 438) p [.int .i64 0, .int .i64 0]) fun l => some (mkAgg l) := build_struct (by kernel_rfl) zero_438 p
end Go.Am
