/- Parts 38 of the abstract machine over this program, joined: what each part says stands at its head. -/
import Derived.Test.YtfnkjclplfhjcaaGreatDoorJ36
set_option linter.unusedSimpArgs false
set_option linter.unusedVariables false
/- Facts of the program's types. Printed by mk_facts.py. -/
namespace Go.Am
open Go Go.Proofs

theorem size_3 : CC.size 3 = some 1 := by kernel_rfl
theorem zero_3 : CC.zero 3 = some (.int .i64 0) := by kernel_rfl
theorem und_3 : CC.und 3 = some (.int .i64) := by kernel_rfl
theorem part_3 (l : List Value) (p : Nat) : partOf CC 3 l p = l[p]? := part_one' (by kernel_rfl) l p
theorem ld_3 (b p : Nat) (sp : Option Nat) (h : Heap) : aLoad CC 3 (.pointer (some ⟨b, p, sp⟩)) h = obind (rowAt h b) fun l => l[p]? := load_one (by kernel_rfl) b p sp h
theorem ld_4 (b p : Nat) (sp : Option Nat) (h : Heap) : aLoad CC 4 (.pointer (some ⟨b, p, sp⟩)) h = obind (rowAt h b) fun l => l[p]? := load_one (by kernel_rfl) b p sp h
theorem size_5 : CC.size 5 = some 1 := by kernel_rfl
theorem zero_5 : CC.zero 5 = some (.int .u8 0) := by kernel_rfl
theorem und_5 : CC.und 5 = some (.int .u8) := by kernel_rfl
theorem part_5 (l : List Value) (p : Nat) : partOf CC 5 l p = l[p]? := part_one' (by kernel_rfl) l p
theorem size_9 : CC.size 9 = some 1 := by kernel_rfl
theorem zero_9 : CC.zero 9 = some (.string ⟨⟨[]⟩⟩) := by kernel_rfl
theorem und_9 : CC.und 9 = some .string := by kernel_rfl
theorem part_9 (l : List Value) (p : Nat) : partOf CC 9 l p = l[p]? := part_one' (by kernel_rfl) l p
theorem ld_9 (b p : Nat) (sp : Option Nat) (h : Heap) : aLoad CC 9 (.pointer (some ⟨b, p, sp⟩)) h = obind (rowAt h b) fun l => l[p]? := load_one (by kernel_rfl) b p sp h
theorem len_9 (s : ByteArray) (h : Heap) : aLen CC 9 (.string s) h = some (.int .i64 s.data.toList.length) := M_len_str CC 9 h s und_9
theorem und_21 : CC.und 21 = some (.int .i32) := by kernel_rfl
theorem size_22 : CC.size 22 = some 1 := by kernel_rfl
theorem zero_22 : CC.zero 22 = some (.slice none 0 0) := by kernel_rfl
theorem und_22 : CC.und 22 = some (.slice 3) := by kernel_rfl
theorem ld_22 (b p : Nat) (sp : Option Nat) (h : Heap) : aLoad CC 22 (.pointer (some ⟨b, p, sp⟩)) h = obind (rowAt h b) fun l => l[p]? := load_one (by kernel_rfl) b p sp h
theorem len_22 (p : Option Addr) (n m : Nat) (h : Heap) : aLen CC 22 (.slice p n m) h = some (.int .i64 n) := M_len_slice CC 22 h p n m _ und_22
theorem size_23 : CC.size 23 = some 1 := by kernel_rfl
theorem zero_23 : CC.zero 23 = some (.slice none 0 0) := by kernel_rfl
theorem und_23 : CC.und 23 = some (.slice 72) := by kernel_rfl
theorem ld_23 (b p : Nat) (sp : Option Nat) (h : Heap) : aLoad CC 23 (.pointer (some ⟨b, p, sp⟩)) h = obind (rowAt h b) fun l => l[p]? := load_one (by kernel_rfl) b p sp h
theorem len_23 (p : Option Addr) (n m : Nat) (h : Heap) : aLen CC 23 (.slice p n m) h = some (.int .i64 n) := M_len_slice CC 23 h p n m _ und_23
theorem size_24 : CC.size 24 = some 1 := by kernel_rfl
theorem zero_24 : CC.zero 24 = some (.slice none 0 0) := by kernel_rfl
theorem und_24 : CC.und 24 = some (.slice 41) := by kernel_rfl
theorem ld_24 (b p : Nat) (sp : Option Nat) (h : Heap) : aLoad CC 24 (.pointer (some ⟨b, p, sp⟩)) h = obind (rowAt h b) fun l => l[p]? := load_one (by kernel_rfl) b p sp h
theorem len_24 (p : Option Addr) (n m : Nat) (h : Heap) : aLen CC 24 (.slice p n m) h = some (.int .i64 n) := M_len_slice CC 24 h p n m _ und_24
theorem size_26 : CC.size 26 = some 3 := by kernel_rfl
theorem zero_26 : CC.zero 26 = some (.agg ⟨[.slice none 0 0, .slice none 0 0, .slice none 0 0]⟩) := by kernel_rfl
theorem ld_26 (b p : Nat) (sp : Option Nat) (h : Heap) : aLoad CC 26 (.pointer (some ⟨b, p, sp⟩)) h = obind (rowAt h b) fun l => obind (take? l p 3) fun l => some (mkAgg l) := load_agg (by kernel_rfl) size_26 b p sp h
theorem fld_26_0 : CC.fieldAt 26 0 = some (0, 22, 1) := by kernel_rfl
theorem fp_26_0 (b p : Nat) (sp : Option Nat) : aFieldAddr CC 26 (.pointer (some ⟨b, p, sp⟩)) 0 = some (.val (.pointer (some ⟨b, p + 0, none⟩))) := fieldAddr_at fld_26_0 rfl b p sp
theorem fld_26_1 : CC.fieldAt 26 1 = some (1, 23, 1) := by kernel_rfl
theorem fp_26_1 (b p : Nat) (sp : Option Nat) : aFieldAddr CC 26 (.pointer (some ⟨b, p, sp⟩)) 1 = some (.val (.pointer (some ⟨b, p + 1, none⟩))) := fieldAddr_at fld_26_1 rfl b p sp
theorem fld_26_2 : CC.fieldAt 26 2 = some (2, 24, 1) := by kernel_rfl
theorem fp_26_2 (b p : Nat) (sp : Option Nat) : aFieldAddr CC 26 (.pointer (some ⟨b, p, sp⟩)) 2 = some (.val (.pointer (some ⟨b, p + 2, none⟩))) := fieldAddr_at fld_26_2 rfl b p sp
theorem size_30 : CC.size 30 = some 2 := by kernel_rfl
theorem zero_30 : CC.zero 30 = some (.agg ⟨[.int .i64 0, .int .i64 0]⟩) := by kernel_rfl
theorem fld_30_0 : CC.fieldAt 30 0 = some (0, 3, 1) := by kernel_rfl
theorem fp_30_0 (b p : Nat) (sp : Option Nat) : aFieldAddr CC 30 (.pointer (some ⟨b, p, sp⟩)) 0 = some (.val (.pointer (some ⟨b, p + 0, none⟩))) := fieldAddr_at fld_30_0 rfl b p sp
theorem fld_30_1 : CC.fieldAt 30 1 = some (1, 3, 1) := by kernel_rfl
theorem fp_30_1 (b p : Nat) (sp : Option Nat) : aFieldAddr CC 30 (.pointer (some ⟨b, p, sp⟩)) 1 = some (.val (.pointer (some ⟨b, p + 1, none⟩))) := fieldAddr_at fld_30_1 rfl b p sp
theorem size_31 : CC.size 31 = some 1 := by kernel_rfl
theorem zero_31 : CC.zero 31 = some (.int .i64 0) := by kernel_rfl
theorem und_31 : CC.und 31 = some (.int .i64) := by kernel_rfl
theorem ld_31 (b p : Nat) (sp : Option Nat) (h : Heap) : aLoad CC 31 (.pointer (some ⟨b, p, sp⟩)) h = obind (rowAt h b) fun l => l[p]? := load_one (by kernel_rfl) b p sp h
theorem ld_38 (b p : Nat) (sp : Option Nat) (h : Heap) : aLoad CC 38 (.pointer (some ⟨b, p, sp⟩)) h = obind (rowAt h b) fun l => l[p]? := load_one (by kernel_rfl) b p sp h
theorem ld_39 (b p : Nat) (sp : Option Nat) (h : Heap) : aLoad CC 39 (.pointer (some ⟨b, p, sp⟩)) h = obind (rowAt h b) fun l => l[p]? := load_one (by kernel_rfl) b p sp h
theorem size_41 : CC.size 41 = some 5 := by kernel_rfl
theorem zero_41 : CC.zero 41 = some (.agg ⟨[.int .i64 0, .int .i64 0, .int .i64 0, .int .i64 0, .bool false]⟩) := by kernel_rfl
theorem part_41 (l : List Value) (p : Nat) : partOf CC 41 l p = obind (take? l p 5) fun l => some (mkAgg l) := part_agg' (by kernel_rfl) size_41 l p
theorem ld_41 (b p : Nat) (sp : Option Nat) (h : Heap) : aLoad CC 41 (.pointer (some ⟨b, p, sp⟩)) h = obind (rowAt h b) fun l => obind (take? l p 5) fun l => some (mkAgg l) := load_agg (by kernel_rfl) size_41 b p sp h
theorem fld_41_0 : CC.fieldAt 41 0 = some (0, 38, 1) := by kernel_rfl
theorem fp_41_0 (b p : Nat) (sp : Option Nat) : aFieldAddr CC 41 (.pointer (some ⟨b, p, sp⟩)) 0 = some (.val (.pointer (some ⟨b, p + 0, none⟩))) := fieldAddr_at fld_41_0 rfl b p sp
theorem fld_41_1 : CC.fieldAt 41 1 = some (1, 3, 1) := by kernel_rfl
theorem fp_41_1 (b p : Nat) (sp : Option Nat) : aFieldAddr CC 41 (.pointer (some ⟨b, p, sp⟩)) 1 = some (.val (.pointer (some ⟨b, p + 1, none⟩))) := fieldAddr_at fld_41_1 rfl b p sp
theorem fld_41_2 : CC.fieldAt 41 2 = some (2, 3, 1) := by kernel_rfl
theorem fp_41_2 (b p : Nat) (sp : Option Nat) : aFieldAddr CC 41 (.pointer (some ⟨b, p, sp⟩)) 2 = some (.val (.pointer (some ⟨b, p + 2, none⟩))) := fieldAddr_at fld_41_2 rfl b p sp
theorem fld_41_3 : CC.fieldAt 41 3 = some (3, 39, 1) := by kernel_rfl
theorem fp_41_3 (b p : Nat) (sp : Option Nat) : aFieldAddr CC 41 (.pointer (some ⟨b, p, sp⟩)) 3 = some (.val (.pointer (some ⟨b, p + 3, none⟩))) := fieldAddr_at fld_41_3 rfl b p sp
theorem fld_41_4 : CC.fieldAt 41 4 = some (4, 4, 1) := by kernel_rfl
theorem fp_41_4 (b p : Nat) (sp : Option Nat) : aFieldAddr CC 41 (.pointer (some ⟨b, p, sp⟩)) 4 = some (.val (.pointer (some ⟨b, p + 4, none⟩))) := fieldAddr_at fld_41_4 rfl b p sp
theorem size_72 : CC.size 72 = some 5 := by kernel_rfl
theorem zero_72 : CC.zero 72 = some (.agg ⟨[.int .i64 0, .int .i64 0, .int .i64 0, .int .i64 0, .int .i64 0]⟩) := by kernel_rfl
theorem part_72 (l : List Value) (p : Nat) : partOf CC 72 l p = obind (take? l p 5) fun l => some (mkAgg l) := part_agg' (by kernel_rfl) size_72 l p
theorem ld_72 (b p : Nat) (sp : Option Nat) (h : Heap) : aLoad CC 72 (.pointer (some ⟨b, p, sp⟩)) h = obind (rowAt h b) fun l => obind (take? l p 5) fun l => some (mkAgg l) := load_agg (by kernel_rfl) size_72 b p sp h
theorem fld_72_0 : CC.fieldAt 72 0 = some (0, 3, 1) := by kernel_rfl
theorem fp_72_0 (b p : Nat) (sp : Option Nat) : aFieldAddr CC 72 (.pointer (some ⟨b, p, sp⟩)) 0 = some (.val (.pointer (some ⟨b, p + 0, none⟩))) := fieldAddr_at fld_72_0 rfl b p sp
theorem fld_72_1 : CC.fieldAt 72 1 = some (1, 3, 1) := by kernel_rfl
theorem fp_72_1 (b p : Nat) (sp : Option Nat) : aFieldAddr CC 72 (.pointer (some ⟨b, p, sp⟩)) 1 = some (.val (.pointer (some ⟨b, p + 1, none⟩))) := fieldAddr_at fld_72_1 rfl b p sp
theorem fld_72_2 : CC.fieldAt 72 2 = some (2, 30, 2) := by kernel_rfl
theorem fp_72_2 (b p : Nat) (sp : Option Nat) : aFieldAddr CC 72 (.pointer (some ⟨b, p, sp⟩)) 2 = some (.val (.pointer (some ⟨b, p + 2, none⟩))) := fieldAddr_at fld_72_2 rfl b p sp
theorem fld_72_3 : CC.fieldAt 72 3 = some (4, 3, 1) := by kernel_rfl
theorem fp_72_3 (b p : Nat) (sp : Option Nat) : aFieldAddr CC 72 (.pointer (some ⟨b, p, sp⟩)) 3 = some (.val (.pointer (some ⟨b, p + 4, none⟩))) := fieldAddr_at fld_72_3 rfl b p sp
theorem size_88 : CC.size 88 = some 1 := by kernel_rfl
theorem zero_88 : CC.zero 88 = some (.slice none 0 0) := by kernel_rfl
theorem und_88 : CC.und 88 = some (.slice 5) := by kernel_rfl
theorem size_107 : CC.size 107 = some 1 := by kernel_rfl
theorem zero_107 : CC.zero 107 = some (.agg ⟨[.int .i64 0]⟩) := by kernel_rfl
theorem fld_107_0 : CC.fieldAt 107 0 = some (0, 3, 1) := by kernel_rfl
theorem fp_107_0 (b p : Nat) (sp : Option Nat) : aFieldAddr CC 107 (.pointer (some ⟨b, p, sp⟩)) 0 = some (.val (.pointer (some ⟨b, p + 0, none⟩))) := fieldAddr_at fld_107_0 rfl b p sp
theorem size_117 : CC.size 117 = some 1 := by kernel_rfl
theorem zero_117 : CC.zero 117 = some (.slice none 0 0) := by kernel_rfl
theorem und_117 : CC.und 117 = some (.slice 9) := by kernel_rfl
theorem len_117 (p : Option Addr) (n m : Nat) (h : Heap) : aLen CC 117 (.slice p n m) h = some (.int .i64 n) := M_len_slice CC 117 h p n m _ und_117
theorem size_129 : CC.size 129 = some 1 := by kernel_rfl
theorem zero_129 : CC.zero 129 = some (.agg ⟨[.string ⟨⟨[]⟩⟩]⟩) := by kernel_rfl
theorem fld_129_0 : CC.fieldAt 129 0 = some (0, 9, 1) := by kernel_rfl
theorem size_143 : CC.size 143 = some 6 := by kernel_rfl
theorem zero_143 : CC.zero 143 = some (.agg ⟨[.string ⟨⟨[]⟩⟩, .string ⟨⟨[]⟩⟩, .string ⟨⟨[]⟩⟩, .string ⟨⟨[]⟩⟩, .string ⟨⟨[]⟩⟩, .string ⟨⟨[]⟩⟩]⟩) := by kernel_rfl
theorem und_143 : CC.und 143 = some (.array 6 9) := by kernel_rfl
theorem ld_143 (b p : Nat) (sp : Option Nat) (h : Heap) : aLoad CC 143 (.pointer (some ⟨b, p, sp⟩)) h = obind (rowAt h b) fun l => obind (take? l p 6) fun l => some (mkAgg l) := load_agg (by kernel_rfl) size_143 b p sp h
theorem zero_154 : CC.zero 154 = some (.agg ⟨[.int .i64 0, .int .i64 0, .int .i64 0, .int .i64 0, .bool false, .int .i64 0]⟩) := by kernel_rfl
theorem size_170 : CC.size 170 = some 4 := by kernel_rfl
theorem zero_170 : CC.zero 170 = some (.agg ⟨[.string ⟨⟨[]⟩⟩, .string ⟨⟨[]⟩⟩, .string ⟨⟨[]⟩⟩, .string ⟨⟨[]⟩⟩]⟩) := by kernel_rfl
theorem und_170 : CC.und 170 = some (.array 4 9) := by kernel_rfl
theorem ld_170 (b p : Nat) (sp : Option Nat) (h : Heap) : aLoad CC 170 (.pointer (some ⟨b, p, sp⟩)) h = obind (rowAt h b) fun l => obind (take? l p 4) fun l => some (mkAgg l) := load_agg (by kernel_rfl) size_170 b p sp h
theorem ix_22 (b o : Nat) (sp : Option Nat) (len cap i : Nat) (hi : i < len) : aIndexAddr CC 22 (.slice (some ⟨b, o, sp⟩) len cap) (.int .i64 i) = some (.pointer (some ⟨b, o + i * 1, none⟩)) := ix_slice und_22 size_3 b o sp len cap i hi
theorem bs_22 {v : Value} (h : cellsOf v = [v]) : aBuildSlice CC 22 1 [(0, v)] = some (.new (.row [v] 1 true) (sliceTo 1 1 1)) := buildSlice_one und_22 size_3 zero_3 rfl h
theorem app_22 : AppT CC 22 22 1 := appT (by kernel_rfl)
theorem ix_23 (b o : Nat) (sp : Option Nat) (len cap i : Nat) (hi : i < len) : aIndexAddr CC 23 (.slice (some ⟨b, o, sp⟩) len cap) (.int .i64 i) = some (.pointer (some ⟨b, o + i * 5, none⟩)) := ix_slice und_23 size_72 b o sp len cap i hi
theorem app_23 : AppT CC 23 23 5 := appT (by kernel_rfl)
theorem ix_24 (b o : Nat) (sp : Option Nat) (len cap i : Nat) (hi : i < len) : aIndexAddr CC 24 (.slice (some ⟨b, o, sp⟩) len cap) (.int .i64 i) = some (.pointer (some ⟨b, o + i * 5, none⟩)) := ix_slice und_24 size_41 b o sp len cap i hi
theorem app_24 : AppT CC 24 24 5 := appT (by kernel_rfl)
theorem sp_26_0 : structPlace CC 26 0 = some (0, 1) := place_struct fld_26_0
theorem sp_26_1 : structPlace CC 26 1 = some (1, 1) := place_struct fld_26_1
theorem sp_26_2 : structPlace CC 26 2 = some (2, 1) := place_struct fld_26_2
theorem bld_26 (p : List (Nat × Value)) : aBuild CC 26 p = obind (fillWith (structPlace CC 26) p [.slice none 0 0, .slice none 0 0, .slice none 0 0]) fun l => some (mkAgg l) := build_struct (by kernel_rfl) zero_26 p
theorem sp_30_0 : structPlace CC 30 0 = some (0, 1) := place_struct fld_30_0
theorem sp_30_1 : structPlace CC 30 1 = some (1, 1) := place_struct fld_30_1
theorem bld_30 (p : List (Nat × Value)) : aBuild CC 30 p = obind (fillWith (structPlace CC 30) p [.int .i64 0, .int .i64 0]) fun l => some (mkAgg l) := build_struct (by kernel_rfl) zero_30 p
theorem sp_41_0 : structPlace CC 41 0 = some (0, 1) := place_struct fld_41_0
theorem sp_41_1 : structPlace CC 41 1 = some (1, 1) := place_struct fld_41_1
theorem sp_41_2 : structPlace CC 41 2 = some (2, 1) := place_struct fld_41_2
theorem sp_41_3 : structPlace CC 41 3 = some (3, 1) := place_struct fld_41_3
theorem sp_41_4 : structPlace CC 41 4 = some (4, 1) := place_struct fld_41_4
theorem bld_41 (p : List (Nat × Value)) : aBuild CC 41 p = obind (fillWith (structPlace CC 41) p [.int .i64 0, .int .i64 0, .int .i64 0, .int .i64 0, .bool false]) fun l => some (mkAgg l) := build_struct (by kernel_rfl) zero_41 p
theorem sp_72_0 : structPlace CC 72 0 = some (0, 1) := place_struct fld_72_0
theorem sp_72_1 : structPlace CC 72 1 = some (1, 1) := place_struct fld_72_1
theorem sp_72_2 : structPlace CC 72 2 = some (2, 2) := place_struct fld_72_2
theorem sp_72_3 : structPlace CC 72 3 = some (4, 1) := place_struct fld_72_3
theorem bld_72 (p : List (Nat × Value)) : aBuild CC 72 p = obind (fillWith (structPlace CC 72) p [.int .i64 0, .int .i64 0, .int .i64 0, .int .i64 0, .int .i64 0]) fun l => some (mkAgg l) := build_struct (by kernel_rfl) zero_72 p
theorem ix_88 (b o : Nat) (sp : Option Nat) (len cap i : Nat) (hi : i < len) : aIndexAddr CC 88 (.slice (some ⟨b, o, sp⟩) len cap) (.int .i64 i) = some (.pointer (some ⟨b, o + i * 1, none⟩)) := ix_slice und_88 size_5 b o sp len cap i hi
theorem bs_88 {v : Value} (h : cellsOf v = [v]) : aBuildSlice CC 88 1 [(0, v)] = some (.new (.row [v] 1 true) (sliceTo 1 1 1)) := buildSlice_one und_88 size_5 zero_5 rfl h
theorem ix_117 (b o : Nat) (sp : Option Nat) (len cap i : Nat) (hi : i < len) : aIndexAddr CC 117 (.slice (some ⟨b, o, sp⟩) len cap) (.int .i64 i) = some (.pointer (some ⟨b, o + i * 1, none⟩)) := ix_slice und_117 size_9 b o sp len cap i hi
theorem bs_117 {v : Value} (h : cellsOf v = [v]) : aBuildSlice CC 117 1 [(0, v)] = some (.new (.row [v] 1 true) (sliceTo 1 1 1)) := buildSlice_one und_117 size_9 zero_9 rfl h
theorem app_117 : AppT CC 117 117 1 := appT (by kernel_rfl)
theorem sp_129_0 : structPlace CC 129 0 = some (0, 1) := place_struct fld_129_0
theorem bld_129 (p : List (Nat × Value)) : aBuild CC 129 p = obind (fillWith (structPlace CC 129) p [.string ⟨⟨[]⟩⟩]) fun l => some (mkAgg l) := build_struct (by kernel_rfl) zero_129 p
theorem mi_129 (v : Value) : aMakeIface CC 129 v = some (.val (.iface 129 v)) := make_iface (by kernel_rfl) v
theorem bld_143 (p : List (Nat × Value)) : aBuild CC 143 p = obind (fillWith (rowPlace 1) p [.string ⟨⟨[]⟩⟩, .string ⟨⟨[]⟩⟩, .string ⟨⟨[]⟩⟩, .string ⟨⟨[]⟩⟩, .string ⟨⟨[]⟩⟩, .string ⟨⟨[]⟩⟩]) fun l => some (mkAgg l) := build_array und_143 size_9 zero_143 p
theorem ia_143_0 (b o : Nat) (sp : Option Nat) : aIndexAddr CC 143 (.pointer (some ⟨b, o, sp⟩)) (.int .i64 0) = some (.pointer (some ⟨b, o + 0, none⟩)) := indexAddr_array und_143 size_9 b o sp 0 (by decide)
theorem xi_143_0 (l : List Value) : aIndex CC 143 (.agg ⟨l⟩) (.int .i64 0) = l[0]? := index_array und_143 size_9 (by kernel_rfl) l 0 (by decide)
theorem ia_143_1 (b o : Nat) (sp : Option Nat) : aIndexAddr CC 143 (.pointer (some ⟨b, o, sp⟩)) (.int .i64 1) = some (.pointer (some ⟨b, o + 1, none⟩)) := indexAddr_array und_143 size_9 b o sp 1 (by decide)
theorem xi_143_1 (l : List Value) : aIndex CC 143 (.agg ⟨l⟩) (.int .i64 1) = l[1]? := index_array und_143 size_9 (by kernel_rfl) l 1 (by decide)
theorem ia_143_2 (b o : Nat) (sp : Option Nat) : aIndexAddr CC 143 (.pointer (some ⟨b, o, sp⟩)) (.int .i64 2) = some (.pointer (some ⟨b, o + 2, none⟩)) := indexAddr_array und_143 size_9 b o sp 2 (by decide)
theorem xi_143_2 (l : List Value) : aIndex CC 143 (.agg ⟨l⟩) (.int .i64 2) = l[2]? := index_array und_143 size_9 (by kernel_rfl) l 2 (by decide)
theorem ia_143_3 (b o : Nat) (sp : Option Nat) : aIndexAddr CC 143 (.pointer (some ⟨b, o, sp⟩)) (.int .i64 3) = some (.pointer (some ⟨b, o + 3, none⟩)) := indexAddr_array und_143 size_9 b o sp 3 (by decide)
theorem xi_143_3 (l : List Value) : aIndex CC 143 (.agg ⟨l⟩) (.int .i64 3) = l[3]? := index_array und_143 size_9 (by kernel_rfl) l 3 (by decide)
theorem ia_143_4 (b o : Nat) (sp : Option Nat) : aIndexAddr CC 143 (.pointer (some ⟨b, o, sp⟩)) (.int .i64 4) = some (.pointer (some ⟨b, o + 4, none⟩)) := indexAddr_array und_143 size_9 b o sp 4 (by decide)
theorem xi_143_4 (l : List Value) : aIndex CC 143 (.agg ⟨l⟩) (.int .i64 4) = l[4]? := index_array und_143 size_9 (by kernel_rfl) l 4 (by decide)
theorem ia_143_5 (b o : Nat) (sp : Option Nat) : aIndexAddr CC 143 (.pointer (some ⟨b, o, sp⟩)) (.int .i64 5) = some (.pointer (some ⟨b, o + 5, none⟩)) := indexAddr_array und_143 size_9 b o sp 5 (by decide)
theorem xi_143_5 (l : List Value) : aIndex CC 143 (.agg ⟨l⟩) (.int .i64 5) = l[5]? := index_array und_143 size_9 (by kernel_rfl) l 5 (by decide)
theorem bld_170 (p : List (Nat × Value)) : aBuild CC 170 p = obind (fillWith (rowPlace 1) p [.string ⟨⟨[]⟩⟩, .string ⟨⟨[]⟩⟩, .string ⟨⟨[]⟩⟩, .string ⟨⟨[]⟩⟩]) fun l => some (mkAgg l) := build_array und_170 size_9 zero_170 p
theorem ia_170_0 (b o : Nat) (sp : Option Nat) : aIndexAddr CC 170 (.pointer (some ⟨b, o, sp⟩)) (.int .i64 0) = some (.pointer (some ⟨b, o + 0, none⟩)) := indexAddr_array und_170 size_9 b o sp 0 (by decide)
theorem xi_170_0 (l : List Value) : aIndex CC 170 (.agg ⟨l⟩) (.int .i64 0) = l[0]? := index_array und_170 size_9 (by kernel_rfl) l 0 (by decide)
theorem ia_170_1 (b o : Nat) (sp : Option Nat) : aIndexAddr CC 170 (.pointer (some ⟨b, o, sp⟩)) (.int .i64 1) = some (.pointer (some ⟨b, o + 1, none⟩)) := indexAddr_array und_170 size_9 b o sp 1 (by decide)
theorem xi_170_1 (l : List Value) : aIndex CC 170 (.agg ⟨l⟩) (.int .i64 1) = l[1]? := index_array und_170 size_9 (by kernel_rfl) l 1 (by decide)
theorem ia_170_2 (b o : Nat) (sp : Option Nat) : aIndexAddr CC 170 (.pointer (some ⟨b, o, sp⟩)) (.int .i64 2) = some (.pointer (some ⟨b, o + 2, none⟩)) := indexAddr_array und_170 size_9 b o sp 2 (by decide)
theorem xi_170_2 (l : List Value) : aIndex CC 170 (.agg ⟨l⟩) (.int .i64 2) = l[2]? := index_array und_170 size_9 (by kernel_rfl) l 2 (by decide)
theorem ia_170_3 (b o : Nat) (sp : Option Nat) : aIndexAddr CC 170 (.pointer (some ⟨b, o, sp⟩)) (.int .i64 3) = some (.pointer (some ⟨b, o + 3, none⟩)) := indexAddr_array und_170 size_9 b o sp 3 (by decide)
theorem xi_170_3 (l : List Value) : aIndex CC 170 (.agg ⟨l⟩) (.int .i64 3) = l[3]? := index_array und_170 size_9 (by kernel_rfl) l 3 (by decide)
end Go.Am
