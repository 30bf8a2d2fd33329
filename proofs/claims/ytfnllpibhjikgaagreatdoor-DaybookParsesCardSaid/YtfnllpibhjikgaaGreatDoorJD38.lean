/- Facts of the program's types. Printed by mk_facts.py. -/
import Derived.Test.YtfnllpibhjikgaaGreatDoorJD37
set_option linter.unusedSimpArgs false
set_option linter.unusedVariables false
namespace Go.Am
open Go Go.Proofs

theorem size_3 : CC.size 3 = some 1 := by kernel_rfl
theorem zero_3 : CC.zero 3 = some (.int .i64 0) := by kernel_rfl
theorem und_3 : CC.und 3 = some (.int .i64) := by kernel_rfl
theorem part_3 (l : List Value) (p : Nat) : partOf CC 3 l p = l[p]? := part_one' (by kernel_rfl) l p
theorem ld_3 (b p : Nat) (sp : Option Nat) (h : Heap) : aLoad CC 3 (.pointer (some ⟨b, p, sp⟩)) h = obind (rowAt h b) fun l => l[p]? := load_one (by kernel_rfl) b p sp h
theorem size_4 : CC.size 4 = some 1 := by kernel_rfl
theorem zero_4 : CC.zero 4 = some (.bool false) := by kernel_rfl
theorem und_4 : CC.und 4 = some .bool := by kernel_rfl
theorem ld_4 (b p : Nat) (sp : Option Nat) (h : Heap) : aLoad CC 4 (.pointer (some ⟨b, p, sp⟩)) h = obind (rowAt h b) fun l => l[p]? := load_one (by kernel_rfl) b p sp h
theorem size_5 : CC.size 5 = some 1 := by kernel_rfl
theorem zero_5 : CC.zero 5 = some (.int .u8 0) := by kernel_rfl
theorem und_5 : CC.und 5 = some (.int .u8) := by kernel_rfl
theorem part_5 (l : List Value) (p : Nat) : partOf CC 5 l p = l[p]? := part_one' (by kernel_rfl) l p
theorem size_9 : CC.size 9 = some 1 := by kernel_rfl
theorem zero_9 : CC.zero 9 = some (.string ⟨⟨[]⟩⟩) := by kernel_rfl
theorem und_9 : CC.und 9 = some .string := by kernel_rfl
theorem part_9 (l : List Value) (p : Nat) : partOf CC 9 l p = l[p]? := part_one' (by kernel_rfl) l p
theorem ld_9 (b p : Nat) (sp : Option Nat) (h : Heap) : aLoad CC 9 (.pointer (some ⟨b, p, sp⟩)) h = obind (rowAt h b) fun l => l[p]? := load_one (by kernel_rfl) b p sp h
theorem len_9 (s : ByteArray) (h : Heap) : aLen CC 9 (.string s) h = some (.int .i64 s.data.toList.length) := M_len_str CC 9 h s und_9
theorem und_21 : CC.und 21 = some (.int .i32) := by kernel_rfl
theorem ld_22 (b p : Nat) (sp : Option Nat) (h : Heap) : aLoad CC 22 (.pointer (some ⟨b, p, sp⟩)) h = obind (rowAt h b) fun l => l[p]? := load_one (by kernel_rfl) b p sp h
theorem size_23 : CC.size 23 = some 1 := by kernel_rfl
theorem zero_23 : CC.zero 23 = some (.slice none 0 0) := by kernel_rfl
theorem und_23 : CC.und 23 = some (.slice 3) := by kernel_rfl
theorem ld_23 (b p : Nat) (sp : Option Nat) (h : Heap) : aLoad CC 23 (.pointer (some ⟨b, p, sp⟩)) h = obind (rowAt h b) fun l => l[p]? := load_one (by kernel_rfl) b p sp h
theorem len_23 (p : Option Addr) (n m : Nat) (h : Heap) : aLen CC 23 (.slice p n m) h = some (.int .i64 n) := M_len_slice CC 23 h p n m _ und_23
theorem size_25 : CC.size 25 = some 2 := by kernel_rfl
theorem zero_25 : CC.zero 25 = some (.agg ⟨[.int .i64 0, .slice none 0 0]⟩) := by kernel_rfl
theorem part_25 (l : List Value) (p : Nat) : partOf CC 25 l p = obind (take? l p 2) fun l => some (mkAgg l) := part_agg' (by kernel_rfl) size_25 l p
theorem ld_25 (b p : Nat) (sp : Option Nat) (h : Heap) : aLoad CC 25 (.pointer (some ⟨b, p, sp⟩)) h = obind (rowAt h b) fun l => obind (take? l p 2) fun l => some (mkAgg l) := load_agg (by kernel_rfl) size_25 b p sp h
theorem fld_25_0 : CC.fieldAt 25 0 = some (0, 22, 1) := by kernel_rfl
theorem fp_25_0 (b p : Nat) (sp : Option Nat) : aFieldAddr CC 25 (.pointer (some ⟨b, p, sp⟩)) 0 = some (.val (.pointer (some ⟨b, p + 0, none⟩))) := fieldAddr_at fld_25_0 rfl b p sp
theorem fld_25_1 : CC.fieldAt 25 1 = some (1, 23, 1) := by kernel_rfl
theorem fp_25_1 (b p : Nat) (sp : Option Nat) : aFieldAddr CC 25 (.pointer (some ⟨b, p, sp⟩)) 1 = some (.val (.pointer (some ⟨b, p + 1, none⟩))) := fieldAddr_at fld_25_1 rfl b p sp
theorem ld_38 (b p : Nat) (sp : Option Nat) (h : Heap) : aLoad CC 38 (.pointer (some ⟨b, p, sp⟩)) h = obind (rowAt h b) fun l => l[p]? := load_one (by kernel_rfl) b p sp h
theorem size_40 : CC.size 40 = some 2 := by kernel_rfl
theorem ld_40 (b p : Nat) (sp : Option Nat) (h : Heap) : aLoad CC 40 (.pointer (some ⟨b, p, sp⟩)) h = obind (rowAt h b) fun l => obind (take? l p 2) fun l => some (mkAgg l) := load_agg (by kernel_rfl) size_40 b p sp h
theorem fld_40_0 : CC.fieldAt 40 0 = some (0, 38, 1) := by kernel_rfl
theorem fp_40_0 (b p : Nat) (sp : Option Nat) : aFieldAddr CC 40 (.pointer (some ⟨b, p, sp⟩)) 0 = some (.val (.pointer (some ⟨b, p + 0, none⟩))) := fieldAddr_at fld_40_0 rfl b p sp
theorem fld_40_1 : CC.fieldAt 40 1 = some (1, 23, 1) := by kernel_rfl
theorem fp_40_1 (b p : Nat) (sp : Option Nat) : aFieldAddr CC 40 (.pointer (some ⟨b, p, sp⟩)) 1 = some (.val (.pointer (some ⟨b, p + 1, none⟩))) := fieldAddr_at fld_40_1 rfl b p sp
theorem size_41 : CC.size 41 = some 1 := by kernel_rfl
theorem zero_41 : CC.zero 41 = some (.pointer none) := by kernel_rfl
theorem part_41 (l : List Value) (p : Nat) : partOf CC 41 l p = l[p]? := part_one' (by kernel_rfl) l p
theorem ld_41 (b p : Nat) (sp : Option Nat) (h : Heap) : aLoad CC 41 (.pointer (some ⟨b, p, sp⟩)) h = obind (rowAt h b) fun l => l[p]? := load_one (by kernel_rfl) b p sp h
theorem size_44 : CC.size 44 = some 2 := by kernel_rfl
theorem zero_44 : CC.zero 44 = some (.agg ⟨[.int .i64 0, .int .i64 0]⟩) := by kernel_rfl
theorem ld_44 (b p : Nat) (sp : Option Nat) (h : Heap) : aLoad CC 44 (.pointer (some ⟨b, p, sp⟩)) h = obind (rowAt h b) fun l => obind (take? l p 2) fun l => some (mkAgg l) := load_agg (by kernel_rfl) size_44 b p sp h
theorem fld_44_0 : CC.fieldAt 44 0 = some (0, 3, 1) := by kernel_rfl
theorem fv_44_0 (l : List Value) : aField CC 44 (.agg ⟨l⟩) 0 = obind l[0]? asVal := fval_one fld_44_0 (by kernel_rfl) l
theorem fp_44_0 (b p : Nat) (sp : Option Nat) : aFieldAddr CC 44 (.pointer (some ⟨b, p, sp⟩)) 0 = some (.val (.pointer (some ⟨b, p + 0, none⟩))) := fieldAddr_at fld_44_0 rfl b p sp
theorem fld_44_1 : CC.fieldAt 44 1 = some (1, 3, 1) := by kernel_rfl
theorem fv_44_1 (l : List Value) : aField CC 44 (.agg ⟨l⟩) 1 = obind l[1]? asVal := fval_one fld_44_1 (by kernel_rfl) l
theorem fp_44_1 (b p : Nat) (sp : Option Nat) : aFieldAddr CC 44 (.pointer (some ⟨b, p, sp⟩)) 1 = some (.val (.pointer (some ⟨b, p + 1, none⟩))) := fieldAddr_at fld_44_1 rfl b p sp
theorem size_69 : CC.size 69 = some 1 := by kernel_rfl
theorem zero_69 : CC.zero 69 = some (.slice none 0 0) := by kernel_rfl
theorem und_69 : CC.und 69 = some (.slice 25) := by kernel_rfl
theorem ld_69 (b p : Nat) (sp : Option Nat) (h : Heap) : aLoad CC 69 (.pointer (some ⟨b, p, sp⟩)) h = obind (rowAt h b) fun l => l[p]? := load_one (by kernel_rfl) b p sp h
theorem len_69 (p : Option Addr) (n m : Nat) (h : Heap) : aLen CC 69 (.slice p n m) h = some (.int .i64 n) := M_len_slice CC 69 h p n m _ und_69
theorem size_71 : CC.size 71 = some 37 := by kernel_rfl
theorem fld_71_0 : CC.fieldAt 71 0 = some (0, 4, 1) := by kernel_rfl
theorem fp_71_0 (b p : Nat) (sp : Option Nat) : aFieldAddr CC 71 (.pointer (some ⟨b, p, sp⟩)) 0 = some (.val (.pointer (some ⟨b, p + 0, none⟩))) := fieldAddr_at fld_71_0 rfl b p sp
theorem fld_71_1 : CC.fieldAt 71 1 = some (1, 68, 35) := by kernel_rfl
theorem fld_71_2 : CC.fieldAt 71 2 = some (36, 69, 1) := by kernel_rfl
theorem fp_71_2 (b p : Nat) (sp : Option Nat) : aFieldAddr CC 71 (.pointer (some ⟨b, p, sp⟩)) 2 = some (.val (.pointer (some ⟨b, p + 36, none⟩))) := fieldAddr_at fld_71_2 rfl b p sp
theorem size_72 : CC.size 72 = some 1 := by kernel_rfl
theorem zero_72 : CC.zero 72 = some (.slice none 0 0) := by kernel_rfl
theorem und_72 : CC.und 72 = some (.slice 41) := by kernel_rfl
theorem len_72 (p : Option Addr) (n m : Nat) (h : Heap) : aLen CC 72 (.slice p n m) h = some (.int .i64 n) := M_len_slice CC 72 h p n m _ und_72
theorem size_87 : CC.size 87 = some 1 := by kernel_rfl
theorem zero_87 : CC.zero 87 = some (.slice none 0 0) := by kernel_rfl
theorem und_87 : CC.und 87 = some (.slice 9) := by kernel_rfl
theorem len_87 (p : Option Addr) (n m : Nat) (h : Heap) : aLen CC 87 (.slice p n m) h = some (.int .i64 n) := M_len_slice CC 87 h p n m _ und_87
theorem size_92 : CC.size 92 = some 1 := by kernel_rfl
theorem part_92 (l : List Value) (p : Nat) : partOf CC 92 l p = l[p]? := part_one' (by kernel_rfl) l p
theorem size_93 : CC.size 93 = some 16 := by kernel_rfl
theorem zero_93 : CC.zero 93 = some (.agg ⟨[.nilFunc, .nilFunc, .nilFunc, .nilFunc, .nilFunc, .nilFunc, .nilFunc, .nilFunc, .nilFunc, .nilFunc, .nilFunc, .nilFunc, .nilFunc, .nilFunc, .nilFunc, .nilFunc]⟩) := by kernel_rfl
theorem und_93 : CC.und 93 = some (.array 16 92) := by kernel_rfl
theorem size_95 : CC.size 95 = some 1 := by kernel_rfl
theorem zero_95 : CC.zero 95 = some (.pointer none) := by kernel_rfl
theorem und_95 : CC.und 95 = some (.pointer 135) := by kernel_rfl
theorem size_120 : CC.size 120 = some 29 := by kernel_rfl
theorem und_120 : CC.und 120 = some (.array 29 9) := by kernel_rfl
theorem ld_120 (b p : Nat) (sp : Option Nat) (h : Heap) : aLoad CC 120 (.pointer (some ⟨b, p, sp⟩)) h = obind (rowAt h b) fun l => obind (take? l p 29) fun l => some (mkAgg l) := load_agg (by kernel_rfl) size_120 b p sp h
theorem size_124 : CC.size 124 = some 1 := by kernel_rfl
theorem zero_124 : CC.zero 124 = some (.agg ⟨[.string ⟨⟨[]⟩⟩]⟩) := by kernel_rfl
theorem fld_124_0 : CC.fieldAt 124 0 = some (0, 9, 1) := by kernel_rfl
theorem size_183 : CC.size 183 = some 1 := by kernel_rfl
theorem zero_183 : CC.zero 183 = some (.slice none 0 0) := by kernel_rfl
theorem und_183 : CC.und 183 = some (.slice 5) := by kernel_rfl
theorem ix_23 (b o : Nat) (sp : Option Nat) (len cap i : Nat) (hi : i < len) : aIndexAddr CC 23 (.slice (some ⟨b, o, sp⟩) len cap) (.int .i64 i) = some (.pointer (some ⟨b, o + i * 1, none⟩)) := ix_slice und_23 size_3 b o sp len cap i hi
theorem bs_23 {v : Value} (h : cellsOf v = [v]) : aBuildSlice CC 23 1 [(0, v)] = some (.new (.row [v] 1 true) (sliceTo 1 1 1)) := buildSlice_one und_23 size_3 zero_3 rfl h
theorem app_23 : AppT CC 23 23 1 := appT (by kernel_rfl)
theorem sp_25_0 : structPlace CC 25 0 = some (0, 1) := place_struct fld_25_0
theorem sp_25_1 : structPlace CC 25 1 = some (1, 1) := place_struct fld_25_1
theorem bld_25 (p : List (Nat × Value)) : aBuild CC 25 p = obind (fillWith (structPlace CC 25) p [.int .i64 0, .slice none 0 0]) fun l => some (mkAgg l) := build_struct (by kernel_rfl) zero_25 p
theorem app_42 : AppT CC 42 42 4 := appT (by kernel_rfl)
theorem sp_44_0 : structPlace CC 44 0 = some (0, 1) := place_struct fld_44_0
theorem sp_44_1 : structPlace CC 44 1 = some (1, 1) := place_struct fld_44_1
theorem bld_44 (p : List (Nat × Value)) : aBuild CC 44 p = obind (fillWith (structPlace CC 44) p [.int .i64 0, .int .i64 0]) fun l => some (mkAgg l) := build_struct (by kernel_rfl) zero_44 p
theorem app_45 : AppT CC 45 45 3 := appT (by kernel_rfl)
theorem app_48 : AppT CC 48 48 2 := appT (by kernel_rfl)
theorem app_49 : AppT CC 49 49 2 := appT (by kernel_rfl)
theorem app_52 : AppT CC 52 52 1 := appT (by kernel_rfl)
theorem app_55 : AppT CC 55 55 5 := appT (by kernel_rfl)
theorem app_60 : AppT CC 60 60 6 := appT (by kernel_rfl)
theorem app_63 : AppT CC 63 63 5 := appT (by kernel_rfl)
theorem app_64 : AppT CC 64 64 5 := appT (by kernel_rfl)
theorem ix_69 (b o : Nat) (sp : Option Nat) (len cap i : Nat) (hi : i < len) : aIndexAddr CC 69 (.slice (some ⟨b, o, sp⟩) len cap) (.int .i64 i) = some (.pointer (some ⟨b, o + i * 2, none⟩)) := ix_slice und_69 size_25 b o sp len cap i hi
theorem app_69 : AppT CC 69 69 2 := appT (by kernel_rfl)
theorem sp_71_0 : structPlace CC 71 0 = some (0, 1) := place_struct fld_71_0
theorem sp_71_1 : structPlace CC 71 1 = some (1, 35) := place_struct fld_71_1
theorem sp_71_2 : structPlace CC 71 2 = some (36, 1) := place_struct fld_71_2
theorem ix_72 (b o : Nat) (sp : Option Nat) (len cap i : Nat) (hi : i < len) : aIndexAddr CC 72 (.slice (some ⟨b, o, sp⟩) len cap) (.int .i64 i) = some (.pointer (some ⟨b, o + i * 1, none⟩)) := ix_slice und_72 size_41 b o sp len cap i hi
theorem bs_72 {v : Value} (h : cellsOf v = [v]) : aBuildSlice CC 72 1 [(0, v)] = some (.new (.row [v] 1 true) (sliceTo 1 1 1)) := buildSlice_one und_72 size_41 zero_41 rfl h
theorem app_72 : AppT CC 72 72 1 := appT (by kernel_rfl)
theorem ix_87 (b o : Nat) (sp : Option Nat) (len cap i : Nat) (hi : i < len) : aIndexAddr CC 87 (.slice (some ⟨b, o, sp⟩) len cap) (.int .i64 i) = some (.pointer (some ⟨b, o + i * 1, none⟩)) := ix_slice und_87 size_9 b o sp len cap i hi
theorem bs_87 {v : Value} (h : cellsOf v = [v]) : aBuildSlice CC 87 1 [(0, v)] = some (.new (.row [v] 1 true) (sliceTo 1 1 1)) := buildSlice_one und_87 size_9 zero_9 rfl h
theorem app_87 : AppT CC 87 87 1 := appT (by kernel_rfl)
theorem ia_93_0 (b o : Nat) (sp : Option Nat) : aIndexAddr CC 93 (.pointer (some ⟨b, o, sp⟩)) (.int .i64 0) = some (.pointer (some ⟨b, o + 0, none⟩)) := indexAddr_array und_93 size_92 b o sp 0 (by decide)
theorem xi_93_0 (l : List Value) : aIndex CC 93 (.agg ⟨l⟩) (.int .i64 0) = l[0]? := index_array und_93 size_92 (by kernel_rfl) l 0 (by decide)
theorem ia_93_1 (b o : Nat) (sp : Option Nat) : aIndexAddr CC 93 (.pointer (some ⟨b, o, sp⟩)) (.int .i64 1) = some (.pointer (some ⟨b, o + 1, none⟩)) := indexAddr_array und_93 size_92 b o sp 1 (by decide)
theorem xi_93_1 (l : List Value) : aIndex CC 93 (.agg ⟨l⟩) (.int .i64 1) = l[1]? := index_array und_93 size_92 (by kernel_rfl) l 1 (by decide)
theorem ia_93_2 (b o : Nat) (sp : Option Nat) : aIndexAddr CC 93 (.pointer (some ⟨b, o, sp⟩)) (.int .i64 2) = some (.pointer (some ⟨b, o + 2, none⟩)) := indexAddr_array und_93 size_92 b o sp 2 (by decide)
theorem xi_93_2 (l : List Value) : aIndex CC 93 (.agg ⟨l⟩) (.int .i64 2) = l[2]? := index_array und_93 size_92 (by kernel_rfl) l 2 (by decide)
theorem ia_93_3 (b o : Nat) (sp : Option Nat) : aIndexAddr CC 93 (.pointer (some ⟨b, o, sp⟩)) (.int .i64 3) = some (.pointer (some ⟨b, o + 3, none⟩)) := indexAddr_array und_93 size_92 b o sp 3 (by decide)
theorem xi_93_3 (l : List Value) : aIndex CC 93 (.agg ⟨l⟩) (.int .i64 3) = l[3]? := index_array und_93 size_92 (by kernel_rfl) l 3 (by decide)
theorem ia_93_4 (b o : Nat) (sp : Option Nat) : aIndexAddr CC 93 (.pointer (some ⟨b, o, sp⟩)) (.int .i64 4) = some (.pointer (some ⟨b, o + 4, none⟩)) := indexAddr_array und_93 size_92 b o sp 4 (by decide)
theorem xi_93_4 (l : List Value) : aIndex CC 93 (.agg ⟨l⟩) (.int .i64 4) = l[4]? := index_array und_93 size_92 (by kernel_rfl) l 4 (by decide)
theorem ia_93_5 (b o : Nat) (sp : Option Nat) : aIndexAddr CC 93 (.pointer (some ⟨b, o, sp⟩)) (.int .i64 5) = some (.pointer (some ⟨b, o + 5, none⟩)) := indexAddr_array und_93 size_92 b o sp 5 (by decide)
theorem xi_93_5 (l : List Value) : aIndex CC 93 (.agg ⟨l⟩) (.int .i64 5) = l[5]? := index_array und_93 size_92 (by kernel_rfl) l 5 (by decide)
theorem ia_93_6 (b o : Nat) (sp : Option Nat) : aIndexAddr CC 93 (.pointer (some ⟨b, o, sp⟩)) (.int .i64 6) = some (.pointer (some ⟨b, o + 6, none⟩)) := indexAddr_array und_93 size_92 b o sp 6 (by decide)
theorem xi_93_6 (l : List Value) : aIndex CC 93 (.agg ⟨l⟩) (.int .i64 6) = l[6]? := index_array und_93 size_92 (by kernel_rfl) l 6 (by decide)
theorem ia_93_7 (b o : Nat) (sp : Option Nat) : aIndexAddr CC 93 (.pointer (some ⟨b, o, sp⟩)) (.int .i64 7) = some (.pointer (some ⟨b, o + 7, none⟩)) := indexAddr_array und_93 size_92 b o sp 7 (by decide)
theorem xi_93_7 (l : List Value) : aIndex CC 93 (.agg ⟨l⟩) (.int .i64 7) = l[7]? := index_array und_93 size_92 (by kernel_rfl) l 7 (by decide)
theorem sp_124_0 : structPlace CC 124 0 = some (0, 1) := place_struct fld_124_0
theorem bld_124 (p : List (Nat × Value)) : aBuild CC 124 p = obind (fillWith (structPlace CC 124) p [.string ⟨⟨[]⟩⟩]) fun l => some (mkAgg l) := build_struct (by kernel_rfl) zero_124 p
theorem mi_124 (v : Value) : aMakeIface CC 124 v = some (.val (.iface 124 v)) := make_iface (by kernel_rfl) v
theorem app_146 : AppT CC 146 146 1 := appT (by kernel_rfl)
theorem app_147 : AppT CC 147 147 1 := appT (by kernel_rfl)
theorem ix_183 (b o : Nat) (sp : Option Nat) (len cap i : Nat) (hi : i < len) : aIndexAddr CC 183 (.slice (some ⟨b, o, sp⟩) len cap) (.int .i64 i) = some (.pointer (some ⟨b, o + i * 1, none⟩)) := ix_slice und_183 size_5 b o sp len cap i hi
theorem bs_183 {v : Value} (h : cellsOf v = [v]) : aBuildSlice CC 183 1 [(0, v)] = some (.new (.row [v] 1 true) (sliceTo 1 1 1)) := buildSlice_one und_183 size_5 zero_5 rfl h
theorem app_183 : AppT CC 183 183 1 := appT (by kernel_rfl)
theorem app_187 : AppT CC 187 187 2 := appT (by kernel_rfl)
theorem app_252 : AppT CC 252 252 2 := appT (by kernel_rfl)
theorem app_285 : AppT CC 285 285 2 := appT (by kernel_rfl)
theorem app_314 : AppT CC 314 314 2 := appT (by kernel_rfl)
theorem app_365 : AppT CC 365 365 2 := appT (by kernel_rfl)
theorem app_406 : AppT CC 406 406 2 := appT (by kernel_rfl)
theorem app_408 : AppT CC 408 408 2 := appT (by kernel_rfl)
end Go.Am

