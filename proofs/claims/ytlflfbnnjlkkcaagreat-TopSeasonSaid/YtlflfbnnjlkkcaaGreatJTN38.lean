/- Facts of the program's types. Printed by mk_facts.py. -/
import Derived.Test.YtlflfbnnjlkkcaaGreatJT37
set_option linter.unusedSimpArgs false
set_option linter.unusedVariables false
set_option linter.defProp false
namespace Go.Am.NB
open Go Go.Proofs
theorem size_3 : C0.size 3 = some 1 := by kernel_rfl
theorem part_3 (l : List Value) (p : Nat) : partOf C0 3 l p = l[p]? := part_one' (by kernel_rfl) l p
theorem ld_3 (b p : Nat) (sp : Option Nat) (h : Heap) : aLoad C0 3 (.pointer (some ⟨b, p, sp⟩)) h = obind (rowAt h b) fun l => l[p]? := load_one (by kernel_rfl) b p sp h
theorem size_22 : C0.size 22 = some 1 := by kernel_rfl
theorem zero_22 : C0.zero 22 = some (.slice none 0 0) := by kernel_rfl
theorem und_22 : C0.und 22 = some (.slice 3) := by kernel_rfl
theorem ld_22 (b p : Nat) (sp : Option Nat) (h : Heap) : aLoad C0 22 (.pointer (some ⟨b, p, sp⟩)) h = obind (rowAt h b) fun l => l[p]? := load_one (by kernel_rfl) b p sp h
theorem len_22 (p : Option Addr) (n m : Nat) (h : Heap) : aLen C0 22 (.slice p n m) h = some (.int .i64 n) := M_len_slice C0 22 h p n m _ und_22
theorem size_25 : C0.size 25 = some 2 := by kernel_rfl
theorem zero_25 : C0.zero 25 = some (.agg ⟨[.int .i64 0, .int .i64 0]⟩) := by kernel_rfl
theorem ld_25 (b p : Nat) (sp : Option Nat) (h : Heap) : aLoad C0 25 (.pointer (some ⟨b, p, sp⟩)) h = obind (rowAt h b) fun l => obind (take? l p 2) fun l => some (mkAgg l) := load_agg (by kernel_rfl) size_25 b p sp h
theorem fld_25_0 : C0.fieldAt 25 0 = some (0, 3, 1) := by kernel_rfl
theorem fp_25_0 (b p : Nat) (sp : Option Nat) : aFieldAddr C0 25 (.pointer (some ⟨b, p, sp⟩)) 0 = some (.val (.pointer (some ⟨b, p + 0, none⟩))) := fieldAddr_at fld_25_0 rfl b p sp
theorem fld_25_1 : C0.fieldAt 25 1 = some (1, 3, 1) := by kernel_rfl
theorem fp_25_1 (b p : Nat) (sp : Option Nat) : aFieldAddr C0 25 (.pointer (some ⟨b, p, sp⟩)) 1 = some (.val (.pointer (some ⟨b, p + 1, none⟩))) := fieldAddr_at fld_25_1 rfl b p sp
theorem size_36 : C0.size 36 = some 1 := by kernel_rfl
theorem zero_36 : C0.zero 36 = some (.slice none 0 0) := by kernel_rfl
theorem und_36 : C0.und 36 = some (.slice 96) := by kernel_rfl
theorem ld_36 (b p : Nat) (sp : Option Nat) (h : Heap) : aLoad C0 36 (.pointer (some ⟨b, p, sp⟩)) h = obind (rowAt h b) fun l => l[p]? := load_one (by kernel_rfl) b p sp h
theorem fld_38_2 : C0.fieldAt 38 2 = some (2, 36, 1) := by kernel_rfl
theorem fp_38_2 (b p : Nat) (sp : Option Nat) : aFieldAddr C0 38 (.pointer (some ⟨b, p, sp⟩)) 2 = some (.val (.pointer (some ⟨b, p + 2, none⟩))) := fieldAddr_at fld_38_2 rfl b p sp
theorem size_44 : C0.size 44 = some 1 := by kernel_rfl
theorem zero_44 : C0.zero 44 = some (.slice none 0 0) := by kernel_rfl
theorem und_44 : C0.und 44 = some (.slice 89) := by kernel_rfl
theorem ld_44 (b p : Nat) (sp : Option Nat) (h : Heap) : aLoad C0 44 (.pointer (some ⟨b, p, sp⟩)) h = obind (rowAt h b) fun l => l[p]? := load_one (by kernel_rfl) b p sp h
theorem fld_47_1 : C0.fieldAt 47 1 = some (1, 44, 1) := by kernel_rfl
theorem fp_47_1 (b p : Nat) (sp : Option Nat) : aFieldAddr C0 47 (.pointer (some ⟨b, p, sp⟩)) 1 = some (.val (.pointer (some ⟨b, p + 1, none⟩))) := fieldAddr_at fld_47_1 rfl b p sp
theorem fld_49_3 : C0.fieldAt 49 3 = some (15, 38, 3) := by kernel_rfl
theorem fp_49_3 (b p : Nat) (sp : Option Nat) : aFieldAddr C0 49 (.pointer (some ⟨b, p, sp⟩)) 3 = some (.val (.pointer (some ⟨b, p + 15, none⟩))) := fieldAddr_at fld_49_3 rfl b p sp
theorem fld_49_6 : C0.fieldAt 49 6 = some (32, 47, 3) := by kernel_rfl
theorem fp_49_6 (b p : Nat) (sp : Option Nat) : aFieldAddr C0 49 (.pointer (some ⟨b, p, sp⟩)) 6 = some (.val (.pointer (some ⟨b, p + 32, none⟩))) := fieldAddr_at fld_49_6 rfl b p sp
theorem size_89 : C0.size 89 = some 5 := by kernel_rfl
theorem part_89 (l : List Value) (p : Nat) : partOf C0 89 l p = obind (take? l p 5) fun l => some (mkAgg l) := part_agg' (by kernel_rfl) size_89 l p
theorem fld_89_2 : C0.fieldAt 89 2 = some (2, 25, 2) := by kernel_rfl
theorem fp_89_2 (b p : Nat) (sp : Option Nat) : aFieldAddr C0 89 (.pointer (some ⟨b, p, sp⟩)) 2 = some (.val (.pointer (some ⟨b, p + 2, none⟩))) := fieldAddr_at fld_89_2 rfl b p sp
theorem size_96 : C0.size 96 = some 5 := by kernel_rfl
theorem part_96 (l : List Value) (p : Nat) : partOf C0 96 l p = obind (take? l p 5) fun l => some (mkAgg l) := part_agg' (by kernel_rfl) size_96 l p
theorem fld_96_0 : C0.fieldAt 96 0 = some (0, 3, 1) := by kernel_rfl
theorem fp_96_0 (b p : Nat) (sp : Option Nat) : aFieldAddr C0 96 (.pointer (some ⟨b, p, sp⟩)) 0 = some (.val (.pointer (some ⟨b, p + 0, none⟩))) := fieldAddr_at fld_96_0 rfl b p sp
theorem ld_255 (b p : Nat) (sp : Option Nat) (h : Heap) : aLoad C0 255 (.pointer (some ⟨b, p, sp⟩)) h = obind (rowAt h b) fun l => l[p]? := load_one (by kernel_rfl) b p sp h
theorem fld_257_0 : C0.fieldAt 257 0 = some (0, 49, 35) := by kernel_rfl
theorem fp_257_0 (b p : Nat) (sp : Option Nat) : aFieldAddr C0 257 (.pointer (some ⟨b, p, sp⟩)) 0 = some (.val (.pointer (some ⟨b, p + 0, none⟩))) := fieldAddr_at fld_257_0 rfl b p sp
theorem fld_257_4 : C0.fieldAt 257 4 = some (38, 255, 1) := by kernel_rfl
theorem fp_257_4 (b p : Nat) (sp : Option Nat) : aFieldAddr C0 257 (.pointer (some ⟨b, p, sp⟩)) 4 = some (.val (.pointer (some ⟨b, p + 38, none⟩))) := fieldAddr_at fld_257_4 rfl b p sp
theorem fld_257_6 : C0.fieldAt 257 6 = some (40, 22, 1) := by kernel_rfl
theorem fp_257_6 (b p : Nat) (sp : Option Nat) : aFieldAddr C0 257 (.pointer (some ⟨b, p, sp⟩)) 6 = some (.val (.pointer (some ⟨b, p + 40, none⟩))) := fieldAddr_at fld_257_6 rfl b p sp
theorem size_263 : C0.size 263 = some 1 := by kernel_rfl
theorem zero_263 : C0.zero 263 = some (.agg ⟨[.string ⟨⟨[]⟩⟩]⟩) := by kernel_rfl
theorem fld_263_0 : C0.fieldAt 263 0 = some (0, 9, 1) := by kernel_rfl
theorem fld_278_0 : C0.fieldAt 278 0 = some (0, 3, 1) := by kernel_rfl
theorem fp_278_0 (b p : Nat) (sp : Option Nat) : aFieldAddr C0 278 (.pointer (some ⟨b, p, sp⟩)) 0 = some (.val (.pointer (some ⟨b, p + 0, none⟩))) := fieldAddr_at fld_278_0 rfl b p sp
theorem fld_278_1 : C0.fieldAt 278 1 = some (1, 3, 1) := by kernel_rfl
theorem fp_278_1 (b p : Nat) (sp : Option Nat) : aFieldAddr C0 278 (.pointer (some ⟨b, p, sp⟩)) 1 = some (.val (.pointer (some ⟨b, p + 1, none⟩))) := fieldAddr_at fld_278_1 rfl b p sp
theorem ix_22 (b o : Nat) (sp : Option Nat) (len cap i : Nat) (hi : i < len) : aIndexAddr C0 22 (.slice (some ⟨b, o, sp⟩) len cap) (.int .i64 i) = some (.pointer (some ⟨b, o + i * 1, none⟩)) := ix_slice und_22 size_3 b o sp len cap i hi
theorem ix_36 (b o : Nat) (sp : Option Nat) (len cap i : Nat) (hi : i < len) : aIndexAddr C0 36 (.slice (some ⟨b, o, sp⟩) len cap) (.int .i64 i) = some (.pointer (some ⟨b, o + i * 5, none⟩)) := ix_slice und_36 size_96 b o sp len cap i hi
theorem ix_44 (b o : Nat) (sp : Option Nat) (len cap i : Nat) (hi : i < len) : aIndexAddr C0 44 (.slice (some ⟨b, o, sp⟩) len cap) (.int .i64 i) = some (.pointer (some ⟨b, o + i * 5, none⟩)) := ix_slice und_44 size_89 b o sp len cap i hi
theorem sp_263_0 : structPlace C0 263 0 = some (0, 1) := place_struct fld_263_0
theorem bld_263 (p : List (Nat × Value)) : aBuild C0 263 p = obind (fillWith (structPlace C0 263) p [.string ⟨⟨[]⟩⟩]) fun l => some (mkAgg l) := build_struct (by kernel_rfl) zero_263 p
theorem mi_263 (v : Value) : aMakeIface C0 263 v = some (.val (.iface 263 v)) := make_iface (by kernel_rfl) v
end Go.Am.NB
