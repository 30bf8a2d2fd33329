/- Parts 38 of the abstract machine over this program, joined: what each part says stands at its head. -/
import Derived.Test.YtfnkjclplfhjcaaGreatDoorJ36
set_option linter.unusedSimpArgs false
set_option linter.unusedVariables false
/- Facts of the program's types. Printed by mk_facts.py. -/
namespace Go.Am
open Go Go.Proofs

theorem size_1 : CC.size 1 = some 1 := by kernel_rfl
theorem zero_1 : CC.zero 1 = some (.nilFunc) := by kernel_rfl
theorem part_1 (l : List Value) (p : Nat) : partOf CC 1 l p = l[p]? := part_one' (by kernel_rfl) l p
theorem ld_1 (b p : Nat) (sp : Option Nat) (h : Heap) : aLoad CC 1 (.pointer (some ⟨b, p, sp⟩)) h = obind (rowAt h b) fun l => l[p]? := load_one (by kernel_rfl) b p sp h
theorem size_2 : CC.size 2 = some 1 := by kernel_rfl
theorem zero_2 : CC.zero 2 = some (.int .i64 0) := by kernel_rfl
theorem und_2 : CC.und 2 = some (.int .i64) := by kernel_rfl
theorem part_2 (l : List Value) (p : Nat) : partOf CC 2 l p = l[p]? := part_one' (by kernel_rfl) l p
theorem ld_2 (b p : Nat) (sp : Option Nat) (h : Heap) : aLoad CC 2 (.pointer (some ⟨b, p, sp⟩)) h = obind (rowAt h b) fun l => l[p]? := load_one (by kernel_rfl) b p sp h
theorem size_3 : CC.size 3 = some 1 := by kernel_rfl
theorem zero_3 : CC.zero 3 = some (.int .i64 0) := by kernel_rfl
theorem und_3 : CC.und 3 = some (.int .i64) := by kernel_rfl
theorem part_3 (l : List Value) (p : Nat) : partOf CC 3 l p = l[p]? := part_one' (by kernel_rfl) l p
theorem ld_3 (b p : Nat) (sp : Option Nat) (h : Heap) : aLoad CC 3 (.pointer (some ⟨b, p, sp⟩)) h = obind (rowAt h b) fun l => l[p]? := load_one (by kernel_rfl) b p sp h
theorem size_4 : CC.size 4 = some 1 := by kernel_rfl
theorem zero_4 : CC.zero 4 = some (.bool false) := by kernel_rfl
theorem und_4 : CC.und 4 = some .bool := by kernel_rfl
theorem part_4 (l : List Value) (p : Nat) : partOf CC 4 l p = l[p]? := part_one' (by kernel_rfl) l p
theorem ld_4 (b p : Nat) (sp : Option Nat) (h : Heap) : aLoad CC 4 (.pointer (some ⟨b, p, sp⟩)) h = obind (rowAt h b) fun l => l[p]? := load_one (by kernel_rfl) b p sp h
theorem size_5 : CC.size 5 = some 1 := by kernel_rfl
theorem zero_5 : CC.zero 5 = some (.int .u8 0) := by kernel_rfl
theorem und_5 : CC.und 5 = some (.int .u8) := by kernel_rfl
theorem part_5 (l : List Value) (p : Nat) : partOf CC 5 l p = l[p]? := part_one' (by kernel_rfl) l p
theorem ld_5 (b p : Nat) (sp : Option Nat) (h : Heap) : aLoad CC 5 (.pointer (some ⟨b, p, sp⟩)) h = obind (rowAt h b) fun l => l[p]? := load_one (by kernel_rfl) b p sp h
theorem size_6 : CC.size 6 = some 1 := by kernel_rfl
theorem zero_6 : CC.zero 6 = some (.int .u8 0) := by kernel_rfl
theorem und_6 : CC.und 6 = some (.int .u8) := by kernel_rfl
theorem part_6 (l : List Value) (p : Nat) : partOf CC 6 l p = l[p]? := part_one' (by kernel_rfl) l p
theorem ld_6 (b p : Nat) (sp : Option Nat) (h : Heap) : aLoad CC 6 (.pointer (some ⟨b, p, sp⟩)) h = obind (rowAt h b) fun l => l[p]? := load_one (by kernel_rfl) b p sp h
theorem size_7 : CC.size 7 = some 4 := by kernel_rfl
theorem zero_7 : CC.zero 7 = some (.agg ⟨[.int .i64 0, .int .i64 0, .bool false, .int .u8 0]⟩) := by kernel_rfl
theorem part_7 (l : List Value) (p : Nat) : partOf CC 7 l p = obind (take? l p 4) fun l => some (mkAgg l) := part_agg' (by kernel_rfl) size_7 l p
theorem ld_7 (b p : Nat) (sp : Option Nat) (h : Heap) : aLoad CC 7 (.pointer (some ⟨b, p, sp⟩)) h = obind (rowAt h b) fun l => obind (take? l p 4) fun l => some (mkAgg l) := load_agg (by kernel_rfl) size_7 b p sp h
theorem fld_7_0 : CC.fieldAt 7 0 = some (0, 2, 1) := by kernel_rfl
theorem fv_7_0 (l : List Value) : aField CC 7 (.agg ⟨l⟩) 0 = obind l[0]? asVal := fval_one fld_7_0 (by kernel_rfl) l
theorem fp_7_0 (b p : Nat) (sp : Option Nat) : aFieldAddr CC 7 (.pointer (some ⟨b, p, sp⟩)) 0 = some (.val (.pointer (some ⟨b, p + 0, none⟩))) := fieldAddr_at fld_7_0 rfl b p sp
theorem fld_7_1 : CC.fieldAt 7 1 = some (1, 3, 1) := by kernel_rfl
theorem fv_7_1 (l : List Value) : aField CC 7 (.agg ⟨l⟩) 1 = obind l[1]? asVal := fval_one fld_7_1 (by kernel_rfl) l
theorem fp_7_1 (b p : Nat) (sp : Option Nat) : aFieldAddr CC 7 (.pointer (some ⟨b, p, sp⟩)) 1 = some (.val (.pointer (some ⟨b, p + 1, none⟩))) := fieldAddr_at fld_7_1 rfl b p sp
theorem fld_7_2 : CC.fieldAt 7 2 = some (2, 4, 1) := by kernel_rfl
theorem fv_7_2 (l : List Value) : aField CC 7 (.agg ⟨l⟩) 2 = obind l[2]? asVal := fval_one fld_7_2 (by kernel_rfl) l
theorem fp_7_2 (b p : Nat) (sp : Option Nat) : aFieldAddr CC 7 (.pointer (some ⟨b, p, sp⟩)) 2 = some (.val (.pointer (some ⟨b, p + 2, none⟩))) := fieldAddr_at fld_7_2 rfl b p sp
theorem fld_7_3 : CC.fieldAt 7 3 = some (3, 6, 1) := by kernel_rfl
theorem fv_7_3 (l : List Value) : aField CC 7 (.agg ⟨l⟩) 3 = obind l[3]? asVal := fval_one fld_7_3 (by kernel_rfl) l
theorem fp_7_3 (b p : Nat) (sp : Option Nat) : aFieldAddr CC 7 (.pointer (some ⟨b, p, sp⟩)) 3 = some (.val (.pointer (some ⟨b, p + 3, none⟩))) := fieldAddr_at fld_7_3 rfl b p sp
theorem size_8 : CC.size 8 = some 4 := by kernel_rfl
theorem zero_8 : CC.zero 8 = some (.agg ⟨[.int .i64 0, .int .i64 0, .bool false, .int .u8 0]⟩) := by kernel_rfl
theorem part_8 (l : List Value) (p : Nat) : partOf CC 8 l p = obind (take? l p 4) fun l => some (mkAgg l) := part_agg' (by kernel_rfl) size_8 l p
theorem ld_8 (b p : Nat) (sp : Option Nat) (h : Heap) : aLoad CC 8 (.pointer (some ⟨b, p, sp⟩)) h = obind (rowAt h b) fun l => obind (take? l p 4) fun l => some (mkAgg l) := load_agg (by kernel_rfl) size_8 b p sp h
theorem fld_8_0 : CC.fieldAt 8 0 = some (0, 2, 1) := by kernel_rfl
theorem fv_8_0 (l : List Value) : aField CC 8 (.agg ⟨l⟩) 0 = obind l[0]? asVal := fval_one fld_8_0 (by kernel_rfl) l
theorem fp_8_0 (b p : Nat) (sp : Option Nat) : aFieldAddr CC 8 (.pointer (some ⟨b, p, sp⟩)) 0 = some (.val (.pointer (some ⟨b, p + 0, none⟩))) := fieldAddr_at fld_8_0 rfl b p sp
theorem fld_8_1 : CC.fieldAt 8 1 = some (1, 3, 1) := by kernel_rfl
theorem fv_8_1 (l : List Value) : aField CC 8 (.agg ⟨l⟩) 1 = obind l[1]? asVal := fval_one fld_8_1 (by kernel_rfl) l
theorem fp_8_1 (b p : Nat) (sp : Option Nat) : aFieldAddr CC 8 (.pointer (some ⟨b, p, sp⟩)) 1 = some (.val (.pointer (some ⟨b, p + 1, none⟩))) := fieldAddr_at fld_8_1 rfl b p sp
theorem fld_8_2 : CC.fieldAt 8 2 = some (2, 4, 1) := by kernel_rfl
theorem fv_8_2 (l : List Value) : aField CC 8 (.agg ⟨l⟩) 2 = obind l[2]? asVal := fval_one fld_8_2 (by kernel_rfl) l
theorem fp_8_2 (b p : Nat) (sp : Option Nat) : aFieldAddr CC 8 (.pointer (some ⟨b, p, sp⟩)) 2 = some (.val (.pointer (some ⟨b, p + 2, none⟩))) := fieldAddr_at fld_8_2 rfl b p sp
theorem fld_8_3 : CC.fieldAt 8 3 = some (3, 6, 1) := by kernel_rfl
theorem fv_8_3 (l : List Value) : aField CC 8 (.agg ⟨l⟩) 3 = obind l[3]? asVal := fval_one fld_8_3 (by kernel_rfl) l
theorem fp_8_3 (b p : Nat) (sp : Option Nat) : aFieldAddr CC 8 (.pointer (some ⟨b, p, sp⟩)) 3 = some (.val (.pointer (some ⟨b, p + 3, none⟩))) := fieldAddr_at fld_8_3 rfl b p sp
theorem size_9 : CC.size 9 = some 1 := by kernel_rfl
theorem zero_9 : CC.zero 9 = some (.string ⟨⟨[]⟩⟩) := by kernel_rfl
theorem und_9 : CC.und 9 = some .string := by kernel_rfl
theorem part_9 (l : List Value) (p : Nat) : partOf CC 9 l p = l[p]? := part_one' (by kernel_rfl) l p
theorem ld_9 (b p : Nat) (sp : Option Nat) (h : Heap) : aLoad CC 9 (.pointer (some ⟨b, p, sp⟩)) h = obind (rowAt h b) fun l => l[p]? := load_one (by kernel_rfl) b p sp h
theorem len_9 (s : ByteArray) (h : Heap) : aLen CC 9 (.string s) h = some (.int .i64 s.data.toList.length) := M_len_str CC 9 h s und_9
theorem size_10 : CC.size 10 = some 1 := by kernel_rfl
theorem zero_10 : CC.zero 10 = some (.string ⟨⟨[]⟩⟩) := by kernel_rfl
theorem und_10 : CC.und 10 = some .string := by kernel_rfl
theorem part_10 (l : List Value) (p : Nat) : partOf CC 10 l p = l[p]? := part_one' (by kernel_rfl) l p
theorem ld_10 (b p : Nat) (sp : Option Nat) (h : Heap) : aLoad CC 10 (.pointer (some ⟨b, p, sp⟩)) h = obind (rowAt h b) fun l => l[p]? := load_one (by kernel_rfl) b p sp h
theorem len_10 (s : ByteArray) (h : Heap) : aLen CC 10 (.string s) h = some (.int .i64 s.data.toList.length) := M_len_str CC 10 h s und_10
theorem size_11 : CC.size 11 = some 1 := by kernel_rfl
theorem zero_11 : CC.zero 11 = some (.string ⟨⟨[]⟩⟩) := by kernel_rfl
theorem und_11 : CC.und 11 = some .string := by kernel_rfl
theorem part_11 (l : List Value) (p : Nat) : partOf CC 11 l p = l[p]? := part_one' (by kernel_rfl) l p
theorem ld_11 (b p : Nat) (sp : Option Nat) (h : Heap) : aLoad CC 11 (.pointer (some ⟨b, p, sp⟩)) h = obind (rowAt h b) fun l => l[p]? := load_one (by kernel_rfl) b p sp h
theorem len_11 (s : ByteArray) (h : Heap) : aLen CC 11 (.string s) h = some (.int .i64 s.data.toList.length) := M_len_str CC 11 h s und_11
theorem size_12 : CC.size 12 = some 1 := by kernel_rfl
theorem zero_12 : CC.zero 12 = some (.int .u64 0) := by kernel_rfl
theorem und_12 : CC.und 12 = some (.int .u64) := by kernel_rfl
theorem part_12 (l : List Value) (p : Nat) : partOf CC 12 l p = l[p]? := part_one' (by kernel_rfl) l p
theorem ld_12 (b p : Nat) (sp : Option Nat) (h : Heap) : aLoad CC 12 (.pointer (some ⟨b, p, sp⟩)) h = obind (rowAt h b) fun l => l[p]? := load_one (by kernel_rfl) b p sp h
theorem size_13 : CC.size 13 = some 2 := by kernel_rfl
theorem zero_13 : CC.zero 13 = some (.agg ⟨[.string ⟨⟨[]⟩⟩, .int .u64 0]⟩) := by kernel_rfl
theorem part_13 (l : List Value) (p : Nat) : partOf CC 13 l p = obind (take? l p 2) fun l => some (mkAgg l) := part_agg' (by kernel_rfl) size_13 l p
theorem ld_13 (b p : Nat) (sp : Option Nat) (h : Heap) : aLoad CC 13 (.pointer (some ⟨b, p, sp⟩)) h = obind (rowAt h b) fun l => obind (take? l p 2) fun l => some (mkAgg l) := load_agg (by kernel_rfl) size_13 b p sp h
theorem fld_13_0 : CC.fieldAt 13 0 = some (0, 9, 1) := by kernel_rfl
theorem fv_13_0 (l : List Value) : aField CC 13 (.agg ⟨l⟩) 0 = obind l[0]? asVal := fval_one fld_13_0 (by kernel_rfl) l
theorem fp_13_0 (b p : Nat) (sp : Option Nat) : aFieldAddr CC 13 (.pointer (some ⟨b, p, sp⟩)) 0 = some (.val (.pointer (some ⟨b, p + 0, none⟩))) := fieldAddr_at fld_13_0 rfl b p sp
theorem fld_13_1 : CC.fieldAt 13 1 = some (1, 12, 1) := by kernel_rfl
theorem fv_13_1 (l : List Value) : aField CC 13 (.agg ⟨l⟩) 1 = obind l[1]? asVal := fval_one fld_13_1 (by kernel_rfl) l
theorem fp_13_1 (b p : Nat) (sp : Option Nat) : aFieldAddr CC 13 (.pointer (some ⟨b, p, sp⟩)) 1 = some (.val (.pointer (some ⟨b, p + 1, none⟩))) := fieldAddr_at fld_13_1 rfl b p sp
theorem size_14 : CC.size 14 = some 2 := by kernel_rfl
theorem zero_14 : CC.zero 14 = some (.agg ⟨[.string ⟨⟨[]⟩⟩, .int .u64 0]⟩) := by kernel_rfl
theorem part_14 (l : List Value) (p : Nat) : partOf CC 14 l p = obind (take? l p 2) fun l => some (mkAgg l) := part_agg' (by kernel_rfl) size_14 l p
theorem ld_14 (b p : Nat) (sp : Option Nat) (h : Heap) : aLoad CC 14 (.pointer (some ⟨b, p, sp⟩)) h = obind (rowAt h b) fun l => obind (take? l p 2) fun l => some (mkAgg l) := load_agg (by kernel_rfl) size_14 b p sp h
theorem fld_14_0 : CC.fieldAt 14 0 = some (0, 9, 1) := by kernel_rfl
theorem fv_14_0 (l : List Value) : aField CC 14 (.agg ⟨l⟩) 0 = obind l[0]? asVal := fval_one fld_14_0 (by kernel_rfl) l
theorem fp_14_0 (b p : Nat) (sp : Option Nat) : aFieldAddr CC 14 (.pointer (some ⟨b, p, sp⟩)) 0 = some (.val (.pointer (some ⟨b, p + 0, none⟩))) := fieldAddr_at fld_14_0 rfl b p sp
theorem fld_14_1 : CC.fieldAt 14 1 = some (1, 12, 1) := by kernel_rfl
theorem fv_14_1 (l : List Value) : aField CC 14 (.agg ⟨l⟩) 1 = obind l[1]? asVal := fval_one fld_14_1 (by kernel_rfl) l
theorem fp_14_1 (b p : Nat) (sp : Option Nat) : aFieldAddr CC 14 (.pointer (some ⟨b, p, sp⟩)) 1 = some (.val (.pointer (some ⟨b, p + 1, none⟩))) := fieldAddr_at fld_14_1 rfl b p sp
theorem size_15 : CC.size 15 = some 1 := by kernel_rfl
theorem zero_15 : CC.zero 15 = some (.pointer none) := by kernel_rfl
theorem und_15 : CC.und 15 = some (.pointer 228) := by kernel_rfl
theorem part_15 (l : List Value) (p : Nat) : partOf CC 15 l p = l[p]? := part_one' (by kernel_rfl) l p
theorem ld_15 (b p : Nat) (sp : Option Nat) (h : Heap) : aLoad CC 15 (.pointer (some ⟨b, p, sp⟩)) h = obind (rowAt h b) fun l => l[p]? := load_one (by kernel_rfl) b p sp h
theorem size_16 : CC.size 16 = some 1 := by kernel_rfl
theorem zero_16 : CC.zero 16 = some (.pointer none) := by kernel_rfl
theorem und_16 : CC.und 16 = some (.pointer 231) := by kernel_rfl
theorem part_16 (l : List Value) (p : Nat) : partOf CC 16 l p = l[p]? := part_one' (by kernel_rfl) l p
theorem ld_16 (b p : Nat) (sp : Option Nat) (h : Heap) : aLoad CC 16 (.pointer (some ⟨b, p, sp⟩)) h = obind (rowAt h b) fun l => l[p]? := load_one (by kernel_rfl) b p sp h
theorem size_17 : CC.size 17 = some 1 := by kernel_rfl
theorem zero_17 : CC.zero 17 = some (.pointer none) := by kernel_rfl
theorem und_17 : CC.und 17 = some (.pointer 238) := by kernel_rfl
theorem part_17 (l : List Value) (p : Nat) : partOf CC 17 l p = l[p]? := part_one' (by kernel_rfl) l p
theorem ld_17 (b p : Nat) (sp : Option Nat) (h : Heap) : aLoad CC 17 (.pointer (some ⟨b, p, sp⟩)) h = obind (rowAt h b) fun l => l[p]? := load_one (by kernel_rfl) b p sp h
theorem size_18 : CC.size 18 = some 1 := by kernel_rfl
theorem zero_18 : CC.zero 18 = some (.agg ⟨[.pointer none]⟩) := by kernel_rfl
theorem part_18 (l : List Value) (p : Nat) : partOf CC 18 l p = obind (take? l p 1) fun l => some (mkAgg l) := part_agg' (by kernel_rfl) size_18 l p
theorem ld_18 (b p : Nat) (sp : Option Nat) (h : Heap) : aLoad CC 18 (.pointer (some ⟨b, p, sp⟩)) h = obind (rowAt h b) fun l => obind (take? l p 1) fun l => some (mkAgg l) := load_agg (by kernel_rfl) size_18 b p sp h
theorem fld_18_0 : CC.fieldAt 18 0 = some (0, 17, 1) := by kernel_rfl
theorem fv_18_0 (l : List Value) : aField CC 18 (.agg ⟨l⟩) 0 = obind l[0]? asVal := fval_one fld_18_0 (by kernel_rfl) l
theorem fp_18_0 (b p : Nat) (sp : Option Nat) : aFieldAddr CC 18 (.pointer (some ⟨b, p, sp⟩)) 0 = some (.val (.pointer (some ⟨b, p + 0, none⟩))) := fieldAddr_at fld_18_0 rfl b p sp
theorem size_19 : CC.size 19 = some 1 := by kernel_rfl
theorem zero_19 : CC.zero 19 = some (.agg ⟨[.pointer none]⟩) := by kernel_rfl
theorem part_19 (l : List Value) (p : Nat) : partOf CC 19 l p = obind (take? l p 1) fun l => some (mkAgg l) := part_agg' (by kernel_rfl) size_19 l p
theorem ld_19 (b p : Nat) (sp : Option Nat) (h : Heap) : aLoad CC 19 (.pointer (some ⟨b, p, sp⟩)) h = obind (rowAt h b) fun l => obind (take? l p 1) fun l => some (mkAgg l) := load_agg (by kernel_rfl) size_19 b p sp h
theorem fld_19_0 : CC.fieldAt 19 0 = some (0, 17, 1) := by kernel_rfl
theorem fv_19_0 (l : List Value) : aField CC 19 (.agg ⟨l⟩) 0 = obind l[0]? asVal := fval_one fld_19_0 (by kernel_rfl) l
theorem fp_19_0 (b p : Nat) (sp : Option Nat) : aFieldAddr CC 19 (.pointer (some ⟨b, p, sp⟩)) 0 = some (.val (.pointer (some ⟨b, p + 0, none⟩))) := fieldAddr_at fld_19_0 rfl b p sp
theorem size_20 : CC.size 20 = some 1 := by kernel_rfl
theorem zero_20 : CC.zero 20 = some (.nilIface) := by kernel_rfl
theorem part_20 (l : List Value) (p : Nat) : partOf CC 20 l p = l[p]? := part_one' (by kernel_rfl) l p
theorem ld_20 (b p : Nat) (sp : Option Nat) (h : Heap) : aLoad CC 20 (.pointer (some ⟨b, p, sp⟩)) h = obind (rowAt h b) fun l => l[p]? := load_one (by kernel_rfl) b p sp h
theorem size_21 : CC.size 21 = some 1 := by kernel_rfl
theorem zero_21 : CC.zero 21 = some (.int .i32 0) := by kernel_rfl
theorem und_21 : CC.und 21 = some (.int .i32) := by kernel_rfl
theorem part_21 (l : List Value) (p : Nat) : partOf CC 21 l p = l[p]? := part_one' (by kernel_rfl) l p
theorem ld_21 (b p : Nat) (sp : Option Nat) (h : Heap) : aLoad CC 21 (.pointer (some ⟨b, p, sp⟩)) h = obind (rowAt h b) fun l => l[p]? := load_one (by kernel_rfl) b p sp h
theorem size_22 : CC.size 22 = some 1 := by kernel_rfl
theorem zero_22 : CC.zero 22 = some (.slice none 0 0) := by kernel_rfl
theorem und_22 : CC.und 22 = some (.slice 3) := by kernel_rfl
theorem part_22 (l : List Value) (p : Nat) : partOf CC 22 l p = l[p]? := part_one' (by kernel_rfl) l p
theorem ld_22 (b p : Nat) (sp : Option Nat) (h : Heap) : aLoad CC 22 (.pointer (some ⟨b, p, sp⟩)) h = obind (rowAt h b) fun l => l[p]? := load_one (by kernel_rfl) b p sp h
theorem len_22 (p : Option Addr) (n m : Nat) (h : Heap) : aLen CC 22 (.slice p n m) h = some (.int .i64 n) := M_len_slice CC 22 h p n m _ und_22
theorem size_23 : CC.size 23 = some 1 := by kernel_rfl
theorem zero_23 : CC.zero 23 = some (.slice none 0 0) := by kernel_rfl
theorem und_23 : CC.und 23 = some (.slice 72) := by kernel_rfl
theorem part_23 (l : List Value) (p : Nat) : partOf CC 23 l p = l[p]? := part_one' (by kernel_rfl) l p
theorem ld_23 (b p : Nat) (sp : Option Nat) (h : Heap) : aLoad CC 23 (.pointer (some ⟨b, p, sp⟩)) h = obind (rowAt h b) fun l => l[p]? := load_one (by kernel_rfl) b p sp h
theorem len_23 (p : Option Addr) (n m : Nat) (h : Heap) : aLen CC 23 (.slice p n m) h = some (.int .i64 n) := M_len_slice CC 23 h p n m _ und_23
theorem size_24 : CC.size 24 = some 1 := by kernel_rfl
theorem zero_24 : CC.zero 24 = some (.slice none 0 0) := by kernel_rfl
theorem und_24 : CC.und 24 = some (.slice 41) := by kernel_rfl
theorem part_24 (l : List Value) (p : Nat) : partOf CC 24 l p = l[p]? := part_one' (by kernel_rfl) l p
theorem ld_24 (b p : Nat) (sp : Option Nat) (h : Heap) : aLoad CC 24 (.pointer (some ⟨b, p, sp⟩)) h = obind (rowAt h b) fun l => l[p]? := load_one (by kernel_rfl) b p sp h
theorem len_24 (p : Option Addr) (n m : Nat) (h : Heap) : aLen CC 24 (.slice p n m) h = some (.int .i64 n) := M_len_slice CC 24 h p n m _ und_24
theorem size_25 : CC.size 25 = some 3 := by kernel_rfl
theorem zero_25 : CC.zero 25 = some (.agg ⟨[.slice none 0 0, .slice none 0 0, .slice none 0 0]⟩) := by kernel_rfl
theorem part_25 (l : List Value) (p : Nat) : partOf CC 25 l p = obind (take? l p 3) fun l => some (mkAgg l) := part_agg' (by kernel_rfl) size_25 l p
theorem ld_25 (b p : Nat) (sp : Option Nat) (h : Heap) : aLoad CC 25 (.pointer (some ⟨b, p, sp⟩)) h = obind (rowAt h b) fun l => obind (take? l p 3) fun l => some (mkAgg l) := load_agg (by kernel_rfl) size_25 b p sp h
theorem fld_25_0 : CC.fieldAt 25 0 = some (0, 22, 1) := by kernel_rfl
theorem fv_25_0 (l : List Value) : aField CC 25 (.agg ⟨l⟩) 0 = obind l[0]? asVal := fval_one fld_25_0 (by kernel_rfl) l
theorem fp_25_0 (b p : Nat) (sp : Option Nat) : aFieldAddr CC 25 (.pointer (some ⟨b, p, sp⟩)) 0 = some (.val (.pointer (some ⟨b, p + 0, none⟩))) := fieldAddr_at fld_25_0 rfl b p sp
theorem fld_25_1 : CC.fieldAt 25 1 = some (1, 23, 1) := by kernel_rfl
theorem fv_25_1 (l : List Value) : aField CC 25 (.agg ⟨l⟩) 1 = obind l[1]? asVal := fval_one fld_25_1 (by kernel_rfl) l
theorem fp_25_1 (b p : Nat) (sp : Option Nat) : aFieldAddr CC 25 (.pointer (some ⟨b, p, sp⟩)) 1 = some (.val (.pointer (some ⟨b, p + 1, none⟩))) := fieldAddr_at fld_25_1 rfl b p sp
theorem fld_25_2 : CC.fieldAt 25 2 = some (2, 24, 1) := by kernel_rfl
theorem fv_25_2 (l : List Value) : aField CC 25 (.agg ⟨l⟩) 2 = obind l[2]? asVal := fval_one fld_25_2 (by kernel_rfl) l
theorem fp_25_2 (b p : Nat) (sp : Option Nat) : aFieldAddr CC 25 (.pointer (some ⟨b, p, sp⟩)) 2 = some (.val (.pointer (some ⟨b, p + 2, none⟩))) := fieldAddr_at fld_25_2 rfl b p sp
theorem size_26 : CC.size 26 = some 3 := by kernel_rfl
theorem zero_26 : CC.zero 26 = some (.agg ⟨[.slice none 0 0, .slice none 0 0, .slice none 0 0]⟩) := by kernel_rfl
theorem part_26 (l : List Value) (p : Nat) : partOf CC 26 l p = obind (take? l p 3) fun l => some (mkAgg l) := part_agg' (by kernel_rfl) size_26 l p
theorem ld_26 (b p : Nat) (sp : Option Nat) (h : Heap) : aLoad CC 26 (.pointer (some ⟨b, p, sp⟩)) h = obind (rowAt h b) fun l => obind (take? l p 3) fun l => some (mkAgg l) := load_agg (by kernel_rfl) size_26 b p sp h
theorem fld_26_0 : CC.fieldAt 26 0 = some (0, 22, 1) := by kernel_rfl
theorem fv_26_0 (l : List Value) : aField CC 26 (.agg ⟨l⟩) 0 = obind l[0]? asVal := fval_one fld_26_0 (by kernel_rfl) l
theorem fp_26_0 (b p : Nat) (sp : Option Nat) : aFieldAddr CC 26 (.pointer (some ⟨b, p, sp⟩)) 0 = some (.val (.pointer (some ⟨b, p + 0, none⟩))) := fieldAddr_at fld_26_0 rfl b p sp
theorem fld_26_1 : CC.fieldAt 26 1 = some (1, 23, 1) := by kernel_rfl
theorem fv_26_1 (l : List Value) : aField CC 26 (.agg ⟨l⟩) 1 = obind l[1]? asVal := fval_one fld_26_1 (by kernel_rfl) l
theorem fp_26_1 (b p : Nat) (sp : Option Nat) : aFieldAddr CC 26 (.pointer (some ⟨b, p, sp⟩)) 1 = some (.val (.pointer (some ⟨b, p + 1, none⟩))) := fieldAddr_at fld_26_1 rfl b p sp
theorem fld_26_2 : CC.fieldAt 26 2 = some (2, 24, 1) := by kernel_rfl
theorem fv_26_2 (l : List Value) : aField CC 26 (.agg ⟨l⟩) 2 = obind l[2]? asVal := fval_one fld_26_2 (by kernel_rfl) l
theorem fp_26_2 (b p : Nat) (sp : Option Nat) : aFieldAddr CC 26 (.pointer (some ⟨b, p, sp⟩)) 2 = some (.val (.pointer (some ⟨b, p + 2, none⟩))) := fieldAddr_at fld_26_2 rfl b p sp
theorem size_27 : CC.size 27 = some 1 := by kernel_rfl
theorem zero_27 : CC.zero 27 = some (.nilFunc) := by kernel_rfl
theorem part_27 (l : List Value) (p : Nat) : partOf CC 27 l p = l[p]? := part_one' (by kernel_rfl) l p
theorem ld_27 (b p : Nat) (sp : Option Nat) (h : Heap) : aLoad CC 27 (.pointer (some ⟨b, p, sp⟩)) h = obind (rowAt h b) fun l => l[p]? := load_one (by kernel_rfl) b p sp h
theorem size_28 : CC.size 28 = some 1 := by kernel_rfl
theorem zero_28 : CC.zero 28 = some (.nilFunc) := by kernel_rfl
theorem part_28 (l : List Value) (p : Nat) : partOf CC 28 l p = l[p]? := part_one' (by kernel_rfl) l p
theorem ld_28 (b p : Nat) (sp : Option Nat) (h : Heap) : aLoad CC 28 (.pointer (some ⟨b, p, sp⟩)) h = obind (rowAt h b) fun l => l[p]? := load_one (by kernel_rfl) b p sp h
theorem size_29 : CC.size 29 = some 2 := by kernel_rfl
theorem zero_29 : CC.zero 29 = some (.agg ⟨[.int .i64 0, .int .i64 0]⟩) := by kernel_rfl
theorem part_29 (l : List Value) (p : Nat) : partOf CC 29 l p = obind (take? l p 2) fun l => some (mkAgg l) := part_agg' (by kernel_rfl) size_29 l p
theorem ld_29 (b p : Nat) (sp : Option Nat) (h : Heap) : aLoad CC 29 (.pointer (some ⟨b, p, sp⟩)) h = obind (rowAt h b) fun l => obind (take? l p 2) fun l => some (mkAgg l) := load_agg (by kernel_rfl) size_29 b p sp h
theorem fld_29_0 : CC.fieldAt 29 0 = some (0, 3, 1) := by kernel_rfl
theorem fv_29_0 (l : List Value) : aField CC 29 (.agg ⟨l⟩) 0 = obind l[0]? asVal := fval_one fld_29_0 (by kernel_rfl) l
theorem fp_29_0 (b p : Nat) (sp : Option Nat) : aFieldAddr CC 29 (.pointer (some ⟨b, p, sp⟩)) 0 = some (.val (.pointer (some ⟨b, p + 0, none⟩))) := fieldAddr_at fld_29_0 rfl b p sp
theorem fld_29_1 : CC.fieldAt 29 1 = some (1, 3, 1) := by kernel_rfl
theorem fv_29_1 (l : List Value) : aField CC 29 (.agg ⟨l⟩) 1 = obind l[1]? asVal := fval_one fld_29_1 (by kernel_rfl) l
theorem fp_29_1 (b p : Nat) (sp : Option Nat) : aFieldAddr CC 29 (.pointer (some ⟨b, p, sp⟩)) 1 = some (.val (.pointer (some ⟨b, p + 1, none⟩))) := fieldAddr_at fld_29_1 rfl b p sp
theorem size_30 : CC.size 30 = some 2 := by kernel_rfl
theorem zero_30 : CC.zero 30 = some (.agg ⟨[.int .i64 0, .int .i64 0]⟩) := by kernel_rfl
theorem part_30 (l : List Value) (p : Nat) : partOf CC 30 l p = obind (take? l p 2) fun l => some (mkAgg l) := part_agg' (by kernel_rfl) size_30 l p
theorem ld_30 (b p : Nat) (sp : Option Nat) (h : Heap) : aLoad CC 30 (.pointer (some ⟨b, p, sp⟩)) h = obind (rowAt h b) fun l => obind (take? l p 2) fun l => some (mkAgg l) := load_agg (by kernel_rfl) size_30 b p sp h
theorem fld_30_0 : CC.fieldAt 30 0 = some (0, 3, 1) := by kernel_rfl
theorem fv_30_0 (l : List Value) : aField CC 30 (.agg ⟨l⟩) 0 = obind l[0]? asVal := fval_one fld_30_0 (by kernel_rfl) l
theorem fp_30_0 (b p : Nat) (sp : Option Nat) : aFieldAddr CC 30 (.pointer (some ⟨b, p, sp⟩)) 0 = some (.val (.pointer (some ⟨b, p + 0, none⟩))) := fieldAddr_at fld_30_0 rfl b p sp
theorem fld_30_1 : CC.fieldAt 30 1 = some (1, 3, 1) := by kernel_rfl
theorem fv_30_1 (l : List Value) : aField CC 30 (.agg ⟨l⟩) 1 = obind l[1]? asVal := fval_one fld_30_1 (by kernel_rfl) l
theorem fp_30_1 (b p : Nat) (sp : Option Nat) : aFieldAddr CC 30 (.pointer (some ⟨b, p, sp⟩)) 1 = some (.val (.pointer (some ⟨b, p + 1, none⟩))) := fieldAddr_at fld_30_1 rfl b p sp
theorem size_31 : CC.size 31 = some 1 := by kernel_rfl
theorem zero_31 : CC.zero 31 = some (.int .i64 0) := by kernel_rfl
theorem und_31 : CC.und 31 = some (.int .i64) := by kernel_rfl
theorem part_31 (l : List Value) (p : Nat) : partOf CC 31 l p = l[p]? := part_one' (by kernel_rfl) l p
theorem ld_31 (b p : Nat) (sp : Option Nat) (h : Heap) : aLoad CC 31 (.pointer (some ⟨b, p, sp⟩)) h = obind (rowAt h b) fun l => l[p]? := load_one (by kernel_rfl) b p sp h
theorem size_33 : CC.size 33 = some 1 := by kernel_rfl
theorem zero_33 : CC.zero 33 = some (.nilFunc) := by kernel_rfl
theorem part_33 (l : List Value) (p : Nat) : partOf CC 33 l p = l[p]? := part_one' (by kernel_rfl) l p
theorem ld_33 (b p : Nat) (sp : Option Nat) (h : Heap) : aLoad CC 33 (.pointer (some ⟨b, p, sp⟩)) h = obind (rowAt h b) fun l => l[p]? := load_one (by kernel_rfl) b p sp h
theorem size_35 : CC.size 35 = some 1 := by kernel_rfl
theorem zero_35 : CC.zero 35 = some (.nilFunc) := by kernel_rfl
theorem part_35 (l : List Value) (p : Nat) : partOf CC 35 l p = l[p]? := part_one' (by kernel_rfl) l p
theorem ld_35 (b p : Nat) (sp : Option Nat) (h : Heap) : aLoad CC 35 (.pointer (some ⟨b, p, sp⟩)) h = obind (rowAt h b) fun l => l[p]? := load_one (by kernel_rfl) b p sp h
theorem size_36 : CC.size 36 = some 1 := by kernel_rfl
theorem zero_36 : CC.zero 36 = some (.nilFunc) := by kernel_rfl
theorem part_36 (l : List Value) (p : Nat) : partOf CC 36 l p = l[p]? := part_one' (by kernel_rfl) l p
theorem ld_36 (b p : Nat) (sp : Option Nat) (h : Heap) : aLoad CC 36 (.pointer (some ⟨b, p, sp⟩)) h = obind (rowAt h b) fun l => l[p]? := load_one (by kernel_rfl) b p sp h
theorem size_37 : CC.size 37 = some 1 := by kernel_rfl
theorem zero_37 : CC.zero 37 = some (.nilFunc) := by kernel_rfl
theorem part_37 (l : List Value) (p : Nat) : partOf CC 37 l p = l[p]? := part_one' (by kernel_rfl) l p
theorem ld_37 (b p : Nat) (sp : Option Nat) (h : Heap) : aLoad CC 37 (.pointer (some ⟨b, p, sp⟩)) h = obind (rowAt h b) fun l => l[p]? := load_one (by kernel_rfl) b p sp h
theorem size_38 : CC.size 38 = some 1 := by kernel_rfl
theorem zero_38 : CC.zero 38 = some (.int .i64 0) := by kernel_rfl
theorem und_38 : CC.und 38 = some (.int .i64) := by kernel_rfl
theorem part_38 (l : List Value) (p : Nat) : partOf CC 38 l p = l[p]? := part_one' (by kernel_rfl) l p
theorem ld_38 (b p : Nat) (sp : Option Nat) (h : Heap) : aLoad CC 38 (.pointer (some ⟨b, p, sp⟩)) h = obind (rowAt h b) fun l => l[p]? := load_one (by kernel_rfl) b p sp h
theorem size_39 : CC.size 39 = some 1 := by kernel_rfl
theorem zero_39 : CC.zero 39 = some (.int .i64 0) := by kernel_rfl
theorem und_39 : CC.und 39 = some (.int .i64) := by kernel_rfl
theorem part_39 (l : List Value) (p : Nat) : partOf CC 39 l p = l[p]? := part_one' (by kernel_rfl) l p
theorem ld_39 (b p : Nat) (sp : Option Nat) (h : Heap) : aLoad CC 39 (.pointer (some ⟨b, p, sp⟩)) h = obind (rowAt h b) fun l => l[p]? := load_one (by kernel_rfl) b p sp h
theorem size_40 : CC.size 40 = some 5 := by kernel_rfl
theorem zero_40 : CC.zero 40 = some (.agg ⟨[.int .i64 0, .int .i64 0, .int .i64 0, .int .i64 0, .bool false]⟩) := by kernel_rfl
theorem part_40 (l : List Value) (p : Nat) : partOf CC 40 l p = obind (take? l p 5) fun l => some (mkAgg l) := part_agg' (by kernel_rfl) size_40 l p
theorem ld_40 (b p : Nat) (sp : Option Nat) (h : Heap) : aLoad CC 40 (.pointer (some ⟨b, p, sp⟩)) h = obind (rowAt h b) fun l => obind (take? l p 5) fun l => some (mkAgg l) := load_agg (by kernel_rfl) size_40 b p sp h
theorem fld_40_0 : CC.fieldAt 40 0 = some (0, 38, 1) := by kernel_rfl
theorem fv_40_0 (l : List Value) : aField CC 40 (.agg ⟨l⟩) 0 = obind l[0]? asVal := fval_one fld_40_0 (by kernel_rfl) l
theorem fp_40_0 (b p : Nat) (sp : Option Nat) : aFieldAddr CC 40 (.pointer (some ⟨b, p, sp⟩)) 0 = some (.val (.pointer (some ⟨b, p + 0, none⟩))) := fieldAddr_at fld_40_0 rfl b p sp
theorem fld_40_1 : CC.fieldAt 40 1 = some (1, 3, 1) := by kernel_rfl
theorem fv_40_1 (l : List Value) : aField CC 40 (.agg ⟨l⟩) 1 = obind l[1]? asVal := fval_one fld_40_1 (by kernel_rfl) l
theorem fp_40_1 (b p : Nat) (sp : Option Nat) : aFieldAddr CC 40 (.pointer (some ⟨b, p, sp⟩)) 1 = some (.val (.pointer (some ⟨b, p + 1, none⟩))) := fieldAddr_at fld_40_1 rfl b p sp
theorem fld_40_2 : CC.fieldAt 40 2 = some (2, 3, 1) := by kernel_rfl
theorem fv_40_2 (l : List Value) : aField CC 40 (.agg ⟨l⟩) 2 = obind l[2]? asVal := fval_one fld_40_2 (by kernel_rfl) l
theorem fp_40_2 (b p : Nat) (sp : Option Nat) : aFieldAddr CC 40 (.pointer (some ⟨b, p, sp⟩)) 2 = some (.val (.pointer (some ⟨b, p + 2, none⟩))) := fieldAddr_at fld_40_2 rfl b p sp
theorem fld_40_3 : CC.fieldAt 40 3 = some (3, 39, 1) := by kernel_rfl
theorem fv_40_3 (l : List Value) : aField CC 40 (.agg ⟨l⟩) 3 = obind l[3]? asVal := fval_one fld_40_3 (by kernel_rfl) l
theorem fp_40_3 (b p : Nat) (sp : Option Nat) : aFieldAddr CC 40 (.pointer (some ⟨b, p, sp⟩)) 3 = some (.val (.pointer (some ⟨b, p + 3, none⟩))) := fieldAddr_at fld_40_3 rfl b p sp
theorem fld_40_4 : CC.fieldAt 40 4 = some (4, 4, 1) := by kernel_rfl
theorem fv_40_4 (l : List Value) : aField CC 40 (.agg ⟨l⟩) 4 = obind l[4]? asVal := fval_one fld_40_4 (by kernel_rfl) l
theorem fp_40_4 (b p : Nat) (sp : Option Nat) : aFieldAddr CC 40 (.pointer (some ⟨b, p, sp⟩)) 4 = some (.val (.pointer (some ⟨b, p + 4, none⟩))) := fieldAddr_at fld_40_4 rfl b p sp
theorem size_41 : CC.size 41 = some 5 := by kernel_rfl
theorem zero_41 : CC.zero 41 = some (.agg ⟨[.int .i64 0, .int .i64 0, .int .i64 0, .int .i64 0, .bool false]⟩) := by kernel_rfl
theorem part_41 (l : List Value) (p : Nat) : partOf CC 41 l p = obind (take? l p 5) fun l => some (mkAgg l) := part_agg' (by kernel_rfl) size_41 l p
theorem ld_41 (b p : Nat) (sp : Option Nat) (h : Heap) : aLoad CC 41 (.pointer (some ⟨b, p, sp⟩)) h = obind (rowAt h b) fun l => obind (take? l p 5) fun l => some (mkAgg l) := load_agg (by kernel_rfl) size_41 b p sp h
theorem fld_41_0 : CC.fieldAt 41 0 = some (0, 38, 1) := by kernel_rfl
theorem fv_41_0 (l : List Value) : aField CC 41 (.agg ⟨l⟩) 0 = obind l[0]? asVal := fval_one fld_41_0 (by kernel_rfl) l
theorem fp_41_0 (b p : Nat) (sp : Option Nat) : aFieldAddr CC 41 (.pointer (some ⟨b, p, sp⟩)) 0 = some (.val (.pointer (some ⟨b, p + 0, none⟩))) := fieldAddr_at fld_41_0 rfl b p sp
theorem fld_41_1 : CC.fieldAt 41 1 = some (1, 3, 1) := by kernel_rfl
theorem fv_41_1 (l : List Value) : aField CC 41 (.agg ⟨l⟩) 1 = obind l[1]? asVal := fval_one fld_41_1 (by kernel_rfl) l
theorem fp_41_1 (b p : Nat) (sp : Option Nat) : aFieldAddr CC 41 (.pointer (some ⟨b, p, sp⟩)) 1 = some (.val (.pointer (some ⟨b, p + 1, none⟩))) := fieldAddr_at fld_41_1 rfl b p sp
theorem fld_41_2 : CC.fieldAt 41 2 = some (2, 3, 1) := by kernel_rfl
theorem fv_41_2 (l : List Value) : aField CC 41 (.agg ⟨l⟩) 2 = obind l[2]? asVal := fval_one fld_41_2 (by kernel_rfl) l
theorem fp_41_2 (b p : Nat) (sp : Option Nat) : aFieldAddr CC 41 (.pointer (some ⟨b, p, sp⟩)) 2 = some (.val (.pointer (some ⟨b, p + 2, none⟩))) := fieldAddr_at fld_41_2 rfl b p sp
theorem fld_41_3 : CC.fieldAt 41 3 = some (3, 39, 1) := by kernel_rfl
theorem fv_41_3 (l : List Value) : aField CC 41 (.agg ⟨l⟩) 3 = obind l[3]? asVal := fval_one fld_41_3 (by kernel_rfl) l
theorem fp_41_3 (b p : Nat) (sp : Option Nat) : aFieldAddr CC 41 (.pointer (some ⟨b, p, sp⟩)) 3 = some (.val (.pointer (some ⟨b, p + 3, none⟩))) := fieldAddr_at fld_41_3 rfl b p sp
theorem fld_41_4 : CC.fieldAt 41 4 = some (4, 4, 1) := by kernel_rfl
theorem fv_41_4 (l : List Value) : aField CC 41 (.agg ⟨l⟩) 4 = obind l[4]? asVal := fval_one fld_41_4 (by kernel_rfl) l
theorem fp_41_4 (b p : Nat) (sp : Option Nat) : aFieldAddr CC 41 (.pointer (some ⟨b, p, sp⟩)) 4 = some (.val (.pointer (some ⟨b, p + 4, none⟩))) := fieldAddr_at fld_41_4 rfl b p sp
theorem size_42 : CC.size 42 = some 1 := by kernel_rfl
theorem zero_42 : CC.zero 42 = some (.nilFunc) := by kernel_rfl
theorem part_42 (l : List Value) (p : Nat) : partOf CC 42 l p = l[p]? := part_one' (by kernel_rfl) l p
theorem ld_42 (b p : Nat) (sp : Option Nat) (h : Heap) : aLoad CC 42 (.pointer (some ⟨b, p, sp⟩)) h = obind (rowAt h b) fun l => l[p]? := load_one (by kernel_rfl) b p sp h
theorem size_43 : CC.size 43 = some 1 := by kernel_rfl
theorem zero_43 : CC.zero 43 = some (.nilFunc) := by kernel_rfl
theorem part_43 (l : List Value) (p : Nat) : partOf CC 43 l p = l[p]? := part_one' (by kernel_rfl) l p
theorem ld_43 (b p : Nat) (sp : Option Nat) (h : Heap) : aLoad CC 43 (.pointer (some ⟨b, p, sp⟩)) h = obind (rowAt h b) fun l => l[p]? := load_one (by kernel_rfl) b p sp h
theorem size_45 : CC.size 45 = some 1 := by kernel_rfl
theorem zero_45 : CC.zero 45 = some (.nilFunc) := by kernel_rfl
theorem part_45 (l : List Value) (p : Nat) : partOf CC 45 l p = l[p]? := part_one' (by kernel_rfl) l p
theorem ld_45 (b p : Nat) (sp : Option Nat) (h : Heap) : aLoad CC 45 (.pointer (some ⟨b, p, sp⟩)) h = obind (rowAt h b) fun l => l[p]? := load_one (by kernel_rfl) b p sp h
theorem size_46 : CC.size 46 = some 1 := by kernel_rfl
theorem zero_46 : CC.zero 46 = some (.nilFunc) := by kernel_rfl
theorem part_46 (l : List Value) (p : Nat) : partOf CC 46 l p = l[p]? := part_one' (by kernel_rfl) l p
theorem ld_46 (b p : Nat) (sp : Option Nat) (h : Heap) : aLoad CC 46 (.pointer (some ⟨b, p, sp⟩)) h = obind (rowAt h b) fun l => l[p]? := load_one (by kernel_rfl) b p sp h
theorem size_47 : CC.size 47 = some 1 := by kernel_rfl
theorem zero_47 : CC.zero 47 = some (.nilFunc) := by kernel_rfl
theorem part_47 (l : List Value) (p : Nat) : partOf CC 47 l p = l[p]? := part_one' (by kernel_rfl) l p
theorem ld_47 (b p : Nat) (sp : Option Nat) (h : Heap) : aLoad CC 47 (.pointer (some ⟨b, p, sp⟩)) h = obind (rowAt h b) fun l => l[p]? := load_one (by kernel_rfl) b p sp h
theorem size_48 : CC.size 48 = some 1 := by kernel_rfl
theorem zero_48 : CC.zero 48 = some (.nilFunc) := by kernel_rfl
theorem part_48 (l : List Value) (p : Nat) : partOf CC 48 l p = l[p]? := part_one' (by kernel_rfl) l p
theorem ld_48 (b p : Nat) (sp : Option Nat) (h : Heap) : aLoad CC 48 (.pointer (some ⟨b, p, sp⟩)) h = obind (rowAt h b) fun l => l[p]? := load_one (by kernel_rfl) b p sp h
theorem size_49 : CC.size 49 = some 1 := by kernel_rfl
theorem zero_49 : CC.zero 49 = some (.nilFunc) := by kernel_rfl
theorem part_49 (l : List Value) (p : Nat) : partOf CC 49 l p = l[p]? := part_one' (by kernel_rfl) l p
theorem ld_49 (b p : Nat) (sp : Option Nat) (h : Heap) : aLoad CC 49 (.pointer (some ⟨b, p, sp⟩)) h = obind (rowAt h b) fun l => l[p]? := load_one (by kernel_rfl) b p sp h
theorem size_50 : CC.size 50 = some 1 := by kernel_rfl
theorem zero_50 : CC.zero 50 = some (.int .i64 0) := by kernel_rfl
theorem und_50 : CC.und 50 = some (.int .i64) := by kernel_rfl
theorem part_50 (l : List Value) (p : Nat) : partOf CC 50 l p = l[p]? := part_one' (by kernel_rfl) l p
theorem ld_50 (b p : Nat) (sp : Option Nat) (h : Heap) : aLoad CC 50 (.pointer (some ⟨b, p, sp⟩)) h = obind (rowAt h b) fun l => l[p]? := load_one (by kernel_rfl) b p sp h
theorem size_52 : CC.size 52 = some 1 := by kernel_rfl
theorem zero_52 : CC.zero 52 = some (.nilFunc) := by kernel_rfl
theorem part_52 (l : List Value) (p : Nat) : partOf CC 52 l p = l[p]? := part_one' (by kernel_rfl) l p
theorem ld_52 (b p : Nat) (sp : Option Nat) (h : Heap) : aLoad CC 52 (.pointer (some ⟨b, p, sp⟩)) h = obind (rowAt h b) fun l => l[p]? := load_one (by kernel_rfl) b p sp h
theorem size_53 : CC.size 53 = some 1 := by kernel_rfl
theorem zero_53 : CC.zero 53 = some (.nilFunc) := by kernel_rfl
theorem part_53 (l : List Value) (p : Nat) : partOf CC 53 l p = l[p]? := part_one' (by kernel_rfl) l p
theorem ld_53 (b p : Nat) (sp : Option Nat) (h : Heap) : aLoad CC 53 (.pointer (some ⟨b, p, sp⟩)) h = obind (rowAt h b) fun l => l[p]? := load_one (by kernel_rfl) b p sp h
theorem size_54 : CC.size 54 = some 1 := by kernel_rfl
theorem zero_54 : CC.zero 54 = some (.slice none 0 0) := by kernel_rfl
theorem und_54 : CC.und 54 = some (.slice 22) := by kernel_rfl
theorem part_54 (l : List Value) (p : Nat) : partOf CC 54 l p = l[p]? := part_one' (by kernel_rfl) l p
theorem ld_54 (b p : Nat) (sp : Option Nat) (h : Heap) : aLoad CC 54 (.pointer (some ⟨b, p, sp⟩)) h = obind (rowAt h b) fun l => l[p]? := load_one (by kernel_rfl) b p sp h
theorem len_54 (p : Option Addr) (n m : Nat) (h : Heap) : aLen CC 54 (.slice p n m) h = some (.int .i64 n) := M_len_slice CC 54 h p n m _ und_54
theorem size_55 : CC.size 55 = some 1 := by kernel_rfl
theorem zero_55 : CC.zero 55 = some (.nilFunc) := by kernel_rfl
theorem part_55 (l : List Value) (p : Nat) : partOf CC 55 l p = l[p]? := part_one' (by kernel_rfl) l p
theorem ld_55 (b p : Nat) (sp : Option Nat) (h : Heap) : aLoad CC 55 (.pointer (some ⟨b, p, sp⟩)) h = obind (rowAt h b) fun l => l[p]? := load_one (by kernel_rfl) b p sp h
theorem size_56 : CC.size 56 = some 1 := by kernel_rfl
theorem zero_56 : CC.zero 56 = some (.nilFunc) := by kernel_rfl
theorem part_56 (l : List Value) (p : Nat) : partOf CC 56 l p = l[p]? := part_one' (by kernel_rfl) l p
theorem ld_56 (b p : Nat) (sp : Option Nat) (h : Heap) : aLoad CC 56 (.pointer (some ⟨b, p, sp⟩)) h = obind (rowAt h b) fun l => l[p]? := load_one (by kernel_rfl) b p sp h
theorem size_57 : CC.size 57 = some 1 := by kernel_rfl
theorem zero_57 : CC.zero 57 = some (.nilFunc) := by kernel_rfl
theorem part_57 (l : List Value) (p : Nat) : partOf CC 57 l p = l[p]? := part_one' (by kernel_rfl) l p
theorem ld_57 (b p : Nat) (sp : Option Nat) (h : Heap) : aLoad CC 57 (.pointer (some ⟨b, p, sp⟩)) h = obind (rowAt h b) fun l => l[p]? := load_one (by kernel_rfl) b p sp h
theorem size_58 : CC.size 58 = some 1 := by kernel_rfl
theorem zero_58 : CC.zero 58 = some (.nilFunc) := by kernel_rfl
theorem part_58 (l : List Value) (p : Nat) : partOf CC 58 l p = l[p]? := part_one' (by kernel_rfl) l p
theorem ld_58 (b p : Nat) (sp : Option Nat) (h : Heap) : aLoad CC 58 (.pointer (some ⟨b, p, sp⟩)) h = obind (rowAt h b) fun l => l[p]? := load_one (by kernel_rfl) b p sp h
theorem size_59 : CC.size 59 = some 1 := by kernel_rfl
theorem zero_59 : CC.zero 59 = some (.nilFunc) := by kernel_rfl
theorem part_59 (l : List Value) (p : Nat) : partOf CC 59 l p = l[p]? := part_one' (by kernel_rfl) l p
theorem ld_59 (b p : Nat) (sp : Option Nat) (h : Heap) : aLoad CC 59 (.pointer (some ⟨b, p, sp⟩)) h = obind (rowAt h b) fun l => l[p]? := load_one (by kernel_rfl) b p sp h
theorem size_60 : CC.size 60 = some 1 := by kernel_rfl
theorem zero_60 : CC.zero 60 = some (.nilFunc) := by kernel_rfl
theorem part_60 (l : List Value) (p : Nat) : partOf CC 60 l p = l[p]? := part_one' (by kernel_rfl) l p
theorem ld_60 (b p : Nat) (sp : Option Nat) (h : Heap) : aLoad CC 60 (.pointer (some ⟨b, p, sp⟩)) h = obind (rowAt h b) fun l => l[p]? := load_one (by kernel_rfl) b p sp h
theorem size_62 : CC.size 62 = some 1 := by kernel_rfl
theorem zero_62 : CC.zero 62 = some (.nilFunc) := by kernel_rfl
theorem part_62 (l : List Value) (p : Nat) : partOf CC 62 l p = l[p]? := part_one' (by kernel_rfl) l p
theorem ld_62 (b p : Nat) (sp : Option Nat) (h : Heap) : aLoad CC 62 (.pointer (some ⟨b, p, sp⟩)) h = obind (rowAt h b) fun l => l[p]? := load_one (by kernel_rfl) b p sp h
theorem size_64 : CC.size 64 = some 1 := by kernel_rfl
theorem zero_64 : CC.zero 64 = some (.nilFunc) := by kernel_rfl
theorem part_64 (l : List Value) (p : Nat) : partOf CC 64 l p = l[p]? := part_one' (by kernel_rfl) l p
theorem ld_64 (b p : Nat) (sp : Option Nat) (h : Heap) : aLoad CC 64 (.pointer (some ⟨b, p, sp⟩)) h = obind (rowAt h b) fun l => l[p]? := load_one (by kernel_rfl) b p sp h
theorem size_66 : CC.size 66 = some 1 := by kernel_rfl
theorem zero_66 : CC.zero 66 = some (.nilFunc) := by kernel_rfl
theorem part_66 (l : List Value) (p : Nat) : partOf CC 66 l p = l[p]? := part_one' (by kernel_rfl) l p
theorem ld_66 (b p : Nat) (sp : Option Nat) (h : Heap) : aLoad CC 66 (.pointer (some ⟨b, p, sp⟩)) h = obind (rowAt h b) fun l => l[p]? := load_one (by kernel_rfl) b p sp h
theorem size_67 : CC.size 67 = some 1 := by kernel_rfl
theorem zero_67 : CC.zero 67 = some (.nilFunc) := by kernel_rfl
theorem part_67 (l : List Value) (p : Nat) : partOf CC 67 l p = l[p]? := part_one' (by kernel_rfl) l p
theorem ld_67 (b p : Nat) (sp : Option Nat) (h : Heap) : aLoad CC 67 (.pointer (some ⟨b, p, sp⟩)) h = obind (rowAt h b) fun l => l[p]? := load_one (by kernel_rfl) b p sp h
theorem size_68 : CC.size 68 = some 1 := by kernel_rfl
theorem zero_68 : CC.zero 68 = some (.nilFunc) := by kernel_rfl
theorem part_68 (l : List Value) (p : Nat) : partOf CC 68 l p = l[p]? := part_one' (by kernel_rfl) l p
theorem ld_68 (b p : Nat) (sp : Option Nat) (h : Heap) : aLoad CC 68 (.pointer (some ⟨b, p, sp⟩)) h = obind (rowAt h b) fun l => l[p]? := load_one (by kernel_rfl) b p sp h
theorem size_69 : CC.size 69 = some 1 := by kernel_rfl
theorem zero_69 : CC.zero 69 = some (.nilFunc) := by kernel_rfl
theorem part_69 (l : List Value) (p : Nat) : partOf CC 69 l p = l[p]? := part_one' (by kernel_rfl) l p
theorem ld_69 (b p : Nat) (sp : Option Nat) (h : Heap) : aLoad CC 69 (.pointer (some ⟨b, p, sp⟩)) h = obind (rowAt h b) fun l => l[p]? := load_one (by kernel_rfl) b p sp h
theorem size_70 : CC.size 70 = some 1 := by kernel_rfl
theorem zero_70 : CC.zero 70 = some (.nilFunc) := by kernel_rfl
theorem part_70 (l : List Value) (p : Nat) : partOf CC 70 l p = l[p]? := part_one' (by kernel_rfl) l p
theorem ld_70 (b p : Nat) (sp : Option Nat) (h : Heap) : aLoad CC 70 (.pointer (some ⟨b, p, sp⟩)) h = obind (rowAt h b) fun l => l[p]? := load_one (by kernel_rfl) b p sp h
theorem size_71 : CC.size 71 = some 5 := by kernel_rfl
theorem zero_71 : CC.zero 71 = some (.agg ⟨[.int .i64 0, .int .i64 0, .int .i64 0, .int .i64 0, .int .i64 0]⟩) := by kernel_rfl
theorem part_71 (l : List Value) (p : Nat) : partOf CC 71 l p = obind (take? l p 5) fun l => some (mkAgg l) := part_agg' (by kernel_rfl) size_71 l p
theorem ld_71 (b p : Nat) (sp : Option Nat) (h : Heap) : aLoad CC 71 (.pointer (some ⟨b, p, sp⟩)) h = obind (rowAt h b) fun l => obind (take? l p 5) fun l => some (mkAgg l) := load_agg (by kernel_rfl) size_71 b p sp h
theorem fld_71_0 : CC.fieldAt 71 0 = some (0, 3, 1) := by kernel_rfl
theorem fv_71_0 (l : List Value) : aField CC 71 (.agg ⟨l⟩) 0 = obind l[0]? asVal := fval_one fld_71_0 (by kernel_rfl) l
theorem fp_71_0 (b p : Nat) (sp : Option Nat) : aFieldAddr CC 71 (.pointer (some ⟨b, p, sp⟩)) 0 = some (.val (.pointer (some ⟨b, p + 0, none⟩))) := fieldAddr_at fld_71_0 rfl b p sp
theorem fld_71_1 : CC.fieldAt 71 1 = some (1, 3, 1) := by kernel_rfl
theorem fv_71_1 (l : List Value) : aField CC 71 (.agg ⟨l⟩) 1 = obind l[1]? asVal := fval_one fld_71_1 (by kernel_rfl) l
theorem fp_71_1 (b p : Nat) (sp : Option Nat) : aFieldAddr CC 71 (.pointer (some ⟨b, p, sp⟩)) 1 = some (.val (.pointer (some ⟨b, p + 1, none⟩))) := fieldAddr_at fld_71_1 rfl b p sp
theorem fld_71_2 : CC.fieldAt 71 2 = some (2, 30, 2) := by kernel_rfl
theorem fv_71_2 (l : List Value) : aField CC 71 (.agg ⟨l⟩) 2 = obind (take? l 2 2) fun l => asVal (mkAgg l) := fval_agg fld_71_2 (by kernel_rfl) size_30 l
theorem fp_71_2 (b p : Nat) (sp : Option Nat) : aFieldAddr CC 71 (.pointer (some ⟨b, p, sp⟩)) 2 = some (.val (.pointer (some ⟨b, p + 2, none⟩))) := fieldAddr_at fld_71_2 rfl b p sp
theorem fld_71_3 : CC.fieldAt 71 3 = some (4, 3, 1) := by kernel_rfl
theorem fv_71_3 (l : List Value) : aField CC 71 (.agg ⟨l⟩) 3 = obind l[4]? asVal := fval_one fld_71_3 (by kernel_rfl) l
theorem fp_71_3 (b p : Nat) (sp : Option Nat) : aFieldAddr CC 71 (.pointer (some ⟨b, p, sp⟩)) 3 = some (.val (.pointer (some ⟨b, p + 4, none⟩))) := fieldAddr_at fld_71_3 rfl b p sp
theorem size_72 : CC.size 72 = some 5 := by kernel_rfl
theorem zero_72 : CC.zero 72 = some (.agg ⟨[.int .i64 0, .int .i64 0, .int .i64 0, .int .i64 0, .int .i64 0]⟩) := by kernel_rfl
theorem part_72 (l : List Value) (p : Nat) : partOf CC 72 l p = obind (take? l p 5) fun l => some (mkAgg l) := part_agg' (by kernel_rfl) size_72 l p
theorem ld_72 (b p : Nat) (sp : Option Nat) (h : Heap) : aLoad CC 72 (.pointer (some ⟨b, p, sp⟩)) h = obind (rowAt h b) fun l => obind (take? l p 5) fun l => some (mkAgg l) := load_agg (by kernel_rfl) size_72 b p sp h
theorem fld_72_0 : CC.fieldAt 72 0 = some (0, 3, 1) := by kernel_rfl
theorem fv_72_0 (l : List Value) : aField CC 72 (.agg ⟨l⟩) 0 = obind l[0]? asVal := fval_one fld_72_0 (by kernel_rfl) l
theorem fp_72_0 (b p : Nat) (sp : Option Nat) : aFieldAddr CC 72 (.pointer (some ⟨b, p, sp⟩)) 0 = some (.val (.pointer (some ⟨b, p + 0, none⟩))) := fieldAddr_at fld_72_0 rfl b p sp
theorem fld_72_1 : CC.fieldAt 72 1 = some (1, 3, 1) := by kernel_rfl
theorem fv_72_1 (l : List Value) : aField CC 72 (.agg ⟨l⟩) 1 = obind l[1]? asVal := fval_one fld_72_1 (by kernel_rfl) l
theorem fp_72_1 (b p : Nat) (sp : Option Nat) : aFieldAddr CC 72 (.pointer (some ⟨b, p, sp⟩)) 1 = some (.val (.pointer (some ⟨b, p + 1, none⟩))) := fieldAddr_at fld_72_1 rfl b p sp
theorem fld_72_2 : CC.fieldAt 72 2 = some (2, 30, 2) := by kernel_rfl
theorem fv_72_2 (l : List Value) : aField CC 72 (.agg ⟨l⟩) 2 = obind (take? l 2 2) fun l => asVal (mkAgg l) := fval_agg fld_72_2 (by kernel_rfl) size_30 l
theorem fp_72_2 (b p : Nat) (sp : Option Nat) : aFieldAddr CC 72 (.pointer (some ⟨b, p, sp⟩)) 2 = some (.val (.pointer (some ⟨b, p + 2, none⟩))) := fieldAddr_at fld_72_2 rfl b p sp
theorem fld_72_3 : CC.fieldAt 72 3 = some (4, 3, 1) := by kernel_rfl
theorem fv_72_3 (l : List Value) : aField CC 72 (.agg ⟨l⟩) 3 = obind l[4]? asVal := fval_one fld_72_3 (by kernel_rfl) l
theorem fp_72_3 (b p : Nat) (sp : Option Nat) : aFieldAddr CC 72 (.pointer (some ⟨b, p, sp⟩)) 3 = some (.val (.pointer (some ⟨b, p + 4, none⟩))) := fieldAddr_at fld_72_3 rfl b p sp
theorem size_73 : CC.size 73 = some 1 := by kernel_rfl
theorem zero_73 : CC.zero 73 = some (.nilFunc) := by kernel_rfl
theorem part_73 (l : List Value) (p : Nat) : partOf CC 73 l p = l[p]? := part_one' (by kernel_rfl) l p
theorem ld_73 (b p : Nat) (sp : Option Nat) (h : Heap) : aLoad CC 73 (.pointer (some ⟨b, p, sp⟩)) h = obind (rowAt h b) fun l => l[p]? := load_one (by kernel_rfl) b p sp h
theorem size_74 : CC.size 74 = some 1 := by kernel_rfl
theorem zero_74 : CC.zero 74 = some (.nilFunc) := by kernel_rfl
theorem part_74 (l : List Value) (p : Nat) : partOf CC 74 l p = l[p]? := part_one' (by kernel_rfl) l p
theorem ld_74 (b p : Nat) (sp : Option Nat) (h : Heap) : aLoad CC 74 (.pointer (some ⟨b, p, sp⟩)) h = obind (rowAt h b) fun l => l[p]? := load_one (by kernel_rfl) b p sp h
theorem size_75 : CC.size 75 = some 1 := by kernel_rfl
theorem zero_75 : CC.zero 75 = some (.nilFunc) := by kernel_rfl
theorem part_75 (l : List Value) (p : Nat) : partOf CC 75 l p = l[p]? := part_one' (by kernel_rfl) l p
theorem ld_75 (b p : Nat) (sp : Option Nat) (h : Heap) : aLoad CC 75 (.pointer (some ⟨b, p, sp⟩)) h = obind (rowAt h b) fun l => l[p]? := load_one (by kernel_rfl) b p sp h
theorem size_76 : CC.size 76 = some 1 := by kernel_rfl
theorem zero_76 : CC.zero 76 = some (.nilFunc) := by kernel_rfl
theorem part_76 (l : List Value) (p : Nat) : partOf CC 76 l p = l[p]? := part_one' (by kernel_rfl) l p
theorem ld_76 (b p : Nat) (sp : Option Nat) (h : Heap) : aLoad CC 76 (.pointer (some ⟨b, p, sp⟩)) h = obind (rowAt h b) fun l => l[p]? := load_one (by kernel_rfl) b p sp h
theorem size_77 : CC.size 77 = some 1 := by kernel_rfl
theorem zero_77 : CC.zero 77 = some (.nilFunc) := by kernel_rfl
theorem part_77 (l : List Value) (p : Nat) : partOf CC 77 l p = l[p]? := part_one' (by kernel_rfl) l p
theorem ld_77 (b p : Nat) (sp : Option Nat) (h : Heap) : aLoad CC 77 (.pointer (some ⟨b, p, sp⟩)) h = obind (rowAt h b) fun l => l[p]? := load_one (by kernel_rfl) b p sp h
theorem size_78 : CC.size 78 = some 1 := by kernel_rfl
theorem zero_78 : CC.zero 78 = some (.nilFunc) := by kernel_rfl
theorem part_78 (l : List Value) (p : Nat) : partOf CC 78 l p = l[p]? := part_one' (by kernel_rfl) l p
theorem ld_78 (b p : Nat) (sp : Option Nat) (h : Heap) : aLoad CC 78 (.pointer (some ⟨b, p, sp⟩)) h = obind (rowAt h b) fun l => l[p]? := load_one (by kernel_rfl) b p sp h
theorem size_80 : CC.size 80 = some 1 := by kernel_rfl
theorem zero_80 : CC.zero 80 = some (.nilFunc) := by kernel_rfl
theorem part_80 (l : List Value) (p : Nat) : partOf CC 80 l p = l[p]? := part_one' (by kernel_rfl) l p
theorem ld_80 (b p : Nat) (sp : Option Nat) (h : Heap) : aLoad CC 80 (.pointer (some ⟨b, p, sp⟩)) h = obind (rowAt h b) fun l => l[p]? := load_one (by kernel_rfl) b p sp h
theorem size_82 : CC.size 82 = some 1 := by kernel_rfl
theorem zero_82 : CC.zero 82 = some (.nilFunc) := by kernel_rfl
theorem part_82 (l : List Value) (p : Nat) : partOf CC 82 l p = l[p]? := part_one' (by kernel_rfl) l p
theorem ld_82 (b p : Nat) (sp : Option Nat) (h : Heap) : aLoad CC 82 (.pointer (some ⟨b, p, sp⟩)) h = obind (rowAt h b) fun l => l[p]? := load_one (by kernel_rfl) b p sp h
theorem size_83 : CC.size 83 = some 1 := by kernel_rfl
theorem zero_83 : CC.zero 83 = some (.nilFunc) := by kernel_rfl
theorem part_83 (l : List Value) (p : Nat) : partOf CC 83 l p = l[p]? := part_one' (by kernel_rfl) l p
theorem ld_83 (b p : Nat) (sp : Option Nat) (h : Heap) : aLoad CC 83 (.pointer (some ⟨b, p, sp⟩)) h = obind (rowAt h b) fun l => l[p]? := load_one (by kernel_rfl) b p sp h
theorem size_84 : CC.size 84 = some 1 := by kernel_rfl
theorem zero_84 : CC.zero 84 = some (.nilFunc) := by kernel_rfl
theorem part_84 (l : List Value) (p : Nat) : partOf CC 84 l p = l[p]? := part_one' (by kernel_rfl) l p
theorem ld_84 (b p : Nat) (sp : Option Nat) (h : Heap) : aLoad CC 84 (.pointer (some ⟨b, p, sp⟩)) h = obind (rowAt h b) fun l => l[p]? := load_one (by kernel_rfl) b p sp h
theorem size_86 : CC.size 86 = some 1 := by kernel_rfl
theorem zero_86 : CC.zero 86 = some (.nilFunc) := by kernel_rfl
theorem part_86 (l : List Value) (p : Nat) : partOf CC 86 l p = l[p]? := part_one' (by kernel_rfl) l p
theorem ld_86 (b p : Nat) (sp : Option Nat) (h : Heap) : aLoad CC 86 (.pointer (some ⟨b, p, sp⟩)) h = obind (rowAt h b) fun l => l[p]? := load_one (by kernel_rfl) b p sp h
theorem size_87 : CC.size 87 = some 1 := by kernel_rfl
theorem zero_87 : CC.zero 87 = some (.nilFunc) := by kernel_rfl
theorem part_87 (l : List Value) (p : Nat) : partOf CC 87 l p = l[p]? := part_one' (by kernel_rfl) l p
theorem ld_87 (b p : Nat) (sp : Option Nat) (h : Heap) : aLoad CC 87 (.pointer (some ⟨b, p, sp⟩)) h = obind (rowAt h b) fun l => l[p]? := load_one (by kernel_rfl) b p sp h
theorem size_88 : CC.size 88 = some 1 := by kernel_rfl
theorem zero_88 : CC.zero 88 = some (.slice none 0 0) := by kernel_rfl
theorem und_88 : CC.und 88 = some (.slice 5) := by kernel_rfl
theorem part_88 (l : List Value) (p : Nat) : partOf CC 88 l p = l[p]? := part_one' (by kernel_rfl) l p
theorem ld_88 (b p : Nat) (sp : Option Nat) (h : Heap) : aLoad CC 88 (.pointer (some ⟨b, p, sp⟩)) h = obind (rowAt h b) fun l => l[p]? := load_one (by kernel_rfl) b p sp h
theorem len_88 (p : Option Addr) (n m : Nat) (h : Heap) : aLen CC 88 (.slice p n m) h = some (.int .i64 n) := M_len_slice CC 88 h p n m _ und_88
theorem size_89 : CC.size 89 = some 1 := by kernel_rfl
theorem zero_89 : CC.zero 89 = some (.nilFunc) := by kernel_rfl
theorem part_89 (l : List Value) (p : Nat) : partOf CC 89 l p = l[p]? := part_one' (by kernel_rfl) l p
theorem ld_89 (b p : Nat) (sp : Option Nat) (h : Heap) : aLoad CC 89 (.pointer (some ⟨b, p, sp⟩)) h = obind (rowAt h b) fun l => l[p]? := load_one (by kernel_rfl) b p sp h
theorem size_91 : CC.size 91 = some 1 := by kernel_rfl
theorem zero_91 : CC.zero 91 = some (.nilFunc) := by kernel_rfl
theorem part_91 (l : List Value) (p : Nat) : partOf CC 91 l p = l[p]? := part_one' (by kernel_rfl) l p
theorem ld_91 (b p : Nat) (sp : Option Nat) (h : Heap) : aLoad CC 91 (.pointer (some ⟨b, p, sp⟩)) h = obind (rowAt h b) fun l => l[p]? := load_one (by kernel_rfl) b p sp h
theorem size_92 : CC.size 92 = some 1 := by kernel_rfl
theorem zero_92 : CC.zero 92 = some (.map none) := by kernel_rfl
theorem und_92 : CC.und 92 = some (.map 154 3) := by kernel_rfl
theorem part_92 (l : List Value) (p : Nat) : partOf CC 92 l p = l[p]? := part_one' (by kernel_rfl) l p
theorem ld_92 (b p : Nat) (sp : Option Nat) (h : Heap) : aLoad CC 92 (.pointer (some ⟨b, p, sp⟩)) h = obind (rowAt h b) fun l => l[p]? := load_one (by kernel_rfl) b p sp h
theorem size_93 : CC.size 93 = some 5 := by kernel_rfl
theorem zero_93 : CC.zero 93 = some (.agg ⟨[.slice none 0 0, .slice none 0 0, .slice none 0 0, .slice none 0 0, .map none]⟩) := by kernel_rfl
theorem part_93 (l : List Value) (p : Nat) : partOf CC 93 l p = obind (take? l p 5) fun l => some (mkAgg l) := part_agg' (by kernel_rfl) size_93 l p
theorem ld_93 (b p : Nat) (sp : Option Nat) (h : Heap) : aLoad CC 93 (.pointer (some ⟨b, p, sp⟩)) h = obind (rowAt h b) fun l => obind (take? l p 5) fun l => some (mkAgg l) := load_agg (by kernel_rfl) size_93 b p sp h
theorem fld_93_0 : CC.fieldAt 93 0 = some (0, 26, 3) := by kernel_rfl
theorem fv_93_0 (l : List Value) : aField CC 93 (.agg ⟨l⟩) 0 = obind (take? l 0 3) fun l => asVal (mkAgg l) := fval_agg fld_93_0 (by kernel_rfl) size_26 l
theorem fp_93_0 (b p : Nat) (sp : Option Nat) : aFieldAddr CC 93 (.pointer (some ⟨b, p, sp⟩)) 0 = some (.val (.pointer (some ⟨b, p + 0, none⟩))) := fieldAddr_at fld_93_0 rfl b p sp
theorem fld_93_1 : CC.fieldAt 93 1 = some (3, 22, 1) := by kernel_rfl
theorem fv_93_1 (l : List Value) : aField CC 93 (.agg ⟨l⟩) 1 = obind l[3]? asVal := fval_one fld_93_1 (by kernel_rfl) l
theorem fp_93_1 (b p : Nat) (sp : Option Nat) : aFieldAddr CC 93 (.pointer (some ⟨b, p, sp⟩)) 1 = some (.val (.pointer (some ⟨b, p + 3, none⟩))) := fieldAddr_at fld_93_1 rfl b p sp
theorem fld_93_2 : CC.fieldAt 93 2 = some (4, 92, 1) := by kernel_rfl
theorem fv_93_2 (l : List Value) : aField CC 93 (.agg ⟨l⟩) 2 = obind l[4]? asVal := fval_one fld_93_2 (by kernel_rfl) l
theorem fp_93_2 (b p : Nat) (sp : Option Nat) : aFieldAddr CC 93 (.pointer (some ⟨b, p, sp⟩)) 2 = some (.val (.pointer (some ⟨b, p + 4, none⟩))) := fieldAddr_at fld_93_2 rfl b p sp
theorem size_94 : CC.size 94 = some 5 := by kernel_rfl
theorem zero_94 : CC.zero 94 = some (.agg ⟨[.slice none 0 0, .slice none 0 0, .slice none 0 0, .slice none 0 0, .map none]⟩) := by kernel_rfl
theorem part_94 (l : List Value) (p : Nat) : partOf CC 94 l p = obind (take? l p 5) fun l => some (mkAgg l) := part_agg' (by kernel_rfl) size_94 l p
theorem ld_94 (b p : Nat) (sp : Option Nat) (h : Heap) : aLoad CC 94 (.pointer (some ⟨b, p, sp⟩)) h = obind (rowAt h b) fun l => obind (take? l p 5) fun l => some (mkAgg l) := load_agg (by kernel_rfl) size_94 b p sp h
theorem fld_94_0 : CC.fieldAt 94 0 = some (0, 26, 3) := by kernel_rfl
theorem fv_94_0 (l : List Value) : aField CC 94 (.agg ⟨l⟩) 0 = obind (take? l 0 3) fun l => asVal (mkAgg l) := fval_agg fld_94_0 (by kernel_rfl) size_26 l
theorem fp_94_0 (b p : Nat) (sp : Option Nat) : aFieldAddr CC 94 (.pointer (some ⟨b, p, sp⟩)) 0 = some (.val (.pointer (some ⟨b, p + 0, none⟩))) := fieldAddr_at fld_94_0 rfl b p sp
theorem fld_94_1 : CC.fieldAt 94 1 = some (3, 22, 1) := by kernel_rfl
theorem fv_94_1 (l : List Value) : aField CC 94 (.agg ⟨l⟩) 1 = obind l[3]? asVal := fval_one fld_94_1 (by kernel_rfl) l
theorem fp_94_1 (b p : Nat) (sp : Option Nat) : aFieldAddr CC 94 (.pointer (some ⟨b, p, sp⟩)) 1 = some (.val (.pointer (some ⟨b, p + 3, none⟩))) := fieldAddr_at fld_94_1 rfl b p sp
theorem fld_94_2 : CC.fieldAt 94 2 = some (4, 92, 1) := by kernel_rfl
theorem fv_94_2 (l : List Value) : aField CC 94 (.agg ⟨l⟩) 2 = obind l[4]? asVal := fval_one fld_94_2 (by kernel_rfl) l
theorem fp_94_2 (b p : Nat) (sp : Option Nat) : aFieldAddr CC 94 (.pointer (some ⟨b, p, sp⟩)) 2 = some (.val (.pointer (some ⟨b, p + 4, none⟩))) := fieldAddr_at fld_94_2 rfl b p sp
theorem size_95 : CC.size 95 = some 1 := by kernel_rfl
theorem zero_95 : CC.zero 95 = some (.nilFunc) := by kernel_rfl
theorem part_95 (l : List Value) (p : Nat) : partOf CC 95 l p = l[p]? := part_one' (by kernel_rfl) l p
theorem ld_95 (b p : Nat) (sp : Option Nat) (h : Heap) : aLoad CC 95 (.pointer (some ⟨b, p, sp⟩)) h = obind (rowAt h b) fun l => l[p]? := load_one (by kernel_rfl) b p sp h
theorem size_96 : CC.size 96 = some 1 := by kernel_rfl
theorem zero_96 : CC.zero 96 = some (.nilFunc) := by kernel_rfl
theorem part_96 (l : List Value) (p : Nat) : partOf CC 96 l p = l[p]? := part_one' (by kernel_rfl) l p
theorem ld_96 (b p : Nat) (sp : Option Nat) (h : Heap) : aLoad CC 96 (.pointer (some ⟨b, p, sp⟩)) h = obind (rowAt h b) fun l => l[p]? := load_one (by kernel_rfl) b p sp h
theorem size_97 : CC.size 97 = some 1 := by kernel_rfl
theorem zero_97 : CC.zero 97 = some (.nilFunc) := by kernel_rfl
theorem part_97 (l : List Value) (p : Nat) : partOf CC 97 l p = l[p]? := part_one' (by kernel_rfl) l p
theorem ld_97 (b p : Nat) (sp : Option Nat) (h : Heap) : aLoad CC 97 (.pointer (some ⟨b, p, sp⟩)) h = obind (rowAt h b) fun l => l[p]? := load_one (by kernel_rfl) b p sp h
theorem size_98 : CC.size 98 = some 1 := by kernel_rfl
theorem zero_98 : CC.zero 98 = some (.nilFunc) := by kernel_rfl
theorem part_98 (l : List Value) (p : Nat) : partOf CC 98 l p = l[p]? := part_one' (by kernel_rfl) l p
theorem ld_98 (b p : Nat) (sp : Option Nat) (h : Heap) : aLoad CC 98 (.pointer (some ⟨b, p, sp⟩)) h = obind (rowAt h b) fun l => l[p]? := load_one (by kernel_rfl) b p sp h
theorem size_99 : CC.size 99 = some 1 := by kernel_rfl
theorem zero_99 : CC.zero 99 = some (.nilFunc) := by kernel_rfl
theorem part_99 (l : List Value) (p : Nat) : partOf CC 99 l p = l[p]? := part_one' (by kernel_rfl) l p
theorem ld_99 (b p : Nat) (sp : Option Nat) (h : Heap) : aLoad CC 99 (.pointer (some ⟨b, p, sp⟩)) h = obind (rowAt h b) fun l => l[p]? := load_one (by kernel_rfl) b p sp h
theorem size_100 : CC.size 100 = some 1 := by kernel_rfl
theorem zero_100 : CC.zero 100 = some (.nilFunc) := by kernel_rfl
theorem part_100 (l : List Value) (p : Nat) : partOf CC 100 l p = l[p]? := part_one' (by kernel_rfl) l p
theorem ld_100 (b p : Nat) (sp : Option Nat) (h : Heap) : aLoad CC 100 (.pointer (some ⟨b, p, sp⟩)) h = obind (rowAt h b) fun l => l[p]? := load_one (by kernel_rfl) b p sp h
theorem size_101 : CC.size 101 = some 1 := by kernel_rfl
theorem zero_101 : CC.zero 101 = some (.nilFunc) := by kernel_rfl
theorem part_101 (l : List Value) (p : Nat) : partOf CC 101 l p = l[p]? := part_one' (by kernel_rfl) l p
theorem ld_101 (b p : Nat) (sp : Option Nat) (h : Heap) : aLoad CC 101 (.pointer (some ⟨b, p, sp⟩)) h = obind (rowAt h b) fun l => l[p]? := load_one (by kernel_rfl) b p sp h
theorem size_102 : CC.size 102 = some 1 := by kernel_rfl
theorem zero_102 : CC.zero 102 = some (.nilFunc) := by kernel_rfl
theorem part_102 (l : List Value) (p : Nat) : partOf CC 102 l p = l[p]? := part_one' (by kernel_rfl) l p
theorem ld_102 (b p : Nat) (sp : Option Nat) (h : Heap) : aLoad CC 102 (.pointer (some ⟨b, p, sp⟩)) h = obind (rowAt h b) fun l => l[p]? := load_one (by kernel_rfl) b p sp h
theorem size_103 : CC.size 103 = some 1 := by kernel_rfl
theorem zero_103 : CC.zero 103 = some (.nilFunc) := by kernel_rfl
theorem part_103 (l : List Value) (p : Nat) : partOf CC 103 l p = l[p]? := part_one' (by kernel_rfl) l p
theorem ld_103 (b p : Nat) (sp : Option Nat) (h : Heap) : aLoad CC 103 (.pointer (some ⟨b, p, sp⟩)) h = obind (rowAt h b) fun l => l[p]? := load_one (by kernel_rfl) b p sp h
theorem size_104 : CC.size 104 = some 1 := by kernel_rfl
theorem zero_104 : CC.zero 104 = some (.nilFunc) := by kernel_rfl
theorem part_104 (l : List Value) (p : Nat) : partOf CC 104 l p = l[p]? := part_one' (by kernel_rfl) l p
theorem ld_104 (b p : Nat) (sp : Option Nat) (h : Heap) : aLoad CC 104 (.pointer (some ⟨b, p, sp⟩)) h = obind (rowAt h b) fun l => l[p]? := load_one (by kernel_rfl) b p sp h
theorem size_105 : CC.size 105 = some 1 := by kernel_rfl
theorem zero_105 : CC.zero 105 = some (.nilFunc) := by kernel_rfl
theorem part_105 (l : List Value) (p : Nat) : partOf CC 105 l p = l[p]? := part_one' (by kernel_rfl) l p
theorem ld_105 (b p : Nat) (sp : Option Nat) (h : Heap) : aLoad CC 105 (.pointer (some ⟨b, p, sp⟩)) h = obind (rowAt h b) fun l => l[p]? := load_one (by kernel_rfl) b p sp h
theorem size_106 : CC.size 106 = some 1 := by kernel_rfl
theorem zero_106 : CC.zero 106 = some (.agg ⟨[.int .i64 0]⟩) := by kernel_rfl
theorem part_106 (l : List Value) (p : Nat) : partOf CC 106 l p = obind (take? l p 1) fun l => some (mkAgg l) := part_agg' (by kernel_rfl) size_106 l p
theorem ld_106 (b p : Nat) (sp : Option Nat) (h : Heap) : aLoad CC 106 (.pointer (some ⟨b, p, sp⟩)) h = obind (rowAt h b) fun l => obind (take? l p 1) fun l => some (mkAgg l) := load_agg (by kernel_rfl) size_106 b p sp h
theorem fld_106_0 : CC.fieldAt 106 0 = some (0, 3, 1) := by kernel_rfl
theorem fv_106_0 (l : List Value) : aField CC 106 (.agg ⟨l⟩) 0 = obind l[0]? asVal := fval_one fld_106_0 (by kernel_rfl) l
theorem fp_106_0 (b p : Nat) (sp : Option Nat) : aFieldAddr CC 106 (.pointer (some ⟨b, p, sp⟩)) 0 = some (.val (.pointer (some ⟨b, p + 0, none⟩))) := fieldAddr_at fld_106_0 rfl b p sp
theorem size_107 : CC.size 107 = some 1 := by kernel_rfl
theorem zero_107 : CC.zero 107 = some (.agg ⟨[.int .i64 0]⟩) := by kernel_rfl
theorem part_107 (l : List Value) (p : Nat) : partOf CC 107 l p = obind (take? l p 1) fun l => some (mkAgg l) := part_agg' (by kernel_rfl) size_107 l p
theorem ld_107 (b p : Nat) (sp : Option Nat) (h : Heap) : aLoad CC 107 (.pointer (some ⟨b, p, sp⟩)) h = obind (rowAt h b) fun l => obind (take? l p 1) fun l => some (mkAgg l) := load_agg (by kernel_rfl) size_107 b p sp h
theorem fld_107_0 : CC.fieldAt 107 0 = some (0, 3, 1) := by kernel_rfl
theorem fv_107_0 (l : List Value) : aField CC 107 (.agg ⟨l⟩) 0 = obind l[0]? asVal := fval_one fld_107_0 (by kernel_rfl) l
theorem fp_107_0 (b p : Nat) (sp : Option Nat) : aFieldAddr CC 107 (.pointer (some ⟨b, p, sp⟩)) 0 = some (.val (.pointer (some ⟨b, p + 0, none⟩))) := fieldAddr_at fld_107_0 rfl b p sp
theorem size_108 : CC.size 108 = some 1 := by kernel_rfl
theorem zero_108 : CC.zero 108 = some (.slice none 0 0) := by kernel_rfl
theorem und_108 : CC.und 108 = some (.slice 110) := by kernel_rfl
theorem part_108 (l : List Value) (p : Nat) : partOf CC 108 l p = l[p]? := part_one' (by kernel_rfl) l p
theorem ld_108 (b p : Nat) (sp : Option Nat) (h : Heap) : aLoad CC 108 (.pointer (some ⟨b, p, sp⟩)) h = obind (rowAt h b) fun l => l[p]? := load_one (by kernel_rfl) b p sp h
theorem len_108 (p : Option Addr) (n m : Nat) (h : Heap) : aLen CC 108 (.slice p n m) h = some (.int .i64 n) := M_len_slice CC 108 h p n m _ und_108
theorem size_109 : CC.size 109 = some 2 := by kernel_rfl
theorem zero_109 : CC.zero 109 = some (.agg ⟨[.int .i64 0, .int .i64 0]⟩) := by kernel_rfl
theorem part_109 (l : List Value) (p : Nat) : partOf CC 109 l p = obind (take? l p 2) fun l => some (mkAgg l) := part_agg' (by kernel_rfl) size_109 l p
theorem ld_109 (b p : Nat) (sp : Option Nat) (h : Heap) : aLoad CC 109 (.pointer (some ⟨b, p, sp⟩)) h = obind (rowAt h b) fun l => obind (take? l p 2) fun l => some (mkAgg l) := load_agg (by kernel_rfl) size_109 b p sp h
theorem fld_109_0 : CC.fieldAt 109 0 = some (0, 3, 1) := by kernel_rfl
theorem fv_109_0 (l : List Value) : aField CC 109 (.agg ⟨l⟩) 0 = obind l[0]? asVal := fval_one fld_109_0 (by kernel_rfl) l
theorem fp_109_0 (b p : Nat) (sp : Option Nat) : aFieldAddr CC 109 (.pointer (some ⟨b, p, sp⟩)) 0 = some (.val (.pointer (some ⟨b, p + 0, none⟩))) := fieldAddr_at fld_109_0 rfl b p sp
theorem fld_109_1 : CC.fieldAt 109 1 = some (1, 3, 1) := by kernel_rfl
theorem fv_109_1 (l : List Value) : aField CC 109 (.agg ⟨l⟩) 1 = obind l[1]? asVal := fval_one fld_109_1 (by kernel_rfl) l
theorem fp_109_1 (b p : Nat) (sp : Option Nat) : aFieldAddr CC 109 (.pointer (some ⟨b, p, sp⟩)) 1 = some (.val (.pointer (some ⟨b, p + 1, none⟩))) := fieldAddr_at fld_109_1 rfl b p sp
theorem size_110 : CC.size 110 = some 2 := by kernel_rfl
theorem zero_110 : CC.zero 110 = some (.agg ⟨[.int .i64 0, .int .i64 0]⟩) := by kernel_rfl
theorem part_110 (l : List Value) (p : Nat) : partOf CC 110 l p = obind (take? l p 2) fun l => some (mkAgg l) := part_agg' (by kernel_rfl) size_110 l p
theorem ld_110 (b p : Nat) (sp : Option Nat) (h : Heap) : aLoad CC 110 (.pointer (some ⟨b, p, sp⟩)) h = obind (rowAt h b) fun l => obind (take? l p 2) fun l => some (mkAgg l) := load_agg (by kernel_rfl) size_110 b p sp h
theorem fld_110_0 : CC.fieldAt 110 0 = some (0, 3, 1) := by kernel_rfl
theorem fv_110_0 (l : List Value) : aField CC 110 (.agg ⟨l⟩) 0 = obind l[0]? asVal := fval_one fld_110_0 (by kernel_rfl) l
theorem fp_110_0 (b p : Nat) (sp : Option Nat) : aFieldAddr CC 110 (.pointer (some ⟨b, p, sp⟩)) 0 = some (.val (.pointer (some ⟨b, p + 0, none⟩))) := fieldAddr_at fld_110_0 rfl b p sp
theorem fld_110_1 : CC.fieldAt 110 1 = some (1, 3, 1) := by kernel_rfl
theorem fv_110_1 (l : List Value) : aField CC 110 (.agg ⟨l⟩) 1 = obind l[1]? asVal := fval_one fld_110_1 (by kernel_rfl) l
theorem fp_110_1 (b p : Nat) (sp : Option Nat) : aFieldAddr CC 110 (.pointer (some ⟨b, p, sp⟩)) 1 = some (.val (.pointer (some ⟨b, p + 1, none⟩))) := fieldAddr_at fld_110_1 rfl b p sp
theorem size_111 : CC.size 111 = some 1 := by kernel_rfl
theorem zero_111 : CC.zero 111 = some (.nilFunc) := by kernel_rfl
theorem part_111 (l : List Value) (p : Nat) : partOf CC 111 l p = l[p]? := part_one' (by kernel_rfl) l p
theorem ld_111 (b p : Nat) (sp : Option Nat) (h : Heap) : aLoad CC 111 (.pointer (some ⟨b, p, sp⟩)) h = obind (rowAt h b) fun l => l[p]? := load_one (by kernel_rfl) b p sp h
theorem size_112 : CC.size 112 = some 1 := by kernel_rfl
theorem zero_112 : CC.zero 112 = some (.nilFunc) := by kernel_rfl
theorem part_112 (l : List Value) (p : Nat) : partOf CC 112 l p = l[p]? := part_one' (by kernel_rfl) l p
theorem ld_112 (b p : Nat) (sp : Option Nat) (h : Heap) : aLoad CC 112 (.pointer (some ⟨b, p, sp⟩)) h = obind (rowAt h b) fun l => l[p]? := load_one (by kernel_rfl) b p sp h
theorem size_113 : CC.size 113 = some 2 := by kernel_rfl
theorem zero_113 : CC.zero 113 = some (.agg ⟨[.int .i64 0, .int .i64 0]⟩) := by kernel_rfl
theorem und_113 : CC.und 113 = some (.array 2 3) := by kernel_rfl
theorem part_113 (l : List Value) (p : Nat) : partOf CC 113 l p = obind (take? l p 2) fun l => some (mkAgg l) := part_agg' (by kernel_rfl) size_113 l p
theorem ld_113 (b p : Nat) (sp : Option Nat) (h : Heap) : aLoad CC 113 (.pointer (some ⟨b, p, sp⟩)) h = obind (rowAt h b) fun l => obind (take? l p 2) fun l => some (mkAgg l) := load_agg (by kernel_rfl) size_113 b p sp h
theorem size_114 : CC.size 114 = some 1 := by kernel_rfl
theorem zero_114 : CC.zero 114 = some (.nilFunc) := by kernel_rfl
theorem part_114 (l : List Value) (p : Nat) : partOf CC 114 l p = l[p]? := part_one' (by kernel_rfl) l p
theorem ld_114 (b p : Nat) (sp : Option Nat) (h : Heap) : aLoad CC 114 (.pointer (some ⟨b, p, sp⟩)) h = obind (rowAt h b) fun l => l[p]? := load_one (by kernel_rfl) b p sp h
theorem size_115 : CC.size 115 = some 1 := by kernel_rfl
theorem zero_115 : CC.zero 115 = some (.nilFunc) := by kernel_rfl
theorem part_115 (l : List Value) (p : Nat) : partOf CC 115 l p = l[p]? := part_one' (by kernel_rfl) l p
theorem ld_115 (b p : Nat) (sp : Option Nat) (h : Heap) : aLoad CC 115 (.pointer (some ⟨b, p, sp⟩)) h = obind (rowAt h b) fun l => l[p]? := load_one (by kernel_rfl) b p sp h
theorem size_116 : CC.size 116 = some 1 := by kernel_rfl
theorem zero_116 : CC.zero 116 = some (.nilFunc) := by kernel_rfl
theorem part_116 (l : List Value) (p : Nat) : partOf CC 116 l p = l[p]? := part_one' (by kernel_rfl) l p
theorem ld_116 (b p : Nat) (sp : Option Nat) (h : Heap) : aLoad CC 116 (.pointer (some ⟨b, p, sp⟩)) h = obind (rowAt h b) fun l => l[p]? := load_one (by kernel_rfl) b p sp h
theorem size_117 : CC.size 117 = some 1 := by kernel_rfl
theorem zero_117 : CC.zero 117 = some (.slice none 0 0) := by kernel_rfl
theorem und_117 : CC.und 117 = some (.slice 9) := by kernel_rfl
theorem part_117 (l : List Value) (p : Nat) : partOf CC 117 l p = l[p]? := part_one' (by kernel_rfl) l p
theorem ld_117 (b p : Nat) (sp : Option Nat) (h : Heap) : aLoad CC 117 (.pointer (some ⟨b, p, sp⟩)) h = obind (rowAt h b) fun l => l[p]? := load_one (by kernel_rfl) b p sp h
theorem len_117 (p : Option Addr) (n m : Nat) (h : Heap) : aLen CC 117 (.slice p n m) h = some (.int .i64 n) := M_len_slice CC 117 h p n m _ und_117
theorem size_118 : CC.size 118 = some 1 := by kernel_rfl
theorem zero_118 : CC.zero 118 = some (.nilFunc) := by kernel_rfl
theorem part_118 (l : List Value) (p : Nat) : partOf CC 118 l p = l[p]? := part_one' (by kernel_rfl) l p
theorem ld_118 (b p : Nat) (sp : Option Nat) (h : Heap) : aLoad CC 118 (.pointer (some ⟨b, p, sp⟩)) h = obind (rowAt h b) fun l => l[p]? := load_one (by kernel_rfl) b p sp h
theorem size_119 : CC.size 119 = some 1 := by kernel_rfl
theorem zero_119 : CC.zero 119 = some (.nilFunc) := by kernel_rfl
theorem part_119 (l : List Value) (p : Nat) : partOf CC 119 l p = l[p]? := part_one' (by kernel_rfl) l p
theorem ld_119 (b p : Nat) (sp : Option Nat) (h : Heap) : aLoad CC 119 (.pointer (some ⟨b, p, sp⟩)) h = obind (rowAt h b) fun l => l[p]? := load_one (by kernel_rfl) b p sp h
theorem size_120 : CC.size 120 = some 1 := by kernel_rfl
theorem zero_120 : CC.zero 120 = some (.nilFunc) := by kernel_rfl
theorem part_120 (l : List Value) (p : Nat) : partOf CC 120 l p = l[p]? := part_one' (by kernel_rfl) l p
theorem ld_120 (b p : Nat) (sp : Option Nat) (h : Heap) : aLoad CC 120 (.pointer (some ⟨b, p, sp⟩)) h = obind (rowAt h b) fun l => l[p]? := load_one (by kernel_rfl) b p sp h
theorem size_121 : CC.size 121 = some 1 := by kernel_rfl
theorem zero_121 : CC.zero 121 = some (.nilFunc) := by kernel_rfl
theorem part_121 (l : List Value) (p : Nat) : partOf CC 121 l p = l[p]? := part_one' (by kernel_rfl) l p
theorem ld_121 (b p : Nat) (sp : Option Nat) (h : Heap) : aLoad CC 121 (.pointer (some ⟨b, p, sp⟩)) h = obind (rowAt h b) fun l => l[p]? := load_one (by kernel_rfl) b p sp h
theorem size_123 : CC.size 123 = some 1 := by kernel_rfl
theorem zero_123 : CC.zero 123 = some (.nilFunc) := by kernel_rfl
theorem part_123 (l : List Value) (p : Nat) : partOf CC 123 l p = l[p]? := part_one' (by kernel_rfl) l p
theorem ld_123 (b p : Nat) (sp : Option Nat) (h : Heap) : aLoad CC 123 (.pointer (some ⟨b, p, sp⟩)) h = obind (rowAt h b) fun l => l[p]? := load_one (by kernel_rfl) b p sp h
theorem size_125 : CC.size 125 = some 1 := by kernel_rfl
theorem zero_125 : CC.zero 125 = some (.nilFunc) := by kernel_rfl
theorem part_125 (l : List Value) (p : Nat) : partOf CC 125 l p = l[p]? := part_one' (by kernel_rfl) l p
theorem ld_125 (b p : Nat) (sp : Option Nat) (h : Heap) : aLoad CC 125 (.pointer (some ⟨b, p, sp⟩)) h = obind (rowAt h b) fun l => l[p]? := load_one (by kernel_rfl) b p sp h
theorem size_126 : CC.size 126 = some 1 := by kernel_rfl
theorem zero_126 : CC.zero 126 = some (.nilFunc) := by kernel_rfl
theorem part_126 (l : List Value) (p : Nat) : partOf CC 126 l p = l[p]? := part_one' (by kernel_rfl) l p
theorem ld_126 (b p : Nat) (sp : Option Nat) (h : Heap) : aLoad CC 126 (.pointer (some ⟨b, p, sp⟩)) h = obind (rowAt h b) fun l => l[p]? := load_one (by kernel_rfl) b p sp h
theorem size_127 : CC.size 127 = some 1 := by kernel_rfl
theorem zero_127 : CC.zero 127 = some (.nilFunc) := by kernel_rfl
theorem part_127 (l : List Value) (p : Nat) : partOf CC 127 l p = l[p]? := part_one' (by kernel_rfl) l p
theorem ld_127 (b p : Nat) (sp : Option Nat) (h : Heap) : aLoad CC 127 (.pointer (some ⟨b, p, sp⟩)) h = obind (rowAt h b) fun l => l[p]? := load_one (by kernel_rfl) b p sp h
theorem size_128 : CC.size 128 = some 1 := by kernel_rfl
theorem zero_128 : CC.zero 128 = some (.agg ⟨[.string ⟨⟨[]⟩⟩]⟩) := by kernel_rfl
theorem part_128 (l : List Value) (p : Nat) : partOf CC 128 l p = obind (take? l p 1) fun l => some (mkAgg l) := part_agg' (by kernel_rfl) size_128 l p
theorem ld_128 (b p : Nat) (sp : Option Nat) (h : Heap) : aLoad CC 128 (.pointer (some ⟨b, p, sp⟩)) h = obind (rowAt h b) fun l => obind (take? l p 1) fun l => some (mkAgg l) := load_agg (by kernel_rfl) size_128 b p sp h
theorem fld_128_0 : CC.fieldAt 128 0 = some (0, 9, 1) := by kernel_rfl
theorem fv_128_0 (l : List Value) : aField CC 128 (.agg ⟨l⟩) 0 = obind l[0]? asVal := fval_one fld_128_0 (by kernel_rfl) l
theorem fp_128_0 (b p : Nat) (sp : Option Nat) : aFieldAddr CC 128 (.pointer (some ⟨b, p, sp⟩)) 0 = some (.val (.pointer (some ⟨b, p + 0, none⟩))) := fieldAddr_at fld_128_0 rfl b p sp
theorem size_129 : CC.size 129 = some 1 := by kernel_rfl
theorem zero_129 : CC.zero 129 = some (.agg ⟨[.string ⟨⟨[]⟩⟩]⟩) := by kernel_rfl
theorem part_129 (l : List Value) (p : Nat) : partOf CC 129 l p = obind (take? l p 1) fun l => some (mkAgg l) := part_agg' (by kernel_rfl) size_129 l p
theorem ld_129 (b p : Nat) (sp : Option Nat) (h : Heap) : aLoad CC 129 (.pointer (some ⟨b, p, sp⟩)) h = obind (rowAt h b) fun l => obind (take? l p 1) fun l => some (mkAgg l) := load_agg (by kernel_rfl) size_129 b p sp h
theorem fld_129_0 : CC.fieldAt 129 0 = some (0, 9, 1) := by kernel_rfl
theorem fv_129_0 (l : List Value) : aField CC 129 (.agg ⟨l⟩) 0 = obind l[0]? asVal := fval_one fld_129_0 (by kernel_rfl) l
theorem fp_129_0 (b p : Nat) (sp : Option Nat) : aFieldAddr CC 129 (.pointer (some ⟨b, p, sp⟩)) 0 = some (.val (.pointer (some ⟨b, p + 0, none⟩))) := fieldAddr_at fld_129_0 rfl b p sp
theorem size_130 : CC.size 130 = some 1 := by kernel_rfl
theorem zero_130 : CC.zero 130 = some (.nilFunc) := by kernel_rfl
theorem part_130 (l : List Value) (p : Nat) : partOf CC 130 l p = l[p]? := part_one' (by kernel_rfl) l p
theorem ld_130 (b p : Nat) (sp : Option Nat) (h : Heap) : aLoad CC 130 (.pointer (some ⟨b, p, sp⟩)) h = obind (rowAt h b) fun l => l[p]? := load_one (by kernel_rfl) b p sp h
theorem size_131 : CC.size 131 = some 1 := by kernel_rfl
theorem zero_131 : CC.zero 131 = some (.nilFunc) := by kernel_rfl
theorem part_131 (l : List Value) (p : Nat) : partOf CC 131 l p = l[p]? := part_one' (by kernel_rfl) l p
theorem ld_131 (b p : Nat) (sp : Option Nat) (h : Heap) : aLoad CC 131 (.pointer (some ⟨b, p, sp⟩)) h = obind (rowAt h b) fun l => l[p]? := load_one (by kernel_rfl) b p sp h
theorem size_132 : CC.size 132 = some 1 := by kernel_rfl
theorem zero_132 : CC.zero 132 = some (.nilFunc) := by kernel_rfl
theorem part_132 (l : List Value) (p : Nat) : partOf CC 132 l p = l[p]? := part_one' (by kernel_rfl) l p
theorem ld_132 (b p : Nat) (sp : Option Nat) (h : Heap) : aLoad CC 132 (.pointer (some ⟨b, p, sp⟩)) h = obind (rowAt h b) fun l => l[p]? := load_one (by kernel_rfl) b p sp h
theorem size_133 : CC.size 133 = some 1 := by kernel_rfl
theorem zero_133 : CC.zero 133 = some (.nilFunc) := by kernel_rfl
theorem part_133 (l : List Value) (p : Nat) : partOf CC 133 l p = l[p]? := part_one' (by kernel_rfl) l p
theorem ld_133 (b p : Nat) (sp : Option Nat) (h : Heap) : aLoad CC 133 (.pointer (some ⟨b, p, sp⟩)) h = obind (rowAt h b) fun l => l[p]? := load_one (by kernel_rfl) b p sp h
theorem size_134 : CC.size 134 = some 1 := by kernel_rfl
theorem zero_134 : CC.zero 134 = some (.nilFunc) := by kernel_rfl
theorem part_134 (l : List Value) (p : Nat) : partOf CC 134 l p = l[p]? := part_one' (by kernel_rfl) l p
theorem ld_134 (b p : Nat) (sp : Option Nat) (h : Heap) : aLoad CC 134 (.pointer (some ⟨b, p, sp⟩)) h = obind (rowAt h b) fun l => l[p]? := load_one (by kernel_rfl) b p sp h
theorem size_135 : CC.size 135 = some 1 := by kernel_rfl
theorem zero_135 : CC.zero 135 = some (.nilFunc) := by kernel_rfl
theorem part_135 (l : List Value) (p : Nat) : partOf CC 135 l p = l[p]? := part_one' (by kernel_rfl) l p
theorem ld_135 (b p : Nat) (sp : Option Nat) (h : Heap) : aLoad CC 135 (.pointer (some ⟨b, p, sp⟩)) h = obind (rowAt h b) fun l => l[p]? := load_one (by kernel_rfl) b p sp h
theorem size_136 : CC.size 136 = some 1 := by kernel_rfl
theorem zero_136 : CC.zero 136 = some (.nilFunc) := by kernel_rfl
theorem part_136 (l : List Value) (p : Nat) : partOf CC 136 l p = l[p]? := part_one' (by kernel_rfl) l p
theorem ld_136 (b p : Nat) (sp : Option Nat) (h : Heap) : aLoad CC 136 (.pointer (some ⟨b, p, sp⟩)) h = obind (rowAt h b) fun l => l[p]? := load_one (by kernel_rfl) b p sp h
theorem size_137 : CC.size 137 = some 1 := by kernel_rfl
theorem zero_137 : CC.zero 137 = some (.slice none 0 0) := by kernel_rfl
theorem und_137 : CC.und 137 = some (.slice 139) := by kernel_rfl
theorem part_137 (l : List Value) (p : Nat) : partOf CC 137 l p = l[p]? := part_one' (by kernel_rfl) l p
theorem ld_137 (b p : Nat) (sp : Option Nat) (h : Heap) : aLoad CC 137 (.pointer (some ⟨b, p, sp⟩)) h = obind (rowAt h b) fun l => l[p]? := load_one (by kernel_rfl) b p sp h
theorem len_137 (p : Option Addr) (n m : Nat) (h : Heap) : aLen CC 137 (.slice p n m) h = some (.int .i64 n) := M_len_slice CC 137 h p n m _ und_137
theorem size_138 : CC.size 138 = some 2 := by kernel_rfl
theorem zero_138 : CC.zero 138 = some (.agg ⟨[.int .i64 0, .int .i64 0]⟩) := by kernel_rfl
theorem part_138 (l : List Value) (p : Nat) : partOf CC 138 l p = obind (take? l p 2) fun l => some (mkAgg l) := part_agg' (by kernel_rfl) size_138 l p
theorem ld_138 (b p : Nat) (sp : Option Nat) (h : Heap) : aLoad CC 138 (.pointer (some ⟨b, p, sp⟩)) h = obind (rowAt h b) fun l => obind (take? l p 2) fun l => some (mkAgg l) := load_agg (by kernel_rfl) size_138 b p sp h
theorem fld_138_0 : CC.fieldAt 138 0 = some (0, 3, 1) := by kernel_rfl
theorem fv_138_0 (l : List Value) : aField CC 138 (.agg ⟨l⟩) 0 = obind l[0]? asVal := fval_one fld_138_0 (by kernel_rfl) l
theorem fp_138_0 (b p : Nat) (sp : Option Nat) : aFieldAddr CC 138 (.pointer (some ⟨b, p, sp⟩)) 0 = some (.val (.pointer (some ⟨b, p + 0, none⟩))) := fieldAddr_at fld_138_0 rfl b p sp
theorem fld_138_1 : CC.fieldAt 138 1 = some (1, 3, 1) := by kernel_rfl
theorem fv_138_1 (l : List Value) : aField CC 138 (.agg ⟨l⟩) 1 = obind l[1]? asVal := fval_one fld_138_1 (by kernel_rfl) l
theorem fp_138_1 (b p : Nat) (sp : Option Nat) : aFieldAddr CC 138 (.pointer (some ⟨b, p, sp⟩)) 1 = some (.val (.pointer (some ⟨b, p + 1, none⟩))) := fieldAddr_at fld_138_1 rfl b p sp
theorem size_139 : CC.size 139 = some 2 := by kernel_rfl
theorem zero_139 : CC.zero 139 = some (.agg ⟨[.int .i64 0, .int .i64 0]⟩) := by kernel_rfl
theorem part_139 (l : List Value) (p : Nat) : partOf CC 139 l p = obind (take? l p 2) fun l => some (mkAgg l) := part_agg' (by kernel_rfl) size_139 l p
theorem ld_139 (b p : Nat) (sp : Option Nat) (h : Heap) : aLoad CC 139 (.pointer (some ⟨b, p, sp⟩)) h = obind (rowAt h b) fun l => obind (take? l p 2) fun l => some (mkAgg l) := load_agg (by kernel_rfl) size_139 b p sp h
theorem fld_139_0 : CC.fieldAt 139 0 = some (0, 3, 1) := by kernel_rfl
theorem fv_139_0 (l : List Value) : aField CC 139 (.agg ⟨l⟩) 0 = obind l[0]? asVal := fval_one fld_139_0 (by kernel_rfl) l
theorem fp_139_0 (b p : Nat) (sp : Option Nat) : aFieldAddr CC 139 (.pointer (some ⟨b, p, sp⟩)) 0 = some (.val (.pointer (some ⟨b, p + 0, none⟩))) := fieldAddr_at fld_139_0 rfl b p sp
theorem fld_139_1 : CC.fieldAt 139 1 = some (1, 3, 1) := by kernel_rfl
theorem fv_139_1 (l : List Value) : aField CC 139 (.agg ⟨l⟩) 1 = obind l[1]? asVal := fval_one fld_139_1 (by kernel_rfl) l
theorem fp_139_1 (b p : Nat) (sp : Option Nat) : aFieldAddr CC 139 (.pointer (some ⟨b, p, sp⟩)) 1 = some (.val (.pointer (some ⟨b, p + 1, none⟩))) := fieldAddr_at fld_139_1 rfl b p sp
theorem size_140 : CC.size 140 = some 1 := by kernel_rfl
theorem zero_140 : CC.zero 140 = some (.nilFunc) := by kernel_rfl
theorem part_140 (l : List Value) (p : Nat) : partOf CC 140 l p = l[p]? := part_one' (by kernel_rfl) l p
theorem ld_140 (b p : Nat) (sp : Option Nat) (h : Heap) : aLoad CC 140 (.pointer (some ⟨b, p, sp⟩)) h = obind (rowAt h b) fun l => l[p]? := load_one (by kernel_rfl) b p sp h
theorem size_141 : CC.size 141 = some 1 := by kernel_rfl
theorem zero_141 : CC.zero 141 = some (.nilFunc) := by kernel_rfl
theorem part_141 (l : List Value) (p : Nat) : partOf CC 141 l p = l[p]? := part_one' (by kernel_rfl) l p
theorem ld_141 (b p : Nat) (sp : Option Nat) (h : Heap) : aLoad CC 141 (.pointer (some ⟨b, p, sp⟩)) h = obind (rowAt h b) fun l => l[p]? := load_one (by kernel_rfl) b p sp h
theorem size_142 : CC.size 142 = some 1 := by kernel_rfl
theorem zero_142 : CC.zero 142 = some (.nilFunc) := by kernel_rfl
theorem part_142 (l : List Value) (p : Nat) : partOf CC 142 l p = l[p]? := part_one' (by kernel_rfl) l p
theorem ld_142 (b p : Nat) (sp : Option Nat) (h : Heap) : aLoad CC 142 (.pointer (some ⟨b, p, sp⟩)) h = obind (rowAt h b) fun l => l[p]? := load_one (by kernel_rfl) b p sp h
theorem size_143 : CC.size 143 = some 6 := by kernel_rfl
theorem zero_143 : CC.zero 143 = some (.agg ⟨[.string ⟨⟨[]⟩⟩, .string ⟨⟨[]⟩⟩, .string ⟨⟨[]⟩⟩, .string ⟨⟨[]⟩⟩, .string ⟨⟨[]⟩⟩, .string ⟨⟨[]⟩⟩]⟩) := by kernel_rfl
theorem und_143 : CC.und 143 = some (.array 6 9) := by kernel_rfl
theorem part_143 (l : List Value) (p : Nat) : partOf CC 143 l p = obind (take? l p 6) fun l => some (mkAgg l) := part_agg' (by kernel_rfl) size_143 l p
theorem ld_143 (b p : Nat) (sp : Option Nat) (h : Heap) : aLoad CC 143 (.pointer (some ⟨b, p, sp⟩)) h = obind (rowAt h b) fun l => obind (take? l p 6) fun l => some (mkAgg l) := load_agg (by kernel_rfl) size_143 b p sp h
theorem size_144 : CC.size 144 = some 1 := by kernel_rfl
theorem zero_144 : CC.zero 144 = some (.nilFunc) := by kernel_rfl
theorem part_144 (l : List Value) (p : Nat) : partOf CC 144 l p = l[p]? := part_one' (by kernel_rfl) l p
theorem ld_144 (b p : Nat) (sp : Option Nat) (h : Heap) : aLoad CC 144 (.pointer (some ⟨b, p, sp⟩)) h = obind (rowAt h b) fun l => l[p]? := load_one (by kernel_rfl) b p sp h
theorem size_145 : CC.size 145 = some 1 := by kernel_rfl
theorem zero_145 : CC.zero 145 = some (.nilFunc) := by kernel_rfl
theorem part_145 (l : List Value) (p : Nat) : partOf CC 145 l p = l[p]? := part_one' (by kernel_rfl) l p
theorem ld_145 (b p : Nat) (sp : Option Nat) (h : Heap) : aLoad CC 145 (.pointer (some ⟨b, p, sp⟩)) h = obind (rowAt h b) fun l => l[p]? := load_one (by kernel_rfl) b p sp h
theorem size_146 : CC.size 146 = some 1 := by kernel_rfl
theorem zero_146 : CC.zero 146 = some (.nilFunc) := by kernel_rfl
theorem part_146 (l : List Value) (p : Nat) : partOf CC 146 l p = l[p]? := part_one' (by kernel_rfl) l p
theorem ld_146 (b p : Nat) (sp : Option Nat) (h : Heap) : aLoad CC 146 (.pointer (some ⟨b, p, sp⟩)) h = obind (rowAt h b) fun l => l[p]? := load_one (by kernel_rfl) b p sp h
theorem size_147 : CC.size 147 = some 1 := by kernel_rfl
theorem zero_147 : CC.zero 147 = some (.nilFunc) := by kernel_rfl
theorem part_147 (l : List Value) (p : Nat) : partOf CC 147 l p = l[p]? := part_one' (by kernel_rfl) l p
theorem ld_147 (b p : Nat) (sp : Option Nat) (h : Heap) : aLoad CC 147 (.pointer (some ⟨b, p, sp⟩)) h = obind (rowAt h b) fun l => l[p]? := load_one (by kernel_rfl) b p sp h
theorem size_148 : CC.size 148 = some 1 := by kernel_rfl
theorem zero_148 : CC.zero 148 = some (.nilFunc) := by kernel_rfl
theorem part_148 (l : List Value) (p : Nat) : partOf CC 148 l p = l[p]? := part_one' (by kernel_rfl) l p
theorem ld_148 (b p : Nat) (sp : Option Nat) (h : Heap) : aLoad CC 148 (.pointer (some ⟨b, p, sp⟩)) h = obind (rowAt h b) fun l => l[p]? := load_one (by kernel_rfl) b p sp h
theorem size_149 : CC.size 149 = some 1 := by kernel_rfl
theorem zero_149 : CC.zero 149 = some (.nilFunc) := by kernel_rfl
theorem part_149 (l : List Value) (p : Nat) : partOf CC 149 l p = l[p]? := part_one' (by kernel_rfl) l p
theorem ld_149 (b p : Nat) (sp : Option Nat) (h : Heap) : aLoad CC 149 (.pointer (some ⟨b, p, sp⟩)) h = obind (rowAt h b) fun l => l[p]? := load_one (by kernel_rfl) b p sp h
theorem size_150 : CC.size 150 = some 1 := by kernel_rfl
theorem zero_150 : CC.zero 150 = some (.nilFunc) := by kernel_rfl
theorem part_150 (l : List Value) (p : Nat) : partOf CC 150 l p = l[p]? := part_one' (by kernel_rfl) l p
theorem ld_150 (b p : Nat) (sp : Option Nat) (h : Heap) : aLoad CC 150 (.pointer (some ⟨b, p, sp⟩)) h = obind (rowAt h b) fun l => l[p]? := load_one (by kernel_rfl) b p sp h
theorem size_151 : CC.size 151 = some 1 := by kernel_rfl
theorem zero_151 : CC.zero 151 = some (.nilFunc) := by kernel_rfl
theorem part_151 (l : List Value) (p : Nat) : partOf CC 151 l p = l[p]? := part_one' (by kernel_rfl) l p
theorem ld_151 (b p : Nat) (sp : Option Nat) (h : Heap) : aLoad CC 151 (.pointer (some ⟨b, p, sp⟩)) h = obind (rowAt h b) fun l => l[p]? := load_one (by kernel_rfl) b p sp h
theorem size_152 : CC.size 152 = some 1 := by kernel_rfl
theorem zero_152 : CC.zero 152 = some (.nilFunc) := by kernel_rfl
theorem part_152 (l : List Value) (p : Nat) : partOf CC 152 l p = l[p]? := part_one' (by kernel_rfl) l p
theorem ld_152 (b p : Nat) (sp : Option Nat) (h : Heap) : aLoad CC 152 (.pointer (some ⟨b, p, sp⟩)) h = obind (rowAt h b) fun l => l[p]? := load_one (by kernel_rfl) b p sp h
theorem size_153 : CC.size 153 = some 6 := by kernel_rfl
theorem zero_153 : CC.zero 153 = some (.agg ⟨[.int .i64 0, .int .i64 0, .int .i64 0, .int .i64 0, .bool false, .int .i64 0]⟩) := by kernel_rfl
theorem part_153 (l : List Value) (p : Nat) : partOf CC 153 l p = obind (take? l p 6) fun l => some (mkAgg l) := part_agg' (by kernel_rfl) size_153 l p
theorem ld_153 (b p : Nat) (sp : Option Nat) (h : Heap) : aLoad CC 153 (.pointer (some ⟨b, p, sp⟩)) h = obind (rowAt h b) fun l => obind (take? l p 6) fun l => some (mkAgg l) := load_agg (by kernel_rfl) size_153 b p sp h
theorem fld_153_0 : CC.fieldAt 153 0 = some (0, 41, 5) := by kernel_rfl
theorem fv_153_0 (l : List Value) : aField CC 153 (.agg ⟨l⟩) 0 = obind (take? l 0 5) fun l => asVal (mkAgg l) := fval_agg fld_153_0 (by kernel_rfl) size_41 l
theorem fp_153_0 (b p : Nat) (sp : Option Nat) : aFieldAddr CC 153 (.pointer (some ⟨b, p, sp⟩)) 0 = some (.val (.pointer (some ⟨b, p + 0, none⟩))) := fieldAddr_at fld_153_0 rfl b p sp
theorem fld_153_1 : CC.fieldAt 153 1 = some (5, 3, 1) := by kernel_rfl
theorem fv_153_1 (l : List Value) : aField CC 153 (.agg ⟨l⟩) 1 = obind l[5]? asVal := fval_one fld_153_1 (by kernel_rfl) l
theorem fp_153_1 (b p : Nat) (sp : Option Nat) : aFieldAddr CC 153 (.pointer (some ⟨b, p, sp⟩)) 1 = some (.val (.pointer (some ⟨b, p + 5, none⟩))) := fieldAddr_at fld_153_1 rfl b p sp
theorem size_154 : CC.size 154 = some 6 := by kernel_rfl
theorem zero_154 : CC.zero 154 = some (.agg ⟨[.int .i64 0, .int .i64 0, .int .i64 0, .int .i64 0, .bool false, .int .i64 0]⟩) := by kernel_rfl
theorem part_154 (l : List Value) (p : Nat) : partOf CC 154 l p = obind (take? l p 6) fun l => some (mkAgg l) := part_agg' (by kernel_rfl) size_154 l p
theorem ld_154 (b p : Nat) (sp : Option Nat) (h : Heap) : aLoad CC 154 (.pointer (some ⟨b, p, sp⟩)) h = obind (rowAt h b) fun l => obind (take? l p 6) fun l => some (mkAgg l) := load_agg (by kernel_rfl) size_154 b p sp h
theorem fld_154_0 : CC.fieldAt 154 0 = some (0, 41, 5) := by kernel_rfl
theorem fv_154_0 (l : List Value) : aField CC 154 (.agg ⟨l⟩) 0 = obind (take? l 0 5) fun l => asVal (mkAgg l) := fval_agg fld_154_0 (by kernel_rfl) size_41 l
theorem fp_154_0 (b p : Nat) (sp : Option Nat) : aFieldAddr CC 154 (.pointer (some ⟨b, p, sp⟩)) 0 = some (.val (.pointer (some ⟨b, p + 0, none⟩))) := fieldAddr_at fld_154_0 rfl b p sp
theorem fld_154_1 : CC.fieldAt 154 1 = some (5, 3, 1) := by kernel_rfl
theorem fv_154_1 (l : List Value) : aField CC 154 (.agg ⟨l⟩) 1 = obind l[5]? asVal := fval_one fld_154_1 (by kernel_rfl) l
theorem fp_154_1 (b p : Nat) (sp : Option Nat) : aFieldAddr CC 154 (.pointer (some ⟨b, p, sp⟩)) 1 = some (.val (.pointer (some ⟨b, p + 5, none⟩))) := fieldAddr_at fld_154_1 rfl b p sp
theorem size_155 : CC.size 155 = some 2 := by kernel_rfl
theorem zero_155 : CC.zero 155 = some (.agg ⟨[.int .i64 0, .int .i64 0]⟩) := by kernel_rfl
theorem part_155 (l : List Value) (p : Nat) : partOf CC 155 l p = obind (take? l p 2) fun l => some (mkAgg l) := part_agg' (by kernel_rfl) size_155 l p
theorem ld_155 (b p : Nat) (sp : Option Nat) (h : Heap) : aLoad CC 155 (.pointer (some ⟨b, p, sp⟩)) h = obind (rowAt h b) fun l => obind (take? l p 2) fun l => some (mkAgg l) := load_agg (by kernel_rfl) size_155 b p sp h
theorem fld_155_0 : CC.fieldAt 155 0 = some (0, 3, 1) := by kernel_rfl
theorem fv_155_0 (l : List Value) : aField CC 155 (.agg ⟨l⟩) 0 = obind l[0]? asVal := fval_one fld_155_0 (by kernel_rfl) l
theorem fp_155_0 (b p : Nat) (sp : Option Nat) : aFieldAddr CC 155 (.pointer (some ⟨b, p, sp⟩)) 0 = some (.val (.pointer (some ⟨b, p + 0, none⟩))) := fieldAddr_at fld_155_0 rfl b p sp
theorem fld_155_1 : CC.fieldAt 155 1 = some (1, 3, 1) := by kernel_rfl
theorem fv_155_1 (l : List Value) : aField CC 155 (.agg ⟨l⟩) 1 = obind l[1]? asVal := fval_one fld_155_1 (by kernel_rfl) l
theorem fp_155_1 (b p : Nat) (sp : Option Nat) : aFieldAddr CC 155 (.pointer (some ⟨b, p, sp⟩)) 1 = some (.val (.pointer (some ⟨b, p + 1, none⟩))) := fieldAddr_at fld_155_1 rfl b p sp
theorem size_156 : CC.size 156 = some 2 := by kernel_rfl
theorem zero_156 : CC.zero 156 = some (.agg ⟨[.int .i64 0, .int .i64 0]⟩) := by kernel_rfl
theorem part_156 (l : List Value) (p : Nat) : partOf CC 156 l p = obind (take? l p 2) fun l => some (mkAgg l) := part_agg' (by kernel_rfl) size_156 l p
theorem ld_156 (b p : Nat) (sp : Option Nat) (h : Heap) : aLoad CC 156 (.pointer (some ⟨b, p, sp⟩)) h = obind (rowAt h b) fun l => obind (take? l p 2) fun l => some (mkAgg l) := load_agg (by kernel_rfl) size_156 b p sp h
theorem fld_156_0 : CC.fieldAt 156 0 = some (0, 3, 1) := by kernel_rfl
theorem fv_156_0 (l : List Value) : aField CC 156 (.agg ⟨l⟩) 0 = obind l[0]? asVal := fval_one fld_156_0 (by kernel_rfl) l
theorem fp_156_0 (b p : Nat) (sp : Option Nat) : aFieldAddr CC 156 (.pointer (some ⟨b, p, sp⟩)) 0 = some (.val (.pointer (some ⟨b, p + 0, none⟩))) := fieldAddr_at fld_156_0 rfl b p sp
theorem fld_156_1 : CC.fieldAt 156 1 = some (1, 3, 1) := by kernel_rfl
theorem fv_156_1 (l : List Value) : aField CC 156 (.agg ⟨l⟩) 1 = obind l[1]? asVal := fval_one fld_156_1 (by kernel_rfl) l
theorem fp_156_1 (b p : Nat) (sp : Option Nat) : aFieldAddr CC 156 (.pointer (some ⟨b, p, sp⟩)) 1 = some (.val (.pointer (some ⟨b, p + 1, none⟩))) := fieldAddr_at fld_156_1 rfl b p sp
theorem size_157 : CC.size 157 = some 1 := by kernel_rfl
theorem zero_157 : CC.zero 157 = some (.nilFunc) := by kernel_rfl
theorem part_157 (l : List Value) (p : Nat) : partOf CC 157 l p = l[p]? := part_one' (by kernel_rfl) l p
theorem ld_157 (b p : Nat) (sp : Option Nat) (h : Heap) : aLoad CC 157 (.pointer (some ⟨b, p, sp⟩)) h = obind (rowAt h b) fun l => l[p]? := load_one (by kernel_rfl) b p sp h
theorem size_158 : CC.size 158 = some 1 := by kernel_rfl
theorem zero_158 : CC.zero 158 = some (.nilFunc) := by kernel_rfl
theorem part_158 (l : List Value) (p : Nat) : partOf CC 158 l p = l[p]? := part_one' (by kernel_rfl) l p
theorem ld_158 (b p : Nat) (sp : Option Nat) (h : Heap) : aLoad CC 158 (.pointer (some ⟨b, p, sp⟩)) h = obind (rowAt h b) fun l => l[p]? := load_one (by kernel_rfl) b p sp h
theorem size_159 : CC.size 159 = some 1 := by kernel_rfl
theorem zero_159 : CC.zero 159 = some (.nilIface) := by kernel_rfl
theorem part_159 (l : List Value) (p : Nat) : partOf CC 159 l p = l[p]? := part_one' (by kernel_rfl) l p
theorem ld_159 (b p : Nat) (sp : Option Nat) (h : Heap) : aLoad CC 159 (.pointer (some ⟨b, p, sp⟩)) h = obind (rowAt h b) fun l => l[p]? := load_one (by kernel_rfl) b p sp h
theorem size_160 : CC.size 160 = some 1 := by kernel_rfl
theorem zero_160 : CC.zero 160 = some (.nilIface) := by kernel_rfl
theorem part_160 (l : List Value) (p : Nat) : partOf CC 160 l p = l[p]? := part_one' (by kernel_rfl) l p
theorem ld_160 (b p : Nat) (sp : Option Nat) (h : Heap) : aLoad CC 160 (.pointer (some ⟨b, p, sp⟩)) h = obind (rowAt h b) fun l => l[p]? := load_one (by kernel_rfl) b p sp h
theorem size_161 : CC.size 161 = some 1 := by kernel_rfl
theorem zero_161 : CC.zero 161 = some (.nilFunc) := by kernel_rfl
theorem part_161 (l : List Value) (p : Nat) : partOf CC 161 l p = l[p]? := part_one' (by kernel_rfl) l p
theorem ld_161 (b p : Nat) (sp : Option Nat) (h : Heap) : aLoad CC 161 (.pointer (some ⟨b, p, sp⟩)) h = obind (rowAt h b) fun l => l[p]? := load_one (by kernel_rfl) b p sp h
theorem size_162 : CC.size 162 = some 1 := by kernel_rfl
theorem zero_162 : CC.zero 162 = some (.nilFunc) := by kernel_rfl
theorem part_162 (l : List Value) (p : Nat) : partOf CC 162 l p = l[p]? := part_one' (by kernel_rfl) l p
theorem ld_162 (b p : Nat) (sp : Option Nat) (h : Heap) : aLoad CC 162 (.pointer (some ⟨b, p, sp⟩)) h = obind (rowAt h b) fun l => l[p]? := load_one (by kernel_rfl) b p sp h
theorem size_163 : CC.size 163 = some 1 := by kernel_rfl
theorem zero_163 : CC.zero 163 = some (.nilFunc) := by kernel_rfl
theorem part_163 (l : List Value) (p : Nat) : partOf CC 163 l p = l[p]? := part_one' (by kernel_rfl) l p
theorem ld_163 (b p : Nat) (sp : Option Nat) (h : Heap) : aLoad CC 163 (.pointer (some ⟨b, p, sp⟩)) h = obind (rowAt h b) fun l => l[p]? := load_one (by kernel_rfl) b p sp h
theorem size_164 : CC.size 164 = some 1 := by kernel_rfl
theorem zero_164 : CC.zero 164 = some (.nilFunc) := by kernel_rfl
theorem part_164 (l : List Value) (p : Nat) : partOf CC 164 l p = l[p]? := part_one' (by kernel_rfl) l p
theorem ld_164 (b p : Nat) (sp : Option Nat) (h : Heap) : aLoad CC 164 (.pointer (some ⟨b, p, sp⟩)) h = obind (rowAt h b) fun l => l[p]? := load_one (by kernel_rfl) b p sp h
theorem size_165 : CC.size 165 = some 1 := by kernel_rfl
theorem zero_165 : CC.zero 165 = some (.nilFunc) := by kernel_rfl
theorem part_165 (l : List Value) (p : Nat) : partOf CC 165 l p = l[p]? := part_one' (by kernel_rfl) l p
theorem ld_165 (b p : Nat) (sp : Option Nat) (h : Heap) : aLoad CC 165 (.pointer (some ⟨b, p, sp⟩)) h = obind (rowAt h b) fun l => l[p]? := load_one (by kernel_rfl) b p sp h
theorem size_166 : CC.size 166 = some 1 := by kernel_rfl
theorem zero_166 : CC.zero 166 = some (.int .u64 0) := by kernel_rfl
theorem und_166 : CC.und 166 = some (.int .u64) := by kernel_rfl
theorem part_166 (l : List Value) (p : Nat) : partOf CC 166 l p = l[p]? := part_one' (by kernel_rfl) l p
theorem ld_166 (b p : Nat) (sp : Option Nat) (h : Heap) : aLoad CC 166 (.pointer (some ⟨b, p, sp⟩)) h = obind (rowAt h b) fun l => l[p]? := load_one (by kernel_rfl) b p sp h
theorem size_168 : CC.size 168 = some 1 := by kernel_rfl
theorem zero_168 : CC.zero 168 = some (.nilFunc) := by kernel_rfl
theorem part_168 (l : List Value) (p : Nat) : partOf CC 168 l p = l[p]? := part_one' (by kernel_rfl) l p
theorem ld_168 (b p : Nat) (sp : Option Nat) (h : Heap) : aLoad CC 168 (.pointer (some ⟨b, p, sp⟩)) h = obind (rowAt h b) fun l => l[p]? := load_one (by kernel_rfl) b p sp h
theorem size_169 : CC.size 169 = some 1 := by kernel_rfl
theorem zero_169 : CC.zero 169 = some (.nilFunc) := by kernel_rfl
theorem part_169 (l : List Value) (p : Nat) : partOf CC 169 l p = l[p]? := part_one' (by kernel_rfl) l p
theorem ld_169 (b p : Nat) (sp : Option Nat) (h : Heap) : aLoad CC 169 (.pointer (some ⟨b, p, sp⟩)) h = obind (rowAt h b) fun l => l[p]? := load_one (by kernel_rfl) b p sp h
theorem size_170 : CC.size 170 = some 4 := by kernel_rfl
theorem zero_170 : CC.zero 170 = some (.agg ⟨[.string ⟨⟨[]⟩⟩, .string ⟨⟨[]⟩⟩, .string ⟨⟨[]⟩⟩, .string ⟨⟨[]⟩⟩]⟩) := by kernel_rfl
theorem und_170 : CC.und 170 = some (.array 4 9) := by kernel_rfl
theorem part_170 (l : List Value) (p : Nat) : partOf CC 170 l p = obind (take? l p 4) fun l => some (mkAgg l) := part_agg' (by kernel_rfl) size_170 l p
theorem ld_170 (b p : Nat) (sp : Option Nat) (h : Heap) : aLoad CC 170 (.pointer (some ⟨b, p, sp⟩)) h = obind (rowAt h b) fun l => obind (take? l p 4) fun l => some (mkAgg l) := load_agg (by kernel_rfl) size_170 b p sp h
theorem size_171 : CC.size 171 = some 1 := by kernel_rfl
theorem zero_171 : CC.zero 171 = some (.nilFunc) := by kernel_rfl
theorem part_171 (l : List Value) (p : Nat) : partOf CC 171 l p = l[p]? := part_one' (by kernel_rfl) l p
theorem ld_171 (b p : Nat) (sp : Option Nat) (h : Heap) : aLoad CC 171 (.pointer (some ⟨b, p, sp⟩)) h = obind (rowAt h b) fun l => l[p]? := load_one (by kernel_rfl) b p sp h
theorem size_172 : CC.size 172 = some 1 := by kernel_rfl
theorem zero_172 : CC.zero 172 = some (.pointer none) := by kernel_rfl
theorem und_172 : CC.und 172 = some (.pointer 174) := by kernel_rfl
theorem part_172 (l : List Value) (p : Nat) : partOf CC 172 l p = l[p]? := part_one' (by kernel_rfl) l p
theorem ld_172 (b p : Nat) (sp : Option Nat) (h : Heap) : aLoad CC 172 (.pointer (some ⟨b, p, sp⟩)) h = obind (rowAt h b) fun l => l[p]? := load_one (by kernel_rfl) b p sp h
theorem size_173 : CC.size 173 = some 2 := by kernel_rfl
theorem zero_173 : CC.zero 173 = some (.agg ⟨[.pointer none, .slice none 0 0]⟩) := by kernel_rfl
theorem part_173 (l : List Value) (p : Nat) : partOf CC 173 l p = obind (take? l p 2) fun l => some (mkAgg l) := part_agg' (by kernel_rfl) size_173 l p
theorem ld_173 (b p : Nat) (sp : Option Nat) (h : Heap) : aLoad CC 173 (.pointer (some ⟨b, p, sp⟩)) h = obind (rowAt h b) fun l => obind (take? l p 2) fun l => some (mkAgg l) := load_agg (by kernel_rfl) size_173 b p sp h
theorem fld_173_0 : CC.fieldAt 173 0 = some (0, 172, 1) := by kernel_rfl
theorem fv_173_0 (l : List Value) : aField CC 173 (.agg ⟨l⟩) 0 = obind l[0]? asVal := fval_one fld_173_0 (by kernel_rfl) l
theorem fp_173_0 (b p : Nat) (sp : Option Nat) : aFieldAddr CC 173 (.pointer (some ⟨b, p, sp⟩)) 0 = some (.val (.pointer (some ⟨b, p + 0, none⟩))) := fieldAddr_at fld_173_0 rfl b p sp
theorem fld_173_1 : CC.fieldAt 173 1 = some (1, 88, 1) := by kernel_rfl
theorem fv_173_1 (l : List Value) : aField CC 173 (.agg ⟨l⟩) 1 = obind l[1]? asVal := fval_one fld_173_1 (by kernel_rfl) l
theorem fp_173_1 (b p : Nat) (sp : Option Nat) : aFieldAddr CC 173 (.pointer (some ⟨b, p, sp⟩)) 1 = some (.val (.pointer (some ⟨b, p + 1, none⟩))) := fieldAddr_at fld_173_1 rfl b p sp
theorem size_174 : CC.size 174 = some 2 := by kernel_rfl
theorem zero_174 : CC.zero 174 = some (.agg ⟨[.pointer none, .slice none 0 0]⟩) := by kernel_rfl
theorem part_174 (l : List Value) (p : Nat) : partOf CC 174 l p = obind (take? l p 2) fun l => some (mkAgg l) := part_agg' (by kernel_rfl) size_174 l p
theorem ld_174 (b p : Nat) (sp : Option Nat) (h : Heap) : aLoad CC 174 (.pointer (some ⟨b, p, sp⟩)) h = obind (rowAt h b) fun l => obind (take? l p 2) fun l => some (mkAgg l) := load_agg (by kernel_rfl) size_174 b p sp h
theorem fld_174_0 : CC.fieldAt 174 0 = some (0, 172, 1) := by kernel_rfl
theorem fv_174_0 (l : List Value) : aField CC 174 (.agg ⟨l⟩) 0 = obind l[0]? asVal := fval_one fld_174_0 (by kernel_rfl) l
theorem fp_174_0 (b p : Nat) (sp : Option Nat) : aFieldAddr CC 174 (.pointer (some ⟨b, p, sp⟩)) 0 = some (.val (.pointer (some ⟨b, p + 0, none⟩))) := fieldAddr_at fld_174_0 rfl b p sp
theorem fld_174_1 : CC.fieldAt 174 1 = some (1, 88, 1) := by kernel_rfl
theorem fv_174_1 (l : List Value) : aField CC 174 (.agg ⟨l⟩) 1 = obind l[1]? asVal := fval_one fld_174_1 (by kernel_rfl) l
theorem fp_174_1 (b p : Nat) (sp : Option Nat) : aFieldAddr CC 174 (.pointer (some ⟨b, p, sp⟩)) 1 = some (.val (.pointer (some ⟨b, p + 1, none⟩))) := fieldAddr_at fld_174_1 rfl b p sp
theorem size_175 : CC.size 175 = some 1 := by kernel_rfl
theorem zero_175 : CC.zero 175 = some (.nilFunc) := by kernel_rfl
theorem part_175 (l : List Value) (p : Nat) : partOf CC 175 l p = l[p]? := part_one' (by kernel_rfl) l p
theorem ld_175 (b p : Nat) (sp : Option Nat) (h : Heap) : aLoad CC 175 (.pointer (some ⟨b, p, sp⟩)) h = obind (rowAt h b) fun l => l[p]? := load_one (by kernel_rfl) b p sp h
theorem size_176 : CC.size 176 = some 1 := by kernel_rfl
theorem zero_176 : CC.zero 176 = some (.nilIface) := by kernel_rfl
theorem part_176 (l : List Value) (p : Nat) : partOf CC 176 l p = l[p]? := part_one' (by kernel_rfl) l p
theorem ld_176 (b p : Nat) (sp : Option Nat) (h : Heap) : aLoad CC 176 (.pointer (some ⟨b, p, sp⟩)) h = obind (rowAt h b) fun l => l[p]? := load_one (by kernel_rfl) b p sp h
theorem size_177 : CC.size 177 = some 1 := by kernel_rfl
theorem zero_177 : CC.zero 177 = some (.nilIface) := by kernel_rfl
theorem part_177 (l : List Value) (p : Nat) : partOf CC 177 l p = l[p]? := part_one' (by kernel_rfl) l p
theorem ld_177 (b p : Nat) (sp : Option Nat) (h : Heap) : aLoad CC 177 (.pointer (some ⟨b, p, sp⟩)) h = obind (rowAt h b) fun l => l[p]? := load_one (by kernel_rfl) b p sp h
theorem size_179 : CC.size 179 = some 1 := by kernel_rfl
theorem zero_179 : CC.zero 179 = some (.nilFunc) := by kernel_rfl
theorem part_179 (l : List Value) (p : Nat) : partOf CC 179 l p = l[p]? := part_one' (by kernel_rfl) l p
theorem ld_179 (b p : Nat) (sp : Option Nat) (h : Heap) : aLoad CC 179 (.pointer (some ⟨b, p, sp⟩)) h = obind (rowAt h b) fun l => l[p]? := load_one (by kernel_rfl) b p sp h
theorem size_180 : CC.size 180 = some 1 := by kernel_rfl
theorem zero_180 : CC.zero 180 = some (.nilFunc) := by kernel_rfl
theorem part_180 (l : List Value) (p : Nat) : partOf CC 180 l p = l[p]? := part_one' (by kernel_rfl) l p
theorem ld_180 (b p : Nat) (sp : Option Nat) (h : Heap) : aLoad CC 180 (.pointer (some ⟨b, p, sp⟩)) h = obind (rowAt h b) fun l => l[p]? := load_one (by kernel_rfl) b p sp h
theorem size_181 : CC.size 181 = some 1 := by kernel_rfl
theorem zero_181 : CC.zero 181 = some (.nilFunc) := by kernel_rfl
theorem part_181 (l : List Value) (p : Nat) : partOf CC 181 l p = l[p]? := part_one' (by kernel_rfl) l p
theorem ld_181 (b p : Nat) (sp : Option Nat) (h : Heap) : aLoad CC 181 (.pointer (some ⟨b, p, sp⟩)) h = obind (rowAt h b) fun l => l[p]? := load_one (by kernel_rfl) b p sp h
theorem size_182 : CC.size 182 = some 1 := by kernel_rfl
theorem zero_182 : CC.zero 182 = some (.nilFunc) := by kernel_rfl
theorem part_182 (l : List Value) (p : Nat) : partOf CC 182 l p = l[p]? := part_one' (by kernel_rfl) l p
theorem ld_182 (b p : Nat) (sp : Option Nat) (h : Heap) : aLoad CC 182 (.pointer (some ⟨b, p, sp⟩)) h = obind (rowAt h b) fun l => l[p]? := load_one (by kernel_rfl) b p sp h
theorem size_183 : CC.size 183 = some 1 := by kernel_rfl
theorem zero_183 : CC.zero 183 = some (.nilFunc) := by kernel_rfl
theorem part_183 (l : List Value) (p : Nat) : partOf CC 183 l p = l[p]? := part_one' (by kernel_rfl) l p
theorem ld_183 (b p : Nat) (sp : Option Nat) (h : Heap) : aLoad CC 183 (.pointer (some ⟨b, p, sp⟩)) h = obind (rowAt h b) fun l => l[p]? := load_one (by kernel_rfl) b p sp h
theorem size_184 : CC.size 184 = some 4 := by kernel_rfl
theorem zero_184 : CC.zero 184 = some (.agg ⟨[.nilFunc, .nilFunc, .nilFunc, .nilFunc]⟩) := by kernel_rfl
theorem und_184 : CC.und 184 = some (.array 4 183) := by kernel_rfl
theorem part_184 (l : List Value) (p : Nat) : partOf CC 184 l p = obind (take? l p 4) fun l => some (mkAgg l) := part_agg' (by kernel_rfl) size_184 l p
theorem ld_184 (b p : Nat) (sp : Option Nat) (h : Heap) : aLoad CC 184 (.pointer (some ⟨b, p, sp⟩)) h = obind (rowAt h b) fun l => obind (take? l p 4) fun l => some (mkAgg l) := load_agg (by kernel_rfl) size_184 b p sp h
theorem size_185 : CC.size 185 = some 0 := by kernel_rfl
theorem zero_185 : CC.zero 185 = some (.agg ⟨[]⟩) := by kernel_rfl
theorem part_185 (l : List Value) (p : Nat) : partOf CC 185 l p = obind (take? l p 0) fun l => some (mkAgg l) := part_agg' (by kernel_rfl) size_185 l p
theorem ld_185 (b p : Nat) (sp : Option Nat) (h : Heap) : aLoad CC 185 (.pointer (some ⟨b, p, sp⟩)) h = obind (rowAt h b) fun l => obind (take? l p 0) fun l => some (mkAgg l) := load_agg (by kernel_rfl) size_185 b p sp h
theorem size_186 : CC.size 186 = some 0 := by kernel_rfl
theorem zero_186 : CC.zero 186 = some (.agg ⟨[]⟩) := by kernel_rfl
theorem part_186 (l : List Value) (p : Nat) : partOf CC 186 l p = obind (take? l p 0) fun l => some (mkAgg l) := part_agg' (by kernel_rfl) size_186 l p
theorem ld_186 (b p : Nat) (sp : Option Nat) (h : Heap) : aLoad CC 186 (.pointer (some ⟨b, p, sp⟩)) h = obind (rowAt h b) fun l => obind (take? l p 0) fun l => some (mkAgg l) := load_agg (by kernel_rfl) size_186 b p sp h
theorem size_187 : CC.size 187 = some 0 := by kernel_rfl
theorem zero_187 : CC.zero 187 = some (.agg ⟨[]⟩) := by kernel_rfl
theorem part_187 (l : List Value) (p : Nat) : partOf CC 187 l p = obind (take? l p 0) fun l => some (mkAgg l) := part_agg' (by kernel_rfl) size_187 l p
theorem ld_187 (b p : Nat) (sp : Option Nat) (h : Heap) : aLoad CC 187 (.pointer (some ⟨b, p, sp⟩)) h = obind (rowAt h b) fun l => obind (take? l p 0) fun l => some (mkAgg l) := load_agg (by kernel_rfl) size_187 b p sp h
theorem size_188 : CC.size 188 = some 0 := by kernel_rfl
theorem zero_188 : CC.zero 188 = some (.agg ⟨[]⟩) := by kernel_rfl
theorem part_188 (l : List Value) (p : Nat) : partOf CC 188 l p = obind (take? l p 0) fun l => some (mkAgg l) := part_agg' (by kernel_rfl) size_188 l p
theorem ld_188 (b p : Nat) (sp : Option Nat) (h : Heap) : aLoad CC 188 (.pointer (some ⟨b, p, sp⟩)) h = obind (rowAt h b) fun l => obind (take? l p 0) fun l => some (mkAgg l) := load_agg (by kernel_rfl) size_188 b p sp h
theorem size_189 : CC.size 189 = some 0 := by kernel_rfl
theorem zero_189 : CC.zero 189 = some (.agg ⟨[]⟩) := by kernel_rfl
theorem part_189 (l : List Value) (p : Nat) : partOf CC 189 l p = obind (take? l p 0) fun l => some (mkAgg l) := part_agg' (by kernel_rfl) size_189 l p
theorem ld_189 (b p : Nat) (sp : Option Nat) (h : Heap) : aLoad CC 189 (.pointer (some ⟨b, p, sp⟩)) h = obind (rowAt h b) fun l => obind (take? l p 0) fun l => some (mkAgg l) := load_agg (by kernel_rfl) size_189 b p sp h
theorem size_190 : CC.size 190 = some 4 := by kernel_rfl
theorem zero_190 : CC.zero 190 = some (.agg ⟨[.nilIface, .nilIface, .nilIface, .nilIface]⟩) := by kernel_rfl
theorem und_190 : CC.und 190 = some (.array 4 160) := by kernel_rfl
theorem part_190 (l : List Value) (p : Nat) : partOf CC 190 l p = obind (take? l p 4) fun l => some (mkAgg l) := part_agg' (by kernel_rfl) size_190 l p
theorem ld_190 (b p : Nat) (sp : Option Nat) (h : Heap) : aLoad CC 190 (.pointer (some ⟨b, p, sp⟩)) h = obind (rowAt h b) fun l => obind (take? l p 4) fun l => some (mkAgg l) := load_agg (by kernel_rfl) size_190 b p sp h
theorem size_191 : CC.size 191 = some 1 := by kernel_rfl
theorem zero_191 : CC.zero 191 = some (.int .u32 0) := by kernel_rfl
theorem und_191 : CC.und 191 = some (.int .u32) := by kernel_rfl
theorem part_191 (l : List Value) (p : Nat) : partOf CC 191 l p = l[p]? := part_one' (by kernel_rfl) l p
theorem ld_191 (b p : Nat) (sp : Option Nat) (h : Heap) : aLoad CC 191 (.pointer (some ⟨b, p, sp⟩)) h = obind (rowAt h b) fun l => l[p]? := load_one (by kernel_rfl) b p sp h
theorem size_193 : CC.size 193 = some 1 := by kernel_rfl
theorem zero_193 : CC.zero 193 = some (.nilFunc) := by kernel_rfl
theorem part_193 (l : List Value) (p : Nat) : partOf CC 193 l p = l[p]? := part_one' (by kernel_rfl) l p
theorem ld_193 (b p : Nat) (sp : Option Nat) (h : Heap) : aLoad CC 193 (.pointer (some ⟨b, p, sp⟩)) h = obind (rowAt h b) fun l => l[p]? := load_one (by kernel_rfl) b p sp h
theorem size_194 : CC.size 194 = some 1 := by kernel_rfl
theorem zero_194 : CC.zero 194 = some (.int .u64 0) := by kernel_rfl
theorem und_194 : CC.und 194 = some (.int .u64) := by kernel_rfl
theorem part_194 (l : List Value) (p : Nat) : partOf CC 194 l p = l[p]? := part_one' (by kernel_rfl) l p
theorem ld_194 (b p : Nat) (sp : Option Nat) (h : Heap) : aLoad CC 194 (.pointer (some ⟨b, p, sp⟩)) h = obind (rowAt h b) fun l => l[p]? := load_one (by kernel_rfl) b p sp h
theorem size_196 : CC.size 196 = some 1 := by kernel_rfl
theorem zero_196 : CC.zero 196 = some (.nilFunc) := by kernel_rfl
theorem part_196 (l : List Value) (p : Nat) : partOf CC 196 l p = l[p]? := part_one' (by kernel_rfl) l p
theorem ld_196 (b p : Nat) (sp : Option Nat) (h : Heap) : aLoad CC 196 (.pointer (some ⟨b, p, sp⟩)) h = obind (rowAt h b) fun l => l[p]? := load_one (by kernel_rfl) b p sp h
theorem size_197 : CC.size 197 = some 1 := by kernel_rfl
theorem zero_197 : CC.zero 197 = some (.nilFunc) := by kernel_rfl
theorem part_197 (l : List Value) (p : Nat) : partOf CC 197 l p = l[p]? := part_one' (by kernel_rfl) l p
theorem ld_197 (b p : Nat) (sp : Option Nat) (h : Heap) : aLoad CC 197 (.pointer (some ⟨b, p, sp⟩)) h = obind (rowAt h b) fun l => l[p]? := load_one (by kernel_rfl) b p sp h
theorem size_198 : CC.size 198 = some 1 := by kernel_rfl
theorem zero_198 : CC.zero 198 = some (.nilFunc) := by kernel_rfl
theorem part_198 (l : List Value) (p : Nat) : partOf CC 198 l p = l[p]? := part_one' (by kernel_rfl) l p
theorem ld_198 (b p : Nat) (sp : Option Nat) (h : Heap) : aLoad CC 198 (.pointer (some ⟨b, p, sp⟩)) h = obind (rowAt h b) fun l => l[p]? := load_one (by kernel_rfl) b p sp h
theorem size_199 : CC.size 199 = some 1 := by kernel_rfl
theorem zero_199 : CC.zero 199 = some (.nilFunc) := by kernel_rfl
theorem part_199 (l : List Value) (p : Nat) : partOf CC 199 l p = l[p]? := part_one' (by kernel_rfl) l p
theorem ld_199 (b p : Nat) (sp : Option Nat) (h : Heap) : aLoad CC 199 (.pointer (some ⟨b, p, sp⟩)) h = obind (rowAt h b) fun l => l[p]? := load_one (by kernel_rfl) b p sp h
theorem mi_1 (v : Value) : aMakeIface CC 1 v = some (.val (.iface 1 v)) := make_iface (by kernel_rfl) v
theorem mi_2 (v : Value) : aMakeIface CC 2 v = some (.val (.iface 2 v)) := make_iface (by kernel_rfl) v
theorem mi_3 (v : Value) : aMakeIface CC 3 v = some (.val (.iface 3 v)) := make_iface (by kernel_rfl) v
theorem mi_4 (v : Value) : aMakeIface CC 4 v = some (.val (.iface 4 v)) := make_iface (by kernel_rfl) v
theorem mi_5 (v : Value) : aMakeIface CC 5 v = some (.val (.iface 5 v)) := make_iface (by kernel_rfl) v
theorem mi_6 (v : Value) : aMakeIface CC 6 v = some (.val (.iface 6 v)) := make_iface (by kernel_rfl) v
theorem sp_7_0 : structPlace CC 7 0 = some (0, 1) := place_struct fld_7_0
theorem sp_7_1 : structPlace CC 7 1 = some (1, 1) := place_struct fld_7_1
theorem sp_7_2 : structPlace CC 7 2 = some (2, 1) := place_struct fld_7_2
theorem sp_7_3 : structPlace CC 7 3 = some (3, 1) := place_struct fld_7_3
theorem bld_7 (p : List (Nat × Value)) : aBuild CC 7 p = obind (fillWith (structPlace CC 7) p [.int .i64 0, .int .i64 0, .bool false, .int .u8 0]) fun l => some (mkAgg l) := build_struct (by kernel_rfl) zero_7 p
theorem mi_7 (v : Value) : aMakeIface CC 7 v = some (.val (.iface 7 v)) := make_iface (by kernel_rfl) v
theorem sp_8_0 : structPlace CC 8 0 = some (0, 1) := place_struct fld_8_0
theorem sp_8_1 : structPlace CC 8 1 = some (1, 1) := place_struct fld_8_1
theorem sp_8_2 : structPlace CC 8 2 = some (2, 1) := place_struct fld_8_2
theorem sp_8_3 : structPlace CC 8 3 = some (3, 1) := place_struct fld_8_3
theorem bld_8 (p : List (Nat × Value)) : aBuild CC 8 p = obind (fillWith (structPlace CC 8) p [.int .i64 0, .int .i64 0, .bool false, .int .u8 0]) fun l => some (mkAgg l) := build_struct (by kernel_rfl) zero_8 p
theorem mi_8 (v : Value) : aMakeIface CC 8 v = some (.val (.iface 8 v)) := make_iface (by kernel_rfl) v
theorem mi_9 (v : Value) : aMakeIface CC 9 v = some (.val (.iface 9 v)) := make_iface (by kernel_rfl) v
theorem mi_10 (v : Value) : aMakeIface CC 10 v = some (.val (.iface 10 v)) := make_iface (by kernel_rfl) v
theorem mi_11 (v : Value) : aMakeIface CC 11 v = some (.val (.iface 11 v)) := make_iface (by kernel_rfl) v
theorem mi_12 (v : Value) : aMakeIface CC 12 v = some (.val (.iface 12 v)) := make_iface (by kernel_rfl) v
theorem sp_13_0 : structPlace CC 13 0 = some (0, 1) := place_struct fld_13_0
theorem sp_13_1 : structPlace CC 13 1 = some (1, 1) := place_struct fld_13_1
theorem bld_13 (p : List (Nat × Value)) : aBuild CC 13 p = obind (fillWith (structPlace CC 13) p [.string ⟨⟨[]⟩⟩, .int .u64 0]) fun l => some (mkAgg l) := build_struct (by kernel_rfl) zero_13 p
theorem mi_13 (v : Value) : aMakeIface CC 13 v = some (.val (.iface 13 v)) := make_iface (by kernel_rfl) v
theorem sp_14_0 : structPlace CC 14 0 = some (0, 1) := place_struct fld_14_0
theorem sp_14_1 : structPlace CC 14 1 = some (1, 1) := place_struct fld_14_1
theorem bld_14 (p : List (Nat × Value)) : aBuild CC 14 p = obind (fillWith (structPlace CC 14) p [.string ⟨⟨[]⟩⟩, .int .u64 0]) fun l => some (mkAgg l) := build_struct (by kernel_rfl) zero_14 p
theorem mi_14 (v : Value) : aMakeIface CC 14 v = some (.val (.iface 14 v)) := make_iface (by kernel_rfl) v
theorem mi_15 (v : Value) : aMakeIface CC 15 v = some (.val (.iface 15 v)) := make_iface (by kernel_rfl) v
theorem mi_16 (v : Value) : aMakeIface CC 16 v = some (.val (.iface 16 v)) := make_iface (by kernel_rfl) v
theorem mi_17 (v : Value) : aMakeIface CC 17 v = some (.val (.iface 17 v)) := make_iface (by kernel_rfl) v
theorem sp_18_0 : structPlace CC 18 0 = some (0, 1) := place_struct fld_18_0
theorem bld_18 (p : List (Nat × Value)) : aBuild CC 18 p = obind (fillWith (structPlace CC 18) p [.pointer none]) fun l => some (mkAgg l) := build_struct (by kernel_rfl) zero_18 p
theorem mi_18 (v : Value) : aMakeIface CC 18 v = some (.val (.iface 18 v)) := make_iface (by kernel_rfl) v
theorem sp_19_0 : structPlace CC 19 0 = some (0, 1) := place_struct fld_19_0
theorem bld_19 (p : List (Nat × Value)) : aBuild CC 19 p = obind (fillWith (structPlace CC 19) p [.pointer none]) fun l => some (mkAgg l) := build_struct (by kernel_rfl) zero_19 p
theorem mi_19 (v : Value) : aMakeIface CC 19 v = some (.val (.iface 19 v)) := make_iface (by kernel_rfl) v
theorem mi_21 (v : Value) : aMakeIface CC 21 v = some (.val (.iface 21 v)) := make_iface (by kernel_rfl) v
theorem mi_22 (v : Value) : aMakeIface CC 22 v = some (.val (.iface 22 v)) := make_iface (by kernel_rfl) v
theorem ix_22 (b o : Nat) (sp : Option Nat) (len cap i : Nat) (hi : i < len) : aIndexAddr CC 22 (.slice (some ⟨b, o, sp⟩) len cap) (.int .i64 i) = some (.pointer (some ⟨b, o + i * 1, none⟩)) := ix_slice und_22 size_3 b o sp len cap i hi
theorem bs_22 {v : Value} (h : cellsOf v = [v]) : aBuildSlice CC 22 1 [(0, v)] = some (.new (.row [v] 1 true) (sliceTo 1 1 1)) := buildSlice_one und_22 size_3 zero_3 rfl h
theorem app_22 : AppT CC 22 22 1 := appT (by kernel_rfl)
theorem mi_23 (v : Value) : aMakeIface CC 23 v = some (.val (.iface 23 v)) := make_iface (by kernel_rfl) v
theorem ix_23 (b o : Nat) (sp : Option Nat) (len cap i : Nat) (hi : i < len) : aIndexAddr CC 23 (.slice (some ⟨b, o, sp⟩) len cap) (.int .i64 i) = some (.pointer (some ⟨b, o + i * 5, none⟩)) := ix_slice und_23 size_72 b o sp len cap i hi
theorem app_23 : AppT CC 23 23 5 := appT (by kernel_rfl)
theorem mi_24 (v : Value) : aMakeIface CC 24 v = some (.val (.iface 24 v)) := make_iface (by kernel_rfl) v
theorem ix_24 (b o : Nat) (sp : Option Nat) (len cap i : Nat) (hi : i < len) : aIndexAddr CC 24 (.slice (some ⟨b, o, sp⟩) len cap) (.int .i64 i) = some (.pointer (some ⟨b, o + i * 5, none⟩)) := ix_slice und_24 size_41 b o sp len cap i hi
theorem app_24 : AppT CC 24 24 5 := appT (by kernel_rfl)
theorem sp_25_0 : structPlace CC 25 0 = some (0, 1) := place_struct fld_25_0
theorem sp_25_1 : structPlace CC 25 1 = some (1, 1) := place_struct fld_25_1
theorem sp_25_2 : structPlace CC 25 2 = some (2, 1) := place_struct fld_25_2
theorem bld_25 (p : List (Nat × Value)) : aBuild CC 25 p = obind (fillWith (structPlace CC 25) p [.slice none 0 0, .slice none 0 0, .slice none 0 0]) fun l => some (mkAgg l) := build_struct (by kernel_rfl) zero_25 p
theorem mi_25 (v : Value) : aMakeIface CC 25 v = some (.val (.iface 25 v)) := make_iface (by kernel_rfl) v
theorem sp_26_0 : structPlace CC 26 0 = some (0, 1) := place_struct fld_26_0
theorem sp_26_1 : structPlace CC 26 1 = some (1, 1) := place_struct fld_26_1
theorem sp_26_2 : structPlace CC 26 2 = some (2, 1) := place_struct fld_26_2
theorem bld_26 (p : List (Nat × Value)) : aBuild CC 26 p = obind (fillWith (structPlace CC 26) p [.slice none 0 0, .slice none 0 0, .slice none 0 0]) fun l => some (mkAgg l) := build_struct (by kernel_rfl) zero_26 p
theorem mi_26 (v : Value) : aMakeIface CC 26 v = some (.val (.iface 26 v)) := make_iface (by kernel_rfl) v
theorem mi_27 (v : Value) : aMakeIface CC 27 v = some (.val (.iface 27 v)) := make_iface (by kernel_rfl) v
theorem mi_28 (v : Value) : aMakeIface CC 28 v = some (.val (.iface 28 v)) := make_iface (by kernel_rfl) v
theorem sp_29_0 : structPlace CC 29 0 = some (0, 1) := place_struct fld_29_0
theorem sp_29_1 : structPlace CC 29 1 = some (1, 1) := place_struct fld_29_1
theorem bld_29 (p : List (Nat × Value)) : aBuild CC 29 p = obind (fillWith (structPlace CC 29) p [.int .i64 0, .int .i64 0]) fun l => some (mkAgg l) := build_struct (by kernel_rfl) zero_29 p
theorem mi_29 (v : Value) : aMakeIface CC 29 v = some (.val (.iface 29 v)) := make_iface (by kernel_rfl) v
theorem sp_30_0 : structPlace CC 30 0 = some (0, 1) := place_struct fld_30_0
theorem sp_30_1 : structPlace CC 30 1 = some (1, 1) := place_struct fld_30_1
theorem bld_30 (p : List (Nat × Value)) : aBuild CC 30 p = obind (fillWith (structPlace CC 30) p [.int .i64 0, .int .i64 0]) fun l => some (mkAgg l) := build_struct (by kernel_rfl) zero_30 p
theorem mi_30 (v : Value) : aMakeIface CC 30 v = some (.val (.iface 30 v)) := make_iface (by kernel_rfl) v
theorem mi_31 (v : Value) : aMakeIface CC 31 v = some (.val (.iface 31 v)) := make_iface (by kernel_rfl) v
theorem mi_33 (v : Value) : aMakeIface CC 33 v = some (.val (.iface 33 v)) := make_iface (by kernel_rfl) v
theorem mi_35 (v : Value) : aMakeIface CC 35 v = some (.val (.iface 35 v)) := make_iface (by kernel_rfl) v
theorem mi_36 (v : Value) : aMakeIface CC 36 v = some (.val (.iface 36 v)) := make_iface (by kernel_rfl) v
theorem mi_37 (v : Value) : aMakeIface CC 37 v = some (.val (.iface 37 v)) := make_iface (by kernel_rfl) v
theorem mi_38 (v : Value) : aMakeIface CC 38 v = some (.val (.iface 38 v)) := make_iface (by kernel_rfl) v
theorem mi_39 (v : Value) : aMakeIface CC 39 v = some (.val (.iface 39 v)) := make_iface (by kernel_rfl) v
theorem sp_40_0 : structPlace CC 40 0 = some (0, 1) := place_struct fld_40_0
theorem sp_40_1 : structPlace CC 40 1 = some (1, 1) := place_struct fld_40_1
theorem sp_40_2 : structPlace CC 40 2 = some (2, 1) := place_struct fld_40_2
theorem sp_40_3 : structPlace CC 40 3 = some (3, 1) := place_struct fld_40_3
theorem sp_40_4 : structPlace CC 40 4 = some (4, 1) := place_struct fld_40_4
theorem bld_40 (p : List (Nat × Value)) : aBuild CC 40 p = obind (fillWith (structPlace CC 40) p [.int .i64 0, .int .i64 0, .int .i64 0, .int .i64 0, .bool false]) fun l => some (mkAgg l) := build_struct (by kernel_rfl) zero_40 p
theorem mi_40 (v : Value) : aMakeIface CC 40 v = some (.val (.iface 40 v)) := make_iface (by kernel_rfl) v
theorem sp_41_0 : structPlace CC 41 0 = some (0, 1) := place_struct fld_41_0
theorem sp_41_1 : structPlace CC 41 1 = some (1, 1) := place_struct fld_41_1
theorem sp_41_2 : structPlace CC 41 2 = some (2, 1) := place_struct fld_41_2
theorem sp_41_3 : structPlace CC 41 3 = some (3, 1) := place_struct fld_41_3
theorem sp_41_4 : structPlace CC 41 4 = some (4, 1) := place_struct fld_41_4
theorem bld_41 (p : List (Nat × Value)) : aBuild CC 41 p = obind (fillWith (structPlace CC 41) p [.int .i64 0, .int .i64 0, .int .i64 0, .int .i64 0, .bool false]) fun l => some (mkAgg l) := build_struct (by kernel_rfl) zero_41 p
theorem mi_41 (v : Value) : aMakeIface CC 41 v = some (.val (.iface 41 v)) := make_iface (by kernel_rfl) v
theorem mi_42 (v : Value) : aMakeIface CC 42 v = some (.val (.iface 42 v)) := make_iface (by kernel_rfl) v
theorem mi_43 (v : Value) : aMakeIface CC 43 v = some (.val (.iface 43 v)) := make_iface (by kernel_rfl) v
theorem mi_45 (v : Value) : aMakeIface CC 45 v = some (.val (.iface 45 v)) := make_iface (by kernel_rfl) v
theorem mi_46 (v : Value) : aMakeIface CC 46 v = some (.val (.iface 46 v)) := make_iface (by kernel_rfl) v
theorem mi_47 (v : Value) : aMakeIface CC 47 v = some (.val (.iface 47 v)) := make_iface (by kernel_rfl) v
theorem mi_48 (v : Value) : aMakeIface CC 48 v = some (.val (.iface 48 v)) := make_iface (by kernel_rfl) v
theorem mi_49 (v : Value) : aMakeIface CC 49 v = some (.val (.iface 49 v)) := make_iface (by kernel_rfl) v
theorem mi_50 (v : Value) : aMakeIface CC 50 v = some (.val (.iface 50 v)) := make_iface (by kernel_rfl) v
theorem mi_52 (v : Value) : aMakeIface CC 52 v = some (.val (.iface 52 v)) := make_iface (by kernel_rfl) v
theorem mi_53 (v : Value) : aMakeIface CC 53 v = some (.val (.iface 53 v)) := make_iface (by kernel_rfl) v
theorem mi_54 (v : Value) : aMakeIface CC 54 v = some (.val (.iface 54 v)) := make_iface (by kernel_rfl) v
theorem ix_54 (b o : Nat) (sp : Option Nat) (len cap i : Nat) (hi : i < len) : aIndexAddr CC 54 (.slice (some ⟨b, o, sp⟩) len cap) (.int .i64 i) = some (.pointer (some ⟨b, o + i * 1, none⟩)) := ix_slice und_54 size_22 b o sp len cap i hi
theorem bs_54 {v : Value} (h : cellsOf v = [v]) : aBuildSlice CC 54 1 [(0, v)] = some (.new (.row [v] 1 true) (sliceTo 1 1 1)) := buildSlice_one und_54 size_22 zero_22 rfl h
theorem app_54 : AppT CC 54 54 1 := appT (by kernel_rfl)
theorem mi_55 (v : Value) : aMakeIface CC 55 v = some (.val (.iface 55 v)) := make_iface (by kernel_rfl) v
theorem mi_56 (v : Value) : aMakeIface CC 56 v = some (.val (.iface 56 v)) := make_iface (by kernel_rfl) v
theorem mi_57 (v : Value) : aMakeIface CC 57 v = some (.val (.iface 57 v)) := make_iface (by kernel_rfl) v
theorem mi_58 (v : Value) : aMakeIface CC 58 v = some (.val (.iface 58 v)) := make_iface (by kernel_rfl) v
theorem mi_59 (v : Value) : aMakeIface CC 59 v = some (.val (.iface 59 v)) := make_iface (by kernel_rfl) v
theorem mi_60 (v : Value) : aMakeIface CC 60 v = some (.val (.iface 60 v)) := make_iface (by kernel_rfl) v
theorem mi_62 (v : Value) : aMakeIface CC 62 v = some (.val (.iface 62 v)) := make_iface (by kernel_rfl) v
theorem mi_64 (v : Value) : aMakeIface CC 64 v = some (.val (.iface 64 v)) := make_iface (by kernel_rfl) v
theorem mi_66 (v : Value) : aMakeIface CC 66 v = some (.val (.iface 66 v)) := make_iface (by kernel_rfl) v
theorem mi_67 (v : Value) : aMakeIface CC 67 v = some (.val (.iface 67 v)) := make_iface (by kernel_rfl) v
theorem mi_68 (v : Value) : aMakeIface CC 68 v = some (.val (.iface 68 v)) := make_iface (by kernel_rfl) v
theorem mi_69 (v : Value) : aMakeIface CC 69 v = some (.val (.iface 69 v)) := make_iface (by kernel_rfl) v
theorem mi_70 (v : Value) : aMakeIface CC 70 v = some (.val (.iface 70 v)) := make_iface (by kernel_rfl) v
theorem sp_71_0 : structPlace CC 71 0 = some (0, 1) := place_struct fld_71_0
theorem sp_71_1 : structPlace CC 71 1 = some (1, 1) := place_struct fld_71_1
theorem sp_71_2 : structPlace CC 71 2 = some (2, 2) := place_struct fld_71_2
theorem sp_71_3 : structPlace CC 71 3 = some (4, 1) := place_struct fld_71_3
theorem bld_71 (p : List (Nat × Value)) : aBuild CC 71 p = obind (fillWith (structPlace CC 71) p [.int .i64 0, .int .i64 0, .int .i64 0, .int .i64 0, .int .i64 0]) fun l => some (mkAgg l) := build_struct (by kernel_rfl) zero_71 p
theorem mi_71 (v : Value) : aMakeIface CC 71 v = some (.val (.iface 71 v)) := make_iface (by kernel_rfl) v
theorem sp_72_0 : structPlace CC 72 0 = some (0, 1) := place_struct fld_72_0
theorem sp_72_1 : structPlace CC 72 1 = some (1, 1) := place_struct fld_72_1
theorem sp_72_2 : structPlace CC 72 2 = some (2, 2) := place_struct fld_72_2
theorem sp_72_3 : structPlace CC 72 3 = some (4, 1) := place_struct fld_72_3
theorem bld_72 (p : List (Nat × Value)) : aBuild CC 72 p = obind (fillWith (structPlace CC 72) p [.int .i64 0, .int .i64 0, .int .i64 0, .int .i64 0, .int .i64 0]) fun l => some (mkAgg l) := build_struct (by kernel_rfl) zero_72 p
theorem mi_72 (v : Value) : aMakeIface CC 72 v = some (.val (.iface 72 v)) := make_iface (by kernel_rfl) v
theorem mi_73 (v : Value) : aMakeIface CC 73 v = some (.val (.iface 73 v)) := make_iface (by kernel_rfl) v
theorem mi_74 (v : Value) : aMakeIface CC 74 v = some (.val (.iface 74 v)) := make_iface (by kernel_rfl) v
theorem mi_75 (v : Value) : aMakeIface CC 75 v = some (.val (.iface 75 v)) := make_iface (by kernel_rfl) v
theorem mi_76 (v : Value) : aMakeIface CC 76 v = some (.val (.iface 76 v)) := make_iface (by kernel_rfl) v
theorem mi_77 (v : Value) : aMakeIface CC 77 v = some (.val (.iface 77 v)) := make_iface (by kernel_rfl) v
theorem mi_78 (v : Value) : aMakeIface CC 78 v = some (.val (.iface 78 v)) := make_iface (by kernel_rfl) v
theorem mi_80 (v : Value) : aMakeIface CC 80 v = some (.val (.iface 80 v)) := make_iface (by kernel_rfl) v
theorem mi_82 (v : Value) : aMakeIface CC 82 v = some (.val (.iface 82 v)) := make_iface (by kernel_rfl) v
theorem mi_83 (v : Value) : aMakeIface CC 83 v = some (.val (.iface 83 v)) := make_iface (by kernel_rfl) v
theorem mi_84 (v : Value) : aMakeIface CC 84 v = some (.val (.iface 84 v)) := make_iface (by kernel_rfl) v
theorem mi_86 (v : Value) : aMakeIface CC 86 v = some (.val (.iface 86 v)) := make_iface (by kernel_rfl) v
theorem mi_87 (v : Value) : aMakeIface CC 87 v = some (.val (.iface 87 v)) := make_iface (by kernel_rfl) v
theorem mi_88 (v : Value) : aMakeIface CC 88 v = some (.val (.iface 88 v)) := make_iface (by kernel_rfl) v
theorem ix_88 (b o : Nat) (sp : Option Nat) (len cap i : Nat) (hi : i < len) : aIndexAddr CC 88 (.slice (some ⟨b, o, sp⟩) len cap) (.int .i64 i) = some (.pointer (some ⟨b, o + i * 1, none⟩)) := ix_slice und_88 size_5 b o sp len cap i hi
theorem bs_88 {v : Value} (h : cellsOf v = [v]) : aBuildSlice CC 88 1 [(0, v)] = some (.new (.row [v] 1 true) (sliceTo 1 1 1)) := buildSlice_one und_88 size_5 zero_5 rfl h
theorem app_88 : AppT CC 88 88 1 := appT (by kernel_rfl)
theorem mi_89 (v : Value) : aMakeIface CC 89 v = some (.val (.iface 89 v)) := make_iface (by kernel_rfl) v
theorem mi_91 (v : Value) : aMakeIface CC 91 v = some (.val (.iface 91 v)) := make_iface (by kernel_rfl) v
theorem mi_92 (v : Value) : aMakeIface CC 92 v = some (.val (.iface 92 v)) := make_iface (by kernel_rfl) v
theorem sp_93_0 : structPlace CC 93 0 = some (0, 3) := place_struct fld_93_0
theorem sp_93_1 : structPlace CC 93 1 = some (3, 1) := place_struct fld_93_1
theorem sp_93_2 : structPlace CC 93 2 = some (4, 1) := place_struct fld_93_2
theorem bld_93 (p : List (Nat × Value)) : aBuild CC 93 p = obind (fillWith (structPlace CC 93) p [.slice none 0 0, .slice none 0 0, .slice none 0 0, .slice none 0 0, .map none]) fun l => some (mkAgg l) := build_struct (by kernel_rfl) zero_93 p
theorem mi_93 (v : Value) : aMakeIface CC 93 v = some (.val (.iface 93 v)) := make_iface (by kernel_rfl) v
theorem sp_94_0 : structPlace CC 94 0 = some (0, 3) := place_struct fld_94_0
theorem sp_94_1 : structPlace CC 94 1 = some (3, 1) := place_struct fld_94_1
theorem sp_94_2 : structPlace CC 94 2 = some (4, 1) := place_struct fld_94_2
theorem bld_94 (p : List (Nat × Value)) : aBuild CC 94 p = obind (fillWith (structPlace CC 94) p [.slice none 0 0, .slice none 0 0, .slice none 0 0, .slice none 0 0, .map none]) fun l => some (mkAgg l) := build_struct (by kernel_rfl) zero_94 p
theorem mi_94 (v : Value) : aMakeIface CC 94 v = some (.val (.iface 94 v)) := make_iface (by kernel_rfl) v
theorem mi_95 (v : Value) : aMakeIface CC 95 v = some (.val (.iface 95 v)) := make_iface (by kernel_rfl) v
theorem mi_96 (v : Value) : aMakeIface CC 96 v = some (.val (.iface 96 v)) := make_iface (by kernel_rfl) v
theorem mi_97 (v : Value) : aMakeIface CC 97 v = some (.val (.iface 97 v)) := make_iface (by kernel_rfl) v
theorem mi_98 (v : Value) : aMakeIface CC 98 v = some (.val (.iface 98 v)) := make_iface (by kernel_rfl) v
theorem mi_99 (v : Value) : aMakeIface CC 99 v = some (.val (.iface 99 v)) := make_iface (by kernel_rfl) v
theorem mi_100 (v : Value) : aMakeIface CC 100 v = some (.val (.iface 100 v)) := make_iface (by kernel_rfl) v
theorem mi_101 (v : Value) : aMakeIface CC 101 v = some (.val (.iface 101 v)) := make_iface (by kernel_rfl) v
theorem mi_102 (v : Value) : aMakeIface CC 102 v = some (.val (.iface 102 v)) := make_iface (by kernel_rfl) v
theorem mi_103 (v : Value) : aMakeIface CC 103 v = some (.val (.iface 103 v)) := make_iface (by kernel_rfl) v
theorem mi_104 (v : Value) : aMakeIface CC 104 v = some (.val (.iface 104 v)) := make_iface (by kernel_rfl) v
theorem mi_105 (v : Value) : aMakeIface CC 105 v = some (.val (.iface 105 v)) := make_iface (by kernel_rfl) v
theorem sp_106_0 : structPlace CC 106 0 = some (0, 1) := place_struct fld_106_0
theorem bld_106 (p : List (Nat × Value)) : aBuild CC 106 p = obind (fillWith (structPlace CC 106) p [.int .i64 0]) fun l => some (mkAgg l) := build_struct (by kernel_rfl) zero_106 p
theorem mi_106 (v : Value) : aMakeIface CC 106 v = some (.val (.iface 106 v)) := make_iface (by kernel_rfl) v
theorem sp_107_0 : structPlace CC 107 0 = some (0, 1) := place_struct fld_107_0
theorem bld_107 (p : List (Nat × Value)) : aBuild CC 107 p = obind (fillWith (structPlace CC 107) p [.int .i64 0]) fun l => some (mkAgg l) := build_struct (by kernel_rfl) zero_107 p
theorem mi_107 (v : Value) : aMakeIface CC 107 v = some (.val (.iface 107 v)) := make_iface (by kernel_rfl) v
theorem mi_108 (v : Value) : aMakeIface CC 108 v = some (.val (.iface 108 v)) := make_iface (by kernel_rfl) v
theorem ix_108 (b o : Nat) (sp : Option Nat) (len cap i : Nat) (hi : i < len) : aIndexAddr CC 108 (.slice (some ⟨b, o, sp⟩) len cap) (.int .i64 i) = some (.pointer (some ⟨b, o + i * 2, none⟩)) := ix_slice und_108 size_110 b o sp len cap i hi
theorem app_108 : AppT CC 108 108 2 := appT (by kernel_rfl)
theorem sp_109_0 : structPlace CC 109 0 = some (0, 1) := place_struct fld_109_0
theorem sp_109_1 : structPlace CC 109 1 = some (1, 1) := place_struct fld_109_1
theorem bld_109 (p : List (Nat × Value)) : aBuild CC 109 p = obind (fillWith (structPlace CC 109) p [.int .i64 0, .int .i64 0]) fun l => some (mkAgg l) := build_struct (by kernel_rfl) zero_109 p
theorem mi_109 (v : Value) : aMakeIface CC 109 v = some (.val (.iface 109 v)) := make_iface (by kernel_rfl) v
theorem sp_110_0 : structPlace CC 110 0 = some (0, 1) := place_struct fld_110_0
theorem sp_110_1 : structPlace CC 110 1 = some (1, 1) := place_struct fld_110_1
theorem bld_110 (p : List (Nat × Value)) : aBuild CC 110 p = obind (fillWith (structPlace CC 110) p [.int .i64 0, .int .i64 0]) fun l => some (mkAgg l) := build_struct (by kernel_rfl) zero_110 p
theorem mi_110 (v : Value) : aMakeIface CC 110 v = some (.val (.iface 110 v)) := make_iface (by kernel_rfl) v
theorem mi_111 (v : Value) : aMakeIface CC 111 v = some (.val (.iface 111 v)) := make_iface (by kernel_rfl) v
theorem mi_112 (v : Value) : aMakeIface CC 112 v = some (.val (.iface 112 v)) := make_iface (by kernel_rfl) v
theorem bld_113 (p : List (Nat × Value)) : aBuild CC 113 p = obind (fillWith (rowPlace 1) p [.int .i64 0, .int .i64 0]) fun l => some (mkAgg l) := build_array und_113 size_3 zero_113 p
theorem ia_113_0 (b o : Nat) (sp : Option Nat) : aIndexAddr CC 113 (.pointer (some ⟨b, o, sp⟩)) (.int .i64 0) = some (.pointer (some ⟨b, o + 0, none⟩)) := indexAddr_array und_113 size_3 b o sp 0 (by decide)
theorem xi_113_0 (l : List Value) : aIndex CC 113 (.agg ⟨l⟩) (.int .i64 0) = l[0]? := index_array und_113 size_3 (by kernel_rfl) l 0 (by decide)
theorem ia_113_1 (b o : Nat) (sp : Option Nat) : aIndexAddr CC 113 (.pointer (some ⟨b, o, sp⟩)) (.int .i64 1) = some (.pointer (some ⟨b, o + 1, none⟩)) := indexAddr_array und_113 size_3 b o sp 1 (by decide)
theorem xi_113_1 (l : List Value) : aIndex CC 113 (.agg ⟨l⟩) (.int .i64 1) = l[1]? := index_array und_113 size_3 (by kernel_rfl) l 1 (by decide)
theorem mi_113 (v : Value) : aMakeIface CC 113 v = some (.val (.iface 113 v)) := make_iface (by kernel_rfl) v
theorem mi_114 (v : Value) : aMakeIface CC 114 v = some (.val (.iface 114 v)) := make_iface (by kernel_rfl) v
theorem mi_115 (v : Value) : aMakeIface CC 115 v = some (.val (.iface 115 v)) := make_iface (by kernel_rfl) v
theorem mi_116 (v : Value) : aMakeIface CC 116 v = some (.val (.iface 116 v)) := make_iface (by kernel_rfl) v
theorem mi_117 (v : Value) : aMakeIface CC 117 v = some (.val (.iface 117 v)) := make_iface (by kernel_rfl) v
theorem ix_117 (b o : Nat) (sp : Option Nat) (len cap i : Nat) (hi : i < len) : aIndexAddr CC 117 (.slice (some ⟨b, o, sp⟩) len cap) (.int .i64 i) = some (.pointer (some ⟨b, o + i * 1, none⟩)) := ix_slice und_117 size_9 b o sp len cap i hi
theorem bs_117 {v : Value} (h : cellsOf v = [v]) : aBuildSlice CC 117 1 [(0, v)] = some (.new (.row [v] 1 true) (sliceTo 1 1 1)) := buildSlice_one und_117 size_9 zero_9 rfl h
theorem app_117 : AppT CC 117 117 1 := appT (by kernel_rfl)
theorem mi_118 (v : Value) : aMakeIface CC 118 v = some (.val (.iface 118 v)) := make_iface (by kernel_rfl) v
theorem mi_119 (v : Value) : aMakeIface CC 119 v = some (.val (.iface 119 v)) := make_iface (by kernel_rfl) v
theorem mi_120 (v : Value) : aMakeIface CC 120 v = some (.val (.iface 120 v)) := make_iface (by kernel_rfl) v
theorem mi_121 (v : Value) : aMakeIface CC 121 v = some (.val (.iface 121 v)) := make_iface (by kernel_rfl) v
theorem mi_123 (v : Value) : aMakeIface CC 123 v = some (.val (.iface 123 v)) := make_iface (by kernel_rfl) v
theorem mi_125 (v : Value) : aMakeIface CC 125 v = some (.val (.iface 125 v)) := make_iface (by kernel_rfl) v
theorem mi_126 (v : Value) : aMakeIface CC 126 v = some (.val (.iface 126 v)) := make_iface (by kernel_rfl) v
theorem mi_127 (v : Value) : aMakeIface CC 127 v = some (.val (.iface 127 v)) := make_iface (by kernel_rfl) v
theorem sp_128_0 : structPlace CC 128 0 = some (0, 1) := place_struct fld_128_0
theorem bld_128 (p : List (Nat × Value)) : aBuild CC 128 p = obind (fillWith (structPlace CC 128) p [.string ⟨⟨[]⟩⟩]) fun l => some (mkAgg l) := build_struct (by kernel_rfl) zero_128 p
theorem mi_128 (v : Value) : aMakeIface CC 128 v = some (.val (.iface 128 v)) := make_iface (by kernel_rfl) v
theorem sp_129_0 : structPlace CC 129 0 = some (0, 1) := place_struct fld_129_0
theorem bld_129 (p : List (Nat × Value)) : aBuild CC 129 p = obind (fillWith (structPlace CC 129) p [.string ⟨⟨[]⟩⟩]) fun l => some (mkAgg l) := build_struct (by kernel_rfl) zero_129 p
theorem mi_129 (v : Value) : aMakeIface CC 129 v = some (.val (.iface 129 v)) := make_iface (by kernel_rfl) v
theorem mi_130 (v : Value) : aMakeIface CC 130 v = some (.val (.iface 130 v)) := make_iface (by kernel_rfl) v
theorem mi_131 (v : Value) : aMakeIface CC 131 v = some (.val (.iface 131 v)) := make_iface (by kernel_rfl) v
theorem mi_132 (v : Value) : aMakeIface CC 132 v = some (.val (.iface 132 v)) := make_iface (by kernel_rfl) v
theorem mi_133 (v : Value) : aMakeIface CC 133 v = some (.val (.iface 133 v)) := make_iface (by kernel_rfl) v
theorem mi_134 (v : Value) : aMakeIface CC 134 v = some (.val (.iface 134 v)) := make_iface (by kernel_rfl) v
theorem mi_135 (v : Value) : aMakeIface CC 135 v = some (.val (.iface 135 v)) := make_iface (by kernel_rfl) v
theorem mi_136 (v : Value) : aMakeIface CC 136 v = some (.val (.iface 136 v)) := make_iface (by kernel_rfl) v
theorem mi_137 (v : Value) : aMakeIface CC 137 v = some (.val (.iface 137 v)) := make_iface (by kernel_rfl) v
theorem ix_137 (b o : Nat) (sp : Option Nat) (len cap i : Nat) (hi : i < len) : aIndexAddr CC 137 (.slice (some ⟨b, o, sp⟩) len cap) (.int .i64 i) = some (.pointer (some ⟨b, o + i * 2, none⟩)) := ix_slice und_137 size_139 b o sp len cap i hi
theorem app_137 : AppT CC 137 137 2 := appT (by kernel_rfl)
theorem sp_138_0 : structPlace CC 138 0 = some (0, 1) := place_struct fld_138_0
theorem sp_138_1 : structPlace CC 138 1 = some (1, 1) := place_struct fld_138_1
theorem bld_138 (p : List (Nat × Value)) : aBuild CC 138 p = obind (fillWith (structPlace CC 138) p [.int .i64 0, .int .i64 0]) fun l => some (mkAgg l) := build_struct (by kernel_rfl) zero_138 p
theorem mi_138 (v : Value) : aMakeIface CC 138 v = some (.val (.iface 138 v)) := make_iface (by kernel_rfl) v
theorem sp_139_0 : structPlace CC 139 0 = some (0, 1) := place_struct fld_139_0
theorem sp_139_1 : structPlace CC 139 1 = some (1, 1) := place_struct fld_139_1
theorem bld_139 (p : List (Nat × Value)) : aBuild CC 139 p = obind (fillWith (structPlace CC 139) p [.int .i64 0, .int .i64 0]) fun l => some (mkAgg l) := build_struct (by kernel_rfl) zero_139 p
theorem mi_139 (v : Value) : aMakeIface CC 139 v = some (.val (.iface 139 v)) := make_iface (by kernel_rfl) v
theorem mi_140 (v : Value) : aMakeIface CC 140 v = some (.val (.iface 140 v)) := make_iface (by kernel_rfl) v
theorem mi_141 (v : Value) : aMakeIface CC 141 v = some (.val (.iface 141 v)) := make_iface (by kernel_rfl) v
theorem mi_142 (v : Value) : aMakeIface CC 142 v = some (.val (.iface 142 v)) := make_iface (by kernel_rfl) v
theorem bld_143 (p : List (Nat × Value)) : aBuild CC 143 p = obind (fillWith (rowPlace 1) p [.string ⟨⟨[]⟩⟩, .string ⟨⟨[]⟩⟩, .string ⟨⟨[]⟩⟩, .string ⟨⟨[]⟩⟩, .string ⟨⟨[]⟩⟩, .string ⟨⟨[]⟩⟩]) fun l => some (mkAgg l) := build_array und_143 size_9 zero_143 p
theorem ia_143_0 (b o : Nat) (sp : Option Nat) : aIndexAddr CC 143 (.pointer (some ⟨b, o, sp⟩)) (.int .i64 0) = some (.pointer (some ⟨b, o + 0, none⟩)) := indexAddr_array und_143 size_9 b o sp 0 (by decide)
theorem xi_143_0 (l : List Value) : aIndex CC 143 (.agg ⟨l⟩) (.int .i64 0) = l[0]? := index_array und_143 size_9 (by kernel_rfl) l 0 (by decide)
theorem ia_143_1 (b o : Nat) (sp : Option Nat) : aIndexAddr CC 143 (.pointer (some ⟨b, o, sp⟩)) (.int .i64 1) = some (.pointer (some ⟨b, o + 1, none⟩)) := indexAddr_array und_143 size_9 b o sp 1 (by decide)
theorem xi_143_1 (l : List Value) : aIndex CC 143 (.agg ⟨l⟩) (.int .i64 1) = l[1]? := index_array und_143 size_9 (by kernel_rfl) l 1 (by decide)
theorem ia_143_2 (b o : Nat) (sp : Option Nat) : aIndexAddr CC 143 (.pointer (some ⟨b, o, sp⟩)) (.int .i64 2) = some (.pointer (some ⟨b, o + 2, none⟩)) := indexAddr_array und_143 size_9 b o sp 2 (by decide)
theorem xi_143_2 (l : List Value) : aIndex CC 143 (.agg ⟨l⟩) (.int .i64 2) = l[2]? := index_array und_143 size_9 (by kernel_rfl) l 2 (by decide)
theorem ia_143_3 (b o : Nat) (sp : Option Nat) : aIndexAddr CC 143 (.pointer (some ⟨b, o, sp⟩)) (.int .i64 3) = some (.pointer (some ⟨b, o + 3, none⟩)) := indexAddr_array und_143 size_9 b o sp 3 (by decide)
theorem xi_143_3 (l : List Value) : aIndex CC 143 (.agg ⟨l⟩) (.int .i64 3) = l[3]? := index_array und_143 size_9 (by kernel_rfl) l 3 (by decide)
theorem ia_143_4 (b o : Nat) (sp : Option Nat) : aIndexAddr CC 143 (.pointer (some ⟨b, o, sp⟩)) (.int .i64 4) = some (.pointer (some ⟨b, o + 4, none⟩)) := indexAddr_array und_143 size_9 b o sp 4 (by decide)
theorem xi_143_4 (l : List Value) : aIndex CC 143 (.agg ⟨l⟩) (.int .i64 4) = l[4]? := index_array und_143 size_9 (by kernel_rfl) l 4 (by decide)
theorem ia_143_5 (b o : Nat) (sp : Option Nat) : aIndexAddr CC 143 (.pointer (some ⟨b, o, sp⟩)) (.int .i64 5) = some (.pointer (some ⟨b, o + 5, none⟩)) := indexAddr_array und_143 size_9 b o sp 5 (by decide)
theorem xi_143_5 (l : List Value) : aIndex CC 143 (.agg ⟨l⟩) (.int .i64 5) = l[5]? := index_array und_143 size_9 (by kernel_rfl) l 5 (by decide)
theorem mi_143 (v : Value) : aMakeIface CC 143 v = some (.val (.iface 143 v)) := make_iface (by kernel_rfl) v
theorem mi_144 (v : Value) : aMakeIface CC 144 v = some (.val (.iface 144 v)) := make_iface (by kernel_rfl) v
theorem mi_145 (v : Value) : aMakeIface CC 145 v = some (.val (.iface 145 v)) := make_iface (by kernel_rfl) v
theorem mi_146 (v : Value) : aMakeIface CC 146 v = some (.val (.iface 146 v)) := make_iface (by kernel_rfl) v
theorem mi_147 (v : Value) : aMakeIface CC 147 v = some (.val (.iface 147 v)) := make_iface (by kernel_rfl) v
theorem mi_148 (v : Value) : aMakeIface CC 148 v = some (.val (.iface 148 v)) := make_iface (by kernel_rfl) v
theorem mi_149 (v : Value) : aMakeIface CC 149 v = some (.val (.iface 149 v)) := make_iface (by kernel_rfl) v
theorem mi_150 (v : Value) : aMakeIface CC 150 v = some (.val (.iface 150 v)) := make_iface (by kernel_rfl) v
theorem mi_151 (v : Value) : aMakeIface CC 151 v = some (.val (.iface 151 v)) := make_iface (by kernel_rfl) v
theorem mi_152 (v : Value) : aMakeIface CC 152 v = some (.val (.iface 152 v)) := make_iface (by kernel_rfl) v
theorem sp_153_0 : structPlace CC 153 0 = some (0, 5) := place_struct fld_153_0
theorem sp_153_1 : structPlace CC 153 1 = some (5, 1) := place_struct fld_153_1
theorem bld_153 (p : List (Nat × Value)) : aBuild CC 153 p = obind (fillWith (structPlace CC 153) p [.int .i64 0, .int .i64 0, .int .i64 0, .int .i64 0, .bool false, .int .i64 0]) fun l => some (mkAgg l) := build_struct (by kernel_rfl) zero_153 p
theorem mi_153 (v : Value) : aMakeIface CC 153 v = some (.val (.iface 153 v)) := make_iface (by kernel_rfl) v
theorem sp_154_0 : structPlace CC 154 0 = some (0, 5) := place_struct fld_154_0
theorem sp_154_1 : structPlace CC 154 1 = some (5, 1) := place_struct fld_154_1
theorem bld_154 (p : List (Nat × Value)) : aBuild CC 154 p = obind (fillWith (structPlace CC 154) p [.int .i64 0, .int .i64 0, .int .i64 0, .int .i64 0, .bool false, .int .i64 0]) fun l => some (mkAgg l) := build_struct (by kernel_rfl) zero_154 p
theorem mi_154 (v : Value) : aMakeIface CC 154 v = some (.val (.iface 154 v)) := make_iface (by kernel_rfl) v
theorem sp_155_0 : structPlace CC 155 0 = some (0, 1) := place_struct fld_155_0
theorem sp_155_1 : structPlace CC 155 1 = some (1, 1) := place_struct fld_155_1
theorem bld_155 (p : List (Nat × Value)) : aBuild CC 155 p = obind (fillWith (structPlace CC 155) p [.int .i64 0, .int .i64 0]) fun l => some (mkAgg l) := build_struct (by kernel_rfl) zero_155 p
theorem mi_155 (v : Value) : aMakeIface CC 155 v = some (.val (.iface 155 v)) := make_iface (by kernel_rfl) v
theorem sp_156_0 : structPlace CC 156 0 = some (0, 1) := place_struct fld_156_0
theorem sp_156_1 : structPlace CC 156 1 = some (1, 1) := place_struct fld_156_1
theorem bld_156 (p : List (Nat × Value)) : aBuild CC 156 p = obind (fillWith (structPlace CC 156) p [.int .i64 0, .int .i64 0]) fun l => some (mkAgg l) := build_struct (by kernel_rfl) zero_156 p
theorem mi_156 (v : Value) : aMakeIface CC 156 v = some (.val (.iface 156 v)) := make_iface (by kernel_rfl) v
theorem mi_157 (v : Value) : aMakeIface CC 157 v = some (.val (.iface 157 v)) := make_iface (by kernel_rfl) v
theorem mi_158 (v : Value) : aMakeIface CC 158 v = some (.val (.iface 158 v)) := make_iface (by kernel_rfl) v
theorem mi_161 (v : Value) : aMakeIface CC 161 v = some (.val (.iface 161 v)) := make_iface (by kernel_rfl) v
theorem mi_162 (v : Value) : aMakeIface CC 162 v = some (.val (.iface 162 v)) := make_iface (by kernel_rfl) v
theorem mi_163 (v : Value) : aMakeIface CC 163 v = some (.val (.iface 163 v)) := make_iface (by kernel_rfl) v
theorem mi_164 (v : Value) : aMakeIface CC 164 v = some (.val (.iface 164 v)) := make_iface (by kernel_rfl) v
theorem mi_165 (v : Value) : aMakeIface CC 165 v = some (.val (.iface 165 v)) := make_iface (by kernel_rfl) v
theorem mi_166 (v : Value) : aMakeIface CC 166 v = some (.val (.iface 166 v)) := make_iface (by kernel_rfl) v
theorem mi_168 (v : Value) : aMakeIface CC 168 v = some (.val (.iface 168 v)) := make_iface (by kernel_rfl) v
theorem mi_169 (v : Value) : aMakeIface CC 169 v = some (.val (.iface 169 v)) := make_iface (by kernel_rfl) v
theorem bld_170 (p : List (Nat × Value)) : aBuild CC 170 p = obind (fillWith (rowPlace 1) p [.string ⟨⟨[]⟩⟩, .string ⟨⟨[]⟩⟩, .string ⟨⟨[]⟩⟩, .string ⟨⟨[]⟩⟩]) fun l => some (mkAgg l) := build_array und_170 size_9 zero_170 p
theorem ia_170_0 (b o : Nat) (sp : Option Nat) : aIndexAddr CC 170 (.pointer (some ⟨b, o, sp⟩)) (.int .i64 0) = some (.pointer (some ⟨b, o + 0, none⟩)) := indexAddr_array und_170 size_9 b o sp 0 (by decide)
theorem xi_170_0 (l : List Value) : aIndex CC 170 (.agg ⟨l⟩) (.int .i64 0) = l[0]? := index_array und_170 size_9 (by kernel_rfl) l 0 (by decide)
theorem ia_170_1 (b o : Nat) (sp : Option Nat) : aIndexAddr CC 170 (.pointer (some ⟨b, o, sp⟩)) (.int .i64 1) = some (.pointer (some ⟨b, o + 1, none⟩)) := indexAddr_array und_170 size_9 b o sp 1 (by decide)
theorem xi_170_1 (l : List Value) : aIndex CC 170 (.agg ⟨l⟩) (.int .i64 1) = l[1]? := index_array und_170 size_9 (by kernel_rfl) l 1 (by decide)
theorem ia_170_2 (b o : Nat) (sp : Option Nat) : aIndexAddr CC 170 (.pointer (some ⟨b, o, sp⟩)) (.int .i64 2) = some (.pointer (some ⟨b, o + 2, none⟩)) := indexAddr_array und_170 size_9 b o sp 2 (by decide)
theorem xi_170_2 (l : List Value) : aIndex CC 170 (.agg ⟨l⟩) (.int .i64 2) = l[2]? := index_array und_170 size_9 (by kernel_rfl) l 2 (by decide)
theorem ia_170_3 (b o : Nat) (sp : Option Nat) : aIndexAddr CC 170 (.pointer (some ⟨b, o, sp⟩)) (.int .i64 3) = some (.pointer (some ⟨b, o + 3, none⟩)) := indexAddr_array und_170 size_9 b o sp 3 (by decide)
theorem xi_170_3 (l : List Value) : aIndex CC 170 (.agg ⟨l⟩) (.int .i64 3) = l[3]? := index_array und_170 size_9 (by kernel_rfl) l 3 (by decide)
theorem mi_170 (v : Value) : aMakeIface CC 170 v = some (.val (.iface 170 v)) := make_iface (by kernel_rfl) v
theorem mi_171 (v : Value) : aMakeIface CC 171 v = some (.val (.iface 171 v)) := make_iface (by kernel_rfl) v
theorem mi_172 (v : Value) : aMakeIface CC 172 v = some (.val (.iface 172 v)) := make_iface (by kernel_rfl) v
theorem sp_173_0 : structPlace CC 173 0 = some (0, 1) := place_struct fld_173_0
theorem sp_173_1 : structPlace CC 173 1 = some (1, 1) := place_struct fld_173_1
theorem bld_173 (p : List (Nat × Value)) : aBuild CC 173 p = obind (fillWith (structPlace CC 173) p [.pointer none, .slice none 0 0]) fun l => some (mkAgg l) := build_struct (by kernel_rfl) zero_173 p
theorem mi_173 (v : Value) : aMakeIface CC 173 v = some (.val (.iface 173 v)) := make_iface (by kernel_rfl) v
theorem sp_174_0 : structPlace CC 174 0 = some (0, 1) := place_struct fld_174_0
theorem sp_174_1 : structPlace CC 174 1 = some (1, 1) := place_struct fld_174_1
theorem bld_174 (p : List (Nat × Value)) : aBuild CC 174 p = obind (fillWith (structPlace CC 174) p [.pointer none, .slice none 0 0]) fun l => some (mkAgg l) := build_struct (by kernel_rfl) zero_174 p
theorem mi_174 (v : Value) : aMakeIface CC 174 v = some (.val (.iface 174 v)) := make_iface (by kernel_rfl) v
theorem mi_175 (v : Value) : aMakeIface CC 175 v = some (.val (.iface 175 v)) := make_iface (by kernel_rfl) v
theorem mi_179 (v : Value) : aMakeIface CC 179 v = some (.val (.iface 179 v)) := make_iface (by kernel_rfl) v
theorem mi_180 (v : Value) : aMakeIface CC 180 v = some (.val (.iface 180 v)) := make_iface (by kernel_rfl) v
theorem mi_181 (v : Value) : aMakeIface CC 181 v = some (.val (.iface 181 v)) := make_iface (by kernel_rfl) v
theorem mi_182 (v : Value) : aMakeIface CC 182 v = some (.val (.iface 182 v)) := make_iface (by kernel_rfl) v
theorem mi_183 (v : Value) : aMakeIface CC 183 v = some (.val (.iface 183 v)) := make_iface (by kernel_rfl) v
theorem bld_184 (p : List (Nat × Value)) : aBuild CC 184 p = obind (fillWith (rowPlace 1) p [.nilFunc, .nilFunc, .nilFunc, .nilFunc]) fun l => some (mkAgg l) := build_array und_184 size_183 zero_184 p
theorem ia_184_0 (b o : Nat) (sp : Option Nat) : aIndexAddr CC 184 (.pointer (some ⟨b, o, sp⟩)) (.int .i64 0) = some (.pointer (some ⟨b, o + 0, none⟩)) := indexAddr_array und_184 size_183 b o sp 0 (by decide)
theorem xi_184_0 (l : List Value) : aIndex CC 184 (.agg ⟨l⟩) (.int .i64 0) = l[0]? := index_array und_184 size_183 (by kernel_rfl) l 0 (by decide)
theorem ia_184_1 (b o : Nat) (sp : Option Nat) : aIndexAddr CC 184 (.pointer (some ⟨b, o, sp⟩)) (.int .i64 1) = some (.pointer (some ⟨b, o + 1, none⟩)) := indexAddr_array und_184 size_183 b o sp 1 (by decide)
theorem xi_184_1 (l : List Value) : aIndex CC 184 (.agg ⟨l⟩) (.int .i64 1) = l[1]? := index_array und_184 size_183 (by kernel_rfl) l 1 (by decide)
theorem ia_184_2 (b o : Nat) (sp : Option Nat) : aIndexAddr CC 184 (.pointer (some ⟨b, o, sp⟩)) (.int .i64 2) = some (.pointer (some ⟨b, o + 2, none⟩)) := indexAddr_array und_184 size_183 b o sp 2 (by decide)
theorem xi_184_2 (l : List Value) : aIndex CC 184 (.agg ⟨l⟩) (.int .i64 2) = l[2]? := index_array und_184 size_183 (by kernel_rfl) l 2 (by decide)
theorem ia_184_3 (b o : Nat) (sp : Option Nat) : aIndexAddr CC 184 (.pointer (some ⟨b, o, sp⟩)) (.int .i64 3) = some (.pointer (some ⟨b, o + 3, none⟩)) := indexAddr_array und_184 size_183 b o sp 3 (by decide)
theorem xi_184_3 (l : List Value) : aIndex CC 184 (.agg ⟨l⟩) (.int .i64 3) = l[3]? := index_array und_184 size_183 (by kernel_rfl) l 3 (by decide)
theorem mi_184 (v : Value) : aMakeIface CC 184 v = some (.val (.iface 184 v)) := make_iface (by kernel_rfl) v
theorem bld_185 (p : List (Nat × Value)) : aBuild CC 185 p = obind (fillWith (structPlace CC 185) p []) fun l => some (mkAgg l) := build_struct (by kernel_rfl) zero_185 p
theorem mi_185 (v : Value) : aMakeIface CC 185 v = some (.val (.iface 185 v)) := make_iface (by kernel_rfl) v
theorem bld_186 (p : List (Nat × Value)) : aBuild CC 186 p = obind (fillWith (structPlace CC 186) p []) fun l => some (mkAgg l) := build_struct (by kernel_rfl) zero_186 p
theorem mi_186 (v : Value) : aMakeIface CC 186 v = some (.val (.iface 186 v)) := make_iface (by kernel_rfl) v
theorem bld_187 (p : List (Nat × Value)) : aBuild CC 187 p = obind (fillWith (structPlace CC 187) p []) fun l => some (mkAgg l) := build_struct (by kernel_rfl) zero_187 p
theorem mi_187 (v : Value) : aMakeIface CC 187 v = some (.val (.iface 187 v)) := make_iface (by kernel_rfl) v
theorem bld_188 (p : List (Nat × Value)) : aBuild CC 188 p = obind (fillWith (structPlace CC 188) p []) fun l => some (mkAgg l) := build_struct (by kernel_rfl) zero_188 p
theorem mi_188 (v : Value) : aMakeIface CC 188 v = some (.val (.iface 188 v)) := make_iface (by kernel_rfl) v
theorem bld_189 (p : List (Nat × Value)) : aBuild CC 189 p = obind (fillWith (structPlace CC 189) p []) fun l => some (mkAgg l) := build_struct (by kernel_rfl) zero_189 p
theorem mi_189 (v : Value) : aMakeIface CC 189 v = some (.val (.iface 189 v)) := make_iface (by kernel_rfl) v
theorem bld_190 (p : List (Nat × Value)) : aBuild CC 190 p = obind (fillWith (rowPlace 1) p [.nilIface, .nilIface, .nilIface, .nilIface]) fun l => some (mkAgg l) := build_array und_190 size_160 zero_190 p
theorem ia_190_0 (b o : Nat) (sp : Option Nat) : aIndexAddr CC 190 (.pointer (some ⟨b, o, sp⟩)) (.int .i64 0) = some (.pointer (some ⟨b, o + 0, none⟩)) := indexAddr_array und_190 size_160 b o sp 0 (by decide)
theorem xi_190_0 (l : List Value) : aIndex CC 190 (.agg ⟨l⟩) (.int .i64 0) = l[0]? := index_array und_190 size_160 (by kernel_rfl) l 0 (by decide)
theorem ia_190_1 (b o : Nat) (sp : Option Nat) : aIndexAddr CC 190 (.pointer (some ⟨b, o, sp⟩)) (.int .i64 1) = some (.pointer (some ⟨b, o + 1, none⟩)) := indexAddr_array und_190 size_160 b o sp 1 (by decide)
theorem xi_190_1 (l : List Value) : aIndex CC 190 (.agg ⟨l⟩) (.int .i64 1) = l[1]? := index_array und_190 size_160 (by kernel_rfl) l 1 (by decide)
theorem ia_190_2 (b o : Nat) (sp : Option Nat) : aIndexAddr CC 190 (.pointer (some ⟨b, o, sp⟩)) (.int .i64 2) = some (.pointer (some ⟨b, o + 2, none⟩)) := indexAddr_array und_190 size_160 b o sp 2 (by decide)
theorem xi_190_2 (l : List Value) : aIndex CC 190 (.agg ⟨l⟩) (.int .i64 2) = l[2]? := index_array und_190 size_160 (by kernel_rfl) l 2 (by decide)
theorem ia_190_3 (b o : Nat) (sp : Option Nat) : aIndexAddr CC 190 (.pointer (some ⟨b, o, sp⟩)) (.int .i64 3) = some (.pointer (some ⟨b, o + 3, none⟩)) := indexAddr_array und_190 size_160 b o sp 3 (by decide)
theorem xi_190_3 (l : List Value) : aIndex CC 190 (.agg ⟨l⟩) (.int .i64 3) = l[3]? := index_array und_190 size_160 (by kernel_rfl) l 3 (by decide)
theorem mi_190 (v : Value) : aMakeIface CC 190 v = some (.val (.iface 190 v)) := make_iface (by kernel_rfl) v
theorem mi_191 (v : Value) : aMakeIface CC 191 v = some (.val (.iface 191 v)) := make_iface (by kernel_rfl) v
theorem mi_193 (v : Value) : aMakeIface CC 193 v = some (.val (.iface 193 v)) := make_iface (by kernel_rfl) v
theorem mi_194 (v : Value) : aMakeIface CC 194 v = some (.val (.iface 194 v)) := make_iface (by kernel_rfl) v
theorem mi_196 (v : Value) : aMakeIface CC 196 v = some (.val (.iface 196 v)) := make_iface (by kernel_rfl) v
theorem mi_197 (v : Value) : aMakeIface CC 197 v = some (.val (.iface 197 v)) := make_iface (by kernel_rfl) v
theorem mi_198 (v : Value) : aMakeIface CC 198 v = some (.val (.iface 198 v)) := make_iface (by kernel_rfl) v
theorem mi_199 (v : Value) : aMakeIface CC 199 v = some (.val (.iface 199 v)) := make_iface (by kernel_rfl) v
end Go.Am
