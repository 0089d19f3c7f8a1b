import Derived.Test.YtckbjhmiopjlkaaDoorProg
import Derived.Test.YtckbjhmiopjlkaaDoorAbTell
namespace Go.Proofs.YtckbjhmiopjlkaaDoor
open Go Go.Ab
def ownL : List (Nat × Nat) := [(28, 5), (33, 7)]
def clrL : List (Nat × Nat × List Nat) := [(3, 7, [10, 21, 22, 23, 24, 25, 26, 27, 28, 29, 30, 31, 32, 33, 34, 35, 36, 37, 38, 39, 40, 41, 42, 43, 44, 45, 46, 47, 48, 49, 50, 51, 52, 53, 54, 55, 56, 57, 58]), (5, 8, [20, 21, 22, 23, 24, 25, 26, 27, 34]), (10, 2, [6, 8, 9, 10, 11, 12, 13, 14, 17, 18, 19, 20, 21, 22, 23, 24, 25, 26, 27, 28, 29, 30, 31, 32, 33, 34, 35, 36, 37, 38, 39, 40, 41, 47]), (11, 2, [2, 4, 5, 6, 7, 8, 9, 10, 11, 12, 13, 14, 15, 21, 22, 37]), (12, 4, [4, 11, 12, 13, 14, 15, 16, 17, 18, 19, 20, 21, 22, 23, 24, 25]), (14, 3, [7, 8, 9, 10, 11, 12, 13, 14, 15, 16, 17, 18, 19, 20, 21, 22, 23, 24, 25, 26, 27, 28, 29, 30, 31]), (15, 4, [4, 11, 12, 13, 14, 15, 16, 17, 18, 19, 20, 21, 22, 23, 24, 25]), (16, 3, [5, 6, 10, 11, 12, 13, 14, 15, 16, 17, 18, 27, 28, 29, 30, 31, 32, 33, 34, 35, 36, 37, 38, 39]), (17, 3, [5, 6, 7, 8, 9, 10, 11, 12, 13, 14, 15, 16, 29, 30, 31, 32, 33, 34, 35, 36, 37, 38, 39, 40, 41, 42, 43, 44, 45, 46, 47, 48, 49, 50]), (19, 6, [2, 3, 7, 8, 14, 15, 16, 17, 18, 19, 20, 21, 22, 23, 24, 25, 26, 27, 28, 29, 30, 31, 32, 33, 34, 35, 36, 37, 38, 39, 40, 41, 42, 43, 47, 48, 59, 60, 61, 62, 63]), (20, 5, [6, 7, 14, 15, 16, 17, 18, 19, 20, 21, 22, 23, 24, 25, 26, 27, 28, 29, 30, 31, 32, 33, 34, 35]), (21, 5, [9, 10, 11, 12, 13, 14, 15, 16, 17, 18, 19, 20, 21, 22, 23, 24, 25, 26, 27, 28, 29, 30, 31, 32, 33, 34, 35, 36, 37, 38, 39, 40, 41, 42, 43, 44, 45, 46]), (23, 2, [2, 4, 5, 6, 7, 8, 11, 12, 13, 14, 15, 16, 17, 18, 19, 20, 27, 28, 35, 36, 43]), (27, 5, [7, 16, 17, 18, 19, 20, 21, 22, 23, 24, 25, 26, 27, 28, 29, 30, 31, 32, 33, 34, 35]), (33, 3, [8, 9, 10, 11, 12, 13, 14, 15, 16, 17, 18, 19, 20, 21, 22, 23, 24, 25, 26, 27, 28, 29, 30, 31, 32, 33, 34, 35, 36, 37, 38]), (34, 7, [2, 14, 15, 16, 17, 18, 19, 20, 21, 22, 23, 24, 29, 30, 33, 34, 35, 36, 37, 38, 39, 40, 41]), (36, 22, [10, 66, 67, 68, 69, 70, 71, 72, 73]), (36, 12, [7, 42, 43, 44, 45, 46, 47, 48, 49, 50, 51, 52, 53, 54, 55]), (40, 2, [4, 5, 9, 10, 11, 12, 13, 14, 15, 16, 17, 18]), (41, 2, [4, 5, 9, 10, 11, 12, 13, 14, 15, 16, 17, 18]), (50, 5, [7, 8, 29, 30, 31, 32, 33, 34, 35, 36, 37, 38, 39, 40, 41, 42, 43, 44, 45, 46, 47, 48]), (50, 1, [5, 6, 12, 13, 14, 15, 16, 17, 18, 19, 20, 21, 22, 23, 24, 25, 26, 27, 28]), (53, 15, [4, 11, 12, 13, 57, 58, 59, 60, 61, 62, 63, 64, 65, 66, 67, 68, 69, 70, 71, 72, 73, 74, 75, 76, 77, 78, 79, 80, 81, 82, 83, 84, 93, 94, 95, 96, 97, 98, 99, 100, 101, 102, 107, 108, 109, 110, 111, 112, 113, 114, 115, 116, 117, 118, 119, 120, 121, 127, 128, 132, 133, 134, 135, 136, 137, 138, 139, 140, 141, 142]), (54, 36, [6, 7, 15, 16, 17, 102, 103, 104, 105, 106, 107, 108, 109, 111, 112, 113, 114, 115, 118, 119, 120, 121, 122, 123, 124, 125, 129, 130, 131, 132, 133, 134, 135, 136, 137, 138, 139, 140, 141, 142, 143, 144, 145, 146, 147, 148, 149, 150, 151, 152, 153, 154, 155, 159, 160, 161, 162, 163]), (63, 11, [4, 41, 42, 43, 44, 45, 46, 47, 48, 49, 50, 51, 52, 53, 54, 55, 56, 57, 58, 59, 60, 61, 62, 63, 64, 65, 66, 67, 68, 77, 78, 79, 80]), (63, 5, [18, 19, 20, 21, 22, 23, 24, 25, 26, 27, 28, 29]), (65, 10, [2, 51, 52, 53, 54, 55, 56, 57, 58, 59, 60, 61, 66, 67, 83, 84, 85, 86, 87, 88, 89, 90, 91]), (74, 8, [24, 25, 26, 27, 28, 29, 30, 31, 32, 33, 34, 35, 36]), (74, 3, [9, 10, 11, 12, 13, 14, 15, 16, 17, 18, 19, 20, 21]), (79, 1, [5, 6, 7, 8, 9, 10, 11, 19, 20, 21, 22, 23, 24, 25, 26, 27, 28, 29, 30, 31, 32, 33, 34, 35, 36, 37, 38, 39, 40, 41, 42, 43, 44, 45, 46, 47, 48, 49, 50, 51, 52, 53, 54, 55, 56, 57, 58, 59, 60, 61, 62, 63, 64, 65, 66, 67, 68, 69, 70, 71, 72, 73, 74, 75, 76, 77, 78, 79, 80, 81, 82, 83, 84, 85, 86, 87, 88, 89, 90, 91, 92, 93, 94, 95]), (80, 11, [44, 45, 46, 47, 48, 49, 50, 51, 52, 53, 54, 55, 56, 57]), (80, 18, [18, 66, 67, 68, 69, 70, 71, 72, 73, 74, 75, 76, 77, 78, 79, 80, 81, 82])]
def mgL : List (Nat × Nat × Nat) := [(3, 3, 20), (4, 9, 6), (4, 3, 16), (5, 11, 4), (5, 10, 6), (5, 3, 17), (6, 9, 4), (6, 3, 22), (7, 14, 4), (7, 8, 42), (7, 3, 22), (10, 9, 47), (10, 2, 17), (11, 4, 37), (16, 6, 27), (17, 6, 29), (18, 11, 51), (19, 12, 59), (22, 1, 2), (23, 6, 2), (23, 4, 43), (23, 2, 11), (26, 2, 4), (34, 9, 33), (34, 3, 13), (38, 1, 2), (39, 1, 2), (51, 1, 10), (53, 30, 132), (53, 25, 107), (53, 21, 93), (53, 8, 36), (53, 2, 16), (54, 56, 169), (54, 52, 159), (54, 44, 121), (54, 42, 112), (54, 40, 106), (54, 23, 83), (54, 18, 64), (54, 15, 52), (54, 12, 40), (54, 6, 25), (59, 24, 98), (59, 19, 75), (59, 14, 57), (63, 16, 77), (63, 8, 39), (65, 12, 83), (65, 6, 46), (65, 3, 18), (70, 2, 17), (80, 1, 28)]
def fzL : List (Nat × Nat × List Nat) := [(9, 2, [4, 5, 7]), (3, 17, [7, 8]), (20, 12, [4])]
def inlL : List Nat := [27,28]
def okL : List Nat := [3, 4, 5, 6, 7, 8, 9, 10, 11, 12, 13, 14, 15, 16, 17, 18, 19, 20, 21, 22, 23, 24, 25, 26, 27, 28, 29, 30, 31, 32, 33, 34, 35, 36, 37, 38, 39, 40, 41, 42, 43, 44, 45, 46, 47, 48, 49, 50, 51, 52, 53, 54, 55, 56, 57, 58, 59, 60, 62, 63, 64, 65, 66, 67, 68, 69, 70, 74, 75, 76, 77, 78, 79, 80, 81, 82, 83, 84, 85, 86, 87]
def gl_i_strconv_uint64pow10 : List AV := [(.v (.int .u64 1)), (.v (.int .u64 10)), (.v (.int .u64 100)), (.v (.int .u64 1000)), (.v (.int .u64 10000)), (.v (.int .u64 100000)), (.v (.int .u64 1000000)), (.v (.int .u64 10000000)), (.v (.int .u64 100000000)), (.v (.int .u64 1000000000)), (.v (.int .u64 10000000000)), (.v (.int .u64 100000000000)), (.v (.int .u64 1000000000000)), (.v (.int .u64 10000000000000)), (.v (.int .u64 100000000000000)), (.v (.int .u64 1000000000000000)), (.v (.int .u64 10000000000000000)), (.v (.int .u64 100000000000000000)), (.v (.int .u64 1000000000000000000)), (.v (.int .u64 10000000000000000000))]
abbrev f_law09_UidsTurned : FuncId := 3
abbrev f_law09_UidsPicks : FuncId := 4
abbrev f_law09_UidsOf : FuncId := 5
abbrev f_law09_UidsTexts : FuncId := 6
abbrev f_law09_UidsBack : FuncId := 7
abbrev f_law09_alive : FuncId := 8
abbrev f_uids_Has : FuncId := 9
abbrev f_ref09_Has : FuncId := 10
abbrev f_ref09_Rising : FuncId := 11
abbrev f_ref09_Ints : FuncId := 12
abbrev f_uids_Pick : FuncId := 13
abbrev f_ref09_Pick : FuncId := 14
abbrev f_ref09_Same : FuncId := 15
abbrev f_uids_Of : FuncId := 16
abbrev f_ref09_Of : FuncId := 17
abbrev f_uids_Parse : FuncId := 18
abbrev f_ref09_Parse : FuncId := 19
abbrev f_uids_Print : FuncId := 20
abbrev f_ref09_Print : FuncId := 21
abbrev f_uids_Right : FuncId := 22
abbrev f_ref09_Right : FuncId := 23
abbrev f_uids_Has_1 : FuncId := 24
abbrev f_slices_ContainsFunc_api_Range_api_Range : FuncId := 25
abbrev f_uids_Has_2 : FuncId := 26
abbrev f_slices_DeleteFunc_int_int : FuncId := 27
abbrev f_slices_Clone_int_int : FuncId := 28
abbrev f_uids_Pick_1 : FuncId := 29
abbrev f_strings_SplitSeq : FuncId := 30
abbrev f_strings_Cut : FuncId := 31
abbrev f_uids_number : FuncId := 32
abbrev f_ref09_split : FuncId := 33
abbrev f_ref09_number : FuncId := 34
abbrev f_uids_end : FuncId := 35
abbrev f_strings_Join : FuncId := 36
abbrev f_ref09_end : FuncId := 37
abbrev f_uids_Right_1 : FuncId := 38
abbrev f_uids_may : FuncId := 39
abbrev f_slices_IndexFunc_api_Range_api_Range : FuncId := 40
abbrev f_slices_IndexFunc_int_int : FuncId := 41
abbrev f_strings_splitSeq : FuncId := 42
abbrev f_i_stringslite_Cut : FuncId := 43
abbrev f_strconv_ParseUint : FuncId := 44
abbrev f_strconv_Itoa : FuncId := 45
abbrev f_strings_Builder_Grow : FuncId := 46
abbrev f_strings_Builder_WriteString : FuncId := 47
abbrev f_strings_Builder_String : FuncId := 48
abbrev f_ref09_Digits : FuncId := 49
abbrev f_strings_splitSeq_1 : FuncId := 50
abbrev f_utf8_DecodeRuneInString : FuncId := 51
abbrev f_strings_Index : FuncId := 52
abbrev f_i_stringslite_Index : FuncId := 53
abbrev f_i_strconv_ParseUint : FuncId := 54
abbrev f_strconv_toError : FuncId := 55
abbrev f_i_strconv_Itoa : FuncId := 56
abbrev f_strings_Builder_copyCheck : FuncId := 57
abbrev f_strings_Builder_grow : FuncId := 58
abbrev f_utf8_decodeRuneInStringSlow : FuncId := 59
abbrev f_i_stringslite_IndexByte : FuncId := 60
abbrev f_i_bytealg_IndexString : FuncId := 61
abbrev f_i_bytealg_Cutover : FuncId := 62
abbrev f_i_bytealg_IndexRabinKarp_string : FuncId := 63
abbrev f_i_strconv_lower : FuncId := 64
abbrev f_i_strconv_underscoreOK : FuncId := 65
abbrev f_strconv_syntaxError : FuncId := 66
abbrev f_strconv_rangeError : FuncId := 67
abbrev f_strconv_baseError : FuncId := 68
abbrev f_strconv_bitSizeError : FuncId := 69
abbrev f_i_strconv_FormatInt : FuncId := 70
abbrev f_i_abi_NoEscape : FuncId := 71
abbrev f_i_bytealg_MakeNoZero : FuncId := 72
abbrev f_i_bytealg_IndexByteString : FuncId := 73
abbrev f_i_bytealg_hashStr_string : FuncId := 74
abbrev f_i_stringslite_Clone : FuncId := 75
abbrev f_errors_New : FuncId := 76
abbrev f_i_strconv_small : FuncId := 77
abbrev f_i_strconv_numDigits : FuncId := 78
abbrev f_i_strconv_formatBase10 : FuncId := 79
abbrev f_i_strconv_formatBits : FuncId := 80
abbrev f_i_strconv_log10Pow2 : FuncId := 81
abbrev f_bits_Len64 : FuncId := 82
abbrev f_i_strconv_bool2_int : FuncId := 83
abbrev f_i_strconv_isPowerOfTwo : FuncId := 84
abbrev f_bits_TrailingZeros : FuncId := 85
abbrev f_bits_TrailingZeros32 : FuncId := 86
abbrev f_bits_TrailingZeros64 : FuncId := 87
abbrev f_runtime_boundsError_Error : FuncId := 88
abbrev f_runtime_boundsError_RuntimeError : FuncId := 89
abbrev f_runtime_errorString_Error : FuncId := 90
abbrev f_runtime_errorString_RuntimeError : FuncId := 91
abbrev f_runtime_plainError_Error : FuncId := 92
abbrev f_runtime_plainError_RuntimeError : FuncId := 93
abbrev f_runtime_errorAddressString_Error : FuncId := 94
abbrev f_runtime_errorAddressString_RuntimeError : FuncId := 95
abbrev f_runtime_TypeAssertionError_Error : FuncId := 96
abbrev f_runtime_TypeAssertionError_RuntimeError : FuncId := 97
abbrev f_runtime_PanicNilError_Error : FuncId := 98
abbrev f_runtime_PanicNilError_RuntimeError : FuncId := 99
abbrev f_i_abi_Type_Align : FuncId := 100
abbrev f_i_runtime_maps_unhashableTypeError_Error : FuncId := 101
abbrev f_i_runtime_maps_unhashableTypeError_RuntimeError : FuncId := 102
abbrev f_api_Errno_Error : FuncId := 103
abbrev f_strings_Builder_Reset : FuncId := 104
abbrev f_i_strconv_Error_Error : FuncId := 105
abbrev f_strconv_NumError_Error : FuncId := 106
abbrev f_errors_errorString_Error : FuncId := 107
abbrev f_i_abi_Kind_String : FuncId := 108
abbrev f_gosem_cut_vars : FuncId := 118
def gL : List (Nat × AV) := [(3, .junk), (4, .junk), (5, (.agg gl_i_strconv_uint64pow10))]
def gX (g : Nat) : Option AV := match gL.find? fun p => Nat.beq p.1 g with | some p => some p.2 | none => none
noncomputable def X : Ctx := { P := Tryd.prog, G := gX, own := fun f d => ownL.any fun p => Nat.beq p.1 f && Nat.beq p.2 d, clr := fun f k => match clrL.find? fun p => Nat.beq p.1 f && Nat.beq p.2.1 k with | some p => p.2.2 | none => [], fz := fun f k => match fzL.find? fun p => Nat.beq p.1 f && Nat.beq p.2.1 k with | some p => p.2.2 | none => [], mg := fun f k => match mgL.find? fun p => Nat.beq p.1 f && Nat.beq p.2.1 k with | some p => some p.2.2 | none => none, inl := fun f => inlL.any fun g => Nat.beq g f, ok := fun f => okL.any fun g => Nat.beq g f }
def ovL : List (Nat × (List AV → Option AV)) := [(73, xIndexByteString)]
def ovr (f : FuncId) : Option (List AV → Option AV) := match ovL.find? fun p => Nat.beq p.1 f with | some p => some p.2 | none => none

theorem soundX : Sound X := sound_of okL (by kernel_rfl) (by kernel_rfl) (fun g h => h)
set_option maxRecDepth 100000 in
theorem ovr_ok (g : FuncId) (f : List AV → Option AV) (h : ovr g = some f) (xs : List AV) (v : AV) (hv : f xs = some v) : PureCall X g xs v := by
  unfold ovr at h
  split at h
  · rename_i p hp
    have hm := List.mem_of_find?_eq_some hp
    have hg := List.find?_some hp
    cases h
    obtain rfl := Nat.eq_of_beq_eq_true hg
    simp only [ovL, List.mem_cons, List.not_mem_nil, or_false] at hm
    rcases hm with rfl
    · exact xIndexByteString_ok (fn := Tryd.f73) Tryd.func73 (by kernel_rfl) (by kernel_rfl) (by kernel_rfl) (by kernel_rfl) xs v hv
  · cases h
theorem ok_nil : KOk X (tabK []) := tab_ok [] tab_nil
end Go.Proofs.YtckbjhmiopjlkaaDoor
