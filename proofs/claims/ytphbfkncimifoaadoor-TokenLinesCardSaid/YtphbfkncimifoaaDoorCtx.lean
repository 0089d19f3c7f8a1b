import Derived.Test.YtphbfkncimifoaaDoorProg
import Derived.Test.YtphbfkncimifoaaDoorAbTell
namespace Go.Proofs.YtphbfkncimifoaaDoor
open Go Go.Ab
def ownL : List (Nat × Nat) := [(6, 48), (8, 5), (30, 5)]
def clrL : List (Nat × Nat × List Nat) := [(3, 9, [9, 10, 11, 26, 27, 28, 29, 30, 31, 32, 33, 34, 35, 36, 37, 38, 39, 40, 41, 42, 43, 44, 45, 46, 47, 48, 49, 50, 51, 52, 53, 54, 55]), (4, 22, [4, 12, 86, 87, 88, 89, 90, 91, 92, 93, 94, 95, 96, 97, 98, 99, 100, 107, 108, 109, 110, 111, 112, 113, 114, 121, 122, 123, 124, 125, 126, 127, 128, 129, 130, 131, 163, 164, 184, 185, 186]), (4, 7, [4, 7, 18, 19, 20, 21, 22, 23, 24, 25, 26, 27, 28, 29, 30, 31, 32, 33, 34, 35, 36, 37, 38, 39, 40, 41, 42, 43, 44, 45, 46, 47, 48, 49, 50, 51, 52, 53, 54, 55, 56, 57, 58, 59, 60, 61, 62, 63, 64, 65, 66, 67, 68, 69, 70, 71, 72, 73, 74, 75, 76, 77, 78, 79]), (5, 14, [2, 59, 60, 61, 62, 63, 64, 65, 66, 67, 68, 69, 70, 71, 78, 79, 103, 104, 112]), (5, 7, [2, 5, 6, 7, 13, 14, 15, 16, 17, 18, 19, 20, 21, 22, 23, 24, 25, 26, 27, 28, 29, 30, 31, 32, 33, 34, 35, 36, 46, 47, 52, 53, 58, 59, 60, 61, 62, 63, 64, 65, 66, 67, 68, 69, 70, 71, 78, 79, 103, 104, 112]), (9, 4, [15, 16, 17, 18, 19, 20, 21, 22]), (11, 4, [4, 11, 12, 13, 14, 15, 16, 17, 18, 19, 20, 21, 22, 23, 24, 25, 26, 27, 28, 41]), (12, 2, [2, 4, 5, 6, 7, 8, 9, 12, 13, 14, 15, 16, 17, 18, 19, 20, 21, 24, 25, 36, 37, 42]), (14, 5, [8, 9, 14, 15, 16, 17, 18, 19, 20, 21, 22, 23, 24, 25, 26, 27, 28, 29, 30, 31, 32]), (15, 3, [2, 8, 9, 10, 11, 14, 15, 16, 17, 18, 19, 20, 21, 22, 23]), (18, 4, [4, 11, 12, 13, 14, 15, 16, 17, 18, 19, 20, 21, 22, 23, 24, 25]), (22, 4, [4, 5, 14, 15, 16, 17, 18, 19, 20, 21, 22, 23, 24, 25]), (28, 2, [4, 5, 9, 10, 11, 12, 13, 14, 15, 16, 17, 18]), (34, 11, [8, 28, 29, 30, 31, 32, 33, 34]), (34, 3, [5, 12, 13, 14, 15, 16, 17, 18, 19, 20, 21, 22]), (36, 5, [2, 3, 4, 23, 24, 25, 26, 27, 28, 29, 30, 31, 32, 33, 34, 35, 36, 37, 38, 39, 40, 41, 46, 47, 50, 51, 52, 53, 54, 55, 56, 57, 58, 59, 60, 61, 62, 63]), (41, 41, [4, 18, 19, 136, 137, 138, 139, 140, 141, 142, 143, 144, 145, 146, 147, 148, 149, 150, 151, 152, 153, 154, 155, 156, 157, 158, 159, 160, 161, 162, 163, 164, 165, 174, 175, 176, 177, 178, 179, 180, 181, 182, 183, 184, 185, 189, 190, 191, 192, 193, 194, 195, 196, 197, 198, 199]), (41, 20, [4, 11, 12, 67, 68, 69, 70, 71, 72, 73, 74, 75, 76, 77, 78, 79, 80, 81, 82, 83, 84, 85, 86, 87, 88, 89, 90, 91, 92, 93, 94, 95, 96, 105, 106, 107, 108, 109, 110, 111, 112, 113, 114, 115, 116, 117, 118, 119, 120, 121, 122, 123, 124]), (50, 11, [4, 44, 45, 46, 47, 48, 49, 50, 51, 52, 53, 54, 55, 56, 57, 58, 59, 60, 61, 62, 63, 64, 65, 66, 67, 68, 69, 70, 71, 72, 73, 84, 85, 86, 87]), (50, 5, [18, 19, 20, 21, 22, 23, 24, 25, 26, 27, 28, 29, 30]), (52, 2, [4, 9, 10, 11, 12, 13, 14, 15, 16, 17, 18]), (53, 1, [5, 6, 7, 8, 13, 14, 15]), (54, 1, [5, 6, 7, 8, 16, 17, 18, 19, 20, 21]), (55, 2, [3, 5, 6, 7, 8, 9, 10, 11, 12, 13, 14, 15, 16, 17, 18, 19]), (56, 1, [5, 6, 7, 8, 9, 10, 11, 12, 13, 14]), (57, 1, [5, 6, 7, 8, 9, 10, 11, 12, 13, 14, 15, 16, 17, 18, 19, 20]), (58, 1, [5, 6, 7, 8, 9, 10, 11, 12, 13, 14, 15, 16, 17, 18, 19, 20, 21]), (59, 1, [5, 6, 7, 8, 9, 10, 11, 12, 13, 14, 15, 16, 17, 18, 19, 20, 21, 22, 23, 24, 25, 26, 27, 28, 29, 30, 31, 32]), (60, 10, [2, 3, 8, 50, 51, 52, 53, 54, 55, 56, 57, 58, 59, 60, 61, 62, 63]), (62, 8, [25, 26, 27, 28, 29, 30, 31, 32, 33, 34, 35, 36, 37]), (62, 3, [9, 10, 11, 12, 13, 14, 15, 16, 17, 18, 19, 20, 21, 22]), (66, 10, [25, 26, 27, 28, 29, 30, 31, 32, 33]), (73, 38, [4, 5, 6, 176, 177, 178, 179, 180, 181, 182]), (73, 29, [140, 141, 142, 143, 144, 145, 146, 147, 148, 149, 150, 151, 152, 153, 154, 155, 156]), (73, 25, [4, 16, 121, 122, 123, 124, 125, 126, 127, 128, 129, 130, 131, 132, 139, 140, 141, 142, 143, 144, 145, 146, 147, 148, 149, 150, 151, 152, 153, 154, 155, 156, 157, 158, 159]), (73, 12, [48, 49, 50, 51, 52, 53, 54, 55, 56, 57, 58, 59, 60, 61, 62, 63, 64]), (73, 5, [4, 10, 11, 12, 23, 24, 25, 26, 27, 28, 29, 30, 31, 32, 33, 34, 35, 36, 37, 38, 39, 40, 41, 42, 43, 44, 45, 46, 47, 48, 49, 50, 51, 52, 53, 54, 55, 56, 57, 58, 59, 60, 61, 62, 63, 64, 65, 66, 67, 68, 69, 70, 71, 72, 73, 74, 75, 76, 77, 78, 79, 80, 81, 82, 83, 84, 85, 86, 87, 88, 89, 90, 91, 92, 93, 94, 95, 96, 97, 98]), (75, 36, [6, 7, 15, 16, 17, 102, 103, 104, 105, 106, 107, 108, 109, 111, 112, 113, 114, 115, 118, 119, 120, 121, 122, 123, 124, 125, 129, 130, 131, 132, 133, 134, 135, 136, 137, 138, 139, 140, 141, 142, 143, 144, 145, 146, 147, 148, 149, 150, 151, 152, 153, 154, 155, 159, 160, 161, 162, 163]), (83, 10, [2, 51, 52, 53, 54, 55, 56, 57, 58, 59, 60, 61, 66, 67, 83, 84, 85, 86, 87, 88, 89, 90, 91]), (90, 1, [5, 6, 7, 8, 9, 10, 11, 19, 20, 21, 22, 23, 24, 25, 26, 27, 28, 29, 30, 31, 32, 33, 34, 35, 36, 37, 38, 39, 40, 41, 42, 43, 44, 45, 46, 47, 48, 49, 50, 51, 52, 53, 54, 55, 56, 57, 58, 59, 60, 61, 62, 63, 64, 65, 66, 67, 68, 69, 70, 71, 72, 73, 74, 75, 76, 77, 78, 79, 80, 81, 82, 83, 84, 85, 86, 87, 88, 89, 90, 91, 92, 93, 94, 95]), (91, 11, [44, 45, 46, 47, 48, 49, 50, 51, 52, 53, 54, 55, 56, 57]), (91, 18, [18, 66, 67, 68, 69, 70, 71, 72, 73, 74, 75, 76, 77, 78, 79, 80, 81, 82])]
def mgL : List (Nat × Nat × Nat) := [(3, 3, 24), (4, 31, 184), (4, 28, 121), (4, 25, 107), (5, 16, 112), (5, 11, 58), (6, 3, 18), (7, 7, 4), (7, 3, 25), (8, 2, 0), (10, 1, 4), (11, 6, 41), (12, 5, 42), (12, 2, 12), (13, 6, 2), (13, 8, 2), (13, 11, 2), (13, 13, 2), (13, 2, 13), (15, 9, 2), (15, 11, 2), (15, 14, 2), (15, 16, 2), (15, 3, 14), (16, 1, 4), (29, 6, 42), (29, 1, 20), (32, 6, 37), (36, 9, 50), (36, 1, 19), (38, 6, 35), (38, 3, 19), (41, 50, 189), (41, 46, 174), (41, 26, 105), (44, 3, 21), (44, 1, 12), (46, 1, 4), (50, 16, 84), (50, 8, 42), (53, 1, 13), (54, 1, 16), (60, 4, 39), (60, 2, 30), (64, 1, 10), (67, 19, 62), (67, 17, 52), (72, 24, 98), (72, 19, 75), (72, 14, 57), (73, 27, 139), (73, 18, 98), (73, 34, 160), (75, 56, 169), (75, 52, 159), (75, 44, 121), (75, 42, 112), (75, 40, 106), (75, 23, 83), (75, 18, 64), (75, 15, 52), (75, 12, 40), (75, 6, 25), (80, 3, 10), (80, 1, 3), (83, 12, 83), (83, 6, 46), (83, 3, 18), (86, 2, 17), (91, 1, 28)]
def fzL : List (Nat × Nat × List Nat) := [(3, 18, [6])]
def inlL : List Nat := [40]
def kilL : List Nat := [9,11]
def okL : List Nat := [3, 4, 5, 6, 7, 8, 9, 10, 11, 12, 13, 14, 15, 16, 17, 18, 19, 20, 21, 22, 23, 24, 25, 26, 27, 28, 29, 30, 31, 32, 33, 34, 35, 36, 38, 39, 40, 41, 42, 43, 44, 45, 46, 47, 49, 50, 51, 52, 53, 54, 55, 56, 57, 58, 59, 60, 61, 62, 63, 64, 65, 66, 67, 68, 69, 70, 71, 72, 73, 74, 75, 76, 77, 78, 79, 80, 82, 83, 84, 85, 86, 88, 89, 90, 91, 92, 93, 94, 95, 96, 97, 98]
abbrev f_law23_TokenPieces : FuncId := 3
abbrev f_law23_TokenLines : FuncId := 4
abbrev f_law23_TokenSmall : FuncId := 5
abbrev f_law23_TokenLiterals : FuncId := 6
abbrev f_law23_TokenFeeds : FuncId := 7
abbrev f_law23_alive : FuncId := 8
abbrev f_token_Feed : FuncId := 9
abbrev f_ref23_Same : FuncId := 10
abbrev f_ref23_Outs : FuncId := 11
abbrev f_law23_plain : FuncId := 12
abbrev f_token_Right : FuncId := 13
abbrev f_ref23_Feed : FuncId := 14
abbrev f_ref23_Right : FuncId := 15
abbrev f_token_Same : FuncId := 16
abbrev f_token_source_step : FuncId := 17
abbrev f_ref10_Texts : FuncId := 18
abbrev f_slices_ContainsFunc_string_string : FuncId := 19
abbrev f_token_Right_1 : FuncId := 20
abbrev f_ref23_one : FuncId := 21
abbrev f_slices_Equal_string_string : FuncId := 22
abbrev f_token_source_text : FuncId := 23
abbrev f_token_source_take : FuncId := 24
abbrev f_token_source_more : FuncId := 25
abbrev f_token_source_skip : FuncId := 26
abbrev f_token_source_tell : FuncId := 27
abbrev f_slices_IndexFunc_string_string : FuncId := 28
abbrev f_ref23_line : FuncId := 29
abbrev f_ref23_with : FuncId := 30
abbrev f_bytes_IndexByte : FuncId := 31
abbrev f_token_source_line : FuncId := 32
abbrev f_strings_TrimSuffix : FuncId := 33
abbrev f_slices_Concat_string_string : FuncId := 34
abbrev f_bytes_Cut : FuncId := 35
abbrev f_ref23_literal : FuncId := 36
abbrev f_i_bytealg_IndexByte : FuncId := 37
abbrev f_token_literal : FuncId := 38
abbrev f_i_stringslite_TrimSuffix : FuncId := 39
abbrev f_slices_Grow_string_string : FuncId := 40
abbrev f_bytes_Index : FuncId := 41
abbrev f_strings_CutSuffix : FuncId := 42
abbrev f_strings_LastIndexByte : FuncId := 43
abbrev f_strings_Trim : FuncId := 44
abbrev f_strconv_Atoi : FuncId := 45
abbrev f_i_stringslite_HasSuffix : FuncId := 46
abbrev f_bytes_Equal : FuncId := 47
abbrev f_i_bytealg_Index : FuncId := 48
abbrev f_i_bytealg_Cutover : FuncId := 49
abbrev f_i_bytealg_IndexRabinKarp_byte : FuncId := 50
abbrev f_i_stringslite_CutSuffix : FuncId := 51
abbrev f_i_bytealg_LastIndexByteString : FuncId := 52
abbrev f_strings_trimLeftByte : FuncId := 53
abbrev f_strings_trimRightByte : FuncId := 54
abbrev f_strings_makeASCIISet : FuncId := 55
abbrev f_strings_trimLeftASCII : FuncId := 56
abbrev f_strings_trimRightASCII : FuncId := 57
abbrev f_strings_trimLeftUnicode : FuncId := 58
abbrev f_strings_trimRightUnicode : FuncId := 59
abbrev f_i_strconv_Atoi : FuncId := 60
abbrev f_strconv_toError : FuncId := 61
abbrev f_i_bytealg_hashStr_byte : FuncId := 62
abbrev f_strings_asciiSet_contains : FuncId := 63
abbrev f_utf8_DecodeRuneInString : FuncId := 64
abbrev f_strings_ContainsRune : FuncId := 65
abbrev f_utf8_DecodeLastRuneInString : FuncId := 66
abbrev f_i_strconv_ParseInt : FuncId := 67
abbrev f_strconv_syntaxError : FuncId := 68
abbrev f_strconv_rangeError : FuncId := 69
abbrev f_strconv_baseError : FuncId := 70
abbrev f_strconv_bitSizeError : FuncId := 71
abbrev f_utf8_decodeRuneInStringSlow : FuncId := 72
abbrev f_strings_IndexRune : FuncId := 73
abbrev f_utf8_RuneStart : FuncId := 74
abbrev f_i_strconv_ParseUint : FuncId := 75
abbrev f_i_stringslite_Clone : FuncId := 76
abbrev f_errors_New : FuncId := 77
abbrev f_strconv_Itoa : FuncId := 78
abbrev f_strings_IndexByte : FuncId := 79
abbrev f_utf8_ValidRune : FuncId := 80
abbrev f_i_bytealg_IndexString : FuncId := 81
abbrev f_i_strconv_lower : FuncId := 82
abbrev f_i_strconv_underscoreOK : FuncId := 83
abbrev f_i_strconv_Itoa : FuncId := 84
abbrev f_i_stringslite_IndexByte : FuncId := 85
abbrev f_i_strconv_FormatInt : FuncId := 86
abbrev f_i_bytealg_IndexByteString : FuncId := 87
abbrev f_i_strconv_small : FuncId := 88
abbrev f_i_strconv_numDigits : FuncId := 89
abbrev f_i_strconv_formatBase10 : FuncId := 90
abbrev f_i_strconv_formatBits : FuncId := 91
abbrev f_i_strconv_log10Pow2 : FuncId := 92
abbrev f_bits_Len64 : FuncId := 93
abbrev f_i_strconv_bool2_int : FuncId := 94
abbrev f_i_strconv_isPowerOfTwo : FuncId := 95
abbrev f_bits_TrailingZeros : FuncId := 96
abbrev f_bits_TrailingZeros32 : FuncId := 97
abbrev f_bits_TrailingZeros64 : FuncId := 98
abbrev f_runtime_boundsError_Error : FuncId := 99
abbrev f_runtime_boundsError_RuntimeError : FuncId := 100
abbrev f_runtime_errorString_Error : FuncId := 101
abbrev f_runtime_errorString_RuntimeError : FuncId := 102
abbrev f_runtime_plainError_Error : FuncId := 103
abbrev f_runtime_plainError_RuntimeError : FuncId := 104
abbrev f_runtime_errorAddressString_Error : FuncId := 105
abbrev f_runtime_errorAddressString_RuntimeError : FuncId := 106
abbrev f_runtime_TypeAssertionError_Error : FuncId := 107
abbrev f_runtime_TypeAssertionError_RuntimeError : FuncId := 108
abbrev f_runtime_PanicNilError_Error : FuncId := 109
abbrev f_runtime_PanicNilError_RuntimeError : FuncId := 110
abbrev f_i_abi_Type_Align : FuncId := 111
abbrev f_i_runtime_maps_unhashableTypeError_Error : FuncId := 112
abbrev f_i_runtime_maps_unhashableTypeError_RuntimeError : FuncId := 113
abbrev f_i_strconv_Error_Error : FuncId := 114
abbrev f_strconv_NumError_Error : FuncId := 115
abbrev f_errors_errorString_Error : FuncId := 116
abbrev f_i_abi_Kind_String : FuncId := 117
abbrev f_gosem_cut_vars : FuncId := 127
def gL : List (Nat × AV) := [(1, .junk), (2, .junk)]
def gX (g : Nat) : Option AV := match gL.find? fun p => Nat.beq p.1 g with | some p => some p.2 | none => none
noncomputable def X : Ctx := { P := Tryd.prog, G := gX, own := fun f d => ownL.any fun p => Nat.beq p.1 f && Nat.beq p.2 d, clr := fun f k => match clrL.find? fun p => Nat.beq p.1 f && Nat.beq p.2.1 k with | some p => p.2.2 | none => [], fz := fun f k => match fzL.find? fun p => Nat.beq p.1 f && Nat.beq p.2.1 k with | some p => p.2.2 | none => [], mg := fun f k => match mgL.find? fun p => Nat.beq p.1 f && Nat.beq p.2.1 k with | some p => some p.2.2 | none => none, kil := fun f => kilL.any fun g => Nat.beq g f, inl := fun f => inlL.any fun g => Nat.beq g f, ok := fun f => okL.any fun g => Nat.beq g f }
def ovL : List (Nat × (List AV → Option AV)) := [(87, xIndexByteString)]
def ovr (f : FuncId) : Option (List AV → Option AV) := match ovL.find? fun p => Nat.beq p.1 f with | some p => some p.2 | none => none

theorem soundX : Sound X := sound_of okL (by kernel_rfl) (by kernel_rfl) (fun g h => h)
set_option maxRecDepth 100000 in
theorem ovr_ok (g : FuncId) (f : List AV → Option AV) (h : ovr g = some f) (xs : List AV) (v : AV) (hv : f xs = some v) : PureCall X g xs v := by
  unfold ovr at h
  split at h
  · rename_i p hp
    have hm := List.mem_of_find?_eq_some hp
    have hg := List.find?_some hp
    cases h
    obtain rfl := Nat.eq_of_beq_eq_true hg
    simp only [ovL, List.mem_cons, List.not_mem_nil, or_false] at hm
    rcases hm with rfl
    · exact xIndexByteString_ok (fn := Tryd.f87) Tryd.func87 (by kernel_rfl) (by kernel_rfl) (by kernel_rfl) (by kernel_rfl) xs v hv
  · cases h
theorem ok_nil : KOk X (tabK []) := tab_ok [] tab_nil
end Go.Proofs.YtphbfkncimifoaaDoor
