import Derived.Test.YtmiffikcnkgcpaaDoorProg
import Derived.Test.YtmiffikcnkgcpaaDoorAbTell
namespace Go.Proofs.YtmiffikcnkgcpaaDoor
open Go Go.Ab
def ownL : List (Nat × Nat) := [(3, 68)]
def clrL : List (Nat × Nat × List Nat) := [(3, 13, [69, 70, 71, 72, 73, 74, 75, 76, 77, 78, 79, 80]), (8, 7, [25, 26, 27, 34, 35, 36]), (8, 4, [14, 15, 16, 22, 23, 24]), (15, 4, [6, 7, 12, 13, 26, 27, 28, 29, 30, 32, 33, 39, 40, 44, 45, 51, 52, 53, 54, 55, 56, 57]), (17, 8, [4, 5, 8, 9, 10, 11, 29, 30, 31, 32, 33, 34, 35, 36, 37, 38, 39, 40, 43, 44, 51, 52, 53, 54, 55, 56]), (21, 16, [10, 11, 50, 51, 52, 53, 54, 55, 56, 57, 58, 59, 60, 61, 62, 63]), (21, 4, [7, 8, 15, 16, 17, 18, 19, 20, 21, 22, 23, 24, 25, 26, 27, 28, 29, 30, 31, 32, 33, 34]), (26, 11, [11, 34, 35, 36, 37, 38, 39, 40, 41, 42, 43, 44, 45, 46, 47, 48, 49, 50, 51, 52, 53, 54, 55, 56, 57]), (28, 30, [107, 108, 109, 110, 114, 115, 116]), (28, 17, [4, 10, 11, 12, 13, 68, 69, 70, 71, 72, 73, 74, 75, 76, 77, 78, 79, 80, 81, 82, 83, 84, 85, 86, 87, 88, 89, 90, 91, 92, 93, 94, 97, 98, 104, 105, 106, 107, 108, 109, 110, 114, 115, 116, 117, 118, 119]), (28, 3, [4, 7, 8, 19, 20, 21, 22, 23, 24, 25, 26, 27, 28, 29, 30, 31, 32, 33, 34, 35, 36, 37, 38, 39, 40, 41, 42, 43, 44, 47, 48, 54]), (37, 6, [8, 9, 22, 23, 24, 25, 26, 27, 28, 29, 30, 31, 32, 33, 34, 35, 36, 37, 38, 39, 40, 41]), (38, 6, [4, 6, 20, 21, 22, 23, 24, 25, 26, 27, 28, 29, 30, 31, 32, 33]), (42, 7, [5, 24, 25, 26, 27, 28, 29, 30, 31, 32, 33, 34, 35, 36, 37, 38, 39, 40, 41, 42, 43]), (44, 1, [5, 6, 7, 8, 13, 14, 15]), (45, 1, [5, 6, 7, 8, 16, 17, 18, 19, 20, 21]), (46, 2, [3, 5, 6, 7, 8, 9, 10, 11, 12, 13, 14, 15, 16, 17, 18, 19]), (47, 1, [5, 6, 7, 8, 9, 10, 11, 12, 13, 14]), (48, 1, [5, 6, 7, 8, 9, 10, 11, 12, 13, 14, 15, 16, 17, 18, 19, 20]), (49, 1, [5, 6, 7, 8, 9, 10, 11, 12, 13, 14, 15, 16, 17, 18, 19, 20, 21]), (50, 1, [5, 6, 7, 8, 9, 10, 11, 12, 13, 14, 15, 16, 17, 18, 19, 20, 21, 22, 23, 24, 25, 26, 27, 28, 29, 30, 31, 32]), (51, 2, [5, 6, 7, 8]), (53, 15, [4, 11, 12, 13, 57, 58, 59, 60, 61, 62, 63, 64, 65, 66, 67, 68, 69, 70, 71, 72, 73, 74, 75, 76, 77, 78, 79, 80, 81, 82, 83, 84, 93, 94, 95, 96, 97, 98, 99, 100, 101, 102, 107, 108, 109, 110, 111, 112, 113, 114, 115, 116, 117, 118, 119, 120, 121, 127, 128, 132, 133, 134, 135, 136, 137, 138, 139, 140, 141, 142]), (54, 10, [2, 3, 8, 50, 51, 52, 53, 54, 55, 56, 57, 58, 59, 60, 61, 62, 63]), (57, 3, [4, 7, 8, 11, 12, 13, 14, 15, 16, 17, 18, 19, 20, 21, 22, 23, 24, 25, 26, 27, 28, 29, 30, 38, 39, 40, 41, 42, 43, 44, 45, 46, 47, 48, 49]), (61, 10, [25, 26, 27, 28, 29, 30, 31, 32, 33]), (65, 11, [4, 41, 42, 43, 44, 45, 46, 47, 48, 49, 50, 51, 52, 53, 54, 55, 56, 57, 58, 59, 60, 61, 62, 63, 64, 65, 66, 67, 68, 77, 78, 79, 80]), (65, 5, [18, 19, 20, 21, 22, 23, 24, 25, 26, 27, 28, 29]), (71, 38, [4, 5, 6, 176, 177, 178, 179, 180, 181, 182]), (71, 29, [140, 141, 142, 143, 144, 145, 146, 147, 148, 149, 150, 151, 152, 153, 154, 155, 156]), (71, 25, [4, 16, 121, 122, 123, 124, 125, 126, 127, 128, 129, 130, 131, 132, 139, 140, 141, 142, 143, 144, 145, 146, 147, 148, 149, 150, 151, 152, 153, 154, 155, 156, 157, 158, 159]), (71, 12, [48, 49, 50, 51, 52, 53, 54, 55, 56, 57, 58, 59, 60, 61, 62, 63, 64]), (71, 5, [4, 10, 11, 12, 23, 24, 25, 26, 27, 28, 29, 30, 31, 32, 33, 34, 35, 36, 37, 38, 39, 40, 41, 42, 43, 44, 45, 46, 47, 48, 49, 50, 51, 52, 53, 54, 55, 56, 57, 58, 59, 60, 61, 62, 63, 64, 65, 66, 67, 68, 69, 70, 71, 72, 73, 74, 75, 76, 77, 78, 79, 80, 81, 82, 83, 84, 85, 86, 87, 88, 89, 90, 91, 92, 93, 94, 95, 96, 97, 98]), (74, 8, [24, 25, 26, 27, 28, 29, 30, 31, 32, 33, 34, 35, 36]), (74, 3, [9, 10, 11, 12, 13, 14, 15, 16, 17, 18, 19, 20, 21]), (75, 36, [6, 7, 15, 16, 17, 102, 103, 104, 105, 106, 107, 108, 109, 111, 112, 113, 114, 115, 118, 119, 120, 121, 122, 123, 124, 125, 129, 130, 131, 132, 133, 134, 135, 136, 137, 138, 139, 140, 141, 142, 143, 144, 145, 146, 147, 148, 149, 150, 151, 152, 153, 154, 155, 159, 160, 161, 162, 163]), (82, 10, [2, 51, 52, 53, 54, 55, 56, 57, 58, 59, 60, 61, 66, 67, 83, 84, 85, 86, 87, 88, 89, 90, 91]), (87, 1, [5, 6, 7, 8, 9, 10, 11, 19, 20, 21, 22, 23, 24, 25, 26, 27, 28, 29, 30, 31, 32, 33, 34, 35, 36, 37, 38, 39, 40, 41, 42, 43, 44, 45, 46, 47, 48, 49, 50, 51, 52, 53, 54, 55, 56, 57, 58, 59, 60, 61, 62, 63, 64, 65, 66, 67, 68, 69, 70, 71, 72, 73, 74, 75, 76, 77, 78, 79, 80, 81, 82, 83, 84, 85, 86, 87, 88, 89, 90, 91, 92, 93, 94, 95]), (88, 11, [44, 45, 46, 47, 48, 49, 50, 51, 52, 53, 54, 55, 56, 57]), (88, 18, [18, 66, 67, 68, 69, 70, 71, 72, 73, 74, 75, 76, 77, 78, 79, 80, 81, 82])]
def mgL : List (Nat × Nat × Nat) := [(3, 17, 4), (3, 5, 33), (4, 14, 15), (4, 9, 62), (4, 6, 4), (5, 6, 0), (6, 1, 14), (7, 12, 85), (7, 9, 73), (7, 4, 37), (7, 1, 24), (8, 7, 34), (8, 4, 22), (8, 1, 10), (10, 1, 15), (11, 5, 30), (12, 13, 81), (12, 6, 48), (12, 4, 24), (15, 6, 51), (17, 11, 51), (17, 2, 19), (18, 4, 22), (19, 2, 29), (20, 1, 6), (22, 1, 2), (23, 2, 2), (27, 1, 24), (28, 30, 114), (28, 27, 104), (28, 11, 54), (31, 1, 2), (32, 2, 19), (34, 3, 21), (34, 1, 12), (35, 1, 4), (36, 1, 4), (37, 2, 18), (41, 1, 10), (42, 12, 57), (42, 1, 13), (44, 1, 13), (45, 1, 16), (53, 30, 132), (53, 25, 107), (53, 21, 93), (53, 8, 36), (53, 2, 16), (54, 4, 39), (54, 2, 30), (56, 24, 98), (56, 19, 75), (56, 14, 57), (57, 6, 38), (65, 16, 77), (65, 8, 39), (66, 19, 62), (66, 17, 52), (71, 27, 139), (71, 18, 98), (71, 34, 160), (75, 56, 169), (75, 52, 159), (75, 44, 121), (75, 42, 112), (75, 40, 106), (75, 23, 83), (75, 18, 64), (75, 15, 52), (75, 12, 40), (75, 6, 25), (80, 3, 10), (80, 1, 3), (82, 12, 83), (82, 6, 46), (82, 3, 18), (84, 2, 17), (88, 1, 28)]
def inlL : List Nat := []
def okL : List Nat := [3, 4, 5, 6, 7, 8, 9, 10, 11, 12, 13, 14, 15, 16, 17, 18, 19, 20, 21, 22, 23, 24, 25, 26, 27, 28, 29, 30, 31, 32, 33, 34, 35, 36, 37, 38, 39, 40, 41, 42, 43, 44, 45, 46, 47, 48, 49, 50, 51, 53, 54, 55, 56, 57, 58, 59, 60, 61, 62, 64, 65, 66, 67, 68, 69, 70, 71, 72, 74, 75, 76, 77, 78, 79, 80, 81, 82, 83, 84, 85, 86, 87, 88, 89, 90, 91, 92, 93, 94, 95]
def gl_date_names : List AV := [(.v (.string ⟨#[74, 97, 110]⟩)), (.v (.string ⟨#[70, 101, 98]⟩)), (.v (.string ⟨#[77, 97, 114]⟩)), (.v (.string ⟨#[65, 112, 114]⟩)), (.v (.string ⟨#[77, 97, 121]⟩)), (.v (.string ⟨#[74, 117, 110]⟩)), (.v (.string ⟨#[74, 117, 108]⟩)), (.v (.string ⟨#[65, 117, 103]⟩)), (.v (.string ⟨#[83, 101, 112]⟩)), (.v (.string ⟨#[79, 99, 116]⟩)), (.v (.string ⟨#[78, 111, 118]⟩)), (.v (.string ⟨#[68, 101, 99]⟩))]
def gl_date_ahead : List AV := [(.v (.int .i64 0)), (.v (.int .i64 31)), (.v (.int .i64 59)), (.v (.int .i64 90)), (.v (.int .i64 120)), (.v (.int .i64 151)), (.v (.int .i64 181)), (.v (.int .i64 212)), (.v (.int .i64 243)), (.v (.int .i64 273)), (.v (.int .i64 304)), (.v (.int .i64 334)), (.v (.int .i64 365))]
abbrev f_law07_DateZones : FuncId := 3
abbrev f_law07_DateBack : FuncId := 4
abbrev f_law07_alive : FuncId := 5
abbrev f_date_Print : FuncId := 6
abbrev f_date_Parse : FuncId := 7
abbrev f_date_Civil : FuncId := 8
abbrev f_date_Day : FuncId := 9
abbrev f_date_Number : FuncId := 10
abbrev f_date_Short : FuncId := 11
abbrev f_date_Mail : FuncId := 12
abbrev f_date_two : FuncId := 13
abbrev f_strings_Split : FuncId := 14
abbrev f_date_calendar : FuncId := 15
abbrev f_strings_TrimPrefix : FuncId := 16
abbrev f_date_clock : FuncId := 17
abbrev f_date_zone : FuncId := 18
abbrev f_date_count : FuncId := 19
abbrev f_date_there : FuncId := 20
abbrev f_strings_FieldsFunc : FuncId := 21
abbrev f_date_Mail_1 : FuncId := 22
abbrev f_date_week : FuncId := 23
abbrev f_strings_HasPrefix : FuncId := 24
abbrev f_strings_HasSuffix : FuncId := 25
abbrev f_strings_genSplit : FuncId := 26
abbrev f_date_number : FuncId := 27
abbrev f_strings_EqualFold : FuncId := 28
abbrev f_i_stringslite_TrimPrefix : FuncId := 29
abbrev f_date_leaps : FuncId := 30
abbrev f_date_leap : FuncId := 31
abbrev f_date_days : FuncId := 32
abbrev f_strings_CutSuffix : FuncId := 33
abbrev f_strings_Trim : FuncId := 34
abbrev f_i_stringslite_HasPrefix : FuncId := 35
abbrev f_i_stringslite_HasSuffix : FuncId := 36
abbrev f_strings_explode : FuncId := 37
abbrev f_strings_Count : FuncId := 38
abbrev f_strings_Index : FuncId := 39
abbrev f_strconv_Atoi : FuncId := 40
abbrev f_utf8_DecodeRuneInString : FuncId := 41
abbrev f_unicode_SimpleFold : FuncId := 42
abbrev f_i_stringslite_CutSuffix : FuncId := 43
abbrev f_strings_trimLeftByte : FuncId := 44
abbrev f_strings_trimRightByte : FuncId := 45
abbrev f_strings_makeASCIISet : FuncId := 46
abbrev f_strings_trimLeftASCII : FuncId := 47
abbrev f_strings_trimRightASCII : FuncId := 48
abbrev f_strings_trimLeftUnicode : FuncId := 49
abbrev f_strings_trimRightUnicode : FuncId := 50
abbrev f_utf8_RuneCountInString : FuncId := 51
abbrev f_i_bytealg_CountString : FuncId := 52
abbrev f_i_stringslite_Index : FuncId := 53
abbrev f_i_strconv_Atoi : FuncId := 54
abbrev f_strconv_toError : FuncId := 55
abbrev f_utf8_decodeRuneInStringSlow : FuncId := 56
abbrev f_unicode_lookupCaseRange : FuncId := 57
abbrev f_unicode_convertCase : FuncId := 58
abbrev f_strings_asciiSet_contains : FuncId := 59
abbrev f_strings_ContainsRune : FuncId := 60
abbrev f_utf8_DecodeLastRuneInString : FuncId := 61
abbrev f_i_stringslite_IndexByte : FuncId := 62
abbrev f_i_bytealg_IndexString : FuncId := 63
abbrev f_i_bytealg_Cutover : FuncId := 64
abbrev f_i_bytealg_IndexRabinKarp_string : FuncId := 65
abbrev f_i_strconv_ParseInt : FuncId := 66
abbrev f_strconv_syntaxError : FuncId := 67
abbrev f_strconv_rangeError : FuncId := 68
abbrev f_strconv_baseError : FuncId := 69
abbrev f_strconv_bitSizeError : FuncId := 70
abbrev f_strings_IndexRune : FuncId := 71
abbrev f_utf8_RuneStart : FuncId := 72
abbrev f_i_bytealg_IndexByteString : FuncId := 73
abbrev f_i_bytealg_hashStr_string : FuncId := 74
abbrev f_i_strconv_ParseUint : FuncId := 75
abbrev f_i_stringslite_Clone : FuncId := 76
abbrev f_errors_New : FuncId := 77
abbrev f_strconv_Itoa : FuncId := 78
abbrev f_strings_IndexByte : FuncId := 79
abbrev f_utf8_ValidRune : FuncId := 80
abbrev f_i_strconv_lower : FuncId := 81
abbrev f_i_strconv_underscoreOK : FuncId := 82
abbrev f_i_strconv_Itoa : FuncId := 83
abbrev f_i_strconv_FormatInt : FuncId := 84
abbrev f_i_strconv_small : FuncId := 85
abbrev f_i_strconv_numDigits : FuncId := 86
abbrev f_i_strconv_formatBase10 : FuncId := 87
abbrev f_i_strconv_formatBits : FuncId := 88
abbrev f_i_strconv_log10Pow2 : FuncId := 89
abbrev f_bits_Len64 : FuncId := 90
abbrev f_i_strconv_bool2_int : FuncId := 91
abbrev f_i_strconv_isPowerOfTwo : FuncId := 92
abbrev f_bits_TrailingZeros : FuncId := 93
abbrev f_bits_TrailingZeros32 : FuncId := 94
abbrev f_bits_TrailingZeros64 : FuncId := 95
abbrev f_runtime_boundsError_Error : FuncId := 96
abbrev f_runtime_boundsError_RuntimeError : FuncId := 97
abbrev f_runtime_errorString_Error : FuncId := 98
abbrev f_runtime_errorString_RuntimeError : FuncId := 99
abbrev f_runtime_plainError_Error : FuncId := 100
abbrev f_runtime_plainError_RuntimeError : FuncId := 101
abbrev f_runtime_errorAddressString_Error : FuncId := 102
abbrev f_runtime_errorAddressString_RuntimeError : FuncId := 103
abbrev f_runtime_TypeAssertionError_Error : FuncId := 104
abbrev f_runtime_TypeAssertionError_RuntimeError : FuncId := 105
abbrev f_runtime_PanicNilError_Error : FuncId := 106
abbrev f_runtime_PanicNilError_RuntimeError : FuncId := 107
abbrev f_i_abi_Type_Align : FuncId := 108
abbrev f_i_runtime_maps_unhashableTypeError_Error : FuncId := 109
abbrev f_i_runtime_maps_unhashableTypeError_RuntimeError : FuncId := 110
abbrev f_api_Errno_Error : FuncId := 111
abbrev f_i_strconv_Error_Error : FuncId := 112
abbrev f_strconv_NumError_Error : FuncId := 113
abbrev f_errors_errorString_Error : FuncId := 114
abbrev f_i_abi_Kind_String : FuncId := 115
abbrev f_gosem_cut_vars : FuncId := 130
def gL : List (Nat × AV) := [(0, (.agg gl_date_names)), (1, (.agg gl_date_ahead))]
def gX (g : Nat) : Option AV := match gL.find? fun p => Nat.beq p.1 g with | some p => some p.2 | none => none
noncomputable def X : Ctx := { P := Tryd.prog, G := gX, own := fun f d => ownL.any fun p => Nat.beq p.1 f && Nat.beq p.2 d, clr := fun f k => match clrL.find? fun p => Nat.beq p.1 f && Nat.beq p.2.1 k with | some p => p.2.2 | none => [], fz := fun _ _ => [], mg := fun f k => match mgL.find? fun p => Nat.beq p.1 f && Nat.beq p.2.1 k with | some p => some p.2.2 | none => none, inl := fun f => inlL.any fun g => Nat.beq g f, ok := fun f => okL.any fun g => Nat.beq g f }
def ovL : List (Nat × (List AV → Option AV)) := [(52, xCountString), (73, xIndexByteString)]
def ovr (f : FuncId) : Option (List AV → Option AV) := match ovL.find? fun p => Nat.beq p.1 f with | some p => some p.2 | none => none

theorem soundX : Sound X := sound_of okL (by kernel_rfl) (by kernel_rfl) (fun g h => h)
set_option maxRecDepth 100000 in
theorem ovr_ok (g : FuncId) (f : List AV → Option AV) (h : ovr g = some f) (xs : List AV) (v : AV) (hv : f xs = some v) : PureCall X g xs v := by
  unfold ovr at h
  split at h
  · rename_i p hp
    have hm := List.mem_of_find?_eq_some hp
    have hg := List.find?_some hp
    cases h
    obtain rfl := Nat.eq_of_beq_eq_true hg
    simp only [ovL, List.mem_cons, List.not_mem_nil, or_false] at hm
    rcases hm with rfl | rfl
    · exact xCountString_ok (fn := Tryd.f52) Tryd.func52 (by kernel_rfl) (by kernel_rfl) (by kernel_rfl) (by kernel_rfl) xs v hv
    · exact xIndexByteString_ok (fn := Tryd.f73) Tryd.func73 (by kernel_rfl) (by kernel_rfl) (by kernel_rfl) (by kernel_rfl) xs v hv
  · cases h
theorem ok_nil : KOk X (tabK []) := tab_ok [] tab_nil
end Go.Proofs.YtmiffikcnkgcpaaDoor
