import Derived.Test.YtckbjhmiopjlkaaDoorCtx
set_option maxRecDepth 100000
set_option linter.unusedVariables false
set_option linter.unusedSimpArgs false
namespace Go.Proofs.YtckbjhmiopjlkaaDoor
open Go Go.Ab
/-! 52: strings.Index -/
noncomputable def Rstrings_Index (K : PureK) (s0 : ByteArray) (substr1 : ByteArray) : Option AV :=
  optK (K f_i_stringslite_Index [sv s0, sv substr1]) fun wv1 =>
    Ab.asInt wv1 .i64 fun wn2 =>
    some (iv wn2)
theorem topstrings_Index (K : PureK) (s0 : ByteArray) (substr1 : ByteArray) : topK X K 0 f_strings_Index [(.v (.string s0)), (.v (.string substr1))] = Rstrings_Index K s0 substr1 := by kernel_rfl
theorem pcstrings_Index {K : PureK} (hK : KOk X K) {s0 : ByteArray} {substr1 : ByteArray} {v : AV} (h : Rstrings_Index K s0 substr1 = some v) : PureCall X f_strings_Index [(.v (.string s0)), (.v (.string substr1))] v := by
  have hSo0 := soundX
  exact tell_top (X := X) (Y := X) rfl rfl hSo0 hK ((topstrings_Index K s0 substr1).trans h)

/-! 53: internal/stringslite.Index -/
noncomputable def Ri_stringslite_Index (K : PureK) (s0 : ByteArray) (substr1 : ByteArray) : Option AV :=
  optK (br (((substr1.size : Nat) : Int) == 0)
        (some (bv true))
        (some (bv (strEq substr1 s0)))) fun wv1 =>
    Ab.asBool wv1 fun wb2 =>
    br wb2
      (some (iv 0))
      (br (((substr1.size : Nat) : Int) == 1)
        (br (decide (0 < ((substr1.size : Nat) : Int)))
          (optK (K f_i_stringslite_IndexByte [sv s0, uv (bt substr1 0)]) fun wv3 =>
          Ab.asInt wv3 .i64 fun wn4 =>
          some (iv wn4))
          (none))
        (br (decide (((substr1.size : Nat) : Int) ≥ ((s0.size : Nat) : Int)))
          (some (iv (-1)))
          (none)))
theorem topi_stringslite_Index (K : PureK) (s0 : ByteArray) (substr1 : ByteArray) : topK X K 0 f_i_stringslite_Index [(.v (.string s0)), (.v (.string substr1))] = Ri_stringslite_Index K s0 substr1 := by kernel_rfl
theorem pci_stringslite_Index {K : PureK} (hK : KOk X K) {s0 : ByteArray} {substr1 : ByteArray} {v : AV} (h : Ri_stringslite_Index K s0 substr1 = some v) : PureCall X f_i_stringslite_Index [(.v (.string s0)), (.v (.string substr1))] v := by
  have hSo0 := soundX
  exact tell_top (X := X) (Y := X) rfl rfl hSo0 hK ((topi_stringslite_Index K s0 substr1).trans h)

/-! 60: internal/stringslite.IndexByte -/
noncomputable def Ri_stringslite_IndexByte (K : PureK) (s0 : ByteArray) (c1 : Int) : Option AV :=
  optK (K f_i_bytealg_IndexByteString [sv s0, uv c1]) fun wv1 =>
    Ab.asInt wv1 .i64 fun wn2 =>
    some (iv wn2)
theorem topi_stringslite_IndexByte (K : PureK) (s0 : ByteArray) (c1 : Int) : topK X K 0 f_i_stringslite_IndexByte [(.v (.string s0)), (.v (.int .u8 c1))] = Ri_stringslite_IndexByte K s0 c1 := by kernel_rfl
theorem pci_stringslite_IndexByte {K : PureK} (hK : KOk X K) {s0 : ByteArray} {c1 : Int} {v : AV} (h : Ri_stringslite_IndexByte K s0 c1 = some v) : PureCall X f_i_stringslite_IndexByte [(.v (.string s0)), (.v (.int .u8 c1))] v := by
  have hSo0 := soundX
  exact tell_top (X := X) (Y := X) rfl rfl hSo0 hK ((topi_stringslite_IndexByte K s0 c1).trans h)

/-! 31: strings.Cut -/
noncomputable def Rstrings_Cut (K : PureK) (s0 : ByteArray) (sep1 : ByteArray) : Option AV :=
  optK (K f_i_stringslite_Cut [sv s0, sv sep1]) fun wv1 =>
    Ab.asTup wv1 3 fun wg2 =>
    Ab.asStr (wg2 0) fun ws3 =>
    Ab.asStr (wg2 1) fun ws4 =>
    Ab.asBool (wg2 2) fun wb5 =>
    some (AV.tup [sv ws3, sv ws4, bv wb5])
theorem topstrings_Cut (K : PureK) (s0 : ByteArray) (sep1 : ByteArray) : topK X K 0 f_strings_Cut [(.v (.string s0)), (.v (.string sep1))] = Rstrings_Cut K s0 sep1 := by kernel_rfl
theorem pcstrings_Cut {K : PureK} (hK : KOk X K) {s0 : ByteArray} {sep1 : ByteArray} {v : AV} (h : Rstrings_Cut K s0 sep1 = some v) : PureCall X f_strings_Cut [(.v (.string s0)), (.v (.string sep1))] v := by
  have hSo0 := soundX
  exact tell_top (X := X) (Y := X) rfl rfl hSo0 hK ((topstrings_Cut K s0 sep1).trans h)

/-! 43: internal/stringslite.Cut -/
noncomputable def Ri_stringslite_Cut (K : PureK) (s0 : ByteArray) (sep1 : ByteArray) : Option AV :=
  optK (K f_i_stringslite_Index [sv s0, sv sep1]) fun wv1 =>
    Ab.asInt wv1 .i64 fun wn2 =>
    br (decide (wn2 ≥ 0))
      (br (decide (0 ≤ wn2))
        (br (decide (wn2 ≤ ((s0.size : Nat) : Int)))
          (br (decide (0 ≤ w64 (wn2 + ((sep1.size : Nat) : Int))))
            (br (decide (w64 (wn2 + ((sep1.size : Nat) : Int)) ≤ ((s0.size : Nat) : Int)))
              (some (AV.tup [sv (cutStr s0 none (some wn2)), sv (cutStr s0 (some (w64 (wn2 + ((sep1.size : Nat) : Int)))) none), bv true]))
              (none))
            (none))
          (none))
        (none))
      (some (AV.tup [sv s0, sv ({ data := #[] } : ByteArray), bv false]))
theorem topi_stringslite_Cut (K : PureK) (s0 : ByteArray) (sep1 : ByteArray) : topK X K 0 f_i_stringslite_Cut [(.v (.string s0)), (.v (.string sep1))] = Ri_stringslite_Cut K s0 sep1 := by kernel_rfl
theorem pci_stringslite_Cut {K : PureK} (hK : KOk X K) {s0 : ByteArray} {sep1 : ByteArray} {v : AV} (h : Ri_stringslite_Cut K s0 sep1 = some v) : PureCall X f_i_stringslite_Cut [(.v (.string s0)), (.v (.string sep1))] v := by
  have hSo0 := soundX
  exact tell_top (X := X) (Y := X) rfl rfl hSo0 hK ((topi_stringslite_Cut K s0 sep1).trans h)

/-! 32: escheat/uids.number -/
noncomputable def Ruids_number (K : PureK) (s0 : ByteArray) : Option AV :=
  br (strEq s0 ({ data := #[42] } : ByteArray))
      (some (AV.tup [iv 0, bv true]))
      (optK (K f_strconv_ParseUint [sv s0, iv 10, iv 32]) fun wv1 =>
      Ab.asTup wv1 2 fun wg2 =>
      Ab.asInt (wg2 0) .u64 fun wn3 =>
      br (refFree (AV.tup [AV.v (Value.int IntKind.u64 wn3), (wg2 1)]))
        (asErr (wg2 1)
          (br (decide (wn3 > 0))
            (br (decide (0 < ((s0.size : Nat) : Int)))
              (br (bt s0 0 != 48)
                (br (decide (0 < ((s0.size : Nat) : Int)))
                  (some (AV.tup [iv (w64 wn3), bv (bt s0 0 != 43)]))
                  (none))
                (some (AV.tup [iv (w64 wn3), bv false])))
              (none))
            (some (AV.tup [iv (w64 wn3), bv false])))
          (fun wt4 wi4 => some (AV.tup [iv (w64 wn3), bv false])))
        (none))
theorem topuids_number (K : PureK) (s0 : ByteArray) : topK X K 0 f_uids_number [(.v (.string s0))] = Ruids_number K s0 := by kernel_rfl
theorem pcuids_number {K : PureK} (hK : KOk X K) {s0 : ByteArray} {v : AV} (h : Ruids_number K s0 = some v) : PureCall X f_uids_number [(.v (.string s0))] v := by
  have hSo0 := soundX
  exact tell_top (X := X) (Y := X) rfl rfl hSo0 hK ((topuids_number K s0).trans h)

/-! 44: strconv.ParseUint -/
noncomputable def Rstrconv_ParseUint (K : PureK) (s0 : ByteArray) (base1 : Int) (bitSize2 : Int) : Option AV :=
  optK (K f_i_strconv_ParseUint [sv s0, iv base1, iv bitSize2]) fun wv1 =>
    Ab.asTup wv1 2 fun wg2 =>
    Ab.asInt (wg2 0) .u64 fun wn3 =>
    br (refFree (AV.tup [AV.v (Value.int IntKind.u64 wn3), (wg2 1)]))
      (asErr (wg2 1)
        (some (AV.tup [AV.v (Value.int IntKind.u64 wn3), AV.v Value.nilIface]))
        (fun wt4 wi4 => br (true && refFrees [sv ({ data := #[80, 97, 114, 115, 101, 85, 105, 110, 116] } : ByteArray), sv s0, iv base1, iv bitSize2, (wg2 1)])
          (optK (K f_strconv_toError [sv ({ data := #[80, 97, 114, 115, 101, 85, 105, 110, 116] } : ByteArray), sv s0, iv base1, iv bitSize2, (wg2 1)]) fun wv5 =>
          br (refFree wv5)
            (br (refFree (AV.tup [AV.v (Value.int IntKind.u64 wn3), wv5]))
              (some (AV.tup [AV.v (Value.int IntKind.u64 wn3), wv5]))
              (none))
            (none))
          (asErr (wg2 1)
            (asErr (wg2 1)
              (asErr (wg2 1)
                (asErr (wg2 1)
                  (br (refFree (AV.tup [AV.v (Value.int IntKind.u64 wn3), (wg2 1)]))
                    (some (AV.tup [AV.v (Value.int IntKind.u64 wn3), (wg2 1)]))
                    (none))
                  (fun wt9 wi9 => optK (eqAny Tryd.prog 67 (Operand.tmp 11) (Operand.tmp 35) (AV.iface wt9 wi9) (AV.iface 86 (iv 4))) fun wv10 =>
                  br wv10
                    (optK (K f_strconv_bitSizeError [sv ({ data := #[80, 97, 114, 115, 101, 85, 105, 110, 116] } : ByteArray), sv s0, iv bitSize2]) fun wv11 =>
                    br (refFree wv11)
                      (br (refFree (AV.tup [AV.v (Value.int IntKind.u64 wn3), AV.iface 88 wv11]))
                        (some (AV.tup [AV.v (Value.int IntKind.u64 wn3), AV.iface 88 wv11]))
                        (none))
                      (none))
                    (br (refFree (AV.tup [AV.v (Value.int IntKind.u64 wn3), (wg2 1)]))
                      (some (AV.tup [AV.v (Value.int IntKind.u64 wn3), (wg2 1)]))
                      (none))))
                (fun wt8 wi8 => optK (eqAny Tryd.prog 67 (Operand.tmp 11) (Operand.tmp 27) (AV.iface wt8 wi8) (AV.iface 86 (iv 3))) fun wv12 =>
                br wv12
                  (optK (K f_strconv_baseError [sv ({ data := #[80, 97, 114, 115, 101, 85, 105, 110, 116] } : ByteArray), sv s0, iv base1]) fun wv13 =>
                  br (refFree wv13)
                    (br (refFree (AV.tup [AV.v (Value.int IntKind.u64 wn3), AV.iface 88 wv13]))
                      (some (AV.tup [AV.v (Value.int IntKind.u64 wn3), AV.iface 88 wv13]))
                      (none))
                    (none))
                  (asErr (wg2 1)
                    (br (refFree (AV.tup [AV.v (Value.int IntKind.u64 wn3), (wg2 1)]))
                      (some (AV.tup [AV.v (Value.int IntKind.u64 wn3), (wg2 1)]))
                      (none))
                    (fun wt14 wi14 => optK (eqAny Tryd.prog 67 (Operand.tmp 11) (Operand.tmp 35) (AV.iface wt14 wi14) (AV.iface 86 (iv 4))) fun wv15 =>
                    br wv15
                      (optK (K f_strconv_bitSizeError [sv ({ data := #[80, 97, 114, 115, 101, 85, 105, 110, 116] } : ByteArray), sv s0, iv bitSize2]) fun wv16 =>
                      br (refFree wv16)
                        (br (refFree (AV.tup [AV.v (Value.int IntKind.u64 wn3), AV.iface 88 wv16]))
                          (some (AV.tup [AV.v (Value.int IntKind.u64 wn3), AV.iface 88 wv16]))
                          (none))
                        (none))
                      (br (refFree (AV.tup [AV.v (Value.int IntKind.u64 wn3), (wg2 1)]))
                        (some (AV.tup [AV.v (Value.int IntKind.u64 wn3), (wg2 1)]))
                        (none))))))
              (fun wt7 wi7 => optK (eqAny Tryd.prog 67 (Operand.tmp 11) (Operand.tmp 20) (AV.iface wt7 wi7) (AV.iface 86 (iv 1))) fun wv17 =>
              br wv17
                (optK (K f_strconv_rangeError [sv ({ data := #[80, 97, 114, 115, 101, 85, 105, 110, 116] } : ByteArray), sv s0]) fun wv18 =>
                br (refFree wv18)
                  (br (refFree (AV.tup [AV.v (Value.int IntKind.u64 wn3), AV.iface 88 wv18]))
                    (some (AV.tup [AV.v (Value.int IntKind.u64 wn3), AV.iface 88 wv18]))
                    (none))
                  (none))
                (asErr (wg2 1)
                  (asErr (wg2 1)
                    (br (refFree (AV.tup [AV.v (Value.int IntKind.u64 wn3), (wg2 1)]))
                      (some (AV.tup [AV.v (Value.int IntKind.u64 wn3), (wg2 1)]))
                      (none))
                    (fun wt20 wi20 => optK (eqAny Tryd.prog 67 (Operand.tmp 11) (Operand.tmp 35) (AV.iface wt20 wi20) (AV.iface 86 (iv 4))) fun wv21 =>
                    br wv21
                      (optK (K f_strconv_bitSizeError [sv ({ data := #[80, 97, 114, 115, 101, 85, 105, 110, 116] } : ByteArray), sv s0, iv bitSize2]) fun wv22 =>
                      br (refFree wv22)
                        (br (refFree (AV.tup [AV.v (Value.int IntKind.u64 wn3), AV.iface 88 wv22]))
                          (some (AV.tup [AV.v (Value.int IntKind.u64 wn3), AV.iface 88 wv22]))
                          (none))
                        (none))
                      (br (refFree (AV.tup [AV.v (Value.int IntKind.u64 wn3), (wg2 1)]))
                        (some (AV.tup [AV.v (Value.int IntKind.u64 wn3), (wg2 1)]))
                        (none))))
                  (fun wt19 wi19 => optK (eqAny Tryd.prog 67 (Operand.tmp 11) (Operand.tmp 27) (AV.iface wt19 wi19) (AV.iface 86 (iv 3))) fun wv23 =>
                  br wv23
                    (optK (K f_strconv_baseError [sv ({ data := #[80, 97, 114, 115, 101, 85, 105, 110, 116] } : ByteArray), sv s0, iv base1]) fun wv24 =>
                    br (refFree wv24)
                      (br (refFree (AV.tup [AV.v (Value.int IntKind.u64 wn3), AV.iface 88 wv24]))
                        (some (AV.tup [AV.v (Value.int IntKind.u64 wn3), AV.iface 88 wv24]))
                        (none))
                      (none))
                    (asErr (wg2 1)
                      (br (refFree (AV.tup [AV.v (Value.int IntKind.u64 wn3), (wg2 1)]))
                        (some (AV.tup [AV.v (Value.int IntKind.u64 wn3), (wg2 1)]))
                        (none))
                      (fun wt25 wi25 => optK (eqAny Tryd.prog 67 (Operand.tmp 11) (Operand.tmp 35) (AV.iface wt25 wi25) (AV.iface 86 (iv 4))) fun wv26 =>
                      br wv26
                        (optK (K f_strconv_bitSizeError [sv ({ data := #[80, 97, 114, 115, 101, 85, 105, 110, 116] } : ByteArray), sv s0, iv bitSize2]) fun wv27 =>
                        br (refFree wv27)
                          (br (refFree (AV.tup [AV.v (Value.int IntKind.u64 wn3), AV.iface 88 wv27]))
                            (some (AV.tup [AV.v (Value.int IntKind.u64 wn3), AV.iface 88 wv27]))
                            (none))
                          (none))
                        (br (refFree (AV.tup [AV.v (Value.int IntKind.u64 wn3), (wg2 1)]))
                          (some (AV.tup [AV.v (Value.int IntKind.u64 wn3), (wg2 1)]))
                          (none))))))))
            (fun wt6 wi6 => optK (eqAny Tryd.prog 67 (Operand.tmp 11) (Operand.tmp 13) (AV.iface wt6 wi6) (AV.iface 86 (iv 2))) fun wv28 =>
            br wv28
              (optK (K f_strconv_syntaxError [sv ({ data := #[80, 97, 114, 115, 101, 85, 105, 110, 116] } : ByteArray), sv s0]) fun wv29 =>
              br (refFree wv29)
                (br (refFree (AV.tup [AV.v (Value.int IntKind.u64 wn3), AV.iface 88 wv29]))
                  (some (AV.tup [AV.v (Value.int IntKind.u64 wn3), AV.iface 88 wv29]))
                  (none))
                (none))
              (asErr (wg2 1)
                (asErr (wg2 1)
                  (asErr (wg2 1)
                    (br (refFree (AV.tup [AV.v (Value.int IntKind.u64 wn3), (wg2 1)]))
                      (some (AV.tup [AV.v (Value.int IntKind.u64 wn3), (wg2 1)]))
                      (none))
                    (fun wt32 wi32 => optK (eqAny Tryd.prog 67 (Operand.tmp 11) (Operand.tmp 35) (AV.iface wt32 wi32) (AV.iface 86 (iv 4))) fun wv33 =>
                    br wv33
                      (optK (K f_strconv_bitSizeError [sv ({ data := #[80, 97, 114, 115, 101, 85, 105, 110, 116] } : ByteArray), sv s0, iv bitSize2]) fun wv34 =>
                      br (refFree wv34)
                        (br (refFree (AV.tup [AV.v (Value.int IntKind.u64 wn3), AV.iface 88 wv34]))
                          (some (AV.tup [AV.v (Value.int IntKind.u64 wn3), AV.iface 88 wv34]))
                          (none))
                        (none))
                      (br (refFree (AV.tup [AV.v (Value.int IntKind.u64 wn3), (wg2 1)]))
                        (some (AV.tup [AV.v (Value.int IntKind.u64 wn3), (wg2 1)]))
                        (none))))
                  (fun wt31 wi31 => optK (eqAny Tryd.prog 67 (Operand.tmp 11) (Operand.tmp 27) (AV.iface wt31 wi31) (AV.iface 86 (iv 3))) fun wv35 =>
                  br wv35
                    (optK (K f_strconv_baseError [sv ({ data := #[80, 97, 114, 115, 101, 85, 105, 110, 116] } : ByteArray), sv s0, iv base1]) fun wv36 =>
                    br (refFree wv36)
                      (br (refFree (AV.tup [AV.v (Value.int IntKind.u64 wn3), AV.iface 88 wv36]))
                        (some (AV.tup [AV.v (Value.int IntKind.u64 wn3), AV.iface 88 wv36]))
                        (none))
                      (none))
                    (asErr (wg2 1)
                      (br (refFree (AV.tup [AV.v (Value.int IntKind.u64 wn3), (wg2 1)]))
                        (some (AV.tup [AV.v (Value.int IntKind.u64 wn3), (wg2 1)]))
                        (none))
                      (fun wt37 wi37 => optK (eqAny Tryd.prog 67 (Operand.tmp 11) (Operand.tmp 35) (AV.iface wt37 wi37) (AV.iface 86 (iv 4))) fun wv38 =>
                      br wv38
                        (optK (K f_strconv_bitSizeError [sv ({ data := #[80, 97, 114, 115, 101, 85, 105, 110, 116] } : ByteArray), sv s0, iv bitSize2]) fun wv39 =>
                        br (refFree wv39)
                          (br (refFree (AV.tup [AV.v (Value.int IntKind.u64 wn3), AV.iface 88 wv39]))
                            (some (AV.tup [AV.v (Value.int IntKind.u64 wn3), AV.iface 88 wv39]))
                            (none))
                          (none))
                        (br (refFree (AV.tup [AV.v (Value.int IntKind.u64 wn3), (wg2 1)]))
                          (some (AV.tup [AV.v (Value.int IntKind.u64 wn3), (wg2 1)]))
                          (none))))))
                (fun wt30 wi30 => optK (eqAny Tryd.prog 67 (Operand.tmp 11) (Operand.tmp 20) (AV.iface wt30 wi30) (AV.iface 86 (iv 1))) fun wv40 =>
                br wv40
                  (optK (K f_strconv_rangeError [sv ({ data := #[80, 97, 114, 115, 101, 85, 105, 110, 116] } : ByteArray), sv s0]) fun wv41 =>
                  br (refFree wv41)
                    (br (refFree (AV.tup [AV.v (Value.int IntKind.u64 wn3), AV.iface 88 wv41]))
                      (some (AV.tup [AV.v (Value.int IntKind.u64 wn3), AV.iface 88 wv41]))
                      (none))
                    (none))
                  (asErr (wg2 1)
                    (asErr (wg2 1)
                      (br (refFree (AV.tup [AV.v (Value.int IntKind.u64 wn3), (wg2 1)]))
                        (some (AV.tup [AV.v (Value.int IntKind.u64 wn3), (wg2 1)]))
                        (none))
                      (fun wt43 wi43 => optK (eqAny Tryd.prog 67 (Operand.tmp 11) (Operand.tmp 35) (AV.iface wt43 wi43) (AV.iface 86 (iv 4))) fun wv44 =>
                      br wv44
                        (optK (K f_strconv_bitSizeError [sv ({ data := #[80, 97, 114, 115, 101, 85, 105, 110, 116] } : ByteArray), sv s0, iv bitSize2]) fun wv45 =>
                        br (refFree wv45)
                          (br (refFree (AV.tup [AV.v (Value.int IntKind.u64 wn3), AV.iface 88 wv45]))
                            (some (AV.tup [AV.v (Value.int IntKind.u64 wn3), AV.iface 88 wv45]))
                            (none))
                          (none))
                        (br (refFree (AV.tup [AV.v (Value.int IntKind.u64 wn3), (wg2 1)]))
                          (some (AV.tup [AV.v (Value.int IntKind.u64 wn3), (wg2 1)]))
                          (none))))
                    (fun wt42 wi42 => optK (eqAny Tryd.prog 67 (Operand.tmp 11) (Operand.tmp 27) (AV.iface wt42 wi42) (AV.iface 86 (iv 3))) fun wv46 =>
                    br wv46
                      (optK (K f_strconv_baseError [sv ({ data := #[80, 97, 114, 115, 101, 85, 105, 110, 116] } : ByteArray), sv s0, iv base1]) fun wv47 =>
                      br (refFree wv47)
                        (br (refFree (AV.tup [AV.v (Value.int IntKind.u64 wn3), AV.iface 88 wv47]))
                          (some (AV.tup [AV.v (Value.int IntKind.u64 wn3), AV.iface 88 wv47]))
                          (none))
                        (none))
                      (asErr (wg2 1)
                        (br (refFree (AV.tup [AV.v (Value.int IntKind.u64 wn3), (wg2 1)]))
                          (some (AV.tup [AV.v (Value.int IntKind.u64 wn3), (wg2 1)]))
                          (none))
                        (fun wt48 wi48 => optK (eqAny Tryd.prog 67 (Operand.tmp 11) (Operand.tmp 35) (AV.iface wt48 wi48) (AV.iface 86 (iv 4))) fun wv49 =>
                        br wv49
                          (optK (K f_strconv_bitSizeError [sv ({ data := #[80, 97, 114, 115, 101, 85, 105, 110, 116] } : ByteArray), sv s0, iv bitSize2]) fun wv50 =>
                          br (refFree wv50)
                            (br (refFree (AV.tup [AV.v (Value.int IntKind.u64 wn3), AV.iface 88 wv50]))
                              (some (AV.tup [AV.v (Value.int IntKind.u64 wn3), AV.iface 88 wv50]))
                              (none))
                            (none))
                          (br (refFree (AV.tup [AV.v (Value.int IntKind.u64 wn3), (wg2 1)]))
                            (some (AV.tup [AV.v (Value.int IntKind.u64 wn3), (wg2 1)]))
                            (none))))))))))))
      (none)
theorem topstrconv_ParseUint (K : PureK) (s0 : ByteArray) (base1 : Int) (bitSize2 : Int) : topK X K 0 f_strconv_ParseUint [(.v (.string s0)), (.v (.int .i64 base1)), (.v (.int .i64 bitSize2))] = Rstrconv_ParseUint K s0 base1 bitSize2 := by kernel_rfl
theorem pcstrconv_ParseUint {K : PureK} (hK : KOk X K) {s0 : ByteArray} {base1 : Int} {bitSize2 : Int} {v : AV} (h : Rstrconv_ParseUint K s0 base1 bitSize2 = some v) : PureCall X f_strconv_ParseUint [(.v (.string s0)), (.v (.int .i64 base1)), (.v (.int .i64 bitSize2))] v := by
  have hSo0 := soundX
  exact tell_top (X := X) (Y := X) rfl rfl hSo0 hK ((topstrconv_ParseUint K s0 base1 bitSize2).trans h)

/-! 66: strconv.syntaxError -/
noncomputable def Rstrconv_syntaxError (K : PureK) (fn0 : ByteArray) (str1 : ByteArray) : Option AV :=
  optK (K f_i_stringslite_Clone [sv str1]) fun wv1 =>
    Ab.asStr wv1 fun ws2 =>
    some ((AV.agg [sv fn0, sv ws2, AV.junk]).pl 0)
theorem topstrconv_syntaxError (K : PureK) (fn0 : ByteArray) (str1 : ByteArray) : topK X K 0 f_strconv_syntaxError [(.v (.string fn0)), (.v (.string str1))] = Rstrconv_syntaxError K fn0 str1 := by kernel_rfl
theorem pcstrconv_syntaxError {K : PureK} (hK : KOk X K) {fn0 : ByteArray} {str1 : ByteArray} {v : AV} (h : Rstrconv_syntaxError K fn0 str1 = some v) : PureCall X f_strconv_syntaxError [(.v (.string fn0)), (.v (.string str1))] v := by
  have hSo0 := soundX
  exact tell_top (X := X) (Y := X) rfl rfl hSo0 hK ((topstrconv_syntaxError K fn0 str1).trans h)

/-! 67: strconv.rangeError -/
noncomputable def Rstrconv_rangeError (K : PureK) (fn0 : ByteArray) (str1 : ByteArray) : Option AV :=
  optK (K f_i_stringslite_Clone [sv str1]) fun wv1 =>
    Ab.asStr wv1 fun ws2 =>
    some ((AV.agg [sv fn0, sv ws2, AV.junk]).pl 0)
theorem topstrconv_rangeError (K : PureK) (fn0 : ByteArray) (str1 : ByteArray) : topK X K 0 f_strconv_rangeError [(.v (.string fn0)), (.v (.string str1))] = Rstrconv_rangeError K fn0 str1 := by kernel_rfl
theorem pcstrconv_rangeError {K : PureK} (hK : KOk X K) {fn0 : ByteArray} {str1 : ByteArray} {v : AV} (h : Rstrconv_rangeError K fn0 str1 = some v) : PureCall X f_strconv_rangeError [(.v (.string fn0)), (.v (.string str1))] v := by
  have hSo0 := soundX
  exact tell_top (X := X) (Y := X) rfl rfl hSo0 hK ((topstrconv_rangeError K fn0 str1).trans h)

abbrev f_strconv_toError__1 : FuncId := 55
/-! 55: strconv.toError -/
noncomputable def Rstrconv_toError__1 (K : PureK) (fn0 : ByteArray) (s1 : ByteArray) (base2 : Int) (bitSize3 : Int) (e4 : Int) : Option AV :=
  br (e4 == 2)
      (optK (K f_strconv_syntaxError [sv fn0, sv s1]) fun wv1 =>
      br (refFree wv1)
        (br (refFree (AV.iface 88 wv1))
          (some (AV.iface 88 wv1))
          (none))
        (none))
      (br (e4 == 1)
        (optK (K f_strconv_rangeError [sv fn0, sv s1]) fun wv2 =>
        br (refFree wv2)
          (br (refFree (AV.iface 88 wv2))
            (some (AV.iface 88 wv2))
            (none))
          (none))
        (br (e4 == 3)
          (optK (K f_strconv_baseError [sv fn0, sv s1, iv base2]) fun wv3 =>
          br (refFree wv3)
            (br (refFree (AV.iface 88 wv3))
              (some (AV.iface 88 wv3))
              (none))
            (none))
          (br (e4 == 4)
            (optK (K f_strconv_bitSizeError [sv fn0, sv s1, iv bitSize3]) fun wv4 =>
            br (refFree wv4)
              (br (refFree (AV.iface 88 wv4))
                (some (AV.iface 88 wv4))
                (none))
              (none))
            (some (AV.iface 86 (iv e4))))))
theorem topstrconv_toError__1 (K : PureK) (fn0 : ByteArray) (s1 : ByteArray) (base2 : Int) (bitSize3 : Int) (e4 : Int) : topK X K 0 f_strconv_toError__1 [(.v (.string fn0)), (.v (.string s1)), (.v (.int .i64 base2)), (.v (.int .i64 bitSize3)), (.iface 86 (.v (.int .i64 e4)))] = Rstrconv_toError__1 K fn0 s1 base2 bitSize3 e4 := by kernel_rfl
theorem pcstrconv_toError__1 {K : PureK} (hK : KOk X K) {fn0 : ByteArray} {s1 : ByteArray} {base2 : Int} {bitSize3 : Int} {e4 : Int} {v : AV} (h : Rstrconv_toError__1 K fn0 s1 base2 bitSize3 e4 = some v) : PureCall X f_strconv_toError__1 [(.v (.string fn0)), (.v (.string s1)), (.v (.int .i64 base2)), (.v (.int .i64 bitSize3)), (.iface 86 (.v (.int .i64 e4)))] v := by
  have hSo0 := soundX
  exact tell_top (X := X) (Y := X) rfl rfl hSo0 hK ((topstrconv_toError__1 K fn0 s1 base2 bitSize3 e4).trans h)

end Go.Proofs.YtckbjhmiopjlkaaDoor
