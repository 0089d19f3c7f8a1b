import Derived.Test.YtphbfkncimifoaaDoorCtx
set_option maxRecDepth 100000
set_option linter.unusedVariables false
set_option linter.unusedSimpArgs false
namespace Go.Proofs.YtphbfkncimifoaaDoor
open Go Go.Ab
/-! 6: escheat/escheatlaw23.TokenLiterals -/
noncomputable def Rlaw23_TokenLiterals (K : PureK) (b0n : Bool) (b0 : List AV) (tag1 : ByteArray) : Option AV :=
  optK (K f_law23_alive []) fun wv1 =>
    Ab.asBool wv1 fun wb2 =>
    br (!wb2)
      (some (bv false))
      (optK (br (decide (((b0.length : Nat) : Int) > 2000))
          (some (bv true))
          (optK (K f_law23_plain [sv tag1]) fun wv4 =>
          Ab.asBool wv4 fun wb5 =>
          some (bv !wb5))) fun wv3 =>
      Ab.asBool wv3 fun wb6 =>
      br wb6
        (some (bv true))
        (br ((tag1.size + 2).ble maxStr)
          (br (((catStr tag1 ({ data := #[32, 123] } : ByteArray)).size + ({ data := [UInt8.ofNat (w8 (w64 (48 + (((b0.length : Nat) : Int)).tmod 10))).toNat, UInt8.ofNat (w8 (w64 (48 + (w64 ((((b0.length : Nat) : Int)).tdiv 10)).tmod 10))).toNat, UInt8.ofNat (w8 (w64 (48 + (w64 ((((b0.length : Nat) : Int)).tdiv 100)).tmod 10))).toNat, UInt8.ofNat (w8 (w64 (48 + w64 ((((b0.length : Nat) : Int)).tdiv 1000)))).toNat].reverse.toArray } : ByteArray).size).ble maxStr)
            (br (((catStr (catStr tag1 ({ data := #[32, 123] } : ByteArray)) ({ data := [UInt8.ofNat (w8 (w64 (48 + (((b0.length : Nat) : Int)).tmod 10))).toNat, UInt8.ofNat (w8 (w64 (48 + (w64 ((((b0.length : Nat) : Int)).tdiv 10)).tmod 10))).toNat, UInt8.ofNat (w8 (w64 (48 + (w64 ((((b0.length : Nat) : Int)).tdiv 100)).tmod 10))).toNat, UInt8.ofNat (w8 (w64 (48 + w64 ((((b0.length : Nat) : Int)).tdiv 1000)))).toNat].reverse.toArray } : ByteArray)).size + 2).ble maxStr)
              (br (lenOk ((bytesRows (catStr (catStr (catStr tag1 ({ data := #[32, 123] } : ByteArray)) ({ data := [UInt8.ofNat (w8 (w64 (48 + (((b0.length : Nat) : Int)).tmod 10))).toNat, UInt8.ofNat (w8 (w64 (48 + (w64 ((((b0.length : Nat) : Int)).tdiv 10)).tmod 10))).toNat, UInt8.ofNat (w8 (w64 (48 + (w64 ((((b0.length : Nat) : Int)).tdiv 100)).tmod 10))).toNat, UInt8.ofNat (w8 (w64 (48 + w64 ((((b0.length : Nat) : Int)).tdiv 1000)))).toNat].reverse.toArray } : ByteArray)) ({ data := #[125, 10] } : ByteArray))).length + b0.length) 1 && lenOk ((bytesRows (catStr (catStr (catStr tag1 ({ data := #[32, 123] } : ByteArray)) ({ data := [UInt8.ofNat (w8 (w64 (48 + (((b0.length : Nat) : Int)).tmod 10))).toNat, UInt8.ofNat (w8 (w64 (48 + (w64 ((((b0.length : Nat) : Int)).tdiv 10)).tmod 10))).toNat, UInt8.ofNat (w8 (w64 (48 + (w64 ((((b0.length : Nat) : Int)).tdiv 100)).tmod 10))).toNat, UInt8.ofNat (w8 (w64 (48 + w64 ((((b0.length : Nat) : Int)).tdiv 1000)))).toNat].reverse.toArray } : ByteArray)) ({ data := #[125, 10] } : ByteArray))).length + b0.length) 1)
                (br (lenOk ((bytesRows (catStr (catStr (catStr tag1 ({ data := #[32, 123] } : ByteArray)) ({ data := [UInt8.ofNat (w8 (w64 (48 + (((b0.length : Nat) : Int)).tmod 10))).toNat, UInt8.ofNat (w8 (w64 (48 + (w64 ((((b0.length : Nat) : Int)).tdiv 10)).tmod 10))).toNat, UInt8.ofNat (w8 (w64 (48 + (w64 ((((b0.length : Nat) : Int)).tdiv 100)).tmod 10))).toNat, UInt8.ofNat (w8 (w64 (48 + w64 ((((b0.length : Nat) : Int)).tdiv 1000)))).toNat].reverse.toArray } : ByteArray)) ({ data := #[125, 10] } : ByteArray)) ++ b0).length + 3) 1 && lenOk ((bytesRows (catStr (catStr (catStr tag1 ({ data := #[32, 123] } : ByteArray)) ({ data := [UInt8.ofNat (w8 (w64 (48 + (((b0.length : Nat) : Int)).tmod 10))).toNat, UInt8.ofNat (w8 (w64 (48 + (w64 ((((b0.length : Nat) : Int)).tdiv 10)).tmod 10))).toNat, UInt8.ofNat (w8 (w64 (48 + (w64 ((((b0.length : Nat) : Int)).tdiv 100)).tmod 10))).toNat, UInt8.ofNat (w8 (w64 (48 + w64 ((((b0.length : Nat) : Int)).tdiv 1000)))).toNat].reverse.toArray } : ByteArray)) ({ data := #[125, 10] } : ByteArray)) ++ b0).length + 3) 1)
                  (optK (K f_token_Feed [AV.agg [AV.lst 1 true [], sv ({ data := #[] } : ByteArray), iv 0, iv 0], AV.lst 1 false (bytesRows (catStr (catStr (catStr tag1 ({ data := #[32, 123] } : ByteArray)) ({ data := [UInt8.ofNat (w8 (w64 (48 + (((b0.length : Nat) : Int)).tmod 10))).toNat, UInt8.ofNat (w8 (w64 (48 + (w64 ((((b0.length : Nat) : Int)).tdiv 10)).tmod 10))).toNat, UInt8.ofNat (w8 (w64 (48 + (w64 ((((b0.length : Nat) : Int)).tdiv 100)).tmod 10))).toNat, UInt8.ofNat (w8 (w64 (48 + w64 ((((b0.length : Nat) : Int)).tdiv 1000)))).toNat].reverse.toArray } : ByteArray)) ({ data := #[125, 10] } : ByteArray)) ++ b0 ++ [uv 32, uv 120, uv 10])]) fun wv7 =>
                  Ab.asTup wv7 2 fun wg8 =>
                  Ab.asAgg (wg8 0) 4 fun wg9 =>
                  Ab.asLst (wg9 0) 1 fun wb10 wr10 =>
                  Ab.asStr (wg9 1) fun ws11 =>
                  Ab.asInt (wg9 2) .i64 fun wn12 =>
                  Ab.asInt (wg9 3) .i64 fun wn13 =>
                  Ab.asLst (wg8 1) 2 fun wb14 wr14 =>
                  br (((wr14.length : Nat) : Int) == 2)
                    (br (decide (0 < ((wr14.length : Nat) : Int)))
                      (optK wr14[0]? fun wv15 =>
                      Ab.asAgg wv15 2 fun wg16 =>
                      Ab.asInt (wg16 0) .i64 fun wn17 =>
                      Ab.asLst (wg16 1) 1 fun wb18 wr18 =>
                      br (wn17 == 2)
                        (br (decide (1 < ((wr14.length : Nat) : Int)))
                          (optK wr14[1]? fun wv19 =>
                          Ab.asAgg wv19 2 fun wg20 =>
                          Ab.asInt (wg20 0) .i64 fun wn21 =>
                          Ab.asLst (wg20 1) 1 fun wb22 wr22 =>
                          br (wn21 == 1)
                            (br (decide (1 < ((wr14.length : Nat) : Int)))
                              (optK wr14[1]? fun wv23 =>
                              Ab.asAgg wv23 2 fun wg24 =>
                              Ab.asInt (wg24 0) .i64 fun wn25 =>
                              Ab.asLst (wg24 1) 1 fun wb26 wr26 =>
                              br (((wr26.length : Nat) : Int) == 3)
                                (br (decide (1 < ((wr14.length : Nat) : Int)))
                                  (optK wr14[1]? fun wv27 =>
                                  Ab.asAgg wv27 2 fun wg28 =>
                                  Ab.asInt (wg28 0) .i64 fun wn29 =>
                                  Ab.asLst (wg28 1) 1 fun wb30 wr30 =>
                                  br (decide (0 < ((wr30.length : Nat) : Int)))
                                    (optK wr30[0]? fun wv31 =>
                                    Ab.asStr wv31 fun ws32 =>
                                    br ((tag1.size + 1).ble maxStr)
                                      (br (strEq ws32 (catStr tag1 ({ data := #[32] } : ByteArray)))
                                        (br (decide (1 < ((wr14.length : Nat) : Int)))
                                          (optK wr14[1]? fun wv33 =>
                                          Ab.asAgg wv33 2 fun wg34 =>
                                          Ab.asInt (wg34 0) .i64 fun wn35 =>
                                          Ab.asLst (wg34 1) 1 fun wb36 wr36 =>
                                          br (decide (1 < ((wr36.length : Nat) : Int)))
                                            (optK wr36[1]? fun wv37 =>
                                            Ab.asStr wv37 fun ws38 =>
                                            optK (rowsBytes b0) fun wv39 =>
                                            br (strEq ws38 ({ data := wv39.toArray } : ByteArray))
                                              (br (decide (1 < ((wr14.length : Nat) : Int)))
                                                (optK wr14[1]? fun wv40 =>
                                                Ab.asAgg wv40 2 fun wg41 =>
                                                Ab.asInt (wg41 0) .i64 fun wn42 =>
                                                Ab.asLst (wg41 1) 1 fun wb43 wr43 =>
                                                br (decide (2 < ((wr43.length : Nat) : Int)))
                                                  (optK wr43[2]? fun wv44 =>
                                                  Ab.asStr wv44 fun ws45 =>
                                                  br (strEq ws45 ({ data := #[32, 120] } : ByteArray))
                                                    (optK (K f_ref23_Same [AV.agg [AV.lst 1 wb10 wr10, sv ws11, iv wn12, iv wn13], AV.agg [AV.lst 1 true [], sv ({ data := #[] } : ByteArray), iv 0, iv 0]]) fun wv46 =>
                                                    Ab.asBool wv46 fun wb47 =>
                                                    some (bv wb47))
                                                    (some (bv false)))
                                                  (none))
                                                (none))
                                              (some (bv false)))
                                            (none))
                                          (none))
                                        (some (bv false)))
                                      (none))
                                    (none))
                                  (none))
                                (some (bv false)))
                              (none))
                            (some (bv false)))
                          (none))
                        (some (bv false)))
                      (none))
                    (some (bv false)))
                  (none))
                (none))
              (none))
            (none))
          (none)))
theorem toplaw23_TokenLiterals (K : PureK) (b0n : Bool) (b0 : List AV) (tag1 : ByteArray) : topK X K 0 f_law23_TokenLiterals [(.lst 1 b0n b0), (.v (.string tag1))] = Rlaw23_TokenLiterals K b0n b0 tag1 := by kernel_rfl
theorem pclaw23_TokenLiterals {K : PureK} (hK : KOk X K) {b0n : Bool} {b0 : List AV} {tag1 : ByteArray} {v : AV} (h : Rlaw23_TokenLiterals K b0n b0 tag1 = some v) : PureCall X f_law23_TokenLiterals [(.lst 1 b0n b0), (.v (.string tag1))] v := by
  have hSo0 := soundX
  exact tell_top (X := X) (Y := X) rfl rfl hSo0 hK ((toplaw23_TokenLiterals K b0n b0 tag1).trans h)

end Go.Proofs.YtphbfkncimifoaaDoor
