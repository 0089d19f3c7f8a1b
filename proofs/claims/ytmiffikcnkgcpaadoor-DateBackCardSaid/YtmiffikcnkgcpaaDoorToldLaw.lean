import Derived.Test.YtmiffikcnkgcpaaDoorCtx
set_option maxRecDepth 100000
set_option linter.unusedVariables false
set_option linter.unusedSimpArgs false
namespace Go.Proofs.YtmiffikcnkgcpaaDoor
open Go Go.Ab
/-! 4: escheat/escheatlaw07.DateBack -/
noncomputable def Rlaw07_DateBack (K : PureK) (t0 : Int) (u1 : Int) : Option AV :=
  optK (K f_law07_alive []) fun wv1 =>
    Ab.asBool wv1 fun wb2 =>
    br (!wb2)
      (some (bv false))
      (optK (K f_date_Print [iv (w64 ((((BitVec.ofInt 64 t0 &&& BitVec.ofInt 64 137438953471).toNat : Nat) : Int)))]) fun wv3 =>
      Ab.asTup wv3 2 fun wg4 =>
      Ab.asStr (wg4 0) fun ws5 =>
      Ab.asInt (wg4 1) .i64 fun wn6 =>
      br (wn6 != 0)
        (optK (br (strEq ws5 { data := #[] })
            (some (bv (decide (w64 ((((BitVec.ofInt 64 t0 &&& BitVec.ofInt 64 137438953471).toNat : Nat) : Int)) > 253402300799))))
            (some (bv false))) fun wv7 =>
        Ab.asBool wv7 fun wb8 =>
        some (bv wb8))
        (optK (K f_date_Parse [sv ws5]) fun wv9 =>
        Ab.asTup wv9 2 fun wg10 =>
        Ab.asInt (wg10 0) .i64 fun wn11 =>
        Ab.asInt (wg10 1) .i64 fun wn12 =>
        optK (K f_date_Day [iv (w64 ((((BitVec.ofInt 64 t0 &&& BitVec.ofInt 64 137438953471).toNat : Nat) : Int)))]) fun wv13 =>
        Ab.asInt wv13 .i64 fun wn14 =>
        optK (K f_date_Civil [iv wn14]) fun wv15 =>
        Ab.asTup wv15 3 fun wg16 =>
        Ab.asInt (wg16 0) .i64 fun wn17 =>
        Ab.asInt (wg16 1) .i64 fun wn18 =>
        Ab.asInt (wg16 2) .i64 fun wn19 =>
        optK (br (wn12 != 0)
            (some (bv true))
            (br (wn11 != w64 ((((BitVec.ofInt 64 t0 &&& BitVec.ofInt 64 137438953471).toNat : Nat) : Int)))
              (some (bv true))
              (optK (K f_date_Number [iv wn17, iv wn18, iv wn19]) fun wv21 =>
              Ab.asInt wv21 .i64 fun wn22 =>
              optK (K f_date_Day [iv (w64 ((((BitVec.ofInt 64 t0 &&& BitVec.ofInt 64 137438953471).toNat : Nat) : Int)))]) fun wv23 =>
              Ab.asInt wv23 .i64 fun wn24 =>
              some (bv (wn22 != wn24))))) fun wv20 =>
        Ab.asBool wv20 fun wb25 =>
        br wb25
          (some (bv false))
          (br (decide (w64 ((((BitVec.ofInt 64 u1 &&& BitVec.ofInt 64 137438953471).toNat : Nat) : Int)) > 253402300799))
            (some (bv true))
            (optK (K f_date_Day [iv (w64 ((((BitVec.ofInt 64 u1 &&& BitVec.ofInt 64 137438953471).toNat : Nat) : Int)))]) fun wv26 =>
            Ab.asInt wv26 .i64 fun wn27 =>
            optK (K f_date_Civil [iv wn27]) fun wv28 =>
            Ab.asTup wv28 3 fun wg29 =>
            Ab.asInt (wg29 0) .i64 fun wn30 =>
            Ab.asInt (wg29 1) .i64 fun wn31 =>
            Ab.asInt (wg29 2) .i64 fun wn32 =>
            optK (br (decide (wn17 < wn30))
                (some (bv true))
                (br (wn17 == wn30)
                  (br (decide (wn18 < wn31))
                    (some (bv true))
                    (br (wn18 == wn31)
                      (some (bv (decide (wn19 < wn32))))
                      (some (bv false))))
                  (some (bv false)))) fun wv33 =>
            Ab.asBool wv33 fun wb34 =>
            optK (K f_date_Day [iv (w64 ((((BitVec.ofInt 64 t0 &&& BitVec.ofInt 64 137438953471).toNat : Nat) : Int)))]) fun wv35 =>
            Ab.asInt wv35 .i64 fun wn36 =>
            optK (K f_date_Day [iv (w64 ((((BitVec.ofInt 64 u1 &&& BitVec.ofInt 64 137438953471).toNat : Nat) : Int)))]) fun wv37 =>
            Ab.asInt wv37 .i64 fun wn38 =>
            some (bv (wb34 == decide (wn36 < wn38)))))))
theorem toplaw07_DateBack (K : PureK) (t0 : Int) (u1 : Int) : topK X K 0 f_law07_DateBack [(.v (.int .i64 t0)), (.v (.int .i64 u1))] = Rlaw07_DateBack K t0 u1 := by kernel_rfl
theorem pclaw07_DateBack {K : PureK} (hK : KOk X K) {t0 : Int} {u1 : Int} {v : AV} (h : Rlaw07_DateBack K t0 u1 = some v) : PureCall X f_law07_DateBack [(.v (.int .i64 t0)), (.v (.int .i64 u1))] v := by
  have hSo0 := soundX
  exact tell_top (X := X) (Y := X) rfl rfl hSo0 hK ((toplaw07_DateBack K t0 u1).trans h)

end Go.Proofs.YtmiffikcnkgcpaaDoor
