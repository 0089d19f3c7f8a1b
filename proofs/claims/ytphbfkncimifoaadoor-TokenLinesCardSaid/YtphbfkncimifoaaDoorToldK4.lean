import Derived.Test.YtphbfkncimifoaaDoorCtx
set_option maxRecDepth 100000
set_option linter.unusedVariables false
set_option linter.unusedSimpArgs false
namespace Go.Proofs.YtphbfkncimifoaaDoor
open Go Go.Ab
abbrev f_bytes_Index__one : FuncId := 41
/-! 41: bytes.Index -/
noncomputable def Rbytes_Index__one (K : PureK) (s0n : Bool) (s0 : List AV) (c1 : Int) : Option AV :=
  optK (K f_bytes_IndexByte [AV.lst 1 s0n s0, uv c1]) fun wv1 =>
    Ab.asInt wv1 .i64 fun wn2 =>
    some (iv wn2)
theorem topbytes_Index__one (K : PureK) (s0n : Bool) (s0 : List AV) (c1 : Int) : topK X K 0 f_bytes_Index__one [(.lst 1 s0n s0), (.lst 1 false [(.v (.int .u8 c1))])] = Rbytes_Index__one K s0n s0 c1 := by kernel_rfl
theorem pcbytes_Index__one {K : PureK} (hK : KOk X K) {s0n : Bool} {s0 : List AV} {c1 : Int} {v : AV} (h : Rbytes_Index__one K s0n s0 c1 = some v) : PureCall X f_bytes_Index__one [(.lst 1 s0n s0), (.lst 1 false [(.v (.int .u8 c1))])] v := by
  have hSo0 := soundX
  exact tell_top (X := X) (Y := X) rfl rfl hSo0 hK ((topbytes_Index__one K s0n s0 c1).trans h)

end Go.Proofs.YtphbfkncimifoaaDoor
