import Derived.Test.YtckbjhmiopjlkaaDoorUNum
set_option linter.unusedVariables false
set_option linter.unusedSimpArgs false
set_option maxRecDepth 100000
namespace Go.Proofs.YtckbjhmiopjlkaaDoor
/- The fixed fact. -/
open Go Go.Ab Go.RowKit

def txA : List UInt8 := [50, 44, 52, 58, 55, 44, 57, 44, 49, 50, 58, 42]
def txB : List UInt8 := [48, 49]
def rgV (a b : Int) : AV := .agg [iv a, iv b]
def e_ParseC : List AV → Option AV
  | [.v (.string s)] => match strEq s (bs txA) with
    | true => some (.tup [.lst 2 false [rgV 2 2, rgV 4 7, rgV 9 9, rgV 12 0], iv 0])
    | false => match strEq s (bs txB) with
      | true => some (.tup [.lst 2 true [], iv 3])
      | false => none
  | _ => none
theorem strEq_of {a b : ByteArray} (h : strEq a b = true) : a = b := by
  unfold strEq at h
  have h := eq_of_beq h
  rw [← bs_eta a, ← bs_eta b, h]
theorem e_ParseC_ok (xs : List AV) (v : AV) (h : e_ParseC xs = some v) : PureCall X f_uids_Parse xs v := by
  unfold e_ParseC at h
  split at h
  · rename_i s
    split at h
    · rename_i hs
      obtain rfl := strEq_of hs
      cases h
      have := pc_Parse txA
      rwa [show parseV numV txA = .tup [.lst 2 false [rgV 2 2, rgV 4 7, rgV 9 9, rgV 12 0], iv 0] by kernel_rfl] at this
    · split at h
      · rename_i hs
        obtain rfl := strEq_of hs
        cases h
        have := pc_Parse txB
        rwa [show parseV numV txB = .tup [.lst 2 true [], iv 3] by kernel_rfl] at this
      · cases h
  · cases h
def ovr2 (g : FuncId) : Option (List AV → Option AV) := match Nat.beq g f_uids_Parse with
  | true => some e_ParseC
  | false => ovr g
theorem ovr2_ok (g : FuncId) (f : List AV → Option AV) (h : ovr2 g = some f) (xs : List AV) (v : AV) (hv : f xs = some v) : PureCall X g xs v := by
  unfold ovr2 at h
  split at h
  · rename_i hg
    obtain rfl := Nat.eq_of_beq_eq_true hg
    cases h
    exact e_ParseC_ok xs v hv
  · exact ovr_ok g f h xs v hv
theorem pc_alive : PureCall X f_law09_alive [] (bv true) := ev_ok soundX ovr2_ok 60 f_law09_alive [] (bv true) (by kernel_rfl)
end Go.Proofs.YtckbjhmiopjlkaaDoor
