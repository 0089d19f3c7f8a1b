import Derived.Test.YtkkbdebmilagoaaGreatDoorSeF
set_option linter.unusedVariables false
set_option linter.unusedSimpArgs false
set_option maxRecDepth 100000
namespace Go.Proofs.YtkkbdebmilagoaaGreatDoor
/- Plain keys; alive; SearchDays. -/
open Go Go.Ab Go.RowKit

def dayV (t : Int) : Int := if t < 0 then -1 else t / 86400
/-- What keys find that ask for neither fields nor sets. -/
def findsV : Fd := fun x _ _ _ k =>
  if k.op = 1 then w64 ((((BitVec.ofInt 64 x.fl &&& BitVec.ofInt 64 k.kn).toNat : Nat) : Int)) == k.kn
  else if k.op = 2 then w64 ((((BitVec.ofInt 64 x.fl &&& BitVec.ofInt 64 k.kn).toNat : Nat) : Int)) == 0
  else if k.op = 3 ∨ k.op = 4 ∨ k.op = 5 then datedV (dayV x.dt) (k.op - 3) k.kn
  else if k.op = 11 then Lib.contains (((rowsBytes x.bo).getD []).map lowU) (k.tx.data.toList.map lowU)
  else true
def plainOp (op : Int) : Prop := op = 0 ∨ op = 1 ∨ op = 2 ∨ op = 3 ∨ op = 4 ∨ op = 5 ∨ op = 11
theorem arr_len (tx : ByteArray) : tx.data.toList.length = tx.size := by rw [Array.length_toList]; rfl
section
variable {m : Int}
noncomputable def tbFds (m : Int) : Tab := [(f_date_Day, E_day), (f_search_dated, E_dated), (f_search_Has, E_Has m)]
theorem tbFds_ok : TabOk (XM m) (tbFds m) := tab_cons (fun xs v h => wide (callQ_ok xs v h)) (tab_cons (fun xs v h => wide (callQ_ok xs v h)) (tab_cons callQ_ok tab_nil))
/-- A message that may lie in memory. -/
def MsgR.ok (x : MsgR) : Prop := x.dt ≤ 9223372036854775807 ∧ ∃ l, x.bo = uvs l ∧ l.length ≤ 1000000000
/-- A message of any length. -/
def MsgR.fits (x : MsgR) : Prop := x.dt ≤ 9223372036854775807 ∧ ∃ l, x.bo = uvs l
theorem p_plain {x : MsgR} {p lp lu : Int} {k : KeyR} (hx : x.ok) (hop : plainOp k.op) (ht : k.tx.size ≤ 200) : PureCall (XM m) 21 [x.sight p lp lu, k.av] (bv (findsV x p lp lu k)) := by
  obtain ⟨hd, l, hl, hlen⟩ := hx
  refine pcsearch_sight_finds (m := m) (K := tabK (tbFds m)) (tab_ok _ tbFds_ok) ?_
  obtain ⟨uid, fl, dt, bb, bo⟩ := x
  obtain ⟨op, nm, tx, kn, sb, sl, a, b⟩ := k
  simp only [] at hd hl hop ht ⊢
  subst hl
  have hday := k_day (T := tbFds m) rfl dt hd
  have hdated := fun a b c => k_dated (T := tbFds m) rfl a b c
  unfold Rsearch_sight_finds
  rcases hop with rfl | rfl | rfl | rfl | rfl | rfl | rfl
  · simp only [Int.reduceBEq, br_t, br_f]; rfl
  · simp only [Int.reduceBEq, br_t]; rfl
  · simp only [Int.reduceBEq, br_t, br_f]; rfl
  · simp only [Int.reduceBEq, br_t, br_f, hday, optK_s, asInt_v, hdated, asBool_v]; rfl
  · simp only [Int.reduceBEq, br_t, br_f, hday, optK_s, asInt_v, hdated, asBool_v]; rfl
  · simp only [Int.reduceBEq, br_t, br_f, hday, optK_s, asInt_v, hdated, asBool_v]; rfl
  · simp only [Int.reduceBEq, br_t, br_f]
    rw [rowsBytes_uvs]
    simp only [optK_s, mk_bs]
    rw [show sv tx = sv (bs tx.data.toList) by rw [bs_eta], k_Has (m := m) rfl ⟨hlen, by rw [arr_len]; omega⟩]
    simp only [optK_s, asBool_v, findsV]
    rw [if_neg (by omega), if_neg (by omega), if_neg (by omega), if_pos trivial]
    simp only [rowsBytes_uvs, Option.getD_some]
theorem plain_ok {keys : List KeyR} {x : MsgR} {p lp lu : Int} (hx : x.ok) (h : ∀ k ∈ keys, plainOp k.op ∨ 16 ≤ k.op) : FindsOk m findsV keys x p lp lu := fun k hk h0 h15 hn ht hk0 hk1 =>
  p_plain hx ((h k hk).resolve_right (by omega)) ht
/-! alive -/
noncomputable def tbAl (m : Int) : Tab := [(f_search_Find, E_Find m findsV), (f_ref09_Ints, E_Ints), (f_search_Has, E_Has m)]
theorem tbAl_ok : TabOk (XM m) (tbAl m) := tab_cons callQ_ok (tab_cons (fun xs v h => wide (callQ_ok xs v h)) (tab_cons callQ_ok tab_nil))
def bodyA : List UInt8 := [65, 58, 32, 98, 10, 10, 72, 101, 108, 108, 111]
def msgA : MsgR := ⟨4, 1, 0, false, uvs bodyA⟩
def msgB : MsgR := ⟨9, 0, 0, false, uvs [10, 120]⟩
def boxA : BoxR := ⟨⟨#[]⟩, 0, 0, false, [msgA, msgB]⟩
def keyT : KeyR := ⟨11, ⟨#[]⟩, bs [104, 69, 76, 76], 0, true, [], 0, 0⟩
def keyF : KeyR := ⟨1, ⟨#[]⟩, ⟨#[]⟩, 1, true, [], 0, 0⟩
def keyN : KeyR := ⟨16, ⟨#[]⟩, ⟨#[]⟩, 0, true, [], 0, 0⟩
theorem boxA_ok {keys : List KeyR} (hl : keys.length ≤ 1000000000) (h : ∀ k ∈ keys, plainOp k.op ∨ 16 ≤ k.op) : FindP m findsV false keys boxA := by
  refine ⟨(by simp), hl, fun k hk ho => ?_, by decide, fun i x hx => ?_⟩
  · have := h k hk
    unfold plainOp at this
    omega
  · have : x.ok := by
      match i, hx with
      | 0, hx => cases hx; exact ⟨by decide, bodyA, rfl, by decide⟩
      | 1, hx => cases hx; exact ⟨by decide, [10, 120], rfl, by decide⟩
    exact plain_ok this h
theorem alive_res : Rlaw22_alive (tabK (tbAl m)) = some (bv true) := by
  unfold Rlaw22_alive
  have e1 := k_Find (m := m) (fd := findsV) (T := tbAl m) (b := false) (keys := [keyT]) (bx := boxA) rfl (boxA_ok (by decide) (by simp [plainOp, keyT]))
  have e2 := k_Find (m := m) (fd := findsV) (T := tbAl m) (b := false) (keys := [keyF, keyN]) (bx := boxA) rfl (boxA_ok (by decide) (by simp [plainOp, keyF, keyN]))
  have f1 : findL findsV [keyT] boxA = [1] := by decide +kernel
  have f2 : findL findsV [keyF, keyN] boxA = [2] := by decide +kernel
  rw [f1] at e1
  rw [f2] at e2
  rw [show AV.agg [sv ({ data := #[] } : ByteArray), iv 0, iv 0, AV.lst 4 false [AV.agg [iv 4, iv 1, iv 0, AV.lst 1 false [uv 65, uv 58, uv 32, uv 98, uv 10, uv 10, uv 72, uv 101, uv 108, uv 108, uv 111]], AV.agg [iv 9, iv 0, iv 0, AV.lst 1 false [uv 10, uv 120]]]] = boxA.av from rfl,
    show AV.lst 7 false [AV.agg [iv 11, sv ({ data := #[] } : ByteArray), sv ({ data := #[104, 69, 76, 76] } : ByteArray), iv 0, AV.lst 2 true [], iv 0, iv 0]] = .lst 7 false ([keyT].map KeyR.av) from rfl, e1]
  simp only [optK_s, asLst_v]
  rw [show AV.lst 1 false [iv 1] = .lst 1 false (ivL [1]) from rfl, k_Ints rfl (by decide)]
  simp only [optK_s, asBool_v, decide_true, br_t]
  rw [show AV.lst 7 false [AV.agg [iv 1, sv ({ data := #[] } : ByteArray), sv ({ data := #[] } : ByteArray), iv 1, AV.lst 2 true [], iv 0, iv 0], AV.agg [iv 16, sv ({ data := #[] } : ByteArray), sv ({ data := #[] } : ByteArray), iv 0, AV.lst 2 true [], iv 0, iv 0]] = .lst 7 false ([keyF, keyN].map KeyR.av) from rfl, e2]
  simp only [optK_s, asLst_v]
  rw [show AV.lst 1 false [iv 2] = .lst 1 false (ivL [2]) from rfl, k_Ints rfl (by decide)]
  simp only [optK_s, asBool_v, decide_true, br_t]
  rw [show sv ({ data := #[97, 98, 99] } : ByteArray) = sv (bs [97, 98, 99]) from rfl, show sv ({ data := #[66] } : ByteArray) = sv (bs [66]) from rfl, k_Has (m := m) rfl ⟨by decide, by decide⟩]
  rfl
theorem p_alive : PureCall (XM m) f_law22_alive [] (bv true) := pclaw22_alive (m := m) (tab_ok _ tbAl_ok) alive_res
def e_alive : List AV → Option AV
  | [] => some (bv true)
  | _ => none
theorem e_alive_ok (xs : List AV) (v : AV) (h : e_alive xs = some v) : PureCall (XM m) f_law22_alive xs v := by
  unfold e_alive at h
  split at h
  · cases h; exact p_alive
  · cases h
/-! SearchDays -/
noncomputable def tbDays (m : Int) : Tab := [(f_law22_alive, e_alive), (f_search_Match, E_Match m findsV)]
theorem tbDays_ok : TabOk (XM m) (tbDays m) := tab_cons e_alive_ok (tab_cons callQ_ok tab_nil)
def keyD (op n : Int) : KeyR := ⟨op, ⟨#[]⟩, ⟨#[]⟩, n, true, [], 0, 0⟩
theorem keyD_right {op n : Int} (ho : 3 ≤ op ∧ op ≤ 5) (hn : 0 ≤ n ∧ n ≤ 1099511627776) : rightL [keyD op n] = true := by
  have hf : (keyD op n).fits = true := by
    unfold KeyR.fits keyD
    simp only []
    rw [decide_eq_false (by omega), decide_eq_false (by omega), decide_eq_false (p := ((((⟨#[]⟩ : ByteArray).size : Nat) : Int) > 200)) (by decide), decide_eq_false (p := n < 0) (by omega), decide_eq_false (by omega)]
    rfl
  have hm : mayV (keyD op n) ((0 : Nat) : Int) = true := by
    unfold mayV
    rw [hf, if_neg (by unfold keyD; simp only []; omega), if_neg (by unfold keyD; simp only []; omega)]
    unfold linksOf linkV
    rw [if_neg (by unfold keyD; simp only []; omega), if_neg (by unfold keyD; simp only []; omega)]
    rfl
  unfold rightL
  simp only [badFrom]
  rw [if_neg (by rw [hm]; simp)]
  rfl
theorem match_D {x : MsgR} {op n : Int} {T : Tab} (hT : tabK T f_search_Match = E_Match m findsV) (hx : x.ok) (ho : 3 ≤ op ∧ op ≤ 5) (hn : 0 ≤ n ∧ n ≤ 1099511627776) :
    tabK T f_search_Match [.lst 7 false [(keyD op n).av], x.av, iv 1, iv 1, iv 1] = some (bv (datedV (dayV x.dt) (op - 3) n)) := by
  have := k_Match (m := m) (fd := findsV) hT (b := false) (keys := [keyD op n]) (x := x) (p := 1) (lp := 1) (lu := 1) ⟨by simp, by simp, fun k hk h => by simp at hk; subst hk; unfold keyD at h; simp only [] at h; omega, plain_ok hx fun k hk => by
    simp at hk; subst hk; unfold plainOp keyD; simp only []; omega⟩
  rw [show [.lst 7 false [(keyD op n).av], x.av, iv 1, iv 1, iv 1] = [.lst 7 false ([keyD op n].map KeyR.av), x.av, iv 1, iv 1, iv 1] from rfl, this]
  unfold matchV
  rw [keyD_right ho hn, Bool.true_and]
  congr 2
  rw [evK_leaf (keys := [keyD op n]) (i := [keyD op n].length - 1) (k := keyD op n) rfl (by unfold keyD; simp only []; omega) (by unfold keyD; simp only []; omega) (by unfold keyD; simp only []; omega)]
  unfold findsV keyD
  simp only []
  rw [if_neg (by omega), if_neg (by omega), if_pos (by omega)]
theorem days_loop {x : MsgR} (hx : x.ok) {day : Int} (hd : 0 ≤ day ∧ day ≤ 65535) :
    fuelRec (Rlaw22_SearchDays_0 (tabK (tbDays m)) some) 3 (.s0 day 0 0 x.uid x.fl x.dt x.bb x.bo) = some (.x0 day ((if datedV (dayV x.dt) 0 day then 1 else 0) + (if datedV (dayV x.dt) 1 day then 1 else 0)) x.uid x.fl x.dt x.bb x.bo) := by
  have hw : w64 day = day := w64_id (by omega) (by omega)
  have h1 := match_D (m := m) (T := tbDays m) (op := 3) (n := day) rfl hx (by omega) (by omega)
  have h2 := match_D (m := m) (T := tbDays m) (op := 4) (n := day) rfl hx (by omega) (by omega)
  have c1 : ∀ i : Int, w64 (3 + i) = 3 + i → AV.lst 7 false [AV.agg [iv (w64 (3 + i)), sv ({ data := #[] } : ByteArray), sv ({ data := #[] } : ByteArray), iv (w64 day), AV.lst 2 true [], iv 0, iv 0]] = .lst 7 false [(keyD (3 + i) day).av] := fun i hi => by rw [hi, hw]; rfl
  have hone : ∀ (n i : Int) (rec : Slaw22_SearchDays_0 → Option Olaw22_SearchDays_0), (i = 0 ∨ i = 1) → 0 ≤ n → n ≤ 5 → Rlaw22_SearchDays_0 (tabK (tbDays m)) some rec (.s0 day n i x.uid x.fl x.dt x.bb x.bo) = rec (.s0 day (n + (if datedV (dayV x.dt) i day then 1 else 0)) (i + 1) x.uid x.fl x.dt x.bb x.bo) := by
    intro n i rec hi h0 h5
    simp only [Rlaw22_SearchDays_0]
    rw [br_yesD (by omega), c1 i (w64_id (by omega) (by omega)), show AV.agg [iv x.uid, iv x.fl, iv x.dt, AV.lst 1 x.bb x.bo] = x.av from rfl, match_D (m := m) rfl hx (by omega) (by omega), show (3 + i - 3 : Int) = i by omega]
    simp only [optK_s, asBool_v]
    rw [w64_id (n := i + 1) (by omega) (by omega), w64_id (n := n + 1) (by omega) (by omega)]
    cases datedV (dayV x.dt) i day with
    | true => rw [br_t, if_pos rfl]
    | false => rw [br_f, if_neg (by simp), Int.add_zero]
  show Rlaw22_SearchDays_0 (tabK (tbDays m)) some (fuelRec (Rlaw22_SearchDays_0 (tabK (tbDays m)) some) 2) _ = _
  rw [hone 0 0 _ (.inl rfl) (by omega) (by omega), show (0 : Int) + 1 = 1 from rfl]
  show Rlaw22_SearchDays_0 (tabK (tbDays m)) some (fuelRec (Rlaw22_SearchDays_0 (tabK (tbDays m)) some) 1) _ = _
  rw [hone _ _ _ (.inr rfl) (by split <;> omega) (by split <;> omega)]
  show Rlaw22_SearchDays_0 (tabK (tbDays m)) some (fuelRec (Rlaw22_SearchDays_0 (tabK (tbDays m)) some) 0) _ = _
  simp only [Rlaw22_SearchDays_0]
  rw [br_noD (by omega), Int.zero_add]
theorem days_res {x : MsgR} (hx : x.fits) {day : Int} (hd : 0 ≤ day ∧ day ≤ 65535) :
    Rlaw22_SearchDays (tabK (tbDays m)) (fuelRec (Rlaw22_SearchDays_0 (tabK (tbDays m)) some) 3) x.uid x.fl x.dt x.bb x.bo day = some (bv true) := by
  unfold Rlaw22_SearchDays
  rw [show tabK (tbDays m) f_law22_alive [] = some (bv true) from rfl]
  simp only [optK_s, asBool_v]
  rw [show (!true) = false from rfl, br_f]
  by_cases hl : ((x.bo.length : Nat) : Int) > 2000
  · rw [br_yesD hl]
  · have hx : x.ok := by
      obtain ⟨h1, l, h2⟩ := hx
      refine ⟨h1, l, h2, ?_⟩
      rw [h2, uvs_len] at hl
      omega
    rw [br_noD hl, days_loop hx hd]
    simp only [optK_s, Olaw22_SearchDays_0.k]
    have hw : w64 day = day := w64_id (by omega) (by omega)
    have hw1 : w64 (day + 1) = day + 1 := w64_id (by omega) (by omega)
    have cK : ∀ (op n : Int), AV.lst 7 false [AV.agg [iv op, sv ({ data := #[] } : ByteArray), sv ({ data := #[] } : ByteArray), iv n, AV.lst 2 true [], iv 0, iv 0]] = .lst 7 false [(keyD op n).av] := fun op n => rfl
    rw [hw, hw1]
    simp only [cK]
    rw [show AV.agg [iv x.uid, iv x.fl, iv x.dt, AV.lst 1 x.bb x.bo] = x.av from rfl, match_D (m := m) (op := 5) (n := day + 1) rfl hx (by omega) (by omega), match_D (m := m) (op := 4) (n := day) rfl hx (by omega) (by omega), match_D (m := m) (op := 5) (n := day) rfl hx (by omega) (by omega)]
    simp only [optK_s, asBool_v]
    generalize dayV x.dt = d
    have e3 : datedV d 0 day = decide (d < day) := rfl
    have e4 : datedV d (4 - 3) day = (d == day) := rfl
    have e4' : datedV d 1 day = (d == day) := rfl
    have e5 : datedV d (5 - 3) day = decide (d ≥ day) := rfl
    have e6 : datedV d (5 - 3) (day + 1) = decide (d ≥ day + 1) := rfl
    rw [e3, e4, e4', e5, e6]
    rcases Int.lt_trichotomy d day with h | h | h
    · rw [decide_eq_true (p := d < day) h, show (d == day) = false by simp; omega, decide_eq_false (p := d ≥ day + 1) (by omega), decide_eq_false (p := d ≥ day) (by omega)]; rfl
    · rw [decide_eq_false (p := d < day) (by omega), show (d == day) = true by simp [h], decide_eq_false (p := d ≥ day + 1) (by omega), decide_eq_true (p := d ≥ day) (by omega)]; rfl
    · rw [decide_eq_false (p := d < day) (by omega), show (d == day) = false by simp; omega, decide_eq_true (p := d ≥ day + 1) (by omega), decide_eq_true (p := d ≥ day) (by omega)]; rfl
theorem p_Days {x : MsgR} (hx : x.fits) {day : Int} (hd : 0 ≤ day ∧ day ≤ 65535) : PureCall (XM m) f_law22_SearchDays [x.av, .v (.int .u16 day)] (bv true) :=
  pclaw22_SearchDays (m := m) (tab_ok _ tbDays_ok) (fun s o h => ⟨3, h⟩) (days_res hx hd)
end
end Go.Proofs.YtkkbdebmilagoaaGreatDoor
