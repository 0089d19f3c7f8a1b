import Derived.Test.YtkkbdebmilagoaaGreatDoorSeP
import Derived.Test.YtkkbdebmilagoaaGreatDoorToldA
import Derived.Test.YtkkbdebmilagoaaGreatDoorAbStr
import Derived.Test.YtkkbdebmilagoaaGreatDoorAbSpec
import Derived.Test.YtkkbdebmilagoaaGreatDoorAbByt
set_option linter.unusedVariables false
set_option linter.unusedSimpArgs false
set_option maxRecDepth 100000
namespace Go.Proofs.YtkkbdebmilagoaaGreatDoor
/- may, Right; small; Day, dated. -/
open Go Go.Ab

def flagR (n : Int) : Bool := w64 ((((BitVec.ofInt 64 n &&& ~~~BitVec.ofInt 64 31).toNat : Nat) : Int)) == 0
noncomputable abbrev E_flag := callF X f_flag_Right (fun n : Int => [iv n]) (fun _ => True) (fun n => bv (flagR n))
theorem k_flag {T : Tab} (hT : tabK T f_flag_Right = E_flag) (n : Int) : tabK T f_flag_Right [iv n] = some (bv (flagR n)) := by
  rw [hT]
  refine callF_eq (enc := fun n : Int => [iv n]) (fun n _ => pcflag_Right ok_nil rfl) (fun a b h => ?_) (a := n) trivial
  injection h with h _
  injection h with h
  injection h with _ h
  rw [h]
noncomputable abbrev E_day := callF X f_date_Day (fun n : Int => [iv n]) (fun n => n ≤ 9223372036854775807) (fun n => iv (if n < 0 then -1 else n / 86400))
theorem k_day {T : Tab} (hT : tabK T f_date_Day = E_day) (n : Int) (hn : n ≤ 9223372036854775807) : tabK T f_date_Day [iv n] = some (iv (if n < 0 then -1 else n / 86400)) := by
  rw [hT]
  refine callF_eq (enc := fun n : Int => [iv n]) (fun n hn => pcdate_Day ok_nil ?_) (fun a b h => ?_) (a := n) hn
  · unfold Rdate_Day
    by_cases h0 : n < 0
    · rw [br_yesD h0, if_pos h0]
    · rw [br_noD h0, if_neg h0, Int.tdiv_eq_ediv_of_nonneg (by omega), w64_id (by omega) (by omega)]
  · injection h with h _
    injection h with h
    injection h with _ h
    rw [h]
def datedV (day kind n : Int) : Bool := if kind = 0 then decide (day < n) else if kind = 1 then day == n else decide (day ≥ n)
noncomputable abbrev E_dated := callF X f_search_dated (fun q : Int × Int × Int => [iv q.1, iv q.2.1, iv q.2.2]) (fun _ => True) (fun q => bv (datedV q.1 q.2.1 q.2.2))
theorem k_dated {T : Tab} (hT : tabK T f_search_dated = E_dated) (a b c : Int) : tabK T f_search_dated [iv a, iv b, iv c] = some (bv (datedV a b c)) := by
  rw [hT]
  refine callF_eq (enc := fun q : Int × Int × Int => [iv q.1, iv q.2.1, iv q.2.2]) (fun q _ => pcsearch_dated ok_nil ?_) (fun a b h => ?_) (a := (a, b, c)) trivial
  · unfold Rsearch_dated datedV
    by_cases h0 : q.2.1 = 0
    · rw [if_pos h0]; simp [h0, br]
    · by_cases h1 : q.2.1 = 1
      · rw [if_neg h0, if_pos h1]; simp [h1, br]
      · rw [if_neg h0, if_neg h1, show (q.2.1 == 0) = false by simpa using h0, show (q.2.1 == 1) = false by simpa using h1]; rfl
  · obtain ⟨a1, a2, a3⟩ := a
    obtain ⟨b1, b2, b3⟩ := b
    simp [iv] at h
    obtain ⟨rfl, rfl, rfl⟩ := h
    rfl

/-! may -/
def linkV (n i links at1 : Int) : Bool := !(decide (n < 0) || (decide (i < links) && decide (n ≥ at1)) || (decide (i ≥ links) && n != 0))
def mayIn (n : Int) : Bool := decide (0 ≤ n) && decide (n ≤ 4294967295)
def setR (sl : List AV) : Bool := decide (1 ≤ sl.length) && decide (sl.length ≤ 60) && sl.all fun r => match r with
  | .agg [.v (.int .i64 a), .v (.int .i64 b)] => mayIn a && mayIn b
  | _ => false
def linksOf (op : Int) : Int := if op = 16 then 1 else if op = 17 ∨ op = 18 then 2 else 0
def KeyR.fits (k : KeyR) : Bool := !(decide (k.op < 0) || decide (k.op > 18) || decide (((k.nm.size : Nat) : Int) > 200) || decide (((k.tx.size : Nat) : Int) > 200) || decide (k.kn < 0) || decide (k.kn > 1099511627776))
def mayV (k : KeyR) (at1 : Int) : Bool :=
  k.fits && (if k.op = 1 ∨ k.op = 2 then flagR k.kn else true) && linkV k.a 0 (linksOf k.op) at1 && linkV k.b 1 (linksOf k.op) at1 && (if k.op = 14 ∨ k.op = 15 then setR k.sl else ((k.sl.length : Nat) : Int) == 0)
theorem may_round {β : Type} (K : PureK) (d : Osearch_may_0 → Option β) (r : Ssearch_may_0 → Option β) (at1 links sets a b : Int) (o0 : Int) (o1 o2 : ByteArray) (o3 : Int) (o4n : Bool) (o4 : List AV) (o5 o6 : Int) (t : Nat) (ht : t < 2) :
    Rsearch_may_0 K d r (.s0 at1 links sets a b t o0 o1 o2 o3 o4n o4 o5 o6) = br (linkV (if t = 0 then a else b) t links at1) (r (.s0 at1 links sets a b (t + 1) o0 o1 o2 o3 o4n o4 o5 o6)) (d (.x0 false sets o0 o1 o2 o3 o4n o4 o5 o6)) := by
  have h2 : t = 0 ∨ t = 1 := by omega
  have key : ∀ (n i : Int) (x y : Option β), (optK (br (decide (n < 0)) (some (bv true)) (br (decide (i < links)) (br (decide (n ≥ at1)) (some (bv true)) (br (decide (i ≥ links)) (some (bv (n != 0))) (some (bv false)))) (br (decide (i ≥ links)) (some (bv (n != 0))) (some (bv false))))) fun wv3 => Ab.asBool wv3 fun wb4 => br wb4 x y) = br (linkV n i links at1) y x := by
    intro n i x y
    unfold linkV
    cases decide (n < 0) <;> cases decide (i < links) <;> cases decide (n ≥ at1) <;> cases decide (i ≥ links) <;> cases (n != 0) <;> rfl
  rcases h2 with rfl | rfl
  · exact key a 0 _ _
  · exact key b 1 _ _
theorem may_loop (K : PureK) (at1 links sets a b : Int) (o0 : Int) (o1 o2 : ByteArray) (o3 : Int) (o4n : Bool) (o4 : List AV) (o5 o6 : Int) :
    fuelRec (Rsearch_may_0 K some) 3 (.s0 at1 links sets a b 0 o0 o1 o2 o3 o4n o4 o5 o6) = some (if linkV a 0 links at1 && linkV b 1 links at1 then .x1 sets o0 o1 o2 o3 o4n o4 o5 o6 else .x0 false sets o0 o1 o2 o3 o4n o4 o5 o6) := by
  show Rsearch_may_0 K some (fuelRec (Rsearch_may_0 K some) 2) _ = _
  rw [show (0 : Int) = ((0 : Nat) : Int) from rfl, may_round K _ _ _ _ _ _ _ _ _ _ _ _ _ _ _ 0 (by omega)]
  cases h0 : linkV a ((0 : Nat) : Int) links at1 with
  | false => rw [if_pos rfl, h0]; rfl
  | true =>
    rw [if_pos rfl, h0, br_t]
    show Rsearch_may_0 K some (fuelRec (Rsearch_may_0 K some) 1) (.s0 at1 links sets a b ((1 : Nat) : Int) o0 o1 o2 o3 o4n o4 o5 o6) = _
    rw [may_round K _ _ _ _ _ _ _ _ _ _ _ _ _ _ _ 1 (by omega), if_neg (by omega)]
    cases h1 : linkV b ((1 : Nat) : Int) links at1 with
    | false => rfl
    | true => rfl
theorem may_guard (k : KeyR) (x : Option AV) : (optK (br (decide (k.op < 0)) (some (bv true)) (br (decide (k.op > 18)) (some (bv true)) (br (decide (((k.nm.size : Nat) : Int) > 200)) (some (bv true)) (br (decide (((k.tx.size : Nat) : Int) > 200)) (some (bv true)) (br (decide (k.kn < 0)) (some (bv true)) (some (bv (decide (k.kn > 1099511627776))))))))) fun wv5 => Ab.asBool wv5 fun wb6 => br wb6 (some (bv false)) x) = br k.fits x (some (bv false)) := by
  unfold KeyR.fits
  cases decide (k.op < 0) <;> cases decide (k.op > 18) <;> cases decide (((k.nm.size : Nat) : Int) > 200) <;> cases decide (((k.tx.size : Nat) : Int) > 200) <;> cases decide (k.kn < 0) <;> cases decide (k.kn > 1099511627776) <;> rfl
set_option maxHeartbeats 4000000 in
theorem may_res {K : PureK} (k : KeyR) (at1 : Int) (hF : K f_flag_Right [iv k.kn] = some (bv (flagR k.kn))) (hU : k.op = 14 ∨ k.op = 15 → K f_uids_Right [.lst 2 k.sb k.sl] = some (bv (setR k.sl))) :
    Rsearch_may K (fuelRec (Rsearch_may_0 K some) 3) k.op k.nm k.tx k.kn k.sb k.sl k.a k.b at1 = some (bv (mayV k at1)) := by
  unfold Rsearch_may
  rw [may_guard]
  unfold mayV
  cases hfit : k.fits with
  | false => rfl
  | true =>
    rw [br_t]
    have hop : 0 ≤ k.op ∧ k.op ≤ 18 := by
      unfold KeyR.fits at hfit
      simp at hfit
      omega
    obtain ⟨op, nm, tx, kn, sb, sl, a, b⟩ := k
    simp only [] at hop hF hU ⊢
    have hcs : op = 0 ∨ op = 1 ∨ op = 2 ∨ op = 3 ∨ op = 4 ∨ op = 5 ∨ op = 6 ∨ op = 7 ∨ op = 8 ∨ op = 9 ∨ op = 10 ∨ op = 11 ∨ op = 12 ∨ op = 13 ∨ op = 14 ∨ op = 15 ∨ op = 16 ∨ op = 17 ∨ op = 18 := by omega
    rcases hcs with rfl | rfl | rfl | rfl | rfl | rfl | rfl | rfl | rfl | rfl | rfl | rfl | rfl | rfl | rfl | rfl | rfl | rfl | rfl <;>
      (simp only [Int.reduceBEq, br_t, br_f, may_loop, optK_s, hF, asBool_v, linksOf, Int.reduceEq, if_true, if_false, or_true, true_or, or_false, or_self, Bool.true_and]
       first
        | (cases flagR kn <;> cases linkV a 0 _ at1 <;> cases linkV b 1 _ at1 <;> rfl)
        | (cases linkV a 0 _ at1 <;> cases linkV b 1 _ at1 <;> rfl)
        | (cases linkV a 0 _ at1 <;> cases linkV b 1 _ at1 <;> first | rfl | (show (optK (K f_uids_Right [AV.lst 2 sb sl]) fun wv12 => Ab.asBool wv12 fun wb13 => some (bv wb13)) = _; rw [hU (by simp)]; cases setR sl <;> rfl)))

/-- A set that can be asked: the code answers of it. -/
def SetOk (b : Bool) (sl : List AV) : Prop := PureCall X f_uids_Right [.lst 2 b sl] (bv (setR sl))
def KeyR.ok (k : KeyR) : Prop := k.op = 14 ∨ k.op = 15 → SetOk k.sb k.sl
noncomputable abbrev E_setR := callF X f_uids_Right (fun q : Bool × List AV => [.lst 2 q.1 q.2]) (fun q => SetOk q.1 q.2) (fun q => bv (setR q.2))
theorem k_setR {T : Tab} (hT : tabK T f_uids_Right = E_setR) {b : Bool} {sl : List AV} (h : SetOk b sl) : tabK T f_uids_Right [.lst 2 b sl] = some (bv (setR sl)) := by
  rw [hT]
  refine callF_eq (enc := fun q : Bool × List AV => [.lst 2 q.1 q.2]) (fun q hq => hq) (fun a b h => ?_) (a := (b, sl)) h
  obtain ⟨a1, a2⟩ := a
  obtain ⟨b1, b2⟩ := b
  simp at h
  rw [h.2]
noncomputable def tbMay : Tab := [(f_flag_Right, E_flag), (f_uids_Right, E_setR)]
theorem tbMay_ok : TabOk X tbMay := tab_cons callQ_ok (tab_cons callQ_ok tab_nil)
theorem KeyR.inj {a b : KeyR} (h : a.av = b.av) : a = b := by
  obtain ⟨a0, a1, a2, a3, a4, a5, a6, a7⟩ := a
  obtain ⟨b0, b1, b2, b3, b4, b5, b6, b7⟩ := b
  simp [KeyR.av, KeyR.cells, iv, sv] at h
  obtain ⟨rfl, rfl, rfl, rfl, ⟨rfl, rfl⟩, h6, h7⟩ := h
  obtain rfl : a6 = b6 := by omega
  obtain rfl : a7 = b7 := by omega
  rfl
noncomputable abbrev E_may := callF X f_search_may (fun q : KeyR × Int => [q.1.av, iv q.2]) (fun q => q.1.ok) (fun q => bv (mayV q.1 q.2))
theorem k_may {T : Tab} (hT : tabK T f_search_may = E_may) {k : KeyR} {i : Int} (h : k.ok) : tabK T f_search_may [k.av, iv i] = some (bv (mayV k i)) := by
  rw [hT]
  refine callF_eq (enc := fun q : KeyR × Int => [q.1.av, iv q.2]) (fun q hq => ?_) (fun a b h => ?_) (a := (k, i)) h
  · exact pcsearch_may (tab_ok _ tbMay_ok) (fun s o h => ⟨3, h⟩) (may_res q.1 q.2 (k_flag rfl _) fun h => k_setR rfl (hq h))
  · obtain ⟨a1, a2⟩ := a
    obtain ⟨b1, b2⟩ := b
    simp only [List.cons.injEq, and_true] at h
    obtain ⟨h1, h2⟩ := h
    obtain rfl := KeyR.inj h1
    simp [iv] at h2
    subst h2
    rfl

/-! Right -/
noncomputable def tbRight : Tab := [(f_search_may, E_may)]
theorem tbRight_ok : TabOk X tbRight := tab_cons callQ_ok tab_nil
/-- Is a key of these one that may not be, from a place on? -/
def badFrom : List KeyR → Nat → Option KeyR
  | [], _ => none
  | k :: r, i => if 60 ≤ i ∨ mayV k i = false then some k else badFrom r (i + 1)
structure RiS where
  b : Bool
  keys : List KeyR
  i : Nat
def RiS.enc (q : RiS) : Ssearch_Right_0 := .s0 q.b (q.keys.map KeyR.av) q.b (q.keys.map KeyR.av) q.keys.length q.i
def RiS.P (q : RiS) : Prop := q.i ≤ q.keys.length ∧ q.keys.length ≤ 1000000000 ∧ ∀ k ∈ q.keys, k.ok
def RiS.out (q : RiS) : Osearch_Right_0 := match badFrom (q.keys.drop q.i) q.i with
  | some k => .x0 q.b (q.keys.map KeyR.av) false k.op k.nm k.tx k.kn k.sb k.sl k.a k.b
  | none => .x1 q.b (q.keys.map KeyR.av)
theorem l_Right {q : RiS} (h : q.P) : loopF (Rsearch_Right_0 (tabK tbRight) some) RiS.enc RiS.P RiS.out q.enc = some q.out := by
  refine loopF_eq (enc := RiS.enc) (fun q => q.keys.length - q.i) (fun q rec hP hrec => ?_) (fun a b h => ?_) h
  · obtain ⟨b, keys, i⟩ := q
    obtain ⟨h1, h2, h3⟩ := hP
    simp only [] at h1 h2 h3
    rw [show RiS.enc ⟨b, keys, i⟩ = .s0 b (keys.map KeyR.av) b (keys.map KeyR.av) keys.length i from rfl]
    simp only [Rsearch_Right_0, RiS.out, List.length_map]
    by_cases hi : i < keys.length
    · rw [br_yesD (p := (i : Int) < (keys.length : Int)) (by omega), br_yesD (p := 0 ≤ (i : Int)) (by omega), br_yesD (p := (i : Int) < (keys.length : Int)) (by omega), List.drop_eq_getElem_cons hi]
      have hk3 := h3 keys[i] (List.getElem_mem hi)
      rw [show ((i : Int)).toNat = i from rfl, List.getElem?_map, List.getElem?_eq_getElem hi]
      generalize hgk : keys[i] = k at hk3
      simp only [Option.map_some, optK_s]
      rw [show k.av = AV.agg [iv k.op, sv k.nm, sv k.tx, iv k.kn, .lst 2 k.sb k.sl, iv k.a, iv k.b] from rfl, asAgg_v _ 7 rfl]
      simp only [List.getD_cons_zero, List.getD_cons_succ, asInt_v, asStr_v, asLst_v]
      rw [show AV.agg [iv k.op, sv k.nm, sv k.tx, iv k.kn, .lst 2 k.sb k.sl, iv k.a, iv k.b] = k.av from rfl, k_may rfl hk3]
      simp only [optK_s, asBool_v, badFrom]
      by_cases h60 : 60 ≤ i
      · rw [br_yesD (p := (i : Int) ≥ 60) (by omega), if_pos (.inl h60)]; rfl
      · rw [br_noD (p := (i : Int) ≥ 60) (by omega)]
        simp only [optK_s, asBool_v]
        cases hm : mayV k i with
        | false => rw [if_pos (.inr rfl)]; rfl
        | true =>
          rw [if_neg (by simp; omega), show (!true) = false from rfl, br_f, w64_id (n := (i : Int) + 1) (by omega) (by omega)]
          exact hrec ⟨b, keys, i + 1⟩ ⟨by simp only []; omega, h2, h3⟩ (by simp only []; omega)
    · rw [br_noD (by omega), List.drop_eq_nil_of_le (by omega)]; rfl
  · obtain ⟨a1, a2, a3⟩ := a
    obtain ⟨b1, b2, b3⟩ := b
    simp [RiS.enc] at h
    obtain ⟨rfl, h, _, _, _, h3⟩ := h
    obtain rfl : a3 = b3 := by omega
    obtain rfl : a2 = b2 := (List.map_inj_right fun x y h => KeyR.inj h).1 h
    rfl
def rightL (keys : List KeyR) : Bool := (badFrom keys 0).isNone && decide (0 < keys.length)
noncomputable abbrev E_Right := callF X f_search_Right (fun q : Bool × List KeyR => [.lst 7 q.1 (q.2.map KeyR.av)]) (fun q => q.2.length ≤ 1000000000 ∧ ∀ k ∈ q.2, k.ok) (fun q => bv (rightL q.2))
theorem p_Right {b : Bool} {keys : List KeyR} (h : keys.length ≤ 1000000000 ∧ ∀ k ∈ keys, k.ok) : PureCall X f_search_Right [.lst 7 b (keys.map KeyR.av)] (bv (rightL keys)) := by
  refine pcsearch_Right (tab_ok _ tbRight_ok) (fun s o h => loopF_ok (enc := RiS.enc) (P := RiS.P) (f := RiS.out) s o h) ?_
  unfold Rsearch_Right
  rw [List.length_map, show Ssearch_Right_0.s0 b (keys.map KeyR.av) b (keys.map KeyR.av) ((keys.length : Nat) : Int) 0 = RiS.enc ⟨b, keys, 0⟩ from rfl, l_Right (q := ⟨b, keys, 0⟩) ⟨Nat.zero_le _, h.1, h.2⟩]
  simp only [optK_s, RiS.out, List.drop_zero]
  unfold rightL
  cases badFrom keys 0 with
  | some k => rfl
  | none =>
    simp only [Osearch_Right_0.k, List.length_map, Option.isNone_none, Bool.true_and]
    congr 3
    simp
end Go.Proofs.YtkkbdebmilagoaaGreatDoor
