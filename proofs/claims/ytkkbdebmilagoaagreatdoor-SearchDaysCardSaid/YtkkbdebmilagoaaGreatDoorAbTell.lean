/- Loops that are told: out of one round's law. -/
import Derived.Test.YtkkbdebmilagoaaGreatDoorAbTab
set_option linter.unusedVariables false
set_option linter.unusedSimpArgs false
namespace Go.Ab
open Go

theorem Ok.congr {X Y : Ctx} (hG : Y.G = X.G) {s : St} (h : Ok X s) : Ok Y s := ⟨h.inj, h.obj, by rw [hG]; exact h.glob, h.maskLt⟩

theorem CodeAt.congr {X Y : Ctx} (hP : Y.P = X.P) (hG : Y.G = X.G) {c : Code} {e e' : Env} {h h' : Heap} {x : Ex} (hc : CodeAt X c e h x e' h') : CodeAt Y c e h x e' h' := by
  intro s a hok hH hr Q hQ
  rw [hP]
  exact hc s a (hok.congr hG.symm) hH hr Q fun s' a' h1 h2 h3 h4 h5 => hQ s' a' h1 (h2.congr hG) h3 h4 h5

theorem PureCall.congr {X Y : Ctx} (hP : Y.P = X.P) (hG : Y.G = X.G) {g : FuncId} {as : List AV} {v : AV} (h : PureCall X g as v) : PureCall Y g as v := by
  refine ⟨h.1, fun s hok hH cs hr => ?_⟩
  have := h.2 s (hok.congr hG.symm) hH cs hr
  rw [← hP] at this
  exact this.mono fun cv w' ⟨s', h1, h2, h3, h4, h5⟩ => ⟨s', h1, h2, h3, h4.congr hG, h5⟩

theorem KOk.congr {X Y : Ctx} (hP : Y.P = X.P) (hG : Y.G = X.G) {K : PureK} (h : KOk X K) : KOk Y K := fun g as v hv => (h g as v hv).congr hP hG

theorem CodeAt.clear {X : Ctx} {c : Code} {e e' : Env} {h h' : Heap} {x : Ex} (hc : CodeAt X c e h x e' h') (l : List Tmp) : CodeAt X c e h x (clearEnv l e') h' :=
  fun s a hok hH hr Q hQ => hc s a hok hH hr Q fun s' a' h1 h2 h3 h4 h5 => hQ s' a' h1 h2 h3 (clearEnv_ok l h4) h5

theorem CodeAt.pre {X : Ctx} {c : Code} {e e' : Env} {h h' : Heap} {x : Ex} (l : List Tmp) (hc : CodeAt X c (clearEnv l e) h x e' h') : CodeAt X c e h x e' h' :=
  fun s a hok hH hr Q hQ => hc s a hok hH (clearEnv_ok l hr) Q hQ

/-- The i-th loop's body of a function. -/
def loopBody (P : Program) (f i : Nat) : Code :=
  match P.funcs[f]? with
  | some fn => match fn.body with
    | some c => (loopsOf c).getD i .skip
    | none => .skip
  | none => .skip

/-- Short words. -/
abbrev iv (n : Int) : AV := .v (.int .i64 n)
abbrev uv (n : Int) : AV := .v (.int .u8 n)
abbrev rv (n : Int) : AV := .v (.int .i32 n)
abbrev bv (b : Bool) : AV := .v (.bool b)
abbrev sv (s : ByteArray) : AV := .v (.string s)
abbrev w64 (n : Int) : Int := IntKind.wrap .i64 n
abbrev w8 (n : Int) : Int := IntKind.wrap .u8 n

theorem w64_id {n : Int} (h1 : -9223372036854775808 ≤ n) (h2 : n ≤ 9223372036854775807) : w64 n = n := by
  unfold w64 IntKind.wrap
  simp [IntKind.bits, IntKind.signed]
  omega

section
variable {β : Type}

/-- An interface value: nil, or one of a type. -/
def asErr (x : AV) (cn : Option β) (ci : TypeId → AV → Option β) : Option β := match x with
  | .v .nilIface => cn
  | .iface t y => ci t y
  | _ => none

/-- Rounds, with fuel. -/
def fuelRec {S O : Type} (R : (S → Option O) → S → Option O) : Nat → S → Option O
  | 0, _ => none
  | n + 1, s => R (fuelRec R n) s

theorem optK_s {α β : Type} (x : α) (c : α → Option β) : optK (some x) c = c x := rfl
theorem optK_n {α β : Type} (c : α → Option β) : optK none c = none := rfl
theorem asInt_v {β : Type} (k : IntKind) (n : Int) (c : Int → Option β) : asInt (.v (.int k n)) k c = c n := by simp [asInt]
theorem asBool_v {β : Type} (b : Bool) (c : Bool → Option β) : asBool (.v (.bool b)) c = c b := rfl
theorem asStr_v {β : Type} (s : ByteArray) (c : ByteArray → Option β) : asStr (.v (.string s)) c = c s := rfl
theorem asLst_v {β : Type} (es : Nat) (b : Bool) (r : List AV) (c : Bool → List AV → Option β) : asLst (.lst es b r) es c = c b r := by
  show (match Nat.beq es es with | true => c b r | false => none) = c b r
  rw [show Nat.beq es es = true from Nat.beq_refl es]
theorem asAgg_v {β : Type} (cs : List AV) (n : Nat) (h : cs.length = n) (c : (Nat → AV) → Option β) : asAgg (.agg cs) n c = c (fun i => cs.getD i .dead) := by simp [asAgg, h]
theorem asTup_v {β : Type} (cs : List AV) (n : Nat) (h : cs.length = n) (c : (Nat → AV) → Option β) : asTup (.tup cs) n c = c (fun i => cs.getD i .dead) := by simp [asTup, h]
theorem br_t {β : Type} (x y : Option β) : br true x y = x := rfl
theorem br_f {β : Type} (x y : Option β) : br false x y = y := rfl
theorem br_pos {β : Type} {b : Bool} {x y : Option β} (h : b = true) : br b x y = x := by rw [h]; rfl
theorem br_neg {β : Type} {b : Bool} {x y : Option β} (h : b = false) : br b x y = y := by rw [h]; rfl
theorem br_yesD {β : Type} {p : Prop} [Decidable p] {x y : Option β} (h : p) : br (decide p) x y = x := br_pos (decide_eq_true h)
theorem br_noD {β : Type} {p : Prop} [Decidable p] {x y : Option β} (h : ¬ p) : br (decide p) x y = y := br_neg (decide_eq_false h)
theorem br_ite {β : Type} (b : Bool) (x y : Option β) : br b x y = if b = true then x else y := by cases b <;> rfl

theorem some_iv {a b : Int} (h : a = b) : some (iv a) = some (iv b) := by rw [h]

noncomputable def propB (p : Prop) : Bool := @decide p (Classical.propDecidable p)
theorem propB_of {p : Prop} (h : p) : propB p = true := by unfold propB; exact @decide_eq_true p (Classical.propDecidable p) h
theorem of_propB {p : Prop} (h : propB p = true) : p := by unfold propB at h; exact @of_decide_eq_true p (Classical.propDecidable p) h

/-- What a loop answers, where its invariant holds. -/
def lOf {S O : Type} (inv : S → Bool) (out : S → O) (s : S) : Option O := match inv s with
  | true => some (out s)
  | false => none

theorem lOf_pos {S O : Type} {inv : S → Bool} {out : S → O} {s : S} (h : inv s = true) : lOf inv out s = some (out s) := by unfold lOf; rw [h]

theorem fuel_of {S O : Type} {R : (S → Option O) → S → Option O} (inv : S → Bool) (out : S → O) (μ : S → Nat)
    (step : ∀ (s : S) (rec : S → Option O), inv s = true → (∀ s', inv s' = true → μ s' < μ s → rec s' = some (out s')) → R rec s = some (out s)) :
    ∀ s o, lOf inv out s = some o → ∃ m, fuelRec R m s = some o := by
  have key : ∀ (n : Nat) (s : S), inv s = true → μ s < n → fuelRec R n s = some (out s) := by
    intro n
    induction n with
    | zero => intro s _ h; exact absurd h (Nat.not_lt_zero _)
    | succ n ih => exact fun s hs hn => step s _ hs fun s' h1 h2 => ih s' h1 (by omega)
  intro s o h
  unfold lOf at h
  split at h
  · rename_i hs
    cases h
    exact ⟨μ s + 1, key _ s hs (Nat.lt_succ_self _)⟩
  · cases h

/-- A loop's rounds; what is let go of behind each, and behind the loop. -/
def tellRun (X : Ctx) (K : PureK) (n f i : Nat) (ts : List (Nat × Nat × Nat)) (len : Nat) (cl clo : List Tmp) (m : Nat) (e : Env) (h : Heap) (k : Ex → Env → Heap → Option β) : Option β :=
  iterK (fun e h k => codeK X K (bodyK X K n 5) n f (loopBody X.P f i) e h k) (roundEnd ts len cl) m e h fun x e h => k x (clearEnv clo e) h

/-- One round. -/
def tellOne (X : Ctx) (K : PureK) (n f i : Nat) (ts : List (Nat × Nat × Nat)) (len : Nat) (cl clo : List Tmp) (r : Env → Heap → Option β) (k : Ex → Env → Heap → Option β) (e : Env) (h : Heap) : Option β :=
  codeK X K (bodyK X K n 5) n f (loopBody X.P f i) e h fun x e h => match x with
    | .normal => r (roundEnd ts len cl e h).1 (roundEnd ts len cl e h).2
    | x => k x (clearEnv clo e) h

theorem tellRun_succ {X : Ctx} {K : PureK} {n f i : Nat} {ts : List (Nat × Nat × Nat)} {len : Nat} {cl clo : List Tmp} {m : Nat} {e : Env} {h : Heap} {k : Ex → Env → Heap → Option β} :
    tellRun X K n f i ts len cl clo (m + 1) e h k = tellOne X K n f i ts len cl clo (fun e h => tellRun X K n f i ts len cl clo m e h k) k e h := by
  unfold tellRun tellOne
  simp only [iterK]
  congr 1
end

theorem bind_optK {α β γ : Type} (o : Option α) (c : α → Option β) (φ : β → Option γ) : (optK o c).bind φ = optK o fun x => (c x).bind φ := by cases o <;> rfl
theorem bind_br {β γ : Type} (b : Bool) (x y : Option β) (φ : β → Option γ) : (br b x y).bind φ = br b (x.bind φ) (y.bind φ) := by cases b <;> rfl
theorem bind_asInt {β γ : Type} (x : AV) (k : IntKind) (c : Int → Option β) (φ : β → Option γ) : (asInt x k c).bind φ = asInt x k fun n => (c n).bind φ := by
  unfold asInt; split
  · split <;> rfl
  · rfl
theorem bind_asBool {β γ : Type} (x : AV) (c : Bool → Option β) (φ : β → Option γ) : (asBool x c).bind φ = asBool x fun n => (c n).bind φ := by
  unfold asBool; split <;> rfl
theorem bind_asStr {β γ : Type} (x : AV) (c : ByteArray → Option β) (φ : β → Option γ) : (asStr x c).bind φ = asStr x fun n => (c n).bind φ := by
  unfold asStr; split <;> rfl
theorem bind_asLst {β γ : Type} (x : AV) (es : Nat) (c : Bool → List AV → Option β) (φ : β → Option γ) : (asLst x es c).bind φ = asLst x es fun b r => (c b r).bind φ := by
  unfold asLst; split
  · split <;> rfl
  · rfl
theorem bind_asAgg {β γ : Type} (x : AV) (n : Nat) (c : (Nat → AV) → Option β) (φ : β → Option γ) : (asAgg x n c).bind φ = asAgg x n fun g => (c g).bind φ := by
  unfold asAgg; split
  · split <;> rfl
  · rfl
theorem bind_asTup {β γ : Type} (x : AV) (n : Nat) (c : (Nat → AV) → Option β) (φ : β → Option γ) : (asTup x n c).bind φ = asTup x n fun g => (c g).bind φ := by
  unfold asTup; split
  · split <;> rfl
  · rfl
theorem bind_asBig {β γ : Type} (x : AV) (n : Nat) (c : List AV → Option β) (φ : β → Option γ) : (asBig x n c).bind φ = asBig x n fun g => (c g).bind φ := by
  unfold asBig; split
  · rw [bind_br]; rfl
  · rfl
theorem bind_asErr {β γ : Type} (x : AV) (cn : Option β) (ci : TypeId → AV → Option β) (φ : β → Option γ) : (asErr x cn ci).bind φ = asErr x (cn.bind φ) fun t y => (ci t y).bind φ := by
  unfold asErr; split <;> rfl
theorem bind_none {β γ : Type} (φ : β → Option γ) : (none : Option β).bind φ = none := rfl

theorem clear_lit (e : Env) (n : Nat) (h : e.length = n) (cl : List Tmp) : clearEnv cl e = clearEnv cl ((List.range n).map fun i => e.getD i .dead) := by
  congr 1
  apply List.ext_getElem?
  intro j
  subst h
  by_cases hj : j < e.length
  · simp [hj, List.getD]
  · simp [hj]

theorem loops_sub : ∀ (c : Code) (b : Code), b ∈ loopsOf c → (codeGood c = true → codeGood b = true) ∧ ∀ b' ∈ loopsOf b, b' ∈ loopsOf c := by
  intro c
  induction c with
  | seq a b iha ihb =>
    intro d hd
    simp only [loopsOf, List.mem_append] at hd ⊢
    simp only [codeGood, Bool.and_eq_true]
    rcases hd with hd | hd
    · exact ⟨fun h => (iha d hd).1 h.1, fun b' hb' => .inl ((iha d hd).2 b' hb')⟩
    · exact ⟨fun h => (ihb d hd).1 h.2, fun b' hb' => .inr ((ihb d hd).2 b' hb')⟩
  | cond c a b iha ihb =>
    intro d hd
    simp only [loopsOf, List.mem_append] at hd ⊢
    simp only [codeGood, Bool.and_eq_true]
    rcases hd with hd | hd
    · exact ⟨fun h => (iha d hd).1 h.1, fun b' hb' => .inl ((iha d hd).2 b' hb')⟩
    · exact ⟨fun h => (ihb d hd).1 h.2, fun b' hb' => .inr ((ihb d hd).2 b' hb')⟩
  | block id a ih => intro d hd; exact ih d hd
  | scope a ih => intro d hd; exact ih d hd
  | loop a ih =>
    intro d hd
    simp only [loopsOf, List.mem_cons] at hd ⊢
    rcases hd with rfl | hd
    · exact ⟨fun h => h, fun b' hb' => .inr hb'⟩
    · exact ⟨fun h => (ih d hd).1 h, fun b' hb' => .inr ((ih d hd).2 b' hb')⟩
  | _ => intro d hd; simp [loopsOf] at hd

/-- May these generations be given at a loop's head? -/
def tsOk (h : Heap) (ts : List (Nat × Nat × Nat)) : Bool := ts.all fun p => match h[p.1]? with
  | some o => Nat.blt o.gen p.2.1
  | none => true

/-- A loop's code and the list of its function's loops. -/
structure LoopIn (X : Ctx) (f i key : Nat) (fn : Func) (c : Code) : Prop where
  hok : X.ok f = true
  hfn : X.P.funcs[f]? = some fn
  hbody : fn.body = some c
  lt : i < (loopsOf c).length
  only : ∀ j, ((loopsOf c).map codeKey)[j]? = some key → j = i

theorem LoopIn.code {X : Ctx} {f i key : Nat} {fn : Func} {c : Code} (h : LoopIn X f i key fn c) : (loopsOf c)[i]? = some (loopBody X.P f i) := by
  unfold loopBody
  simp only [h.hfn, h.hbody]
  rw [List.getD_eq_getElem?_getD, List.getElem?_eq_getElem h.lt]
  rfl

/-- One way through a loop that is told, out of one round's law. -/
theorem tell_ok {X : Ctx} (hX : Sound X) {K : PureK} (hK : KOk X K) {n f i key : Nat} {fn : Func} {c : Code} (hin : LoopIn X f i key fn c) {S O : Type} {E : S → Env} {H : S → Heap}
    {R : ∀ {β : Type}, (O → Option β) → (S → Option β) → S → Option β} {T : ∀ {β : Type}, (Ex → Env → Heap → Option β) → O → Option β} {ts : List (Nat × Nat × Nat)} {len : Nat} {cl clo : List Tmp}
    (round : ∀ {β : Type} (r : Env → Heap → Option β) (k : Ex → Env → Heap → Option β) (s : S), tellOne X K n f i ts len cl clo r k (E s) (H s) = R (T k) (fun s => r (E s) (H s)) s)
    (nat : ∀ {β γ : Type} (φ : β → Option γ) (d : O → Option β) (r : S → Option β) (s : S), R (fun o => (d o).bind φ) (fun s => (r s).bind φ) s = (R d r s).bind φ)
    (hT : ∀ o, ∃ x e' h', ∀ {β : Type} (k : Ex → Env → Heap → Option β), T k o = k x e' h')
    {s : S} {o : O} (ho : ∃ m, fuelRec (R some) m s = some o) {cl0 : List Tmp} {e : Env} {h : Heap} {ts0 : List (Nat × Nat × Nat)} (hreg : regen ts0 (clearEnv cl0 e) h = (E s, H s)) (hlen : h.length = len) (hts0 : tsOk h ts0 = true) (hts : tsOk h ts = true)
    {β : Type} {k : Ex → Env → Heap → Option β} {r : β} (hr : T k o = some r) : ∃ x e' h', k x e' h' = some r ∧ CodeAt X (.loop (loopBody X.P f i)) e h x e' h' := by
  obtain ⟨x, e', h', hTk⟩ := hT o
  refine ⟨x, e', h', (hTk k).symm.trans hr, ?_⟩
  obtain ⟨m, hm⟩ := ho
  have key : ∀ (m : Nat) (s : S), tellRun X K n f i ts len cl clo m (E s) (H s) (fun x e h => some (x, e, h)) = (fuelRec (R some) m s).bind (T fun x e h => some (x, e, h)) := by
    intro m
    induction m with
    | zero => intro s; rfl
    | succ m ih =>
      intro s
      rw [tellRun_succ, round]
      simp only [ih]
      show _ = (R some (fuelRec (R some) m) s).bind (T fun x e h => some (x, e, h))
      rw [← nat]
      rfl
  have hrun := key m s
  rw [hm] at hrun
  have hrun : tellRun X K n f i ts len cl clo m (E s) (H s) (fun x e h => some (x, e, h)) = some (x, e', h') := by rw [hrun]; exact hTk _
  have hmem : loopBody X.P f i ∈ loopsOf c := List.mem_of_getElem? hin.code
  have hg := (hX.fn f fn hin.hok hin.hfn).2 c hin.hbody
  obtain ⟨s1, s2⟩ := loops_sub c _ hmem
  unfold tellRun at hrun
  obtain ⟨x2, e2, h2, hk, hc⟩ := iter_ok2 (X := X) (c := loopBody X.P f i) (fun e h k r he => code_ok hX.mix hK (body_ok hX hK n 5) n _ (s1 hg) (fun b hb' => hX.lp f fn c hin.hok hin.hfn hin.hbody b (s2 b hb')) e h k r he) m _ _ _ _ hrun
  cases hk
  refine CodeAt.pre cl0 (CodeAt.clear ?_ clo)
  intro s a hoks hH hr Q hQ
  refine wp_loop_rounds m ?_
  obtain ⟨s1', hw1, hH1, hst1, hok1, hr1⟩ := regen_ok ts0 hoks (.refl s) hr (fun p hp o0 ho0 _ => by
    have := List.all_eq_true.1 hts0 p hp
    rw [← hH, ho0] at this
    exact Nat.le_of_ble_eq_true this)
  rw [hH, hreg] at hH1 hr1
  rw [← hw1]
  refine hc s s1' a (by rw [hH]; exact hlen) (fun p hp o0 ho0 => ?_) hst1 hok1 hH1 hr1 Q fun s' a' g1 g2 g3 g4 g5 => hQ s' a' g1 g2 g3 g4 g5
  have := List.all_eq_true.1 hts p hp
  rw [← hH, ho0] at this
  exact Nat.le_of_ble_eq_true this

/-- One more loop that is told. -/
def addLp (X : Ctx) (f key : Nat) (F : LoopF) : Ctx := { X with lp := fun g k => match Nat.beq g f && Nat.beq k key with
  | true => some F
  | false => X.lp g k }

theorem sound_add {X : Ctx} (hX : Sound X) {f i key : Nat} {fn : Func} {c : Code} {F : LoopF} (hin : LoopIn X f i key fn c)
    (hF : ∀ (β : Type) e h (k : Ex → Env → Heap → Option β) (r : β), F.run e h k = some r → ∃ x e' h', k x e' h' = some r ∧ CodeAt X (.loop (loopBody X.P f i)) e h x e' h') : Sound (addLp X f key F) := by
  refine ⟨hX.mix, hX.fn, fun g fn' c' hg hfn' hc' b hb F' hF' β e h k r hr => ?_⟩
  have hlp : (addLp X f key F).lp g (codeKey b) = match Nat.beq g f && Nat.beq (codeKey b) key with
    | true => some F
    | false => X.lp g (codeKey b) := rfl
  rw [hlp] at hF'
  split at hF'
  · rename_i hb2
    simp only [Bool.and_eq_true] at hb2
    obtain rfl := Nat.eq_of_beq_eq_true hb2.1
    have hkey := Nat.eq_of_beq_eq_true hb2.2
    cases hF'
    have hfn2 : X.P.funcs[g]? = some fn' := hfn'
    rw [hin.hfn] at hfn2
    cases hfn2
    rw [hin.hbody] at hc'
    cases hc'
    obtain ⟨j, hj⟩ := List.getElem?_of_mem hb
    have hji := hin.only j (by rw [List.getElem?_map, hj, Option.map_some, hkey])
    rw [hji, hin.code] at hj
    cases hj
    obtain ⟨x, e', h', h1, h2⟩ := hF β e h k r hr
    exact ⟨x, e', h', h1, CodeAt.congr (Y := addLp X _ key F) (X := X) rfl rfl h2⟩
  · obtain ⟨x, e', h', h1, h2⟩ := hX.lp g fn' c' hg hfn' hc' b hb F' hF' β e h k r hr
    exact ⟨x, e', h', h1, CodeAt.congr (Y := addLp X _ key F) (X := X) rfl rfl h2⟩

/-- More functions that are walked into. -/
def withInl (X : Ctx) (l : List FuncId) : Ctx := { X with inl := fun f => l.any (fun g => Nat.beq g f) || X.inl f }

theorem sound_inl {X : Ctx} (hX : Sound X) (l : List FuncId) : Sound (withInl X l) :=
  ⟨hX.mix, hX.fn, fun g fn c hg hfn hc b hb F hF β e h k r hr => by
    obtain ⟨x, e', h', h1, h2⟩ := hX.lp g fn c hg hfn hc b hb F hF β e h k r hr
    exact ⟨x, e', h', h1, CodeAt.congr (Y := withInl X l) (X := X) rfl rfl h2⟩⟩

/-- Functions at whose call nothing is said. -/
def withStop (X : Ctx) (l : List FuncId) : Ctx := { X with inl := fun f => l.any (fun g => Nat.beq g f) || X.inl f, ok := fun f => !l.any (fun g => Nat.beq g f) && X.ok f }

theorem sound_stop {X : Ctx} (hX : Sound X) (l : List FuncId) : Sound (withStop X l) := by
  have hok : ∀ g, (withStop X l).ok g = true → X.ok g = true := fun g hg => by
    have hg : (!l.any (fun h => Nat.beq h g) && X.ok g) = true := hg
    simp only [Bool.and_eq_true] at hg
    exact hg.2
  exact ⟨hX.mix, fun g fn hg hfn => hX.fn g fn (hok g hg) hfn, fun g fn c hg hfn hc b hb F hF β e h k r hr => by
    obtain ⟨x, e', h', h1, h2⟩ := hX.lp g fn c (hok g hg) hfn hc b hb F hF β e h k r hr
    exact ⟨x, e', h', h1, CodeAt.congr (Y := withStop X l) (X := X) rfl rfl h2⟩⟩

/-- What the kernel asks of a loop's place. -/
def loopInB (X : Ctx) (f i key : Nat) : Bool := X.ok f && match X.P.funcs[f]? with
  | some fn => match fn.body with
    | some c => Nat.blt i (loopsOf c).length && onlyAt key i ((loopsOf c).map codeKey) 0
    | none => false
  | none => false
where onlyAt (key i : Nat) : List Nat → Nat → Bool
  | [], _ => true
  | k :: ks, j => (!Nat.beq k key || Nat.beq j i) && onlyAt key i ks (j + 1)

theorem onlyAt_ok {key i : Nat} : ∀ {ks : List Nat} {j0 : Nat}, loopInB.onlyAt key i ks j0 = true → ∀ j, ks[j]? = some key → j0 + j = i
  | [], _, _, j, h => by simp at h
  | k :: ks, j0, h, 0, hj => by
    simp only [loopInB.onlyAt, Bool.and_eq_true, Bool.or_eq_true, Bool.not_eq_true'] at h
    simp at hj
    rcases h.1 with h1 | h1
    · exact absurd hj (Nat.ne_of_beq_eq_false h1)
    · simpa using Nat.eq_of_beq_eq_true h1
  | k :: ks, j0, h, j + 1, hj => by
    simp only [loopInB.onlyAt, Bool.and_eq_true] at h
    have := onlyAt_ok h.2 j (by simpa using hj)
    omega

theorem loopIn_of {X : Ctx} {f i key : Nat} (h : loopInB X f i key = true) : ∃ fn c, LoopIn X f i key fn c := by
  unfold loopInB at h
  simp only [Bool.and_eq_true] at h
  obtain ⟨h1, h2⟩ := h
  split at h2
  · rename_i fn hfn
    split at h2
    · rename_i c hc
      simp only [Bool.and_eq_true] at h2
      exact ⟨fn, c, h1, hfn, hc, Nat.le_of_ble_eq_true h2.1, fun j hj => by simpa using onlyAt_ok h2.2 j hj⟩
    · cases h2
  · cases h2

/-- A function whose loops are told. -/
theorem tell_top {X Y : Ctx} (hP : Y.P = X.P) (hG : Y.G = X.G) (hY : Sound Y) {K : PureK} (hK : KOk X K) {n : Nat} {g : FuncId} {as : List AV} {v : AV} (h : topK Y K n g as = some v) : PureCall X g as v :=
  (top_ok hY (hK.congr hP hG) n g as v h).congr hP.symm hG.symm
end Go.Ab
