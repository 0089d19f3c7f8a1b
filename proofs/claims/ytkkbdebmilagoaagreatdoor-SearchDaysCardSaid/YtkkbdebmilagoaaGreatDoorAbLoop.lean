/- Code, soundly. -/
import Derived.Test.YtkkbdebmilagoaaGreatDoorAbDraw
import Derived.LoopN
import Derived.ScopeJumps
set_option linter.unusedSimpArgs false
set_option linter.unusedVariables false
namespace Go.Ab
open Go

/-- What must hold of every region that is drawn. -/
def codeGood : Code → Bool
  | .region _ ops draw => !draw || regionGood ops
  | .seq a b => codeGood a && codeGood b
  | .cond _ a b => codeGood a && codeGood b
  | .block _ a => codeGood a
  | .loop a => codeGood a
  | .scope a => codeGood a
  | _ => true

def exOf : Ex → Exit
  | .normal => .normal
  | .exit i => .exit i
  | .goto l => .goto l
  | .ret => .ret

/-- Code that leaves a state for another. -/
def CodeAt (X : Ctx) (c : Code) (e : Env) (h : Heap) (x : Ex) (e' : Env) (h' : Heap) : Prop :=
  ∀ (s : St) (a : Act), Ok X s → s.H = h → RelEnv s e a.tmps → ∀ (Q : Exit → Act → World → Prop),
    (∀ (s' : St) (a' : Act), Step s s' → Ok X s' → s'.H = h' → RelEnv s' e' a'.tmps → a'.defers = a.defers → Q (exOf x) a' s'.w) → c.wp X.P Q a s.w

/-- The bodies of code's loops. -/
def loopsOf : Code → List Code
  | .seq a b => loopsOf a ++ loopsOf b
  | .cond _ a b => loopsOf a ++ loopsOf b
  | .block _ a => loopsOf a
  | .loop a => a :: loopsOf a
  | .scope a => loopsOf a
  | _ => []

/-- What is told of a loop is so. -/
def LoopOk (X : Ctx) (f : FuncId) (b : Code) : Prop :=
  ∀ F, X.lp f (codeKey b) = some F → ∀ (β : Type) e h (k : Ex → Env → Heap → Option β) (r : β), F.run e h k = some r → ∃ x e' h', k x e' h' = some r ∧ CodeAt X (.loop b) e h x e' h'

section
variable {X : Ctx} {β : Type} {K : PureK} {inl : FuncId → List AV → Heap → (AV → Heap → Option β) → Option β} {f : FuncId}

theorem drawn_heap (w : World) (n : Nat) : ({ w with drawn := n } : World).heap = w.heap := rfl

theorem region_ok (hmix : X.P.follows .mixedOrders = true) (hK : KOk X K) (hinl : InlOk X inl) {id : Nat} {ops : Array Oper} {draw : Bool} (hg : (!draw || regionGood ops) = true)
    {e : Env} {h : Heap} {k : Env → Heap → Option β} {r : β} (he : regionK X K inl f id ops draw e h k = some r) :
    ∃ e' h', k e' h' = some r ∧ CodeAt X (.region id ops draw) e h .normal e' h' := by
  unfold regionK at he
  generalize hids : idsOfs ((X.fz f id).map fun t => e.getD t .dead) = ids at he
  obtain ⟨en, hp, val, tg, tr', e1, e2, htr, hk, _, hall⟩ := opsK_some hK hinl ops.toList 0 _ _ [] (by simp) he
  have hN : 0 + ops.toList.length = ops.size := by simp
  rw [hN] at hk hall
  have hfz := freezeIds_ok (X := X) ids
  cases draw with
  | false =>
    refine ⟨_, _, hk, fun s a hok hH hr Q hQ => ?_⟩
    obtain ⟨s1, hw1, hH1, hst1, hok1, hr1⟩ := hfz s s e a.tmps hok (.refl s) hr
    rw [hH] at hH1 hr1
    refine wp_region_list ?_
    rw [← hw1]
    refine text_wp htr ops.toList 0 (by simp) s1 a hok1 (hH1.trans e2.symm) (by rw [e1]; exact hr1) fun s' a' h1 h2 h3 h4 h5 => ?_
    rw [hN] at h3 h4
    exact hQ s' a' (hst1.trans h1) h2 h3 h4 h5
  | true =>
    simp only [] at hk
    have hgood := good_of (by simpa using hg)
    rw [← e2] at hk
    obtain ⟨hk, hd⟩ := drawK_of hgood htr hk fun j t h1 h2 => hall j t (Nat.zero_le _) h1 h2
    refine ⟨_, _, hk, fun s a hok hH hr Q hQ => ?_⟩
    obtain ⟨s1, hw1, hH1, hst1, hok1, hr1⟩ := hfz s s e a.tmps hok (.refl s) hr
    rw [hH] at hH1 hr1
    refine wp_region_any hmix ?_
    obtain ⟨hst2, hok2⟩ := still hok1 (w' := { s.w with drawn := s.w.drawn + 1 }) (by rw [hw1]) (by rw [hw1]; exact ⟨rfl, rfl⟩)
    let s2 : St := { s1 with w := { s.w with drawn := s.w.drawn + 1 } }
    have hr2 : RelEnv s2 (en 0) a.tmps := by rw [e1]; exact hr1.mono hst2
    have hnl : ∀ j, ¬ Lst (Array.replicate ops.size false) j := fun j hj => by
      unfold Lst at hj
      rw [getD_replicate_false] at hj
      cases hj
    refine draw_wp (s0 := s2) (ds := a.defers) hgood htr hd (fun s' a' h1 h2 h3 h4 h5 => ?_) ops.size _ a s2 0 ?_ ?_
    · exact hQ s' a' ((hst1.trans hst2).trans h1) h2 h3 h4 h5
    · refine ⟨by simp, fun j o _ hl => absurd hl (hnl j), hok2, .refl _, hH1.trans e2.symm, Nat.zero_le _, fun j t _ _ _ => ⟨fun h => absurd h (hnl j), fun h => absurd h (Nat.not_lt_zero _)⟩, hr2.1, fun t y hy => ⟨fun j _ _ h => absurd h (hnl j), fun _ x hx => hr2.2 t x y hx hy⟩, rfl⟩
    · unfold left
      refine Nat.le_trans (List.length_filter_le _ _) ?_
      simp

theorem clearEnv_length : ∀ (l : List Tmp) (e : Env), (clearEnv l e).length = e.length
  | [], e => rfl
  | t :: ts, e => by simp only [clearEnv]; rw [clearEnv_length ts]; simp

theorem clearEnv_get : ∀ (l : List Tmp) (e : Env) (j : Nat) (x : AV), (clearEnv l e)[j]? = some x → x = .dead ∨ (j ∉ l ∧ e[j]? = some x)
  | [], e, j, x, h => .inr ⟨by simp, h⟩
  | t :: ts, e, j, x, h => by
    rcases clearEnv_get ts _ j x h with h | ⟨h1, h2⟩
    · exact .inl h
    · rw [List.getElem?_set] at h2
      split at h2
      · split at h2
        · cases h2; exact .inl rfl
        · cases h2
      · rename_i hne
        exact .inr ⟨by simp; exact ⟨fun h => hne h.symm, h1⟩, h2⟩

theorem putT_get (e : Env) (d : Option Tmp) (x : AV) (j : Nat) (h : d ≠ some j) : (putT e d x)[j]? = e[j]? := by
  unfold putT
  split
  · rename_i t
    rw [List.getElem?_set]
    have : ¬ t = j := fun h' => h (by rw [h'])
    simp [this]
  · rfl

theorem merged_ok (hmix : X.P.follows .mixedOrders = true) (hK : KOk X K) {id : Nat} {ops : Array Oper} {draw : Bool} (hg : (!draw || regionGood ops) = true) {t : Tmp}
    {e : Env} {h : Heap} {v : AV} (he : mergedInner X K f ops t e h = some v) : CodeAt X (.region id ops draw) e h .normal ((clearEnv (dstsOf ops) e).set t v) h := by
  unfold mergedInner at he
  obtain ⟨en, hp, val, tg, tr', e1, e2, htr, hk, _, hall⟩ := opsK_some hK (fun g as h c r he => by cases he) ops.toList 0 _ _ [] (by simp) he
  have hN : 0 + ops.toList.length = ops.size := by simp
  rw [hN] at hk hall
  split at hk
  · rename_i hq
    simp only [Option.some.injEq] at hk
    have hquiet : ∀ j, j ≤ ops.size → hp j = h ∧ (en j).length = e.length ∧ ∀ i, i ∉ dstsOf ops → (en j)[i]? = e[i]? := by
      intro j
      induction j with
      | zero => intro _; exact ⟨e2, by rw [e1], fun i _ => by rw [e1]⟩
      | succ j ih =>
        intro hj
        obtain ⟨h1, h2, h3⟩ := ih (by omega)
        have hoj : ops[j]? = some ops[j] := Array.getElem?_eq_getElem (by omega)
        obtain ⟨he1, hst⟩ := htr.step j ops[j] (Nat.zero_le _) hoj
        refine ⟨?_, ?_, fun i hi => ?_⟩
        · rcases hst with ⟨_, tt, htt, _, htag⟩ | ⟨_, _, _, h4⟩
          · have hin := hall j tt (Nat.zero_le _) (by omega) htt _ hoj
            have hqt := List.all_eq_true.1 hq _ hin
            cases tt with
            | pure => exact htag.1.trans h1
            | rd i => exact htag.1.trans h1
            | al => cases hqt
            | wr i => cases hqt
            | any => cases hqt
          · exact h4.trans h1
        · rw [he1, putT_length, h2]
        · rw [he1, putT_get, h3 i hi]
          intro hd
          exact hi (List.mem_filterMap.2 ⟨ops[j], by simp, hd⟩)
    obtain ⟨hH, hl, hget⟩ := hquiet ops.size (Nat.le_refl _)
    have hrel : ∀ {s' : St} {t' : Array Value}, RelEnv s' (en ops.size) t' → RelEnv s' ((clearEnv (dstsOf ops) e).set t v) t' := by
      intro s' t' hr
      refine ⟨by rw [List.length_set, clearEnv_length, ← hl]; exact hr.1, fun j x y hx hy => ?_⟩
      rw [List.getElem?_set] at hx
      split at hx
      · rename_i hjt
        subst hjt
        split at hx
        · cases hx
          have := hr.get t
          rw [hk] at this
          rw [Array.getD_eq_getD_getElem?, hy] at this
          exact this
        · cases hx
      · rcases clearEnv_get _ _ _ _ hx with rfl | ⟨h1, h2⟩
        · exact .dead y
        · exact hr.2 j x y ((hget j h1).trans h2) hy
    cases draw with
    | false =>
      intro s a hok hHs hr Q hQ
      refine wp_region_list ?_
      refine text_wp htr ops.toList 0 (by simp) s a hok (hHs.trans e2.symm) (by rw [e1]; exact hr) fun s' a' h1 h2 h3 h4 h5 => ?_
      rw [hN] at h3 h4
      exact hQ s' a' h1 h2 (h3.trans hH) (hrel h4) h5
    | true =>
      have hd : drawOk ops tr' = true := by
        unfold drawOk
        simp only []
        rw [List.all_eq_true]
        intro x hx
        have := List.all_eq_true.1 hq x hx
        have hw : writes x.tag = false := by
          cases hxt : x.tag <;> simp [hxt, quietTag] at this ⊢ <;> rfl
        rw [hw]
      have hgood := good_of (by simpa using hg)
      intro s a hok hHs hr Q hQ
      refine wp_region_any hmix ?_
      obtain ⟨hst2, hok2⟩ := still hok (w' := { s.w with drawn := s.w.drawn + 1 }) rfl ⟨rfl, rfl⟩
      let s2 : St := { s with w := { s.w with drawn := s.w.drawn + 1 } }
      have hr2 : RelEnv s2 (en 0) a.tmps := by rw [e1]; exact hr.mono hst2
      have hnl : ∀ j, ¬ Lst (Array.replicate ops.size false) j := fun j hj => by
        unfold Lst at hj
        rw [getD_replicate_false] at hj
        cases hj
      refine draw_wp (s0 := s2) (ds := a.defers) hgood htr (drawOk_of hgood hd fun j t h1 h2 => hall j t (Nat.zero_le _) h1 h2) (fun s' a' h1 h2 h3 h4 h5 => ?_) ops.size _ a s2 0 ?_ ?_
      · exact hQ s' a' (hst2.trans h1) h2 (h3.trans hH) (hrel h4) h5
      · refine ⟨by simp, fun j o _ hl => absurd hl (hnl j), hok2, .refl _, hHs.trans e2.symm, Nat.zero_le _, fun j t _ _ _ => ⟨fun h => absurd h (hnl j), fun h => absurd h (Nat.not_lt_zero _)⟩, hr2.1, fun t y hy => ⟨fun j _ _ h => absurd h (hnl j), fun _ x hx => hr2.2 t x y hx hy⟩, rfl⟩
      · unfold left
        refine Nat.le_trans (List.length_filter_le _ _) ?_
        simp
  · cases hk

theorem iter_ok2 {X : Ctx} {β : Type} {c : Code} {cl : List Tmp} {ts : List (Nat × Nat × Nat)} {len : Nat} {body : Env → Heap → (Ex → Env → Heap → Option β) → Option β}
    (hb : ∀ e h k r, body e h k = some r → ∃ x e' h', k x e' h' = some r ∧ CodeAt X c e h x e' h') :
    ∀ (n : Nat) (e : Env) (h : Heap) (k : Ex → Env → Heap → Option β) (r : β), iterK body (roundEnd ts len cl) n e h k = some r →
      ∃ x e' h', k x e' h' = some r ∧ ∀ (s0 s : St) (a : Act), s0.H.length = len → (∀ p ∈ ts, ∀ o0, s0.H[p.1]? = some o0 → o0.gen < p.2.1) → Step s0 s → Ok X s → s.H = h → RelEnv s e a.tmps → ∀ (Q : Exit → Act → World → Prop),
        (∀ (s' : St) (a' : Act), Step s0 s' → Ok X s' → s'.H = h' → RelEnv s' e' a'.tmps → a'.defers = a.defers → Q (exOf x) a' s'.w) → Code.rounds X.P c Q n a s.w := by
  intro n
  induction n with
  | zero => intro e h k r he; cases he
  | succ n ih =>
    intro e h k r he
    simp only [iterK] at he
    obtain ⟨x, e1, h1, hk, hbody⟩ := hb _ _ _ _ he
    cases x with
    | normal =>
      simp only [] at hk
      obtain ⟨x, e', h', hk, hrec⟩ := ih _ _ _ _ hk
      refine ⟨x, e', h', hk, fun s0 s a hlen hts hst hok hH hr Q hQ => ?_⟩
      rw [rounds_succ]
      refine hbody s a hok hH hr _ fun s1 a1 hst1 hok1 hH1 hr1 hd1 => ?_
      have hst01 := hst.trans hst1
      obtain ⟨s2, hw2, hH2, hst2, hok2, hr2⟩ := regen_ok ts hok1 hst01 (clearEnv_ok cl hr1) (fun p hp o0 ho0 _ => hts p hp o0 ho0)
      obtain ⟨s3, hw3, hH3, hst3, hok3, hr3⟩ := dropK_ok (n := len) (by rw [hlen]; exact Nat.le_refl _) hok2 hst2 hr2
      show Code.rounds X.P c Q n a1 s1.w
      rw [← hw2, ← hw3]
      refine hrec s0 s3 a1 hlen hts hst3 hok3 ?_ ?_ Q fun s' a' g1 g2 g3 g4 g5 => hQ s' a' g1 g2 g3 g4 (g5.trans hd1)
      · rw [hH3, hH2, hH1]; rfl
      · rw [hH1] at hr3; exact hr3
    | exit i =>
      refine ⟨_, _, _, hk, fun s0 s a hlen hts hst hok hH hr Q hQ => ?_⟩
      rw [rounds_succ]
      exact hbody s a hok hH hr _ fun s1 a1 hst1 hok1 hH1 hr1 hd1 => hQ s1 a1 (hst.trans hst1) hok1 hH1 hr1 hd1
    | goto l =>
      refine ⟨_, _, _, hk, fun s0 s a hlen hts hst hok hH hr Q hQ => ?_⟩
      rw [rounds_succ]
      exact hbody s a hok hH hr _ fun s1 a1 hst1 hok1 hH1 hr1 hd1 => hQ s1 a1 (hst.trans hst1) hok1 hH1 hr1 hd1
    | ret =>
      refine ⟨_, _, _, hk, fun s0 s a hlen hts hst hok hH hr Q hQ => ?_⟩
      rw [rounds_succ]
      exact hbody s a hok hH hr _ fun s1 a1 hst1 hok1 hH1 hr1 hd1 => hQ s1 a1 (hst.trans hst1) hok1 hH1 hr1 hd1

theorem seq_at {a b : Code} {e e1 e2 : Env} {h h1 h2 : Heap} {x : Ex} (h1c : CodeAt X a e h .normal e1 h1) (h2c : CodeAt X b e1 h1 x e2 h2) : CodeAt X (.seq a b) e h x e2 h2 :=
  fun s ac hok hH hr Q hQ => wp_seq (h1c s ac hok hH hr _ fun s1 a1 hst1 hok1 hH1 hr1 hd1 =>
    h2c s1 a1 hok1 hH1 hr1 Q fun s2 a2 g1 g2 g3 g4 g5 => hQ s2 a2 (hst1.trans g1) g2 g3 g4 (g5.trans hd1))

theorem seq_out {a b : Code} {e e1 : Env} {h h1 : Heap} {x : Ex} (hx : x ≠ .normal) (h1c : CodeAt X a e h x e1 h1) : CodeAt X (.seq a b) e h x e1 h1 := by
  intro s ac hok hH hr Q hQ
  refine wp_seq (h1c s ac hok hH hr _ fun s1 a1 g1 g2 g3 g4 g5 => ?_)
  have := hQ s1 a1 g1 g2 g3 g4 g5
  cases x with
  | normal => exact absurd rfl hx
  | _ => exact this

theorem scope_at {c : Code} {e e1 : Env} {h h1 : Heap} {x : Ex} (hx : ∀ l, x ≠ .goto l) (h1c : CodeAt X c e h x e1 h1) : CodeAt X (.scope c) e h x e1 h1 := by
  intro s ac hok hH hr Q hQ
  refine wp_scope_straight (h1c s ac hok hH hr _ fun s1 a1 g1 g2 g3 g4 g5 => ?_)
  have := hQ s1 a1 g1 g2 g3 g4 g5
  cases x with
  | goto l => exact absurd rfl (hx l)
  | _ => exact this

theorem scope_jump {c rest : Code} {l : Nat} (hf : findLabel c l = some rest) {e e1 e2 : Env} {h h1 h2 : Heap} {x : Ex} (hx : ∀ l, x ≠ .goto l) (h1c : CodeAt X c e h (.goto l) e1 h1)
    (h2c : CodeAt X rest e1 h1 x e2 h2) : CodeAt X (.scope c) e h x e2 h2 := by
  intro s ac hok hH hr Q hQ
  refine wp_scope_jumps l (fun a' w' => rest.wp X.P (Exit.noGoto Q) a' w') (fun _ _ => 0) hf ?_ ?_
  · refine h1c s ac hok hH hr _ fun s1 a1 hst1 hok1 hH1 hr1 hd1 => ⟨rfl, ?_⟩
    refine h2c s1 a1 hok1 hH1 hr1 _ fun s2 a2 g1 g2 g3 g4 g5 => ?_
    have := hQ s2 a2 (hst1.trans g1) g2 g3 g4 (g5.trans hd1)
    cases x with
    | goto l => exact absurd rfl (hx l)
    | _ => exact this
  · intro a' w' hJ
    refine wp_mono hJ fun ex a'' w'' hq => ?_
    cases ex <;> first | exact hq | exact hq.elim

theorem code_both (hmix : X.P.follows .mixedOrders = true) (hK : KOk X K) (hinl : InlOk X inl) (n : Nat) : ∀ (c : Code), codeGood c = true → (∀ b ∈ loopsOf c, LoopOk X f b) →
    (∀ (e : Env) (h : Heap) (k : Ex → Env → Heap → Option β) (r : β), codeK X K inl n f c e h k = some r → ∃ x e' h', k x e' h' = some r ∧ CodeAt X c e h x e' h') ∧
    (∀ (l : Nat) (e : Env) (h : Heap) (k : Ex → Env → Heap → Option β) (r : β), fromK X K inl n f l c e h k = some r → ∃ rest x e' h', findLabel c l = some rest ∧ k x e' h' = some r ∧ CodeAt X rest e h x e' h') := by
  intro c
  induction c with
  | skip =>
    intro _ _
    refine ⟨fun e h k r he => ?_, fun l e h k r he => by simp [fromK] at he⟩
    simp only [codeK] at he
    exact ⟨_, _, _, he, fun s a hok hH hr Q hQ => wp_skip (hQ s a (.refl s) hok hH hr rfl)⟩
  | region id ops draw =>
    intro hg _
    refine ⟨fun e h k r he => ?_, fun l e h k r he => by simp [fromK] at he⟩
    simp only [codeK] at he
    split at he
    · obtain ⟨v, hv, he⟩ := optK_some he
      unfold asBool at he
      split at he
      · exact ⟨_, _, _, he, merged_ok hmix hK hg hv⟩
      · cases he
    · obtain ⟨e', h', hk, hc⟩ := region_ok hmix hK hinl hg he
      exact ⟨_, _, _, hk, hc⟩
  | seq a b iha ihb =>
    intro hg hl
    simp only [codeGood, Bool.and_eq_true] at hg
    simp only [loopsOf, List.mem_append] at hl
    obtain ⟨iha, ihaf⟩ := iha hg.1 fun b hb => hl b (.inl hb)
    obtain ⟨ihb, ihbf⟩ := ihb hg.2 fun b hb => hl b (.inr hb)
    refine ⟨fun e h k r he => ?_, fun l e h k r he => ?_⟩
    · simp only [codeK] at he
      obtain ⟨x, e1, h1, hk, h1c⟩ := iha _ _ _ _ he
      cases x with
      | normal =>
        obtain ⟨x, e2, h2, hk, h2c⟩ := ihb _ _ _ _ hk
        exact ⟨x, e2, h2, hk, seq_at h1c h2c⟩
      | exit i => exact ⟨_, _, _, hk, seq_out (by simp) h1c⟩
      | goto l => exact ⟨_, _, _, hk, seq_out (by simp) h1c⟩
      | ret => exact ⟨_, _, _, hk, seq_out (by simp) h1c⟩
    · simp only [fromK] at he
      split at he
      · obtain ⟨ra, x, e1, h1, hfa, hk, h1c⟩ := ihaf _ _ _ _ _ he
        have hf : findLabel (.seq a b) l = some (.seq ra b) := by simp [findLabel, hfa]
        cases x with
        | normal =>
          obtain ⟨x, e2, h2, hk, h2c⟩ := ihb _ _ _ _ hk
          exact ⟨_, x, e2, h2, hf, hk, seq_at h1c h2c⟩
        | exit i => exact ⟨_, _, _, _, hf, hk, seq_out (by simp) h1c⟩
        | goto l => exact ⟨_, _, _, _, hf, hk, seq_out (by simp) h1c⟩
        | ret => exact ⟨_, _, _, _, hf, hk, seq_out (by simp) h1c⟩
      · rename_i hn
        obtain ⟨rb, x, e1, h1, hfb, hk, h1c⟩ := ihbf _ _ _ _ _ he
        exact ⟨rb, x, e1, h1, by simp [findLabel, hn, hfb], hk, h1c⟩
  | cond c a b iha ihb =>
    intro hg hl
    simp only [codeGood, Bool.and_eq_true] at hg
    simp only [loopsOf, List.mem_append] at hl
    have iha := fun hg => iha hg fun b hb => hl b (.inl hb)
    have ihb := fun hg => ihb hg fun b hb => hl b (.inr hb)
    refine ⟨fun e h k r he => ?_, fun l e h k r he => by simp [fromK] at he⟩
    simp only [codeK] at he
    split at he
    · rename_i t hc
      have hev : ∀ (s : St) (ac : Act), Ok X s → RelEnv s e ac.tmps → ac.eval c = .bool t := by
        intro s ac hok hr
        have := opVal_rel hok hr c
        rw [hc] at this
        generalize ac.eval c = y at this
        cases this
        rfl
      rcases br_some he with ⟨rfl, he⟩ | ⟨rfl, he⟩
      · obtain ⟨x, e1, h1, hk, h1c⟩ := (iha hg.1).1 _ _ _ _ he
        exact ⟨x, e1, h1, hk, fun s ac hok hH hr Q hQ => wp_cond_true (hev s ac hok hr) (h1c s ac hok hH hr Q hQ)⟩
      · obtain ⟨x, e1, h1, hk, h1c⟩ := (ihb hg.2).1 _ _ _ _ he
        exact ⟨x, e1, h1, hk, fun s ac hok hH hr Q hQ => wp_cond_false (hev s ac hok hr) (h1c s ac hok hH hr Q hQ)⟩
    · cases he
  | block id b ih =>
    intro hg hl
    simp only [codeGood] at hg
    simp only [loopsOf] at hl
    have ih := fun hg => ih hg hl
    refine ⟨fun e h k r he => ?_, fun l e h k r he => by simp [fromK] at he⟩
    simp only [codeK] at he
    obtain ⟨x, e1, h1, hk, h1c⟩ := (ih hg).1 _ _ _ _ he
    cases x with
    | normal => exact ⟨_, _, _, hk, fun s a hok hH hr Q hQ => wp_block (h1c s a hok hH hr _ hQ)⟩
    | goto l => exact ⟨_, _, _, hk, fun s a hok hH hr Q hQ => wp_block (h1c s a hok hH hr _ hQ)⟩
    | ret => exact ⟨_, _, _, hk, fun s a hok hH hr Q hQ => wp_block (h1c s a hok hH hr _ hQ)⟩
    | exit i =>
      simp only [] at hk
      split at hk
      · rename_i hi
        obtain rfl := Nat.eq_of_beq_eq_true hi
        refine ⟨_, _, _, hk, fun s a hok hH hr Q hQ => wp_block (h1c s a hok hH hr _ fun s1 a1 g1 g2 g3 g4 g5 => ?_)⟩
        simp only [exOf, Exit.inBlock, if_true]
        exact hQ s1 a1 g1 g2 g3 g4 g5
      · rename_i hi
        have hne := Nat.ne_of_beq_eq_false hi
        refine ⟨_, _, _, hk, fun s a hok hH hr Q hQ => wp_block (h1c s a hok hH hr _ fun s1 a1 g1 g2 g3 g4 g5 => ?_)⟩
        simp only [exOf, Exit.inBlock, hne, if_false]
        exact hQ s1 a1 g1 g2 g3 g4 g5
  | loop b ih =>
    intro hg hl
    simp only [codeGood] at hg
    simp only [loopsOf, List.mem_cons] at hl
    have ih := fun hg => ih hg fun b hb => hl b (.inr hb)
    have hme := hl b (.inl rfl)
    refine ⟨fun e h k r he => ?_, fun l e h k r he => by simp [fromK] at he⟩
    simp only [codeK] at he
    split at he
    · rename_i F hF
      exact hme F hF β e h k r he
    obtain ⟨x, e', h', hk, hc⟩ := iter_ok2 (X := X) (c := b) (fun e h k r he => (ih hg).1 e h k r he) n _ _ _ _ he
    refine ⟨x, e', h', hk, fun s a hok hH hr Q hQ => wp_loop_rounds n ?_⟩
    exact hc s s a (by rw [hH]) (fun p hp => by cases hp) (.refl s) hok hH hr Q fun s' a' g1 g2 g3 g4 g5 => hQ s' a' g1 g2 g3 g4 g5
  | exit id =>
    intro _ _
    refine ⟨fun e h k r he => ?_, fun l e h k r he => by simp [fromK] at he⟩
    simp only [codeK] at he
    exact ⟨_, _, _, he, fun s a hok hH hr Q hQ => wp_exit (hQ s a (.refl s) hok hH hr rfl)⟩
  | ret =>
    intro _ _
    refine ⟨fun e h k r he => ?_, fun l e h k r he => by simp [fromK] at he⟩
    simp only [codeK] at he
    exact ⟨_, _, _, he, fun s a hok hH hr Q hQ => wp_ret (hQ s a (.refl s) hok hH hr rfl)⟩
  | label l0 =>
    intro _ _
    refine ⟨fun e h k r he => ?_, fun l e h k r he => ?_⟩
    · simp only [codeK] at he
      exact ⟨_, _, _, he, fun s a hok hH hr Q hQ => wp_label (hQ s a (.refl s) hok hH hr rfl)⟩
    · simp only [fromK] at he
      split at he
      · rename_i hb
        obtain rfl := Nat.eq_of_beq_eq_true hb
        exact ⟨.skip, .normal, e, h, by simp [findLabel], he, fun s a hok hH hr Q hQ => wp_skip (hQ s a (.refl s) hok hH hr rfl)⟩
      · cases he
  | goto l0 =>
    intro _ _
    refine ⟨fun e h k r he => ?_, fun l e h k r he => by simp [fromK] at he⟩
    simp only [codeK] at he
    exact ⟨_, _, _, he, fun s a hok hH hr Q hQ => wp_goto (hQ s a (.refl s) hok hH hr rfl)⟩
  | scope b ih =>
    intro hg hl
    simp only [codeGood] at hg
    simp only [loopsOf] at hl
    obtain ⟨ih1, ih2⟩ := ih hg hl
    refine ⟨fun e h k r he => ?_, fun l e h k r he => by simp [fromK] at he⟩
    simp only [codeK] at he
    obtain ⟨x, e1, h1, hk, h1c⟩ := ih1 _ _ _ _ he
    cases x with
    | normal => exact ⟨_, _, _, hk, scope_at (by simp) h1c⟩
    | exit i => exact ⟨_, _, _, hk, scope_at (by simp) h1c⟩
    | ret => exact ⟨_, _, _, hk, scope_at (by simp) h1c⟩
    | goto l =>
      simp only [] at hk
      obtain ⟨rest, x, e2, h2, hf, hk, h2c⟩ := ih2 _ _ _ _ _ hk
      cases x with
      | normal => exact ⟨_, _, _, hk, scope_jump hf (by simp) h1c h2c⟩
      | exit i => exact ⟨_, _, _, hk, scope_jump hf (by simp) h1c h2c⟩
      | ret => exact ⟨_, _, _, hk, scope_jump hf (by simp) h1c h2c⟩
      | goto l' => cases hk
  | _ => exact fun _ _ => ⟨fun e h k r he => by simp [codeK] at he, fun l e h k r he => by simp [fromK] at he⟩

theorem code_ok (hmix : X.P.follows .mixedOrders = true) (hK : KOk X K) (hinl : InlOk X inl) (n : Nat) (c : Code) (hg : codeGood c = true) (hl : ∀ b ∈ loopsOf c, LoopOk X f b)
    (e : Env) (h : Heap) (k : Ex → Env → Heap → Option β) (r : β) (he : codeK X K inl n f c e h k = some r) : ∃ x e' h', k x e' h' = some r ∧ CodeAt X c e h x e' h' :=
  (code_both hmix hK hinl n c hg hl).1 e h k r he
end
end Go.Ab
