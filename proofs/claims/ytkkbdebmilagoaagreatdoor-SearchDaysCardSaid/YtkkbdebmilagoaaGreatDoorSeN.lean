import Derived.Test.YtkkbdebmilagoaaGreatDoorSeM
set_option linter.unusedVariables false
set_option linter.unusedSimpArgs false
set_option maxRecDepth 100000
namespace Go.Proofs.YtkkbdebmilagoaaGreatDoor
/- search.Match: walked by hand. -/
open Go Go.Ab Go.RowKit Go.Maps

/-- Keys whose links lead down. -/
structure KeysOk (keys : Nat → KeyP) (ev : Nat → Bool) (N : Nat) : Prop where
  not : ∀ i, i < N → (keys i).op = 16 → (keys i).a < i ∧ ev i = !ev (keys i).a
  or : ∀ i, i < N → (keys i).op = 17 → ((keys i).a < i ∧ (keys i).b < i) ∧ ev i = (ev (keys i).a || ev (keys i).b)
  and : ∀ i, i < N → (keys i).op = 18 → ((keys i).a < i ∧ (keys i).b < i) ∧ ev i = (ev (keys i).a && ev (keys i).b)
theorem match_all {w0 : World} {ev : Nat → Bool} {N b : Nat} (sc : SightC) (bl off cap : Nat) (keys : Nat → KeyP) (hko : KeysOk keys ev N) (hk : ∀ i, i < N → KeyAt w0 bl (off + i * 7) (keys i)) (hbl : bl < w0.heap.size) (hN : N < 1000)
    (hfin : ∀ i, i < N → (keys i).op ≠ 16 → (keys i).op ≠ 17 → (keys i).op ≠ 18 → ∀ W', Past w0.heap.size w0 W' → Calls Tryz.prog 21 #[sc.val, (keys i).val] W' fun e W'' => e = .returned (.bool (ev i)) ∧ Past W'.heap.size W' W'') :
    ∀ (n i : Nat), i < n → i < N → ∀ L W, MapInv w0 ev N b L W → Calls Tryz.prog 17 #[sc.val, .slice (some ⟨bl, off, none⟩) N cap, .int .i64 i, .map (some b)] W (MatchPost w0 ev N b i L W)
  | 0, i, hn, _, _, _, _ => absurd hn (Nat.not_lt_zero _)
  | n + 1, i, hn, hi, L, W, h => by
    have IH := match_all (b := b) sc bl off cap keys hko hk hbl hN hfin n
    have hwf : (Lit.int .i64 (i : Int)).wf = true := by
      simp [Lit.wf, IntKind.min, IntKind.max, IntKind.signed, IntKind.bits]
      omega
    by_cases hm : i ∈ L
    · exact match_known sc bl off cap N h hi hwf hm
    · by_cases h16 : (keys i).op = 16
      · obtain ⟨h1, h2⟩ := hko.not i hi h16
        exact match_not sc bl off cap N h hi hi hwf hm (keys i) (hk i hi) hbl hN h16 h1 h2 fun L' W' h' => IH _ (by omega) (by omega) L' W' h'
      · by_cases h17 : (keys i).op = 17
        · obtain ⟨h1, h2⟩ := hko.or i hi h17
          exact match_or sc bl off cap N h hi hi hwf hm (keys i) (hk i hi) hbl hN h17 h1 h2 fun j hj L' W' h' => IH j (by omega) (by omega) L' W' h'
        · by_cases h18 : (keys i).op = 18
          · obtain ⟨h1, h2⟩ := hko.and i hi h18
            exact match_and sc bl off cap N h hi hi hwf hm (keys i) (hk i hi) hbl hN h18 h1 h2 fun j hj L' W' h' => IH j (by omega) (by omega) L' W' h'
          · exact match_leaf sc bl off cap N h hi hi hwf hm (keys i) (hk i hi) hbl hN h16 h17 h18 (hfin i hi h16 h17 h18)
theorem made_inv {w0 : World} {ev : Nat → Bool} {N : Nat} {W' : World} (hp : Past w0.heap.size w0 W') : MapInv w0 ev N W'.heap.size [] (W'.alloc (.map #[] 0)) := by
  refine ⟨hp.trans ((alloc_past W' _).mono hp.size), hp.size, ⟨.map [], World.ownsMap_made W' _ _ _, fun j _ => ?_, fun j hj => by cases hj⟩, List.nodup_nil, fun j hj => by cases hj⟩
  simp [Maps.has]
/-- Match, of keys that may be. -/
theorem match_top {w0 : World} {ev : Nat → Bool} {N : Nat} (u fl d : Int) (bp : Option Addr) (bn bc : Nat) (p lp lu : Int) (bl off cap : Nat) (keys : Nat → KeyP) (hko : KeysOk keys ev N) (hk : ∀ i, i < N → KeyAt w0 bl (off + i * 7) (keys i)) (hbl : bl < w0.heap.size) (hN : N < 1000) (hN1 : 1 ≤ N)
    (hR : ∀ W', Past w0.heap.size w0 W' → Calls Tryz.prog 16 #[.slice (some ⟨bl, off, none⟩) N cap] W' fun e W'' => e = .returned (.bool true) ∧ Past W'.heap.size W' W'')
    (hfin : ∀ i, i < N → (keys i).op ≠ 16 → (keys i).op ≠ 17 → (keys i).op ≠ 18 → ∀ W', Past w0.heap.size w0 W' → Calls Tryz.prog 21 #[.agg #[.int .i64 u, .int .i64 fl, .int .i64 d, .slice bp bn bc, .int .i64 p, .int .i64 lp, .int .i64 lu], (keys i).val] W' fun e W'' => e = .returned (.bool (ev i)) ∧ Past W'.heap.size W' W'') :
    Calls Tryz.prog 9 #[.slice (some ⟨bl, off, none⟩) N cap, .agg #[.int .i64 u, .int .i64 fl, .int .i64 d, .slice bp bn bc], .int .i64 p, .int .i64 lp, .int .i64 lu] w0 fun e W' => e = .returned (.bool (ev (N - 1))) ∧ Past w0.heap.size w0 W' := by
  have hR := hR _ (alloc_past w0 (.cells #[.int .i64 u, .int .i64 fl, .int .i64 d, .slice bp bn bc] 27))
  have hall := fun b => match_all (b := b) ⟨u, fl, d, bp, bn, bc, p, lp, lu⟩ bl off cap keys hko hk hbl hN hfin N (N - 1) (by omega) (by omega)
  unfold SightC.val at hall
  have hcast : ((N - 1 : Nat) : Int) = (N : Int) - 1 := by omega
  simp only [hcast] at hall
  have hq := alloc_past w0 (.cells #[.int .i64 u, .int .i64 fl, .int .i64 d, .slice bp bn bc] 27)
  have hmm := @run_makeMap Tryz.prog
  go_enter Tryz.func9, Tryz.ntmps9
  go_wp2_with (first
    | (go_at_call 16; refine hR.mono ?_; rintro e W' ⟨rfl, hp⟩; have x1 := (hp.block w0.heap.size (by rw [size_new]; omega)).trans (heap_new w0 _); have y0 := cell_box x1 0 _ rfl; have y1 := cell_box x1 1 _ rfl; have y2 := cell_box x1 2 _ rfl; have y3 := cell_box x1 3 _ rfl; have hp' := hq.trans (hp.mono hq.size); have hinv := made_inv (ev := ev) (N := N) hp')
    | (go_at_call 17; refine (hall _ [] _ hinv).mono ?_; rintro e W'' ⟨rfl, L', h3, _, _, hkp⟩))
  go_ret
  exact ⟨rfl, h3.past⟩
/-- Match, of keys that may not be. -/
theorem match_not_right {w0 : World} (u fl d : Int) (bp : Option Addr) (bn bc : Nat) (p lp lu : Int) (ls : Option Addr) (N cap : Nat)
    (hR : ∀ W', Past w0.heap.size w0 W' → Calls Tryz.prog 16 #[.slice ls N cap] W' fun e W'' => e = .returned (.bool false) ∧ Past W'.heap.size W' W'') :
    Calls Tryz.prog 9 #[.slice ls N cap, .agg #[.int .i64 u, .int .i64 fl, .int .i64 d, .slice bp bn bc], .int .i64 p, .int .i64 lp, .int .i64 lu] w0 fun e W' => e = .returned (.bool false) ∧ Past w0.heap.size w0 W' := by
  have hR := hR _ (alloc_past w0 (.cells #[.int .i64 u, .int .i64 fl, .int .i64 d, .slice bp bn bc] 27))
  have hq := alloc_past w0 (.cells #[.int .i64 u, .int .i64 fl, .int .i64 d, .slice bp bn bc] 27)
  go_enter Tryz.func9, Tryz.ntmps9
  go_wp2_with (first
    | (go_at_call 16; refine hR.mono ?_; rintro e W' ⟨rfl, hp⟩; have hp' := hq.trans (hp.mono hq.size)))
  go_ret
  exact ⟨rfl, hp'⟩
end Go.Proofs.YtkkbdebmilagoaaGreatDoor
