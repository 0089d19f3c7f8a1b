import Derived.Test.YtphbfkncimifoaaDoorTokT
set_option linter.unusedVariables false
set_option linter.unusedSimpArgs false
set_option maxRecDepth 100000
namespace Go.Proofs.YtphbfkncimifoaaDoor
/- One step of the program's Feed, plain. -/
open Go Go.Ab

theorem feed_text (ps : List (List UInt8)) (ne : Int) : ∀ (x t : List UInt8), t.length + x.length ≤ 400 → (10 : UInt8) ∉ x → feedS ⟨ps, t, 0, ne⟩ x = (⟨ps, t ++ x, 0, ne⟩, [])
  | [], t, _, _ => by simp [feedS]
  | c :: x, t, h, hn => by
    simp only [List.length_cons] at h
    have h1 : ¬ c = 10 := by rintro rfl; simp at hn
    have ho : oneS ⟨ps, t, 0, ne⟩ c = (⟨ps, t ++ [c], 0, ne⟩, []) := by
      unfold oneS
      simp only []
      rw [if_pos (by trivial), if_neg (by omega), if_neg h1]
    simp only [feedS, ho]
    rw [feed_text ps ne x (t ++ [c]) (by simp; omega) (fun hm => hn (List.mem_cons_of_mem _ hm))]
    simp
theorem feed_lit (ps : List (List UInt8)) : ∀ (x t : List UInt8) (ne : Int), (x.length : Int) < ne → feedS ⟨ps, t, 1, ne⟩ x = (⟨ps, t ++ x, 1, ne - x.length⟩, [])
  | [], t, ne, _ => by simp [feedS]
  | c :: x, t, ne, h => by
    simp only [List.length_cons] at h
    have ho : oneS ⟨ps, t, 1, ne⟩ c = (⟨ps, t ++ [c], 1, ne - 1⟩, []) := by
      unfold oneS
      simp only []
      rw [if_neg (by omega), if_pos (by trivial), if_neg (by omega)]
    simp only [feedS, ho]
    rw [feed_lit ps x (t ++ [c]) (ne - 1) (by omega)]
    simp
    omega
theorem feed_lit_end (ps : List (List UInt8)) (x t : List UInt8) (ne : Int) (h : (x.length : Int) = ne) (hx : x ≠ []) : feedS ⟨ps, t, 1, ne⟩ x = (⟨ps ++ [t ++ x], [], 0, 0⟩, []) := by
  rcases List.eq_nil_or_concat x with rfl | ⟨y, c, rfl⟩
  · exact absurd rfl hx
  · rw [List.concat_eq_append] at *
    have hl : (y ++ [c]).length = y.length + 1 := by simp
    rw [feedS_app, feed_lit ps y t ne (by omega)]
    have ho : oneS ⟨ps, t ++ y, 1, ne - y.length⟩ c = (⟨ps ++ [t ++ y ++ [c]], [], 0, 0⟩, []) := by
      unfold oneS
      simp only []
      rw [if_neg (by omega), if_pos (by trivial), if_pos (by omega)]
    simp only [feedS, ho]
    simp
theorem feed_over : ∀ (x : List UInt8) (ne : Int), (x.length : Int) < ne → feedS ⟨[], [], 3, ne⟩ x = (⟨[], [], 3, ne - x.length⟩, [])
  | [], ne, _ => by simp [feedS]
  | c :: x, ne, h => by
    simp only [List.length_cons] at h
    have ho : oneS ⟨[], [], 3, ne⟩ c = (⟨[], [], 3, ne - 1⟩, []) := by
      unfold oneS
      simp only []
      rw [if_neg (by omega), if_neg (by omega), if_neg (by omega), if_pos (by trivial), if_neg (by omega)]
    simp only [feedS, ho]
    rw [feed_over x (ne - 1) (by omega)]
    simp
    omega
theorem feed_over_end (x : List UInt8) (ne : Int) (h : (x.length : Int) = ne) (hx : x ≠ []) : feedS ⟨[], [], 3, ne⟩ x = (⟨[], [], 4, 0⟩, []) := by
  rcases List.eq_nil_or_concat x with rfl | ⟨y, c, rfl⟩
  · exact absurd rfl hx
  · rw [List.concat_eq_append] at *
    have hl : (y ++ [c]).length = y.length + 1 := by simp
    rw [feedS_app, feed_over y ne (by omega)]
    have ho : oneS ⟨[], [], 3, ne - y.length⟩ c = (⟨[], [], 4, 0⟩, []) := by
      unfold oneS
      simp only []
      rw [if_neg (by omega), if_neg (by omega), if_neg (by omega), if_pos (by trivial), if_pos (by omega)]
    simp only [feedS, ho]
    simp
theorem feed_skip (i : TIn) (hi : i.mode = 2 ∨ i.mode = 4) : ∀ (x : List UInt8), (10 : UInt8) ∉ x → feedS i x = (i, [])
  | [], _ => rfl
  | c :: x, hn => by
    have h1 : ¬ c = 10 := by rintro rfl; simp at hn
    have ho : oneS i c = (i, []) := by
      unfold oneS longS
      rcases hi with hi | hi
      · rw [if_neg (by omega), if_neg (by omega), if_pos hi, show (c == 10) = false by simpa using h1]
      · rw [if_neg (by omega), if_neg (by omega), if_neg (by omega), if_neg (by omega), if_neg h1]
    simp only [feedS, ho]
    rw [feed_skip i hi x (fun hm => hn (List.mem_cons_of_mem _ hm))]
    rfl

def nextT (i : TIn) (b : List UInt8) : TIn × List UInt8 × List TOut :=
  if i.mode = 0 then
    match cutL 10 (b.take (400 - i.text.length)) with
    | some (x, _) => ((lineS i.ps (cutSuf (i.text ++ x) 13)).1, b.drop (x.length + 1), (lineS i.ps (cutSuf (i.text ++ x) 13)).2)
    | none => if 400 - i.text.length < b.length then (⟨[], [], 2, 0⟩, b.drop (400 - i.text.length), []) else (⟨i.ps, i.text ++ b, i.mode, i.need⟩, [], [])
  else if i.mode = 1 then
    (if i.need ≤ b.length then (⟨i.ps ++ [i.text ++ b.take i.need.toNat], [], 0, 0⟩, b.drop i.need.toNat, []) else (⟨i.ps, i.text ++ b, i.mode, i.need - b.length⟩, [], []))
  else if i.mode = 3 then
    (if i.need ≤ b.length then (⟨i.ps, i.text, 4, 0⟩, b.drop i.need.toNat, []) else (⟨i.ps, i.text, i.mode, i.need - b.length⟩, [], []))
  else if i.mode = 2 then (match cutL 10 b with | some (_, y) => (emptyI, y, [(3, [])]) | none => (i, [], []))
  else (match cutL 10 b with | some (_, y) => (emptyI, y, []) | none => (i, [], []))

def muT (i : TIn) (b : List UInt8) : Nat := 2 * b.length + (if i.mode = 0 then 1 else 0)
theorem muT_lt {i j : TIn} {b c : List UInt8} (h : c.length < b.length) : muT j c < muT i b := by
  unfold muT
  split <;> split <;> omega
theorem feed_pair (i : TIn) (b : List UInt8) : feedS i b = ((feedS i b).1, (feedS i b).2) := rfl
structure NextOk (i : TIn) (b : List UInt8) (r : TIn × List UInt8 × List TOut) : Prop where
  feed : feedS i b = ((feedS r.1 r.2.1).1, r.2.2 ++ (feedS r.1 r.2.1).2)
  right : RightI r.1
  mu : muT r.1 r.2.1 < muT i b
  len : r.2.2.length + r.2.1.length ≤ b.length
  one : r.2.2.length ≤ 1
theorem line_len (ps : List (List UInt8)) (s : List UInt8) : (lineS ps s).2.length = 1 := by
  unfold lineS
  split
  · rfl
  · split
    · rfl
    · split <;> rfl
theorem next_ok {i : TIn} (h : RightI i) {b : List UInt8} (hb : b ≠ []) : NextOk i b (nextT i b) := by
  have hpos := List.length_pos_iff.2 hb
  obtain ⟨ps, t, mo, ne⟩ := i
  obtain ⟨h1, h2, h⟩ := h
  simp only [] at h1 h2 h
  unfold nextT
  simp only []
  rcases h with ⟨rfl, rfl, hl, hd⟩ | ⟨rfl, a, a2, hl, hd⟩ | ⟨m, rfl, rfl, rfl⟩ | ⟨rfl, a, a2, rfl, rfl⟩
  · rw [if_pos (by trivial)]
    cases hc : cutL 10 (b.take (400 - t.length)) with
    | some p =>
      obtain ⟨x, y⟩ := p
      obtain ⟨e1, e2⟩ := cutL_some hc
      simp only []
      have hxl : x.length + 1 + y.length = min (400 - t.length) b.length := by
        have := congrArg List.length e1
        simp at this
        omega
      have hbe : b = x ++ (10 :: b.drop (x.length + 1)) := by
        have h3 : b = b.take (400 - t.length) ++ b.drop (400 - t.length) := (List.take_append_drop _ _).symm
        rw [e1] at h3
        have h4 : b.drop (x.length + 1) = y ++ b.drop (400 - t.length) := by
          conv => lhs; rw [h3]
          rw [show x ++ 10 :: y ++ b.drop (400 - t.length) = (x ++ [10]) ++ (y ++ b.drop (400 - t.length)) by simp, List.drop_left' (by simp)]
        rw [h4]
        conv => lhs; rw [h3]
        simp
      refine ⟨?_, right_line h1 h2 (Nat.le_trans (cutSuf_len _ _) (by simp; omega)) hd, muT_lt (by simp; omega), ?_, ?_⟩
      · conv => lhs; rw [hbe]
        rw [feedS_app, feed_text ps 0 x t (by omega) e2]
        have ho : oneS ⟨ps, t ++ x, 0, 0⟩ 10 = lineS ps (cutSuf (t ++ x) 13) := by
          unfold oneS
          simp only []
          rw [if_pos (by trivial), if_neg (by simp; omega), if_pos (by trivial)]
        simp only [feedS, ho]
        simp
      · simp only [line_len]
        simp
        omega
      · rw [line_len]; exact Nat.le_refl _
    | none =>
      have hn := cutL_none hc
      simp only []
      by_cases hr : 400 - t.length < b.length
      · rw [if_pos hr]
        refine ⟨?_, ⟨by simp, by simp, .inr (.inr (.inl ⟨.inl rfl, rfl, rfl, rfl⟩))⟩, ?_, by simp, by simp⟩
        · simp only [List.nil_append]
          conv => lhs; rw [← List.take_append_drop (400 - t.length) b]
          rw [feedS_app, feed_text ps 0 _ t (by simp; omega) hn]
          have hne : b.drop (400 - t.length) ≠ [] := by
            intro h
            have := congrArg List.length h
            simp at this
            omega
          cases hdr : b.drop (400 - t.length) with
          | nil => exact absurd hdr hne
          | cons c q =>
            have ho : oneS ⟨ps, t ++ b.take (400 - t.length), 0, 0⟩ c = oneS ⟨[], [], 2, 0⟩ c := by
              unfold oneS
              simp only []
              rw [if_pos (by trivial), if_pos (by simp; omega), if_neg (by omega), if_neg (by omega), if_pos (by trivial)]
            simp only [feedS, ho]
            simp
        · unfold muT
          simp only [List.length_drop]
          rw [if_neg (by omega), if_pos trivial]
          omega
      · rw [if_neg hr]
        rw [List.take_of_length_le (by omega)] at hn
        refine ⟨?_, ⟨h1, h2, .inl ⟨rfl, rfl, by simp; omega, hd⟩⟩, muT_lt (by simpa using hpos), by simp, by simp⟩
        rw [feed_text ps 0 b t (by omega) hn]
        simp [feedS]
  · rw [if_neg (by omega), if_pos (by trivial)]
    by_cases hr : ne ≤ (b.length : Int)
    · rw [if_pos hr]
      have htl : ((b.take ne.toNat).length : Int) = ne := by simp; omega
      refine ⟨?_, ⟨by simp; omega, fun p hp => ?_, .inl ⟨rfl, rfl, by simp, by simp; omega⟩⟩, muT_lt (by simp; omega), by simp, by simp⟩
      · simp only [List.nil_append]
        conv => lhs; rw [← List.take_append_drop ne.toNat b]
        rw [feedS_app, feed_lit_end ps _ t ne htl (by intro h; rw [h] at htl; simp at htl; omega)]
        simp
      · simp at hp
        rcases hp with hp | rfl
        · exact h2 p hp
        · simp; omega
    · rw [if_neg hr]
      refine ⟨?_, ⟨h1, h2, .inr (.inl ⟨rfl, by simp; omega, by simp; omega, by simp; omega, hd⟩)⟩, muT_lt (by simpa using hpos), by simp, by simp⟩
      rw [feed_lit ps b t ne (by omega)]
      simp [feedS]
  · rw [if_neg (by omega), if_neg (by omega), if_neg (by omega)]
    have hR : RightI ⟨[], [], mo, 0⟩ := ⟨by simp, by simp, .inr (.inr (.inl ⟨m, rfl, rfl, rfl⟩))⟩
    rcases m with rfl | rfl
    · rw [if_pos (by trivial)]
      cases hc : cutL 10 b with
      | some p =>
        obtain ⟨x, y⟩ := p
        obtain ⟨e1, e2⟩ := cutL_some hc
        simp only []
        refine ⟨?_, right_empty, muT_lt (by rw [e1]; simp; omega), by rw [e1]; simp; omega, by simp⟩
        rw [e1, feedS_app, feed_skip _ (.inl rfl) x e2]
        have ho : oneS ⟨[], [], 2, 0⟩ 10 = (emptyI, [(3, [])]) := rfl
        simp only [feedS, ho]
        simp
      | none =>
        simp only []
        refine ⟨?_, hR, muT_lt (by simpa using hpos), by simp, by simp⟩
        rw [feed_skip _ (.inl rfl) b (cutL_none hc)]
        simp [feedS]
    · rw [if_neg (by omega)]
      cases hc : cutL 10 b with
      | some p =>
        obtain ⟨x, y⟩ := p
        obtain ⟨e1, e2⟩ := cutL_some hc
        simp only []
        refine ⟨?_, right_empty, muT_lt (by rw [e1]; simp; omega), by rw [e1]; simp; omega, by simp⟩
        rw [e1, feedS_app, feed_skip _ (.inr rfl) x e2]
        have ho : oneS ⟨[], [], 4, 0⟩ 10 = (emptyI, []) := rfl
        simp only [feedS, ho]
        simp
      | none =>
        simp only []
        refine ⟨?_, hR, muT_lt (by simpa using hpos), by simp, by simp⟩
        rw [feed_skip _ (.inr rfl) b (cutL_none hc)]
        simp [feedS]
  · rw [if_neg (by omega), if_neg (by omega), if_pos (by trivial)]
    by_cases hr : ne ≤ (b.length : Int)
    · rw [if_pos hr]
      have htl : ((b.take ne.toNat).length : Int) = ne := by simp; omega
      refine ⟨?_, ⟨by simp, by simp, .inr (.inr (.inl ⟨.inr rfl, rfl, rfl, rfl⟩))⟩, muT_lt (by simp; omega), by simp, by simp⟩
      simp only [List.nil_append]
      conv => lhs; rw [← List.take_append_drop ne.toNat b]
      rw [feedS_app, feed_over_end _ ne htl (by intro h; rw [h] at htl; simp at htl; omega)]
      simp
    · rw [if_neg hr]
      refine ⟨?_, ⟨by simp, by simp, .inr (.inr (.inr ⟨rfl, by simp; omega, by simp; omega, rfl, rfl⟩))⟩, muT_lt (by simpa using hpos), by simp, by simp⟩
      rw [feed_over b ne (by omega)]
      simp [feedS]
end Go.Proofs.YtphbfkncimifoaaDoor
