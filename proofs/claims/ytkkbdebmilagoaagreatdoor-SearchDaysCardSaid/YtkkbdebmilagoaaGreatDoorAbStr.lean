/- Texts as lists of bytes. -/
import Derived.Test.YtkkbdebmilagoaaGreatDoorAbTell
import Derived.Lib.Bytealg
import Derived.Laws.Runes
set_option linter.unusedVariables false
set_option linter.unusedSimpArgs false
namespace Go.Ab
open Go

theorem toU8 (c : UInt8) : ((c.toNat : Int)).toNat.toUInt8 = c := by simp
def bs (l : List UInt8) : ByteArray := ⟨l.toArray⟩
theorem bs_eta (s : ByteArray) : bs s.data.toList = s := by cases s; simp [bs]
theorem exists_bs (s : ByteArray) : ∃ l, s = bs l := ⟨s.data.toList, (bs_eta s).symm⟩
theorem bs_list (l : List UInt8) : (bs l).data.toList = l := by simp [bs]
theorem bs_inj {a b : List UInt8} (h : bs a = bs b) : a = b := by
  have := congrArg (fun s : ByteArray => s.data.toList) h
  simpa [bs] using this
theorem bs_size (l : List UInt8) : (bs l).size = l.length := by simp [bs, ByteArray.size]
theorem bt_bs (l : List UInt8) (i : Nat) : bt (bs l) i = ((l[i]?.getD 0).toNat : Int) := by simp [bt, bs]
theorem cut_from (l : List UInt8) (a : Int) : cutStr (bs l) (some a) none = bs (l.drop a.toNat) := by simp [cutStr, bs]
theorem cut_to (l : List UInt8) (b : Int) : cutStr (bs l) none (some b) = bs (l.take b.toNat) := by simp [cutStr, bs]
theorem cut_both (l : List UInt8) (a b : Int) : cutStr (bs l) (some a) (some b) = bs ((l.take b.toNat).drop a.toNat) := by simp [cutStr, bs]
theorem cut_all (l : List UInt8) : cutStr (bs l) none none = bs l := by simp [cutStr, bs]
theorem strEq_bs (a b : List UInt8) : strEq (bs a) (bs b) = (a == b) := by simp [strEq, bs]
theorem bs_append (a b : List UInt8) : bs a ++ bs b = bs (a ++ b) := by
  have h : (bs a ++ bs b).data.toList = a ++ b := by simp [bs, ByteArray.toList_data_append]
  rw [← bs_eta (bs a ++ bs b), h]
theorem cat_bs (a b : List UInt8) : catStr (bs a) (bs b) = bs (a ++ b) := by simp [catStr, bs]
theorem bytesRows_bs (l : List UInt8) : bytesRows (bs l) = l.map fun b => uv b.toNat := by simp [bytesRows, bs]
theorem emp : ({ data := #[] } : ByteArray) = bs [] := rfl
/-- A text's parts between a byte. -/
def splitL (c : UInt8) : List UInt8 → List (List UInt8)
  | [] => [[]]
  | x :: xs => match x == c with
    | true => [] :: splitL c xs
    | false => match splitL c xs with
      | [] => [[x]]
      | p :: ps => (x :: p) :: ps

theorem splitL_ne (c : UInt8) : ∀ l, splitL c l ≠ []
  | [] => by simp [splitL]
  | x :: xs => by
    unfold splitL
    split
    · simp
    · split <;> simp

theorem splitL_no (c : UInt8) : ∀ {a : List UInt8}, c ∉ a → splitL c a = [a]
  | [], _ => rfl
  | x :: xs, h => by
    have hx : (x == c) = false := by simp; intro e; exact h (by simp [e])
    simp only [splitL, hx]
    rw [splitL_no c (fun h' => h (List.mem_cons_of_mem _ h'))]

theorem splitL_at (c : UInt8) (b : List UInt8) : ∀ {a : List UInt8}, c ∉ a → splitL c (a ++ c :: b) = a :: splitL c b
  | [], _ => by simp [splitL]
  | x :: xs, h => by
    have hx : (x == c) = false := by simp; intro e; exact h (by simp [e])
    simp only [List.cons_append, splitL, hx]
    rw [splitL_at c b (fun h' => h (List.mem_cons_of_mem _ h'))]

theorem mem_split {c : UInt8} : ∀ {l : List UInt8}, c ∈ l → ∃ a b, l = a ++ c :: b ∧ c ∉ a
  | [], h => by cases h
  | x :: xs, h => by
    by_cases hx : x = c
    · exact ⟨[], xs, by simp [hx], by simp⟩
    · have : c ∈ xs := by
        rcases List.mem_cons.1 h with h | h
        · exact absurd h.symm hx
        · exact h
      obtain ⟨a, b, e, hn⟩ := mem_split this
      exact ⟨x :: a, b, by simp [e], by simp; exact ⟨fun h => hx h.symm, hn⟩⟩

theorem firstIdx_no {c : UInt8} {l : List UInt8} (h : c ∉ l) : firstIdx (bs l) c = -1 :=
  Go.firstIdx_none _ _ fun b hb hbc => by rw [bs_list] at hb; exact h (hbc ▸ hb)
theorem getElem!_bs (l : List UInt8) (i : Nat) (h : i < l.length) : (bs l)[i]! = l[i] := by
  rw [getElem!_pos (bs l) i (by rw [bs_size]; exact h)]
  simp [bs, ByteArray.getElem_eq_getElem_data]
theorem firstIdx_at {c : UInt8} {a b : List UInt8} (h : c ∉ a) : firstIdx (bs (a ++ c :: b)) c = a.length := by
  unfold firstIdx
  have : (List.range (bs (a ++ c :: b)).size).find? (fun i => (bs (a ++ c :: b))[i]! == c) = some a.length := by
    rw [List.find?_eq_some_iff_getElem]
    refine ⟨?_, a.length, by simp [bs_size], by simp, fun j hj => ?_⟩
    · rw [getElem!_bs _ _ (by simp)]
      simp
    · simp only [List.getElem_range]
      rw [getElem!_bs _ _ (by simp; omega), List.getElem_append_left hj]
      simp
      intro e
      exact h (e ▸ List.getElem_mem hj)
  rw [this]

theorem mem_intersperse {α : Type} {s p : α} : ∀ {l : List α}, p ∈ l → p ∈ l.intersperse s
  | [x], h => h
  | x :: y :: l, h => by
    simp only [List.intersperse_cons_cons, List.mem_cons] at h ⊢
    rcases h with rfl | h
    · exact .inl rfl
    · exact .inr (.inr (mem_intersperse (List.mem_cons.2 h)))
theorem splitL_length (c : UInt8) : ∀ l : List UInt8, (splitL c l).length = l.count c + 1
  | [] => rfl
  | x :: xs => by
    have ih := splitL_length c xs
    unfold splitL
    by_cases hx : x = c
    · subst hx
      simp [ih]
    · have h1 : (x == c) = false := by simpa using hx
      simp only [h1]
      split
      · rename_i he; exact absurd he (splitL_ne c xs)
      · rename_i p ps he
        rw [he] at ih
        simp only [List.length_cons] at ih ⊢
        rw [ih, List.count_cons_of_ne (by simpa using hx)]

/-- Joined again. -/
theorem splitL_join (c : UInt8) : ∀ l : List UInt8, ((splitL c l).intersperse [c]).flatten = l
  | [] => rfl
  | x :: xs => by
    have ih := splitL_join c xs
    unfold splitL
    by_cases hx : x = c
    · subst hx
      simp only [beq_self_eq_true]
      cases he : splitL x xs with
      | nil => exact absurd he (splitL_ne x xs)
      | cons p ps =>
        rw [he] at ih
        simp [List.intersperse, ih]
    · have h1 : (x == c) = false := by simpa using hx
      simp only [h1]
      cases he : splitL c xs with
      | nil => exact absurd he (splitL_ne c xs)
      | cons p ps =>
        rw [he] at ih
        cases ps with
        | nil => simp [List.intersperse] at ih ⊢; exact ih
        | cons q qs => simp [List.intersperse] at ih ⊢; exact ih

theorem count_bs (l : List UInt8) (c : UInt8) : (bs l).foldl (fun (n : Int) x => if x == c then n + 1 else n) ((0 : Nat) : Int) = (l.count c : Nat) := by
  rw [Lib.foldl_data, bs_list, Lib.count_foldl]
  simp [Lib.countByte]
end Go.Ab
