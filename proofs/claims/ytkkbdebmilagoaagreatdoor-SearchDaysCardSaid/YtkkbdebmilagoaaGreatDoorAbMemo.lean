/- Calls whose answers are known. -/
import Derived.Test.YtkkbdebmilagoaaGreatDoorAbLaw
set_option linter.unusedSimpArgs false
set_option linter.unusedVariables false
namespace Go.Ab
open Go

def kindEq : IntKind → IntKind → Bool
  | .i8, .i8 => true
  | .i16, .i16 => true
  | .i32, .i32 => true
  | .i64, .i64 => true
  | .u8, .u8 => true
  | .u16, .u16 => true
  | .u32, .u32 => true
  | .u64, .u64 => true
  | _, _ => false

def intEq : Int → Int → Bool
  | .ofNat a, .ofNat b => Nat.beq a b
  | .negSucc a, .negSucc b => Nat.beq a b
  | _, _ => false

def bytesEq : List UInt8 → List UInt8 → Bool
  | [], [] => true
  | a :: as, b :: bs => Nat.beq a.toNat b.toNat && bytesEq as bs
  | _, _ => false

def valEq : Value → Value → Bool
  | .int k a, .int k' b => kindEq k k' && intEq a b
  | .bool a, .bool b => match a, b with | true, true => true | false, false => true | _, _ => false
  | .string a, .string b => bytesEq a.data.toList b.data.toList
  | .nilIface, .nilIface => true
  | _, _ => false

mutual
def avEq : AV → AV → Bool
  | .v a, .v b => valEq a b
  | .lst e n r, .lst e' n' r' => Nat.beq e e' && (match n, n' with | true, true => true | false, false => true | _, _ => false) && avEqs r r'
  | .agg a, .agg b => avEqs a b
  | .tup a, .tup b => avEqs a b
  | .fn (.func f) a b, .fn (.func f') a' b' => Nat.beq f f' && avEqs a a' && avEqs b b'
  | _, _ => false
def avEqs : List AV → List AV → Bool
  | [], [] => true
  | a :: as, b :: bs => avEq a b && avEqs as bs
  | _, _ => false
end

theorem kindEq_eq {a b : IntKind} (h : kindEq a b = true) : a = b := by cases a <;> cases b <;> first | rfl | cases h
theorem intEq_eq {a b : Int} (h : intEq a b = true) : a = b := by
  cases a <;> cases b <;> simp only [intEq] at h
  · rw [Nat.eq_of_beq_eq_true h]
  · cases h
  · cases h
  · rw [Nat.eq_of_beq_eq_true h]
theorem bytesEq_eq : ∀ {a b : List UInt8}, bytesEq a b = true → a = b
  | [], [], _ => rfl
  | [], _ :: _, h => by cases h
  | _ :: _, [], h => by cases h
  | a :: as, b :: bs, h => by
    simp only [bytesEq, Bool.and_eq_true] at h
    rw [bytesEq_eq h.2, UInt8.toNat_inj.1 (Nat.eq_of_beq_eq_true h.1)]
theorem valEq_eq {a b : Value} (h : valEq a b = true) : a = b := by
  unfold valEq at h
  split at h
  · simp only [Bool.and_eq_true] at h
    rw [kindEq_eq h.1, intEq_eq h.2]
  · split at h <;> first | rfl | cases h
  · rename_i a b
    have := bytesEq_eq h
    obtain ⟨⟨l⟩⟩ := a
    obtain ⟨⟨m⟩⟩ := b
    simp only at this
    rw [this]
  · rfl
  · cases h

mutual
theorem avEq_eq : ∀ {a b : AV}, avEq a b = true → a = b
  | .v a, .v b, h => by simp only [avEq] at h; rw [valEq_eq h]
  | .lst e n r, .lst e' n' r', h => by
    simp only [avEq, Bool.and_eq_true] at h
    rw [Nat.eq_of_beq_eq_true h.1.1, avEqs_eq h.2]
    have := h.1.2
    cases n <;> cases n' <;> first | rfl | cases this
  | .agg a, .agg b, h => by simp only [avEq] at h; rw [avEqs_eq h]
  | .tup a, .tup b, h => by simp only [avEq] at h; rw [avEqs_eq h]
  | .fn (.func f) a b, .fn (.func f') a' b', h => by
    simp only [avEq, Bool.and_eq_true] at h
    rw [Nat.eq_of_beq_eq_true h.1.1, avEqs_eq h.1.2, avEqs_eq h.2]
  | .v _, .lst .., h | .v _, .own .., h | .v _, .ptr .., h | .v _, .pl .., h | .v _, .fn .., h | .v _, .iface .., h | .v _, .agg .., h | .v _, .tup .., h | .v _, .junk, h | .v _, .dead, h => by simp [avEq] at h
  | .lst .., .v _, h | .lst .., .own .., h | .lst .., .ptr .., h | .lst .., .pl .., h | .lst .., .fn .., h | .lst .., .iface .., h | .lst .., .agg .., h | .lst .., .tup .., h | .lst .., .junk, h | .lst .., .dead, h => by simp [avEq] at h
  | .agg .., .v _, h | .agg .., .own .., h | .agg .., .ptr .., h | .agg .., .pl .., h | .agg .., .fn .., h | .agg .., .iface .., h | .agg .., .lst .., h | .agg .., .tup .., h | .agg .., .junk, h | .agg .., .dead, h => by simp [avEq] at h
  | .tup .., .v _, h | .tup .., .own .., h | .tup .., .ptr .., h | .tup .., .pl .., h | .tup .., .fn .., h | .tup .., .iface .., h | .tup .., .lst .., h | .tup .., .agg .., h | .tup .., .junk, h | .tup .., .dead, h => by simp [avEq] at h
  | .own .., b, h | .ptr .., b, h | .pl .., b, h | .iface .., b, h | .junk, b, h | .dead, b, h => by cases b <;> simp [avEq] at h
  | .fn f a b, c, h => by
    cases f <;> cases c <;> first | (simp [avEq] at h; done) | skip
    rename_i f1 f2 a2 b2
    cases f2 <;> first | (simp [avEq] at h; done) | skip
    simp only [avEq, Bool.and_eq_true] at h
    rw [Nat.eq_of_beq_eq_true h.1.1, avEqs_eq h.1.2, avEqs_eq h.2]
theorem avEqs_eq : ∀ {a b : List AV}, avEqs a b = true → a = b
  | [], [], _ => rfl
  | [], _ :: _, h => by cases h
  | _ :: _, [], h => by cases h
  | a :: as, b :: bs, h => by
    simp only [avEqs, Bool.and_eq_true] at h
    rw [avEq_eq h.1, avEqs_eq h.2]
end

abbrev Memo := List (FuncId × List AV × AV)

/-- Known answers first. -/
def memoK (K : PureK) : Memo → PureK
  | [], g, as => K g as
  | e :: es, g, as => match Nat.beq e.1 g && avEqs e.2.1 as with
    | true => some e.2.2
    | false => memoK K es g as

def MemoOk (X : Ctx) (m : Memo) : Prop := ∀ e ∈ m, PureCall X e.1 e.2.1 e.2.2

theorem memo_ok {X : Ctx} {K : PureK} (hK : KOk X K) : ∀ (m : Memo), MemoOk X m → KOk X (memoK K m)
  | [], _, g, as, v, h => hK g as v h
  | e :: es, hm, g, as, v, h => by
    simp only [memoK] at h
    split at h
    · rename_i hb
      simp only [Bool.and_eq_true] at hb
      cases h
      have := hm e List.mem_cons_self
      rwa [Nat.eq_of_beq_eq_true hb.1, avEqs_eq hb.2] at this
    · exact memo_ok hK es (fun e he => hm e (List.mem_cons_of_mem _ he)) g as v h

theorem memo_nil {X : Ctx} : MemoOk X [] := fun e he => by cases he
theorem memo_cons {X : Ctx} {g : FuncId} {as : List AV} {v : AV} {m : Memo} (h : PureCall X g as v) (hm : MemoOk X m) : MemoOk X ((g, as, v) :: m) := fun e he => by
  rcases List.mem_cons.1 he with rfl | he
  · exact h
  · exact hm e he
end Go.Ab
