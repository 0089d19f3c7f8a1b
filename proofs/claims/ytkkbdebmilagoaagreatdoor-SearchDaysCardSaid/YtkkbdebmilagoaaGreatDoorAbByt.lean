/- internal/bytealg.IndexByte over a slice of bytes; what slices of bytes hold. -/
import Derived.Test.YtkkbdebmilagoaaGreatDoorAbSpec
import Derived.Test.YtkkbdebmilagoaaGreatDoorAbExt
import Derived.Test.YtkkbdebmilagoaaGreatDoorAbPure
set_option linter.unusedVariables false
set_option linter.unusedSimpArgs false
namespace Go.Ab
open Go

theorem run_loadBytesE {P : Program} {w : World} {b : Nat} : ∀ (l : List UInt8) (off : Nat) (acc : ByteArray), (∀ j x, l[j]? = some x → w.cell? (ad b (off + j)) = some (.int .u8 x.toNat)) →
    (Extern.Bytes.loadBytes (ad b off) l.length acc).run P w = .ok ⟨acc.data ++ l.toArray⟩ w
  | [], off, acc, _ => by simp [Extern.Bytes.loadBytes]
  | x :: l, off, acc, h => by
    have h0 : w.cell? (ad b off) = some (.int .u8 x.toNat) := h 0 x rfl
    have ih := run_loadBytesE (P := P) (w := w) (b := b) l (off + 1) (acc.push x) (fun j y hy => by
      have := h (j + 1) y (by simpa using hy)
      rwa [show off + 1 + j = off + (j + 1) by omega])
    have hx : ((x.toNat : Int).toNat).toUInt8 = x := by simp
    simp only [List.length_cons, Extern.Bytes.loadBytes, Sem.run_bind, run_load, h0, Result.andThen, hx, ad_add]
    rw [ih]
    congr 1
    apply ByteArray.ext
    simp [ByteArray.push]
/-- A slice of bytes, read. -/
theorem bytesOf_uvs {P : Program} {s : St} {n : Bool} {l : List UInt8} {v : Value} (h : Rel s (.lst 1 n (uvs l)) v) : (Extern.Bytes.bytesOf v).run P s.w = .ok (bs l) s.w := by
  generalize hx : uvs l = rows at h
  cases h with
  | nil =>
    have : l = [] := by cases l with | nil => rfl | cons a l => simp [uvs] at hx
    subst this
    rfl
  | empty es a cap =>
    have : l = [] := by cases l with | nil => rfl | cons a l => simp [uvs] at hx
    subst this
    rfl
  | lst es rows b off cap vals hcap hpriv hes hfree hcell hc hr =>
    subst hx
    rw [uvs_len] at *
    show (Extern.Bytes.loadBytes (ad b off) l.length .empty).run P s.w = _
    rw [run_loadBytesE (P := P) (w := s.w) (b := b) l off .empty ?_]
    · congr 1
      apply ByteArray.ext
      simp [bs]
    · intro j x hj
      have hjl := (List.getElem?_eq_some_iff.1 hj).1
      have h1 := hc j 0 hjl (by decide)
      have h2 := hr j 0 (uv x.toNat) (uv x.toNat) (by rw [uvs_get l j hjl, (List.getElem?_eq_some_iff.1 hj).2]) rfl
      rw [show off + j = off + j * 1 + 0 by omega, h1, h2.v_inv.1]
theorem xIndexByte_ok {X : Ctx} {f : FuncId} {fn : Func} (hf : X.P.funcs[f]? = some fn) (hname : (fn.name == "runtime.NumGoroutine") = false)
    (hb : fn.body.isNone = true) (hn : Extern.findNext fn = none) (he : Extern.find fn = some Extern.BytealgIndexByte.indexByte) (n : Bool) (l : List UInt8) (c : UInt8) : PureCall X f [.lst 1 n (uvs l), uv c.toNat] (iv (firstIdx (bs l) c)) := by
  refine extern_pure hf hname hb hn he rfl fun s cs hr => ?_
  obtain ⟨xs⟩ := cs
  have h1 := hr.1
  match xs, h1 with
  | [a, b], _ =>
    have ha := hr.2 0 _ _ rfl rfl
    have hb := (hr.2 1 _ _ rfl rfl).v_inv.1
    subst hb
    change Sem.run X.P (do
      let b ← Extern.Bytes.bytesOf a
      let c' ← Extern.Bytes.asByte (.int .u8 c.toNat)
      match (List.range b.size).find? fun i => b[i]! == c' with
      | some i => pure (goInt i)
      | none => pure (goInt (-1))) s.w = _
    rw [Sem.run_bind, bytesOf_uvs (P := X.P) (v := a) ha]
    simp only [Sem.run_bind, Extern.Bytes.asByte, firstIdx, Sem.run_pure, Result.andThen, toU8]
    generalize (List.range (bs l).size).find? (fun i => (bs l)[i]! == c) = o
    cases o <;> simp [goInt]
end Go.Ab
