import Derived.Test.YtjaoeipfiodnfaaDoorFwOps2
import Derived.Laws.IdiomStrings
import Derived.Laws.BytesString
import Derived.Laws.BytesArg
import Derived.Laws.Strings
namespace Go.Fw
open Go.RowKit
def byteV (b : UInt8) : Value := .int .u8 b.toNat
def bytesV (bs : List UInt8) : List Value := bs.map byteV
theorem one_bytesV {bs : List UInt8} : ∀ u ∈ bytesV bs, u.oneCell' = true := by
  intro u hu
  obtain ⟨b, _, rfl⟩ := List.mem_map.1 hu
  rfl
theorem length_bytesV (bs : List UInt8) : (bytesV bs).length = bs.length := by simp [bytesV]
theorem bytesV_append (a b : List UInt8) : bytesV (a ++ b) = bytesV a ++ bytesV b := by simp [bytesV]
/-- A string. -/
def strV (bs : List UInt8) : Value := .string ⟨bs.toArray⟩
theorem byteV_inj {a b : UInt8} (h : byteV a = byteV b) : a = b := by
  unfold byteV at h
  injection h with _ h
  exact UInt8.toNat_inj.1 (by omega)
section
variable {P : Program} {w : World} {K : Value → World → Prop}
structure ByT (P : Program) (t e : TypeId) : Prop where
  und : P.underlying t = some (.slice e)
  byte : P.underlying e = some (.int .u8)
theorem neB {t : TypeId} {x y : Operand} {a b : UInt8} : S.v P (S.bin .neq t x y (byteV a) (byteV b)) K w = K (.bool (decide (a ≠ b))) w := by
  unfold byteV
  rw [ne_v]
  congr 2
  have : ((a.toNat : Int) ≠ b.toNat) ↔ a ≠ b := by
    exact ⟨fun h e => h (by rw [e]), fun h e => h (UInt8.toNat_inj.1 (by omega))⟩
  exact decide_eq_decide.2 this
theorem eqB {t : TypeId} {x y : Operand} {a b : UInt8} : S.v P (S.bin .eql t x y (byteV a) (byteV b)) K w = K (.bool (decide (a = b))) w := by
  unfold byteV
  rw [eq_v]
  congr 2
  have : ((a.toNat : Int) = b.toNat) ↔ a = b := by
    exact ⟨fun h => UInt8.toNat_inj.1 (by omega), fun h => by rw [h]⟩
  exact decide_eq_decide.2 this
theorem run_eqs (t : TypeId) (x y : Operand) (a b : List UInt8) : (S.bin .eql t x y (strV a) (strV b)).run P w = .ok (.bool (decide (a = b))) w := by
  unfold S.bin eqGuard strV
  simp only [binOp, Op.stringOp, ByteArray.toList_mk]
  have : (a == b) = decide (a = b) := by by_cases h : a = b <;> simp [h]
  rw [this]; rfl
theorem run_nes (t : TypeId) (x y : Operand) (a b : List UInt8) : (S.bin .neq t x y (strV a) (strV b)).run P w = .ok (.bool (decide (a ≠ b))) w := by
  unfold S.bin eqGuard strV
  simp only [binOp, Op.stringOp, ByteArray.toList_mk]
  have : (!(a == b)) = decide (a ≠ b) := by by_cases h : a = b <;> simp [h]
  rw [this]; rfl
theorem eqs_v {t : TypeId} {x y : Operand} {a b : List UInt8} : S.v P (S.bin .eql t x y (strV a) (strV b)) K w = K (.bool (decide (a = b))) w := v_eq (run_eqs ..)
theorem nes_v {t : TypeId} {x y : Operand} {a b : List UInt8} : S.v P (S.bin .neq t x y (strV a) (strV b)) K w = K (.bool (decide (a ≠ b))) w := v_eq (run_nes ..)
theorem size_str (bs : List UInt8) : (⟨bs.toArray⟩ : ByteArray).size = bs.length := by
  show bs.toArray.size = _
  simp
theorem lenS_v {t ty : TypeId} {bs : List UInt8} (h : P.underlying t = some .string) : S.v P (Builtin.len_ #[t] ty #[strV bs]) K w = K (.int .i64 bs.length) w := by
  unfold strV
  rw [lens_v h, size_str]
/-- 'string(b)'. -/
theorem run_cvbs {t e s B : Nat} {v : Value} {bs : List UInt8} (T : ByT P t e) (hs : P.underlying s = some .string) (h : Rd w B 1 v bs.length (bytesV bs)) : (Go.convert t s v).run P w = .ok (strV bs) w := by
  obtain ⟨A, c, rfl, h2, h3, h4, h5⟩ := h.form
  cases A with
  | none =>
    have hn : bs = [] := by
      cases bs with
      | nil => rfl
      | cons x r => obtain ⟨b, off, e, _⟩ := h4 (by simp); cases e
    subst hn
    exact run_convert_bytes_string w t s e none _ _ T.und T.byte hs
  | some a =>
    refine run_convert_bytes_back w t s e a c bs T.und T.byte hs fun j hj => ?_
    obtain ⟨b, off, e, _⟩ := h4 (by omega)
    injection e with e
    subst e
    rw [add_mk]
    exact h5 b off rfl j _ (by simp [bytesV, byteV, List.getElem?_eq_getElem hj])
theorem cvbs_v {t e s B : Nat} {v : Value} {bs : List UInt8} (T : ByT P t e) (hs : P.underlying s = some .string) (h : Rd w B 1 v bs.length (bytesV bs)) : S.v P (Go.convert t s v) K w = K (strV bs) w := v_eq (run_cvbs T hs h)
/-- '[]byte(s)': to be read. -/
theorem cvsb {t e s : Nat} {bs : List UInt8} (T : ByT P t e) (hs : P.underlying s = some .string) (hl : bs.length ≤ 9223372036854775807)
    (k : ∀ (v : Value) (w' : World), Rd w' w'.heap.size 1 v bs.length (bytesV bs) → Ch [] w w' → K v w') : S.v P (Go.convert s t (strV bs)) K w := by
  have hr := run_bytes_of_string (P := P) w s t e ⟨bs.toArray⟩ hs T.und T.byte
  rw [size_str] at hr
  have hge := grownCap_ge w bs.length 0 e
  refine v_ok hr (k _ _ ⟨by rw [length_bytesV]; omega, some ⟨w.heap.size, 0, none⟩, _, rfl, hge, grownCap_le_maxLen w _ _ _ (by simp only [maxLen]; omega), fun _ => ⟨_, _, rfl, by simp⟩, fun b off hA j u hu => ?_⟩ ((Ch.drew w).trans (ch_alloc w.drew _) (by simp)))
  simp only [Option.some.injEq, Addr.mk.injEq] at hA
  obtain ⟨rfl, rfl, _⟩ := hA
  have hj : j < bs.length := by
    have := (List.getElem?_eq_some_iff.1 hu).1
    simpa [bytesV] using this
  have hcell := cell_heap (off := 0 + j) (heap_alloc_new w.drew (.cells (bytesRow ⟨bs.toArray⟩ (grownCap w bs.length 0 e)) e ((bytesRow ⟨bs.toArray⟩ (grownCap w bs.length 0 e)).size, (bytesRow ⟨bs.toArray⟩ (grownCap w bs.length 0 e)).size + 1)))
  refine Eq.trans hcell ?_
  simp only [bytesV, List.getElem?_map, List.getElem?_eq_getElem hj, Option.map_some, Option.some.injEq] at hu
  subst hu
  unfold bytesRow
  rw [Array.getElem?_append_left (by simp; exact hj)]
  simp [byteV, hj]
end
end Go.Fw
