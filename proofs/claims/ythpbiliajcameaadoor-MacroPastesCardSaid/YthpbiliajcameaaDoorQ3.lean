import Derived.Test.YthpbiliajcameaaDoorQ2
set_option linter.unusedVariables false
namespace Go.Proofs.YthpbiliajcameaaDoor
open Go Go.Fw Go.Proofs Go.RowKit
section
variable {w : World} {K : Value → World → Prop}
theorem rb_one {g : Nat} {v : Value} {c : UInt8} {L : List Nat} (h : Own w 5 1 v 1 [byteV c] L) : RB w w.heap.size v [c] := h.rd
theorem RB.ch {B : Nat} {v : Value} {bs : List UInt8} {w' : World} (h : RB w B v bs) (hc : Ch [] w w') : RB w' B v bs := Rd.ch h hc (by simp)
theorem neB_v {t : TypeId} {x y : Operand} {a b : UInt8} : S.v Tryd.prog (S.bin .neq t x y (byteV a) (byteV b)) K w = K (.bool (decide (a ≠ b))) w := by
  unfold byteV
  rw [ne_v]
  congr 2
  have : ((a.toNat : Int) ≠ b.toNat) ↔ a ≠ b := by
    exact ⟨fun h e => h (by rw [e]), fun h e => h (UInt8.toNat_inj.1 (by omega))⟩
  exact decide_eq_decide.2 this
/-- A cell of a byte slice that came in. -/
theorem rb_at {B : Nat} {A : Option Addr} {c : Nat} {bs : List UInt8} {i : Nat} {x : UInt8} (h : RB w B (.slice A bs.length c) bs) (hi : bs[i]? = some x) : ∃ g off, A = some ⟨g, off, none⟩ ∧ w.cell? ⟨g, off + i, none⟩ = some (byteV x) := by
  obtain ⟨A', c', he, _, _, h4, h5⟩ := h.form
  injection he with he _ he2
  subst he
  have hlt := (List.getElem?_eq_some_iff.1 hi).1
  obtain ⟨g, off, rfl, hg⟩ := h4 (by omega)
  exact ⟨g, off, rfl, h5 g off rfl i _ (by simp [bytesV, hi])⟩
theorem begun_ (k : ∀ w', Ch [] w w' → K (.bool true) w') : S.call Tryd.prog 7 [] K w := by
  refine F7_link ?_
  unfold F7
  refine newq_ fun w1 hq1 hc1 hsz1 => ?_
  rw [eqn_v pt35, Option.isNone_some, br_false]
  refine bs1 sl22 rfl rfl fun w2 ho2 hc2 hsz2 => ?_
  have hq2 := hq1.ch hc2 (by simp)
  refine put_ (bs := [97]) hq2 ho2.rd (by simp) (by simp) (fun w3 L3 hq3 hc3 hl3 _ => ?_) (fun h => absurd h (by simp))
  rw [ne_v, decide_eq_false (by simp), br_false]
  refine bs1 sl22 rfl rfl fun w4 ho4 hc4 hsz4 => ?_
  have hq4 := hq3.ch hc4 (by simp)
  refine push_ (bs := [120]) hq4 ho4.rd (by simp) (fun w5 L5 hq5 hc5 hl5 _ _ => ?_) (fun h => absurd h (by simp)) (fun _ h => absurd h (by simp))
  rw [ne_v, decide_eq_false (by simp), br_false]
  refine len_ hq5 (by simp [total]) ?_
  rw [ne_v, decide_eq_false (by simp [total]), br_false]
  refine next_mac (ms := []) (c := 120) (m := []) hq5 (by omega) fun w6 L6 hq6 hc6 hl6 => ?_
  rw [x30, x31, x32]
  refine next_rest hq6 (.inr rfl) (fun w7 L7 c t hct hq7 hc7 hl7 => ?_) (fun _ _ h => absurd h (by simp))
  rw [x30, x31, x32]
  have hc : c = 97 := by simp at hct; exact hct.1.symm
  subst hc
  rw [show byteV 120 = Value.int .u8 120 from rfl, eq_v, decide_eq_true rfl, br_true, br_true, not_v]
  rw [show (!false) = true from rfl, br_true, show byteV 97 = Value.int .u8 97 from rfl, eq_v, decide_eq_true rfl, br_true, br_true]
  refine k w7 ?_
  have h12 : Ch [] w w2 := hc1.trans hc2 (by simp)
  have hb := hsz1
  have s2 := hc2.size
  have s3 := hc3.size
  have s4 := hc4.size
  have s5 := hc5.size
  have s6 := hc6.size
  have h13 : Ch [] w w3 := h12.trans hc3 (by grind)
  have h14 : Ch [] w w4 := h13.trans hc4 (by simp)
  have h15 : Ch [] w w5 := h14.trans hc5 (by grind)
  have h16 : Ch [] w w6 := h15.trans hc6 (by grind)
  exact h16.trans hc7 (by grind)
end
end Go.Proofs.YthpbiliajcameaaDoor
