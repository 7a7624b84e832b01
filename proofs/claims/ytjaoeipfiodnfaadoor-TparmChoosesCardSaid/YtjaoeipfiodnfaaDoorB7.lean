import Derived.Test.YtjaoeipfiodnfaaDoorB6
import Derived.Test.YtjaoeipfiodnfaaDoorFb
import Derived.Laws.Bits64b
set_option linter.unusedVariables false
set_option maxRecDepth 4000
namespace Go.Proofs.YtjaoeipfiodnfaaDoor
open Go Go.Fw Go.Proofs Go.RowKit
/-! ### Arrays -/
def arT (P : Program) (t : TypeId) : Option (Nat × TypeId × Nat) :=
  match P.underlying t with
  | some (.array n e) => (P.info? e).map fun i => (n, e, i.size)
  | _ => none
theorem arT_spec {P : Program} {t n e sz : Nat} (h : arT P t = some (n, e, sz)) : P.underlying t = some (.array n e) ∧ ∃ i, P.info? e = some i ∧ i.size = sz := by
  unfold arT at h
  split at h
  · rename_i n' e' hu
    cases hi : P.info? e' with
    | none => simp [hi] at h
    | some i =>
      simp only [hi, Option.map_some, Option.some.injEq, Prod.mk.injEq] at h
      obtain ⟨rfl, rfl, rfl⟩ := h
      exact ⟨hu, i, hi, rfl⟩
  · cases h
section
variable {P : Program} {w : World} {K : Value → World → Prop}
theorem run_iaa {t n e sz : Nat} (h : arT P t = some (n, e, sz)) {g off : Nat} (k : IntKind) (i : Int) (h0 : 0 ≤ i) (h1 : i < n) :
    (Instr.indexAt t (.pointer (some ⟨g, off, none⟩)) (.int k i)).run P w = .ok (.pointer (some ⟨g, off + i.toNat * sz, none⟩)) w := by
  obtain ⟨hu, j, hj, hs⟩ := arT_spec h
  unfold Instr.indexAt
  simp [asIntOf, run_underlying hu, Instr.sureAddr, h0, h1, sizeOf, typeInfo, hj, hs, add_mk, go_sem]
theorem iaa_v {t n e sz : Nat} (h : arT P t = some (n, e, sz)) {g off : Nat} {k : IntKind} {i : Int} (j : Nat) (hi : i = j) (h1 : j < n) :
    S.v P (Instr.indexAt t (.pointer (some ⟨g, off, none⟩)) (.int k i)) K w = K (.pointer (some ⟨g, off + j * sz, none⟩)) w := v_eq (by
  subst hi
  have := run_iaa (w := w) h (g := g) (off := off) k (j : Int) (by omega) (by omega)
  rwa [Int.toNat_natCast] at this)
theorem run_cuta {t n e sz : Nat} (h : arT P t = some (n, e, sz)) {g off : Nat} (k : IntKind) (l : Nat) (h1 : l < n) :
    (Instr.sliceAt t (.pointer (some ⟨g, off, none⟩)) (some (.int k (l : Int))) none none).run P w = .ok (.slice (some ⟨g, off + l * sz, none⟩) (n - l) (n - l)) w := by
  obtain ⟨hu, j, hj, hs⟩ := arT_spec h
  have hb : (Instr.sliceBound (.int k (l : Int)) n .sliceB).run P w = .ok l w := by
    unfold Instr.sliceBound
    have : (l : Int) ≤ (n : Int) := by omega
    simp [asIntOf, this, go_sem]
  have hne : ¬ (n = l) := by omega
  unfold Instr.sliceAt Instr.sliceBounds
  simp [run_underlying hu, Instr.sureAddr, sizeOf, typeInfo, hj, hs, hb, hne, add_mk, go_sem]
theorem cuta_v {t n e sz : Nat} (h : arT P t = some (n, e, sz)) {g off : Nat} {k : IntKind} (l : Nat) (h1 : l < n) :
    S.v P (Instr.sliceAt t (.pointer (some ⟨g, off, none⟩)) (some (.int k (l : Int))) none none) K w = K (.slice (some ⟨g, off + l * sz, none⟩) (n - l) (n - l)) w := v_eq (run_cuta h k l h1)
end
/-! ### Digits to base 8 or 16 -/
def digitsT : List UInt8 := [48, 49, 50, 51, 52, 53, 54, 55, 56, 57, 97, 98, 99, 100, 101, 102, 103, 104, 105, 106, 107, 108, 109, 110, 111, 112, 113, 114, 115, 116, 117, 118, 119, 120, 121, 122]
def dch (n : Nat) : UInt8 := digitsT.getD n 0
def dg (b : Nat) : Nat → Nat → List UInt8 → List UInt8
  | 0, u, acc => acc
  | f + 1, u, acc => if b ≤ u then dg b f (u / b) (dch (u % b) :: acc) else dch u :: acc
def digB (b u : Nat) : List UInt8 := dg b 22 u []
theorem ar138 : arT Tryd.prog 138 = some (65, 5, 1) := by kernel_rfl
theorem ar159 : arT Tryd.prog 159 = some (64, 5, 1) := by kernel_rfl
theorem z138 : zeroT Tryd.prog 138 = some (.agg (Array.replicate 65 (.int .u8 0))) := by kernel_rfl
theorem by71 : ByT Tryd.prog 71 5 := ⟨Tryd.underlying71, Tryd.underlying5⟩
theorem cvI {s d : TypeId} {k k' : IntKind} {n m : Int} (w : World) (h1 : (Tryd.prog.underlying s).isSome = true) (h2 : Tryd.prog.underlying d = some (.int (Tryd.prog.intKind d))) (h3 : Tryd.prog.intKind d = k') (h4 : k'.wrap n = m) : (Go.convert s d (.int k n)).run Tryd.prog w = .ok (.int k' m) w := by
  rw [run_convert_int w s d k n h1 h2, h3, h4]
theorem wrap_u64 {n : Int} (h1 : 0 ≤ n) (h2 : n < 18446744073709551616) : IntKind.u64.wrap n = n := by
  simp [IntKind.wrap, IntKind.signed, IntKind.bits]
  omega
section
variable {w : World} {K : Value → World → Prop}
theorem andN_v {t : TypeId} {x y : Operand} {a b : Nat} (ha : a < 18446744073709551616) (hb : b < 18446744073709551616) : S.v Tryd.prog (S.bin .and t x y (.int .u64 a) (.int .u64 b)) K w = K (.int .u64 ((a &&& b : Nat) : Int)) w := v_eq (by
  unfold S.bin
  rw [Sem.run_bind, eqGuard_int]
  show (Op.intBits .and .u64 a b).run Tryd.prog w = _
  rw [intBits_and, bits_and_u64_nat a b ha hb]
  rfl)
theorem shrN_v {t : TypeId} {x y : Operand} {a s : Nat} (hs : s ≤ 64) : S.v Tryd.prog (S.bin .shr t x y (.int .u64 a) (.int .u64 s)) K w = K (.int .u64 ((a / 2 ^ s : Nat) : Int)) w := v_eq (by
  unfold S.bin
  rw [Sem.run_bind, eqGuard_int]
  show (Op.shift .shr .u64 a .u64 s).run Tryd.prog w = _
  rw [shift_shr _ _ _ _ (by omega) (by simp [IntKind.bits]; omega)]
  simp)
theorem pow2_8 (k : K (.bool true) w) : S.call Tryd.prog 83 [I64 8] K w := by
  refine F83_link ?_
  unfold F83
  rw [sub_v, v_eq (show (S.bin .and 3 (.tmp 3) (.tmp 5) (I64 8) (.int .i64 (IntKind.i64.wrap (8 - 1)))).run Tryd.prog w = .ok (I64 0) w from by kernel_rfl), eq_v]
  exact k
theorem pow2_16 (k : K (.bool true) w) : S.call Tryd.prog 83 [I64 16] K w := by
  refine F83_link ?_
  unfold F83
  rw [sub_v, v_eq (show (S.bin .and 3 (.tmp 3) (.tmp 5) (I64 16) (.int .i64 (IntKind.i64.wrap (16 - 1)))).run Tryd.prog w = .ok (I64 0) w from by kernel_rfl), eq_v]
  exact k
theorem ctz8 (h : Gnd w) (k : K (I64 (3 : Nat)) w) : S.call Tryd.prog 84 [.int .u64 (8 : Nat)] K w := by
  refine F84_link ?_
  unfold F84
  refine F99_link ?_
  unfold F99
  have hc : w.cell? ⟨5, 0 + 7 * 1, none⟩ = some (.int .u8 (3 : Nat)) := by
    have := h.2.2.cell g5 7 (by decide)
    rw [this]; rfl
  rw [eq_v, show decide (((8 : Nat) : Int) = 0) = false from rfl, br_false, v_eq (show (Op.unary .neg (.int .u64 (8 : Nat))).run Tryd.prog w = .ok (.int .u64 ((18446744073709551608 : Nat) : Int)) w from by kernel_rfl)]
  rw [andN_v (by decide) (by decide), mul_v, show IntKind.u64.wrap (((8 &&& 18446744073709551608 : Nat) : Int) * 285870213051353865) = ((8 * 285870213051353865 : Nat) : Int) from by decide +kernel,
    show (Value.int .u64 58) = .int .u64 ((58 : Nat) : Int) from rfl, shrN_v (by decide), iaa_v ar159 7 (by decide +kernel) (by decide), ld_v sc5 hc, v_eq (cv53 _ _ (by decide))]
  exact k
theorem ctz16 (h : Gnd w) (k : K (I64 (4 : Nat)) w) : S.call Tryd.prog 84 [.int .u64 (16 : Nat)] K w := by
  refine F84_link ?_
  unfold F84
  refine F99_link ?_
  unfold F99
  have hc : w.cell? ⟨5, 0 + 15 * 1, none⟩ = some (.int .u8 (4 : Nat)) := by
    have := h.2.2.cell g5 15 (by decide)
    rw [this]; rfl
  rw [eq_v, show decide (((16 : Nat) : Int) = 0) = false from rfl, br_false, v_eq (show (Op.unary .neg (.int .u64 (16 : Nat))).run Tryd.prog w = .ok (.int .u64 ((18446744073709551600 : Nat) : Int)) w from by kernel_rfl)]
  rw [andN_v (by decide) (by decide), mul_v, show IntKind.u64.wrap (((16 &&& 18446744073709551600 : Nat) : Int) * 285870213051353865) = ((16 * 285870213051353865 : Nat) : Int) from by decide +kernel,
    show (Value.int .u64 58) = .int .u64 ((58 : Nat) : Int) from rfl, shrN_v (by decide), iaa_v ar159 15 (by decide +kernel) (by decide), ld_v sc5 hc, v_eq (cv53 _ _ (by decide))]
  exact k
theorem dgs_at : ∀ n, n < 36 → digitsT[n]? = some (dch n) := by decide +kernel
theorem dgx_v {n : Nat} (h : n < 36) : S.v Tryd.prog (Instr.index 9 (.string { data := #[48, 49, 50, 51, 52, 53, 54, 55, 56, 57, 97, 98, 99, 100, 101, 102, 103, 104, 105, 106, 107, 108, 109, 110, 111, 112, 113, 114, 115, 116, 117, 118, 119, 120, 121, 122] }) (.int .u64 (n : Nat))) K w = K (byteV (dch n)) w := by
  refine ixs_v (P := Tryd.prog) (w := w) (s := ⟨digitsT.toArray⟩) (k := .u64) (i := (n : Int)) (b := dch n) (K := K) Tryd.underlying9 (by omega) ?_
  rw [Int.toNat_natCast]
  have hz : n < (⟨digitsT.toArray⟩ : ByteArray).size := h
  have h2 := dgs_at n h
  show (if h : n < (⟨digitsT.toArray⟩ : ByteArray).size then some ((⟨digitsT.toArray⟩ : ByteArray)[n]) else none) = some (dch n)
  rw [dif_pos hz]
  have := (List.getElem?_eq_some_iff.1 h2).2
  show some (digitsT.toArray[n]) = some (dch n)
  rw [← this]
  simp
set_option maxHeartbeats 1000000
theorem fmtBits_ {b s u : Nat} (hb1 : 8 ≤ b) (hb2 : b ≤ 16) (hb3 : b ≠ 10) (hbs : b = 2 ^ s) (hs : s ≤ 64) (hu : u < 18446744073709551616)
    (hp : ∀ {w : World} {K : Value → World → Prop}, K (.bool true) w → S.call Tryd.prog 83 [I64 b] K w)
    (hc : ∀ {w : World} {K : Value → World → Prop}, Gnd w → K (I64 s) w → S.call Tryd.prog 84 [.int .u64 b] K w)
    (hg : Gnd w) (k : ∀ w', Ch [] w w' → K (.tuple #[.slice none 0 0, strV (digB b u)]) w') : S.call Tryd.prog 62 [.slice none 0 0, .int .u64 u, I64 b, .bool false, .bool false] K w := by
  refine F62_link ?_
  unfold F62
  refine seq_ok fun J hJ => ?_
  rw [lt_v, decide_eq_false (by omega), br_false, eq_v, decide_eq_false (by omega), br_false, gt_v, decide_eq_false (by omega), br_false]
  refine hJ _ _ ?_
  clear hJ
  refine al z138 fun w1 hb1' hc1 hs1 => ?_
  have hg1 := hg.ch hc1 (by simp)
  generalize hgb : w.heap.size = g at *
  refine seq_ok fun J1 hJ1 => ?_
  rw [br_false]
  refine hJ1 _ _ ?_
  clear hJ1
  refine seq_ok fun J2 hJ2 => ?_
  refine hp ?_
  rw [br_true, v_eq (cvI (m := b) w1 (by kernel_rfl) (by kernel_rfl) (by kernel_rfl) (wrap_u64 (by omega) (by omega)))]
  refine hc hg1 ?_
  rw [v_eq (cvI (m := s) w1 (by kernel_rfl) (by kernel_rfl) (by kernel_rfl) (wrap_u64 (by omega) (by omega))), v_eq (cvI (m := b) w1 (by kernel_rfl) (by kernel_rfl) (by kernel_rfl) (wrap_u64 (by omega) (by omega))),
    v_eq (cvI (m := b) w1 (by kernel_rfl) (by kernel_rfl) (by kernel_rfl) (wrap_u64 (by omega) (by omega))), sub_v, wrap_u64 (by omega) (by omega), show (b : Int) - 1 = ((b - 1 : Nat) : Int) from by omega]
  rw [nth_zero]
  intro I hC
  have key : ∀ (f u' : Nat) (acc : List UInt8) (x46 : Value) (cs : Array Value) (w' : World), u' < 18446744073709551616 → u' < 8 ^ (f + 1) → acc.length + f = 21 → w'.heap[g]? = some (.cells cs 138 (0, 0)) → cs.size = 65 → cs.toList.drop (44 + f) = bytesV acc → Ch [g] w1 w' → digB b u = dg b (f + 1) u' acc →
      I [.int .u64 u', I64 ((44 + f : Nat) : Int), x46] w' := by
    intro f
    induction f with
    | zero =>
      intro u' acc x46 cs w' hu' hu8 hl hh hz hd hch he
      refine hC _ _ _ _ ?_
      rw [ge_v, decide_eq_false (by omega), br_false, sub_v, wrap_i64 (by omega) (by omega), dgx_v (by omega), show ((44 + 0 : Nat) : Int) - 1 = ((43 : Nat) : Int) from by omega, iaa_v ar138 43 rfl (by omega)]
      refine st sc5 hh (by omega) rfl fun w2 hb2 hc2 hs2 => ?_
      rw [dg, if_neg (by omega)] at he
      have hc02 : Ch [] w w2 := (hc1.trans (hch.trans hc2 (fun x hx => .inl hx)) (by simp; omega))
      refine hJ2 _ _ ?_
      refine seq_ok fun J3 hJ3 => ?_
      rw [br_false]
      refine hJ3 _ _ ?_
      rw [br_false, nth_zero, nth_succ, nth_zero, cuta_v ar138 43 (by omega)]
      have hdd : (cs.setIfInBounds (0 + 43 * 1) (byteV (dch u'))).toList.drop 43 = bytesV (digB b u) := by
        rw [he, Array.toList_setIfInBounds, show 0 + 43 * 1 = 43 from rfl, List.drop_set, if_neg (by omega), show 43 - 43 = 0 from rfl]
        have : cs.toList.drop 43 = cs.toList[43]'(by simp; omega) :: cs.toList.drop 44 := by rw [← List.getElem_cons_drop]
        rw [this, List.set_cons_zero]
        show _ = byteV (dch u') :: bytesV acc
        rw [hd]
      have hrd : Rd w2 w2.heap.size 1 (.slice (some ⟨g, 0 + 43 * 1, none⟩) (65 - 43) (65 - 43)) (digB b u).length (bytesV (digB b u)) := by
        have hlen : (digB b u).length = 22 := by rw [he]; simp; omega
        rw [hlen]
        refine ⟨by rw [length_bytesV, hlen], _, _, rfl, Nat.le_refl _, by simp [maxLen], fun _ => ⟨g, 43, rfl, lt_of_heap hb2⟩, fun b' off hA j x hx => ?_⟩
        simp only [Option.some.injEq, Addr.mk.injEq] at hA
        obtain ⟨rfl, rfl, _⟩ := hA
        rw [cell_heap hb2, ← hx, ← hdd, List.getElem?_drop, Array.getElem?_toList]
      rw [cvbs_v by71 Tryd.underlying9 hrd]
      exact k w2 hc02
    | succ f ih =>
      intro u' acc x46 cs w' hu' hu8 hl hh hz hd hch he
      refine hC _ _ _ _ ?_
      rw [ge_v]
      refine br_dec _ _ _ (fun hge => ?_) (fun hge => ?_)
      · have hlt : u' / b < 8 ^ (f + 1) := by
          rw [Nat.div_lt_iff_lt_mul (by omega)]
          have : 8 ^ (f + 1 + 1) = 8 ^ (f + 1) * 8 := Nat.pow_succ ..
          have : 8 ^ (f + 1) * 8 ≤ 8 ^ (f + 1) * b := Nat.mul_le_mul_left _ hb1
          omega
        have hdv : u' / b ≤ u' := Nat.div_le_self ..
        have hmod := Nat.mod_lt u' (show 0 < b by omega)
        rw [sub_v, wrap_i64 (by omega) (by omega), show ((44 + (f + 1) : Nat) : Int) - 1 = ((44 + f : Nat) : Int) from by omega, andN_v hu' (by omega),
          show u' &&& (b - 1) = u' % b from by rw [hbs, Nat.and_two_pow_sub_one_eq_mod], dgx_v (by omega), iaa_v ar138 (44 + f) rfl (by omega)]
        refine st sc5 hh (by omega) rfl fun w2 hb2 hc2 hs2 => ?_
        rw [shrN_v hs, ← hbs]
        rw [dg, if_pos (by omega)] at he
        refine ih (u' / b) (dch (u' % b) :: acc) _ _ w2 (by omega) hlt (by simp; omega) hb2 (by simp; omega) ?_ (hch.trans hc2 (fun x hx => .inl hx)) he
        rw [Array.toList_setIfInBounds, show 0 + (44 + f) * 1 = 44 + f from by omega, List.drop_set, if_neg (by omega), Nat.sub_self]
        have : cs.toList.drop (44 + f) = cs.toList[44 + f]'(by simp; omega) :: cs.toList.drop (44 + f + 1) := by rw [← List.getElem_cons_drop]
        rw [this, List.set_cons_zero]
        show _ = byteV (dch (u' % b)) :: bytesV acc
        rw [← hd]
        rfl
      · rw [sub_v, wrap_i64 (by omega) (by omega), show ((44 + (f + 1) : Nat) : Int) - 1 = ((44 + f : Nat) : Int) from by omega, dgx_v (by omega), iaa_v ar138 (44 + f) rfl (by omega)]
        refine st sc5 hh (by omega) rfl fun w2 hb2 hc2 hs2 => ?_
        rw [dg, if_neg (by omega)] at he
        have hc02 : Ch [] w w2 := (hc1.trans (hch.trans hc2 (fun x hx => .inl hx)) (by simp; omega))
        refine hJ2 _ _ ?_
        refine seq_ok fun J3 hJ3 => ?_
        rw [br_false]
        refine hJ3 _ _ ?_
        rw [br_false, nth_zero, nth_succ, nth_zero, cuta_v ar138 (44 + f) (by omega)]
        have hdd : (cs.setIfInBounds (0 + (44 + f) * 1) (byteV (dch u'))).toList.drop (44 + f) = bytesV (digB b u) := by
          rw [he, Array.toList_setIfInBounds, show 0 + (44 + f) * 1 = 44 + f from by omega, List.drop_set, if_neg (by omega), Nat.sub_self]
          have : cs.toList.drop (44 + f) = cs.toList[44 + f]'(by simp; omega) :: cs.toList.drop (44 + f + 1) := by rw [← List.getElem_cons_drop]
          rw [this, List.set_cons_zero]
          show _ = byteV (dch u') :: bytesV acc
          rw [← hd]
          rfl
        have hrd : Rd w2 w2.heap.size 1 (.slice (some ⟨g, 0 + (44 + f) * 1, none⟩) (65 - (44 + f)) (65 - (44 + f))) (digB b u).length (bytesV (digB b u)) := by
          have hlen : (digB b u).length = 65 - (44 + f) := by rw [he]; simp; omega
          rw [hlen]
          refine ⟨by rw [length_bytesV, hlen]; omega, _, _, rfl, Nat.le_refl _, by simp only [maxLen]; omega, fun _ => ⟨g, _, rfl, lt_of_heap hb2⟩, fun b' off hA j x hx => ?_⟩
          simp only [Option.some.injEq, Addr.mk.injEq] at hA
          obtain ⟨rfl, rfl, _⟩ := hA
          rw [cell_heap hb2, ← hx, ← hdd, List.getElem?_drop, Array.getElem?_toList]
          congr 1
          omega
        rw [cvbs_v by71 Tryd.underlying9 hrd]
        exact k w2 hc02
  refine key 21 u [] undef _ w1 hu ?_ rfl hb1' (by simp [Value.cells]) ?_ (Ch.refl _ _) rfl
  · exact Nat.lt_trans hu (by decide)
  · rw [List.drop_of_length_le (by simp [Value.cells])]
    rfl
theorem fmtUint_ {b u : Nat} (hb : b = 8 ∨ b = 16) (hu : u < 18446744073709551616) (hg : Gnd w) (k : ∀ w', Ch [] w w' → K (strV (digB b u)) w') : S.call Tryd.prog 15 [.int .u64 u, I64 b] K w := by
  refine F15_link ?_
  unfold F15
  refine F35_link ?_
  unfold F35
  rw [eq_v, decide_eq_false (by omega), br_false]
  rcases hb with rfl | rfl
  · refine fmtBits_ (s := 3) (by omega) (by omega) (by omega) rfl (by omega) hu pow2_8 ctz8 hg fun w' hc => ?_
    rw [x20, x21]
    exact k w' hc
  · refine fmtBits_ (s := 4) (by omega) (by omega) (by omega) rfl (by omega) hu pow2_16 ctz16 hg fun w' hc => ?_
    rw [x20, x21]
    exact k w' hc
end
end Go.Proofs.YtjaoeipfiodnfaaDoor
