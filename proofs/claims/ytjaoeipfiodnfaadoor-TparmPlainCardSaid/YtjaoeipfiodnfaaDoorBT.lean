import Derived.Test.YtjaoeipfiodnfaaDoorBL
import Derived.Test.YtjaoeipfiodnfaaDoorFr
import Derived.Lib.SplitLaws
set_option linter.unusedVariables false
set_option maxRecDepth 4000
namespace Go.Proofs.YtjaoeipfiodnfaaDoor
open Go Go.Fw Go.Proofs Go.RowKit
/-! ### strings.ReplaceAll of one byte by nothing, at texts of any length -/
theorem z86 : zeroT Tryd.prog 86 = some (.agg #[.pointer none, .slice none 0 0]) := by kernel_rfl
theorem noPc_eq (x : List UInt8) : noPc x = Lib.replaceK [37] [] (Lib.count x [37]) x := by
  unfold noPc Lib.replaceAll Lib.replace
  rw [if_neg (by decide)]
  congr 1
theorem ch_belowB {w w1 w2 : World} (h : Ch [] w w1) (hb : Below w.heap.size w1 w2) : Ch [] w w2 :=
  ⟨hb.os.trans h.os, hb.tape.trans h.tape, hb.output.trans h.output, Nat.le_trans h.size hb.size, fun i hi hn => (hb.block i hi).trans (h.block i hi hn)⟩
section
variable {w : World} {K : Value → World → Prop}
theorem cutl_v {s : List UInt8} {n : Nat} (h1 : n ≤ s.length) : S.v Tryd.prog (Instr.sliceAt 9 (strV s) (some (I64 n)) none none) K w = K (strV (s.drop n)) w := v_eq (by
  unfold strV
  rw [run_sliceAt_string _ _ _ _ _ _ Tryd.underlying9, run_slice_string_l w 9 ⟨s.toArray⟩ Tryd.underlying9 .i64 n (by omega) (by rw [size_str]; omega)]
  congr 2
  rw [Int.toNat_natCast]
  apply ByteArray.ext
  apply Array.ext'
  simp
  exact List.take_of_length_le (by rw [List.length_drop, size_str]; omega))
theorem sub_str_v {x : List UInt8} {i j : Nat} (hij : i ≤ j) (hj : j ≤ x.length) : S.v Tryd.prog (Instr.sliceAt 9 (strV x) (some (I64 i)) (some (I64 j)) none) K w = K (strV ((x.drop i).take (j - i))) w := v_eq (by
  unfold strV
  rw [run_sliceAt_string _ _ _ _ _ _ Tryd.underlying9, run_slice_string w 9 ⟨x.toArray⟩ .i64 .i64 (i : Int) (j : Int) Tryd.underlying9 (by omega) (by omega) (by rw [size_str]; omega)]
  congr 2
  rw [Int.toNat_natCast, Int.toNat_natCast]
  apply ByteArray.ext
  apply Array.ext'
  simp [List.drop_take])
theorem count1_ {s : List UInt8} (k : K (I64 (Lib.count s [37])) w) : S.call Tryd.prog 48 [strV s, strV [37]] K w := by
  refine Calls.mono (Tryd.strings_Count_one ⟨s.toArray⟩ 37 w) ?_
  rintro e w' ⟨rfl, rfl⟩
  rw [Lib.count_one] at k
  exact k
theorem index1_ {s : List UInt8} (k : K (I64 (Lib.index s [37])) w) : S.call Tryd.prog 49 [strV s, strV [37]] K w := by
  refine Calls.mono (Tryd.strings_Index_one ⟨s.toArray⟩ 37 w) ?_
  rintro e w' ⟨rfl, rfl⟩
  rw [Lib.index_one] at k
  exact k
theorem bgrow_ {B b n : Nat} (hB : B ≤ b) (hbk : w.heap[b]? = some (.cells #[.pointer none, .slice none 0 0] 86 (0, 0))) (hBw : B ≤ w.heap.size) (hn : n ≤ 281474976710656) (k : ∀ w', Lib.IsBuilder 86 5 B b (Lib.byteCells []) w' → Below B w w' → K (.tuple #[]) w') : S.call Tryd.prog 38 [PT b, I64 n] K w := by
  refine Calls.mono (Tryd.Builder_Grow_fresh B b n w hB hbk hBw hn) ?_
  rintro e w' ⟨rfl, h1, h2⟩
  exact k w' (.inr h1) h2
theorem bwrite_ {B b : Nat} {bs t : List UInt8} (h : Lib.IsBuilder 86 5 B b (Lib.byteCells bs) w) (hl : bs.length + t.length ≤ 140737488355328) (hBw : B ≤ w.heap.size) (k : ∀ v w', Lib.IsBuilder 86 5 B b (Lib.byteCells (bs ++ t)) w' → Below B w w' → K v w') : S.call Tryd.prog 39 [PT b, strV t] K w := by
  refine Calls.mono (Any.Builder_WriteString (ρ := Tryd.lays154_ren) { Tryd.lays154 with } Tryd.Builder_Extra_154 B b (Lib.byteCells bs) ⟨t.toArray⟩ w h (by rw [Lib.byteCells_length, size_str]; exact hl) hBw) ?_
  rintro e w' ⟨rfl, h1, h2⟩
  rw [Lib.strCells_eq, ← Lib.byteCells_append] at h1
  exact k _ w' (.inr h1) h2
theorem bstring_ {B b : Nat} {bs : List UInt8} (h : Lib.IsBuilder 86 5 B b (Lib.byteCells bs) w) (hBw : B ≤ w.heap.size) (k : ∀ w', Below B w w' → K (strV bs) w') : S.call Tryd.prog 41 [PT b] K w := by
  refine Calls.mono (Tryd.Builder_String_any B b bs w h hBw) ?_
  rintro e w' ⟨rfl, h1⟩
  exact k w' h1
theorem replace1_ {x : List UInt8} (hl : x.length ≤ 140737488355328) (k : ∀ w', Ch [] w w' → K (strV (noPc x)) w') : S.call Tryd.prog 27 [strV x, strV [37], strV [], I64 (-1)] K w := by
  refine F27_link ?_
  unfold F27
  rw [noPc_eq] at k
  rw [eqs_v, decide_eq_false (by decide), br_false, eq_v, decide_eq_false (by omega), br_false]
  refine seq_ok fun J hJ => ?_
  refine count1_ ?_
  have hcl : Lib.count x [37] ≤ x.length := by rw [Lib.count_one]; exact List.count_le_length
  generalize hcnt : Lib.count x [37] = cnt at *
  rw [eq_v]
  refine br_dec _ _ _ (fun h0 => ?_) (fun h0 => ?_)
  · have : cnt = 0 := by omega
    subst this
    exact k w (Ch.refl _ _)
  rw [lt_v, decide_eq_true (by omega), br_true]
  refine hJ _ _ ?_
  clear hJ
  simp only [nth_zero]
  refine al z86 fun w1 hb1 hc1 hs1 => ?_
  have hb1' : w1.heap[w.heap.size]? = some (.cells #[.pointer none, .slice none 0 0] 86 (0, 0)) := hb1
  have hchB : ∀ w2, Below w.heap.size w1 w2 → Ch [] w w2 := fun w2 h => ch_belowB hc1 h
  generalize hgb : w.heap.size = b at *
  rw [lenS_v', lenS_v', lenS_v']
  simp only [List.length_nil, List.length_singleton]
  rw [sub_v, wrap_i64 (by omega) (by omega), mul_v, wrap_i64 (by omega) (by omega), add_v, wrap_i64 (by omega) (by omega), show (x.length : Int) + (cnt : Int) * (((0 : Nat) : Int) - ((1 : Nat) : Int)) = ((x.length - cnt : Nat) : Int) from by omega]
  refine bgrow_ (Nat.le_refl _) hb1' (by omega) (by omega) fun w2 hB2 hbl2 => ?_
  refine seq_ok fun J hJ => ?_
  rw [lenS_v', gt_v, decide_eq_true (by simp), br_true]
  intro I hC
  have key : ∀ (g start i : Nat) (acc : List UInt8) (x12 x54 : Value) (w3 : World), i + g = cnt → start ≤ x.length → Lib.count (x.drop start) [37] = g → acc ++ Lib.replaceK [37] [] g (x.drop start) = Lib.replaceK [37] [] cnt x → acc.length ≤ start → Lib.IsBuilder 86 5 b b (Lib.byteCells acc) w3 → Below b w1 w3 → I [I64 start, x12, I64 i, x54] w3 := by
    intro g
    induction g with
    | zero =>
      intro start i acc x12 x54 w3 hi hst hct hac hal hB hbl
      have hsz : b ≤ w3.heap.size := by have := hbl.size; omega
      refine hC _ _ _ _ _ ?_
      rw [lt_v, decide_eq_false (by omega), br_false]
      refine hJ _ _ ?_
      rw [nth_zero, cutl_v hst]
      refine bwrite_ hB (by rw [List.length_drop]; omega) hsz fun v w4 hB4 hbl4 => ?_
      refine bstring_ hB4 (by have := hbl4.size; omega) fun w5 hbl5 => ?_
      simp only [Lib.replaceK] at hac
      rw [hac]
      exact k w5 (hchB w5 ((hbl.trans hbl4).trans hbl5))
    | succ g ih =>
      intro start i acc x12 x54 w3 hi hst hct hac hal hB hbl
      have hsz : b ≤ w3.heap.size := by have := hbl.size; omega
      refine hC _ _ _ _ _ ?_
      rw [lt_v, decide_eq_true (by omega), br_true, cutl_v hst]
      obtain ⟨j, hj⟩ := Lib.index_of_count (s := x.drop start) (old := [37]) (by omega)
      have hroom := Lib.index_room (x.drop start) [37] (by rw [hj]; omega)
      rw [hj, List.length_drop, List.length_singleton] at hroom
      refine index1_ ?_
      rw [hj, add_v, wrap_i64 (by omega) (by omega), show (start : Int) + (j : Int) = ((start + j : Nat) : Int) from by omega, sub_str_v (by omega) (by omega), show start + j - start = j from by omega]
      have htl : ((x.drop start).take j).length = j := by rw [List.length_take, List.length_drop]; omega
      refine bwrite_ hB (by omega) hsz fun v w4 hB4 hbl4 => ?_
      refine bwrite_ hB4 (by rw [List.length_append, List.length_nil]; omega) (by have := hbl4.size; omega) fun v w5 hB5 hbl5 => ?_
      rw [lenS_v', add_v]
      simp only [List.length_singleton]
      rw [wrap_i64 (by omega) (by omega), add_v, wrap_i64 (by omega) (by omega), show ((start + j : Nat) : Int) + ((1 : Nat) : Int) = ((start + j + 1 : Nat) : Int) from by omega, show (i : Int) + 1 = ((i + 1 : Nat) : Int) from by omega]
      have hct' := Lib.count_hit (s := x.drop start) (sub := [37]) (by simp) hj
      rw [List.drop_drop, List.length_singleton, show start + (j + 1) = start + j + 1 from by omega] at hct'
      rw [Lib.replaceK_hit _ _ g _ j hj, List.drop_drop, List.length_singleton, show start + (j + 1) = start + j + 1 from by omega] at hac
      refine ih (start + j + 1) (i + 1) (acc ++ (x.drop start).take j ++ []) _ _ w5 (by omega) (by omega) (by omega) ?_ ?_ hB5 ((hbl.trans hbl4).trans hbl5)
      · rw [← hac]
        simp only [List.append_assoc]
      · simp only [List.append_nil, List.length_append]
        omega
  exact key cnt 0 0 [] _ _ w2 (by omega) (by omega) (by rw [List.drop_zero]; exact hcnt) (by simp) (by simp) hB2 hbl2
theorem noPcF_ {x : List UInt8} (hl : x.length ≤ 140737488355328) (k : ∀ w', Ch [] w w' → K (strV (noPc x)) w') : S.call Tryd.prog 10 [strV x, .string { data := #[37] }, .string { data := #[] }] K w := by
  refine F10_link ?_
  unfold F10
  exact replace1_ hl k
end
end Go.Proofs.YtjaoeipfiodnfaaDoor
