import Derived.Test.YthpbiliajcameaaDoorG3
import Derived.Lib.SlBytesConst
set_option linter.unusedVariables false
set_option maxRecDepth 4000
namespace Go.Proofs.YthpbiliajcameaaDoor
open Go Go.Fw Go.Proofs Go.RowKit
/-! ### The program's paste -/
def endT : List UInt8 := [27, 91, 50, 48, 49, 126]
structure PAt (w : World) (b : Nat) (bs : List UInt8) (done : Bool) (L : List Nat) : Prop where
  ex : ∃ v Lb, w.heap[b]? = some (.cells #[v, .bool done, .bool true] 54 (0, 0)) ∧ BS w v bs Lb ∧ L = b :: Lb
  nodup : L.Nodup
theorem PAt.ch {w w' : World} {b : Nat} {bs : List UInt8} {done : Bool} {L M : List Nat} (h : PAt w b bs done L) (hc : Ch M w w') (hd : ∀ x, x ∈ L → x ∉ M) : PAt w' b bs done L := by
  obtain ⟨v, Lb, h1, h2, h5⟩ := h.ex
  subst h5
  exact ⟨⟨v, Lb, hc.at_ h1 (hd b (by simp)), Own.ch h2 hc (fun x hx => hd x (by simp [hx])), rfl⟩, h.nodup⟩
theorem PAt.lt {w : World} {b : Nat} {bs : List UInt8} {done : Bool} {L : List Nat} (h : PAt w b bs done L) : ∀ x, x ∈ L → x < w.heap.size := by
  obtain ⟨v, Lb, h1, h2, h5⟩ := h.ex
  subst h5
  intro x hx
  simp only [List.mem_cons] at hx
  rcases hx with rfl | hx
  · exact lt_of_heap h1
  · exact Own.lt h2 x hx
def putF (bs : List UInt8) (done : Bool) (c : UInt8) : Bool × Int × List UInt8 × Bool :=
  if done = true then (false, 6, bs, true)
  else if Lib.hasSuffix (bs ++ [c]) endT = true then (true, 0, (bs ++ [c]).take ((bs ++ [c]).length - 6), true)
  else if 16384 < (bs ++ [c]).length then (true, 3, (bs ++ [c]).take 16384, true)
  else (false, 0, bs ++ [c], false)
theorem suffix_len {x t : List UInt8} (h : Lib.hasSuffix x t = true) : t.length ≤ x.length := by
  unfold Lib.hasSuffix at h
  exact (List.isSuffixOf_iff_suffix.1 h).length_le
theorem putF_len (bs : List UInt8) (done : Bool) (c : UInt8) (h : bs.length ≤ 16384) : (putF bs done c).2.2.1.length ≤ 16384 := by
  unfold putF
  split
  · exact h
  · split
    · simp only [List.length_take, List.length_append, List.length_singleton]; omega
    · split
      · simp only [List.length_take]; omega
      · show (bs ++ [c]).length ≤ 16384
        omega
theorem bs6 (w : World) : (Instr.buildSlice 22 6 #[(0, .int .u8 27), (1, .int .u8 91), (2, .int .u8 50), (3, .int .u8 48), (4, .int .u8 49), (5, .int .u8 126)]).run Tryd.prog w = .ok (.slice (some ⟨w.heap.size, 0, none⟩) 6 6) (w.alloc (.cells #[.int .u8 27, .int .u8 91, .int .u8 50, .int .u8 48, .int .u8 49, .int .u8 126] 5)) := by kernel_rfl
theorem bs2cr (w : World) : (Instr.buildSlice 22 2 #[(0, .int .u8 13), (1, .int .u8 10)]).run Tryd.prog w = .ok (.slice (some ⟨w.heap.size, 0, none⟩) 2 2) (w.alloc (.cells #[.int .u8 13, .int .u8 10] 5)) := by kernel_rfl
theorem bs1b (w : World) (z : Int) : (Instr.buildSlice 22 1 #[(0, .int .u8 z)]).run Tryd.prog w = .ok (.slice (some ⟨w.heap.size, 0, none⟩) 1 1) (w.alloc (.cells #[.int .u8 z] 5)) := by kernel_rfl
/-- The bytes of a constant string. -/
theorem lit_ {n : Nat} {parts : Array (Nat × Value)} {bs : List UInt8} {K : Value → World → Prop} {w : World} (h : (Instr.buildSlice 22 n parts).run Tryd.prog w = .ok (.slice (some ⟨w.heap.size, 0, none⟩) n n) (w.alloc (.cells (bytesV bs).toArray 5))) (hn : n = bs.length) (hl : bs.length ≤ 100)
    (k : ∀ w', RB w' w'.heap.size (.slice (some ⟨w.heap.size, 0, none⟩) bs.length bs.length) bs → Ch [] w w' → w'.heap.size = w.heap.size + 1 → K (.slice (some ⟨w.heap.size, 0, none⟩) bs.length bs.length) w') :
    S.v Tryd.prog (Instr.buildSlice 22 n parts) (fun t w => S.v Tryd.prog (Go.convert 22 22 t) K w) w := by
  subst hn
  rw [v_eq h, v_eq (Lib.run_convert_bytes_const w 22 5 (bytesV bs).toArray bs.length bs.length Tryd.underlying22 Tryd.underlying5)]
  have hb := heap_alloc_new w (.cells (bytesV bs).toArray 5 ((bytesV bs).toArray.size, (bytesV bs).toArray.size + 1))
  refine k _ ⟨by rw [length_bytesV, Nat.mul_one], _, _, rfl, Nat.le_refl _, by simp only [maxLen]; omega, fun _ => ⟨_, _, rfl, lt_of_heap hb⟩, fun b off hA j u hu => ?_⟩ (ch_alloc w _) (by simp)
  injection hA with hA
  injection hA with e1 e2 _
  subst e1 e2
  rw [cell_heap hb, Nat.zero_add]
  simpa using hu
theorem b54m (w : World) : (Instr.build 54 #[(2, .bool true)]).run Tryd.prog w = .ok (.agg #[.slice none 0 0, .bool false, .bool true]) w := by kernel_rfl
section
variable {w : World} {K : Value → World → Prop}
theorem newp_ (k : ∀ w', PAt w' w.heap.size [] false [w.heap.size] → Ch [] w w' → w'.heap.size = w.heap.size + 1 → K (PT w.heap.size) w') : S.call Tryd.prog 6 [] K w := by
  refine F6_link ?_
  unfold F6
  rw [v_eq (b54m w)]
  refine Go.Fw.bx fun w1 hb1 hc1 hs1 => ?_
  exact k w1 ⟨⟨_, [], hb1, Own.nil _ _ _, rfl⟩, by simp⟩ hc1 hs1
theorem put_p {b : Nat} {bs : List UInt8} {done : Bool} {L : List Nat} {c : UInt8} (h : PAt w b bs done L) (hl : bs.length ≤ 16384)
    (k : ∀ w' L', PAt w' b (putF bs done c).2.2.1 (putF bs done c).2.2.2 L' → Ch L w w' → (∀ x, x ∈ L' → x ∈ L ∨ w.heap.size ≤ x) → K (.tuple #[.bool (putF bs done c).1, I64 (putF bs done c).2.1]) w') :
    S.call Tryd.prog 8 [PT b, byteV c] K w := by
  obtain ⟨v, Lb, h1, h2, h5⟩ := h.ex
  have hnd := h.nodup
  have hlt := h.lt
  refine F8_link ?_
  unfold F8
  rw [eqn_v pt23, Option.isNone_some, br_false, nilC_v, fa_v fo54_2, ld_v sc4 (cells3 h1).2.2, not_v, show (!true) = false from rfl, br_false, nilC_v, fa_v fo54_1, ld_v sc4 (cells3 h1).2.1]
  unfold putF at k
  cases done with
  | true =>
    rw [br_true]
    rw [if_pos rfl] at k
    exact k w L h (Ch.refl _ _) (fun x hx => .inl hx)
  | false =>
    rw [if_neg (by simp)] at k
    subst h5
    obtain ⟨A0, c0, rfl, _⟩ := Own.shape h2
    rw [br_false, nilC_v, fa_v fo54_0, ld_v sc22 (cells3 h1).1]
    refine bs1 sl22 rfl rfl fun w1 ho1 hc1 hs1 => ?_
    refine ap (m := 1) (news := bytesV [c]) sl22 (Own.ch h2 hc1 (by simp)) ho1.rd one_bytesV (by omega) (by omega) fun v2 w2 L2 ho2 hc2 hl2 => ?_
    have hbL : b ∉ Lb := (List.nodup_cons.1 hnd).1
    have hc02 : Ch Lb w w2 := hc1.nil.trans hc2 (fun x hx => .inl hx)
    have h12 := hc02.at_ h1 hbL
    have hf2 : ∀ x, x ∈ L2 → x ∈ Lb ∨ w.heap.size ≤ x := fun x hx => by
      rcases hl2 x hx with h | h
      · exact .inl h
      · right; omega
    have hbL2 : b ∉ L2 := fun hx => by
      rcases hf2 b hx with h | h
      · exact hbL h
      · have := hlt b (by simp); omega
    have hnd2 := ho2.nodup
    have ho2' : BS w2 v2 (bs ++ [c]) L2 := by
      unfold BS
      rw [List.length_append, bytesV_append]
      exact ho2
    obtain ⟨A, cc, rfl, hcc1, hcc2⟩ := Own.shape ho2'
    rw [nilC_v, fa_v fo54_0]
    refine st sc22 h12 (by simp) rfl fun w3 hb3 hc3 hs3 => ?_
    have ho3 := Own.ch ho2' hc3 (fun x hx hm => by simp at hm; exact hbL2 (hm ▸ hx))
    have hc03 : Ch (b :: Lb) w w3 := (hc02.mono (by simp; grind)).trans hc3 (by simp)
    have hq3 : PAt w3 b (bs ++ [c]) false (b :: L2) := ⟨⟨_, L2, hb3, ho3, rfl⟩, List.nodup_cons.2 ⟨hbL2, hnd2⟩⟩
    have hfr : ∀ x, x ∈ b :: L2 → x ∈ b :: Lb ∨ w.heap.size ≤ x := fun x hx => by
      simp only [List.mem_cons] at hx ⊢
      rcases hx with rfl | hx
      · exact .inl (.inl rfl)
      · rcases hf2 x hx with h | h
        · exact .inl (.inr h)
        · exact .inr h
    rw [nilC_v, fa_v fo54_0, ld_v sc22 (cells3 hb3).1]
    refine lit_ (bs := endT) (bs6 w3) rfl (by decide) fun w4 hoE hc34 hs4 => ?_
    have ho4 := Own.ch ho3 hc34 (by simp)
    have hb4' := hc34.at_ hb3 (by simp)
    have hc04 : Ch (b :: Lb) w w4 := hc03.trans hc34 (by simp)
    refine hasSuffix_ (Own.rd ho4) hoE ?_
    have hx1 : (bs ++ [c]).length = bs.length + 1 := by simp
    cases hsuf : Lib.hasSuffix (bs ++ [c]) endT with
    | true =>
      rw [if_pos hsuf] at k
      have hsl := suffix_len hsuf
      have h6 : endT.length = 6 := rfl
      rw [br_true]
      refine drawn_ok fun w5 hc5 hs5 => ?_
      have hb5 := hc5.at_ hb4' (by simp)
      have ho5 := Own.ch ho4 hc5 (by simp)
      rw [nilC_p, fa_p fo54_0, ld_p sc22 (cells3 hb5).1, nilC_p, fa_p fo54_0, ld_p sc22 (cells3 hb5).1, len_p el22, sub_p, wrap_i64 (by omega) (by omega), cutu_p el22 ((bs ++ [c]).length - 6) (by omega) (by omega), nilC_v, fa_v fo54_0]
      have hcut := Own.cut ho5 (l := 0) (u := (bs ++ [c]).length - 6) (by omega) (by omega)
      rw [Nat.zero_mul, List.drop_zero, Nat.sub_zero, Nat.mul_one, bytesV_take] at hcut
      have hcut' : BS w5 (cutS 1 A cc 0 ((bs ++ [c]).length - 6)) ((bs ++ [c]).take ((bs ++ [c]).length - 6)) L2 := by
        unfold BS
        rw [List.length_take, Nat.min_eq_left (by omega)]
        exact hcut
      obtain ⟨A6, c6, e6, _⟩ := Own.shape hcut'
      rw [e6] at hcut' ⊢
      refine st sc22 hb5 (by simp) rfl fun w6 hb6 hc6 hs6 => ?_
      rw [nilC_v, fa_v fo54_1]
      refine st sc4 hb6 (by simp) rfl fun w7 hb7 hc7 hs7 => ?_
      refine k w7 (b :: L2) ⟨⟨_, L2, hb7, Own.ch (Own.ch hcut' hc6 (fun x hx hm => by simp at hm; exact hbL2 (hm ▸ hx))) hc7 (fun x hx hm => by simp at hm; exact hbL2 (hm ▸ hx)), rfl⟩, List.nodup_cons.2 ⟨hbL2, hnd2⟩⟩ ?_ hfr
      exact ((hc04.trans hc5 (by simp)).trans hc6 (by simp)).trans hc7 (by simp)
    | false =>
      rw [if_neg (by rw [hsuf]; simp)] at k
      rw [br_false, nilC_v, fa_v fo54_0, ld_v sc22 (cells3 hb4').1, len_v el22, gt_v]
      refine br_dec _ _ _ (fun hg => ?_) (fun hg => ?_)
      · rw [if_pos (by omega)] at k
        rw [nilC_v, fa_v fo54_0, ld_v sc22 (cells3 hb4').1, cutu_v (i := 16384) el22 16384 (by omega) (by omega), nilC_v, fa_v fo54_0]
        have hcut := Own.cut ho4 (l := 0) (u := 16384) (by omega) (by omega)
        rw [Nat.zero_mul, List.drop_zero, Nat.sub_zero, Nat.mul_one, bytesV_take] at hcut
        have hcut' : BS w4 (cutS 1 A cc 0 16384) ((bs ++ [c]).take 16384) L2 := by
          unfold BS
          rw [List.length_take, Nat.min_eq_left (by omega)]
          exact hcut
        obtain ⟨A6, c6, e6, _⟩ := Own.shape hcut'
        rw [e6] at hcut' ⊢
        refine st sc22 hb4' (by simp) rfl fun w6 hb6 hc6 hs6 => ?_
        rw [nilC_v, fa_v fo54_1]
        refine st sc4 hb6 (by simp) rfl fun w7 hb7 hc7 hs7 => ?_
        refine k w7 (b :: L2) ⟨⟨_, L2, hb7, Own.ch (Own.ch hcut' hc6 (fun x hx hm => by simp at hm; exact hbL2 (hm ▸ hx))) hc7 (fun x hx hm => by simp at hm; exact hbL2 (hm ▸ hx)), rfl⟩, List.nodup_cons.2 ⟨hbL2, hnd2⟩⟩ ?_ hfr
        exact (hc04.trans hc6 (by simp)).trans hc7 (by simp)
      · rw [if_neg (by omega)] at k
        exact k w4 (b :: L2) (hq3.ch hc34 (by simp)) hc04 hfr
/-- The line ends of a paste, as the program turns them. -/
def nlB (x : List UInt8) : List UInt8 := (fun y => Lib.replaceK [13] [10] (Lib.count y [13]) y) (Lib.replaceK [13, 10] [10] (Lib.count x [13, 10]) x)
theorem rep_le (x : List UInt8) {old new : List UInt8} (h : old ≠ []) (hn : new.length = 1) : (Lib.replaceK old new (Lib.count x old) x).length ≤ x.length := by
  have := rep_len (new := new) h _ x rfl
  have h1 : 1 ≤ old.length := by cases old with
    | nil => exact absurd rfl h
    | cons a r => simp
  rw [hn] at this
  have : Lib.count x old ≤ Lib.count x old * old.length := Nat.le_mul_of_pos_right _ h1
  omega
theorem text_p {b : Nat} {bs : List UInt8} {done : Bool} {L : List Nat} {m0 : Int} (h : PAt w b bs done L) (hl : bs.length ≤ 16384) (hT : Lib.Utf8Tabs 1 2 w) (hm : w.cell? ⟨0, 0, none⟩ = some (.int .i64 m0))
    (k : ∀ v' w' L', RS w' v' (runes (nlB bs)) L' → Ch [] w w' → (∀ z, z ∈ L' → w.heap.size ≤ z) → K v' w') : S.call Tryd.prog 10 [PT b] K w := by
  obtain ⟨v, Lb, h1, h2, h5⟩ := h.ex
  have hlt := Tabs.lt hT
  refine F10_link ?_
  unfold F10
  rw [eqn_v pt23, Option.isNone_some, br_false, nilC_v, fa_v fo54_2, ld_v sc4 (cells3 h1).2.2, not_v, show (!true) = false from rfl, br_false, nilC_v, fa_v fo54_0, ld_v sc22 (cells3 h1).1]
  refine lit_ (bs := [13, 10]) (bs2cr w) rfl (by decide) fun w1 hoE hc1 hz1 => ?_
  refine lit_ (bs := [10]) (bs1b w1 10) rfl (by decide) fun w2 hn2 hc2 hs2 => ?_
  have hc02 : Ch [] w w2 := hc1.trans hc2 (by simp)
  refine replaceAll_ (old := [13, 10]) (new := [10]) (Own.ch h2 hc02 (by simp)) (hoE.ch hc2) hn2 rfl (by omega) (by simp) (by simp) (hc02.cell hm (by simp)) (by have := hc02.size; omega) (by omega) (Nat.le_refl _) fun v3 w3 L3 ho3 hc3 hl3 => ?_
  have hc03 : Ch [] w w3 := hc02.trans hc3 (by simp)
  have hs02 := hc02.size
  have hs03 := hc03.size
  have hle3 := rep_le bs (old := [13, 10]) (new := [10]) (by simp) rfl
  unfold nlB at k
  generalize hx3 : Lib.replaceK [13, 10] [10] (Lib.count bs [13, 10]) bs = x3 at *
  refine lit_ (bs := [13]) (bs1b w3 13) rfl (by decide) fun w4 hr4 hc4 hs4 => ?_
  refine lit_ (bs := [10]) (bs1b w4 10) rfl (by decide) fun w5 hr5 hc5 hs5 => ?_
  have hc35 : Ch [] w3 w5 := hc4.trans hc5 (by simp)
  have hc05 : Ch [] w w5 := hc03.trans hc35 (by simp)
  refine replaceAll_ (old := [13]) (new := [10]) (Own.ch ho3 hc35 (by simp)) (hr4.ch hc5) hr5 rfl (by omega) (by simp) (by simp) (hc05.cell hm (by simp)) (by have := hc05.size; omega) (by omega) (Nat.le_refl _) fun v6 w6 L6 ho6 hc6 hl6 => ?_
  have hc06 : Ch [] w w6 := hc05.trans hc6 (by simp)
  have hle6 := rep_le x3 (old := [13]) (new := [10]) (by simp) rfl
  refine runes_ (Own.rd ho6) (Nat.le_refl _) (by omega) (Tabs.ch hT hc06 (by simp) (by simp)) fun v7 w7 L7 ho7 hc7 hl7 => ?_
  exact k v7 w7 L7 ho7 (hc06.trans hc7 (by simp)) (fun z hz => by have := hl7 z hz; have := hc06.size; omega)
end
end Go.Proofs.YthpbiliajcameaaDoor
