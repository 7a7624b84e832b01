import Derived.Test.YtbhgindbdojmmaaH4
set_option linter.unusedVariables false
set_option maxRecDepth 4000
namespace Go.Proofs.Ytbhgindbdojmmaa
open Go Go.Fw Go.Proofs Go.RowKit
/-- A slice of slices of lines that is only read. -/
structure Parts (w : World) (B : Nat) (v : Value) (ps : List (List HL)) (hs : List Value) : Prop where
  rd : Rd w B 1 v ps.length hs
  each : ∀ (i : Nat) (p : List HL), ps[i]? = some p → ∃ h, hs[i]? = some h ∧ RL w B h p
theorem Parts.ch {w w' : World} {B : Nat} {v : Value} {ps : List (List HL)} {hs : List Value} (h : Parts w B v ps hs) (hc : Ch [] w w') : Parts w' B v ps hs :=
  ⟨h.rd.ch hc (by simp), fun i p hp => by
    obtain ⟨x, h1, h2⟩ := h.each i p hp
    exact ⟨x, h1, h2.ch hc⟩⟩
def ft (ps : List (List HL)) (i : Nat) : List HL := (ps.take i).flatten
theorem ft_succ {ps : List (List HL)} {i : Nat} {p : List HL} (h : ps[i]? = some p) : ft ps (i + 1) = ft ps i ++ p := by
  obtain ⟨hi, rfl⟩ := List.getElem?_eq_some_iff.1 h
  unfold ft
  rw [List.take_succ_eq_append_getElem hi, List.flatten_append]
  simp
theorem ft_le (ps : List (List HL)) (i : Nat) : (ft ps i).length ≤ ps.flatten.length := by
  have : ps.flatten = ft ps i ++ (ps.drop i).flatten := by
    unfold ft
    rw [← List.flatten_append, List.take_append_drop]
  rw [this]; simp
structure KSt (w0 w : World) (b t4 t5 t7 : Nat) (al : List HL) (most : Nat) (LH LA : List Nat) : Prop where
  h : HAt w b (al.drop (al.length - most)) (1 + ((al.length - most : Nat) : Int)) most LH
  av : ∃ v, w.heap[t7]? = some (.cells #[v] 28 (0, 0)) ∧ LS w v al LA
  c4 : w.heap[t4]? = some (.cells #[.bool false] 4 (0, 0))
  c5 : w.heap[t5]? = some (.cells #[PT b] 23 (0, 0))
  dis : (t4 :: t5 :: t7 :: (LH ++ LA)).Nodup
  fresh : ∀ x, x ∈ t4 :: t5 :: t7 :: (LH ++ LA) → w0.heap.size ≤ x
  ch : Ch [] w0 w
theorem KSt.lt {w0 w : World} {b t4 t5 t7 : Nat} {al : List HL} {most : Nat} {LH LA : List Nat} (h : KSt w0 w b t4 t5 t7 al most LH LA) : ∀ x, x ∈ t4 :: t5 :: t7 :: (LH ++ LA) → x < w.heap.size := by
  intro x hx
  obtain ⟨v, h1, h2⟩ := h.av
  have a := h.h.lt
  have b := Own.lt h2
  have c := lt_of_heap h1
  have d := lt_of_heap h.c4
  have e := lt_of_heap h.c5
  simp only [List.mem_cons, List.mem_append] at hx
  rcases hx with rfl | rfl | rfl | hx | hx
  · exact d
  · exact e
  · exact c
  · exact a x hx
  · exact b x hx
theorem KSt.to {w0 w w' : World} {b t4 t5 t7 : Nat} {al : List HL} {most : Nat} {LH LA M : List Nat} (h : KSt w0 w b t4 t5 t7 al most LH LA) (hc : Ch M w w') (hd : ∀ x, x ∈ M → x ∉ t4 :: t5 :: t7 :: (LH ++ LA)) (hf : ∀ x, x ∈ M → w0.heap.size ≤ x) : KSt w0 w' b t4 t5 t7 al most LH LA := by
  obtain ⟨v, h1, h2⟩ := h.av
  exact ⟨h.h.ch hc (by grind), ⟨v, hc.at_ h1 (by grind), Own.ch h2 hc (by grind)⟩, hc.at_ h.c4 (by grind), hc.at_ h.c5 (by grind), h.dis, h.fresh, h.ch.trans hc (by grind)⟩
theorem keep_len (al m : List HL) (mo : Nat) : (al.length - mo) + ((al.drop (al.length - mo)).length + m.length - mo) = (al ++ m).length - mo := by
  rw [List.length_drop, List.length_append]; omega
theorem keep_alg (al m : List HL) (mo : Nat) : ((al.drop (al.length - mo)) ++ m).drop ((al.drop (al.length - mo)).length + m.length - mo) = (al ++ m).drop ((al ++ m).length - mo) := by
  rw [← keep_len al m mo, ← List.drop_append_of_le_length (l₂ := m) (show al.length - mo ≤ al.length by omega), List.drop_drop]
theorem dis_facts {t4 t5 t7 : Nat} {LH LA : List Nat} (h : (t4 :: t5 :: t7 :: (LH ++ LA)).Nodup) : (∀ x, x ∈ LH → x ∉ LA) ∧ (∀ x, x ∈ LH → x ≠ t4 ∧ x ≠ t5 ∧ x ≠ t7) ∧ (∀ x, x ∈ LA → x ≠ t4 ∧ x ≠ t5 ∧ x ≠ t7) ∧ t4 ≠ t5 ∧ t4 ≠ t7 ∧ t5 ≠ t7 := by
  simp only [List.nodup_cons, List.mem_cons, List.mem_append, List.nodup_append, not_or] at h
  obtain ⟨⟨h1, h2, h3, h4⟩, ⟨h5, h6, h7⟩, ⟨h8, h9⟩, h10, h11, h12⟩ := h
  exact ⟨fun x hx hy => h12 x hx x hy rfl, fun x hx => ⟨fun e => h3 (e ▸ hx), fun e => h6 (e ▸ hx), fun e => h8 (e ▸ hx)⟩, fun x hx => ⟨fun e => h4 (e ▸ hx), fun e => h7 (e ▸ hx), fun e => h9 (e ▸ hx)⟩, h1, h2, h5⟩
theorem KSt.next {w0 w7 w8 w9 w10 : World} {b t4 t5 t7 : Nat} {al m : List HL} {most : Nat} {LH LA L8 L9 : List Nat} {v9 : Value} (hk : KSt w0 w7 b t4 t5 t7 al most LH LA)
    (hq8 : HAt w8 b ((al ++ m).drop ((al ++ m).length - most)) (1 + (((al ++ m).length - most : Nat) : Int)) most L8) (hc8 : Ch LH w7 w8) (hl8 : ∀ x, x ∈ L8 → x ∈ LH ∨ w7.heap.size ≤ x)
    (ho9 : LS w9 v9 (al ++ m) L9) (hc9 : Ch LA w8 w9) (hl9 : ∀ x, x ∈ L9 → x ∈ LA ∨ w8.heap.size ≤ x) (hb10 : w10.heap[t7]? = some (.cells #[v9] 28 (0, 0))) (hc10 : Ch [t7] w9 w10) : KSt w0 w10 b t4 t5 t7 (al ++ m) most L8 L9 := by
  obtain ⟨d1, d2, d3, d4, d5, d6⟩ := dis_facts hk.dis
  have hlt := hk.lt
  have hfr := hk.fresh
  have hs7 := hk.ch.size
  have hs8 := hc8.size
  have hlt8 := hq8.lt
  have hlt9 := Own.lt ho9
  have hnd8 := hq8.nodup
  have hnd9 := Own.nodup ho9
  have l4 := hlt t4 (by simp)
  have l5 := hlt t5 (by simp)
  have l7 := hlt t7 (by simp)
  have lH : ∀ x, x ∈ LH → x < w7.heap.size := fun x hx => hlt x (by simp [hx])
  have lA : ∀ x, x ∈ LA → x < w7.heap.size := fun x hx => hlt x (by simp [hx])
  have e8 : ∀ x, x ∈ L8 → x ∉ LA ∧ x ≠ t4 ∧ x ≠ t5 ∧ x ≠ t7 := fun x hx => by
    rcases hl8 x hx with h | h
    · exact ⟨d1 x h, d2 x h⟩
    · exact ⟨fun hA => by have := lA x hA; omega, by omega, by omega, by omega⟩
  have e9 : ∀ x, x ∈ L9 → x ≠ t4 ∧ x ≠ t5 ∧ x ≠ t7 := fun x hx => by
    rcases hl9 x hx with h | h
    · exact d3 x h
    · exact ⟨by omega, by omega, by omega⟩
  have hA4 : t4 ∉ LA := fun h => (d3 _ h).1 rfl
  have hA5 : t5 ∉ LA := fun h => (d3 _ h).2.1 rfl
  have hH4 : t4 ∉ LH := fun h => (d2 _ h).1 rfl
  have hH5 : t5 ∉ LH := fun h => (d2 _ h).2.1 rfl
  refine ⟨(hq8.ch hc9 (fun x hx => (e8 x hx).1)).ch hc10 (fun x hx => by simpa using (e8 x hx).2.2.2), ⟨v9, hb10, Own.ch ho9 hc10 (fun x hx => by simpa using (e9 x hx).2.2)⟩, hc10.at_ (hc9.at_ (hc8.at_ hk.c4 hH4) hA4) (by simpa using d5), hc10.at_ (hc9.at_ (hc8.at_ hk.c5 hH5) hA5) (by simpa using d6), ?_, ?_,
    ((hk.ch.trans hc8 (fun x hx => .inr (hfr x (by simp [hx])))).trans hc9 (fun x hx => .inr (hfr x (by simp [hx])))).trans hc10 (fun x hx => .inr (hfr x (by simp at hx; simp [hx])))⟩
  · have n1 := nodup_swap (A := [t4, t5, t7]) (X := LH) (Y := L8) (B := LA) (n := w7.heap.size) (by simpa using hk.dis) (by simpa using hlt) hnd8 hl8
    have n2 := nodup_swap (A := [t4, t5, t7] ++ L8) (X := LA) (Y := L9) (B := []) (n := w8.heap.size) (by simpa using n1) (fun x hx => by
      simp only [List.mem_append, List.mem_cons, List.append_nil, List.not_mem_nil, or_false] at hx
      rcases hx with (h | h) | h
      · rcases h with rfl | rfl | rfl <;> omega
      · exact hlt8 x h
      · have := lA x h; omega) hnd9 hl9
    simpa using n2
  · intro x hx
    simp only [List.mem_cons, List.mem_append] at hx
    rcases hx with rfl | rfl | rfl | hx | hx
    · exact hfr _ (by simp)
    · exact hfr _ (by simp)
    · exact hfr _ (by simp)
    · rcases hl8 x hx with h | h
      · exact hfr _ (by simp [h])
      · omega
    · rcases hl9 x hx with h | h
      · exact hfr _ (by simp [h])
      · omega
theorem closes1 {b : Nat} {k : World → Prop} {w : World} : S.closes (marksOf (addMark b undef)) k w = S.setO b (.deferred (some [])) (.deferred none) k w := rfl
theorem z4 : zeroT Try.prog 4 = some (.bool false) := by kernel_rfl
theorem z23 : zeroT Try.prog 23 = some (.pointer none) := by kernel_rfl
theorem z28 : zeroT Try.prog 28 = some (.slice none 0 0) := by kernel_rfl
set_option maxHeartbeats 1000000
section
variable {w : World} {K : Value → World → Prop}
theorem keeps_ {B : Nat} {v : Value} {ps : List (List HL)} {hs : List Value} {most : Int} (hp : Parts w B v ps hs) (ht : ps.flatten.length ≤ 1048576) (hB : B ≤ w.heap.size) (hmost : -9223372036854775808 ≤ most ∧ most ≤ 9223372036854775807)
    (k : ∀ w', Ch [] w w' → K (.bool true) w') : S.call Try.prog 3 [I64 most, v] K w := by
  obtain ⟨A, c, rfl, hc1, hc2, _⟩ := hp.rd.form
  have hcm : c ≤ 9223372036854775807 := by simp only [maxLen] at hc2; omega
  refine F3_link ?_
  unfold F3
  refine al z4 fun w1 hb1 hcw1 hs1 => ?_
  refine new_ (fun hbad => ?_) (fun h0 h4096 w2 hq2 hcw2 hs2 => ?_)
  · rw [x20, x21]
    refine al z23 fun w2 hb2 hcw2 hs2 => ?_
    refine st sc23 hb2 (by simp [Value.cells]) rfl fun w3 hb3 hcw3 hs3 => ?_
    refine begun_ fun w4 hcw4 => ?_
    have h14 : Ch [] w1 w4 := (hcw2.trans hcw3 (by simp)).trans hcw4 (by simp)
    have hb4 := h14.at_ hb1 (by simp)
    have h04 : Ch [] w w4 := hcw1.trans h14 (by simp)
    have hfin : ∀ w', Ch [w.heap.size] w4 w' → K (.bool true) w' := fun w' h => k w' (h04.trans h (by simp))
    rw [not_v, show (!true) = false from rfl, br_false, eq_v, decide_eq_false (by simp), ge_v]
    refine br_dec _ _ _ (fun hge => ?_) (fun hge => ?_)
    · rw [le_v, decide_eq_false (by omega), neb_v bt4, show (!(false == false)) = false from rfl, br_false, ne_v, decide_eq_true (by simp), br_true]
      refine st sc4 hb4 (by simp [Value.cells]) rfl fun w5 hb5 hcw5 hs5 => ?_
      rw [ldRs_p sc4 (cells1 hb5)]
      exact hfin w5 hcw5
    · rw [neb_v bt4, show (!(false == false)) = false from rfl, br_false, ne_v, decide_eq_true (by simp), br_true]
      refine st sc4 hb4 (by simp [Value.cells]) rfl fun w5 hb5 hcw5 hs5 => ?_
      rw [ldRs_p sc4 (cells1 hb5)]
      exact hfin w5 hcw5
  · obtain ⟨mo, rfl⟩ := Int.eq_ofNat_of_zero_le h0
    have hmo : mo ≤ 4096 := by omega
    rw [x20, x21]
    refine al z23 fun w3 hb3 hcw3 hs3 => ?_
    refine st sc23 hb3 (by simp [Value.cells]) rfl fun w4 hb4 hcw4 hs4 => ?_
    refine begun_ fun w5 hcw5 => ?_
    have h25 : Ch [] w2 w5 := (hcw3.trans hcw4 (by simp)).trans hcw5 (by simp)
    rw [not_v, show (!true) = false from rfl, br_false, eq_v, decide_eq_true (by simp), ge_v, decide_eq_true (by omega), br_true, le_v, decide_eq_true (by omega), neb_v bt4, show (!(true == true)) = false from rfl, br_false, ne_v, decide_eq_false (by simp), br_false]
    refine al z28 fun w6 hb6 hcw6 hs6 => ?_
    have h26 : Ch [] w2 w6 := h25.trans hcw6 (by simp)
    have hsz5 := hcw5.size
    have hk6 : KSt w w6 w1.heap.size w.heap.size w2.heap.size w5.heap.size [] mo [w1.heap.size] [] := by
      refine ⟨?_, ⟨_, hb6, Own.nil _ _ _⟩, (hcw2.trans h26 (by simp)).at_ hb1 (by simp), ?_, ?_, ?_, (hcw1.trans hcw2 (by simp)).trans h26 (by simp)⟩
      · have := hq2.ch h26 (by simp)
        simpa using this
      · exact (hcw5.trans hcw6 (by simp)).at_ hb4 (by simp)
      · simp; omega
      · simp; omega
    rw [len_v el22]
    intro I hC
    have key : ∀ (d i : Nat) (x9 x37 x43 x50 : Value) (w' : World) (al : List HL) (LH LA : List Nat), i + d = ps.length → KSt w w' w1.heap.size w.heap.size w2.heap.size w5.heap.size al mo LH LA → al.length ≤ (ft ps i).length → I [x9, I64 i, x37, x43, x50] w' := by
      intro d
      induction d with
      | zero =>
        intro i x9 x37 x43 x50 w7 al LH LA hi hk hal
        refine hC _ _ _ _ _ _ ?_
        rw [lt_v, decide_eq_false (by omega), br_false]
        have hal2 : al.length ≤ 1048576 := by have := ft_le ps i; omega
        have hll : (al.drop (al.length - mo)).length = al.length - (al.length - mo) := List.length_drop
        refine drawn_ok fun w8 hcw8 hs8 => ?_
        have hk8 := hk.to hcw8 (by simp) (by simp)
        obtain ⟨av, ha1, ha2⟩ := hk8.av
        obtain ⟨A8, c8, rfl, hc81, hc82⟩ := Own.shape ha2
        refine ⟨fun w' => w' = w8, rfl, ?_⟩
        rw [h_p, ld_p sc23 (cells1 hk8.c5), h_p, ld_p sc28 (cells1 ha1), h_p, len_p el28, h_p, p_eq (run_min ..)]
        refine len_ hk8.h (by omega) ⟨rfl, ?_⟩
        rw [h_p, ne_p, decide_eq_false (by omega), br_false, h_p, ld_p sc23 (cells1 hk8.c5), h_p, ld_p sc28 (cells1 ha1), h_p, len_p el28, h_p, ld_p sc23 (cells1 hk8.c5)]
        refine base_ hk8.h (by omega) ⟨rfl, ?_⟩
        refine len_ hk8.h (by omega) ⟨rfl, ?_⟩
        rw [h_p, sub_p, wrap_i64 (by omega) (by omega), h_p, add_p, wrap_i64 (by omega) (by omega), h_p, ne_p, decide_eq_false (by omega), br_false, ld_v sc23 (cells1 hk8.c5)]
        refine all_ hk8.h (by omega) (by omega) fun w9 cc r hit hcw9 hle => ?_
        have hk9 := hk8.to hcw9 (by simp) (by simp)
        have hlt9 := hk9.lt
        have hfr := hk9.fresh
        have hsz9 := hk9.ch.size
        refine rng_ (J := fun i w' => KSt w w' w1.heap.size w.heap.size w2.heap.size w5.heap.size al mo LH LA ∧ It w' w8.heap.size w9.heap.size cc r (al.drop (al.length - mo))) (E := fun _ => False) (by omega) hit (fun _ _ h => h.2) ?_ ?_ (fun _ _ h => h.elim) ?_ ?_ (fun _ _ h => h.elim)
        · intro i' wa wb M hj hcM hM
          exact ⟨hj.1.to hcM (fun x hx hm => by have := hlt9 x hm; rcases hM x hx with h | h <;> omega) (fun x hx => by rcases hM x hx with h | h <;> omega), hj.2.ch hcM (fun x hx => by rcases hM x hx with h | h <;> omega)⟩
        · intro w10 hcw10 hs10
          exact ⟨hk9.to hcw10 (by simp) (by simp), hit.ch hcw10 (by simp)⟩
        · intro R0 Rb bg dn i' x w10 hx hj hs hd hl hbg hnone hret
          have hltk := hj.1.lt
          have hin : i' < (al.drop (al.length - mo)).length := (List.getElem?_eq_some_iff.1 hx).1
          refine Go.Fw.al z36 fun w11 hb11 hcw11 hs11 => ?_
          rw [nth_succ, nth_zero]
          refine stw (vs := #[strV x.1, .int .i64 x.2]) ag36 hb11 rfl rfl (by simp [Value.oneCell', strV]) fun w12 hb12 hcw12 hs12 => ?_
          have hc1012 : Ch [] w10 w12 := hcw11.trans hcw12 (by simp)
          refine hbg _ w12 (hc1012.at_ hl (by simp)) fun w13 hcw13 hs13 hrb => ?_
          have hk13 := (hj.1.to hc1012 (by simp) (by simp)).to hcw13 (fun y hy hm => by have := hlt9 y hm; simp at hy; omega) (fun y hy => by simp at hy; omega)
          have hit13 := (hj.2.ch hc1012 (by simp)).ch hcw13 (by simp)
          have hd13 := hcw13.at_ (hc1012.at_ hd (by simp)) (by simp)
          have hx13 := hcw13.at_ hb12 (by simp; omega)
          refine seq_ok fun J1 hJ1 => ?_
          have hj1 : ∀ (t12 : Nat) (w' : World), w'.heap[t12]? = some (.cells #[strV x.1, .int .i64 x.2] 36 (0, 0)) → Ch [] w13 w' → J1 [PT t12, .bool true] w' := by
            intro t12 w14 hb14 hcw14
            refine hJ1 _ _ ?_
            refine drawn_ok fun w15 hcw15 hs15 => ?_
            have hc1315 : Ch [] w13 w15 := hcw14.trans hcw15 (by simp)
            have hk15 := hk13.to hc1315 (by simp) (by simp)
            have hx15 := hc1315.at_ hx13 (by simp)
            have hb15 := hcw15.at_ hb14 (by simp)
            obtain ⟨av', ha1', ha2'⟩ := hk15.av
            have hrl := LS.rl ha2'
            obtain ⟨A9, c9, rfl, hc91, hc92⟩ := Own.shape ha2'
            have hidx : (al.length - mo) + i' < al.length := by omega
            obtain ⟨g, off, rfl, hcell⟩ := Rd.atN (j := (al.length - mo) + i') hrl hidx (by omega)
            have hy : al[(al.length - mo) + i']? = some x := by rw [List.getElem?_drop] at hx; exact hx
            refine ⟨fun w' => w' = w15, rfl, ?_⟩
            rw [h_p, ldw_p ag36 hx15 rfl, h_p, ld_p sc28 (cells1 ha1'), h_p, ld_p sc28 (cells1 ha1'), h_p, len_p el28, h_p, ld_p sc23 (cells1 hk15.c5)]
            refine len_ hk15.h (by omega) ⟨rfl, ?_⟩
            have e1 : (al.length : Int) - ((al.drop (al.length - mo)).length : Int) + (i' : Int) = (((al.length - mo) + i' : Nat) : Int) := by omega
            rw [h_p, sub_p, wrap_i64 (by omega) (by omega), nth_zero, h_p, add_p, wrap_i64 (by omega) (by omega), e1, h_p, ia_p el28 (by omega) (by omega), Int.toNat_natCast, h_p,
              p_eq (run_lda (vs := [strV x.1, .int .i64 x.2]) ag36 rfl (fun m u hu => by
                rw [add_mk]
                refine hcell m u ?_
                have he := lines_el hy
                rw [← he] at hu
                have hm : m < 2 := by
                  have := (List.getElem?_eq_some_iff.1 hu).1
                  simp only [List.length_take] at this
                  omega
                rw [List.getElem?_take_of_lt hm, List.getElem?_drop] at hu
                exact hu)), h_p, p_eq (run_ne36 _ _ _ x x), decide_eq_false (by simp), br_false, nth_succ, nth_zero, h_p, not_p, show (!true) = false from rfl, br_false, h_p, ldw_p ag36 hx15 rfl, nth_zero, h_p, ldw_p ag36 hb15 rfl, h_p, p_eq (run_ne36 _ _ _ x x), decide_eq_false (by simp), br_false]
            exact hnone w15 (hc1315.at_ hrb (by simp)) (hc1315.at_ hd13 (by simp)) (by have := hc1315.size; omega) ⟨hk15, hit13.ch hc1315 (by simp)⟩
          clear hJ1
          refine drawn_ok fun w14 hcw14 hs14 => ?_
          have hk14 := hk13.to hcw14 (by simp) (by simp)
          refine ⟨fun w' => Ch [] w14 w', Ch.refl _ _, ?_⟩
          refine h_ok (x := PT w1.heap.size) (fun w' hw => run_ld sc23 (cells1 (hw.at_ hk14.c5 (by simp)))) ?_
          refine h_ok (x := PT w1.heap.size) (fun w' hw => run_ld sc23 (cells1 (hw.at_ hk14.c5 (by simp)))) ?_
          have hbnd : -9223372036854775808 ≤ 1 + ((al.length - mo : Nat) : Int) + (i' : Int) ∧ 1 + ((al.length - mo : Nat) : Int) + (i' : Int) < 9223372036854775808 := by omega
          have num : ∀ (w' : World) (K' : Value → World → Prop), Ch [] w14 w' → (∀ w'', Ch [] w' w'' → K' (.tuple #[hlV x, .bool true]) w'') → S.call Try.prog 15 [PT w1.heap.size, I64 (1 + ((al.length - mo : Nat) : Int) + (i' : Int))] K' w' := by
            intro w' K' hcw' hK'
            refine number_ (hk14.to hcw' (by simp) (by simp)).h (by omega) (by omega) _ hbnd (fun h => absurd h (by omega)) (fun j y hj' hy' w'' hcw'' => ?_)
            obtain rfl : j = i' := by omega
            obtain rfl : x = y := by rw [hx] at hy'; injection hy'
            exact hK' w'' hcw''
          have addr : ∀ (w' : World), (S.bin .add 2 (Go.Operand.tmp 77) (Go.Operand.tmp 78) (I64 (1 + ((al.length - mo : Nat) : Int))) (I64 (i' : Int))).run Try.prog w' = .ok (I64 (1 + ((al.length - mo : Nat) : Int) + (i' : Int))) w' := fun w' => by
            rw [run_add, wrap_i64 (by omega) (by omega)]
          refine ⟨?_, ?_⟩
          · refine base_ hk14.h (by omega) ⟨Ch.refl _ _, ?_⟩
            rw [nth_zero]
            refine h_ok (x := I64 (1 + ((al.length - mo : Nat) : Int) + (i' : Int))) (fun w' _ => addr w') ?_
            refine ⟨?_, ?_⟩
            · refine num w14 _ (Ch.refl _ _) fun w15 hcw15 => ⟨hcw15, ?_⟩
              refine h_ok (x := hlV x) (fun w' _ => rfl) ?_
              refine h_ok (x := .bool true) (fun w' _ => rfl) ?_
              refine Go.Fw.al z36 fun w16 hb16 hcw16 hs16 => ⟨hcw15.trans hcw16 (by simp), ?_⟩
              refine stw (vs := #[strV x.1, .int .i64 x.2]) ag36 hb16 rfl rfl (by simp [Value.oneCell', strV]) fun w17 hb17 hcw17 hs17 => ?_
              have hc1417 : Ch [] w14 w17 := (hcw15.trans hcw16 (by simp)).trans hcw17 (by have := hcw15.size; simp; omega)
              exact ⟨hc1417, hj1 _ w17 hb17 (hcw14.trans hc1417 (by simp))⟩
            · refine Go.Fw.al z36 fun w15 hb15 hcw15 hs15 => ⟨hcw15, ?_⟩
              refine num w15 _ hcw15 fun w16 hcw16 => ⟨hcw15.trans hcw16 (by simp), ?_⟩
              refine h_ok (x := hlV x) (fun w' _ => rfl) ?_
              refine h_ok (x := .bool true) (fun w' _ => rfl) ?_
              refine stw (vs := #[strV x.1, .int .i64 x.2]) ag36 (hcw16.at_ hb15 (by simp)) rfl rfl (by simp [Value.oneCell', strV]) fun w17 hb17 hcw17 hs17 => ?_
              have hc1417 : Ch [] w14 w17 := (hcw15.trans hcw16 (by simp)).trans hcw17 (by simp)
              exact ⟨hc1417, hj1 _ w17 hb17 (hcw14.trans hc1417 (by simp))⟩
          · refine Go.Fw.al z36 fun w15 hb15 hcw15 hs15 => ⟨hcw15, ?_⟩
            refine base_ (hk14.to hcw15 (by simp) (by simp)).h (by omega) ⟨hcw15, ?_⟩
            rw [nth_zero]
            refine h_ok (x := I64 (1 + ((al.length - mo : Nat) : Int) + (i' : Int))) (fun w' _ => addr w') ?_
            refine num w15 _ hcw15 fun w16 hcw16 => ⟨hcw15.trans hcw16 (by simp), ?_⟩
            refine h_ok (x := hlV x) (fun w' _ => rfl) ?_
            refine h_ok (x := .bool true) (fun w' _ => rfl) ?_
            refine stw (vs := #[strV x.1, .int .i64 x.2]) ag36 (hcw16.at_ hb15 (by simp)) rfl rfl (by simp [Value.oneCell', strV]) fun w17 hb17 hcw17 hs17 => ?_
            have hc1417 : Ch [] w14 w17 := (hcw15.trans hcw16 (by simp)).trans hcw17 (by simp)
            exact ⟨hc1417, hj1 _ w17 hb17 (hcw14.trans hc1417 (by simp))⟩
        · intro wa wb hj hd hs hcb
          have hkb := hj.1.to hcb (fun x hx hm => by have := hlt9 x hm; simp at hx; omega) (fun x hx => by simp at hx; omega)
          refine st sc4 hkb.c4 (by simp) rfl fun wc hbc hcc hsc => ?_
          rw [closes1]
          have h4 := hlt9 w.heap.size (by simp)
          refine ⟨hcc.at_ (hcb.at_ hd (by simp)) (by simp; omega), fun wd hdd hcd hsd => ?_⟩
          show S.p Try.prog (S.ldR 4 _) _ wd
          rw [ldRs_p sc4 (cells1 (hcd.at_ hbc (by simp; omega)))]
          exact k wd ((hkb.ch.trans hcc (by simp)).trans hcd (by simp; omega))
      | succ d ih =>
        intro i x9 x37 x43 x50 w7 al LH LA hi hk hal
        refine hC _ _ _ _ _ _ ?_
        have hlt : i < ps.length := by omega
        obtain ⟨hv, hh, hr⟩ := hp.each i _ (List.getElem?_eq_getElem hlt)
        have hs2 := ft_succ (List.getElem?_eq_getElem hlt)
        have hl4 := ft_le ps (i + 1)
        have hl5 : (ft ps (i + 1)).length = (ft ps i).length + ps[i].length := by rw [hs2, List.length_append]
        rw [lt_v, decide_eq_true (by omega), br_true, ixr_v (j := i) el22 sc28 (hp.rd.ch hk.ch (by simp)) rfl hh]
        refine seq_ok fun J hJ => ?_
        have hj : ∀ (v43 : Value) (w' : World) (al' : List HL) (LH' LA' : List Nat), KSt w w' w1.heap.size w.heap.size w2.heap.size w5.heap.size al' mo LH' LA' → al'.length ≤ (ft ps (i + 1)).length → J [v43] w' := by
          intro v43 w8 al' LH' LA' hk' hal'
          refine hJ _ _ ?_
          rw [ld_v sc23 (cells1 hk'.c5)]
          refine len_ hk'.h (by omega) ?_
          rw [gt_v, decide_eq_false (by rw [List.length_drop]; omega), br_false, add_v, wrap_i64 (by omega) (by omega), nth_zero]
          have := ih (i + 1) hv (.bool true) v43 (.bool false) w8 al' LH' LA' (by omega) hk' hal'
          rw [show ((i + 1 : Nat) : Int) = (i : Int) + 1 from by omega] at this
          exact this
        clear hJ
        have hB7 : B ≤ w7.heap.size := Nat.le_trans hB hk.ch.size
        rw [ld_v sc23 (cells1 hk.c5)]
        refine add_ (most := mo) hk.h (hr.ch hk.ch) hB7 (by rw [List.length_drop]; omega) (by omega) hmo (fun hn w8 hq8 hcw8 => ?_) (fun hn w8 L8 hq8 hcw8 hl8 => ?_)
        · rw [eq_v, decide_eq_false hn, br_false]
          exact hj _ w8 al LH LA (hk.to hcw8 (by simp) (by simp)) (by omega)
        · rw [eq_v, decide_eq_true rfl, br_true]
          obtain ⟨av, ha1, ha2⟩ := hk.av
          obtain ⟨d1, d2, d3, d4, d5, d6⟩ := dis_facts hk.dis
          have hfr := hk.fresh
          have ha1' := hcw8.at_ ha1 (fun h => (d2 _ h).2.2 rfl)
          have ha2' := Own.ch ha2 hcw8 (fun x hx hh => d1 x hh hx)
          rw [ld_v sc28 (cells1 ha1')]
          have hr8 : Rd w8 B 2 hv ps[i].length (lines ps[i]) := Rd.ch (RL.ch hr hk.ch) hcw8 (fun x hx => by have := hfr x (by simp [hx]); omega)
          refine ap (n := al.length) (m := ps[i].length) (xs := lines al) (news := lines ps[i]) sl28 ha2' hr8 one_lines (by omega) (by omega) fun v9 w9 L9 ho9 hcw9 hl9 => ?_
          have ha19 := hcw9.at_ ha1' (fun h => (d3 _ h).2.2 rfl)
          obtain ⟨A9, c9, rfl, _⟩ := ho9.shape
          refine st sc28 ha19 (by simp) rfl fun w10 hb10 hcw10 hs10 => ?_
          have ho9' : LS w9 (.slice A9 (al.length + ps[i].length) c9) (al ++ ps[i]) L9 := by
            unfold LS
            rw [List.length_append, lines_append]
            exact ho9
          have e : (1 + ((al.length - mo : Nat) : Int)) + (((al.drop (al.length - mo)).length + ps[i].length - mo : Nat) : Int) = 1 + (((al ++ ps[i]).length - mo : Nat) : Int) := by
            rw [← keep_len al ps[i] mo]; omega
          rw [keep_alg, e] at hq8
          exact hj _ w10 (al ++ ps[i]) L8 L9 (hk.next hq8 hcw8 hl8 ho9' hcw9 hl9 hb10 hcw10) (by rw [List.length_append, hl5]; omega)
    exact key ps.length 0 undef undef undef undef w6 [] _ _ (by omega) hk6 (by simp)
end
end Go.Proofs.Ytbhgindbdojmmaa
