import Derived.Test.YtbhgindbdojmmaaE1
import Derived.Test.YtbhgindbdojmmaaHG
set_option linter.unusedVariables false
set_option maxRecDepth 4000
namespace Go.Proofs.Ytbhgindbdojmmaa
open Go Go.Fw Go.Proofs Go.RowKit
/-! ### The rest of the program's history -/
theorem lines_put {l : List HL} {i : Nat} {x : HL} (hi : i < l.length) : (lines l).take (i * 2) ++ ([strV x.1, .int .i64 x.2] ++ (lines l).drop ((i + 1) * 2)) = lines (l.set i x) := by
  have e : l.set i x = l.take i ++ ([x] ++ l.drop (i + 1)) := by
    rw [List.set_eq_take_append_cons_drop, if_pos hi]
    simp
  rw [lines_take, lines_drop, e, lines_append, lines_append]
  rfl
theorem mem_put {l : List HL} {i : Nat} {x y : HL} (h : y ∈ l.set i x) : y ∈ l ∨ y = x := List.mem_or_eq_of_mem_set h
section
variable {w : World} {K : Value → World → Prop}
theorem most_ {b : Nat} {l : List HL} {base most : Int} {L : List Nat} (h : HAt w b l base most L) (hb : base ≠ 0) (k : K (I64 most) w) : S.call Try.prog 40 [PT b] K w := by
  obtain ⟨lv, Ll, h1, h2, h5⟩ := h.ex
  refine F40_link ?_
  unfold F40
  refine hnone h hb ?_
  rw [br_false, nilC_v, fa_v fo87_0, fa_v fo85_2, ld_v sc3 (cells3 h1).2.2]
  exact k
theorem stifle_ {b : Nat} {l : List HL} {base most : Int} {L : List Nat} {m : Int} (h : HAt w b l base most L) (hl : l.length * 24 ≤ 200000000000000) (hbase : 1 ≤ base ∧ base ≤ 4611686018427387904)
    (k1 : (m < 0 ∨ 4096 < m) → K (I64 1) w)
    (k2 : ∀ n : Nat, m = n → n ≤ 4096 → ∀ w' L', HAt w' b (l.drop (l.length - n)) (base + ((l.length - n : Nat) : Int)) n L' → Ch L w w' → (∀ x, x ∈ L' → x ∈ L ∨ w.heap.size ≤ x) → K (I64 0) w') : S.call Try.prog 39 [PT b, I64 m] K w := by
  refine F39_link ?_
  unfold F39
  refine hnone h (by omega) ?_
  rw [br_false, lt_v]
  refine br_dec _ _ _ (fun h => k1 (.inl h)) (fun hm0 => ?_)
  rw [gt_v]
  refine br_dec _ _ _ (fun h => k1 (.inr h)) (fun hm1 => ?_)
  obtain ⟨n, rfl⟩ := Int.eq_ofNat_of_zero_le (show 0 ≤ m by omega)
  obtain ⟨lv, Ll, h1, h2, h5⟩ := h.ex
  obtain ⟨A, c, rfl, _⟩ := Own.shape h2
  have hnd := h.nodup
  subst h5
  have hbL : b ∉ Ll := (List.nodup_cons.1 hnd).1
  rw [nilC_v, fa_v fo87_0, fa_v fo85_2]
  refine st sc3 h1 (by simp) rfl fun w1 hb1 hc1 hs1 => ?_
  have hq1 : HAt w1 b l base n (b :: Ll) := ⟨⟨_, Ll, hb1, Own.ch h2 hc1 (by grind), rfl⟩, hnd⟩
  refine stifled_ hq1 hl (by omega) (by omega) fun r w2 L2 hq2 hc2 hl2 => ?_
  refine k2 n rfl (by omega) w2 L2 hq2 ((hc1.mono (by grind)).trans hc2 (fun x hx => .inl hx)) (fun x hx => ?_)
  rcases hl2 x hx with h | h
  · exact .inl h
  · right; omega
theorem bs36 (w : World) (a b : Value) : (Instr.buildSlice 28 1 #[(0, .agg #[a, b])]).run Try.prog w = .ok (.slice (some ⟨w.heap.size, 0, none⟩) 1 1) (w.alloc (.cells #[a, b] 36)) := by kernel_rfl
theorem replace_ {b : Nat} {l : List HL} {base most : Int} {L : List Nat} {x : HL} (h : HAt w b l base most L) (hb : base ≠ 0) (i : Int)
    (k1 : (i < 0 ∨ (l.length : Int) ≤ i) → ∀ w', Ch [] w w' → K (.tuple #[hlV ([], 0), I64 4]) w')
    (k2 : ∀ (j : Nat) y, i = j → l[j]? = some y → may [x] ≠ 0 → ∀ w', Ch [] w w' → K (.tuple #[hlV ([], 0), I64 (may [x])]) w')
    (k3 : ∀ (j : Nat) y, i = j → l[j]? = some y → may [x] = 0 → ∀ w', HAt w' b (l.set j x) base most L → Ch L w w' → K (.tuple #[hlV y, I64 0]) w') : S.call Try.prog 36 [PT b, I64 i, hlV x] K w := by
  refine F36_link ?_
  unfold F36
  refine Go.Fw.bx fun w1 hb1 hc1 hs1 => ?_
  have hb1' : w1.heap[w.heap.size]? = some (.cells #[strV x.1, .int .i64 x.2] 36 (0, 0)) := hb1
  generalize w.heap.size = t5 at hb1'
  refine Go.Fw.al z36 fun w2 hb2 hc2 hs2 => ?_
  have hb2' : w2.heap[w1.heap.size]? = some (.cells #[strV [], .int .i64 0] 36 (0, 0)) := hb2
  have hc02 : Ch [] w w2 := hc1.trans hc2 (by simp)
  have h52 := hc2.at_ hb1' (by simp)
  refine hnone (h.ch hc02 (by simp)) hb ?_
  rw [br_false]
  refine at__ (h.ch hc02 (by simp)) hb i (fun ho w3 hc3 => ?_) (fun j y hj hy w3 hc3 => ?_)
  · rw [x20, x21]
    refine Go.Fw.al z36 fun w4 hb4 hc4 hs4 => ?_
    refine stw ag36 hb4 rfl rfl (by simp [Value.oneCell', strV]) fun w5 hb5 hc5 hs5 => ?_
    have hc35 : Ch [] w3 w5 := hc4.trans hc5 (by simp)
    rw [not_v, show (!false) = true from rfl, br_true, v_eq (build36z w5)]
    refine stw ag36 ((hc3.trans hc35 (by simp)).at_ hb2' (by simp)) rfl rfl (by simp [Value.oneCell', strV]) fun w6 hb6 hc6 hs6 => ?_
    rw [ldR_p ag36 hb6 rfl]
    exact k1 ho w6 ((hc02.trans (hc3.trans hc35 (by simp)) (by simp)).trans hc6 (by have := hc1.size; simp; omega))
  · rw [x20, x21]
    refine Go.Fw.al z36 fun w4 hb4 hc4 hs4 => ?_
    refine stw ag36 hb4 rfl rfl (by simp [Value.oneCell', strV]) fun w5 hb5 hc5 hs5 => ?_
    have hc25 : Ch [] w2 w5 := hc3.trans (hc4.trans hc5 (by simp)) (by simp)
    have h55 := hc25.at_ h52 (by simp)
    have h65 := hc25.at_ hb2' (by simp)
    rw [not_v, show (!true) = false from rfl, br_false, ldw_v ag36 h55 rfl, v_eq (bs36 w5 _ _)]
    have hrl : RL (w5.alloc (.cells #[strV x.1, .int .i64 x.2] 36)) (w5.alloc (.cells #[strV x.1, .int .i64 x.2] 36)).heap.size (.slice (some ⟨w5.heap.size, 0, none⟩) 1 1) [x] := by
      exact Own.rd (Own.fresh (e := 36) (sz := 2) (n := 1) (heap_alloc_new w5 _) rfl (by simp only [maxLen]; omega))
    refine may_ hrl (Nat.le_refl _) fun w6 hc6 => ?_
    have hc56 : Ch [] w5 w6 := (ch_alloc w5 _).trans hc6 (by simp)
    have hc06 : Ch [] w w6 := (hc02.trans hc25 (by simp)).trans hc56 (by simp)
    have h56 := hc56.at_ h55 (by simp)
    have h66 := hc56.at_ h65 (by simp)
    rw [ne_v]
    refine br_dec _ _ _ (fun hn => ?_) (fun hn => ?_)
    · rw [v_eq (build36z w6)]
      refine stw ag36 h66 rfl rfl (by simp [Value.oneCell', strV]) fun w7 hb7 hc7 hs7 => ?_
      rw [ldR_p ag36 hb7 rfl]
      exact k2 j y hj hy hn w7 (hc06.trans hc7 (by have := hc1.size; simp; omega))
    · have hm0 : may [x] = 0 := by omega
      have hjl := (List.getElem?_eq_some_iff.1 hy).1
      refine drawn_ok fun w7 hc7 hs7 => ?_
      have hc07 : Ch [] w w7 := hc06.trans hc7 (by simp)
      have h57 := hc7.at_ h56 (by simp)
      have h67 := hc7.at_ h66 (by simp)
      have h87 := ((hc56.trans hc7 (by simp)).at_ hb5 (by simp))
      obtain ⟨lv, Ll, h1, h2, h5⟩ := (h.ch hc07 (by simp)).ex
      have hnd := h.nodup
      have hlt := h.lt
      subst h5
      have hbL : b ∉ Ll := (List.nodup_cons.1 hnd).1
      obtain ⟨g, off, c, rfl, rfl, hcc⟩ := Own.some_ h2 (by omega)
      have hcm : c ≤ 9223372036854775807 := by obtain ⟨_, _, h, _, h3⟩ := Own.shape h2; injection h with _ _ h; subst h; simpa [maxLen] using h3
      rw [nilC_p, fa_p fo87_0, fa_p fo85_0, ld_p sc28 (cells3 h1).1, ldw_p ag36 h57 rfl, hj, ia_p el28 (by omega) (by omega), Int.toNat_natCast]
      refine stoA ag36 h2 hjl rfl (by simp [Value.oneCell', strV]) fun w8 ho8 hc8 hs8 => ?_
      have hl8 : LS w8 (.slice (some ⟨g, off, none⟩) l.length c) (l.set j x) [g] := by
        unfold LS
        rw [List.length_set, ← lines_put hjl]
        exact ho8
      have hg0 : g < w.heap.size := hlt g (by simp)
      have s1 := hc1.size
      have s25 := hc25.size
      have s3 := hc3.size
      have hne1 : w1.heap.size ≠ g := by omega
      have hne3 : w3.heap.size ≠ g := by omega
      rw [ldw_v ag36 (hc8.at_ h87 (by simp; omega)) rfl]
      refine stw ag36 (hc8.at_ h67 (by simp; omega)) rfl rfl (by simp [Value.oneCell', strV]) fun w9 hb9 hc9 hs9 => ?_
      rw [ldR_p ag36 hb9 rfl]
      have hbg : b ≠ g := by simpa using hbL
      have hb0 : b < w.heap.size := hlt b (by simp)
      refine k3 j y hj hy hm0 w9 ⟨⟨_, [g], (hc9.at_ (hc8.at_ h1 (by simpa using hbg)) (by simp; omega)), Own.ch hl8 hc9 (by simp; omega), rfl⟩, hnd⟩ ?_
      exact ((hc07.nil (L := [b, g])).trans hc8 (by simp)).trans hc9 (by simp; omega)
theorem remove_ {b : Nat} {l : List HL} {base most : Int} {L : List Nat} (h : HAt w b l base most L) (hb : base ≠ 0) (i : Int)
    (k1 : (i < 0 ∨ (l.length : Int) ≤ i) → ∀ w', Ch [] w w' → K (.tuple #[hlV ([], 0), I64 4]) w')
    (k2 : ∀ (j : Nat) y, i = j → l[j]? = some y → ∀ w', HAt w' b (l.eraseIdx j) base most L → Ch L w w' → K (.tuple #[hlV y, I64 0]) w') : S.call Try.prog 38 [PT b, I64 i] K w := by
  refine F38_link ?_
  unfold F38
  refine Go.Fw.al z36 fun w2 hb2 hc2 hs2 => ?_
  have hb2' : w2.heap[w.heap.size]? = some (.cells #[strV [], .int .i64 0] 36 (0, 0)) := hb2
  generalize ht4 : w.heap.size = t4 at hb2'
  refine hnone (h.ch hc2 (by simp)) hb ?_
  rw [br_false]
  refine at__ (h.ch hc2 (by simp)) hb i (fun ho w3 hc3 => ?_) (fun j y hj hy w3 hc3 => ?_)
  · rw [x20, x21]
    refine Go.Fw.al z36 fun w4 hb4 hc4 hs4 => ?_
    refine stw ag36 hb4 rfl rfl (by simp [Value.oneCell', strV]) fun w5 hb5 hc5 hs5 => ?_
    have hc35 : Ch [] w3 w5 := hc4.trans hc5 (by simp)
    rw [not_v, show (!false) = true from rfl, br_true, v_eq (build36z w5)]
    refine stw ag36 ((hc3.trans hc35 (by simp)).at_ hb2' (by simp)) rfl rfl (by simp [Value.oneCell', strV]) fun w6 hb6 hc6 hs6 => ?_
    rw [ldR_p ag36 hb6 rfl]
    exact k1 ho w6 ((hc2.trans (hc3.trans hc35 (by simp)) (by simp)).trans hc6 (by simp; omega))
  · rw [x20, x21]
    refine Go.Fw.al z36 fun w4 hb4 hc4 hs4 => ?_
    refine stw ag36 hb4 rfl rfl (by simp [Value.oneCell', strV]) fun w5 hb5 hc5 hs5 => ?_
    have hc25 : Ch [] w2 w5 := hc3.trans (hc4.trans hc5 (by simp)) (by simp)
    have hc05 : Ch [] w w5 := hc2.trans hc25 (by simp)
    have h65 := hc25.at_ hb2' (by simp)
    rw [not_v, show (!true) = false from rfl, br_false]
    have hjl := (List.getElem?_eq_some_iff.1 hy).1
    obtain ⟨lv, Ll, h1, h2, h5⟩ := (h.ch hc05 (by simp)).ex
    have hnd := h.nodup
    have hlt := h.lt
    subst h5
    have hbL : b ∉ Ll := (List.nodup_cons.1 hnd).1
    have hb0 : b < w.heap.size := hlt b (by simp)
    have hLl : ∀ x, x ∈ Ll → x < w.heap.size := fun x hx => hlt x (by simp [hx])
    have hlm : l.length ≤ 9223372036854775807 := by obtain ⟨_, _, _, h1', h2'⟩ := Own.shape h2; simp only [maxLen] at h2'; omega
    rw [nilC_v, fa_v fo87_0, fa_v fo85_0, ld_v sc28 (cells3 h1).1, add_v, wrap_i64 (by omega) (by omega), hj]
    refine delete_ h2 hjl fun r w6 hl6 hc6 => ?_
    obtain ⟨A6, c6, rfl, _⟩ := Own.shape hl6
    have s2 := hc2.size
    have s3 := hc3.size
    have s5 := hc05.size
    have h16 := hc6.at_ h1 hbL
    have h66 := hc6.at_ h65 (fun hx => by have := hLl _ hx; omega)
    have h86 := hc6.at_ hb5 (fun hx => by have := hLl _ hx; omega)
    rw [nilC_v, fa_v fo87_0, fa_v fo85_0]
    refine st sc28 h16 (by simp) rfl fun w7 hb7 hc7 hs7 => ?_
    have hne3 : w3.heap.size ≠ b := by omega
    have hne4 : t4 ≠ b := by omega
    rw [ldw_v ag36 (hc7.at_ h86 (by simp; omega)) rfl]
    refine stw ag36 (hc7.at_ h66 (by simp; omega)) rfl rfl (by simp [Value.oneCell', strV]) fun w8 hb8 hc8 hs8 => ?_
    rw [ldR_p ag36 hb8 rfl]
    refine k2 j y hj hy w8 ⟨⟨_, Ll, hc8.at_ hb7 (by simp; omega), Own.ch (Own.ch hl6 hc7 (by grind)) hc8 (fun x hx => by have := hLl x hx; simp; omega), rfl⟩, hnd⟩ ?_
    exact (((hc05.nil (L := b :: Ll)).trans hc6 (by grind)).trans hc7 (by simp)).trans hc8 (by simp; omega)
theorem build85c (w : World) (A : Option Addr) (n c : Nat) (b m : Int) : (Instr.build 85 #[(0, .slice A n c), (1, .int .i64 b), (2, .int .i64 m)]).run Try.prog w = .ok (.agg #[.slice A n c, .int .i64 b, .int .i64 m]) w := by kernel_rfl
theorem pclone_ {b : Nat} {l : List HL} {base most : Int} {L : List Nat} (h : HAt w b l base most L) (hb : base ≠ 0) (hl : l.length * 24 ≤ 140737488355328)
    (k : ∀ w' b' L', HAt w' b' l base most L' → Ch [] w w' → (∀ x, x ∈ L' → w.heap.size ≤ x) → K (PT b') w') : S.call Try.prog 41 [PT b] K w := by
  refine F41_link ?_
  unfold F41
  refine hnone h hb ?_
  rw [br_false]
  refine drawn_ok fun w1 hc1 hs1 => ?_
  have hq1 := h.ch hc1 (by simp)
  obtain ⟨lv, Ll, h1, h2, h5⟩ := hq1.ex
  have h2' := h2
  obtain ⟨A, c, rfl, _⟩ := Own.shape h2
  refine ⟨fun w' => Ch [] w1 w', Ch.refl _ _, ?_⟩
  refine h_ok (x := PT b) (fun w' hw => run_nilC _) ?_
  refine h_ok (x := PT b) (fun w' hw => run_fa fo87_0) ?_
  refine h_ok (x := PT b) (fun w' hw => run_fa fo85_0) ?_
  refine h_ok (x := .slice A l.length c) (fun w' hw => run_ld sc28 (cells3 (hw.at_ h1 (by simp))).1) ?_
  refine h_ok (x := PT b) (fun w' hw => run_nilC _) ?_
  refine h_ok (x := PT b) (fun w' hw => run_fa fo87_0) ?_
  refine h_ok (x := .pointer (some ⟨b, 1, none⟩)) (fun w' hw => run_fa fo85_1) ?_
  refine h_ok (x := I64 base) (fun w' hw => run_ld sc2 (cells3 (hw.at_ h1 (by simp))).2.1) ?_
  refine h_ok (x := PT b) (fun w' hw => run_nilC _) ?_
  refine h_ok (x := PT b) (fun w' hw => run_fa fo87_0) ?_
  refine h_ok (x := .pointer (some ⟨b, 2, none⟩)) (fun w' hw => run_fa fo85_2) ?_
  refine h_ok (x := I64 most) (fun w' hw => run_ld sc3 (cells3 (hw.at_ h1 (by simp))).2.2) ?_
  refine clone_ (LS.rl h2') (Nat.le_refl _) hl fun r w2 L2 hls2 hcw2 hl2 => ⟨hcw2, ?_⟩
  obtain ⟨A2, c2, rfl, _⟩ := Own.shape hls2
  refine h_ok (fun w' hw => build85c w' _ _ _ _ _) ?_
  refine h_ok (fun w' hw => build87 w' _ _ _) ?_
  refine Go.Fw.bx fun w3 hb3 hc3 hs3 => ⟨hcw2.trans hc3 (by simp), ?_⟩
  have hsz := hc1.size
  have hsz2 := hcw2.size
  have hlt2 := Own.lt hls2
  refine k w3 w2.heap.size (w2.heap.size :: L2) ⟨⟨_, L2, hb3, Own.ch hls2 hc3 (by simp), rfl⟩, List.nodup_cons.2 ⟨fun hx => by have := hlt2 _ hx; omega, Own.nodup hls2⟩⟩ ((hc1.trans hcw2 (by simp)).trans hc3 (by simp)) (fun x hx => ?_)
  simp only [List.mem_cons] at hx
  rcases hx with rfl | hx
  · omega
  · have := hl2 x hx; omega
end
end Go.Proofs.Ytbhgindbdojmmaa
