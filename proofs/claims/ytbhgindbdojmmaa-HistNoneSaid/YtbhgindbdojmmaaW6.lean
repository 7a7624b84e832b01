import Derived.Test.YtbhgindbdojmmaaW5
set_option linter.unusedVariables false
set_option maxRecDepth 4000
namespace Go.Proofs.Ytbhgindbdojmmaa
open Go Go.Fw Go.Proofs Go.RowKit
structure RWAt (w : World) (b : Nat) (was now : List Str) (place : Nat) (L : List Nat) : Prop where
  ex : ∃ wv nv L1 L2, w.heap[b]? = some (.cells #[wv, nv, .int .i64 place] 64 (0, 0)) ∧ SS w wv was L1 ∧ SS w nv now L2 ∧ L = b :: (L1 ++ L2)
  nodup : L.Nodup
theorem RWAt.ch {w w' : World} {b : Nat} {was now : List Str} {place : Nat} {L M : List Nat} (h : RWAt w b was now place L) (hc : Ch M w w') (hd : ∀ x, x ∈ L → x ∉ M) : RWAt w' b was now place L := by
  obtain ⟨wv, nv, L1, L2, h1, h2, h3, h5⟩ := h.ex
  subst h5
  exact ⟨⟨wv, nv, L1, L2, hc.at_ h1 (hd b (by simp)), Own.ch h2 hc (fun x hx => hd x (by simp [hx])), Own.ch h3 hc (fun x hx => hd x (by simp [hx])), rfl⟩, h.nodup⟩
theorem RWAt.lt {w : World} {b : Nat} {was now : List Str} {place : Nat} {L : List Nat} (h : RWAt w b was now place L) : ∀ x, x ∈ L → x < w.heap.size := by
  obtain ⟨wv, nv, L1, L2, h1, h2, h3, h5⟩ := h.ex
  subst h5
  intro x hx
  simp only [List.mem_cons, List.mem_append] at hx
  rcases hx with rfl | hx | hx
  · exact lt_of_heap h1
  · exact Own.lt h2 x hx
  · exact Own.lt h3 x hx
theorem build64 (w : World) (n : Int) : (Instr.build 64 #[(2, .int .i64 n)]).run Try.prog w = .ok (.agg #[.slice none 0 0, .slice none 0 0, .int .i64 n]) w := by kernel_rfl
section
variable {w : World} {K : Value → World → Prop}
theorem radd_ {b B : Nat} {l m : List HL} {base : Int} {most : Nat} {L : List Nat} {v : Value} (h : LAt w b l base most L) (hr : RL w B v m) (hl : (l.length + m.length) * 24 ≤ 140737488355328) (hbase : 0 ≤ base ∧ base ≤ 2305843009213693952) (hm : most ≤ 4096) (hB : ∀ x, x ∈ L → B ≤ x)
    (k1 : may m ≠ 0 → K (I64 (may m)) w)
    (k2 : may m = 0 → ∀ w' L', LAt w' b ((l ++ m).drop (l.length + m.length - most)) (base + ((l.length + m.length - most : Nat) : Int)) most L' → Ch L w w' → (∀ x, x ∈ L' → x ∈ L ∨ w.heap.size ≤ x) → K (I64 0) w') : S.call Try.prog 50 [PT b, v] K w := by
  refine F50_link ?_
  unfold F50
  refine rmay_ hr ?_
  rw [ne_v]
  refine br_dec _ _ _ (fun hn => k1 hn) (fun hn => ?_)
  have hmay : may m = 0 := by omega
  obtain ⟨lv, Ll, h1, h2, h5⟩ := h.ex
  subst h5
  rw [nilC_v, fa_v fo81_0, ld_v sc28 (cells3 h1).1]
  have hrl : Rd w w.heap.size 2 lv l.length (lines l) := Own.rd h2
  refine ap (m := l.length) (news := lines l) sl28 (Own.nil _ _ _) hrl one_lines (by omega) (by omega) fun v1 w1 L1 ho1 hc1 hl1 => ?_
  rw [List.nil_append, Nat.zero_add] at ho1
  have hr1 : Rd w1 B 2 v m.length (lines m) := RL.ch hr hc1
  refine ap (m := m.length) (news := lines m) sl28 ho1 hr1 one_lines (by omega) (by omega) fun v2 w2 L2 ho2 hc2 hl2 => ?_
  have hs1 := hc1.size
  have hf1 : ∀ x, x ∈ L1 → w.heap.size ≤ x := fun x hx => by simpa using hl1 x hx
  have hf2 : ∀ x, x ∈ L2 → w.heap.size ≤ x := fun x hx => by
    rcases hl2 x hx with h | h
    · exact hf1 x h
    · omega
  have hc02 : Ch [] w w2 := hc1.trans hc2 (fun x hx => .inr (hf1 x hx))
  have h12 := hc02.at_ h1 (by simp)
  have hlb := lt_of_heap h1
  obtain ⟨A2, c2, rfl, _⟩ := ho2.shape
  rw [nilC_v, fa_v fo81_0]
  refine st sc28 h12 (by simp) rfl fun w3 hb3 hc3 hs3 => ?_
  have hq3 : LAt w3 b (l ++ m) base most (b :: L2) := by
    refine ⟨⟨_, L2, hb3, ?_, rfl⟩, List.nodup_cons.2 ⟨fun hm => by have := hf2 b hm; omega, ho2.nodup⟩⟩
    unfold LS
    rw [List.length_append, lines_append]
    exact ho2.ch hc3 (fun x hx hm => by simp at hm; have := hf2 x hx; omega)
  refine rcut_ hm _ (l ++ m) base w3 _ _ rfl hq3 (by rw [List.length_append]; omega) (by rw [List.length_append]; omega) fun w4 hq4 hc4 => ?_
  rw [List.length_append] at hq4
  refine k2 hmay w4 _ hq4 ?_ ?_
  · exact ((hc02.nil (L := b :: Ll)).trans hc3 (by simp)).trans hc4 (fun x hx => by
      simp only [List.mem_cons] at hx
      rcases hx with rfl | hx
      · exact .inl (by simp)
      · exact .inr (hf2 x hx))
  · intro x hx
    simp only [List.mem_cons] at hx ⊢
    rcases hx with rfl | hx
    · exact .inl (.inl rfl)
    · exact .inr (hf2 x hx)
theorem rfrom_ {B : Nat} {v : Value} {l : List HL} {most : Nat} (hr : RL w B v l) (hB : B ≤ w.heap.size) (hl : l.length * 24 ≤ 140737488355328) (hm : most ≤ 4096)
    (k1 : may l ≠ 0 → ∀ w', Ch [] w w' → K (.tuple #[.pointer none, I64 (may l)]) w')
    (k2 : may l = 0 → ∀ w' b L', LAt w' b (l.drop (l.length - most)) (1 + ((l.length - most : Nat) : Int)) most L' → Ch [] w w' → (∀ x, x ∈ L' → w.heap.size ≤ x) → K (.tuple #[PT b, I64 0]) w') : S.call Try.prog 22 [I64 most, v] K w := by
  refine F22_link ?_
  unfold F22
  refine rnew_ (fun h => absurd h (by omega)) (fun _ _ w1 hq1 hc1 hs1 => ?_)
  rw [x20, x21, ne_v, decide_eq_false (by simp), br_false]
  refine radd_ hq1 (hr.ch hc1) (by simpa using hl) (by omega) hm (by simpa using hB) (fun hn => ?_) (fun hn w2 L2 hq2 hc2 hl2 => ?_)
  · rw [ne_v, decide_eq_true hn, br_true]
    exact k1 hn w1 hc1
  · rw [ne_v, decide_eq_false (by simp), br_false]
    simp only [List.nil_append, List.length_nil, Nat.zero_add] at hq2
    refine k2 hn w2 _ L2 hq2 (hc1.trans hc2 (by simp)) (fun x hx => ?_)
    rcases hl2 x hx with h | h
    · simp at h; omega
    · omega
theorem rhere_ {b : Nat} {was now : List Str} {place : Nat} {L : List Nat} (h : RWAt w b was now place L) (i : Int)
    (k1 : (i < 0 ∨ (now.length : Int) ≤ i) → K (.tuple #[strV [], .bool false]) w) (k2 : ∀ (j : Nat) x, i = j → now[j]? = some x → K (.tuple #[strV x, .bool true]) w) : S.call Try.prog 26 [PT b, I64 i] K w := by
  refine F26_link ?_
  unfold F26
  rw [lt_v]
  refine br_dec _ _ _ (fun hlt => k1 (.inl hlt)) (fun hlt => ?_)
  obtain ⟨wv, nv, L1, L2, h1, h2, h3, h5⟩ := h.ex
  have h3' := h3
  obtain ⟨A, c, rfl, _⟩ := Own.shape h3
  rw [nilC_v, fa_v fo64_1, ld_v sc62 (cells3 h1).2.1, len_v el62, ge_v]
  refine br_dec _ _ _ (fun hge => k1 (.inr hge)) (fun hge => ?_)
  obtain ⟨j, rfl⟩ := Int.eq_ofNat_of_zero_le (show 0 ≤ i by omega)
  have hlt2 : j < now.length := by omega
  have hget : now[j]? = some now[j] := List.getElem?_eq_getElem hlt2
  rw [nilC_v, fa_v fo64_1, ld_v sc62 (cells3 h1).2.1, ixr_v (j := j) el62 sc9 (Own.rd h3') rfl (strs_get hget)]
  exact k2 j _ rfl hget
theorem rto_ {b : Nat} {was now : List Str} {place : Nat} {L : List Nat} (h : RWAt w b was now place L) (hpl : place < now.length) (hlen : now.length ≤ 9223372036854775807) (i : Int) (s : Str) (hs : s.length ≤ 9223372036854775807)
    (k1 : (i < 0 ∨ (now.length : Int) ≤ i) → K (.tuple #[strV [], I64 6]) w) (k2 : ∀ (j : Nat), i = j → j < now.length → 16384 < s.length → K (.tuple #[strV [], I64 3]) w)
    (k3 : ∀ (j : Nat) x w' , i = j → s.length ≤ 16384 → (now.set place s)[j]? = some x → RWAt w' b was (now.set place s) j L → Ch L w w' → K (.tuple #[strV x, I64 0]) w') : S.call Try.prog 24 [PT b, I64 i, strV s] K w := by
  refine F24_link ?_
  unfold F24
  rw [lt_v]
  refine br_dec _ _ _ (fun hlt => k1 (.inl hlt)) (fun hlt => ?_)
  obtain ⟨wv, nv, L1, L2, h1, h2, h3, h5⟩ := h.ex
  have h3' := h3
  subst h5
  obtain ⟨A, c, rfl, hc1, hc2⟩ := Own.shape h3
  rw [nilC_v, fa_v fo64_1, ld_v sc62 (cells3 h1).2.1, len_v el62, ge_v]
  refine br_dec _ _ _ (fun hge => k1 (.inr hge)) (fun hge => ?_)
  obtain ⟨j, rfl⟩ := Int.eq_ofNat_of_zero_le (show 0 ≤ i by omega)
  have hlt2 : j < now.length := by omega
  rw [lenS_v und9, gt_v]
  refine br_dec _ _ _ (fun hgt => k2 j rfl hlt2 (by omega)) (fun hgt => ?_)
  refine drawn_ok fun w1 hcw1 hs1 => ?_
  have h11 := hcw1.at_ h1 (by simp)
  have h31 := Own.ch h3' hcw1 (by simp)
  obtain ⟨g, off, c1, hA, hL2, _⟩ := Own.some_ h31 (by omega)
  injection hA with hA _ hA2
  subst hA hL2
  have hnd := h.nodup
  have hbL : b ≠ g := fun e => by subst e; simp at hnd
  rw [nilC_p, fa_p fo64_1, ld_p sc62 (cells3 h11).2.1, nilC_p, fa_p fo64_2, ld_p sc3 (cells3 h11).2.2, ia_p el62 (by omega) (by omega), Int.toNat_natCast, Nat.mul_one]
  refine sto sc9 h31 hpl rfl fun w2 ho2 hcw2 hs2 => ?_
  rw [strs_set] at ho2
  have h12 := hcw2.at_ h11 (by simpa using hbL)
  rw [nilC_v, fa_v fo64_2]
  refine st sc3 h12 (by simp) rfl fun w3 hb3 hcw3 hs3 => ?_
  have ho3 : SS w3 (.slice (some ⟨g, off, none⟩) now.length c) (now.set place s) [g] := by
    have := ho2.ch hcw3 (by simpa using Ne.symm hbL)
    unfold SS
    rw [List.length_set]
    exact this
  have hlt3 : j < (now.set place s).length := by rw [List.length_set]; exact hlt2
  have hget : (now.set place s)[j]? = some (now.set place s)[j] := List.getElem?_eq_getElem hlt3
  have h23 : SS w3 wv was L1 := by
    have hg1 : ∀ x, x ∈ L1 → x ≠ b ∧ x ≠ g := fun x hx => by
      simp only [List.nodup_cons, List.mem_append, List.nodup_append, List.mem_cons] at hnd
      exact ⟨fun e => hnd.1 (.inl (e ▸ hx)), fun e => hnd.2.2.2 x hx g (by simp) e⟩
    exact Own.ch (Own.ch (Own.ch h2 hcw1 (by simp)) hcw2 (fun x hx => by simpa using (hg1 x hx).2)) hcw3 (fun x hx => by simpa using (hg1 x hx).1)
  rw [nilC_v, fa_v fo64_1, ld_v sc62 (cells3 hb3).2.1, ixr_v (j := j) el62 sc9 (by have := Own.rd ho3; rwa [List.length_set] at this) rfl (strs_get hget)]
  refine k3 j _ w3 rfl (by omega) hget ⟨⟨wv, _, L1, [g], ?_, h23, ho3, rfl⟩, h.nodup⟩ ?_
  · rw [List.length_set] at *
    exact hb3
  · exact ((hcw1.nil (L := b :: (L1 ++ [g]))).trans hcw2 (by simp)).trans hcw3 (by simp)
end
end Go.Proofs.Ytbhgindbdojmmaa
