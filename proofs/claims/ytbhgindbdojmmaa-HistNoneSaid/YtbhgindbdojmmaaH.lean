import Derived.Test.YtbhgindbdojmmaaT
import Derived.Test.YtbhgindbdojmmaaFwAgg
set_option linter.unusedVariables false
set_option maxRecDepth 4000
namespace Go.Proofs.Ytbhgindbdojmmaa
open Go Go.Fw Go.Proofs Go.RowKit
/-- A line: its text and its time. -/
abbrev HL := List UInt8 × Int
def lines : List HL → List Value
  | [] => []
  | x :: r => strV x.1 :: .int .i64 x.2 :: lines r
abbrev hlV (x : HL) : Value := .agg #[strV x.1, .int .i64 x.2]
theorem lines_length (l : List HL) : (lines l).length = l.length * 2 := by
  induction l with
  | nil => rfl
  | cons x r ih => simp only [lines, List.length_cons, ih]; omega
theorem lines_append (a b : List HL) : lines (a ++ b) = lines a ++ lines b := by
  induction a with
  | nil => rfl
  | cons x r ih => simp [lines, ih]
theorem lines_drop : ∀ (l : List HL) (i : Nat), (lines l).drop (i * 2) = lines (l.drop i)
  | l, 0 => by simp
  | [], i + 1 => by simp [lines]
  | x :: r, i + 1 => by
    have : (i + 1) * 2 = i * 2 + 1 + 1 := by omega
    simp only [lines, this, List.drop_succ_cons]
    exact lines_drop r i
theorem lines_take : ∀ (l : List HL) (i : Nat), (lines l).take (i * 2) = lines (l.take i)
  | l, 0 => by simp [lines]
  | [], i + 1 => by simp [lines]
  | x :: r, i + 1 => by
    have : (i + 1) * 2 = i * 2 + 1 + 1 := by omega
    simp only [lines, this, List.take_succ_cons]
    rw [lines_take r i]
theorem lines_el {l : List HL} {i : Nat} {x : HL} (h : l[i]? = some x) : ((lines l).drop (i * 2)).take 2 = [strV x.1, .int .i64 x.2] := by
  obtain ⟨hi, rfl⟩ := List.getElem?_eq_some_iff.1 h
  rw [lines_drop, List.drop_eq_getElem_cons hi]
  rfl
theorem lines_0 {l : List HL} {i : Nat} {x : HL} (h : l[i]? = some x) : (lines l)[i * 2 + 0]? = some (strV x.1) := by
  have := lines_el h
  have h2 : (((lines l).drop (i * 2)).take 2)[0]? = some (strV x.1) := by rw [this]; rfl
  rw [List.getElem?_take_of_lt (by omega), List.getElem?_drop] at h2
  exact h2
theorem one_lines {l : List HL} : ∀ u ∈ lines l, u.oneCell' = true := by
  induction l with
  | nil => intro u hu; cases hu
  | cons x r ih =>
    intro u hu
    simp only [lines, List.mem_cons] at hu
    rcases hu with rfl | rfl | hu
    · rfl
    · rfl
    · exact ih u hu
def LS (w : World) (v : Value) (l : List HL) (L : List Nat) : Prop := Own w 36 2 v l.length (lines l) L
def RL (w : World) (B : Nat) (v : Value) (l : List HL) : Prop := Rd w B 2 v l.length (lines l)
theorem RL.ch {B : Nat} {v : Value} {l : List HL} {w w' : World} (h : RL w B v l) (hc : Ch [] w w') : RL w' B v l := Rd.ch h hc (by simp)
theorem LS.rl {w : World} {v : Value} {l : List HL} {L : List Nat} (h : LS w v l L) : RL w w.heap.size v l := Own.rd h

structure HAt (w : World) (b : Nat) (l : List HL) (base most : Int) (L : List Nat) : Prop where
  ex : ∃ lv Ll, w.heap[b]? = some (.cells #[lv, .int .i64 base, .int .i64 most] 87 (0, 0)) ∧ LS w lv l Ll ∧ L = b :: Ll
  nodup : L.Nodup
theorem HAt.ch {w w' : World} {b : Nat} {l : List HL} {base most : Int} {L M : List Nat} (h : HAt w b l base most L) (hc : Ch M w w') (hd : ∀ x, x ∈ L → x ∉ M) : HAt w' b l base most L := by
  obtain ⟨lv, Ll, h1, h2, h5⟩ := h.ex
  subst h5
  exact ⟨⟨lv, Ll, hc.at_ h1 (hd b (by simp)), Own.ch h2 hc (fun x hx => hd x (by simp [hx])), rfl⟩, h.nodup⟩
theorem HAt.lt {w : World} {b : Nat} {l : List HL} {base most : Int} {L : List Nat} (h : HAt w b l base most L) : ∀ x, x ∈ L → x < w.heap.size := by
  obtain ⟨lv, Ll, h1, h2, h5⟩ := h.ex
  subst h5
  intro x hx
  simp only [List.mem_cons] at hx
  rcases hx with rfl | hx
  · exact lt_of_heap h1
  · exact Own.lt h2 x hx
abbrev PT (b : Nat) : Value := .pointer (some ⟨b, 0, none⟩)
abbrev I64 (n : Int) : Value := .int .i64 n
theorem ag36 : aggSz Try.prog 36 = some 2 := by kernel_rfl
theorem z36 : zeroT Try.prog 36 = some (.agg #[strV [], .int .i64 0]) := by kernel_rfl
theorem und9 : Try.prog.underlying 9 = some .string := by kernel_rfl
theorem build85 (w : World) (m : Int) : (Instr.build 85 #[(1, .int .i64 1), (2, .int .i64 m)]).run Try.prog w = .ok (.agg #[.slice none 0 0, .int .i64 1, .int .i64 m]) w := by kernel_rfl
theorem build87 (w : World) (a b c : Value) : (Instr.build 87 #[(0, .agg #[a, b, c])]).run Try.prog w = .ok (.agg #[a, b, c]) w := by kernel_rfl
theorem build36 (w : World) (s : ByteArray) : (Instr.build 36 #[(0, .string s)]).run Try.prog w = .ok (.agg #[.string s, .int .i64 0]) w := by kernel_rfl
theorem build36z (w : World) : (Instr.build 36 #[]).run Try.prog w = .ok (.agg #[strV [], .int .i64 0]) w := by kernel_rfl
def may (l : List HL) : Int := if l.any (fun x => decide (16384 < x.1.length)) then 3 else if l.any (fun x => decide (x.2 < 0)) then 1 else 0
section
variable {w : World} {K : Value → World → Prop}
theorem hnone {b : Nat} {l : List HL} {base most : Int} {L : List Nat} (h : HAt w b l base most L) (hb : base ≠ 0) (k : K (.bool false) w) : S.call Try.prog 42 [PT b] K w := by
  obtain ⟨lv, Ll, h1, h2, h5⟩ := h.ex
  refine F42_link ?_
  unfold F42
  rw [eqn_v pt23, Option.isNone_some, br_false, nilC_v, fa_v fo87_0, fa_v fo85_1, ld_v sc2 (cells3 h1).2.1, eq_v, decide_eq_false hb]
  exact k
theorem new_ {most : Int} (k1 : (most < 0 ∨ 4096 < most) → K (.tuple #[.pointer none, I64 1]) w)
    (k2 : 0 ≤ most → most ≤ 4096 → ∀ w', HAt w' w.heap.size [] 1 most [w.heap.size] → Ch [] w w' → w'.heap.size = w.heap.size + 1 → K (.tuple #[PT w.heap.size, I64 0]) w') : S.call Try.prog 9 [I64 most] K w := by
  refine F9_link ?_
  unfold F9
  rw [lt_v]
  refine br_dec _ _ _ (fun h => k1 (.inl h)) (fun h => ?_)
  rw [gt_v]
  refine br_dec _ _ _ (fun h2 => k1 (.inr h2)) (fun h2 => ?_)
  rw [v_eq (build85 w most), v_eq (build87 ..)]
  refine bx fun w' hb hc hs => k2 (by omega) (by omega) w' ⟨⟨_, [], hb, Own.nil _ _ _, rfl⟩, by simp⟩ hc hs
theorem clone_ {B : Nat} {v : Value} {l : List HL} (h : RL w B v l) (hB : B ≤ w.heap.size) (hl : l.length * 24 ≤ 140737488355328) (k : ∀ r w' L, LS w' r l L → Ch [] w w' → (∀ x, x ∈ L → w.heap.size ≤ x) → K r w') : S.call Try.prog 45 [v] K w := by
  have h0 := h
  obtain ⟨A, c, rfl, hc1, hc2, h4, _⟩ := h.form
  refine F45_link ?_
  unfold F45
  rw [eqsl_v el28]
  cases A with
  | none =>
    have hn : l = [] := by
      rcases Nat.eq_zero_or_pos l.length with h | h
      · exact List.eq_nil_of_length_eq_zero h
      · obtain ⟨b, off, e, _⟩ := h4 h; cases e
    subst hn
    rw [Option.isNone_none, br_true]
    exact k _ _ [] (Own.nil _ _ _) (Ch.refl _ _) (by simp)
  | some a =>
    rw [Option.isNone_some, br_false]
    refine bs0 sl28 ?_
    intro w1 ho1 hcw1 hs1
    have hr1 : Rd w1 B 2 (.slice (some a) l.length c) l.length (lines l) := RL.ch h0 hcw1
    refine ap (n := 0) (m := l.length) (xs := []) (news := lines l) sl28 ho1 hr1 one_lines (by omega) (by omega) fun v2 w2 L2 ho2 hcw2 hl2 => ?_
    refine k _ _ L2 ?_ (hcw1.trans hcw2 (by simp)) (fun x hx => ?_)
    · have := ho2
      rw [List.nil_append, Nat.zero_add] at this
      exact this
    · rcases hl2 x hx with h | h
      · simp at h; omega
      · omega
theorem len_ {b : Nat} {l : List HL} {base most : Int} {L : List Nat} (h : HAt w b l base most L) (hb : base ≠ 0) (k : K (I64 l.length) w) : S.call Try.prog 12 [PT b] K w := by
  obtain ⟨lv, Ll, h1, h2, h5⟩ := h.ex
  obtain ⟨A, c, rfl, _⟩ := Own.shape h2
  refine F12_link ?_
  unfold F12
  refine hnone h hb ?_
  rw [br_false, nilC_v, fa_v fo87_0, fa_v fo85_0, ld_v sc28 (cells3 h1).1, len_v el28]
  exact k
theorem base_ {b : Nat} {l : List HL} {base most : Int} {L : List Nat} (h : HAt w b l base most L) (hb : base ≠ 0) (k : K (I64 base) w) : S.call Try.prog 13 [PT b] K w := by
  obtain ⟨lv, Ll, h1, h2, h5⟩ := h.ex
  refine F13_link ?_
  unfold F13
  refine hnone h hb ?_
  rw [br_false, nilC_v, fa_v fo87_0, fa_v fo85_1, ld_v sc2 (cells3 h1).2.1]
  exact k
theorem stifled_ {b : Nat} {l : List HL} {base : Int} {most : Nat} {L : List Nat} (h : HAt w b l base most L) (hl : l.length * 24 ≤ 200000000000000) (hbase : 0 ≤ base ∧ base ≤ 4611686018427387904) (hm : most ≤ 4096)
    (k : ∀ r w' L', HAt w' b (l.drop (l.length - most)) (base + ((l.length - most : Nat) : Int)) most L' → Ch L w w' → (∀ x, x ∈ L' → x ∈ L ∨ w.heap.size ≤ x) → K r w') : S.call Try.prog 44 [PT b] K w := by
  obtain ⟨lv, Ll, h1, h2, h5⟩ := h.ex
  have h2' := h2
  obtain ⟨A, c, rfl, hc1, hc2⟩ := Own.shape h2
  subst h5
  refine F44_link ?_
  unfold F44
  refine drawn_ok fun w1 hcw1 hs1 => ?_
  have h1' := hcw1.at_ h1 (by simp)
  rw [nilC_p, fa_p fo87_0, fa_p fo85_0, ld_p sc28 (cells3 h1').1, len_p el28, nilC_p, fa_p fo87_0, fa_p fo85_2, ld_p sc3 (cells3 h1').2.2, sub_p]
  have hcm : c ≤ 9223372036854775807 := by simp only [maxLen] at hc2; omega
  have hlm : l.length ≤ 8333333333334 := by omega
  rw [gt_v]
  by_cases hle : l.length ≤ most
  · rw [wrap_i64 (by omega) (by omega), decide_eq_false (by omega), br_false]
    have e0 : l.length - most = 0 := by omega
    have hres := k (.tuple #[]) w1 _ (by rw [e0]; simpa using h.ch hcw1 (by simp)) hcw1.nil (fun x hx => .inl hx)
    exact hres
  · have hpos : (l.length : Int) - most = ((l.length - most : Nat) : Int) := by omega
    rw [wrap_i64 (by omega) (by omega), decide_eq_true (by omega), br_true, hpos, nilC_v, fa_v fo87_0, fa_v fo85_0, ld_v sc28 (cells3 h1').1, cutl_v el28 _ rfl (by omega) hc1]
    have hr1 : Rd w1 w1.heap.size 2 (.slice A l.length c) l.length (lines l) := Own.rd (Own.ch h2' hcw1 (by simp))
    have hcut := Rd.cut hr1 (l := l.length - most) (u := l.length) (by omega) (Nat.le_refl _) (by omega)
    have hrl : RL w1 w1.heap.size (cutS 2 A c (l.length - most) l.length) (l.drop (l.length - most)) := by
      unfold RL
      rw [List.length_drop]
      have e : ((lines l).drop ((l.length - most) * 2)).take ((l.length - (l.length - most)) * 2) = lines (l.drop (l.length - most)) := by
        rw [lines_drop, List.take_of_length_le (by rw [lines_length, List.length_drop]; omega)]
      rw [e] at hcut
      exact hcut
    refine clone_ hrl (Nat.le_refl _) (by rw [List.length_drop]; omega) fun r w2 L2 hls2 hcw2 hl2 => ?_
    have hcw02 : Ch [] w w2 := hcw1.trans hcw2 (by simp)
    have h12 := hcw02.at_ h1 (by simp)
    have hnd := h.nodup
    have hlt := h.lt
    have hnd2 : L2.Nodup := Own.nodup hls2
    have hlt2 := Own.lt hls2
    have hsz := hcw1.size
    obtain ⟨A2, c2, rfl, _⟩ := Own.shape hls2
    rw [nilC_v, fa_v fo87_0, fa_v fo85_0]
    refine st sc28 h12 (by simp) rfl fun w3 hb3 hc3 hs3 => ?_
    rw [nilC_v, fa_v fo87_0, fa_v fo85_1, ld_v sc2 (cells3 hb3).2.1, add_v, wrap_i64 (by omega) (by omega), nilC_v, fa_v fo87_0, fa_v fo85_1]
    refine st sc2 hb3 (by simp) rfl fun w4 hb4 hc4 hs4 => ?_
    have hbL : b ∉ L2 := fun hm => by have := hl2 b hm; have := hlt b (by simp); omega
    refine k _ w4 (b :: L2) ⟨⟨_, L2, hb4, ?_, rfl⟩, List.nodup_cons.2 ⟨hbL, hnd2⟩⟩ ?_ ?_
    · exact Own.ch (Own.ch hls2 hc3 (by grind)) hc4 (by grind)
    · exact ((hcw02.nil (L := b :: Ll)).trans hc3 (by simp)).trans hc4 (by simp)
    · intro x hx
      simp only [List.mem_cons] at hx ⊢
      rcases hx with rfl | hx
      · exact .inl (.inl rfl)
      · have := hl2 x hx; right; omega
theorem may_ {B : Nat} {v : Value} {l : List HL} (h : RL w B v l) (hB : B ≤ w.heap.size) (k : ∀ w', Ch [] w w' → K (I64 (may l)) w') : S.call Try.prog 43 [v] K w := by
  obtain ⟨A, c, rfl, hc1, hc2, h4, _⟩ := h.form
  have hcm : c ≤ 9223372036854775807 := by simp only [maxLen] at hc2; omega
  refine F43_link ?_
  unfold F43
  rw [len_v el28]
  intro I hC
  have key : ∀ (d i : Nat) (x4 x10 x16 : Value) (w' : World), i + d = l.length → (∀ x ∈ l.take i, ¬ 16384 < x.1.length) → Ch [] w w' → I [I64 0, x4, I64 i, x10, x16] w' := by
    intro d
    induction d with
    | zero =>
      intro i x4 x10 x16 w1 hi hall hcw1
      refine hC _ _ _ _ _ _ ?_
      rw [lt_v, decide_eq_false (by omega), br_false, len_v el28]
      rw [List.take_of_length_le (by omega)] at hall
      have h3 : l.any (fun x => decide (16384 < x.1.length)) = false := by
        rw [List.any_eq_false]; intro x hx; simpa using hall x hx
      intro I1 hC1
      have key1 : ∀ (d j : Nat) (x6 x21 x26 : Value) (w' : World), j + d = l.length → (∀ x ∈ l.take j, ¬ x.2 < 0) → Ch [] w w' → I1 [I64 0, x6, I64 j, x21, x26] w' := by
        intro d
        induction d with
        | zero =>
          intro j x6 x21 x26 w2 hj hall2 hcw2
          refine hC1 _ _ _ _ _ _ ?_
          rw [lt_v, decide_eq_false (by omega), br_false]
          rw [List.take_of_length_le (by omega)] at hall2
          have h1 : l.any (fun x => decide (x.2 < 0)) = false := by
            rw [List.any_eq_false]; intro x hx; simpa using hall2 x hx
          have := k w2 hcw2
          unfold may at this
          rw [h3, h1] at this
          exact this
        | succ d ih =>
          intro j x6 x21 x26 w2 hj hall2 hcw2
          refine hC1 _ _ _ _ _ _ ?_
          have hlt : j < l.length := by omega
          have hget : l[j]? = some l[j] := List.getElem?_eq_getElem hlt
          rw [lt_v, decide_eq_true (by omega), br_true, ixa_v (j := j) el28 ag36 (h.ch hcw2) (by omega) rfl hlt (lines_el hget)]
          refine al z36 fun w3 hb3 hc3 hs3 => ?_
          refine stw ag36 hb3 rfl rfl (by simp [Value.oneCell', strV]) fun w4 hb4 hc4 hs4 => ?_
          have hcw4 : Ch [] w w4 := (hcw2.trans hc3 (by simp)).trans hc4 (by have := hcw2.size; simp; omega)
          rw [fa_v fo36_1, ld_v sc2 (cells2 hb4).2, lt_v]
          refine br_dec _ _ _ (fun hn => ?_) (fun hn => ?_)
          · have h1 : l.any (fun x => decide (x.2 < 0)) = true := List.any_eq_true.2 ⟨l[j], List.getElem_mem hlt, by simpa using hn⟩
            have := k w4 hcw4
            unfold may at this
            rw [h3, h1] at this
            exact this
          · rw [add_v, wrap_i64 (by omega) (by omega)]
            have := ih (j + 1) (PT w2.heap.size) (.bool true) (.bool false) w4 (by omega) (by
              intro x hx
              rw [List.take_succ_eq_append_getElem hlt, List.mem_append] at hx
              rcases hx with hx | hx
              · exact hall2 x hx
              · simp at hx; rw [hx]; exact hn) hcw4
            rw [show ((j + 1 : Nat) : Int) = (j : Int) + 1 from by omega] at this
            rw [decide_eq_false hn]
            exact this
      exact key1 l.length 0 undef undef undef w1 (by omega) (by simp) hcw1
    | succ d ih =>
      intro i x4 x10 x16 w1 hi hall hcw1
      refine hC _ _ _ _ _ _ ?_
      have hlt : i < l.length := by omega
      have hget : l[i]? = some l[i] := List.getElem?_eq_getElem hlt
      rw [lt_v, decide_eq_true (by omega), br_true, ixa_v (j := i) el28 ag36 (h.ch hcw1) (by omega) rfl hlt (lines_el hget)]
      refine al z36 fun w3 hb3 hc3 hs3 => ?_
      refine stw ag36 hb3 rfl rfl (by simp [Value.oneCell', strV]) fun w4 hb4 hc4 hs4 => ?_
      have hcw4 : Ch [] w w4 := (hcw1.trans hc3 (by simp)).trans hc4 (by have := hcw1.size; simp; omega)
      rw [fa_v fo36_0, ld_v sc9 (cells2 hb4).1, lenS_v und9, gt_v]
      refine br_dec _ _ _ (fun hn => ?_) (fun hn => ?_)
      · have h1 : l.any (fun x => decide (16384 < x.1.length)) = true := List.any_eq_true.2 ⟨l[i], List.getElem_mem hlt, by simp; omega⟩
        have := k w4 hcw4
        unfold may at this
        rw [h1] at this
        exact this
      · rw [add_v, wrap_i64 (by omega) (by omega)]
        have := ih (i + 1) (PT w1.heap.size) (.bool true) (.bool false) w4 (by omega) (by
          intro x hx
          rw [List.take_succ_eq_append_getElem hlt, List.mem_append] at hx
          rcases hx with hx | hx
          · exact hall x hx
          · simp at hx; rw [hx]; omega) hcw4
        rw [show ((i + 1 : Nat) : Int) = (i : Int) + 1 from by omega] at this
        rw [decide_eq_false hn]
        exact this
  exact key l.length 0 undef undef undef w (by omega) (by simp) (Ch.refl _ _)
theorem add_ {b B : Nat} {l m : List HL} {base : Int} {most : Nat} {L : List Nat} {v : Value} (h : HAt w b l base most L) (hr : RL w B v m) (hB : B ≤ w.heap.size) (hl : (l.length + m.length) * 24 ≤ 200000000000000) (hbase : 1 ≤ base ∧ base ≤ 4611686018427387904) (hm : most ≤ 4096)
    (k1 : may m ≠ 0 → ∀ w', HAt w' b l base most L → Ch [] w w' → K (I64 (may m)) w')
    (k2 : may m = 0 → ∀ w' L', HAt w' b ((l ++ m).drop (l.length + m.length - most)) (base + ((l.length + m.length - most : Nat) : Int)) most L' → Ch L w w' → (∀ x, x ∈ L' → x ∈ L ∨ w.heap.size ≤ x) → K (I64 0) w') : S.call Try.prog 11 [PT b, v] K w := by
  refine F11_link ?_
  unfold F11
  refine hnone h (by omega) ?_
  rw [br_false]
  refine may_ hr hB fun w1 hcw1 => ?_
  have hq1 := h.ch hcw1 (by simp)
  rw [ne_v]
  refine br_dec _ _ _ (fun hn => k1 hn w1 hq1 hcw1) (fun hn => ?_)
  have hmay : may m = 0 := by omega
  obtain ⟨lv, Ll, h1, h2, h5⟩ := hq1.ex
  subst h5
  have hr1 : Rd w1 B 2 v m.length (lines m) := RL.ch hr hcw1
  rw [nilC_v, fa_v fo87_0, fa_v fo85_0, ld_v sc28 (cells3 h1).1]
  refine ap0 (n := l.length) (m := m.length) (xs := lines l) (news := lines m) sl28 h2 hr1 one_lines (fun old ho => by have := nextslicecap_wide ho; omega) (by omega) fun v2 w2 L2 ho2 hc2 hl2 => ?_
  have hnd := hq1.nodup
  have hlt := hq1.lt
  have hbL : b ∉ Ll := fun hm => (List.nodup_cons.1 hnd).1 hm
  have h12 := hc2.at_ h1 hbL
  have hnd2 : L2.Nodup := ho2.nodup
  have hlt2 := ho2.lt
  have hsz := hcw1.size
  have hsz2 := hc2.size
  obtain ⟨A2, c2, rfl, _⟩ := ho2.shape
  rw [nilC_v, fa_v fo87_0, fa_v fo85_0]
  refine st sc28 h12 (by simp) rfl fun w3 hb3 hc3 hs3 => ?_
  have hbL2 : b ∉ L2 := fun hm => by
    have := hlt b (by simp)
    rcases hl2 b hm with h | h
    · exact hbL h
    · omega
  have hls3 : LS w3 (.slice A2 (l.length + m.length) c2) (l ++ m) L2 := by
    unfold LS
    rw [List.length_append, lines_append]
    exact ho2.ch hc3 (by grind)
  have hq3 : HAt w3 b (l ++ m) base most (b :: L2) := ⟨⟨_, L2, hb3, hls3, rfl⟩, List.nodup_cons.2 ⟨hbL2, hnd2⟩⟩
  refine stifled_ hq3 (by rw [List.length_append]; omega) (by omega) hm fun r w4 L4 hq4 hc4 hl4 => ?_
  rw [List.length_append] at hq4
  refine k2 hmay w4 L4 hq4 ?_ ?_
  · have h13 : Ch (b :: Ll) w w3 := ((hcw1.nil (L := b :: Ll)).trans hc2 (by grind)).trans hc3 (by grind)
    exact h13.trans hc4 (by grind)
  · intro x hx
    rcases hl4 x hx with h | h
    · simp only [List.mem_cons] at h ⊢
      rcases h with rfl | h
      · exact .inl (.inl rfl)
      · rcases hl2 x h with h' | h'
        · exact .inl (.inr h')
        · right; omega
    · right; omega
end
end Go.Proofs.Ytbhgindbdojmmaa
