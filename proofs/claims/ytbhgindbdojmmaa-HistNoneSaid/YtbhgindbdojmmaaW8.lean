import Derived.Test.YtbhgindbdojmmaaW7
set_option linter.unusedVariables false
set_option maxRecDepth 4000
namespace Go.Proofs.Ytbhgindbdojmmaa
open Go Go.Fw Go.Proofs Go.RowKit
/-! ### What the reference tells of the changes -/
def chs : List (Nat × Str) → List Value
  | [] => []
  | x :: r => I64 x.1 :: strV x.2 :: chs r
theorem chs_length (l : List (Nat × Str)) : (chs l).length = l.length * 2 := by
  induction l with
  | nil => rfl
  | cons x r ih => simp only [chs, List.length_cons, ih]; omega
theorem chs_append (a b : List (Nat × Str)) : chs (a ++ b) = chs a ++ chs b := by
  induction a with
  | nil => rfl
  | cons x r ih => simp [chs, ih]
theorem chs_get : ∀ {l : List (Nat × Str)} {i : Nat} {x : Nat × Str}, l[i]? = some x → (chs l)[i * 2 + 0]? = some (I64 x.1) ∧ (chs l)[i * 2 + 1]? = some (strV x.2)
  | [], i, x, h => by simp at h
  | y :: r, 0, x, h => by simp at h; subst h; exact ⟨rfl, rfl⟩
  | y :: r, i + 1, x, h => by
    have := chs_get (l := r) (i := i) (x := x) (by simpa using h)
    have e : (i + 1) * 2 = i * 2 + 1 + 1 := by omega
    constructor
    · rw [e, show i * 2 + 1 + 1 + 0 = i * 2 + 0 + 1 + 1 from by omega]; simpa [chs] using this.1
    · rw [e, show i * 2 + 1 + 1 + 1 = i * 2 + 1 + 1 + 1 from by omega]; simpa [chs] using this.2
theorem one_chs {l : List (Nat × Str)} : ∀ u ∈ chs l, u.oneCell' = true := by
  induction l with
  | nil => intro u hu; cases hu
  | cons x r ih =>
    intro u hu
    simp only [chs, List.mem_cons] at hu
    rcases hu with rfl | rfl | hu
    · rfl
    · rfl
    · exact ih u hu
theorem chgTo_app (was e now : List Str) : ∀ n, n ≤ was.length → chgTo (was ++ e) now n = chgTo was now n
  | 0, _ => rfl
  | n + 1, h => by
    simp only [chgTo]
    rw [chgTo_app was e now n (by omega), List.getElem?_append_left (by omega)]
theorem build106 (w : World) (n : Int) (s : ByteArray) : (Instr.build 106 #[(0, .int .i64 n), (1, .string s)]).run Try.prog w = .ok (.agg #[.int .i64 n, .string s]) w := by kernel_rfl
theorem bs106 (w : World) (a b : Value) : (Instr.buildSlice 66 1 #[(0, .agg #[a, b])]).run Try.prog w = .ok (.slice (some ⟨w.heap.size, 0, none⟩) 1 1) (w.alloc (.cells #[a, b] 106)) := by kernel_rfl
theorem z4w : zeroT Try.prog 4 = some (.bool false) := by kernel_rfl
theorem z3w : zeroT Try.prog 3 = some (.int .i64 0) := by kernel_rfl
theorem closes_ok {k : World → Prop} : ∀ (bs : List Nat) (w : World), bs.Nodup → (∀ b ∈ bs, w.heap[b]? = some (.deferred (some []))) → (∀ w', Ch bs w w' → w'.heap.size = w.heap.size → k w') → S.closes bs k w
  | [], w, _, _, hk => hk w (Ch.refl _ _) rfl
  | b :: r, w, hn, hb, hk => by
    obtain ⟨h1, h2⟩ := List.nodup_cons.1 hn
    refine ⟨hb b (by simp), fun w1 hd1 hc1 hs1 => ?_⟩
    refine closes_ok r w1 h2 (fun x hx => hc1.at_ (hb x (by simp [hx])) (fun hm => by simp at hm; exact h1 (hm ▸ hx))) (fun w2 hc2 hs2 => ?_)
    exact hk w2 ((hc1.mono (L' := b :: r) (by simp)).trans hc2 (by simp; exact fun x hx => .inl (.inr hx))) (by omega)
theorem marks_add (b : Nat) (v : Value) : marksOf (addMark b v) = b :: marksOf v := by
  simp [marksOf, addMark, marksL, markN]
theorem Ic.mono {w : World} {lo B B' c1 c2 : Nat} {iv : Value} {l : List (Nat × Str)} (h : Ic w lo B c1 c2 iv l) (hB : B ≤ B') : Ic w lo B' c1 c2 iv l := by
  obtain ⟨sv, L1, L2, h1, h2, h3, h4, h5, h6⟩ := h.ex
  have h7 := h.lt
  exact ⟨⟨sv, L1, L2, h1, h2, h3, h4, fun x hx => by have := h5 x hx; omega, fun x hx => by have := h6 x hx; omega⟩, by omega⟩
section
variable {w : World} {K : Value → World → Prop}
theorem ixr_p {P : Program} {t e s B n j : Nat} {v : Value} {xs : List Value} {u : Value} {k : IntKind} {i : Int} {K : Value → World → Prop} (ht : elT P t = some (e, 1)) (hs : scal P s = true) (h : Rd w B 1 v n xs) (hi : i = j) (hj : xs[j]? = some u) :
    S.p P (Instr.indexAt t v (.int k i)) (fun p w => S.p P (Instr.loadAt s p) K w) w = K u w := by
  subst hi
  obtain ⟨A, c, rfl, h2, h3, _⟩ := h.form
  obtain ⟨g, off, rfl, hc⟩ := h.at_ hj
  have hlt := (List.getElem?_eq_some_iff.1 hj).1
  rw [h.len, Nat.mul_one] at hlt
  rw [ia_p ht (by omega) (by omega), Int.toNat_natCast, Nat.mul_one, ld_p hs hc]
theorem nes_p {P : Program} {t : TypeId} {x y : Operand} {a b : List UInt8} {K : Value → World → Prop} : S.p P (S.bin .neq t x y (strV a) (strV b)) K w = K (.bool (decide (a ≠ b))) w := p_eq (run_nes ..)
theorem rchanged_ {b : Nat} {was now : List Str} {place : Nat} {L : List Nat} (h : RWAt w b was now place L) (hlen : was.length = now.length) (hw : now.length ≤ 4097)
    (k : ∀ v w' L', Own w' 106 2 v (chgTo was now (now.length - 1)).length (chs (chgTo was now (now.length - 1))) L' → Ch [] w w' → (∀ x, x ∈ L' → w.heap.size ≤ x) → K v w') : S.call Try.prog 28 [PT b] K w := by
  refine F28_link ?_
  unfold F28
  obtain ⟨wv, nv, L1, L2, h1, h2, h3, h5⟩ := h.ex
  have h2' := h2
  have h3' := h3
  obtain ⟨A, cp, rfl, hcp1, hcp2⟩ := Own.shape h3
  intro I hC
  have key : ∀ (d i : Nat) (x3 x12 x29 : Value) (w' : World) (M : List Nat), i + d = now.length - 1 → Own w' 106 2 x3 (chgTo was now i).length (chs (chgTo was now i)) M → (∀ x, x ∈ M → w.heap.size ≤ x) → Ch [] w w' → I [x3, I64 i, x12, x29] w' := by
    intro d
    induction d with
    | zero =>
      intro i x3 x12 x29 w1 M hi ho hfr hc1
      refine hC _ _ _ _ _ ?_
      have h11 := hc1.at_ h1 (by simp)
      rw [add_v, wrap_i64 (by omega) (by omega), nilC_v, fa_v fo64_1, ld_v sc62 (cells3 h11).2.1, len_v el62, lt_v, decide_eq_false (by omega), br_false]
      rw [show i = now.length - 1 from by omega] at ho
      exact k _ w1 M ho hc1 hfr
    | succ d ih =>
      intro i x3 x12 x29 w1 M hi ho hfr hc1
      refine hC _ _ _ _ _ ?_
      have h11 := hc1.at_ h1 (by simp)
      have hlt2 : i < now.length := by omega
      have hlt : i < was.length := by omega
      have g1 : was[i]? = some was[i] := List.getElem?_eq_getElem hlt
      have g2 : now[i]? = some now[i] := List.getElem?_eq_getElem hlt2
      have hstep : chgTo was now (i + 1) = chgTo was now i ++ (if now[i] ≠ was[i] then [(i, now[i])] else []) := by simp only [chgTo, g1, g2]
      have hcl := chgTo_len was now i
      rw [add_v, wrap_i64 (by omega) (by omega), nilC_v, fa_v fo64_1, ld_v sc62 (cells3 h11).2.1, len_v el62, lt_v, decide_eq_true (by omega), br_true]
      refine seq_ok fun J hJ => ?_
      have hj : ∀ (v x : Value) (w' : World) (M' : List Nat), Own w' 106 2 v (chgTo was now (i + 1)).length (chs (chgTo was now (i + 1))) M' → (∀ x, x ∈ M' → w.heap.size ≤ x) → Ch [] w w' → J [v, x] w' := by
        intro v x w' M' ho' hfr' hc'
        refine hJ _ _ ?_
        rw [add_v, wrap_i64 (by omega) (by omega)]
        have := ih (i + 1) v (.bool true) x w' M' (by omega) ho' hfr' hc'
        rw [show ((i + 1 : Nat) : Int) = (i : Int) + 1 from by omega] at this
        exact this
      clear hJ
      refine drawn_ok fun w2 hc2 hs2 => ?_
      have hc02 : Ch [] w w2 := hc1.trans hc2 (by simp)
      have h12 := hc2.at_ h11 (by simp)
      have hnow2 : SS w2 (.slice A now.length cp) now L2 := Own.ch h3' hc02 (by simp)
      have hwas2 : SS w2 wv was L1 := Own.ch h2' hc02 (by simp)
      have ho2 := ho.ch hc2 (by simp)
      rw [nilC_p, fa_p fo64_1, ld_p sc62 (cells3 h12).2.1, ixr_p (j := i) el62 sc9 (Own.rd hnow2) rfl (strs_get g2), nilC_p, fa_p fo64_0, ld_p sc62 (cells3 h12).1, ixr_p (j := i) el62 sc9 (Own.rd hwas2) rfl (strs_get g1), nes_p]
      refine br_dec _ _ _ (fun hne => ?_) (fun heq => ?_)
      · rw [if_pos hne] at hstep
        rw [nilC_v, fa_v fo64_1, ld_v sc62 (cells3 h12).2.1, ixr_v (j := i) el62 sc9 (Own.rd hnow2) rfl (strs_get g2)]
        rw [show strV now[i] = Value.string ⟨now[i].toArray⟩ from rfl, v_eq (build106 w2 _ _), v_eq (bs106 w2 _ _)]
        have hc3 := ch_alloc w2 (.cells #[I64 i, Value.string ⟨now[i].toArray⟩] 106)
        have ho3 : Own (w2.alloc (.cells #[I64 i, Value.string ⟨now[i].toArray⟩] 106)) 106 2 (.slice (some ⟨w2.heap.size, 0, none⟩) 1 1) 1 (chs [(i, now[i])]) [w2.heap.size] :=
          Own.fresh (n := 1) (sz := 2) (heap_alloc_new w2 _) rfl (by simp [maxLen])
        refine ap (m := 1) (news := chs [(i, now[i])]) sl66 (ho2.ch hc3 (by simp)) ho3.rd one_chs (by omega) (by omega) fun v4 w4 L4 ho4 hc4 hl4 => ?_
        have hsz3 := hc3.size
        have hsz2 := hc02.size
        refine hj v4 _ w4 L4 ?_ (fun x hx => ?_) ((hc02.trans hc3 (by simp)).trans hc4 (fun x hx => .inr (hfr x hx)))
        · rw [hstep, List.length_append, chs_append]
          exact ho4
        · rcases hl4 x hx with h | h
          · exact hfr x h
          · exact Nat.le_trans (Nat.le_trans hsz2 hsz3) h
      · rw [if_neg heq, List.append_nil] at hstep
        exact hj x3 _ w2 M (by rw [hstep]; exact ho2) hfr hc02
  exact key (now.length - 1) 0 _ undef undef w [] (by omega) (Own.nil _ _ _) (by simp) (Ch.refl _ _)
theorem lchanged_ {b : Nat} {was now : List Str} {place : Nat} {L : List Nat} {v : Value} (h : WAt w b was now place L) (hn : now ≠ []) (hlen : was.length ≤ now.length) (hw : was.length ≤ 4096)
    (hr : Rd w w.heap.size 2 v (chg was now).length (chs (chg was now))) (k : ∀ w', Ch [] w w' → K (.bool true) w') : S.call Try.prog 27 [PT b, v] K w := by
  refine F27_link ?_
  unfold F27
  obtain ⟨A, cp, rfl, hcp1, hcp2, _⟩ := hr.form
  have hcl : (chg was now).length ≤ was.length := chgTo_len was now was.length
  generalize hgl : chg was now = l at *
  refine bx fun w1 hb1 hc1 hs1 => ?_
  refine Go.Fw.al z4w fun w2 hb2 hc2 hs2 => ?_
  have hc02 : Ch [] w w2 := hc1.trans hc2 (by simp)
  refine changed_ (h.ch hc02 (by simp)) hn hlen hw fun w3 c1 c2 iv hic hc3 => ?_
  rw [hgl] at hic
  have hc03 : Ch [] w w3 := hc02.trans hc3 (by simp)
  have hsz3 := hc3.size
  have hb13 := (hc2.trans hc3 (by simp)).at_ hb1 (by simp)
  have hb23 := hc3.at_ hb2 (by simp)
  intro I hC
  have key : ∀ (d i : Nat) (xm x6 x12 x13 x43 : Value) (w' : World), i + d = 2 → (marksOf xm).Nodup → (∀ x ∈ marksOf xm, w'.heap[x]? = some (.deferred (some [])) ∧ w3.heap.size ≤ x) → w'.heap[w.heap.size]? = some (.cells #[.slice A l.length cp] 66 (0, 0)) →
      w'.heap[w1.heap.size]? = some (.cells #[.bool false] 4 (0, 0)) → Ic w' w2.heap.size w3.heap.size c1 c2 iv l → Ch [] w w' → w3.heap.size ≤ w'.heap.size → I [xm, x6, I64 i, x12, x13, x43] w' := by
    intro d
    induction d with
    | zero =>
      intro i xm x6 x12 x13 x43 w4 hi hnd hmk hv hb hic hc4 hs4
      refine hC _ _ _ _ _ _ _ ?_
      rw [lt_v, decide_eq_false (by omega), br_false]
      refine st sc4 hb (by simp) rfl fun w5 hb5 hc5 hs5 => ?_
      refine closes_ok _ w5 hnd (fun x hx => hc5.at_ (hmk x hx).1 (by have := (hmk x hx).2; simp; omega)) fun w6 hc6 hs6 => ?_
      rw [ldRs_p sc4 (cells1 (hc6.at_ hb5 (fun hm => by have := (hmk _ hm).2; omega)))]
      exact k w6 ((hc4.trans hc5 (by simp; omega)).trans hc6 (fun x hx => by have := (hmk x hx).2; have := hc03.size; right; omega))
    | succ d ih =>
      intro i xm x6 x12 x13 x43 w4 hi hnd hmk hv hb hic hc4 hs4
      refine hC _ _ _ _ _ _ _ ?_
      rw [lt_v, decide_eq_true (by omega), br_true]
      refine Go.Fw.al z3w fun w5 hb5 hc5 hs5 => ?_
      refine st sc3 hb5 (by simp [Value.cells]) rfl fun w6 hb6 hc6 hs6 => ?_
      have hc46 : Ch [] w4 w6 := hc5.trans hc6 (by simp)
      have hsz4 := hc4.size
      have hsz03 := hc03.size
      refine rngC_ (lo := w2.heap.size) (c1 := c1) (c2 := c2) (iv := iv) (l := l) (E := fun _ => False)
        (J := fun i w' => w'.heap[w4.heap.size]? = some (.cells #[I64 i] 3 (0, 0)) ∧ (∀ x ∈ marksOf xm, w'.heap[x]? = some (.deferred (some []))) ∧ w'.heap[w.heap.size]? = some (.cells #[.slice A l.length cp] 66 (0, 0)) ∧ w'.heap[w1.heap.size]? = some (.cells #[.bool false] 4 (0, 0)) ∧ Ic w' w2.heap.size w3.heap.size c1 c2 iv l ∧ Ch [] w w')
        (by omega) (fun j w' hj => hj.2.2.2.2.1.mono (by omega)) ?_ ?_ (fun _ _ h => h.elim) ?_ ?_ (fun _ _ h => h.elim)
      · intro j wa wb M ⟨j1, j2, j3, j4, j5, j6⟩ hcM hM
        have hml : ∀ x, x ∈ marksOf xm → x < w4.heap.size := fun x hx => lt_of_heap (hmk x hx).1
        exact ⟨hcM.at_ j1 (fun hm => by rcases hM _ hm with h | h <;> omega), fun x hx => hcM.at_ (j2 x hx) (fun hm => by have := hml x hx; rcases hM _ hm with h | h <;> omega), hcM.at_ j3 (fun hm => by rcases hM _ hm with h | h <;> omega), hcM.at_ j4 (fun hm => by rcases hM _ hm with h | h <;> omega),
          j5.ch hcM (fun x hx => by rcases hM x hx with h | h <;> omega), j6.trans hcM (fun x hx => by rcases hM x hx with h | h <;> (right; omega))⟩
      · intro w7 hc7 hs7
        have hc47 := hc46.trans hc7 (by simp)
        exact ⟨hc7.at_ hb6 (by simp), fun x hx => hc47.at_ (hmk x hx).1 (by simp), hc47.at_ hv (by simp), hc47.at_ hb (by simp), hic.ch hc47 (by simp), hc4.trans hc47 (by simp)⟩
      · intro R0 Rb bg dn j x w10 hx ⟨j1, j2, j3, j4, j5, j6⟩ hs hd hl2 hbg hnone hret
        have hin : j < l.length := (List.getElem?_eq_some_iff.1 hx).1
        have hml : ∀ x, x ∈ marksOf xm → x < w4.heap.size := fun x hx => lt_of_heap (hmk x hx).1
        refine hbg _ w10 hl2 fun w11 hc11 hs11 hrb => ?_
        have q1 := hc11.at_ j1 (by simp; omega)
        have q3 := hc11.at_ j3 (by simp; omega)
        have q4 := hc11.at_ j4 (by simp; omega)
        have hc011 : Ch [] w w11 := j6.trans hc11 (by simp; omega)
        have hr11 : Rd w11 w.heap.size 2 (.slice A l.length cp) l.length (chs l) := Rd.ch hr hc011 (by simp)
        obtain ⟨e0, e1⟩ := chs_get hx
        rw [ld_v sc3 (cells1 q1), ld_v sc66 (cells1 q3), len_v el66, ge_v, decide_eq_false (by omega), br_false, ld_v sc66 (cells1 q3), ld_v sc3 (cells1 q1), ixf_v (j := j) el66 fo106_0 sc3 hr11 (by omega) rfl hin e0, nth_zero, ne_v, decide_eq_false (by simp), br_false,
          ld_v sc66 (cells1 q3), ld_v sc3 (cells1 q1), ixf_v (j := j) el66 fo106_1 sc9 hr11 (by omega) rfl hin e1, nth_succ, nth_zero, nes_v, decide_eq_false (by simp), br_false, ld_v sc3 (cells1 q1), add_v, wrap_i64 (by omega) (by omega)]
        refine st sc3 q1 (by simp) rfl fun w12 hb12 hc12 hs12 => ?_
        have hc1012 : Ch [w6.heap.size + 1, w4.heap.size] w10 w12 := (hc11.mono (L' := [w6.heap.size + 1, w4.heap.size]) (by simp)).trans hc12 (by simp)
        have hszw := hc1012.size
        refine hnone w12 (hc12.at_ hrb (by simp; omega)) (hc1012.at_ hd (by simp; omega)) (by omega) ⟨?_, fun y hy => hc1012.at_ (j2 y hy) (by have := hml y hy; simp; omega), hc1012.at_ j3 (by simp; omega), hc1012.at_ j4 (by simp; omega), j5.ch hc1012 (by simp; omega), j6.trans hc1012 (by simp; omega)⟩
        have : ((j + 1 : Nat) : Int) = (j : Int) + 1 := by omega
        rw [this]
        exact hb12
      · intro wa wb ⟨j1, j2, j3, j4, j5, j6⟩ hd hs hcb
        have hml : ∀ x, x ∈ marksOf xm → x < w4.heap.size := fun x hx => lt_of_heap (hmk x hx).1
        have q1 := hcb.at_ j1 (by simp; omega)
        have q3 := hcb.at_ j3 (by simp; omega)
        have hszb := hcb.size
        rw [ld_v sc3 (cells1 q1), ld_v sc66 (cells1 q3), len_v el66, ne_v, decide_eq_false (by simp), br_false, add_v, wrap_i64 (by omega) (by omega)]
        have := ih (i + 1) (addMark w6.heap.size xm) (PT w4.heap.size) (.bool true) (ChV c1 c2) (.bool false) wb (by omega) (by
            rw [marks_add, List.nodup_cons]
            exact ⟨fun hm => by have := hml _ hm; omega, hnd⟩)
          (by
            intro x hx
            rw [marks_add, List.mem_cons] at hx
            rcases hx with rfl | hx
            · exact ⟨hcb.at_ hd (by simp), by omega⟩
            · exact ⟨hcb.at_ (j2 x hx) (by have := hml x hx; simp; omega), (hmk x hx).2⟩)
          q3 (hcb.at_ j4 (by simp; omega)) (j5.ch hcb (by simp; omega)) (j6.trans hcb (by simp; omega)) (by omega)
        rw [show ((i + 1 : Nat) : Int) = (i : Int) + 1 from by omega] at this
        exact this
  exact key 2 0 undef undef undef undef undef w3 (by omega) (by simp [marksOf, marksL, undef]) (by simp [marksOf, marksL, undef]) hb13 hb23 hic hc03 (Nat.le_refl _)
end
end Go.Proofs.Ytbhgindbdojmmaa
