import Derived.Test.YtbhgindbdojmmaaE4
set_option linter.unusedVariables false
set_option maxRecDepth 4000
namespace Go.Proofs.Ytbhgindbdojmmaa
open Go Go.Fw Go.Proofs Go.RowKit
/-! ### What the operations do, as functions -/
def getL (l : List HL) (i : Int) : HL × Bool := if 0 ≤ i ∧ i < l.length then ((l[i.toNat]?).getD ([], 0), true) else (([], 0), false)
def repL (l : List HL) (i : Int) (x : HL) : HL × Int × List HL := if 0 ≤ i ∧ i < l.length then (if may [x] = 0 then ((l[i.toNat]?).getD ([], 0), 0, l.set i.toNat x) else (([], 0), may [x], l)) else (([], 0), 4, l)
def remL (l : List HL) (i : Int) : HL × Int × List HL := if 0 ≤ i ∧ i < l.length then ((l[i.toNat]?).getD ([], 0), 0, l.eraseIdx i.toNat) else (([], 0), 4, l)
def addL (l m : List HL) (most : Nat) : List HL × Nat := if may m = 0 then ((l ++ m).drop (l.length + m.length - most), l.length + m.length - most) else (l, 0)
def stfL (l : List HL) (m : Int) (most : Nat) : Int × List HL × Nat × Nat := if m < 0 ∨ 4096 < m then (1, l, 0, most) else (0, l.drop (l.length - m.toNat), l.length - m.toNat, m.toNat)
section
variable {w : World} {K : Value → World → Prop}
theorem at1_ {b : Nat} {l : List HL} {base most : Int} {L : List Nat} (h : HAt w b l base most L) (hb : base ≠ 0) (i : Int) (k : ∀ w', Ch [] w w' → K (.tuple #[hlV (getL l i).1, .bool (getL l i).2]) w') : S.call Try.prog 21 [PT b, I64 i] K w := by
  unfold getL at k
  refine at__ h hb i (fun ho w' hc => ?_) (fun j x hj hx w' hc => ?_)
  · have := k w' hc
    rw [if_neg (by omega)] at this
    exact this
  · subst hj
    have hjl := (List.getElem?_eq_some_iff.1 hx).1
    have := k w' hc
    rw [if_pos (by omega), Int.toNat_natCast, hx] at this
    exact this
theorem rat1_ {b : Nat} {l : List HL} {base most : Int} {L : List Nat} (h : LAt w b l base most L) (i : Int) (k : ∀ w', Ch [] w w' → K (.tuple #[hlV (getL l i).1, .bool (getL l i).2]) w') : S.call Try.prog 55 [PT b, I64 i] K w := by
  unfold getL at k
  refine rat_ h i (fun ho w' hc => ?_) (fun j x hj hx w' hc => ?_)
  · have := k w' hc
    rw [if_neg (by omega)] at this
    exact this
  · subst hj
    have hjl := (List.getElem?_eq_some_iff.1 hx).1
    have := k w' hc
    rw [if_pos (by omega), Int.toNat_natCast, hx] at this
    exact this
theorem number1_ {b : Nat} {l : List HL} {base most : Int} {L : List Nat} (h : HAt w b l base most L) (hb : 1 ≤ base) (hb2 : base ≤ 4611686018427387904) (n : Int) (hn : -9223372036854775808 ≤ n ∧ n < 9223372036854775808) (k : ∀ w', Ch [] w w' → K (.tuple #[hlV (getL l (n - base)).1, .bool (getL l (n - base)).2]) w') : S.call Try.prog 15 [PT b, I64 n] K w := by
  unfold getL at k
  refine number_ h hb hb2 n hn (fun ho w' hc => ?_) (fun j x hj hx w' hc => ?_)
  · have := k w' hc
    rw [if_neg (by omega)] at this
    exact this
  · have hjl := (List.getElem?_eq_some_iff.1 hx).1
    have := k w' hc
    rw [show n - base = (j : Int) from by omega, if_pos (by omega), Int.toNat_natCast, hx] at this
    exact this
theorem rnumber1_ {b : Nat} {l : List HL} {base most : Int} {L : List Nat} (h : LAt w b l base most L) (hb : 1 ≤ base) (hb2 : base ≤ 4611686018427387904) (n : Int) (hn : -9223372036854775808 ≤ n ∧ n < 9223372036854775808) (k : ∀ w', Ch [] w w' → K (.tuple #[hlV (getL l (n - base)).1, .bool (getL l (n - base)).2]) w') : S.call Try.prog 56 [PT b, I64 n] K w := by
  unfold getL at k
  refine rnumber_ h hb hb2 n hn (fun ho w' hc => ?_) (fun j x hj hx w' hc => ?_)
  · have := k w' hc
    rw [if_neg (by omega)] at this
    exact this
  · have hjl := (List.getElem?_eq_some_iff.1 hx).1
    have := k w' hc
    rw [show n - base = (j : Int) from by omega, if_pos (by omega), Int.toNat_natCast, hx] at this
    exact this
theorem replace1_ {b : Nat} {l : List HL} {base most : Int} {L : List Nat} {x : HL} (h : HAt w b l base most L) (hb : base ≠ 0) (i : Int)
    (k : ∀ w' L', HAt w' b (repL l i x).2.2 base most L' → Ch L w w' → (∀ z, z ∈ L' → z ∈ L ∨ w.heap.size ≤ z) → K (.tuple #[hlV (repL l i x).1, I64 (repL l i x).2.1]) w') : S.call Try.prog 36 [PT b, I64 i, hlV x] K w := by
  unfold repL at k
  refine replace_ h hb i (fun ho w' hc => ?_) (fun j y hj hy hm w' hc => ?_) (fun j y hj hy hm w' hq hc => ?_)
  · rw [if_neg (by omega)] at k
    exact k w' L (h.ch hc (by simp)) hc.nil (fun z hz => .inl hz)
  · subst hj
    have hjl := (List.getElem?_eq_some_iff.1 hy).1
    rw [if_pos (by omega), if_neg hm] at k
    exact k w' L (h.ch hc (by simp)) hc.nil (fun z hz => .inl hz)
  · subst hj
    have hjl := (List.getElem?_eq_some_iff.1 hy).1
    rw [if_pos (by omega), if_pos hm, Int.toNat_natCast, hy] at k
    exact k w' L hq hc (fun z hz => .inl hz)
theorem rreplace1_ {b : Nat} {l : List HL} {base most : Int} {L : List Nat} {x : HL} (h : LAt w b l base most L) (hl : l.length ≤ 4096) (i : Int)
    (k : ∀ w' L', LAt w' b (repL l i x).2.2 base most L' → Ch L w w' → (∀ z, z ∈ L' → z ∈ L ∨ w.heap.size ≤ z) → K (.tuple #[hlV (repL l i x).1, I64 (repL l i x).2.1]) w') : S.call Try.prog 57 [PT b, I64 i, hlV x] K w := by
  unfold repL at k
  refine rreplace_ h (by omega) i (fun ho w' hc => ?_) (fun j y hj hy hm w' hc => ?_) (fun j y hj hy hm w' L' hq hc hl' => ?_)
  · rw [if_neg (by omega)] at k
    exact k w' L (h.ch hc (by simp)) hc.nil (fun z hz => .inl hz)
  · subst hj
    have hjl := (List.getElem?_eq_some_iff.1 hy).1
    rw [if_pos (by omega), if_neg hm] at k
    exact k w' L (h.ch hc (by simp)) hc.nil (fun z hz => .inl hz)
  · subst hj
    have hjl := (List.getElem?_eq_some_iff.1 hy).1
    rw [if_pos (by omega), if_pos hm, Int.toNat_natCast, hy] at k
    exact k w' L' hq hc hl'
theorem remove1_ {b : Nat} {l : List HL} {base most : Int} {L : List Nat} (h : HAt w b l base most L) (hb : base ≠ 0) (hl : l.length ≤ 4096) (i : Int)
    (k : ∀ w' L', HAt w' b (remL l i).2.2 base most L' → Ch L w w' → (∀ z, z ∈ L' → z ∈ L ∨ w.heap.size ≤ z) → K (.tuple #[hlV (remL l i).1, I64 (remL l i).2.1]) w') : S.call Try.prog 38 [PT b, I64 i] K w := by
  unfold remL at k
  refine remove_ h hb i (fun ho w' hc => ?_) (fun j y hj hy w' hq hc => ?_)
  · rw [if_neg (by omega)] at k
    exact k w' L (h.ch hc (by simp)) hc.nil (fun z hz => .inl hz)
  · subst hj
    have hjl := (List.getElem?_eq_some_iff.1 hy).1
    rw [if_pos (by omega), Int.toNat_natCast, hy] at k
    exact k w' L hq hc (fun z hz => .inl hz)
theorem rremove1_ {b : Nat} {l : List HL} {base most : Int} {L : List Nat} (h : LAt w b l base most L) (hl : l.length ≤ 4096) (i : Int)
    (k : ∀ w' L', LAt w' b (remL l i).2.2 base most L' → Ch L w w' → (∀ z, z ∈ L' → z ∈ L ∨ w.heap.size ≤ z) → K (.tuple #[hlV (remL l i).1, I64 (remL l i).2.1]) w') : S.call Try.prog 58 [PT b, I64 i] K w := by
  unfold remL at k
  refine rremove_ h (by omega) i (fun ho w' hc => ?_) (fun j y hj hy w' L' hq hc hl' => ?_)
  · rw [if_neg (by omega)] at k
    exact k w' L (h.ch hc (by simp)) hc.nil (fun z hz => .inl hz)
  · subst hj
    have hjl := (List.getElem?_eq_some_iff.1 hy).1
    rw [if_pos (by omega), Int.toNat_natCast, hy] at k
    exact k w' L' hq hc hl'
theorem add1_ {b B : Nat} {l m : List HL} {base : Int} {most : Nat} {L : List Nat} {v : Value} (h : HAt w b l base most L) (hr : RL w B v m) (hB : B ≤ w.heap.size) (hl : l.length ≤ 4096) (hml : m.length ≤ 1048576) (hbase : 1 ≤ base ∧ base ≤ 1048577) (hm : most ≤ 4096)
    (k : ∀ w' L', HAt w' b (addL l m most).1 (base + ((addL l m most).2 : Nat)) most L' → Ch L w w' → (∀ x, x ∈ L' → x ∈ L ∨ w.heap.size ≤ x) → K (I64 (may m)) w') : S.call Try.prog 11 [PT b, v] K w := by
  unfold addL at k
  refine add_ h hr hB (by omega) (by omega) hm (fun hn w' hq hc => ?_) (fun hn w' L' hq hc hl' => ?_)
  · rw [if_neg hn] at k
    exact k w' L (by simpa using hq) hc.nil (fun z hz => .inl hz)
  · rw [if_pos hn] at k
    rw [hn] at k
    exact k w' L' hq hc hl'
theorem radd1_ {b B : Nat} {l m : List HL} {base : Int} {most : Nat} {L : List Nat} {v : Value} (h : LAt w b l base most L) (hr : RL w B v m) (hB : ∀ x, x ∈ L → B ≤ x) (hl : l.length ≤ 4096) (hml : m.length ≤ 1048576) (hbase : 1 ≤ base ∧ base ≤ 1048577) (hm : most ≤ 4096)
    (k : ∀ w' L', LAt w' b (addL l m most).1 (base + ((addL l m most).2 : Nat)) most L' → Ch L w w' → (∀ x, x ∈ L' → x ∈ L ∨ w.heap.size ≤ x) → K (I64 (may m)) w') : S.call Try.prog 50 [PT b, v] K w := by
  unfold addL at k
  refine radd_ h hr (by omega) (by omega) hm hB (fun hn => ?_) (fun hn w' L' hq hc hl' => ?_)
  · rw [if_neg hn] at k
    exact k w L (by simpa using h) (Ch.refl _ _) (fun z hz => .inl hz)
  · rw [if_pos hn] at k
    rw [hn] at k
    exact k w' L' hq hc hl'
theorem stifle1_ {b : Nat} {l : List HL} {base : Int} {most : Nat} {L : List Nat} {m : Int} (h : HAt w b l base most L) (hl : l.length ≤ 4096) (hbase : 1 ≤ base ∧ base ≤ 1048577)
    (k : ∀ w' L', HAt w' b (stfL l m most).2.1 (base + ((stfL l m most).2.2.1 : Nat)) (stfL l m most).2.2.2 L' → Ch L w w' → (∀ x, x ∈ L' → x ∈ L ∨ w.heap.size ≤ x) → K (I64 (stfL l m most).1) w') : S.call Try.prog 39 [PT b, I64 m] K w := by
  unfold stfL at k
  refine stifle_ h (by omega) (by omega) (fun hn => ?_) (fun n hn hn2 w' L' hq hc hl' => ?_)
  · rw [if_pos hn] at k
    exact k w L (by simpa using h) (Ch.refl _ _) (fun z hz => .inl hz)
  · subst hn
    rw [if_neg (by omega), Int.toNat_natCast] at k
    exact k w' L' hq hc hl'
theorem rstifle1_ {b : Nat} {l : List HL} {base : Int} {most : Nat} {L : List Nat} {m : Int} (h : LAt w b l base most L) (hl : l.length ≤ 4096) (hbase : 1 ≤ base ∧ base ≤ 1048577)
    (k : ∀ w' L', LAt w' b (stfL l m most).2.1 (base + ((stfL l m most).2.2.1 : Nat)) (stfL l m most).2.2.2 L' → Ch L w w' → (∀ x, x ∈ L' → x ∈ L ∨ w.heap.size ≤ x) → K (I64 (stfL l m most).1) w') : S.call Try.prog 54 [PT b, I64 m] K w := by
  unfold stfL at k
  refine rstifle_ h (by omega) (by omega) (fun hn => ?_) (fun n hn hn2 w' hq hc => ?_)
  · rw [if_pos hn] at k
    exact k w L (by simpa using h) (Ch.refl _ _) (fun z hz => .inl hz)
  · subst hn
    rw [if_neg (by omega), Int.toNat_natCast] at k
    exact k w' L hq hc (fun z hz => .inl hz)
end
/-- Both histories stand, and tell the same. -/
structure St (w : World) (B b r : Nat) (l : List HL) (base : Int) (most A : Nat) (LH LR : List Nat) : Prop where
  h : HAt w b l base most LH
  r : LAt w r l base most LR
  d : ∀ x, x ∈ LH → x ∉ LR
  fh : ∀ x, x ∈ LH → B ≤ x
  fr : ∀ x, x ∈ LR → B ≤ x
  len : l.length ≤ most
  mo : most ≤ 4096
  sh : ∀ x ∈ l, x.1.length ≤ 16384
  b1 : 1 ≤ base
  b2 : base + l.length ≤ 1 + A
theorem St.ch {w w' : World} {B b r : Nat} {l : List HL} {base : Int} {most A : Nat} {LH LR : List Nat} (s : St w B b r l base most A LH LR) (hc : Ch [] w w') : St w' B b r l base most A LH LR :=
  ⟨s.h.ch hc (by simp), s.r.ch hc (by simp), s.d, s.fh, s.fr, s.len, s.mo, s.sh, s.b1, s.b2⟩
theorem St.next {w w1 w2 : World} {B b b' r : Nat} {l l' : List HL} {base base' : Int} {most most' A A' : Nat} {LH LR LH' LR' : List Nat} (s : St w B b r l base most A LH LR) (hB : B ≤ w.heap.size)
    (h' : HAt w1 b' l' base' most' LH') (hc1 : Ch LH w w1) (hl1 : ∀ x, x ∈ LH' → x ∈ LH ∨ w.heap.size ≤ x)
    (r' : LAt w2 r l' base' most' LR') (hc2 : Ch LR w1 w2) (hl2 : ∀ x, x ∈ LR' → x ∈ LR ∨ w1.heap.size ≤ x)
    (len : l'.length ≤ most') (mo : most' ≤ 4096) (sh : ∀ x ∈ l', x.1.length ≤ 16384) (b1 : 1 ≤ base') (b2 : base' + l'.length ≤ 1 + A') :
    St w2 B b' r l' base' most' A' LH' LR' ∧ Ch (LH ++ LR) w w2 := by
  have s1 := hc1.size
  have rlt := s.r.lt
  have hlt := h'.lt
  refine ⟨⟨h'.ch hc2 (fun x hx hr => ?_), r', fun x hx hr => ?_, fun x hx => ?_, fun x hx => ?_, len, mo, sh, b1, b2⟩, ?_⟩
  · rcases hl1 x hx with h | h
    · exact s.d x h hr
    · have := rlt x hr; omega
  · rcases hl2 x hr with h2 | h2
    · rcases hl1 x hx with h | h
      · exact s.d x h h2
      · have := rlt x h2; omega
    · have := hlt x hx; omega
  · rcases hl1 x hx with h | h
    · exact s.fh x h
    · omega
  · rcases hl2 x hx with h | h
    · exact s.fr x h
    · omega
  · exact (hc1.mono (fun x hx => .inl (List.mem_append_left _ hx))).trans hc2 (fun x hx => .inl (List.mem_append_right _ hx))
theorem St.lt {w : World} {B b r : Nat} {l : List HL} {base : Int} {most A : Nat} {LH LR : List Nat} (s : St w B b r l base most A LH LR) : ∀ x, x ∈ LH ++ LR → x < w.heap.size := fun x hx => by
  rcases List.mem_append.1 hx with h | h
  · exact s.h.lt x h
  · exact s.r.lt x h
/-! ### What is kept -/
theorem rep_len (l : List HL) (i : Int) (x : HL) : (repL l i x).2.2.length = l.length := by
  unfold repL; split
  · split
    · simp
    · rfl
  · rfl
theorem rep_sh {l : List HL} {i : Int} {x : HL} (h : ∀ x ∈ l, x.1.length ≤ 16384) : ∀ y ∈ (repL l i x).2.2, y.1.length ≤ 16384 := by
  unfold repL; split
  · split
    · rename_i hm
      intro y hy
      rcases mem_put hy with h1 | h1
      · exact h y h1
      · subst h1; exact may_short hm y (by simp)
    · exact h
  · exact h
theorem rem_len (l : List HL) (i : Int) : (remL l i).2.2.length ≤ l.length := by
  unfold remL; split
  · exact List.length_eraseIdx_le _ _
  · exact Nat.le_refl _
theorem rem_sh {l : List HL} {i : Int} (h : ∀ x ∈ l, x.1.length ≤ 16384) : ∀ y ∈ (remL l i).2.2, y.1.length ≤ 16384 := by
  unfold remL; split
  · exact fun y hy => h y (List.mem_of_mem_eraseIdx hy)
  · exact h
theorem add_len (l m : List HL) (most : Nat) (h : l.length ≤ most) : (addL l m most).1.length ≤ most ∧ (addL l m most).1.length + (addL l m most).2 ≤ l.length + m.length := by
  unfold addL; split
  · simp only [List.length_drop, List.length_append]; omega
  · simp only; omega
theorem add_sh {l m : List HL} {most : Nat} (h : ∀ x ∈ l, x.1.length ≤ 16384) : ∀ y ∈ (addL l m most).1, y.1.length ≤ 16384 := by
  unfold addL; split
  · rename_i hm
    intro y hy
    rcases List.mem_append.1 (List.mem_of_mem_drop hy) with h1 | h1
    · exact h y h1
    · exact may_short hm y h1
  · exact h
theorem stf_len (l : List HL) (m : Int) (most : Nat) (h : l.length ≤ most) (hm : most ≤ 4096) : (stfL l m most).2.1.length ≤ (stfL l m most).2.2.2 ∧ (stfL l m most).2.2.2 ≤ 4096 ∧ (stfL l m most).2.1.length + (stfL l m most).2.2.1 ≤ l.length := by
  unfold stfL; split
  · simp only; omega
  · simp only [List.length_drop]; omega
theorem stf_sh {l : List HL} {m : Int} {most : Nat} (h : ∀ x ∈ l, x.1.length ≤ 16384) : ∀ y ∈ (stfL l m most).2.1, y.1.length ≤ 16384 := by
  unfold stfL; split
  · exact h
  · exact fun y hy => h y (List.mem_of_mem_drop hy)
end Go.Proofs.Ytbhgindbdojmmaa
