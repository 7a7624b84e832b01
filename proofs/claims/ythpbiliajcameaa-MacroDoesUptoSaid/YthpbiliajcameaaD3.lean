import Derived.Test.YthpbiliajcameaaD2
set_option linter.unusedVariables false
set_option maxRecDepth 4000
namespace Go.Proofs.Ythpbiliajcameaa
open Go Go.Fw Go.Proofs Go.RowKit
theorem build55c (w : World) (A : Option Addr) (n c : Nat) (r : Int) : (Instr.build 55 #[(0, .slice A n c), (2, .int .i64 r), (3, .bool true)]).run Try.prog w = .ok (.agg #[.slice A n c, .slice none 0 0, .int .i64 r, .bool true]) w := by kernel_rfl
theorem ag58 : aggSz Try.prog 58 = some 5 := by kernel_rfl
theorem z58 : zeroT Try.prog 58 = some (.agg #[.slice none 0 0, .bool false, strV [], .bool false, .bool false]) := by kernel_rfl
section
variable {w : World} {K : Value → World → Prop}
theorem drop_ {b : Nat} {ty : Bs} {ms : List Bs} {run : Nat} {L : List Nat} (hq : QAt w b ty ms run L) (hb : ty.length + total ms ≤ 4611686018427387904)
    (k : ∀ w' L', QAt w' b ty [] run L' → Ch L w w' → (∀ x, x ∈ L' → x ∈ L) → K (I64 (total ms)) w') : S.call Try.prog 33 [PT b] K w := by
  obtain ⟨tv, mv, hs', Lt, Lm, Lh, h1, h2, h3, h4, h5⟩ := hq.ex
  subst h5
  have h2' := h2
  obtain ⟨At, ct, rfl, _⟩ := Own.shape h2
  refine F33_link ?_
  unfold F33
  refine qnone h1 rfl ?_
  rw [br_false]
  refine drawn_ok fun w1 hc1 hs1 => ?_
  have h11 := hc1.at_ h1 (by simp)
  refine ⟨fun w' => w' = w1, rfl, ?_⟩
  refine h_ok (x := PT b) (fun w' hw => run_nilC _) ?_
  refine h_ok (x := PT b) (fun w' hw => run_fa fo55_0) ?_
  refine h_ok (x := .slice At ty.length ct) (fun w' hw => by subst hw; exact run_ld sc22 (cells4 h11).1) ?_
  refine h_ok (x := I64 ty.length) (fun w' hw => run_len el22 _ _ rfl ..) ?_
  refine len_ (hq.ch hc1 (by simp)) hb ⟨rfl, ?_⟩
  refine h_ok (x := I64 (total ms)) (fun w' hw => by rw [run_sub, wrap_i64 (by omega) (by omega)]; congr 2; omega) ?_
  rw [nilC_v, fa_v fo55_1]
  have hnd := hq.nodup
  refine st sc32 h11 (by simp) rfl fun w2 hb2 hc2 hs2 => ?_
  refine k w2 (b :: (Lt ++ ([] ++ []))) ⟨⟨_, _, [], Lt, [], [], hb2, ?_, Own.nil _ _ _, rfl, rfl⟩, ?_⟩ ((hc1.nil).trans hc2 (by simp)) ?_
  · exact Own.ch (Own.ch h2' hc1 (by simp)) hc2 (fun x hx hm => by simp at hm; subst hm; simp at hnd; exact hnd.1.1 hx)
  · simp only [List.nodup_cons, List.mem_append, List.nodup_append, not_or, List.append_nil] at hnd ⊢
    exact ⟨hnd.1.1, hnd.2.1⟩
  · intro x hx
    simp only [List.mem_cons, List.mem_append, List.append_nil] at hx ⊢
    grind
theorem qclone_ {b : Nat} {ty : Bs} {ms : List Bs} {run : Nat} {L : List Nat} (hq : QAt w b ty ms run L) (hty : ty.length ≤ 65536) (hms : ms.length ≤ 16) (ht : total ms ≤ 1099511627776)
    (k : ∀ w' b' L', QAt w' b' ty ms run L' → Ch [] w w' → (∀ x, x ∈ L' → w.heap.size ≤ x) → K (PT b') w') : S.call Try.prog 35 [PT b] K w := by
  obtain ⟨tv, mv, hs', Lt, Lm, Lh, h1, h2, h3, h4, h5⟩ := hq.ex
  subst h5
  have h3' := h3
  obtain ⟨he, hne⟩ := Hdrs.he h4
  obtain ⟨Am, cm, rfl, hcm1, hcm2⟩ := h3.shape
  refine F35_link ?_
  unfold F35
  refine qnone h1 rfl ?_
  rw [br_false]
  refine drawn_ok fun w1 hc1 hs1 => ?_
  have h11 := hc1.at_ h1 (by simp)
  refine ⟨fun w' => Ch [] w1 w', Ch.refl _ _, ?_⟩
  refine h_ok (x := PT b) (fun w' hw => run_nilC _) ?_
  refine h_ok (x := PT b) (fun w' hw => run_fa fo55_0) ?_
  refine h_ok (x := tv) (fun w' hw => run_ld sc22 (cells4 (hw.at_ h11 (by simp))).1) ?_
  refine h_ok (x := PT b) (fun w' hw => run_nilC _) ?_
  refine h_ok (x := .pointer (some ⟨b, 2, none⟩)) (fun w' hw => run_fa fo55_2) ?_
  refine h_ok (x := I64 run) (fun w' hw => run_ld sc3 (cells4 (hw.at_ h11 (by simp))).2.2.1) ?_
  have hrb1 : RB w1 w1.heap.size tv ty := Own.rd (Own.ch h2 hc1 (by simp))
  refine bclone_ hrb1 (Nat.le_refl _) (by omega) fun v2 w2 L1 ho2 hc2 hl1 => ⟨hc2, ?_⟩
  have ho2' := ho2
  obtain ⟨A2, c2, rfl, _⟩ := Own.shape ho2
  refine h_ok (x := .agg #[.slice A2 ty.length c2, .slice none 0 0, .int .i64 run, .bool true]) (fun w' hw => build55c w' _ _ _ _) ?_
  refine bx fun w3 hb3 hc3 hs3 => ⟨hc2.trans hc3 (by simp), ?_⟩
  have hc03 : Ch [] w w3 := (hc1.trans hc2 (by simp)).trans hc3 (by simp)
  have h13 := hc03.at_ h1 (by simp)
  have hsz1 := hc1.size
  have hsz2 := hc2.size
  rw [nilC_v, fa_v fo55_1, ld_v sc32 (cells4 h13).2.1, len_v el32]
  intro I hC
  have key : ∀ (d i : Nat) (x5 x25 : Value) (w' : World) (mv' : Value) (hs2 : List Value) (Lm2 Lh2 : List Nat), i + d = ms.length → w'.heap[w2.heap.size]? = some (.cells #[.slice A2 ty.length c2, mv', I64 run, .bool true] 55 (0, 0)) → BS w' (.slice A2 ty.length c2) ty L1 →
      Own w' 22 1 mv' i hs2 Lm2 → HE w' hs2 (ms.take i) Lh2 → (w2.heap.size :: (L1 ++ (Lm2 ++ Lh2))).Nodup → (∀ x, x ∈ w2.heap.size :: (L1 ++ (Lm2 ++ Lh2)) → w.heap.size ≤ x) → Ch [] w w' → I [x5, I64 i, x25] w' := by
    intro d
    induction d with
    | zero =>
      intro i x5 x25 w4 mv' hs2 Lm2 Lh2 hi a1 a2 a3 a4 a5 a6 a7
      refine hC _ _ _ _ ?_
      rw [lt_v, decide_eq_false (by omega), br_false]
      have hi' : i = ms.length := by omega
      subst hi'
      rw [List.take_length] at a4
      exact k w4 _ _ ⟨⟨_, _, hs2, L1, Lm2, Lh2, a1, a2, a3, HE.hdrs a4 hne, rfl⟩, a5⟩ a7 a6
    | succ d ih =>
      intro i x5 x25 w4 mv' hs2 Lm2 Lh2 hi a1 a2 a3 a4 a5 a6 a7
      refine hC _ _ _ _ ?_
      have hlt : i < ms.length := by omega
      have hget : ms[i]? = some ms[i] := List.getElem?_eq_getElem hlt
      obtain ⟨hh, Lx, hh1, hh2, hh3⟩ := he.get hget
      have htl : ms[i].length ≤ total ms := by
        have := total_take_succ hget
        have := total_take_le ms (i + 1)
        omega
      have hb4 := lt_of_heap a1
      have hall : ∀ x, x ∈ w2.heap.size :: (L1 ++ (Lm2 ++ Lh2)) → x < w4.heap.size := by
        intro x hx
        simp only [List.mem_cons, List.mem_append] at hx
        rcases hx with rfl | hx | hx | hx
        · exact hb4
        · exact Own.lt a2 x hx
        · exact Own.lt a3 x hx
        · exact a4.lt x hx
      rw [lt_v, decide_eq_true (by omega), br_true, ixr_v (j := i) el32 sc22 (Own.rd (h3'.ch a7 (by simp))) rfl hh1]
      refine drawn_ok fun w5 hc5 hs5 => ?_
      have a1' := hc5.at_ a1 (by simp)
      have a3' := a3.ch hc5 (by simp)
      have hbm : w2.heap.size ∉ Lm2 := fun hm => by simp at a5; grind
      refine ⟨fun w' => Ch Lm2 w5 w', Ch.refl _ _, ?_⟩
      refine h_ok (x := PT w2.heap.size) (fun w' hw => run_nilC _) ?_
      refine h_ok (x := .pointer (some ⟨w2.heap.size, 1, none⟩)) (fun w' hw => run_fa fo55_1) ?_
      refine h_ok (x := mv') (fun w' hw => run_ld sc32 (cells4 (hw.at_ a1' hbm)).2.1) ?_
      have hrb5 : RB w5 w5.heap.size hh ms[i] := Own.rd (Own.ch (Own.ch hh2 a7 (by simp)) hc5 (by simp))
      refine bclone_ hrb5 (Nat.le_refl _) (by omega) fun v6 w6 L6 ho6 hc6 hl6 => ⟨hc6.nil, ?_⟩
      have ho6' := ho6
      obtain ⟨A6, c6, rfl, _⟩ := Own.shape ho6
      refine bs1 sl32 rfl rfl fun w7 ho7 hc7 hs7 => ⟨(hc6.trans hc7 (by simp)).nil, ?_⟩
      have hc57 : Ch [] w5 w7 := hc6.trans hc7 (by simp)
      refine ap (m := 1) (news := [.slice A6 ms[i].length c6]) sl32 (a3'.ch hc57 (by simp)) ho7.rd (by simp [Value.oneCell']) (by omega) (by omega) fun v8 w8 L8 ho8 hc8 hl8 => ⟨(hc57.nil).trans hc8 (fun x hx => .inl hx), ?_⟩
      have hc58 : Ch Lm2 w5 w8 := (hc57.nil).trans hc8 (fun x hx => .inl hx)
      have hc48 : Ch Lm2 w4 w8 := (hc5.nil).trans hc58 (fun x hx => .inl hx)
      have ho8' := ho8
      obtain ⟨A8, c8, rfl, _⟩ := Own.shape ho8
      rw [nilC_v, fa_v fo55_1]
      refine st sc32 (hc58.at_ a1' hbm) (by simp) rfl fun w9 hb9 hc9 hs9 => ?_
      have hsz57 := hc57.size
      have hl6' : ∀ x, x ∈ L6 → w4.heap.size ≤ x := fun x hx => by have := hl6 x hx; omega
      have hl8' : ∀ x, x ∈ L8 → x ∈ Lm2 ∨ w7.heap.size ≤ x := hl8
      have l6 := Own.lt ho6'
      have hsz67 := hc7.size
      have nd1 : (w2.heap.size :: (L1 ++ (Lm2 ++ (Lh2 ++ L6)))).Nodup := by
        have := nodup_swap (A := w2.heap.size :: (L1 ++ (Lm2 ++ Lh2))) (X := []) (Y := L6) (B := []) (n := w4.heap.size) (by simpa using a5) (by simpa using hall) ho6'.nodup (fun x hx => .inr (hl6' x hx))
        simpa using this
      have nd2 : (w2.heap.size :: (L1 ++ (L8 ++ (Lh2 ++ L6)))).Nodup := by
        have := nodup_swap (A := w2.heap.size :: L1) (X := Lm2) (Y := L8) (B := Lh2 ++ L6) (n := w7.heap.size) (by simpa using nd1) (by
          intro x hx
          have : x ∈ w2.heap.size :: (L1 ++ (Lm2 ++ Lh2)) ∨ x ∈ L6 := by
            simp only [List.mem_cons, List.mem_append] at hx ⊢
            grind
          rcases this with h | h
          · have := hall x h; omega
          · have := l6 x h; omega) ho8'.nodup hl8'
        simpa using this
      have d1 : ∀ x, x ∈ L1 ++ Lh2 → x ∉ Lm2 ∧ x ≠ w2.heap.size := by
        intro x hx
        simp only [List.nodup_cons, List.mem_append, List.nodup_append, not_or] at a5 hx
        grind
      have d6 : ∀ x, x ∈ L6 → x ∉ Lm2 ∧ x ≠ w2.heap.size := fun x hx => ⟨fun hm => by have := hl6' x hx; have := hall x (by simp [hm]); omega, fun e => by have := hl6' x hx; omega⟩
      have d8 : w2.heap.size ∉ L8 := fun hm => by simp at nd2; grind
      have htk : ms.take (i + 1) = ms.take i ++ [ms[i]] := List.take_succ_eq_append_getElem hlt
      rw [add_v, wrap_i64 (by omega) (by omega)]
      have := ih (i + 1) hh (.bool true) w9 _ (hs2 ++ [.slice A6 ms[i].length c6]) L8 (Lh2 ++ L6) (by omega) hb9
        (Own.ch (Own.ch a2 hc48 (fun x hx => (d1 x (by simp [hx])).1)) hc9 (fun x hx => by simpa using (d1 x (by simp [hx])).2))
        (ho8'.ch hc9 (fun x hx hm => by simp at hm; exact d8 (hm ▸ hx)))
        (by
          rw [htk]
          refine HE.snoc (Own.ch (Own.ch (Own.ch ho6' hc7 (by simp)) hc8 (fun x hx => (d6 x hx).1)) hc9 (fun x hx => by simpa using (d6 x hx).2)) ?_
          exact (a4.ch hc48 (fun x hx => (d1 x (by simp [hx])).1)).ch hc9 (fun x hx => by simpa using (d1 x (by simp [hx])).2))
        nd2 (by
          intro x hx
          have hsz4 := a7.size
          simp only [List.mem_cons, List.mem_append] at hx
          rcases hx with rfl | hx | hx | hx | hx
          · exact a6 _ (by simp)
          · exact a6 x (by simp [hx])
          · rcases hl8 x hx with h | h
            · exact a6 x (by simp [h])
            · omega
          · exact a6 x (by simp [hx])
          · have := hl6' x hx; omega)
        ((a7.trans hc48 (fun x hx => .inr (a6 x (by simp [hx])))).trans hc9 (fun x hx => .inr (by simp at hx; subst hx; exact a6 _ (by simp))))
      rw [show ((i + 1 : Nat) : Int) = (i : Int) + 1 from by omega] at this
      exact this
  have hl1' : ∀ x, x ∈ L1 → w1.heap.size ≤ x ∧ x < w2.heap.size := fun x hx => ⟨hl1 x hx, Own.lt ho2' x hx⟩
  refine key ms.length 0 undef undef w3 _ [] [] [] (by omega) hb3 (Own.ch ho2' hc3 (by simp)) (Own.nil _ _ _) rfl ?_ ?_ hc03
  · simp only [List.append_nil, List.nodup_cons]
    exact ⟨fun hm => by have := hl1' _ hm; omega, ho2'.nodup⟩
  · intro x hx
    simp only [List.append_nil, List.mem_cons] at hx
    rcases hx with rfl | hx
    · omega
    · have := hl1' x hx; omega
theorem rclone_ {b : Nat} {now : Bs} {on : Bool} {last : Bs} {is : Bool} {L : List Nat} (h : RAt w b now on last is L) (hn : now.length ≤ 128)
    (k : ∀ w' b' L', RAt w' b' now on last is L' → Ch [] w w' → (∀ x, x ∈ L' → w.heap.size ≤ x) → K (PT b') w') : S.call Try.prog 36 [PT b] K w := by
  obtain ⟨nv, Ln, h1, h2, h5⟩ := h.ex
  have h2' := h2
  obtain ⟨An, cn, rfl, _⟩ := Own.shape h2
  refine F36_link ?_
  unfold F36
  refine rnone h1 rfl ?_
  rw [br_false, nilC_v, ldw_v ag58 h1 rfl]
  refine Go.Fw.al z58 fun w1 hb1 hc1 hs1 => ?_
  refine stw (vs := #[.slice An now.length cn, .bool on, strV last, .bool is, .bool true]) ag58 hb1 rfl rfl (by simp [Value.oneCell', strV]) fun w2 hb2 hc2 hs2 => ?_
  have hc02 : Ch [] w w2 := hc1.trans hc2 (by simp)
  rw [nilC_v, fa_v fo58_0, ld_v sc22 (cells5 (hc02.at_ h1 (by simp))).1]
  have hrb : RB w2 w2.heap.size (.slice An now.length cn) now := Own.rd (Own.ch h2' hc02 (by simp))
  refine bclone_ hrb (Nat.le_refl _) (by omega) fun v3 w3 L3 ho3 hc3 hl3 => ?_
  have ho3' := ho3
  obtain ⟨A3, c3, rfl, _⟩ := Own.shape ho3
  rw [fa_v fo58_0]
  refine st sc22 (hc3.at_ hb2 (by simp)) (by simp) rfl fun w4 hb4 hc4 hs4 => ?_
  have hsz2 := hc02.size
  refine k w4 _ (w.heap.size :: L3) ⟨⟨_, L3, hb4, ?_, rfl⟩, ?_⟩ ((hc02.trans hc3 (by simp)).trans hc4 (by simp)) ?_
  · exact Own.ch ho3' hc4 (fun x hx hm => by simp at hm; have := hl3 x hx; omega)
  · exact List.nodup_cons.2 ⟨fun hm => by have := hl3 _ hm; omega, ho3'.nodup⟩
  · intro x hx
    rcases List.mem_cons.1 hx with rfl | hx
    · exact Nat.le_refl _
    · have := hl3 x hx; omega
theorem cancel_ {b : Nat} {now : Bs} {on : Bool} {last : Bs} {is : Bool} {L : List Nat} (h : RAt w b now on last is L)
    (k0 : on = false → K (I64 6) w) (k1 : on = true → ∀ w', RAt w' b [] false last is [b] → Ch L w w' → K (I64 0) w') : S.call Try.prog 40 [PT b] K w := by
  obtain ⟨nv, Ln, h1, h2, h5⟩ := h.ex
  subst h5
  refine F40_link ?_
  unfold F40
  refine wants_ h (fun ho => ?_) (fun ho => ?_)
  · rw [ne_v, decide_eq_false (by simp), br_false, nilC_v, fa_v fo58_1]
    refine st sc4 h1 (by simp) rfl fun w1 hb1 hc1 hs1 => ?_
    rw [nilC_v, fa_v fo58_0]
    refine st sc22 hb1 (by simp) rfl fun w2 hb2 hc2 hs2 => ?_
    exact k1 ho w2 ⟨⟨_, [], hb2, Own.nil _ _ _, rfl⟩, by simp⟩ ((hc1.trans hc2 (by simp)).mono (by simp))
  · rw [ne_v, decide_eq_true (by simp), br_true]
    exact k0 ho
/-! ### The reference's recorder -/
structure RR (w : World) (b : Nat) (now : Bs) (on : Bool) (last : Bs) (is : Bool) (L : List Nat) : Prop where
  ex : ∃ nv Ln, w.heap[b]? = some (.cells #[.bool on, nv, .bool is, strV last] 47 (0, 0)) ∧ BS w nv now Ln ∧ L = b :: Ln
  nodup : L.Nodup
theorem RR.ch {w w' : World} {b : Nat} {now : Bs} {on : Bool} {last : Bs} {is : Bool} {L M : List Nat} (h : RR w b now on last is L) (hc : Ch M w w') (hd : ∀ x, x ∈ L → x ∉ M) : RR w' b now on last is L := by
  obtain ⟨nv, Ln, h1, h2, h5⟩ := h.ex
  subst h5
  exact ⟨⟨nv, Ln, hc.at_ h1 (hd b (by simp)), h2.ch hc (fun x hx => hd x (by simp [hx])), rfl⟩, h.nodup⟩
theorem RR.lt {w : World} {b : Nat} {now : Bs} {on : Bool} {last : Bs} {is : Bool} {L : List Nat} (h : RR w b now on last is L) : ∀ x, x ∈ L → x < w.heap.size := by
  obtain ⟨nv, Ln, h1, h2, h5⟩ := h.ex
  subst h5
  intro x hx
  simp only [List.mem_cons] at hx
  rcases hx with rfl | hx
  · exact lt_of_heap h1
  · exact Own.lt h2 x hx
theorem sstart_ {b : Nat} {now : Bs} {on : Bool} {last : Bs} {is : Bool} {L : List Nat} (h : RR w b now on last is L)
    (k1 : on = false → ∀ w', RR w' b [] true last is [b] → Ch L w w' → K (I64 0) w') (k2 : on = true → K (I64 6) w) : S.call Try.prog 37 [PT b] K w := by
  obtain ⟨nv, Ln, h1, h2, h5⟩ := h.ex
  subst h5
  refine F37_link ?_
  unfold F37
  rw [nilC_v, fa_v fo47_0, ld_v sc4 (cells4 h1).1]
  refine br_bool _ _ _ (fun ho => k2 ho) (fun ho => ?_)
  rw [nilC_v, fa_v fo47_0]
  refine st sc4 h1 (by simp) rfl fun w1 hb1 hc1 hs1 => ?_
  rw [nilC_v, fa_v fo47_1]
  refine st sc22 hb1 (by simp) rfl fun w2 hb2 hc2 hs2 => ?_
  exact k1 ho w2 ⟨⟨_, [], hb2, Own.nil _ _ _, rfl⟩, by simp⟩ ((hc1.trans hc2 (by simp)).mono (by simp))
theorem send_ {b : Nat} {now : Bs} {on : Bool} {last : Bs} {is : Bool} {L : List Nat} (h : RR w b now on last is L)
    (k0 : on = false → K (I64 6) w) (k1 : on = true → ∀ w', RR w' b now false now true L → Ch L w w' → K (I64 0) w') : S.call Try.prog 38 [PT b] K w := by
  obtain ⟨nv, Ln, h1, h2, h5⟩ := h.ex
  subst h5
  have hnd := h.nodup
  have hbL : b ∉ Ln := (List.nodup_cons.1 hnd).1
  refine F38_link ?_
  unfold F38
  rw [nilC_v, fa_v fo47_0, ld_v sc4 (cells4 h1).1, not_v]
  refine br_bool _ _ _ (fun ho => k0 (by simpa using ho)) (fun ho => ?_)
  rw [nilC_v, fa_v fo47_0]
  refine st sc4 h1 (by simp) rfl fun w1 hb1 hc1 hs1 => ?_
  rw [nilC_v, fa_v fo47_2]
  refine st sc4 hb1 (by simp) rfl fun w2 hb2 hc2 hs2 => ?_
  have hd : ∀ x, x ∈ Ln → x ∉ [b] := fun x hx hm => by simp at hm; exact hbL (hm ▸ hx)
  have h22 : BS w2 nv now Ln := Own.ch (Own.ch h2 hc1 hd) hc2 hd
  rw [nilC_v, fa_v fo47_1, ld_v sc22 (cells4 hb2).2.1, cvbs_v byT22 und9 (Own.rd h22), nilC_v, fa_v fo47_3]
  refine st sc9 hb2 (by simp) rfl fun w3 hb3 hc3 hs3 => ?_
  exact k1 (by simpa using ho) w3 ⟨⟨_, Ln, hb3, Own.ch h22 hc3 hd, rfl⟩, hnd⟩ (((hc1.trans hc2 (by simp)).trans hc3 (by simp)).mono (by simp))
theorem sput_ {b B : Nat} {now bs : Bs} {on : Bool} {last : Bs} {is : Bool} {L : List Nat} {src : Value} (h : RR w b now on last is L) (hs : RB w B src bs) (hB : B ≤ w.heap.size) (hl : on = true → now.length ≤ 128) (hb : bs.length ≤ 140737488355328)
    (k0 : on = false → K (I64 6) w)
    (k1 : on = true → ∀ w' L', RR w' b (now ++ bs) true last is L' → Ch L w w' → (∀ x, x ∈ L' → x ∈ L ∨ w.heap.size ≤ x) → now.length + bs.length ≤ 128 → K (I64 0) w')
    (k2 : on = true → ∀ w', RR w' b now false last is L → Ch L w w' → 128 < now.length + bs.length → K (I64 3) w') :
    S.call Try.prog 39 [PT b, src] K w := by
  obtain ⟨nv, Ln, h1, h2, h5⟩ := h.ex
  subst h5
  have hs0 := hs
  have h2' := h2
  have hnd := h.nodup
  have hlt := h.lt
  have hbL : b ∉ Ln := (List.nodup_cons.1 hnd).1
  obtain ⟨A, c, rfl, _⟩ := hs.form
  obtain ⟨An, cn, rfl, _⟩ := Own.shape h2
  refine F39_link ?_
  unfold F39
  rw [nilC_v, fa_v fo47_0, ld_v sc4 (cells4 h1).1, not_v]
  refine br_bool _ _ _ (fun ho => k0 (by simpa using ho)) (fun ho => ?_)
  have hon : on = true := by simpa using ho
  have hl' := hl hon
  subst hon
  rw [len_v el22, nilC_v, fa_v fo47_1, ld_v sc22 (cells4 h1).2.1, len_v el22, sub_v, wrap_i64 (by omega) (by omega), gt_v]
  refine br_dec _ _ _ (fun hgt => ?_) (fun hle => ?_)
  · rw [nilC_v, fa_v fo47_0]
    refine st sc4 h1 (by simp) rfl fun w1 hb1 hc1 hs1 => ?_
    exact k2 rfl w1 ⟨⟨_, Ln, hb1, Own.ch h2' hc1 (fun x hx hm => by simp at hm; exact hbL (hm ▸ hx)), rfl⟩, hnd⟩ (hc1.mono (by simp)) (by omega)
  · rw [nilC_v, fa_v fo47_1, ld_v sc22 (cells4 h1).2.1]
    refine rjoin_ (Own.rd h2') hs0 (by omega) fun v1 w1 L1 ho1 hc1 hl1 => ?_
    have ho1' := ho1
    obtain ⟨A1, c1, rfl, _⟩ := Own.shape ho1
    rw [nilC_v, fa_v fo47_1]
    refine st sc22 (hc1.at_ h1 (by simp)) (by simp) rfl fun w2 hb2 hc2 hs2 => ?_
    have hbw := hlt b (by simp)
    refine k1 rfl w2 (b :: L1) ⟨⟨_, L1, hb2, ?_, rfl⟩, ?_⟩ ((hc1.nil).trans hc2 (by simp)) ?_ (by omega)
    · exact Own.ch ho1' hc2 (fun x hx hm => by simp at hm; have := hl1 x hx; omega)
    · exact List.nodup_cons.2 ⟨fun hm => by have := hl1 _ hm; omega, ho1'.nodup⟩
    · intro x hx
      rcases List.mem_cons.1 hx with rfl | hx
      · exact .inl (by simp)
      · exact .inr (hl1 x hx)
theorem scancel_ {b : Nat} {now : Bs} {on : Bool} {last : Bs} {is : Bool} {L : List Nat} (h : RR w b now on last is L)
    (k0 : on = false → K (I64 6) w) (k1 : on = true → ∀ w', RR w' b now false last is L → Ch L w w' → K (I64 0) w') : S.call Try.prog 41 [PT b] K w := by
  obtain ⟨nv, Ln, h1, h2, h5⟩ := h.ex
  subst h5
  have hnd := h.nodup
  have hbL : b ∉ Ln := (List.nodup_cons.1 hnd).1
  refine F41_link ?_
  unfold F41
  rw [nilC_v, fa_v fo47_0, ld_v sc4 (cells4 h1).1, not_v]
  refine br_bool _ _ _ (fun ho => k0 (by simpa using ho)) (fun ho => ?_)
  rw [nilC_v, fa_v fo47_0]
  refine st sc4 h1 (by simp) rfl fun w1 hb1 hc1 hs1 => ?_
  exact k1 (by simpa using ho) w1 ⟨⟨_, Ln, hb1, Own.ch h2 hc1 (fun x hx hm => by simp at hm; exact hbL (hm ▸ hx)), rfl⟩, hnd⟩ (hc1.mono (by simp))
end
end Go.Proofs.Ythpbiliajcameaa
