import Derived.Test.YthpbiliajcameaaD3
set_option linter.unusedVariables false
set_option maxRecDepth 4000
namespace Go.Proofs.Ythpbiliajcameaa
open Go Go.Fw Go.Proofs Go.RowKit
/-! ### The reference's queue -/
structure RQ (w : World) (b : Nat) (ty : Bs) (ms : List Bs) (run : Nat) (L : List Nat) : Prop where
  ex : ∃ tv mv hs Lt Lm Lh, w.heap[b]? = some (.cells #[mv, tv, .int .i64 run] 44 (0, 0)) ∧ BS w tv ty Lt ∧ Own w 22 1 mv ms.length hs Lm ∧ HE w hs ms Lh ∧ L = b :: (Lt ++ (Lm ++ Lh))
  nodup : L.Nodup
theorem RQ.ch {w w' : World} {b : Nat} {ty : Bs} {ms : List Bs} {run : Nat} {L M : List Nat} (h : RQ w b ty ms run L) (hc : Ch M w w') (hd : ∀ x, x ∈ L → x ∉ M) : RQ w' b ty ms run L := by
  obtain ⟨tv, mv, hs, Lt, Lm, Lh, h1, h2, h3, h4, h5⟩ := h.ex
  subst h5
  exact ⟨⟨tv, mv, hs, Lt, Lm, Lh, hc.at_ h1 (hd b (by simp)), h2.ch hc (fun x hx => hd x (by simp [hx])), h3.ch hc (fun x hx => hd x (by simp [hx])), h4.ch hc (fun x hx => hd x (by simp [hx])), rfl⟩, h.nodup⟩
theorem RQ.lt {w : World} {b : Nat} {ty : Bs} {ms : List Bs} {run : Nat} {L : List Nat} (h : RQ w b ty ms run L) : ∀ x, x ∈ L → x < w.heap.size := by
  obtain ⟨tv, mv, hs, Lt, Lm, Lh, h1, h2, h3, h4, h5⟩ := h.ex
  subst h5
  intro x hx
  simp only [List.mem_cons, List.mem_append] at hx
  rcases hx with rfl | hx | hx | hx
  · exact lt_of_heap h1
  · exact Own.lt h2 x hx
  · exact Own.lt h3 x hx
  · exact h4.lt x hx
def full (ms : List Bs) : List Bs := ms.filter fun m => !m.isEmpty
theorem full_all {ms : List Bs} (h : ∀ m, m ∈ ms → m ≠ []) : full ms = ms := by
  unfold full
  rw [List.filter_eq_self]
  intro m hm
  have := h m hm
  cases m with
  | nil => exact absurd rfl this
  | cons _ _ => rfl
theorem full_snoc {ms : List Bs} (h : ∀ m, m ∈ ms → m ≠ []) (x : Bs) : full (ms ++ [x]) = if x = [] then ms else ms ++ [x] := by
  have := full_all h
  unfold full at *
  rw [List.filter_append, this]
  cases x with
  | nil => simp
  | cons _ _ => simp
def cl : List Value → List Bs → List Value
  | h :: hs, m :: ms => if m = [] then cl hs ms else h :: cl hs ms
  | _, _ => []
theorem cl_app : ∀ {hs : List Value} {ms : List Bs} (hs' : List Value) (ms' : List Bs), hs.length = ms.length → cl (hs ++ hs') (ms ++ ms') = cl hs ms ++ cl hs' ms'
  | [], [], _, _, _ => rfl
  | h :: hs, m :: ms, hs', ms', hl => by
    simp only [List.cons_append, cl]
    rw [cl_app hs' ms' (by simpa using hl)]
    split <;> rfl
  | [], _ :: _, _, _, hl => by simp at hl
  | _ :: _, [], _, _, hl => by simp at hl
theorem cl_len : ∀ {hs : List Value} {ms : List Bs}, hs.length = ms.length → (cl hs ms).length = (full ms).length
  | [], [], _ => rfl
  | h :: hs, m :: ms, hl => by
    have ih := cl_len (hs := hs) (ms := ms) (by simpa using hl)
    unfold full at *
    simp only [cl, List.filter_cons]
    cases m with
    | nil => simpa using ih
    | cons _ _ => simpa using ih
  | [], _ :: _, hl => by simp at hl
  | _ :: _, [], hl => by simp at hl
theorem HE.cl {w : World} : ∀ {hs : List Value} {ms : List Bs} {L : List Nat}, HE w hs ms L → ∃ L', HE w (cl hs ms) (full ms) L' ∧ L'.Sublist L
  | [], [], L, h => ⟨L, h, List.Sublist.refl _⟩
  | h :: hs, m :: ms, L, ⟨L1, L2, h1, h2, h4⟩ => by
    obtain ⟨L', a1, a2⟩ := HE.cl h4
    subst h1
    cases m with
    | nil => exact ⟨L', a1, a2.trans (List.sublist_append_right _ _)⟩
    | cons c t => exact ⟨L1 ++ L', ⟨L1, L', rfl, h2, a1⟩, List.Sublist.append (List.Sublist.refl _) a2⟩
  | [], _ :: _, _, h => h.elim
  | _ :: _, [], _, h => h.elim
section
variable {w : World} {K : Value → World → Prop}
theorem pdepth_ {b : Nat} {ty : Bs} {ms : List Bs} {run : Nat} {L : List Nat} (hq : RQ w b ty ms run L) (k : K (I64 ms.length) w) : S.call Try.prog 22 [PT b] K w := by
  obtain ⟨tv, mv, hs, Lt, Lm, Lh, h1, h2, h3, h4, h5⟩ := hq.ex
  obtain ⟨A, c, rfl, _⟩ := h3.shape
  refine F22_link ?_
  unfold F22
  rw [nilC_v, fa_v fo44_0, ld_v sc32 (cells3 h1).1, len_v el32]
  exact k
theorem plen_ {b : Nat} {ty : Bs} {ms : List Bs} {run : Nat} {L : List Nat} (hq : RQ w b ty ms run L) (hb : ty.length + total ms ≤ 4611686018427387904) (k : K (I64 ((ty.length + total ms : Nat) : Int)) w) : S.call Try.prog 21 [PT b] K w := by
  obtain ⟨tv, mv, hs, Lt, Lm, Lh, h1, h2, h3, h4, h5⟩ := hq.ex
  have h3' := h3
  obtain ⟨A, c, rfl, hc1, hc2⟩ := h3.shape
  obtain ⟨A', c', rfl, _⟩ := Own.shape h2
  have hml : ms.length ≤ 9223372036854775807 := by have := hc2; simp only [maxLen] at this; omega
  refine F21_link ?_
  unfold F21
  rw [nilC_v, fa_v fo44_1, ld_v sc22 (cells3 h1).2.1, len_v el22]
  intro I hC
  have key : ∀ (d i : Nat) (x16 : Value), i + d = ms.length → I [I64 ((ty.length + total (ms.take i) : Nat) : Int), I64 (i : Int), x16] w := by
    intro d
    induction d with
    | zero =>
      intro i x16 hi
      refine hC _ _ _ _ ?_
      rw [nilC_v, fa_v fo44_0, ld_v sc32 (cells3 h1).1, len_v el32, lt_v, decide_eq_false (by omega), br_false, List.take_of_length_le (by omega)]
      exact k
    | succ d ih =>
      intro i x16 hi
      refine hC _ _ _ _ ?_
      have hlt : i < ms.length := by omega
      have hget : ms[i]? = some ms[i] := List.getElem?_eq_getElem hlt
      obtain ⟨hh, Lx, hh1, hh2, hh3⟩ := h4.get hget
      rw [nilC_v, fa_v fo44_0, ld_v sc32 (cells3 h1).1, len_v el32, lt_v, decide_eq_true (by omega), br_true, nilC_v, fa_v fo44_0, ld_v sc32 (cells3 h1).1, ixr_v (j := i) el32 sc22 (Own.rd h3') rfl hh1]
      obtain ⟨Ah, ch, rfl, _⟩ := Own.shape hh2
      have htt := total_take_succ hget
      have htl := total_take_le ms (i + 1)
      rw [len_v el22, add_v, wrap_i64 (by omega) (by omega), add_v, wrap_i64 (by omega) (by omega)]
      have := ih (i + 1) (.bool true) (by omega)
      rw [htt, show ((i + 1 : Nat) : Int) = (i : Int) + 1 from by omega, show ((ty.length + (total (ms.take i) + ms[i].length) : Nat) : Int) = ((ty.length + total (ms.take i) : Nat) : Int) + (ms[i].length : Int) from by omega] at this
      exact this
  have := key ms.length 0 undef (by omega)
  simpa [total] using this
theorem pput_ {b B : Nat} {ty bs : Bs} {ms : List Bs} {run : Nat} {L : List Nat} {src : Value} (hq : RQ w b ty ms run L) (hs : RB w B src bs) (hl : ty.length ≤ 65536) (hb : bs.length ≤ 140737488289792)
    (k : ∀ w' L', RQ w' b (putM ty bs).2 ms run L' → Ch L w w' → (∀ x, x ∈ L' → x ∈ L ∨ w.heap.size ≤ x) → K (I64 (putM ty bs).1) w') : S.call Try.prog 28 [PT b, src] K w := by
  obtain ⟨tv, mv, hs', Lt, Lm, Lh, h1, h2, h3, h4, h5⟩ := hq.ex
  subst h5
  have hs0 := hs
  have h2' := h2
  have hnd := hq.nodup
  have hlt := hq.lt
  obtain ⟨A, c, rfl, _⟩ := hs.form
  obtain ⟨At, ct, rfl, _⟩ := Own.shape h2
  refine F28_link ?_
  unfold F28
  rw [len_v el22, nilC_v, fa_v fo44_1, ld_v sc22 (cells3 h1).2.1, len_v el22, sub_v, wrap_i64 (by omega) (by omega), gt_v]
  refine br_dec _ _ _ (fun hgt => ?_) (fun hle => ?_)
  · have e : putM ty bs = (3, ty) := by unfold putM; rw [if_pos (by omega)]
    rw [e] at k
    exact k w _ hq (Ch.refl _ _) (fun x hx => .inl hx)
  · have e : putM ty bs = (0, ty ++ bs) := by unfold putM; rw [if_neg (by omega)]
    rw [e] at k
    rw [nilC_v, fa_v fo44_1, ld_v sc22 (cells3 h1).2.1]
    refine rjoin_ (Own.rd h2') hs0 (by omega) fun v1 w1 L1 ho1 hc1 hl1 => ?_
    have ho1' := ho1
    obtain ⟨A1, c1, rfl, _⟩ := Own.shape ho1
    rw [nilC_v, fa_v fo44_1]
    refine st sc22 (hc1.at_ h1 (by simp)) (by simp) rfl fun w2 hb2 hc2 hs2 => ?_
    have hbw := hlt b (by simp)
    have hd : ∀ x, x ∈ Lm ++ Lh → x ∉ [b] := fun x hx hm => by
      simp only [List.mem_cons, List.not_mem_nil, or_false] at hm
      subst hm
      exact (List.nodup_cons.1 hnd).1 (List.mem_append_right _ hx)
    refine k w2 (b :: (L1 ++ (Lm ++ Lh))) ⟨⟨_, mv, hs', L1, Lm, Lh, hb2, ?_, (h3.ch hc1 (by simp)).ch hc2 (fun x hx => hd x (by simp [hx])), (h4.ch hc1 (by simp)).ch hc2 (fun x hx => hd x (by simp [hx])), rfl⟩, ?_⟩ ((hc1.nil).trans hc2 (by simp)) ?_
    · exact Own.ch ho1' hc2 (fun x hx hm => by simp at hm; have := hl1 x hx; omega)
    · exact nodup_swap (A := [b]) (X := Lt) (Y := L1) (B := Lm ++ Lh) (n := w.heap.size) hnd hlt ho1'.nodup (fun x hx => .inr (hl1 x hx))
    · intro x hx
      simp only [List.mem_cons, List.mem_append] at hx ⊢
      rcases hx with rfl | hx | hx
      · exact .inl (.inl rfl)
      · exact .inr (hl1 x hx)
      · exact .inl (.inr (.inr hx))
theorem clean_ {b : Nat} {ty : Bs} {ms : List Bs} {run : Nat} {L : List Nat} (hq : RQ w b ty ms run L) (hm : ms.length ≤ 1048576)
    (k : ∀ w' L', RQ w' b ty (full ms) run L' → Ch L w w' → (∀ x, x ∈ L' → x ∈ L ∨ w.heap.size ≤ x) → K (.tuple #[]) w') : S.call Try.prog 43 [PT b] K w := by
  obtain ⟨tv, mv, hs, Lt, Lm, Lh, h1, h2, h3, h4, h5⟩ := hq.ex
  subst h5
  have h3' := h3
  have hnd := hq.nodup
  have hlt := hq.lt
  have hhl : hs.length = ms.length := h4.len
  obtain ⟨Am, cm, rfl, hcm1, hcm2⟩ := h3.shape
  refine F43_link ?_
  unfold F43
  intro I hC
  have key : ∀ (d i : Nat) (x2 x10 x21 : Value) (w' : World) (M : List Nat), i + d = ms.length → Own w' 22 1 x2 (cl (hs.take i) (ms.take i)).length (cl (hs.take i) (ms.take i)) M → (∀ x, x ∈ M → w.heap.size ≤ x) → Ch [] w w' → I [x2, I64 i, x10, x21] w' := by
    intro d
    induction d with
    | zero =>
      intro i x2 x10 x21 w1 M hi ho hfr hc1
      refine hC _ _ _ _ _ ?_
      have h11 := hc1.at_ h1 (by simp)
      rw [nilC_v, fa_v fo44_0, ld_v sc32 (cells3 h11).1, len_v el32, lt_v, decide_eq_false (by omega), br_false, nilC_v, fa_v fo44_0]
      rw [List.take_of_length_le (by omega), List.take_of_length_le (by omega)] at ho
      obtain ⟨L', he, hsub⟩ := HE.cl h4
      have ho' := ho
      obtain ⟨A2, c2, rfl, _⟩ := ho.shape
      refine st sc32 h11 (by simp) rfl fun w2 hb2 hc2 hs2 => ?_
      have hbw := hlt b (by simp)
      have hd : ∀ x, x ∈ Lt ++ Lh → x ∉ [b] := fun x hx hm => by
        simp only [List.mem_cons, List.not_mem_nil, or_false] at hm
        subst hm
        exact (List.nodup_cons.1 hnd).1 (by simp only [List.mem_append] at hx ⊢; grind)
      have hsubm : ∀ x, x ∈ L' → x ∈ Lh := fun x hx => hsub.subset hx
      refine k w2 (b :: (Lt ++ (M ++ L'))) ⟨⟨tv, _, cl hs ms, Lt, M, L', hb2, ?_, ?_, ?_, rfl⟩, ?_⟩ ((hc1.nil).trans hc2 (by simp)) ?_
      · exact Own.ch (Own.ch h2 hc1 (by simp)) hc2 (fun x hx => hd x (by simp [hx]))
      · rw [← cl_len hhl]
        exact ho'.ch hc2 (fun x hx hm => by simp at hm; have := hfr x hx; omega)
      · exact (he.ch hc1 (by simp)).ch hc2 (fun x hx => hd x (by simp [hsubm x hx]))
      · have n1 : (b :: (Lt ++ (Lm ++ L'))).Nodup := by
          refine List.Nodup.sublist ?_ hnd
          exact List.Sublist.cons_cons _ (List.Sublist.append (List.Sublist.refl _) (List.Sublist.append (List.Sublist.refl _) hsub))
        have := nodup_swap (A := b :: Lt) (X := Lm) (Y := M) (B := L') (n := w.heap.size) (by simpa using n1) (by
          intro x hx
          refine hlt x ?_
          simp only [List.cons_append, List.mem_cons, List.mem_append] at hx ⊢
          rcases hx with h | h | h | h
          · exact .inl h
          · exact .inr (.inl h)
          · exact .inr (.inr (.inl h))
          · exact .inr (.inr (.inr (hsubm x h)))) ho'.nodup (fun x hx => .inr (hfr x hx))
        simpa using this
      · intro x hx
        simp only [List.mem_cons, List.mem_append] at hx ⊢
        rcases hx with rfl | hx | hx | hx
        · exact .inl (.inl rfl)
        · exact .inl (.inr (.inl hx))
        · exact .inr (hfr x hx)
        · exact .inl (.inr (.inr (.inr (hsubm x hx))))
    | succ d ih =>
      intro i x2 x10 x21 w1 M hi ho hfr hc1
      refine hC _ _ _ _ _ ?_
      have h11 := hc1.at_ h1 (by simp)
      have hlt' : i < ms.length := by omega
      have hget : ms[i]? = some ms[i] := List.getElem?_eq_getElem hlt'
      obtain ⟨hh, Lx, hh1, hh2, hh3⟩ := h4.get hget
      have hlth : i < hs.length := by omega
      have hhe : hs[i] = hh := by rw [List.getElem?_eq_getElem hlth] at hh1; simpa using hh1
      have hstep : cl (hs.take (i + 1)) (ms.take (i + 1)) = cl (hs.take i) (ms.take i) ++ (if ms[i] = [] then [] else [hh]) := by
        rw [List.take_succ_eq_append_getElem hlth, List.take_succ_eq_append_getElem hlt', cl_app _ _ (by simp; omega), hhe]
        rfl
      have hcl : (cl (hs.take i) (ms.take i)).length ≤ ms.length := by
        rw [cl_len (by simp; omega)]
        unfold full
        exact Nat.le_trans (List.length_filter_le _ _) (by simp; omega)
      rw [nilC_v, fa_v fo44_0, ld_v sc32 (cells3 h11).1, len_v el32, lt_v, decide_eq_true (by omega), br_true]
      refine seq_ok fun J hJ => ?_
      have hj : ∀ (v x : Value) (w' : World) (M' : List Nat), Own w' 22 1 v (cl (hs.take (i + 1)) (ms.take (i + 1))).length (cl (hs.take (i + 1)) (ms.take (i + 1))) M' → (∀ x, x ∈ M' → w.heap.size ≤ x) → Ch [] w w' → J [v, x] w' := by
        intro v x w' M' b1 b2 b3
        refine hJ _ _ ?_
        rw [add_v, wrap_i64 (by omega) (by omega)]
        have := ih (i + 1) v (.bool true) x w' M' (by omega) b1 b2 b3
        rw [show ((i + 1 : Nat) : Int) = (i : Int) + 1 from by omega] at this
        exact this
      clear hJ
      have hrd : Rd w1 w1.heap.size 1 (.slice Am ms.length cm) ms.length hs := Own.rd (h3'.ch hc1 (by simp))
      rw [nilC_v, fa_v fo44_0, ld_v sc32 (cells3 h11).1, ixr_v (j := i) el32 sc22 hrd rfl hh1]
      obtain ⟨Ah, ch, rfl, _⟩ := Own.shape hh2
      rw [len_v el22, gt_v]
      refine br_dec _ _ _ (fun hp => ?_) (fun hz => ?_)
      · have hne : ms[i] ≠ [] := fun e => by rw [e] at hp; simp at hp
        rw [if_neg hne] at hstep
        rw [nilC_v, fa_v fo44_0, ld_v sc32 (cells3 h11).1, ixr_v (j := i) el32 sc22 hrd rfl hh1]
        refine bs1 sl32 rfl rfl fun w2 ho2 hc2 hs2 => ?_
        refine ap (m := 1) (news := [.slice Ah ms[i].length ch]) sl32 (ho.ch hc2 (by simp)) ho2.rd (by simp [Value.oneCell']) (by omega) (by omega) fun v3 w3 L3 ho3 hc3 hl3 => ?_
        have hsz1 := hc1.size
        refine hj v3 _ w3 L3 ?_ (fun x hx => ?_) ((hc1.trans hc2 (by simp)).trans hc3 (fun x hx => .inr (hfr x hx)))
        · rw [hstep, List.length_append]
          exact ho3
        · rcases hl3 x hx with h | h
          · exact hfr x h
          · omega
      · have hne : ms[i] = [] := List.eq_nil_of_length_eq_zero (by omega)
        rw [if_pos hne, List.append_nil] at hstep
        exact hj x2 _ w1 M (by rw [hstep]; exact ho) hfr hc1
  exact key ms.length 0 _ undef undef w [] (by omega) (Own.nil _ _ _) (by simp) (Ch.refl _ _)
theorem ppush_ {b B : Nat} {ty bs : Bs} {ms : List Bs} {run : Nat} {L : List Nat} {src : Value} (hq : RQ w b ty ms run L) (hs : RB w B src bs) (hB : B ≤ w.heap.size) (hms : ms.length ≤ 16) (hne : ∀ m, m ∈ ms → m ≠ []) (hb : bs.length ≤ 9223372036854775807)
    (k : ∀ w' L', RQ w' b ty (pushM ms bs).2 run L' → Ch L w w' → (∀ x, x ∈ L' → x ∈ L ∨ w.heap.size ≤ x) → K (I64 (pushM ms bs).1) w') : S.call Try.prog 29 [PT b, src] K w := by
  obtain ⟨tv, mv, hs', Lt, Lm, Lh, h1, h2, h3, h4, h5⟩ := hq.ex
  subst h5
  have hs0 := hs
  have h3' := h3
  have hnd := hq.nodup
  have hlt := hq.lt
  obtain ⟨A, c, rfl, _⟩ := hs.form
  obtain ⟨Am, cm, rfl, hcm1, hcm2⟩ := h3.shape
  refine F29_link ?_
  unfold F29
  rw [len_v el22, gt_v]
  refine br_dec _ _ _ (fun hgt => ?_) (fun hle => ?_)
  · have e : pushM ms bs = (3, ms) := by unfold pushM; rw [if_pos (by omega)]
    rw [e] at k
    exact k w _ hq (Ch.refl _ _) (fun x hx => .inl hx)
  rw [nilC_v, fa_v fo44_0, ld_v sc32 (cells3 h1).1, len_v el32, ge_v]
  refine br_dec _ _ _ (fun hge => ?_) (fun hnge => ?_)
  · have e : pushM ms bs = (6, ms) := by unfold pushM; rw [if_neg (by omega), if_pos (by omega)]
    rw [e] at k
    exact k w _ hq (Ch.refl _ _) (fun x hx => .inl hx)
  have e : pushM ms bs = (0, if bs = [] then ms else ms ++ [bs]) := by unfold pushM; rw [if_neg (by omega), if_neg (by omega)]
  rw [e] at k
  rw [nilC_v, fa_v fo44_0, ld_v sc32 (cells3 h1).1]
  have hhl : hs'.length = ms.length := h4.len
  have hone : ∀ u ∈ hs', u.oneCell' = true := by
    intro u hu
    obtain ⟨i, hi, rfl⟩ := List.mem_iff_getElem.1 hu
    have hget : ms[i]? = some (ms[i]'(by omega)) := List.getElem?_eq_getElem (by omega)
    obtain ⟨hh, Lx, hh1, hh2, hh3⟩ := h4.get hget
    rw [List.getElem?_eq_getElem hi] at hh1
    injection hh1 with hh1
    rw [hh1]
    obtain ⟨Ah, ch, rfl, _⟩ := Own.shape hh2
    rfl
  refine ap (m := ms.length) (news := hs') sl32 (Own.nil _ _ _) (Own.rd h3') hone (by omega) (by omega) fun v1 w1 L1 ho1 hc1 hl1 => ?_
  rw [List.nil_append, Nat.zero_add] at ho1
  have hsz1 := hc1.size
  have hl1' : ∀ x, x ∈ L1 → w.heap.size ≤ x := fun x hx => by simpa using hl1 x hx
  have hnil : RB w1 0 (.slice none 0 0) [] := ⟨rfl, none, 0, rfl, Nat.le_refl _, Nat.zero_le _, fun h => absurd h (by simp), fun b off h => by cases h⟩
  refine rjoin_ hnil (Rd.ch hs0 hc1 (by simp)) (by simp; omega) fun v2 w2 L2 ho2 hc2 hl2 => ?_
  rw [List.nil_append] at ho2
  have ho2' := ho2
  obtain ⟨A2, c2, rfl, _⟩ := Own.shape ho2
  refine bs1 sl32 rfl rfl fun w3 ho3 hc3 hs3 => ?_
  have l2 := Own.lt ho2'
  have hc13 : Ch [] w1 w3 := hc2.trans hc3 (by simp)
  refine ap (m := 1) (news := [.slice A2 bs.length c2]) sl32 (ho1.ch hc13 (by simp)) ho3.rd (by simp [Value.oneCell']) (by omega) (by omega) fun v4 w4 L4 ho4 hc4 hl4 => ?_
  have hsz2 := hc2.size
  have hsz13 := hc13.size
  have hc03 : Ch [] w w3 := hc1.trans hc13 (by simp)
  have hc04 : Ch [] w w4 := hc03.trans hc4 (fun x hx => .inr (hl1' x hx))
  have ho4' := ho4
  obtain ⟨A4, c4, rfl, _⟩ := Own.shape ho4
  rw [nilC_v, fa_v fo44_0]
  refine st sc32 (hc04.at_ h1 (by simp)) (by simp) rfl fun w5 hb5 hc5 hs5 => ?_
  have hbw := hlt b (by simp)
  have hl4' : ∀ x, x ∈ L4 → w.heap.size ≤ x := fun x hx => by
    rcases hl4 x hx with h | h
    · exact hl1' x h
    · omega
  have hd24 : ∀ x, x ∈ L2 → x ∉ L1 ∧ x ∉ L4 := by
    intro x hx
    have a := hl2 x hx
    have l1 := Own.lt ho1
    refine ⟨fun hm => by have := l1 x hm; omega, fun hm => ?_⟩
    rcases hl4 x hm with h | h
    · have := l1 x h; omega
    · have := l2 x hx; omega
  have hd : ∀ x, x ∈ Lt ++ Lh → x ∉ [b] := fun x hx hm => by
    simp only [List.mem_cons, List.not_mem_nil, or_false] at hm
    subst hm
    exact (List.nodup_cons.1 hnd).1 (by simp only [List.mem_append] at hx ⊢; grind)
  have hq5 : RQ w5 b ty (ms ++ [bs]) run (b :: (Lt ++ (L4 ++ (Lh ++ L2)))) := by
    refine ⟨⟨tv, _, hs' ++ [.slice A2 bs.length c2], Lt, L4, Lh ++ L2, hb5, ?_, ?_, ?_, rfl⟩, ?_⟩
    · exact Own.ch (Own.ch h2 hc04 (by simp)) hc5 (fun x hx => hd x (by simp [hx]))
    · rw [List.length_append]
      exact ho4'.ch hc5 (fun x hx hm => by simp at hm; have := hl4' x hx; omega)
    · refine HE.snoc ?_ ((h4.ch hc04 (by simp)).ch hc5 (fun x hx => hd x (by simp [hx])))
      exact Own.ch (Own.ch (Own.ch ho2' hc3 (by simp)) hc4 (fun x hx => (hd24 x hx).1)) hc5 (fun x hx hm => by simp at hm; have := hl2 x hx; omega)
    · have n1 := nodup_swap (A := b :: Lt) (X := Lm) (Y := L4) (B := Lh) (n := w.heap.size) (by simpa using hnd) (by simpa using hlt) ho4'.nodup (fun x hx => .inr (hl4' x hx))
      have n2 : (b :: (Lt ++ (L4 ++ Lh)) ++ L2).Nodup := by
        rw [List.nodup_append]
        refine ⟨by simpa using n1, ho2'.nodup, fun x hx y hy e => ?_⟩
        subst e
        have a := hl2 x hy
        simp only [List.mem_cons, List.mem_append] at hx
        rcases hx with h | h | h | h
        · omega
        · have := hlt x (by simp [h]); omega
        · exact (hd24 x hy).2 h
        · have := hlt x (by simp [h]); omega
      simpa using n2
  refine clean_ hq5 (by simp; omega) fun w6 L6 hq6 hc6 hl6 => ?_
  rw [full_snoc hne] at hq6
  have hsz5 : w.heap.size ≤ w5.heap.size := by have := hc04.size; omega
  refine k w6 L6 hq6 (((hc04.nil).trans hc5 (by simp)).trans hc6 (fun x hx => ?_)) (fun x hx => ?_)
  · simp only [List.mem_cons, List.mem_append] at hx ⊢
    rcases hx with h | h | h | h | h
    · exact .inl (.inl h)
    · exact .inl (.inr (.inl h))
    · exact .inr (hl4' x h)
    · exact .inl (.inr (.inr (.inr h)))
    · right; have := hl2 x h; omega
  · rcases hl6 x hx with h | h
    · simp only [List.mem_cons, List.mem_append] at h ⊢
      rcases h with h | h | h | h | h
      · exact .inl (.inl h)
      · exact .inl (.inr (.inl h))
      · exact .inr (hl4' x h)
      · exact .inl (.inr (.inr (.inr h)))
      · right; have := hl2 x h; omega
    · right; omega
theorem pdrop_ {b : Nat} {ty : Bs} {ms : List Bs} {run : Nat} {L : List Nat} (hq : RQ w b ty ms run L) (hb : ty.length + total ms ≤ 4611686018427387904)
    (k : ∀ w' L', RQ w' b ty [] run L' → Ch L w w' → (∀ x, x ∈ L' → x ∈ L) → K (I64 (total ms)) w') : S.call Try.prog 34 [PT b] K w := by
  obtain ⟨tv, mv, hs', Lt, Lm, Lh, h1, h2, h3, h4, h5⟩ := hq.ex
  subst h5
  have h2' := h2
  obtain ⟨At, ct, rfl, _⟩ := Own.shape h2
  refine F34_link ?_
  unfold F34
  refine drawn_ok fun w1 hc1 hs1 => ?_
  have h11 := hc1.at_ h1 (by simp)
  refine ⟨fun w' => w' = w1, rfl, ?_⟩
  refine h_ok (x := PT b) (fun w' hw => run_nilC _) ?_
  refine h_ok (x := .pointer (some ⟨b, 1, none⟩)) (fun w' hw => run_fa fo44_1) ?_
  refine h_ok (x := .slice At ty.length ct) (fun w' hw => by subst hw; exact run_ld sc22 (cells3 h11).2.1) ?_
  refine h_ok (x := I64 ty.length) (fun w' hw => run_len el22 _ _ rfl ..) ?_
  refine plen_ (hq.ch hc1 (by simp)) hb ⟨rfl, ?_⟩
  refine h_ok (x := I64 (total ms)) (fun w' hw => by rw [run_sub, wrap_i64 (by omega) (by omega)]; congr 2; omega) ?_
  rw [nilC_v, fa_v fo44_0]
  have hnd := hq.nodup
  refine st sc32 h11 (by simp) rfl fun w2 hb2 hc2 hs2 => ?_
  refine k w2 (b :: (Lt ++ ([] ++ []))) ⟨⟨_, _, [], Lt, [], [], hb2, ?_, Own.nil _ _ _, rfl, rfl⟩, ?_⟩ ((hc1.nil).trans hc2 (by simp)) ?_
  · exact Own.ch (Own.ch h2' hc1 (by simp)) hc2 (fun x hx hm => by simp at hm; subst hm; simp at hnd; exact hnd.1.1 hx)
  · simp only [List.nodup_cons, List.mem_append, List.nodup_append, not_or, List.append_nil] at hnd ⊢
    exact ⟨hnd.1.1, hnd.2.1⟩
  · intro x hx
    simp only [List.mem_cons, List.mem_append, List.append_nil] at hx ⊢
    grind
end
end Go.Proofs.Ythpbiliajcameaa
