import Derived.Test.YtjaoeipfiodnfaaDoorBA
set_option linter.unusedVariables false
set_option maxRecDepth 4000
namespace Go.Proofs.YtjaoeipfiodnfaaDoor
open Go Go.Fw Go.Proofs Go.RowKit
def pushR (s : MS) (p : Par) : Int × MS := if 64 ≤ s.st.length then (41, s) else (0, { s with st := p :: s.st })
def writeR (s : MS) (t : List UInt8) : Int × MS := if 16384 < s.out.length + t.length then (3, s) else (0, { s with out := s.out ++ t })
def DGo (w : World) (bm bv mm : Nat) (L : List Nat) (r : Int × MS) (K : Value → World → Prop) : Prop :=
  (r.1 = 0 → MGo w bm bv mm L r.2 (K (I64 0))) ∧ (r.1 ≠ 0 → ∀ w', Ch L w w' → K (I64 r.1) w')
theorem MGo.trans {w w1 : World} {bm bv mm : Nat} {L L1 : List Nat} {s : MS} {k : World → Prop} (h : MGo w bm bv mm L s k) (hc : Ch L w w1) (hl : ∀ x, x ∈ L1 → x ∈ L ∨ w.heap.size ≤ x) : MGo w1 bm bv mm L1 s k := fun w' L' hm hc' hl' =>
  h w' L' hm (hc.trans hc' hl) (fun x hx => by
    rcases hl' x hx with h1 | h1
    · exact hl x h1
    · have := hc.size; omega)
theorem DGo.trans {w w1 : World} {bm bv mm : Nat} {L L1 : List Nat} {r : Int × MS} {K : Value → World → Prop} (h : DGo w bm bv mm L r K) (hc : Ch L w w1) (hl : ∀ x, x ∈ L1 → x ∈ L ∨ w.heap.size ≤ x) : DGo w1 bm bv mm L1 r K :=
  ⟨fun h0 => (h.1 h0).trans hc hl, fun h0 w' hc' => h.2 h0 w' (hc.trans hc' hl)⟩
theorem MGo.mono {w : World} {bm bv mm : Nat} {L : List Nat} {s : MS} {k k' : World → Prop} (h : MGo w bm bv mm L s k) (hk : ∀ w', k w' → k' w') : MGo w bm bv mm L s k' := fun w' L' hm hc' hl' => hk w' (h w' L' hm hc' hl')
section
variable {w : World} {K : Value → World → Prop}
theorem num_ {bm bv mm : Nat} {s : MS} {L : List Nat} (h : MAt w bm bv mm s L) (hst : s.st.length ≤ 64) (k : MGo w bm bv mm L (popR s).2 (K (I32 (popR s).1.num))) : S.call Tryd.prog 31 [PT bm] K w := by
  refine F31_link ?_
  unfold F31
  refine pop_ h hst (k.mono fun w' hk => ?_)
  rw [v_eq (fd36_0 _ _)]
  exact hk
set_option maxHeartbeats 1000000
theorem push_ {bm bv mm : Nat} {s : MS} {p : Par} {L : List Nat} (h : MAt w bm bv mm s L) (k1 : 64 ≤ s.st.length → ∀ w', Ch [] w w' → K (I64 41) w') (k2 : s.st.length < 64 → MGo w bm bv mm L { s with st := p :: s.st } (K (I64 0))) : S.call Tryd.prog 55 [PT bm, parV p] K w := by
  refine F55_link ?_
  unfold F55
  have hlt := h.lt
  refine Go.Fw.bx fun w1 hb1 hc1 hs1 => ?_
  generalize hg : w.heap.size = g at *
  have h1 := h.ch hc1 (by simp)
  have hn9 := h.n9
  obtain ⟨sv, ov, Ls, Lo, a1, a2, a3, a4, a5, a6, a7⟩ := h1.ex
  subst a6
  have hgL : g ∉ bv :: bm :: mm :: (Ls ++ Lo) := fun hm => by have := hlt g hm; omega
  obtain ⟨A, c, hsv, hc1', hc2'⟩ := Own.shape a4
  rw [nilC_v, fa_v fo73_2, ldb_v sc22 a1 (mC_28 hn9)]
  rw [lenr_v el22 a4.rd, ge_v]
  refine br_dec _ _ _ (fun h64 => ?_) (fun h64 => ?_)
  · exact k1 (by omega) w1 hc1
  have k3 := k2 (by omega)
  clear k1 k2
  refine drawn_ok fun w2 hc2 hs2 => ?_
  have hc02 : Ch [] w1 w2 := hc2
  have b1 := hc2.at_ a1 (by simp)
  have b2 := hc2.at_ a2 (by simp)
  have b4 := a4.ch hc2 (by simp)
  have hb2 := hc2.at_ hb1 (by simp)
  have nd := a7
  simp only [List.nodup_cons, List.mem_cons, List.mem_append, not_or] at nd hgL
  refine ⟨fun w' => Ch Ls w2 w', Ch.refl _ _, ?_⟩
  have hbmL : bm ∉ Ls := nd.2.1.2.1
  have hgLs : g ∉ Ls := hgL.2.2.2.1
  refine h_ok (x := PT bm) (fun w' hw => run_nilC _) ?_
  refine h_ok (x := .pointer (some ⟨bm, 28, none⟩)) (fun w' hw => by have := run_fa (P := Tryd.prog) (w := w') (b := bm) (off := 0) fo73_2; rwa [Nat.zero_add] at this) ?_
  refine h_ok (x := sv) (fun w' hw => run_ld sc22 ((cell_heap (hw.at_ b1 hbmL)).trans (mC_28 hn9))) ?_
  refine h_ok (x := parV p) (fun w' hw => run_lda (vs := parC p) ag36 rfl (block_cells (hw.at_ hb2 hgLs))) ?_
  refine v_ok (bs22 ..) ?_
  have hn6 := heap_alloc_new w2 (.cells #[I32 p.num, strV p.text, .bool p.is] 36)
  have hc6 := ch_alloc w2 (.cells #[I32 p.num, strV p.text, .bool p.is] 36)
  have hown : Own (w2.alloc (.cells #[I32 p.num, strV p.text, .bool p.is] 36)) 36 3 (.slice (some ⟨w2.heap.size, 0, none⟩) 1 1) 1 (parsC [p]) [w2.heap.size] := Own.fresh hn6 rfl (by simp only [maxLen]; omega)
  generalize w2.alloc (.cells #[I32 p.num, strV p.text, .bool p.is] 36) = w3 at *
  refine ⟨hc6.nil, ?_⟩
  refine ap (m := 1) (news := parsC [p]) sl22 (b4.ch hc6 (by simp)) hown.rd one_pars (by omega) (by omega) fun v4 w4 L4 ho4 hc4 hl4 => ?_
  have hc24 : Ch Ls w2 w4 := hc6.nil.trans hc4 (fun x hx => .inl hx)
  refine ⟨hc24, ?_⟩
  rw [nilC_v, fa_v fo73_2]
  have b14 := hc24.at_ b1 hbmL
  refine st sc22 b14 (by rw [mC_size hn9]; omega) (by obtain ⟨A4, c4, rfl, _, _⟩ := Own.shape ho4; rfl) fun w5 hb5 hc5 hs5 => ?_
  rw [mC_set28 hn9] at hb5
  have hw2 : w2.heap.size = g + 1 := by omega
  have hsz3 := hc6.size
  have hl4' : ∀ x, x ∈ L4 → x ∈ Ls ∨ g + 1 ≤ x := fun x hx => by
    rcases hl4 x hx with h | h
    · exact .inl h
    · exact .inr (by omega)
  have hlt' : ∀ x, x ∈ bv :: bm :: mm :: (Ls ++ Lo) → x < g := fun x hx => by have := hlt x hx; omega
  have hbv : bv ∉ Ls := nd.1.2.2.1
  have hmm : mm ∉ Ls := nd.2.2.1.1
  have hLo : ∀ x, x ∈ Lo → x ∉ Ls := by
    have hn := nd.2.2.2
    rw [List.nodup_append] at hn
    exact fun x hx hm => hn.2.2 x hm x hx rfl
  have hnd : (bv :: bm :: mm :: (L4 ++ Lo)).Nodup := by
    have := nodup_swap (A := [bv, bm, mm]) (X := Ls) (Y := L4) (B := Lo) (n := g + 1) a7 (fun x hx => by have := hlt' x hx; omega) ho4.nodup hl4'
    exact this
  have e1 : (p :: s.st).length = s.st.length + 1 := rfl
  have e2 : parsC (p :: s.st).reverse = parsC s.st.reverse ++ parsC [p] := by rw [List.reverse_cons, parsC_append]
  have hbm4 : bm ∉ L4 := by
    simp only [List.nodup_cons, List.mem_append, List.mem_cons, not_or] at hnd
    exact hnd.2.1.2.1
  refine k3 w5 (bm :: mm :: (L4 ++ Lo)) ⟨hn9, v4, ov, L4, Lo, hb5, (hc5.at_ (hc24.at_ b2 hbv) (by simpa using nd.1.1)), ?_, ?_, ?_, rfl, hnd⟩ ?_ ?_
  · exact ((a3.ch hc2 (by simp)).ch hc24 hmm).ch hc5 (by simpa using fun e => nd.2.1.1 e.symm)
  · have := ho4.ch hc5 (fun x hx => by simp; exact fun e => hbm4 (e ▸ hx))
    rw [e1, e2]
    exact this
  · exact ((a5.ch hc2 (by simp)).ch hc24 hLo).ch hc5 (fun x hx => by simp; exact fun e => nd.2.1.2.2 (e ▸ hx))
  · have : Ch (bm :: mm :: (Ls ++ Lo)) w w5 := ((hc1.trans hc2 (by simp)).nil.trans hc24 (fun x hx => .inl (by simp [hx]))).trans hc5 (fun x hx => .inl (by simp at hx; simp [hx]))
    exact this
  · intro x hx
    simp only [List.mem_cons, List.mem_append] at hx ⊢
    rcases hx with hx | hx | hx | hx
    · exact .inl (.inl hx)
    · exact .inl (.inr (.inl hx))
    · rcases hl4' x hx with h | h
      · exact .inl (.inr (.inr (.inl h)))
      · exact .inr (by omega)
    · exact .inl (.inr (.inr (.inr hx)))
theorem write_ {bm bv mm : Nat} {s : MS} {t : List UInt8} {L : List Nat} (h : MAt w bm bv mm s L) (ho : s.out.length ≤ 16384) (ht : t.length ≤ 4611686018427387904) (k1 : 16384 < s.out.length + t.length → ∀ w', Ch [] w w' → K (I64 3) w') (k2 : s.out.length + t.length ≤ 16384 → MGo w bm bv mm L { s with out := s.out ++ t } (K (I64 0))) : S.call Tryd.prog 53 [PT bm, strV t] K w := by
  refine F53_link ?_
  unfold F53
  have hlt := h.lt
  have hn9 := h.n9
  obtain ⟨sv, ov, Ls, Lo, a1, a2, a3, a4, a5, a6, a7⟩ := h.ex
  subst a6
  obtain ⟨A, c, hov, hc1', hc2'⟩ := Own.shape a5
  rw [nilC_v, fa_v fo73_3, ldb_v sc71 a1 (mC_29 hn9)]
  rw [lenr_v el71 a5.rd, lenS_v', add_v, wrap_i64 (by omega) (by omega), gt_v]
  refine br_dec _ _ _ (fun hgt => ?_) (fun hgt => ?_)
  · exact k1 (by omega) w (Ch.refl _ _)
  have k3 := k2 (by omega)
  clear k1 k2
  rw [nilC_v, fa_v fo73_3, ldb_v sc71 a1 (mC_29 hn9)]
  have nd := a7
  simp only [List.nodup_cons, List.mem_cons, List.mem_append, not_or] at nd
  refine aps a5 (by omega) fun v4 w4 L4 ho4 hc4 hl4 => ?_
  rw [nilC_v, fa_v fo73_3]
  have hbmL : bm ∉ Lo := nd.2.1.2.2
  have b14 := hc4.at_ a1 hbmL
  refine st sc71 b14 (by rw [mC_size hn9]; omega) (by obtain ⟨A4, c4, rfl, _, _⟩ := Own.shape ho4; rfl) fun w5 hb5 hc5 hs5 => ?_
  rw [mC_set29 hn9] at hb5
  have hbv : bv ∉ Lo := nd.1.2.2.2
  have hmm : mm ∉ Lo := nd.2.2.1.2
  have hLs : ∀ x, x ∈ Ls → x ∉ Lo := by
    have hn := nd.2.2.2
    rw [List.nodup_append] at hn
    exact fun x hx hm => hn.2.2 x hx x hm rfl
  have hnd : (bv :: bm :: mm :: (Ls ++ L4)).Nodup := by
    have := nodup_swap (A := bv :: bm :: mm :: Ls) (X := Lo) (Y := L4) (B := []) (n := w.heap.size) (by simpa using a7) (fun x hx => hlt x (by simpa using hx)) ho4.nodup hl4
    simpa using this
  have hbm4 : bm ∉ L4 := by
    simp only [List.nodup_cons, List.mem_append, List.mem_cons, not_or] at hnd
    exact hnd.2.1.2.2
  refine k3 w5 (bm :: mm :: (Ls ++ L4)) ⟨hn9, sv, v4, Ls, L4, hb5, (hc5.at_ (hc4.at_ a2 hbv) (by simpa using nd.1.1)), ?_, ?_, ?_, rfl, hnd⟩ ?_ ?_
  · exact (a3.ch hc4 hmm).ch hc5 (by simpa using fun e => nd.2.1.1 e.symm)
  · exact (a4.ch hc4 hLs).ch hc5 (fun x hx => by simp; exact fun e => nd.2.1.2.1 (e ▸ hx))
  · have := ho4.ch hc5 (fun x hx => by simp; exact fun e => hbm4 (e ▸ hx))
    rw [List.length_append, bytesV_append]
    exact this
  · have : Ch (bm :: mm :: (Ls ++ Lo)) w w5 := (hc4.mono (fun x hx => .inl (by simp [hx]))).trans hc5 (fun x hx => .inl (by simp at hx; simp [hx]))
    exact this
  · intro x hx
    simp only [List.mem_cons, List.mem_append] at hx ⊢
    rcases hx with hx | hx | hx | hx
    · exact .inl (.inl hx)
    · exact .inl (.inr (.inl hx))
    · exact .inl (.inr (.inr (.inl hx)))
    · rcases hl4 x hx with h | h
      · exact .inl (.inr (.inr (.inr h)))
      · exact .inr h
theorem pushD {bm bv mm : Nat} {s : MS} {p : Par} {L : List Nat} (h : MAt w bm bv mm s L) (k : DGo w bm bv mm L (pushR s p) K) : S.call Tryd.prog 55 [PT bm, parV p] K w := by
  unfold pushR at k
  refine push_ h (fun h1 w' hc => ?_) (fun h1 => ?_)
  · rw [if_pos h1] at k
    exact k.2 (by simp) w' hc.nil
  · rw [if_neg (by omega)] at k
    exact k.1 rfl
theorem writeD {bm bv mm : Nat} {s : MS} {t : List UInt8} {L : List Nat} (h : MAt w bm bv mm s L) (ho : s.out.length ≤ 16384) (ht : t.length ≤ 4611686018427387904) (k : DGo w bm bv mm L (writeR s t) K) : S.call Tryd.prog 53 [PT bm, strV t] K w := by
  unfold writeR at k
  refine write_ h ho ht (fun h1 w' hc => ?_) (fun h1 => ?_)
  · rw [if_pos h1] at k
    exact k.2 (by simp) w' hc.nil
  · rw [if_neg (by omega)] at k
    exact k.1 rfl
end
end Go.Proofs.YtjaoeipfiodnfaaDoor
