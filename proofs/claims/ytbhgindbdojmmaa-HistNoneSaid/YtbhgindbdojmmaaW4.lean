import Derived.Test.YtbhgindbdojmmaaW3
set_option linter.unusedVariables false
set_option maxRecDepth 4000
namespace Go.Proofs.Ytbhgindbdojmmaa
open Go Go.Fw Go.Proofs Go.RowKit
theorem z102 : zeroT Try.prog 102 = some (.slice none 0 0) := by kernel_rfl
theorem z62 : zeroT Try.prog 62 = some (.slice none 0 0) := by kernel_rfl
structure CSt (w0 w : World) (c1 c2 : Nat) (iv sv : Value) (l : List (Nat × Str)) (M1 M2 : List Nat) : Prop where
  h1 : w.heap[c1]? = some (.cells #[iv] 102 (0, 0))
  h2 : w.heap[c2]? = some (.cells #[sv] 62 (0, 0))
  i1 : IS w iv (l.map (·.1)) M1
  s2 : SS w sv (l.map (·.2)) M2
  nd : (c1 :: c2 :: (M1 ++ M2)).Nodup
  fr : ∀ x, x ∈ c1 :: c2 :: (M1 ++ M2) → w0.heap.size ≤ x
  ch : Ch [] w0 w
theorem CSt.lt {w0 w : World} {c1 c2 : Nat} {iv sv : Value} {l : List (Nat × Str)} {M1 M2 : List Nat} (h : CSt w0 w c1 c2 iv sv l M1 M2) : ∀ x, x ∈ c1 :: c2 :: (M1 ++ M2) → x < w.heap.size := by
  intro x hx
  have a := lt_of_heap h.h1
  have b := lt_of_heap h.h2
  have c := Own.lt h.i1
  have d := Own.lt h.s2
  simp only [List.mem_cons, List.mem_append] at hx
  rcases hx with rfl | rfl | hx | hx
  · exact a
  · exact b
  · exact c x hx
  · exact d x hx
section
variable {w : World} {K : Value → World → Prop}
theorem changed_ {b : Nat} {was now : List Str} {place : Nat} {L : List Nat} (h : WAt w b was now place L) (hn : now ≠ []) (hlen : was.length ≤ now.length) (hw : was.length ≤ 4096)
    (k : ∀ w' c1 c2 iv, Ic w' w.heap.size w'.heap.size c1 c2 iv (chg was now) → Ch [] w w' → K (ChV c1 c2) w') : S.call Try.prog 20 [PT b] K w := by
  refine F20_link ?_
  unfold F20
  refine Go.Fw.al z102 fun w1 hb1 hc1 hs1 => ?_
  refine Go.Fw.al z62 fun w2 hb2 hc2 hs2 => ?_
  have hc02 : Ch [] w w2 := hc1.trans hc2 (by simp)
  refine seq_ok fun J hJ => ?_
  refine wnone (h.ch hc02 (by simp)) hn ?_
  obtain ⟨wv, nv, L1, L2, h1, h2, h3, h5⟩ := h.ex
  have h2' := h2
  have h3' := h3
  obtain ⟨A, cp, rfl, hcp1, hcp2⟩ := Own.shape h2
  have hcm : was.length ≤ 9223372036854775807 := by omega
  rw [not_v, show (!false) = true from rfl, br_true, nilC_v, fa_v fo96_0, ld_v sc62 (cells3 (hc02.at_ h1 (by simp))).1, len_v el62]
  intro I hC
  have key : ∀ (d i : Nat) (x5 x6 x16 x28 : Value) (w' : World) (iv sv : Value) (M1 M2 : List Nat), i + d = was.length → CSt w w' w.heap.size w1.heap.size iv sv (chgTo was now i) M1 M2 → I [x5, x6, I64 i, x16, x28] w' := by
    intro d
    induction d with
    | zero =>
      intro i x5 x6 x16 x28 w3 iv sv M1 M2 hi hk
      refine hC _ _ _ _ _ _ ?_
      rw [lt_v, decide_eq_false (by omega), br_false]
      refine hJ _ _ ?_
      rw [mf_v]
      have hi' : i = was.length := by omega
      subst hi'
      have hlt := hk.lt
      have hfr := hk.fr
      exact k w3 _ _ iv ⟨⟨sv, M1, M2, hk.h1, hk.h2, hk.i1, hk.s2, fun x hx => ⟨hfr x (by simp [hx]), hlt x (by simp [hx])⟩, fun x hx => ⟨hfr x (by simp [hx]), hlt x (by simp [hx])⟩⟩, hfr _ (by simp), hlt _ (by simp), hfr _ (by simp), hlt _ (by simp)⟩ hk.ch
    | succ d ih =>
      intro i x5 x6 x16 x28 w3 iv sv M1 M2 hi hk
      refine hC _ _ _ _ _ _ ?_
      have hlt : i < was.length := by omega
      have hlt2 : i < now.length := by omega
      have g1 : was[i]? = some was[i] := List.getElem?_eq_getElem hlt
      have g2 : now[i]? = some now[i] := List.getElem?_eq_getElem hlt2
      have hstep : chgTo was now (i + 1) = chgTo was now i ++ (if now[i] ≠ was[i] then [(i, now[i])] else []) := by simp only [chgTo, g1, g2]
      have hcl := chgTo_len was now i
      rw [lt_v, decide_eq_true (by omega), br_true]
      refine seq_ok fun J1 hJ1 => ?_
      have hj1 : ∀ (v0 v1 v2 : Value) (w' : World) (iv' sv' : Value) (M1' M2' : List Nat), CSt w w' w.heap.size w1.heap.size iv' sv' (chgTo was now (i + 1)) M1' M2' → J1 [v0, v1, v2] w' := by
        intro v0 v1 v2 w' iv' sv' M1' M2' hk'
        refine hJ1 _ _ ?_
        rw [add_v, wrap_i64 (by omega) (by omega)]
        have := ih (i + 1) v0 v1 (.bool true) v2 w' iv' sv' M1' M2' (by omega) hk'
        rw [show ((i + 1 : Nat) : Int) = (i : Int) + 1 from by omega] at this
        exact this
      clear hJ1
      have hwas3 : SS w3 (.slice A was.length cp) was L1 := Own.ch h2' hk.ch (by simp)
      have hnow3 : SS w3 nv now L2 := Own.ch h3' hk.ch (by simp)
      have h13 := hk.ch.at_ h1 (by simp)
      rw [ixr_v (j := i) el62 sc9 (Own.rd hwas3) rfl (strs_get g1), nilC_v, fa_v fo96_1, ld_v sc62 (cells3 h13).2.1, ixr_v (j := i) el62 sc9 (Own.rd hnow3) rfl (strs_get g2), nes_v]
      refine br_dec _ _ _ (fun hne => ?_) (fun heq => ?_)
      · rw [if_pos hne] at hstep
        obtain ⟨i1, i2, i3, i4, nd, fr, ch3⟩ := hk
        have hsz3 := ch3.size
        simp only [List.nodup_cons, List.mem_cons, List.mem_append, not_or, List.nodup_append] at nd
        obtain ⟨⟨n12, n1a, n1b⟩, ⟨n2a, n2b⟩, nM1, nM2, nd12⟩ := nd
        have lM1 := Own.lt i3
        have lM2 := Own.lt i4
        have l1 := lt_of_heap i1
        have l2 := lt_of_heap i2
        rw [ld_v sc102 (cells1 i1)]
        refine bs1 sl102 rfl rfl fun w4 ho4 hc4 hs4 => ?_
        refine ap (m := 1) (news := [I64 i]) sl102 (Own.ch i3 hc4 (by simp)) ho4.rd (by simp [Value.oneCell']) (by simp; omega) (by simp; omega) fun v5 w5 N1 ho5 hc5 hl5 => ?_
        have hc35 : Ch M1 w3 w5 := (hc4.nil).trans hc5 (fun x hx => .inl hx)
        obtain ⟨A5, c5, rfl, _⟩ := ho5.shape
        refine st sc102 (hc35.at_ i1 n1a) (by simp) rfl fun w6 hb6 hc6 hs6 => ?_
        refine drawn_ok fun w7 hc7 hs7 => ?_
        have hs35 := hc35.size
        have hc37 : Ch (w.heap.size :: M1) w3 w7 := ((hc35.mono (L' := w.heap.size :: M1) (fun x hx => .inl (by simp [hx]))).trans hc6 (by simp)).trans hc7 (by simp)
        have hc07 : Ch [] w w7 := ch3.trans hc37 (fun x hx => .inr (fr x (by simp only [List.mem_cons, List.mem_append] at hx ⊢; rcases hx with h | h <;> simp [h])))
        have f1 : ∀ x, x ∈ N1 → x ∈ M1 ∨ w3.heap.size ≤ x := fun x hx => by
          rcases hl5 x hx with h | h
          · exact .inl h
          · right; have := hc4.size; omega
        have hb7 := hc7.at_ hb6 (by simp)
        have ho7 := (ho5.ch hc6 (fun x hx hm => by
          simp at hm
          rcases f1 x hx with h | h
          · exact n1a (hm ▸ h)
          · omega)).ch hc7 (by simp)
        have i27 := hc37.at_ i2 (by simp only [List.mem_cons, not_or]; exact ⟨fun e => n12 e.symm, n2a⟩)
        have s27 := Own.ch i4 hc37 (fun x hx hm => by
          simp only [List.mem_cons] at hm
          rcases hm with rfl | hm
          · exact n1b hx
          · exact nd12 x hm x hx rfl)
        have hnow7 : SS w7 nv now L2 := Own.ch h3' hc07 (by simp)
        have h17 := hc07.at_ h1 (by simp)
        refine ⟨fun w' => Ch M2 w7 w', Ch.refl _ _, ?_⟩
        have hbM2 : b ∉ M2 := fun hm => by have := fr b (by simp [hm]); have := lt_of_heap h1; omega
        refine h_ok (x := sv) (fun w' hw => run_ld sc62 (cells1 (hw.at_ i27 n2b))) ?_
        refine h_ok (x := PT b) (fun w' hw => run_nilC _) ?_
        refine h_ok (x := .pointer (some ⟨b, 1, none⟩)) (fun w' hw => run_fa fo96_1) ?_
        refine h_ok (x := nv) (fun w' hw => run_ld sc62 (cells3 (hw.at_ h17 hbM2)).2.1) ?_
        obtain ⟨g, off, cn, rfl, hLg, _⟩ := Own.some_ hnow7 (by omega)
        have hgM2 : g ∉ M2 := fun hm => by
          have := fr g (by simp [hm])
          have := Own.lt h3 g (by simp [hLg])
          omega
        refine h_ok (x := .pointer (some ⟨g, off + i, none⟩)) (fun w' hw => by
          have := run_ia (P := Try.prog) (w := w') (g := g) (off := off) (c := cn) el62 .i64 (i : Int) (n := now.length) (by omega) (by omega)
          rwa [Int.toNat_natCast, Nat.mul_one] at this) ?_
        refine h_ok (x := strV now[i]) (fun w' hw => run_ld sc9 (hw.cell (Own.cell hnow7 (strs_get g2)) hgM2)) ?_
        have e2 : ((chgTo was now i).map (·.2)).length = (chgTo was now i).length := by simp
        refine bs1 sl62 rfl rfl fun w8 ho8 hc8 hs8 => ⟨hc8.nil, ?_⟩
        refine ap (m := 1) (news := [strV now[i]]) sl62 (Own.ch s27 hc8 (by simp)) ho8.rd (by simp [strV, Value.oneCell']) (by rw [e2]; omega) (by rw [e2]; omega) fun v9 w9 N2 ho9 hc9 hl9 => ⟨(hc8.nil).trans hc9 (fun x hx => .inl hx), ?_⟩
        have hc79 : Ch M2 w7 w9 := (hc8.nil).trans hc9 (fun x hx => .inl hx)
        obtain ⟨A9, c9, rfl, _⟩ := ho9.shape
        refine st sc62 (hc79.at_ i27 n2b) (by simp) rfl fun w10 hb10 hc10 hs10 => ?_
        have hs37 := hc37.size
        have hs79 := hc79.size
        have lN1 := ho7.lt
        have f2 : ∀ x, x ∈ N2 → x ∈ M2 ∨ w7.heap.size ≤ x := fun x hx => by
          rcases hl9 x hx with h | h
          · exact .inl h
          · right; have := hc8.size; omega
        have dN : ∀ x, x ∈ N1 → x ∉ M2 ∧ x ≠ w1.heap.size := fun x hx => by
          rcases f1 x hx with h | h
          · exact ⟨fun hm => nd12 x h x hm rfl, fun e => n2a (e ▸ h)⟩
          · exact ⟨fun hm => by have := lM2 x hm; omega, by omega⟩
        refine hj1 _ _ _ w10 _ _ N1 N2 ⟨hc10.at_ (hc79.at_ hb7 n1b) (by simpa using n12), hb10, ?_, ?_, ?_, ?_, ?_⟩
        · rw [hstep]
          have := (ho7.ch hc79 (fun x hx => (dN x hx).1)).ch hc10 (fun x hx => by simpa using (dN x hx).2)
          unfold IS
          simpa [ints] using this
        · rw [hstep]
          have := ho9.ch hc10 (fun x hx hm => by
            simp at hm
            rcases f2 x hx with h | h
            · exact n2b (hm ▸ h)
            · omega)
          unfold SS
          simpa [strs] using this
        · simp only [List.nodup_cons, List.mem_cons, List.mem_append, not_or, List.nodup_append]
          refine ⟨⟨n12, fun hm => ?_, fun hm => ?_⟩, ⟨fun hm => (dN _ hm).2 rfl, fun hm => ?_⟩, ho7.nodup, ho9.nodup, fun x hx y hy e => ?_⟩
          · rcases f1 _ hm with h | h
            · exact n1a h
            · omega
          · rcases f2 _ hm with h | h
            · exact n1b h
            · omega
          · rcases f2 _ hm with h | h
            · exact n2b h
            · omega
          · subst e
            rcases f2 x hy with h | h
            · exact (dN x hx).1 h
            · have := lN1 x hx; omega
        · intro x hx
          simp only [List.mem_cons, List.mem_append] at hx
          rcases hx with rfl | rfl | hx | hx
          · exact fr _ (by simp)
          · exact fr _ (by simp)
          · rcases f1 x hx with h | h
            · exact fr x (by simp [h])
            · omega
          · rcases f2 x hx with h | h
            · exact fr x (by simp [h])
            · omega
        · exact (hc07.trans hc79 (fun x hx => .inr (fr x (by simp [hx])))).trans hc10 (fun x hx => .inr (by simp at hx; rw [hx]; exact fr _ (by simp)))
      · rw [if_neg heq, List.append_nil] at hstep
        exact hj1 _ _ _ w3 iv sv M1 M2 (by rw [hstep]; exact hk)
  refine key was.length 0 undef undef undef undef w2 _ _ [] [] (by omega) ⟨hc2.at_ hb1 (by simp), hb2, Own.nil _ _ _, Own.nil _ _ _, by simp; omega, ?_, hc02⟩
  intro x hx
  simp at hx
  rcases hx with rfl | rfl <;> omega
end
end Go.Proofs.Ytbhgindbdojmmaa
