import Derived.Test.YtjaoeipfiodnfaaDoorBN
set_option linter.unusedVariables false
set_option maxRecDepth 4000
namespace Go.Proofs.YtjaoeipfiodnfaaDoor
open Go Go.Fw Go.Proofs Go.RowKit
/-! ### TparmChooses: the walk -/
def strsV (l : List (List UInt8)) : List Value := l.map strV
theorem strsV_len (l : List (List UInt8)) : (strsV l).length = l.length := by simp [strsV]
theorem strsV_append (a b : List (List UInt8)) : strsV (a ++ b) = strsV a ++ strsV b := by simp [strsV]
theorem one_strs {l : List (List UInt8)} : ∀ u ∈ strsV l, u.oneCell' = true := by
  intro u hu
  obtain ⟨x, _, rfl⟩ := List.mem_map.1 hu
  rfl
theorem cur_step {ps : List (List UInt8)} {i : Nat} {p : List UInt8} (h : ps[i]? = some p) : ((ps.take i).map noPc ++ ps.drop i).take i = (ps.take i).map noPc ∧ ((ps.take i).map noPc ++ ps.drop i).drop (i + 1) = ps.drop (i + 1) ∧
    (ps.take i).map noPc ++ (noPc p :: ps.drop (i + 1)) = (ps.take (i + 1)).map noPc ++ ps.drop (i + 1) := by
  have hi := (List.getElem?_eq_some_iff.1 h).1
  have hp := (List.getElem?_eq_some_iff.1 h).2
  have hl : ((ps.take i).map noPc).length = i := by simp; omega
  refine ⟨by rw [List.take_append_of_le_length (by omega), List.take_of_length_le (by omega)], ?_, ?_⟩
  · rw [List.drop_append, List.drop_of_length_le (by omega), hl, List.nil_append, List.drop_drop]
    congr 1
    omega
  · rw [List.take_succ_eq_append_getElem hi, hp]
    simp
section
variable {w : World} {K : Value → World → Prop}
theorem Rd.cutS' {B : Nat} {A : Option Addr} {n c : Nat} {l : List (List UInt8)} (h : Rd w B 1 (.slice A n c) n (strsV l)) {a u : Nat} (h1 : a ≤ u) (h2 : u ≤ n) : Rd w B 1 (cutS 1 A c a u) (u - a) (strsV ((l.drop a).take (u - a))) := by
  have := Rd.cut h h1 h2 (by omega)
  have e : ((strsV l).drop (a * 1)).take ((u - a) * 1) = strsV ((l.drop a).take (u - a)) := by simp [strsV]
  rwa [e] at this
set_option maxHeartbeats 2000000
theorem cv213'' {n : Int} (w : World) (h1 : -2147483648 ≤ n) (h2 : n ≤ 2147483647) : (Go.convert 21 3 (I32 n)).run Tryd.prog w = .ok (I64 n) w := cvI w (by kernel_rfl) (by kernel_rfl) (by kernel_rfl) (wrap_i64 (by omega) (by omega))
theorem chooses_ {v : Value} {ps : List (List UInt8)} {n m : Int} (hn : -2147483648 ≤ n ∧ n ≤ 2147483647) (hps : Rd w w.heap.size 1 v ps.length (strsV ps)) (hpl : ∀ p, p ∈ ps → p.length ≤ 1048576) (hg : Gnd w) (hm : w.cell? ⟨1, 0, none⟩ = some (.int .i64 m)) (k : ∀ w', Ch [] w w' → K (.bool true) w') :
    S.call Tryd.prog 4 [I32 n, v] K w := by
  refine F4_link ?_
  unfold F4
  have h6 := hg.1
  refine begun_ hg fun w1 hc1 => ?_
  rw [not_v, show (!true) = false from rfl, br_false, lenr_v el33 (hps.ch hc1 (by simp)), gt_v]
  refine br_dec _ _ _ (fun h60 => ?_) (fun h60 => ?_)
  · exact begun_ (hg.ch hc1 (by simp)) fun w2 hc2 => k w2 (hc1.trans hc2 (by simp))
  have hl60 : ps.length ≤ 60 := by omega
  rw [lenr_v el33 (hps.ch hc1 (by simp))]
  rw [show (Value.string { data := #[37, 63] }) = strV [37, 63] from rfl, show (Value.string { data := #[37, 112, 49, 37, 123] }) = strV [37, 112, 49, 37, 123] from rfl, show (Value.string { data := #[125, 37, 61, 37, 116] }) = strV [125, 37, 61, 37, 116] from rfl,
    show (Value.string { data := #[37, 101] }) = strV [37, 101] from rfl, show (Value.string { data := #[110, 111, 110, 101, 37, 59, 33] }) = strV endS from rfl, show (Value.string { data := #[33] }) = strV [33] from rfl, show (Value.string { data := #[110, 111, 110, 101, 33] }) = strV [110, 111, 110, 101, 33] from rfl]
  intro I hC
  have key : ∀ (d i : Nat) (s : List UInt8) (x1 x6 x7 x23 : Value) (w' : World), i + d = ps.length → Rd w' w'.heap.size 1 x1 ps.length (strsV ((ps.take i).map noPc ++ ps.drop i)) → s ++ chS i ((ps.drop i).map noPc) = [37, 63] ++ chS 0 (ps.map noPc) → s.length ≤ 2 + i * 1048700 → Ch [] w w' → I [x1, strV s, x6, x7, I64 i, x23] w' := by
    intro d
    induction d with
    | succ d ih =>
      intro i s x1 x6 x7 x23 w' hi hx hs hsl hch
      refine hC _ _ _ _ _ _ _ ?_
      have hil : i < ps.length := by omega
      obtain ⟨p, hp⟩ : ∃ p, ps[i]? = some p := ⟨ps[i], List.getElem?_eq_getElem hil⟩
      have hpll := hpl p (List.mem_of_getElem? hp)
      rw [lt_v, decide_eq_true (by omega), br_true, ixr_v el33 sc9 (hps.ch hch (by simp)) rfl (u := strV p) (by unfold strsV; rw [List.getElem?_map, hp]; rfl)]
      refine noPc_ hpll (hch.cell hm (by simp)) fun w2 hc2 => ?_
      obtain ⟨hq1, hq2⟩ := noPc_spec p
      obtain ⟨e1, e2, e3⟩ := cur_step hp
      have hch2 : Ch [] w w2 := hch.trans hc2 (by simp)
      have hx2 := hx.ch hc2 (by simp)
      have hil11 : (Lib.itoa (i : Int)).length ≤ 11 := itoa_le (by omega) (by omega)
      refine seq_ok fun J hJ => ?_
      have hJ' : ∀ (v3 : Value) (w3 : World), Rd w3 w3.heap.size 1 v3 ps.length (strsV ((ps.take (i + 1)).map noPc ++ ps.drop (i + 1))) → Ch [] w2 w3 → J [v3] w3 := by
        intro v3 w3 hv3 hc3
        refine hJ _ _ ?_
        rw [nth_zero]
        have hch3 : Ch [] w w3 := hch2.trans hc3 (by simp)
        refine itoa_ (by omega) (by omega) (hg.ch hch3 (by simp)) fun w4 hc4 => ?_
        rw [addS_v (by simp; omega), addS_v (by simp; omega), addS_v (by simp; omega), addS_v (by simp; omega), addS_v (by simp; omega), add_v, wrap_i64 (by omega) (by omega), show (i : Int) + 1 = ((i + 1 : Nat) : Int) from by omega]
        refine ih (i + 1) _ _ _ _ _ w4 (by omega) ((hv3.ch hc4 (by simp)).mono hc4.size) ?_ ?_ (hch3.trans hc4 (by simp))
        · rw [← hs, ← List.getElem_cons_drop hil, (List.getElem?_eq_some_iff.1 hp).2, List.map_cons]
          show _ = s ++ (segS i (noPc p) ++ chS (i + 1) _)
          unfold segS
          simp
        · simp only [List.length_append, List.length_cons, List.length_nil]
          omega
      clear hJ
      obtain ⟨A, c, rfl, hc1', hc2', _⟩ := hx2.form
      refine drawn_ok fun w3 hc3 hs3 => ?_
      have hx3 := hx2.ch hc3 (by simp)
      have hs2 := hc2.size
      refine ⟨fun w' => Ch [] w3 w', Ch.refl _ _, ?_⟩
      have hcm : c ≤ maxLen := hc2'
      refine h_ok (x := cutS 1 A c 0 i) (fun w' hw => run_cut el33 _ _ _ _ (.inl ⟨rfl, rfl⟩) (.inr ⟨_, rfl⟩) (by omega) (by omega)) ?_
      refine h_ok (x := I64 ((i + 1 : Nat) : Int)) (fun w' hw => by rw [run_add, wrap_i64 (by omega) (by omega)]; congr 2) ?_
      refine h_ok (x := cutS 1 A c (i + 1) ps.length) (fun w' hw => run_cut el33 _ _ _ _ (.inr ⟨_, rfl⟩) (.inl ⟨rfl, rfl⟩) (by omega) (by omega)) ?_
      have cutA : ∀ w', Ch [] w3 w' → Rd w' w'.heap.size 1 (cutS 1 A c 0 i) i (strsV ((ps.take i).map noPc)) := fun w' hw => by
        have := Rd.cutS' (B := w'.heap.size) ((hx3.ch hw (by simp)).mono (by have := hw.size; omega)) (a := 0) (u := i) (by omega) (by omega)
        rw [Nat.sub_zero, List.drop_zero, e1] at this
        exact this
      have cutB : ∀ w', Ch [] w3 w' → Rd w' w'.heap.size 1 (cutS 1 A c (i + 1) ps.length) (ps.length - (i + 1)) (strsV (ps.drop (i + 1))) := fun w' hw => by
        have := Rd.cutS' (B := w'.heap.size) ((hx3.ch hw (by simp)).mono (by have := hw.size; omega)) (a := i + 1) (u := ps.length) (by omega) (by omega)
        rw [e2, List.take_of_length_le (by simp)] at this
        exact this
      have fin : ∀ (v6 : Value) (w6 : World) (L6 : List Nat) (N : Nat) (xs : List Value), Own w6 9 1 v6 N xs L6 → N = ps.length → xs = strsV ((ps.take i).map noPc) ++ (strV (noPc p) :: strsV (ps.drop (i + 1))) → Ch [] w3 w6 → Ch [] w3 w6 ∧ J [v6] w6 := by
        intro v6 w6 L6 N xs ho hN hxs hc6
        subst hN hxs
        refine ⟨hc6, hJ' v6 w6 ?_ (hc3.trans hc6 (by simp))⟩
        have : strsV ((ps.take i).map noPc) ++ (strV (noPc p) :: strsV (ps.drop (i + 1))) = strsV ((ps.take (i + 1)).map noPc ++ ps.drop (i + 1)) := by
          rw [← e3, strsV_append]
          rfl
        rw [this] at ho
        exact ho.rd
      have hN : i + (1 + (ps.length - (i + 1))) = ps.length := by omega
      refine ⟨?_, ?_⟩
      · refine ap sl33 (Own.nil _ _ _) (cutA w3 (Ch.refl _ _)) one_strs (by omega) (by omega) fun v4 w4 L4 ho4 hc4 hl4 => ?_
        refine ⟨hc4, ?_⟩
        refine bs1 sl33 (v := strV (noPc p)) rfl rfl fun w5 ho5 hc5 hs5 => ?_
        have hc35 : Ch [] w3 w5 := hc4.trans hc5 (by simp)
        refine ⟨hc35, ?_⟩
        have hs4 := hc4.size
        refine ap sl33 ho5 (cutB w5 hc35) one_strs (by omega) (by omega) fun v6 w6 L6 ho6 hc6 hl6 => ?_
        have hc36 : Ch [] w3 w6 := Ch.fresh hc35 hc6 (by simp; omega)
        refine ⟨hc36, ?_⟩
        have hlt4 := ho4.lt
        have ho46 := (ho4.ch hc5 (by simp)).ch hc6 (fun x hx => by have := hlt4 x hx; simp; omega)
        refine ap sl33 ho46 ho6.rd (fun u hu => by
          simp only [List.cons_append, List.nil_append, List.mem_cons] at hu
          rcases hu with rfl | hu
          · rfl
          · exact one_strs u hu) (by omega) (by omega) fun v7 w7 L7 ho7 hc7 hl7 => ?_
        exact fin v7 w7 L7 _ _ ho7 (by omega) (by simp) (Ch.fresh hc36 hc7 (fun x hx => by have := hl4 x hx; simp at this; omega))
      · refine bs1 sl33 (v := strV (noPc p)) rfl rfl fun w4 ho4 hc4 hs4 => ?_
        refine ⟨hc4, ?_⟩
        refine ap sl33 (Own.nil _ _ _) (cutA w4 hc4) one_strs (by omega) (by omega) fun v5 w5 L5 ho5 hc5 hl5 => ?_
        have hc35 : Ch [] w3 w5 := hc4.trans hc5 (by simp)
        refine ⟨hc35, ?_⟩
        have hs4' := hc4.size
        have hs5 := hc5.size
        refine ap sl33 (ho4.ch hc5 (by simp)) (cutB w5 hc35) one_strs (by omega) (by omega) fun v6 w6 L6 ho6 hc6 hl6 => ?_
        have hc36 : Ch [] w3 w6 := Ch.fresh hc35 hc6 (by simp)
        refine ⟨hc36, ?_⟩
        have ho56 := ho5.ch hc6 (fun x hx => by have := hl5 x hx; simp at this ⊢; omega)
        refine ap sl33 ho56 ho6.rd (fun u hu => by
          simp only [List.cons_append, List.nil_append, List.mem_cons] at hu
          rcases hu with rfl | hu
          · rfl
          · exact one_strs u hu) (by omega) (by omega) fun v7 w7 L7 ho7 hc7 hl7 => ?_
        exact fin v7 w7 L7 _ _ ho7 (by omega) (by simp) (Ch.fresh hc36 hc7 (fun x hx => by have := hl5 x hx; simp at this; omega))
    | zero =>
      intro i s x1 x6 x7 x23 w' hi hx hs hsl hch
      refine hC _ _ _ _ _ _ _ ?_
      have hi' : i = ps.length := by omega
      subst hi'
      rw [List.drop_length, List.map_nil] at hs
      rw [List.take_length, List.drop_length, List.append_nil] at hx
      have hs' : s ++ endS = [37, 63] ++ chS 0 (ps.map noPc) := hs
      have hel : endS.length = 7 := rfl
      rw [lt_v, decide_eq_false (by omega), br_false, addS_v (by omega), lenS_v', gt_v, hs']
      refine br_dec _ _ _ (fun hg4 => k w' hch) (fun hg4 => ?_)
      have hcr := @choose_run n (ps.map noPc) (fun _ => none) (fun q hq => by
        obtain ⟨p, _, rfl⟩ := List.mem_map.1 hq
        exact (noPc_spec p).1) (by simpa using hl60) (by omega)
      refine seq_ok fun J hJ => ?_
      have hJ' : ∀ (q : Value), J [strV (wantR n 0 (ps.map noPc) ++ [33]), q] w' := by
        intro q
        refine hJ _ _ ?_
        rw [nth_zero]
        have hs' := hch.size
        refine new_ fun w5 L5 hcap hc5 hl5 => ?_
        have hs5 := hc5.size
        refine newvars_ fun w6 bv mm hv hc6 hbv hmm => ?_
        have hs6 := hc6.size
        rw [v_eq (bd36n ..)]
        refine one_ps fun v w7 hrd hc7 => ?_
        have hs7 := hc7.size
        have hc57 : Ch [] w5 w7 := hc6.trans hc7 (by simp)
        have hc07 : Ch [] w w7 := (hch.trans hc5 (by simp)).trans hc57 (by simp)
        refine run_ (hcap.ch hc57 (by simp)) ⟨hc7.at_ hv.1 (by simp), hv.2.1.ch hc7 (by simp), hv.2.2⟩ (hg.ch hc07 (by simp)) (by omega) (fun hm => by have := hcap.lt' mm hm; omega) hrd (fun p hp => ?_) (fun c p h => by cases h) fun w8 hc8 => ?_
        · simp only [List.mem_cons, List.not_mem_nil, or_false] at hp
          subst hp
          exact numOk hn
        rw [hcr]
        dsimp only
        rw [x30, x31, x32, eq_v, decide_eq_true (show (0 : Int) = 0 from rfl), br_true, eqs_v, decide_eq_true rfl]
        exact k w8 (Ch.fresh hc07 hc8 (by simp; omega))
      clear hJ
      have hw := wantR_eq n (ps.map noPc) 0
      rw [List.length_map] at hw
      have hnone : ¬ (((0 : Nat) : Int) ≤ n ∧ n < ((0 : Nat) : Int) + (ps.length : Int)) → ∀ q, J [strV [110, 111, 110, 101, 33], q] w' := fun h q => by
        rw [if_neg h] at hw
        have := hJ' q
        rw [hw] at this
        exact this
      rw [ge_v]
      refine br_dec _ _ _ (fun h0 => ?_) (fun h0 => hnone (by omega) _)
      rw [v_eq (cv213'' _ hn.1 hn.2), lenr_v el33 hx, lt_v]
      refine br_dec _ _ _ (fun hlt => ?_) (fun hlt => hnone (by omega) _)
      obtain ⟨p, hp⟩ : ∃ p, (ps.map noPc)[n.toNat]? = some p := ⟨_, List.getElem?_eq_getElem (by simp; omega)⟩
      rw [ixr_v (j := n.toNat) el33 sc9 hx (by omega) (u := strV p) (by unfold strsV; rw [List.getElem?_map, hp]; rfl)]
      have hpm := List.mem_of_getElem? hp
      obtain ⟨p0, hp0, rfl⟩ := List.mem_map.1 hpm
      have hpl0 := hpl p0 hp0
      have hq0 := (noPc_spec p0).2
      rw [addS_v (by simp; omega)]
      rw [if_pos (by omega), show (n - ((0 : Nat) : Int)).toNat = n.toNat from by omega, List.getD_eq_getElem?_getD, hp] at hw
      have := hJ' (.bool (decide (n < (ps.length : Int))))
      rw [hw] at this
      exact this
  exact key ps.length 0 [37, 63] v _ _ _ w1 (by omega) (by simpa using ((hps.ch hc1 (by simp)).mono hc1.size)) (by simp) (by simp) hc1
end
end Go.Proofs.YtjaoeipfiodnfaaDoor
