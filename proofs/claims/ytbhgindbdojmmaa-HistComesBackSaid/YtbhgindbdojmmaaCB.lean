import Derived.Test.YtbhgindbdojmmaaCM
set_option linter.unusedVariables false
set_option maxRecDepth 4000
namespace Go.Proofs.Ytbhgindbdojmmaa
open Go Go.Fw Go.Proofs Go.RowKit
/-! ### What the map tells -/
def fm (now : List Str) : Int → Option Str := fun i => if 0 ≤ i then now[i.toNat]? else none
def fi (was : List Str) (i : Nat) : Int → Option Str := fun j => if j = (was.length : Int) then some [] else if 0 ≤ j ∧ j < i then was[j.toNat]? else none
theorem fm_nat (now : List Str) (i : Nat) : fm now i = now[i]? := by unfold fm; rw [if_pos (by omega), Int.toNat_natCast]
theorem fm_set {now : List Str} {place : Nat} (s : Str) (h : place < now.length) : (fun j => if j = (place : Int) then some s else fm now j) = fm (now.set place s) := by
  funext j
  unfold fm
  by_cases hj : j = (place : Int)
  · subst hj; rw [if_pos rfl, if_pos (by omega), Int.toNat_natCast]; simp [h]
  · rw [if_neg hj]
    by_cases h0 : 0 ≤ j
    · rw [if_pos h0, if_pos h0, List.getElem?_set_ne (by omega)]
    · rw [if_neg h0, if_neg h0]
theorem fm_some {now : List Str} {place : Nat} (h : place < now.length) : (fm now (place : Int)).isSome = true := by rw [fm_nat]; simp [h]
theorem fi_zero (was : List Str) : (fun j => if j = (was.length : Int) then some [] else (fun _ => none : Int → Option Str) j) = fi was 0 := by
  funext j
  unfold fi
  by_cases hj : j = (was.length : Int)
  · simp [hj]
  · rw [if_neg hj, if_neg hj, if_neg (by omega)]
theorem fi_step {was : List Str} {i : Nat} {x : Str} (h : was[i]? = some x) : (fun j => if j = (i : Int) then some x else fi was i j) = fi was (i + 1) := by
  have hlt := (List.getElem?_eq_some_iff.1 h).1
  funext j
  unfold fi
  by_cases hj : j = (i : Int)
  · subst hj
    rw [if_pos rfl, if_neg (by omega), if_pos (by omega), Int.toNat_natCast, h]
  · rw [if_neg hj]
    by_cases hl : j = (was.length : Int)
    · rw [if_pos hl, if_pos hl]
    · rw [if_neg hl, if_neg hl]
      by_cases h0 : 0 ≤ j ∧ j < i
      · rw [if_pos h0, if_pos (by omega)]
      · rw [if_neg h0, if_neg (by omega)]
theorem fi_none {was : List Str} {i : Nat} (h : i < was.length) : (fi was i (i : Int)).isSome = false := by
  unfold fi; rw [if_neg (by omega), if_neg (by omega)]; rfl
theorem fi_end (was : List Str) : fi was was.length = fm (was ++ [[]]) := by
  funext j
  unfold fi fm
  by_cases hl : j = (was.length : Int)
  · subst hl; rw [if_pos rfl, if_pos (by omega), Int.toNat_natCast]; simp
  · rw [if_neg hl]
    by_cases h0 : 0 ≤ j
    · rw [if_pos h0]
      by_cases h1 : j < was.length
      · rw [if_pos ⟨h0, h1⟩, List.getElem?_append_left (by omega)]
      · rw [if_neg (by omega), List.getElem?_eq_none (by simp; omega)]
    · rw [if_neg (by omega), if_neg h0]
theorem stp_cases (now : List Str) (place : Nat) (i : Int) (s : Str) : stp now place i s = ([], 6, now, place) ∨ stp now place i s = ([], 3, now, place) ∨ ∃ (j : Nat) (x : Str), i = j ∧ (now.set place s)[j]? = some x ∧ stp now place i s = (x, 0, now.set place s, j) := by
  unfold stp
  by_cases h : i < 0 ∨ (now.length : Int) ≤ i
  · rw [if_pos h]; exact .inl rfl
  · rw [if_neg h]
    by_cases h2 : 16384 < s.length
    · rw [if_pos h2]; exact .inr (.inl rfl)
    · rw [if_neg h2]
      obtain ⟨j, rfl⟩ := Int.eq_ofNat_of_zero_le (show 0 ≤ i by omega)
      have hlt : j < (now.set place s).length := by simp; omega
      exact .inr (.inr ⟨j, (now.set place s)[j], rfl, List.getElem?_eq_getElem hlt, by rw [Int.toNat_natCast, List.getElem?_eq_getElem hlt]; rfl⟩)
theorem chg_mem {was now : List Str} {x : Nat × Str} : ∀ {n : Nat}, x ∈ chgTo was now n → ∃ a, was[x.1]? = some a ∧ now[x.1]? = some x.2 ∧ x.2 ≠ a
  | n + 1, h => by
    simp only [chgTo, List.mem_append] at h
    rcases h with h | h
    · exact chg_mem h
    · split at h
      · rename_i a b h1 h2
        split at h
        · rename_i hne
          simp at h
          subst h
          exact ⟨a, h1, h2, hne⟩
        · simp at h
      · simp at h
structure CB (w0 w : World) (t4 t5 t8 m b bw : Nat) (ld : List HL) (base : Int) (f : Int → Option Str) (n : Nat) (now : List Str) (place : Nat) (L1 Lw : List Nat) : Prop where
  c4 : w.heap[t4]? = some (.cells #[.bool false] 4 (0, 0))
  c5 : w.heap[t5]? = some (.cells #[PT b] 23 (0, 0))
  c8 : w.heap[t8]? = some (.cells #[.map (some m)] 45 (0, 0))
  mp : MpF w m f n
  hq : HAt w b ld base 4096 L1
  wt : WAt w bw (ld.map (·.1)) now place Lw
  nd : (t4 :: t5 :: t8 :: m :: (L1 ++ Lw)).Nodup
  fr : ∀ x, x ∈ t4 :: t5 :: t8 :: m :: (L1 ++ Lw) → w0.heap.size ≤ x
  ch : Ch [] w0 w
section
variable {w0 w w' : World} {t4 t5 t8 m b bw : Nat} {ld : List HL} {base : Int} {f : Int → Option Str} {n : Nat} {now : List Str} {place : Nat} {L1 Lw : List Nat}
theorem CB.lt (h : CB w0 w t4 t5 t8 m b bw ld base f n now place L1 Lw) : ∀ x, x ∈ t4 :: t5 :: t8 :: m :: (L1 ++ Lw) → x < w.heap.size := by
  intro x hx
  simp only [List.mem_cons, List.mem_append] at hx
  rcases hx with rfl | rfl | rfl | rfl | hx | hx
  · exact lt_of_heap h.c4
  · exact lt_of_heap h.c5
  · exact lt_of_heap h.c8
  · exact h.mp.lt
  · exact h.hq.lt x hx
  · exact h.wt.lt x hx
theorem CB.to (h : CB w0 w t4 t5 t8 m b bw ld base f n now place L1 Lw) {M : List Nat} (hc : Ch M w w') (hd : ∀ x, x ∈ M → x ∉ t4 :: t5 :: t8 :: m :: (L1 ++ Lw) ∧ w0.heap.size ≤ x) : CB w0 w' t4 t5 t8 m b bw ld base f n now place L1 Lw :=
  ⟨hc.at_ h.c4 (fun hm => (hd _ hm).1 (by simp)), hc.at_ h.c5 (fun hm => (hd _ hm).1 (by simp)), hc.at_ h.c8 (fun hm => (hd _ hm).1 (by simp)), h.mp.ch hc (fun hm => (hd _ hm).1 (by simp)), h.hq.ch hc (fun x hx hm => (hd _ hm).1 (by simp [hx])), h.wt.ch hc (fun x hx hm => (hd _ hm).1 (by simp [hx])), h.nd, h.fr, h.ch.trans hc (fun x hx => .inr (hd x hx).2)⟩
theorem CB.to0 (h : CB w0 w t4 t5 t8 m b bw ld base f n now place L1 Lw) (hc : Ch [] w w') : CB w0 w' t4 t5 t8 m b bw ld base f n now place L1 Lw := h.to hc (by simp)
/-- Blocks that came later turn. -/
theorem CB.hi (h : CB w0 w t4 t5 t8 m b bw ld base f n now place L1 Lw) {M : List Nat} {B : Nat} (hB : ∀ x, x ∈ t4 :: t5 :: t8 :: m :: (L1 ++ Lw) → x < B) (hc : Ch M w w') (hd : ∀ x, x ∈ M → B ≤ x) : CB w0 w' t4 t5 t8 m b bw ld base f n now place L1 Lw :=
  h.to hc (fun x hx => ⟨fun hm => by have := hB x hm; have := hd x hx; omega, by have := h.fr t4 (by simp); have := hB t4 (by simp); have := hd x hx; omega⟩)
theorem CB.map_ (h : CB w0 w t4 t5 t8 m b bw ld base f n now place L1 Lw) (hc : Ch [m] w w') {f' : Int → Option Str} {n' : Nat} (hm : MpF w' m f' n') : CB w0 w' t4 t5 t8 m b bw ld base f' n' now place L1 Lw := by
  have nd := h.nd
  simp only [List.nodup_cons, List.mem_cons, List.mem_append, not_or] at nd
  obtain ⟨⟨a1, a2, a3, a4, a5⟩, ⟨b1, b2, b3, b4⟩, ⟨c1, c2, c3⟩, ⟨d1, d2⟩, e⟩ := nd
  exact ⟨hc.at_ h.c4 (by simpa using a3), hc.at_ h.c5 (by simpa using b2), hc.at_ h.c8 (by simpa using c1), hm, h.hq.ch hc (fun x hx hm => by simp at hm; exact d1 (hm ▸ hx)), h.wt.ch hc (fun x hx hm => by simp at hm; exact d2 (hm ▸ hx)), h.nd, h.fr, h.ch.trans hc (fun x hx => .inr (h.fr x (by simp at hx; simp [hx])))⟩
theorem CB.walk (h : CB w0 w t4 t5 t8 m b bw ld base f n now place L1 Lw) (hc : Ch Lw w w') {now' : List Str} {place' : Nat} (hw : WAt w' bw (ld.map (·.1)) now' place' Lw) : CB w0 w' t4 t5 t8 m b bw ld base f n now' place' L1 Lw := by
  have nd := h.nd
  simp only [List.nodup_cons, List.mem_cons, List.mem_append, not_or, List.nodup_append] at nd
  obtain ⟨⟨a1, a2, a3, a4, a5⟩, ⟨b1, b2, b3, b4⟩, ⟨c1, c2, c3⟩, ⟨d1, d2⟩, e1, e2, e3⟩ := nd
  exact ⟨hc.at_ h.c4 a5, hc.at_ h.c5 b4, hc.at_ h.c8 c3, h.mp.ch hc d2, h.hq.ch hc (fun x hx hm => e3 x hx x hm rfl), hw, h.nd, h.fr, h.ch.trans hc (fun x hx => .inr (h.fr x (by simp [hx])))⟩
end
theorem may_cases (l : List HL) : may l = 0 ∨ may l = 1 ∨ may l = 3 := by
  unfold may
  split
  · exact .inr (.inr rfl)
  · split
    · exact .inr (.inl rfl)
    · exact .inl rfl
theorem z4c : zeroT Try.prog 4 = some (.bool false) := by kernel_rfl
theorem z3c : zeroT Try.prog 3 = some (.int .i64 0) := by kernel_rfl
theorem z23c : zeroT Try.prog 23 = some (.pointer none) := by kernel_rfl
theorem z45c : zeroT Try.prog 45 = some (.map none) := by kernel_rfl
theorem marks3 (a b c : Nat) : marksOf (addMark a (addMark b (addMark c undef))) = [a, b, c] := by rw [marks_add, marks_add, marks_add]; rfl
set_option maxHeartbeats 1000000
abbrev CBs (t4 t5 t8 m : Nat) (L1 Lw : List Nat) : List Nat := t4 :: t5 :: t8 :: m :: (L1 ++ Lw)
section
variable {w0 w : World} {t4 t5 t8 t16 m b bw lo cc : Nat} {ld : List HL} {base : Int} {now : List Str} {place : Nat} {L1 Lw : List Nat} {r : Value} {nrm rt : Nat → World → Prop} {o1 o2 o3 o4 o5 o6 o7 o8 : Operand} {mk : List Nat}
theorem fill_ (h : CB w0 w t4 t5 t8 m b bw ld base (fi (ld.map (·.1)) 0) 1 now place L1 Lw) (hit : It w lo w.heap.size cc r ld) (hlo : ∀ x, x ∈ CBs t4 t5 t8 m L1 Lw → x < lo) (hld : ld.length ≤ 4096)
    (k : ∀ w', CB w0 w' t4 t5 t8 m b bw ld base (fi (ld.map (·.1)) ld.length) (ld.length + 1) now place L1 Lw → w'.heap[w.heap.size]? = some (.deferred (some [])) → w.heap.size + 2 ≤ w'.heap.size → nrm w.heap.size w') :
    S.rng Try.prog (AllV cc) 2 (fun bg dn ax w => S.v Try.prog (Instr.alloc 36 true (.tuple #[])) (fun t10 w => S.u Try.prog (Instr.storeAt 36 t10 (nth ax 1)) (fun w => bg (fun w => S.v Try.prog (Instr.loadAt 45 (PT t8)) (fun t64 w => S.v Try.prog (Instr.fieldAt 36 t10 0) (fun t66 w => S.v Try.prog (Instr.loadAt 9 t66) (fun t67 w => S.u Try.prog (Instr.mapUpdate 45 t64 (nth ax 0) t67) (fun w => dn none w) w) w) w) w) w) w) w) nrm rt w := by
  have hlt := hit.lt
  refine rng_ (J := fun i w' => CB w0 w' t4 t5 t8 m b bw ld base (fi (ld.map (·.1)) i) (i + 1) now place L1 Lw ∧ It w' lo w.heap.size cc r ld) (E := fun _ => False) (by omega) hit (fun _ _ h => h.2) ?_ ?_ (fun _ _ h => h.elim) ?_ ?_ (fun _ _ h => h.elim)
  · intro i wa wb M ⟨j1, j2⟩ hcM hM
    exact ⟨j1.hi hlo hcM (fun x hx => by rcases hM x hx with h | h <;> omega), j2.ch hcM (fun x hx => by rcases hM x hx with h | h <;> omega)⟩
  · intro w1 hc1 hs1
    exact ⟨h.to0 hc1, hit.ch hc1 (by simp)⟩
  · intro R0 Rb bg dn i x w10 hx ⟨j1, j2⟩ hs hd hl2 hbg hnone hret
    have hin : i < ld.length := (List.getElem?_eq_some_iff.1 hx).1
    refine Go.Fw.al z36 fun w11 hb11 hc11 hs11 => ?_
    rw [nth_succ, nth_zero]
    refine stw (vs := #[strV x.1, .int .i64 x.2]) ag36 hb11 rfl rfl (by simp [Value.oneCell', strV]) fun w12 hb12 hc12 hs12 => ?_
    have hc1012 : Ch [] w10 w12 := hc11.trans hc12 (by simp)
    refine hbg _ w12 (hc1012.at_ hl2 (by simp)) fun w13 hc13 hs13 hrb => ?_
    have hc1013 : Ch [w.heap.size + 1] w10 w13 := (hc1012.nil (L := [w.heap.size + 1])).trans hc13 (by simp)
    have q1 := j1.hi hlo hc1013 (by simp; omega)
    have q2 := j2.ch hc1013 (by simp)
    have hx13 := hc13.at_ hb12 (by simp; omega)
    rw [ld_v sc45 (cells1 q1.c8), fa_v fo36_0, ld_v sc9 (cells2 hx13).1, nth_zero]
    refine mu q1.mp fun w14 hm14 hc14 hs14 => ?_
    have hmlo : m < lo := hlo m (by simp)
    have hsz := hc1013.size
    have hx' : (ld.map (·.1))[i]? = some x.1 := by rw [List.getElem?_map, hx]; rfl
    rw [fi_step hx', fi_none (by simpa using hin)] at hm14
    simp only [Bool.false_eq_true, if_false] at hm14
    refine hnone w14 (hc14.at_ hrb (by simp; omega)) (hc14.at_ (hc1013.at_ hd (by simp)) (by simp; omega)) (by omega) ⟨q1.map_ hc14 hm14, q2.ch hc14 (by simp; omega)⟩
  · intro wa wb ⟨j1, j2⟩ hd hs hcb
    have := hcb.size
    exact k wb (j1.hi hlo hcb (by simp; omega)) (hcb.at_ hd (by simp)) (by omega)
theorem count_ (h : CB w0 w t4 t5 t8 m b bw ld base (fm now) (ld.length + 1) now place L1 Lw) (hit : It w lo w.heap.size cc r ld) (hlo : ∀ x, x ∈ CBs t4 t5 t8 m L1 Lw → x < lo) (h16 : w.heap[t16]? = some (.cells #[I64 0] 3 (0, 0))) (hlo16 : t16 < lo) (hld : ld.length ≤ 4096) (hnl : now.length = ld.length + 1)
    (hnb : ∀ x, x ∈ CBs t4 t5 t8 m L1 Lw → x < t16) (hmk : ∀ x, x ∈ mk → w.heap[x]? = some (.deferred (some [])))
    (k : ∀ w', CB w0 w' t4 t5 t8 m b bw ld base (fm now) (ld.length + 1) now place L1 Lw → w'.heap[t16]? = some (.cells #[I64 (chg (ld.map (·.1)) now).length] 3 (0, 0)) → (∀ x, x ∈ w.heap.size :: mk → w'.heap[x]? = some (.deferred (some []))) → w.heap.size + 2 ≤ w'.heap.size → nrm w.heap.size w') :
    S.rng Try.prog (AllV cc) 2 (fun bg dn ax w => S.v Try.prog (Instr.alloc 36 true (.tuple #[])) (fun t18 w => S.u Try.prog (Instr.storeAt 36 t18 (nth ax 1)) (fun w => bg (fun w => S.v Try.prog (Instr.fieldAt 36 t18 0) (fun t121 w => S.v Try.prog (Instr.loadAt 9 t121) (fun t122 w => S.v Try.prog (Instr.loadAt 45 (PT t8)) (fun t123 w => S.v Try.prog (Instr.lookup 45 t123 (nth ax 0) false) (fun t125 w => S.v Try.prog (S.bin .neq 9 o1 o2 t122 t125) (fun t126 w => br t126 (S.v Try.prog (Instr.loadAt 3 (PT t16)) (fun t127 w => S.v Try.prog (S.bin .add 3 o3 o4 t127 (I64 1)) (fun t128 w => S.u Try.prog (Instr.storeAt 3 (PT t16) t128) (fun w => dn none w) w) w) w) (dn none w)) w) w) w) w) w) w) w) w) nrm rt w := by
  have hlt := hit.lt
  have hmlt : ∀ x, x ∈ mk → x < w.heap.size := fun x hx => lt_of_heap (hmk x hx)
  refine rng_ (J := fun i w' => CB w0 w' t4 t5 t8 m b bw ld base (fm now) (ld.length + 1) now place L1 Lw ∧ It w' lo w.heap.size cc r ld ∧ w'.heap[t16]? = some (.cells #[I64 (chgTo (ld.map (·.1)) now i).length] 3 (0, 0)) ∧ ∀ x, x ∈ mk → w'.heap[x]? = some (.deferred (some []))) (E := fun _ => False) (by omega) hit (fun _ _ h => h.2.1) ?_ ?_ (fun _ _ h => h.elim) ?_ ?_ (fun _ _ h => h.elim)
  · intro i wa wb M ⟨j1, j2, j3, j4⟩ hcM hM
    exact ⟨j1.hi hlo hcM (fun x hx => by rcases hM x hx with h | h <;> omega), j2.ch hcM (fun x hx => by rcases hM x hx with h | h <;> omega), hcM.at_ j3 (fun hm => by rcases hM _ hm with h | h <;> omega), fun x hx => hcM.at_ (j4 x hx) (fun hm => by have := hmlt x hx; rcases hM _ hm with h | h <;> omega)⟩
  · intro w1 hc1 hs1
    exact ⟨h.to0 hc1, hit.ch hc1 (by simp), hc1.at_ h16 (by simp), fun x hx => hc1.at_ (hmk x hx) (by simp)⟩
  · intro R0 Rb bg dn i x w10 hx ⟨j1, j2, j3, j4⟩ hs hd hl2 hbg hnone hret
    have hin : i < ld.length := (List.getElem?_eq_some_iff.1 hx).1
    refine Go.Fw.al z36 fun w11 hb11 hc11 hs11 => ?_
    rw [nth_succ, nth_zero]
    refine stw (vs := #[strV x.1, .int .i64 x.2]) ag36 hb11 rfl rfl (by simp [Value.oneCell', strV]) fun w12 hb12 hc12 hs12 => ?_
    have hc1012 : Ch [] w10 w12 := hc11.trans hc12 (by simp)
    refine hbg _ w12 (hc1012.at_ hl2 (by simp)) fun w13 hc13 hs13 hrb => ?_
    have hc1013 : Ch [w.heap.size + 1] w10 w13 := (hc1012.nil (L := [w.heap.size + 1])).trans hc13 (by simp)
    have q1 := j1.hi hlo hc1013 (by simp; omega)
    have q2 := j2.ch hc1013 (by simp)
    have q3 := hc1013.at_ j3 (by simp; omega)
    have q4 : ∀ x, x ∈ mk → w13.heap[x]? = some (.deferred (some [])) := fun x hx => hc1013.at_ (j4 x hx) (by have := hmlt x hx; simp; omega)
    have hx13 := hc13.at_ hb12 (by simp; omega)
    have hsz := hc1013.size
    have hx' : (ld.map (·.1))[i]? = some x.1 := by rw [List.getElem?_map, hx]; rfl
    have g2 : now[i]? = some now[i] := List.getElem?_eq_getElem (by omega)
    have hstep : chgTo (ld.map (·.1)) now (i + 1) = chgTo (ld.map (·.1)) now i ++ (if now[i] ≠ x.1 then [(i, now[i])] else []) := by simp only [chgTo, hx', g2]
    have hcl := chgTo_len (ld.map (·.1)) now i
    rw [fa_v fo36_0, ld_v sc9 (cells2 hx13).1, ld_v sc45 (cells1 q1.c8), nth_zero, lk_v q1.mp, fm_nat, g2, Option.getD_some, nes_v]
    refine br_dec _ _ _ (fun hne => ?_) (fun heq => ?_)
    · rw [ld_v sc3 (cells1 q3), add_v, wrap_i64 (by omega) (by omega)]
      refine st sc3 q3 (by simp) rfl fun w14 hb14 hc14 hs14 => ?_
      refine hnone w14 (hc14.at_ hrb (by simp; omega)) (hc14.at_ (hc1013.at_ hd (by simp)) (by simp; omega)) (by omega) ⟨q1.hi hnb hc14 (by simp), q2.ch hc14 (by simp; omega), ?_, fun x hx => hc14.at_ (q4 x hx) (by
        simp
        intro e
        have := q4 x hx
        rw [e, q3] at this
        cases this)⟩
      rw [hstep, if_pos (fun e => hne e.symm), List.length_append]
      exact hb14
    · refine hnone w13 hrb (hc1013.at_ hd (by simp)) (by omega) ⟨q1, q2, ?_, q4⟩
      rw [hstep, if_neg (fun e => heq (fun e' => e e'.symm)), List.append_nil]
      exact q3
  · intro wa wb ⟨j1, j2, j3, j4⟩ hd hs hcb
    have := hcb.size
    refine k wb (j1.hi hlo hcb (by simp; omega)) ?_ (fun x hx => ?_) (by omega)
    · have e : chg (ld.map (·.1)) now = chgTo (ld.map (·.1)) now ld.length := by unfold chg; rw [List.length_map]
      rw [e]
      exact hcb.at_ j3 (by simp; omega)
    · rcases List.mem_cons.1 hx with rfl | hx
      · exact hcb.at_ hd (by simp)
      · exact hcb.at_ (j4 x hx) (by have := hmlt x hx; simp; omega)
theorem tell_ {c1 c2 : Nat} {iv : Value} (h : CB w0 w t4 t5 t8 m b bw ld base (fm now) (ld.length + 1) now place L1 Lw) (hbn : base ≠ 0) (hit : Ic w lo w.heap.size c1 c2 iv (chg (ld.map (·.1)) now)) (hlo : ∀ x, x ∈ CBs t4 t5 t8 m L1 Lw → x < lo) (h16 : w.heap[t16]? = some (.cells #[I64 (chg (ld.map (·.1)) now).length] 3 (0, 0))) (hlo16 : t16 < lo) (hld : ld.length ≤ 4096)
    (hnb : ∀ x, x ∈ CBs t4 t5 t8 m L1 Lw → x < t16) (hmk : ∀ x, x ∈ mk → w.heap[x]? = some (.deferred (some [])))
    (k : ∀ w', CB w0 w' t4 t5 t8 m b bw ld base (fm now) (ld.length + 1) now place L1 Lw → w'.heap[t16]? = some (.cells #[I64 0] 3 (0, 0)) → (∀ x, x ∈ w.heap.size :: mk → w'.heap[x]? = some (.deferred (some []))) → w.heap.size + 2 ≤ w'.heap.size → nrm w.heap.size w') :
    S.rng Try.prog (ChV c1 c2) 2 (fun bg dn ax w => bg (fun w => S.v Try.prog (Instr.loadAt 23 (PT t5)) (fun t134 w => S.call Try.prog 21 [t134, (nth ax 0)] (fun t136 w => S.v Try.prog (Instr.extract t136 0) (fun t137 w => S.v Try.prog (Instr.extract t136 1) (fun t138 w => S.v Try.prog (Instr.alloc 36 true (.tuple #[])) (fun t21 w => S.u Try.prog (Instr.storeAt 36 t21 t137) (fun w => S.v Try.prog (Op.unary .not t138) (fun t140 w => br t140 (S.u Try.prog (Instr.storeAt 4 (PT t4) (.bool false)) (fun w => dn (some .ret) w) w)
      (S.v Try.prog (Instr.fieldAt 36 t21 0) (fun t142 w => S.v Try.prog (Instr.loadAt 9 t142) (fun t143 w => S.v Try.prog (S.bin .eql 9 o1 o2 t143 (nth ax 1)) (fun t145 w => br t145 (S.u Try.prog (Instr.storeAt 4 (PT t4) (.bool false)) (fun w => dn (some .ret) w) w)
      (S.v Try.prog (Instr.loadAt 45 (PT t8)) (fun t148 w => S.v Try.prog (Instr.lookup 45 t148 (nth ax 0) false) (fun t150 w => S.v Try.prog (S.bin .neq 9 o3 o4 t150 (nth ax 1)) (fun t152 w => br t152 (S.u Try.prog (Instr.storeAt 4 (PT t4) (.bool false)) (fun w => dn (some .ret) w) w)
      (S.v Try.prog (Instr.loadAt 3 (PT t16)) (fun t154 w => S.v Try.prog (S.bin .sub 3 o5 o6 t154 (I64 1)) (fun t155 w => S.u Try.prog (Instr.storeAt 3 (PT t16) t155) (fun w => dn none w) w) w) w)) w) w) w)) w) w) w)) w) w) w) w) w) w) w) w) nrm rt w := by
  have hlt := hit.lt
  have hmlt : ∀ x, x ∈ mk → x < w.heap.size := fun x hx => lt_of_heap (hmk x hx)
  have hcl : (chg (ld.map (·.1)) now).length ≤ ld.length := by have := chgTo_len (ld.map (·.1)) now (ld.map (·.1)).length; unfold chg; simpa using this
  refine rngC_ (J := fun i w' => CB w0 w' t4 t5 t8 m b bw ld base (fm now) (ld.length + 1) now place L1 Lw ∧ Ic w' lo w.heap.size c1 c2 iv (chg (ld.map (·.1)) now) ∧ w'.heap[t16]? = some (.cells #[I64 (((chg (ld.map (·.1)) now).length : Int) - i)] 3 (0, 0)) ∧ ∀ x, x ∈ mk → w'.heap[x]? = some (.deferred (some []))) (E := fun _ => False) (by omega) (fun _ _ h => h.2.1) ?_ ?_ (fun _ _ h => h.elim) ?_ ?_ (fun _ _ h => h.elim)
  · intro i wa wb M ⟨j1, j2, j3, j4⟩ hcM hM
    exact ⟨j1.hi hlo hcM (fun x hx => by rcases hM x hx with h | h <;> omega), j2.ch hcM (fun x hx => by rcases hM x hx with h | h <;> omega), hcM.at_ j3 (fun hm => by rcases hM _ hm with h | h <;> omega), fun x hx => hcM.at_ (j4 x hx) (fun hm => by have := hmlt x hx; rcases hM _ hm with h | h <;> omega)⟩
  · intro w1 hc1 hs1
    exact ⟨h.to0 hc1, hit.ch hc1 (by simp), by simpa using hc1.at_ h16 (by simp), fun x hx => hc1.at_ (hmk x hx) (by simp)⟩
  · intro R0 Rb bg dn i x w10 hx ⟨j1, j2, j3, j4⟩ hs hd hl2 hbg hnone hret
    have hin : i < (chg (ld.map (·.1)) now).length := (List.getElem?_eq_some_iff.1 hx).1
    refine hbg _ w10 hl2 fun w13 hc13 hs13 hrb => ?_
    have q1 := j1.hi hlo hc13 (by simp; omega)
    obtain ⟨a, ha1, ha2, hne⟩ := chg_mem (List.mem_of_getElem? hx)
    rw [List.getElem?_map] at ha1
    rw [ld_v sc23 (cells1 q1.c5), nth_zero]
    refine at__ q1.hq hbn x.1 (fun ho => ?_) (fun j y hj hy w14 hc14 => ?_)
    · exfalso
      have : x.1 < ld.length := by
        cases hz : ld[x.1]? with
        | none => rw [hz] at ha1; cases ha1
        | some z => exact (List.getElem?_eq_some_iff.1 hz).1
      omega
    obtain rfl : x.1 = j := by omega
    rw [hy] at ha1
    simp only [Option.map_some, Option.some.injEq] at ha1
    rw [x20, x21]
    refine Go.Fw.al z36 fun w15 hb15 hc15 hs15 => ?_
    refine stw (vs := #[strV y.1, .int .i64 y.2]) ag36 hb15 rfl rfl (by simp [Value.oneCell', strV]) fun w16 hb16 hc16 hs16 => ?_
    have hc1416 : Ch [] w14 w16 := hc15.trans hc16 (by simp)
    have hc1316 : Ch [] w13 w16 := hc14.trans hc1416 (by simp)
    have hc1016 : Ch [w.heap.size + 1] w10 w16 := hc13.trans hc1316 (by simp)
    have p1 := q1.to0 hc1316
    have p2 := j2.ch hc1016 (by simp)
    have p3 := hc1016.at_ j3 (by simp; omega)
    have p4 : ∀ x, x ∈ mk → w16.heap[x]? = some (.deferred (some [])) := fun x hx => hc1016.at_ (j4 x hx) (by have := hmlt x hx; simp; omega)
    have hsz := hc1016.size
    rw [not_v, show (!true) = false from rfl, br_false, fa_v fo36_0, ld_v sc9 (cells2 hb16).1, nth_succ, nth_zero, eqs_v, decide_eq_false (by rw [ha1]; exact fun e => hne e.symm), br_false, ld_v sc45 (cells1 p1.c8), lk_v p1.mp, fm_nat, ha2, Option.getD_some, nes_v, decide_eq_false (by simp), br_false, ld_v sc3 (cells1 p3), sub_v, wrap_i64 (by omega) (by omega)]
    refine st sc3 p3 (by simp) rfl fun w17 hb17 hc17 hs17 => ?_
    refine hnone w17 (hc17.at_ (hc1316.at_ hrb (by simp)) (by simp; omega)) (hc17.at_ (hc1016.at_ hd (by simp)) (by simp; omega)) (by omega) ⟨p1.hi hnb hc17 (by simp), p2.ch hc17 (by simp; omega), ?_, fun x hx => hc17.at_ (p4 x hx) (by
        simp
        intro e
        have := p4 x hx
        rw [e, p3] at this
        cases this)⟩
    rw [show ((chg (ld.map (·.1)) now).length : Int) - ((i + 1 : Nat) : Int) = ((chg (ld.map (·.1)) now).length : Int) - i - 1 from by omega]
    exact hb17
  · intro wa wb ⟨j1, j2, j3, j4⟩ hd hs hcb
    have := hcb.size
    refine k wb (j1.hi hlo hcb (by simp; omega)) ?_ (fun x hx => ?_) (by omega)
    · have := hcb.at_ j3 (by simp; omega)
      rwa [Int.sub_self] at this
    · rcases List.mem_cons.1 hx with rfl | hx
      · exact hcb.at_ hd (by simp)
      · exact hcb.at_ (j4 x hx) (by have := hmlt x hx; simp; omega)
end
section
variable {w : World} {K : Value → World → Prop}
theorem comes_ {v0 v1 : Value} {l : List HL} {gs : List (Int × Str)} (h0 : RL w w.heap.size v0 l) (h1 : GL w w.heap.size v1 gs) (hl : l.length * 24 ≤ 140737488355328) (hg : gs.length ≤ 9223372036854775807) (hgs : ∀ x ∈ gs, x.2.length ≤ 9223372036854775807)
    (k : ∀ w', Ch [] w w' → K (.bool true) w') : S.call Try.prog 4 [v0, v1] K w := by
  refine F4_link ?_
  unfold F4
  refine Go.Fw.al z4c fun w1 hb1 hc1 hs1 => ?_
  refine from_ (most := 4096) (h0.ch hc1) hc1.size (by omega) (by omega) (fun hm w2 hc2 => ?_) (fun hm w2 b L1 hq hc2 hfr2 => ?_)
  · rw [x20, x21]
    refine Go.Fw.al z23c fun w3 hb3 hc3 hs3 => ?_
    refine st sc23 hb3 (by simp [Value.cells]) rfl fun w4 hb4 hc4 hs4 => ?_
    refine begun_ fun w5 hc5 => ?_
    have hc15 : Ch [] w1 w5 := ((hc2.trans hc3 (by simp)).trans hc4 (by have := hc2.size; simp; omega)).trans hc5 (by simp)
    have hb5 := hc15.at_ hb1 (by simp)
    have hfin : ∀ w6, Ch [w.heap.size] w5 w6 → K (.bool true) w6 := fun w6 hc6 => k w6 ((hc1.trans hc15 (by simp)).trans hc6 (by simp))
    rw [not_v, show (!true) = false from rfl, br_false, ne_v, decide_eq_true hm, br_true, eq_v]
    refine br_dec _ _ _ (fun h3 => ?_) (fun h3 => ?_)
    · refine st sc4 hb5 (by simp [Value.cells]) rfl fun w6 hb6 hc6 hs6 => ?_
      rw [ldRs_p sc4 (cells1 hb6)]
      exact hfin w6 hc6
    · have hm1 : may l = 1 := by rcases may_cases l with h | h | h <;> omega
      rw [eq_v, decide_eq_true hm1]
      refine st sc4 hb5 (by simp [Value.cells]) rfl fun w6 hb6 hc6 hs6 => ?_
      rw [ldRs_p sc4 (cells1 hb6)]
      exact hfin w6 hc6
  have hld : (l.drop (l.length - 4096)).length ≤ 4096 := by rw [List.length_drop]; omega
  have hbs : (1 : Int) ≤ 1 + ((l.length - 4096 : Nat) : Int) ∧ (1 + ((l.length - 4096 : Nat) : Int)) ≤ 4611686018427387904 := by omega
  generalize hgd : l.drop (l.length - 4096) = ld at *
  generalize (1 + ((l.length - 4096 : Nat) : Int)) = bse at *
  have hbn : bse ≠ 0 := by omega
  rw [x20, x21]
  refine Go.Fw.al z23c fun w3 hb3 hc3 hs3 => ?_
  refine st sc23 hb3 (by simp [Value.cells]) rfl fun w4 hb4 hc4 hs4 => ?_
  refine begun_ fun w5 hc5 => ?_
  rw [not_v, show (!true) = false from rfl, br_false, ne_v, decide_eq_false (by simp), br_false]
  have hs2 := hc2.size
  have hs5 := hc5.size
  have hc24 : Ch [] w2 w4 := hc3.trans hc4 (by simp)
  have hc25 : Ch [] w2 w5 := hc24.trans hc5 (by simp)
  have hc15 : Ch [] w1 w5 := hc2.trans hc25 (by simp)
  have hq5 := hq.ch hc25 (by simp)
  have hb5 := hc5.at_ hb4 (by simp)
  have hqlt := hq.lt
  rw [ld_v sc23 (cells1 hb5)]
  refine newwalk_ hq5 hbn hld fun w6 bw Lw hw6 hc6 hfw => ?_
  rw [x20, x21]
  have hs6 := hc6.size
  have hq6 := hq5.ch hc6 (by simp)
  have hb56 := hc6.at_ hb5 (by simp)
  have hb16 := (hc15.trans hc6 (by simp)).at_ hb1 (by simp)
  have hlw := hw6.lt
  refine seq_ok fun J hJ => ?_
  suffices hj : ∀ w7, Ch [] w6 w7 → J [.bool false] w7 by
    refine drawn_ok fun w7 hc7 hs7 => ?_
    have hw7 := hw6.ch hc7 (by simp)
    have hq7 := hq6.ch hc7 (by simp)
    have hb57 := hc7.at_ hb56 (by simp)
    have e : (ld.map (fun z : HL => z.1)).length = ld.length := by simp
    rw [eqn_v pt42, Option.isNone_some, br_false, ne_v, decide_eq_false (by simp), br_false]
    refine ⟨?_, ?_⟩
    · refine place_ hw7 (by simp) ?_
      rw [ld_v sc23 (cells1 hb57)]
      refine len_ hq7 hbn ?_
      rw [ne_v, decide_eq_false (by simp)]
      exact hj w7 hc7
    · rw [ld_v sc23 (cells1 hb57)]
      refine place_ hw7 (by simp) ?_
      refine len_ hq7 hbn ?_
      rw [ne_v, decide_eq_false (by simp)]
      exact hj w7 hc7
  intro w7 hc7
  refine hJ _ _ ?_
  clear hJ
  rw [nth_zero, br_false]
  have hw7 := hw6.ch hc7 (by simp)
  have hq7 := hq6.ch hc7 (by simp)
  have hb57 := hc7.at_ hb56 (by simp)
  have hb17 := hc7.at_ hb16 (by simp)
  have hs7 := hc7.size
  refine mkm fun w8 hm8 hc8 hs8 => ?_
  rw [ld_v sc23 (cells1 (hc8.at_ hb57 (by simp)))]
  refine len_ (hq7.ch hc8 (by simp)) hbn ?_
  rw [show Value.string ⟨#[]⟩ = strV [] from rfl]
  refine mu hm8 fun w9 hm9 hc9 hs9 => ?_
  have e0 : (fun j => if j = (ld.length : Int) then some [] else (none : Option Str)) = fi (ld.map (·.1)) 0 := by
    have := fi_zero (ld.map (fun z : HL => z.1))
    rwa [List.length_map] at this
  rw [e0] at hm9
  simp only [Option.isSome_none, Bool.false_eq_true, if_false, Nat.zero_add] at hm9
  have hc79 : Ch [] w7 w9 := hc8.trans hc9 (by simp)
  refine Go.Fw.al z45c fun w10 hb10 hc10 hs10 => ?_
  refine st sc45 hb10 (by simp [Value.cells]) rfl fun w11 hb11 hc11 hs11 => ?_
  have hc911 : Ch [] w9 w11 := hc10.trans hc11 (by simp)
  have hc711 : Ch [] w7 w11 := hc79.trans hc911 (by simp)
  have hcb11 : CB w w11 w.heap.size w2.heap.size w9.heap.size w7.heap.size b bw ld bse (fi (ld.map (·.1)) 0) 1 (ld.map (·.1) ++ [[]]) ld.length L1 Lw := by
    refine ⟨hc711.at_ hb17 (by simp), hc711.at_ hb57 (by simp), hb11, hm9.ch hc911 (by simp), hq7.ch hc711 (by simp), hw7.ch hc711 (by simp), ?_, ?_, ((((hc1.trans hc15 (by simp)).trans hc6 (by simp)).trans hc7 (by simp)).trans hc711 (by simp))⟩
    · simp only [List.nodup_cons, List.mem_cons, List.mem_append, not_or, List.nodup_append]
      have i1 : ∀ x, x ∈ L1 → w1.heap.size ≤ x ∧ x < w2.heap.size := fun x hx => ⟨hfr2 x hx, hqlt x hx⟩
      have i2 : ∀ x, x ∈ Lw → w5.heap.size ≤ x ∧ x < w6.heap.size := fun x hx => ⟨hfw x hx, hlw x hx⟩
      refine ⟨⟨by omega, by omega, by omega, fun hx => by have := i1 _ hx; omega, fun hx => by have := i2 _ hx; omega⟩, ⟨by omega, by omega, fun hx => by have := i1 _ hx; omega, fun hx => by have := i2 _ hx; omega⟩, ⟨by omega, fun hx => by have := i1 _ hx; omega, fun hx => by have := i2 _ hx; omega⟩,
        ⟨fun hx => by have := i1 _ hx; omega, fun hx => by have := i2 _ hx; omega⟩, hq.nodup, hw6.nodup, fun x hx y hy e => by have := i1 x hx; have := i2 y hy; omega⟩
    · intro x hx
      simp only [List.mem_cons, List.mem_append] at hx
      rcases hx with rfl | rfl | rfl | rfl | hx | hx
      · omega
      · omega
      · omega
      · omega
      · have := hfr2 x hx; omega
      · have := hfw x hx; omega
  have hs911 := hc911.size
  have ec : (ld.map (fun z : HL => z.1)).length = ld.length := by simp
  rw [ld_v sc23 (cells1 hcb11.c5)]
  refine all_ hcb11.hq hbn (by omega) fun w12 cc r hit hc12 hlecc => ?_
  refine fill_ (hcb11.to0 hc12) hit hcb11.lt hld fun w13 hcb13 hd13 hs13 => ?_
  rw [← ec, fi_end] at hcb13
  rw [ec] at hcb13
  have hblt : ∀ x, x ∈ CBs w.heap.size w2.heap.size w9.heap.size w7.heap.size L1 Lw → x < w12.heap.size := (hcb11.to0 hc12).lt
  generalize w12.heap.size = r1 at *
  obtain ⟨A, cp, rfl, hcp1, hcp2, _⟩ := h1.form
  rw [len_v el40]
  have hwr1 : w.heap.size < r1 := hblt _ (by simp)
  have hend : ∀ (bs : List Nat) (w' : World), bs.Nodup → (∀ x, x ∈ bs → w'.heap[x]? = some (.deferred (some [])) ∧ r1 ≤ x) → w'.heap[w.heap.size]? = some (.cells #[.bool true] 4 (0, 0)) → Ch [] w w' → S.closes bs (fun w_1 => S.p Try.prog (S.ldR 4 (PT w.heap.size)) (fun r w_2 => K r w_2) w_1) w' := by
    intro bs w' hn hb h4 hc
    refine closes_ok bs w' hn (fun x hx => (hb x hx).1) fun w2' hc2' hs2' => ?_
    rw [ldRs_p sc4 (cells1 (hc2'.at_ h4 (fun hm => by have := (hb _ hm).2; omega)))]
    exact k w2' (hc.trans hc2' (fun x hx => .inr (by have := (hb x hx).2; omega)))
  intro I hC
  have key : ∀ (d i : Nat) (x12 x13 x14 x15 x71 x86 x98 x115 : Value) (w' : World) (now : List Str) (place : Nat), i + d = gs.length → CB w w' w.heap.size w2.heap.size w9.heap.size w7.heap.size b bw ld bse (fm now) (ld.length + 1) now place L1 Lw → w'.heap[r1]? = some (.deferred (some [])) →
      now.length = ld.length + 1 → place < now.length → r1 + 2 ≤ w'.heap.size → I [x12, x13, x14, x15, I64 i, x71, x86, x98, x115] w' := by
    intro d
    induction d with
    | zero =>
      intro i x12 x13 x14 x15 x71 x86 x98 x115 w14 now place hi hcb hd hnl hpl hs14
      refine hC _ _ _ _ _ _ _ _ _ _ ?_
      have hnn : now ≠ [] := by intro e; simp [e] at hpl
      rw [lt_v, decide_eq_false (by omega), br_false]
      refine Go.Fw.al z3c fun w15 hb15 hc15 hs15 => ?_
      refine st sc3 hb15 (by simp [Value.cells]) rfl fun w16 hb16 hc16 hs16 => ?_
      have hc1416 : Ch [] w14 w16 := hc15.trans hc16 (by simp)
      have hcb16 := hcb.to0 hc1416
      have hd16 := hc1416.at_ hd (by simp)
      rw [ld_v sc23 (cells1 hcb16.c5)]
      refine all_ hcb16.hq hbn (by omega) fun w17 cc' r' hit' hc17 hle17 => ?_
      have hcb17 := hcb16.to0 hc17
      have hs17 := hc17.size
      refine count_ (t16 := w14.heap.size) (mk := [r1]) hcb17 hit' hcb16.lt (hc17.at_ hb16 (by simp)) (by omega) hld hnl (fun x hx => by have := hblt x hx; omega) (by
        intro x hx
        simp at hx
        subst hx
        exact hc17.at_ hd16 (by simp)) fun w18 hcb18 h1618 hmk18 hs18 => ?_
      have e : (ld.map (fun z : HL => z.1)).length = ld.length := by simp
      refine changed_ hcb18.wt hnn (by omega) (by omega) fun w19 c1 c2 iv hic hc19 => ?_
      have hs19 := hc19.size
      have hlo18 := hcb18.lt
      refine tell_ (t16 := w14.heap.size) (mk := [w17.heap.size, r1]) (hcb18.to0 hc19) hbn hic hlo18 (hc19.at_ h1618 (by simp)) (by omega) hld (fun x hx => by have := hblt x hx; omega) (fun x hx => hc19.at_ (hmk18 x hx) (by simp)) fun w20 hcb20 h1620 hmk20 hs20 => ?_
      refine seq_ok fun J hJ => ?_
      suffices hj : ∀ w21, Ch [w.heap.size] w20 w21 → w21.heap[w.heap.size]? = some (.cells #[.bool true] 4 (0, 0)) → J [] w21 by
        refine drawn_ok fun w21 hc21 hs21 => ?_
        have q := hcb20.to0 hc21
        have tail : S.v Try.prog (Builtin.len_ #[45] 3 #[.map (some w7.heap.size)]) (fun t162 u => S.v Try.prog (S.bin .sub 3 (.tmp 162) (.const (I64 1)) t162 (I64 1)) (fun t163 u1 => S.v Try.prog (S.bin .eql 3 (.tmp 160) (.tmp 163) (I64 ld.length) t163) (fun t164 u2 => S.u Try.prog (Instr.storeAt 4 (PT w.heap.size) t164) (fun u3 => J [] u3) u2) u1) u) w21 := by
          rw [lenm_v q.mp, sub_v, wrap_i64 (by omega) (by omega), eq_v, decide_eq_true (by omega)]
          refine st sc4 q.c4 (by simp) rfl fun w22 hb22 hc22 hs22 => ?_
          exact hj w22 ((hc21.nil).trans hc22 (by simp)) hb22
        rw [ld_v sc3 (cells1 (hc21.at_ h1620 (by simp))), eq_v, decide_eq_true rfl, br_true]
        refine ⟨?_, ?_⟩
        · rw [ld_v sc23 (cells1 q.c5)]
          refine ⟨?_, ?_⟩
          · refine len_ q.hq hbn ?_
            rw [ld_v sc45 (cells1 q.c8)]
            exact tail
          · rw [ld_v sc45 (cells1 q.c8)]
            refine len_ q.hq hbn ?_
            exact tail
        · rw [ld_v sc45 (cells1 q.c8), ld_v sc23 (cells1 q.c5)]
          refine len_ q.hq hbn ?_
          exact tail
      intro w21 hc21 h421
      refine hJ _ _ ?_
      rw [marks3]
      refine hend _ w21 ?_ ?_ h421 (hcb20.ch.trans hc21 (by simp))
      · simp
        omega
      · intro x hx
        refine ⟨hc21.at_ (hmk20 x hx) ?_, ?_⟩
        · simp at hx ⊢
          omega
        · simp at hx
          omega
    | succ d ih =>
      intro i x12 x13 x14 x15 x71 x86 x98 x115 w14 now place hi hcb hd hnl hpl hs14
      refine hC _ _ _ _ _ _ _ _ _ _ ?_
      have hnn : now ≠ [] := by intro e; simp [e] at hpl
      have hlt : i < gs.length := by omega
      have hget : gs[i]? = some gs[i] := List.getElem?_eq_getElem hlt
      have hsl := hgs gs[i] (List.getElem_mem hlt)
      have hgr : Rd w14 w.heap.size 2 (.slice A gs.length cp) gs.length (gos gs) := Rd.ch h1 hcb.ch (by simp)
      rw [lt_v, decide_eq_true (by omega), br_true]
      refine seq_ok fun J hJ => ?_
      have hj : ∀ (y0 y1 y2 y3 y4 y5 y6 : Value) (w' : World) (now' : List Str) (place' : Nat), CB w w' w.heap.size w2.heap.size w9.heap.size w7.heap.size b bw ld bse (fm now') (ld.length + 1) now' place' L1 Lw → w'.heap[r1]? = some (.deferred (some [])) → now'.length = ld.length + 1 → place' < now'.length → r1 + 2 ≤ w'.heap.size → J [y0, y1, y2, y3, y4, y5, y6] w' := by
        intro y0 y1 y2 y3 y4 y5 y6 w' now' place' a1 a2 a3 a4 a5
        refine hJ _ _ ?_
        rw [add_v, wrap_i64 (by omega) (by omega)]
        have := ih (i + 1) y0 y1 y2 y3 (.bool true) y4 y5 y6 w' now' place' (by omega) a1 a2 a3 a4 a5
        rw [show ((i + 1 : Nat) : Int) = (i : Int) + 1 from by omega] at this
        exact this
      clear hJ
      rw [ixa_v (j := i) el40 ag47 hgr (by omega) rfl hlt (gos_el hget)]
      refine Go.Fw.al z47 fun w15 hb15 hc15 hs15 => ?_
      refine stw (vs := #[I64 gs[i].1, strV gs[i].2]) ag47 hb15 rfl rfl (by simp [Value.oneCell', strV]) fun w16 hb16 hc16 hs16 => ?_
      have hc1416 : Ch [] w14 w16 := hc15.trans hc16 (by simp)
      have q := hcb.to0 hc1416
      have hd16 := hc1416.at_ hd (by simp)
      generalize hgo : gs[i].1 = go at *
      generalize hgt : gs[i].2 = tx at *
      refine place_ q.wt hnn ?_
      rw [fa_v fo47_0, ld_v sc3 (cells2 hb16).1, fa_v fo47_1, ld_v sc9 (cells2 hb16).2]
      refine to2_ q.wt hpl (by omega) go tx (by omega) fun w17 hw17 hc17 => ?_
      have q17 := q.walk hc17 hw17
      have hblw : ∀ x, x ∈ Lw → x < r1 := fun x hx => hblt x (by simp [hx])
      have hb17 := hc17.at_ hb16 (fun hm => by have := hblw _ hm; omega)
      have hd17 := hc17.at_ hd16 (fun hm => by have := hblw _ hm; omega)
      have hs17 := hc17.size
      rcases stp_cases now place go tx with e | e | ⟨j, x, hjj, hx, e⟩
      · rw [e] at q17 ⊢
        rw [x20, x21, ne_v, decide_eq_true (by simp), br_true, ne_v, decide_eq_false (by simp), br_false]
        refine place_ q17.wt hnn ?_
        rw [ne_v, decide_eq_false (by simp), br_false]
        exact hj _ _ _ _ _ _ _ w17 now place q17 hd17 hnl hpl (by omega)
      · rw [e] at q17 ⊢
        rw [x20, x21, ne_v, decide_eq_true (by simp), br_true, ne_v, decide_eq_true (by simp), br_true, ne_v, decide_eq_false (by simp), br_false]
        refine place_ q17.wt hnn ?_
        rw [ne_v, decide_eq_false (by simp), br_false]
        exact hj _ _ _ _ _ _ _ w17 now place q17 hd17 hnl hpl (by omega)
      · rw [e] at q17 ⊢
        subst hjj
        have hlt2 := (List.getElem?_eq_some_iff.1 hx).1
        have hnn2 : now.set place tx ≠ [] := by intro e; simp [e] at hlt2
        simp only at q17
        rw [x20, x21, ne_v, decide_eq_false (by simp), br_false, ld_v sc45 (cells1 q17.c8), fa_v fo47_1, ld_v sc9 (cells2 hb17).2]
        refine mu q17.mp fun w18 hm18 hc18 hs18 => ?_
        rw [fm_set tx hpl, fm_some hpl, if_pos rfl] at hm18
        have q18 := q17.map_ hc18 hm18
        have hmr : w7.heap.size < r1 := hblt _ (by simp)
        have hb18 := hc18.at_ hb17 (by simp; omega)
        have hd18 := hc18.at_ hd17 (by simp; omega)
        refine drawn_ok fun w19 hc19 hs19 => ?_
        have q19 := q18.to0 hc19
        have hb19 := hc19.at_ hb18 (by simp)
        have hd19 := hc19.at_ hd18 (by simp)
        refine ⟨fun w' => w' = w19, rfl, ?_⟩
        rw [h_p, ld_p sc45 (cells1 q19.c8), h_p, fa_p fo47_0, h_p, ld_p sc3 (cells2 hb19).1, lk_v q19.mp]
        refine ⟨rfl, ?_⟩
        rw [fm_nat, hx, Option.getD_some, h_p, nes_p, decide_eq_false (by simp), br_false, h_p, fa_p fo47_0, h_p, ld_p sc3 (cells2 hb19).1]
        refine place_ q19.wt hnn2 ⟨rfl, ?_⟩
        rw [h_p, ne_p, decide_eq_false (by simp), br_false]
        exact hj _ _ _ _ _ _ _ w19 (now.set place tx) j q19 hd19 (by rw [List.length_set]; exact hnl) hlt2 (by omega)
  exact key gs.length 0 undef undef undef undef undef undef undef undef w13 _ _ (by omega) hcb13 hd13 (by simp) (by simp) hs13
end
end Go.Proofs.Ytbhgindbdojmmaa
