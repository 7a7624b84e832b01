import Derived.Test.YthpbiliajcameaaDoorG1
set_option linter.unusedVariables false
set_option maxRecDepth 4000
namespace Go.Proofs.YthpbiliajcameaaDoor
open Go Go.Fw Go.Proofs Go.RowKit
/-! ### bytes.Replace, all of them -/
theorem rep_len {old new : List UInt8} (h : old ≠ []) : ∀ (m : Nat) (x : List UInt8), Lib.count x old = m → (Lib.replaceK old new m x).length + m * old.length = x.length + m * new.length
  | 0, x, _ => by simp [Lib.replaceK]
  | m + 1, x, hc => by
    obtain ⟨i, hi⟩ := Lib.index_of_count (s := x) (old := old) (by omega)
    have hh := Lib.count_hit h hi
    have hr := Lib.index_room x old (by omega)
    rw [Lib.replaceK_hit old new m x i hi]
    have ih := rep_len (old := old) (new := new) h m (x.drop (i + old.length)) (by omega)
    rw [List.length_drop] at ih
    simp only [List.length_append, List.length_take]
    have e1 : (m + 1) * old.length = m * old.length + old.length := Nat.succ_mul ..
    have e2 : (m + 1) * new.length = m * new.length + new.length := Nat.succ_mul ..
    omega
theorem bytesV_drop (x : List UInt8) (i : Nat) : (bytesV x).drop i = bytesV (x.drop i) := by simp [bytesV]
theorem bytesV_take (x : List UInt8) (i : Nat) : (bytesV x).take i = bytesV (x.take i) := by simp [bytesV]
theorem RB.cut' {w : World} {B n c : Nat} {A : Option Addr} {x : List UInt8} (h : RB w B (.slice A n c) x) {l u : Nat} (h1 : l ≤ u) (h2 : u ≤ x.length) : RB w B (cutS 1 A c l u) ((x.drop l).take (u - l)) := by
  have hn := h.bin.1
  subst hn
  have := Rd.cut h (l := l) (u := u) h1 h2 (by omega)
  rw [Nat.mul_one, Nat.mul_one, bytesV_drop, bytesV_take] at this
  unfold RB
  have e : ((x.drop l).take (u - l)).length = u - l := by rw [List.length_take, List.length_drop]; omega
  rw [e]
  exact this
section
variable {w : World} {K : Value → World → Prop}
set_option maxHeartbeats 1000000
theorem replaceAll_ {v : Value} {Ao An : Option Addr} {co cn Bo Bn : Nat} {x old new : List UInt8} {L : List Nat} {m0 : Int} (hx : BS w v x L) (ho : RB w Bo (.slice Ao old.length co) old) (hn : RB w Bn (.slice An new.length cn) new) (hnew : new.length = 1) (hl : x.length ≤ 1048576) (ho1 : 1 ≤ old.length) (ho2 : old.length ≤ 100)
    (hm : w.cell? ⟨0, 0, none⟩ = some (.int .i64 m0)) (h0 : 0 < w.heap.size) (hBo : Bo ≤ w.heap.size) (hBn : Bn ≤ w.heap.size)
    (k : ∀ v' w' L', BS w' v' (Lib.replaceK old new (Lib.count x old) x) L' → Ch [] w w' → (∀ z, z ∈ L' → w.heap.size ≤ z) → K v' w') : S.call Tryd.prog 29 [v, .slice Ao old.length co, .slice An new.length cn] K w := by
  refine F29_link ?_
  unfold F29
  refine F39_link ?_
  unfold F39
  have hone : old ≠ [] := fun e => by rw [e] at ho1; simp at ho1
  refine seq_ok fun J hJ => ?_
  rw [ne_v, decide_eq_true (by simp), br_true]
  refine count_ hx ho hl ho1 ho2 hm fun w1 hc1 => ?_
  refine hJ _ _ ?_
  clear hJ
  have hx1 : BS w1 v x L := Own.ch hx hc1 (by simp)
  have hsz1 := hc1.size
  rw [nth_zero, eq_v]
  refine br_dec _ _ _ (fun hz => ?_) (fun hz => ?_)
  · have hz' : Lib.count x old = 0 := by omega
    have hr : Rd w1 w1.heap.size 1 v x.length (bytesV x) := Own.rd hx1
    refine ap (m := x.length) (news := bytesV x) sl22 (Own.nil _ _ _) hr one_bytesV (by omega) (by omega) fun v2 w2 L2 ho2 hc2 hl2 => ?_
    rw [List.nil_append, Nat.zero_add] at ho2
    have hk := k v2 w2 L2
    rw [hz'] at hk
    exact hk ho2 (hc1.trans hc2 (by simp)) (fun z hz => by have := hl2 z hz; simp at this; omega)
  obtain ⟨A, c, rfl, hcc1, hcc2⟩ := Own.shape hx1
  have hcm : c ≤ 9223372036854775807 := by simp only [maxLen] at hcc2; omega
  have hco : co ≤ 9223372036854775807 := by have := ho.bin.2.2.1; simp only [maxLen] at this; omega
  have hpos : 0 < Lib.count x old := by omega
  have hRL := rep_len (new := new) hone _ x rfl
  generalize hres : Lib.replaceK old new (Lib.count x old) x = res at *
  generalize hcnt : Lib.count x old = m at *
  rw [hnew, Nat.mul_one] at hRL
  have hcl := Lib.count_le x old
  refine seq_ok fun J1 hJ1 => ?_
  rw [lt_v, decide_eq_true (by omega), br_true]
  refine hJ1 _ _ ?_
  clear hJ1
  rw [nth_zero]
  have hmk : m * old.length ≤ x.length + m := by omega
  have e1 : (m : Int) * ((new.length : Int) - (old.length : Int)) = (m : Int) - ((m * old.length : Nat) : Int) := by rw [hnew, Int.mul_sub]; simp
  rw [len_v el22, len_v el22, len_v el22, sub_v, wrap_i64 (by omega) (by omega), mul_v, e1, wrap_i64 (by omega) (by omega), add_v, wrap_i64 (by omega) (by omega), show (x.length : Int) + ((m : Int) - ((m * old.length : Nat) : Int)) = ((res.length : Nat) : Int) from by omega]
  refine mk sl22 rfl (by omega) (by omega) fun w2 ho2' hc2 hs2 => ?_
  have hc02 : Ch [] w w2 := hc1.trans hc2 (by simp)
  generalize hg : w1.heap.size = g at *
  refine seq_ok fun J2 hJ2 => ?_
  have hrx2 : RB w2 w1.heap.size (.slice A x.length c) x := Rd.ch (Own.rd hx1) hc2 (by simp)
  have hro2 := ho.ch hc02
  have hrn2 := hn.ch hc02
  have hm2 := hc02.cell hm (by simp)
  have hm0g : (0 : Nat) ∉ [g] := by simp; omega
  -- what stands behind a round
  have fin : ∀ (w' : World) (out : List UInt8) (zs : List Value) (st : Nat) (a2 a3 a4 a5 a6 a7 a8 a9 a10 a11 : Value), Own w' 5 1 (.slice (some ⟨g, 0, none⟩) res.length res.length) res.length (bytesV out ++ zs) [g] → Ch [g] w2 w' → st ≤ x.length → res = out ++ x.drop st →
      J2 [I64 out.length, I64 st, a2, a3, a4, a5, a6, a7, a8, a9, a10, a11] w' := by
    intro w' out zs st a2 a3 a4 a5 a6 a7 a8 a9 a10 a11 how hcw hst hr
    refine hJ2 _ _ ?_
    have hlen : res.length = out.length + (x.length - st) := by rw [hr, List.length_append, List.length_drop]
    refine drawn_ok fun w3 hc3 hs3 => ?_
    have how3 := Own.ch how hc3 (by simp)
    have hc23 : Ch [g] w2 w3 := hcw.trans hc3 (by simp)
    refine ⟨fun w' => Ch [g] w3 w', Ch.refl _ _, ?_⟩
    rw [nth_succ, nth_zero, nth_zero]
    refine h_ok (x := cutS 1 (some ⟨g, 0, none⟩) res.length out.length res.length) (fun w' hw => run_cut el22 _ _ _ _ (.inr ⟨_, rfl⟩) (.inl ⟨rfl, rfl⟩) (by omega) (Nat.le_refl _)) ?_
    refine h_ok (x := cutS 1 A c st x.length) (fun w' hw => run_cut el22 _ _ _ _ (.inr ⟨_, rfl⟩) (.inl ⟨rfl, rfl⟩) (by omega) hcc1) ?_
    have hrx3 : RB w3 g (.slice A x.length c) x := hg ▸ Rd.ch hrx2 hc23 (by simp; omega)
    have hsrc := hrx3.cut' (l := st) (u := x.length) hst (Nat.le_refl _)
    have e : (x.drop st).take (x.length - st) = x.drop st := List.take_of_length_le (by rw [List.length_drop]; omega)
    rw [e] at hsrc
    have hsrc' : Rd w3 g 1 (cutS 1 A c st x.length) (x.length - st) (bytesV (x.drop st)) := by
      have := hsrc
      unfold RB at this
      rw [List.length_drop] at this
      exact this
    refine cpAt sl22 rfl how3 hsrc' one_bytesV (by omega) fun w4 ho4 hc4 hs4 => ⟨hc4, ?_⟩
    refine h_ok (x := I64 res.length) (fun w' hw => by rw [run_add, wrap_i64 (by omega) (by omega)]; congr 2; omega) ?_
    rw [cutlu_v el22 0 res.length (by omega) rfl (by omega) (Nat.le_refl _)]
    have hzl : zs.length = x.length - st := by
      have := how.len
      rw [List.length_append, length_bytesV] at this
      omega
    have ec : cutS 1 (some ⟨g, 0, none⟩) res.length 0 res.length = .slice (some ⟨g, 0, none⟩) res.length res.length := by
      unfold cutS
      simp [Addr.add]
    have ed : (bytesV out ++ zs).take (out.length * 1) ++ (bytesV (x.drop st) ++ (bytesV out ++ zs).drop ((out.length + (x.length - st)) * 1)) = bytesV res := by
      have hd0 : (bytesV out ++ zs).drop (out.length + (x.length - st)) = [] := List.drop_of_length_le (by rw [List.length_append, length_bytesV]; omega)
      rw [Nat.mul_one, Nat.mul_one, hr, bytesV_append, List.take_left' (length_bytesV out), hd0, List.append_nil]
    rw [ed] at ho4
    rw [ec]
    refine k _ w4 [g] ho4 ?_ (by simp; omega)
    exact (hc02.trans hc23 (by simp; omega)).trans hc4 (by simp; omega)
  clear hJ2
  rw [len_v el22, gt_v, decide_eq_true (by omega), br_true]
  intro I hC
  have key : ∀ (d i : Nat) (out : List UInt8) (zs : List Value) (st : Nat) (x13 x50 : Value) (w' : World), i + d = m → Own w' 5 1 (.slice (some ⟨g, 0, none⟩) res.length res.length) res.length (bytesV out ++ zs) [g] → Ch [g] w2 w' → st ≤ x.length → Lib.count (x.drop st) old = d → res = out ++ Lib.replaceK old new d (x.drop st) →
      I [I64 out.length, I64 st, x13, I64 i, x50] w' := by
    intro d
    induction d with
    | zero =>
      intro i out zs st x13 x50 w' hi how hcw hst hcd hr
      refine hC _ _ _ _ _ _ ?_
      rw [lt_v, decide_eq_false (by omega), br_false]
      exact fin w' out zs st _ _ _ _ _ _ _ _ _ _ how hcw hst hr
    | succ d ih =>
      intro i out zs st x13 x50 w' hi how hcw hst hcd hr
      refine hC _ _ _ _ _ _ ?_
      rw [lt_v, decide_eq_true (by omega), br_true, cutl_v el22 st rfl hst hcc1]
      have hrx' : RB w' g (.slice A x.length c) x := hg ▸ Rd.ch hrx2 hcw (by simp; omega)
      have hsuf := hrx'.cut' (l := st) (u := x.length) hst (Nat.le_refl _)
      have e : (x.drop st).take (x.length - st) = x.drop st := List.take_of_length_le (by rw [List.length_drop]; omega)
      rw [e] at hsuf
      obtain ⟨idx, hidx⟩ := Lib.index_of_count (s := x.drop st) (old := old) (by omega)
      have hroom := Lib.index_room (x.drop st) old (by omega)
      rw [List.length_drop] at hroom
      have hro' : RB w' Bo (.slice Ao old.length co) old := Rd.ch hro2 hcw (by simp; omega)
      have hcut : cutS 1 A c st x.length = .slice (if c = st then A else A.map (·.add (st * 1))) (x.length - st) (c - st) := rfl
      rw [hcut] at hsuf ⊢
      refine index_ hsuf hro' (by rw [List.length_drop]; omega) (by rw [List.length_drop]; omega) ho1 ho2 (hcw.cell hm2 hm0g) fun w3 hc3 => ?_
      rw [hidx, add_v, wrap_i64 (by omega) (by omega)]
      have hhit := Lib.count_hit hone hidx
      rw [List.drop_drop] at hhit
      rw [Lib.replaceK_hit old new d _ idx hidx, List.drop_drop] at hr
      have hlen : res.length = out.length + (idx + (1 + (Lib.replaceK old new d (x.drop (st + (idx + old.length)))).length)) := by
        rw [hr]; simp only [List.length_append, List.length_take, List.length_drop]; omega
      refine drawn_ok fun w4 hc4 hs4 => ?_
      have hc34 : Ch [] w' w4 := hc3.trans hc4 (by simp)
      have how4 := Own.ch how hc34 (by simp)
      have hrx4 : RB w4 g (.slice A x.length c) x := hrx'.ch hc34
      have hrn4 : RB w4 Bn (.slice An new.length cn) new := (Rd.ch (Rd.ch hrn2 hcw (by simp; omega)) hc34 (by simp))
      refine ⟨fun w' => Ch [g] w4 w', Ch.refl _ _, ?_⟩
      refine h_ok (x := cutS 1 (some ⟨g, 0, none⟩) res.length out.length res.length) (fun w' hw => run_cut el22 _ _ _ _ (.inr ⟨_, rfl⟩) (.inl ⟨rfl, rfl⟩) (by omega) (Nat.le_refl _)) ?_
      have ej : (st : Int) + (idx : Int) = ((st + idx : Nat) : Int) := by omega
      rw [ej]
      refine h_ok (x := cutS 1 A c st (st + idx)) (fun w' hw => run_cut el22 _ _ _ _ (.inr ⟨_, rfl⟩) (.inr ⟨_, rfl⟩) (by omega) (by omega)) ?_
      have hsrc := hrx4.cut' (l := st) (u := st + idx) (by omega) (by omega)
      rw [show st + idx - st = idx from by omega] at hsrc
      have hsl : ((x.drop st).take idx).length = idx := by rw [List.length_take, List.length_drop]; omega
      have hsrc' : Rd w4 g 1 (cutS 1 A c st (st + idx)) idx (bytesV ((x.drop st).take idx)) := by
        have := hsrc
        unfold RB at this
        rw [hsl] at this
        exact this
      refine cpAt sl22 rfl how4 hsrc' one_bytesV (by omega) fun w5 ho5 hc5 hs5 => ⟨hc5, ?_⟩
      refine h_ok (x := I64 ((out.length + idx : Nat) : Int)) (fun w' hw => by rw [run_add, wrap_i64 (by omega) (by omega)]; congr 2) ?_
      rw [cutl_v el22 (out.length + idx) rfl (by omega) (Nat.le_refl _)]
      have hzl : zs.length = res.length - out.length := by
        have := how.len
        rw [List.length_append, length_bytesV] at this
        omega
      have ed5 : (bytesV out ++ zs).take (out.length * 1) ++ (bytesV ((x.drop st).take idx) ++ (bytesV out ++ zs).drop ((out.length + idx) * 1)) = bytesV (out ++ (x.drop st).take idx) ++ zs.drop idx := by
        have hd1 : (bytesV out).drop (out.length + idx) = [] := List.drop_of_length_le (by rw [length_bytesV]; omega)
        rw [Nat.mul_one, Nat.mul_one, bytesV_append, List.take_left' (length_bytesV out), List.drop_append, length_bytesV, hd1, List.nil_append, List.append_assoc, show out.length + idx - out.length = idx from by omega]
      rw [ed5] at ho5
      have hrn5 : Rd w5 Bn 1 (.slice An new.length cn) 1 (bytesV new) := by
        have := Rd.ch hrn4 hc5 (by simp; omega)
        rw [hnew] at this
        rw [hnew]
        exact this
      refine cpAt sl22 rfl ho5 hrn5 one_bytesV (by omega) fun w6 ho6 hc6 hs6 => ?_
      rw [add_v, wrap_i64 (by omega) (by omega), len_v el22, add_v, wrap_i64 (by omega) (by omega), add_v, wrap_i64 (by omega) (by omega)]
      have hol : (out ++ (x.drop st).take idx).length = out.length + idx := by rw [List.length_append, hsl]
      have ed6 : (bytesV (out ++ (x.drop st).take idx) ++ zs.drop idx).take ((out.length + idx) * 1) ++ (bytesV new ++ (bytesV (out ++ (x.drop st).take idx) ++ zs.drop idx).drop ((out.length + idx + 1) * 1)) = bytesV (out ++ (x.drop st).take idx ++ new) ++ zs.drop (idx + 1) := by
        have hd2 : (bytesV (out ++ (x.drop st).take idx)).drop (out.length + idx + 1) = [] := List.drop_of_length_le (by rw [length_bytesV]; omega)
        rw [Nat.mul_one, Nat.mul_one, bytesV_append (out ++ (x.drop st).take idx), List.take_left' (by rw [length_bytesV, hol]), List.drop_append, length_bytesV, hd2, List.nil_append, List.append_assoc, hol, List.drop_drop, show idx + (out.length + idx + 1 - (out.length + idx)) = idx + 1 from by omega]
      rw [ed6] at ho6
      have hol3 : (out ++ (x.drop st).take idx ++ new).length = out.length + idx + 1 := by rw [List.length_append, hol, hnew]
      have hcw6 : Ch [g] w2 w6 := ((hcw.trans hc34 (by simp)).trans hc5 (fun x hx => .inl hx)).trans hc6 (fun x hx => .inl hx)
      have := ih (i + 1) (out ++ (x.drop st).take idx ++ new) (zs.drop (idx + 1)) (st + (idx + old.length)) (I64 ((st + idx : Nat) : Int)) (.bool true) w6 (by omega) ho6 hcw6 (by omega) (by omega) (by rw [hr]; simp [List.append_assoc])
      rw [hol3] at this
      rw [show ((out.length + idx : Nat) : Int) + ((1 : Nat) : Int) = ((out.length + idx + 1 : Nat) : Int) from by omega, show ((st + idx : Nat) : Int) + (old.length : Int) = ((st + (idx + old.length) : Nat) : Int) from by omega, show (i : Int) + 1 = ((i + 1 : Nat) : Int) from by omega]
      exact this
  have hst := key m 0 [] (List.replicate res.length (.int .u8 0)) 0 undef undef w2 (by omega) (by simpa [bytesV] using ho2') (Ch.refl _ _) (by omega) (by simpa using hcnt) (by simpa using hres.symm)
  exact hst
end
end Go.Proofs.YthpbiliajcameaaDoor
