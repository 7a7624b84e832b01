import Derived.Test.YthpbiliajcameaaDoorP3
set_option linter.unusedVariables false
set_option maxRecDepth 4000
namespace Go.Proofs.YthpbiliajcameaaDoor
open Go Go.Fw Go.Proofs Go.RowKit
theorem atN_take {x : List UInt8} {n j : Nat} (h : j < n) : atN (x.take n) j = atN x j := by
  unfold atN
  simp [h]
theorem valC_1 (c y z u : Nat) : valC 1 c y z u = c := if_pos rfl
theorem valC_2 (c y z u : Nat) : valC 2 c y z u = c % 32 * 64 + y % 64 := rfl
theorem valC_3 (c y z u : Nat) : valC 3 c y z u = c % 16 * 4096 + y % 64 * 64 + z % 64 := rfl
theorem valN_take {x : List UInt8} {n : Nat} (h1 : 1 ≤ n) (h4 : n ≤ 4) : valN n (x.take n) = valN n x := by
  unfold valN
  match n, h1, h4 with
  | 1, _, _ => rw [valC_1, valC_1, atN_take (by omega)]
  | 2, _, _ => rw [valC_2, valC_2, atN_take (by omega), atN_take (by omega)]
  | 3, _, _ => rw [valC_3, valC_3, atN_take (by omega), atN_take (by omega), atN_take (by omega)]
  | 4, _, _ => rw [atN_take (by omega), atN_take (by omega), atN_take (by omega), atN_take (by omega)]
section
variable {w : World} {K : Value → World → Prop}
theorem rrunes_ {v : Value} {B : Nat} {x : List UInt8} (hx : RB w B v x) (hB : B ≤ w.heap.size) (hl : x.length ≤ 1048576)
    (k : ∀ v' w' L', RS w' v' (runes x) L' → Ch [] w w' → (∀ z, z ∈ L' → w.heap.size ≤ z) → K v' w') : S.call Tryd.prog 31 [v] K w := by
  refine F31_link ?_
  unfold F31
  intro I hC
  have key : ∀ (d : Nat) (rest : List UInt8) (out : List Int) (v0 v3 x4 x5 x8 z20 : Value) (L3 : List Nat) (w' : World), rest.length ≤ d → RB w' w.heap.size v0 rest → RS w' v3 out L3 → Ch [] w w' → (∀ z, z ∈ L3 → w.heap.size ≤ z) → out.length + rest.length ≤ x.length → runes x = out ++ runes rest → I [v0, v3, x4, x5, x8, z20] w' := by
    intro d
    induction d with
    | zero =>
      intro rest out v0 v3 x4 x5 x8 z20 L3 w' hd hr ho hc hf hlen he
      refine hC _ _ _ _ _ _ _ ?_
      obtain ⟨A, c, rfl, _⟩ := hr.form
      have : rest = [] := List.eq_nil_of_length_eq_zero (by omega)
      subst this
      rw [len_v el22, gt_v, decide_eq_false (by simp), br_false]
      rw [runes_nil, List.append_nil] at he
      rw [he] at k
      exact k v3 w' L3 ho hc hf
    | succ d ih =>
      intro rest out v0 v3 x4 x5 x8 z20 L3 w' hd hr ho hc hf hlen he
      refine hC _ _ _ _ _ _ _ ?_
      obtain ⟨A, c, rfl, hcc1, hcc2, _⟩ := hr.form
      have hr' : RB w' w.heap.size (.slice A rest.length c) rest := hr
      rw [len_v el22, gt_v]
      refine br_dec _ _ _ (fun hn => ?_) (fun hn => ?_)
      · have hne : rest ≠ [] := fun e => by rw [e] at hn; simp at hn
        have hpos : 0 < rest.length := List.length_pos_iff.2 hne
        have hw := hc.size
        refine head_ hr' hne fun w1 h n hc1 hg hb => ?_
        rw [x20, x21, eq_v]
        have hcw1 : Ch [] w w1 := hc.trans hc1 (by simp)
        have ho1 : RS w1 v3 out L3 := Own.ch ho hc1 (by simp)
        have hr1 : RB w1 w.heap.size (.slice A rest.length c) rest := RB.ch hr' hc1
        rw [runes_cons hne] at he
        have bad : ¬ good rest → ∀ (y20 : Value), S.v Tryd.prog (Instr.buildSlice 32 1 #[(0, .int .i32 65533)]) (fun t32 w => S.v Tryd.prog (Builtin.append_ #[32, 32] 32 #[v3, t32]) (fun t33 w => S.v Tryd.prog (Instr.sliceAt 22 (.slice A rest.length c) (some (.int .i64 1)) none none) (fun t35 w => I [t35, t33, I64 h, I64 n, .bool (decide ((0 : Int) < rest.length)), y20] w) w) w) w1 := by
          intro hng y20
          have hd := dgo_bad hne hng
          rw [hd] at he
          refine push32 ho1 (by omega) fun v4 w2 L4 ho2 hc2 hl2 => ?_
          rw [cutl_v (i := 1) el22 1 rfl (by omega) hcc1]
          have hr2 : RB w2 w.heap.size (.slice A rest.length c) rest := Rd.ch hr1 hc2 hf
          have hcut := hr2.cut' (l := 1) (u := rest.length) (by omega) (Nat.le_refl _)
          rw [List.take_of_length_le (by rw [List.length_drop]; omega)] at hcut
          have hsz := hcw1.size
          exact ih (rest.drop 1) (out ++ [65533]) _ v4 _ _ _ _ L4 w2 (by rw [List.length_drop]; omega) hcut ho2 (hcw1.trans hc2 (fun z hz => .inr (hf z hz))) (fun z hz => by
            rcases hl2 z hz with h | h
            · exact hf z h
            · omega) (by rw [List.length_append, List.length_drop]; simp; omega) (by rw [he]; simp)
        by_cases g : good rest
        · obtain ⟨rfl, rfl⟩ := hg g
          have hd := dgo_good hne g
          rw [hd] at he
          simp only at he
          have h1 := g.1
          have h2 := g.2.1
          have h4 : needN (atN rest 0) ≤ 4 := by rcases need_cases (atN rest 0) with h | h | h | h | h <;> omega
          rw [decide_eq_true rfl, br_true, gt_v, decide_eq_true (by omega), br_true, cutu_v el22 (needN (atN rest 0)) rfl (by omega)]
          have hcut := hr1.cut' (l := 0) (u := needN (atN rest 0)) (by omega) (by omega)
          rw [List.drop_zero, Nat.sub_zero] at hcut
          obtain ⟨A5, c5, e5, _⟩ := hcut.form
          rw [e5] at hcut ⊢
          refine value_ (m := needN (atN rest 0)) hcut (by rw [List.length_take]; omega) (by omega) h4 fun w2 hc2 => ?_
          rw [valN_take (by omega) h4]
          have hcw2 : Ch [] w w2 := hcw1.trans hc2 (by simp)
          refine push32 (Own.ch ho1 hc2 (by simp)) (by omega) fun v4 w3 L4 ho3 hc3 hl3 => ?_
          rw [cutl_v el22 (needN (atN rest 0)) rfl (by omega) hcc1]
          have hr3 : RB w3 w.heap.size (.slice A rest.length c) rest := Rd.ch (RB.ch hr1 hc2) hc3 hf
          have hcut3 := hr3.cut' (l := needN (atN rest 0)) (u := rest.length) (by omega) (Nat.le_refl _)
          rw [List.take_of_length_le (by rw [List.length_drop]; omega)] at hcut3
          have hsz := hcw2.size
          exact ih (rest.drop (needN (atN rest 0))) (out ++ [(valN (needN (atN rest 0)) rest : Int)]) _ v4 _ _ _ _ L4 w3 (by rw [List.length_drop]; omega) hcut3 ho3 (hcw2.trans hc3 (fun z hz => .inr (hf z hz))) (fun z hz => by
            rcases hl3 z hz with h | h
            · exact hf z h
            · omega) (by rw [List.length_append, List.length_drop]; simp; omega) (by rw [he]; simp)
        · refine br_dec _ _ _ (fun e1 => ?_) (fun e1 => bad g _)
          rw [gt_v]
          refine br_dec _ _ _ (fun e2 => absurd ⟨by omega, by omega⟩ (hb g)) (fun e2 => ?_)
          have := bad g (.bool (decide ((0 : Int) < n)))
          exact this
      · have : rest = [] := List.eq_nil_of_length_eq_zero (by omega)
        subst this
        rw [runes_nil, List.append_nil] at he
        rw [he] at k
        exact k v3 w' L3 ho hc hf
  exact key x.length x [] v _ undef undef undef undef [] w (Nat.le_refl _) (by
    have := Rd.mono hx hB
    exact this) (Own.nil _ _ _) (Ch.refl _ _) (by simp) (by simp) (by simp)
end
theorem runesF_len : ∀ (d : Nat) (x : List UInt8), (runesF d x).length ≤ d
  | 0, _ => by simp [runesF]
  | d + 1, [] => by simp [runesF]
  | d + 1, a :: r => by
    simp only [runesF, List.length_cons]
    have := runesF_len d ((a :: r).drop (dgo (a :: r)).2)
    omega
theorem runes_len (x : List UInt8) : (runes x).length ≤ x.length := runesF_len _ _
theorem i32s_get {l : List Int} {j : Nat} (h : j < l.length) : (i32s l)[j]? = some (.int .i32 l[j]) := by simp [i32s, h]
/-! ### The reference's paste -/
structure RPt (w : World) (b : Nat) (bs : List UInt8) (done : Bool) (L : List Nat) : Prop where
  ex : ∃ v all cut Lb, w.heap[b]? = some (.cells #[v, .bool done, I64 (cut : Nat)] 27 (0, 0)) ∧ BS w v all Lb ∧ L = b :: Lb ∧ bs = all.take cut ∧ cut ≤ all.length ∧ all.length ≤ 16385 ∧ (done = false → all = bs ∧ all.length ≤ 16384)
  nodup : L.Nodup
theorem RPt.ch {w w' : World} {b : Nat} {bs : List UInt8} {done : Bool} {L M : List Nat} (h : RPt w b bs done L) (hc : Ch M w w') (hd : ∀ x, x ∈ L → x ∉ M) : RPt w' b bs done L := by
  obtain ⟨v, all, cut, Lb, h1, h2, h5, h6⟩ := h.ex
  subst h5
  exact ⟨⟨v, all, cut, Lb, hc.at_ h1 (hd b (by simp)), Own.ch h2 hc (fun x hx => hd x (by simp [hx])), rfl, h6⟩, h.nodup⟩
theorem RPt.lt {w : World} {b : Nat} {bs : List UInt8} {done : Bool} {L : List Nat} (h : RPt w b bs done L) : ∀ x, x ∈ L → x < w.heap.size := by
  obtain ⟨v, all, cut, Lb, h1, h2, h5, _⟩ := h.ex
  subst h5
  intro x hx
  simp only [List.mem_cons] at hx
  rcases hx with rfl | hx
  · exact lt_of_heap h1
  · exact Own.lt h2 x hx
theorem suffix_iff (x : List UInt8) : Lib.hasSuffix x endT = true ↔ 6 ≤ x.length ∧ x.drop (x.length - 6) = endT := by
  have h6 : endT.length = 6 := rfl
  unfold Lib.hasSuffix
  rw [List.isSuffixOf_iff_suffix, List.suffix_iff_eq_drop, h6]
  constructor
  · intro h
    refine ⟨?_, h.symm⟩
    have := congrArg List.length h
    rw [List.length_drop, h6] at this
    omega
  · rintro ⟨_, h⟩
    exact h.symm
theorem b27 (w : World) : (Instr.build 27 #[]).run Tryd.prog w = .ok (.agg #[.slice none 0 0, .bool false, .int .i64 0]) w := by kernel_rfl
theorem by22 : ByT Tryd.prog 22 5 := ⟨Tryd.underlying22, Tryd.underlying5⟩
section
variable {w : World} {K : Value → World → Prop}
theorem rput_p {b : Nat} {bs : List UInt8} {done : Bool} {L : List Nat} {c : UInt8} (h : RPt w b bs done L)
    (k : ∀ w' L', RPt w' b (putF bs done c).2.2.1 (putF bs done c).2.2.2 L' → Ch L w w' → (∀ x, x ∈ L' → x ∈ L ∨ w.heap.size ≤ x) → K (.tuple #[.bool (putF bs done c).1, I64 (putF bs done c).2.1]) w') :
    S.call Tryd.prog 9 [PT b, byteV c] K w := by
  obtain ⟨v, all, cut, Lb, h1, h2, h5, h6, h7, h8, h9⟩ := h.ex
  have hnd := h.nodup
  have hlt := h.lt
  refine F9_link ?_
  unfold F9
  rw [nilC_v, fa_v fo27_1, ld_v sc4 (cells3 h1).2.1]
  cases done with
  | true =>
    rw [br_true]
    unfold putF at k
    rw [if_pos rfl] at k
    exact k w L h (Ch.refl _ _) (fun x hx => .inl hx)
  | false =>
    obtain ⟨rfl, h10⟩ := h9 rfl
    subst h5
    obtain ⟨A0, c0, rfl, _⟩ := Own.shape h2
    rw [br_false, nilC_v, fa_v fo27_0, ld_v sc22 (cells3 h1).1]
    refine bs1 sl22 rfl rfl fun w1 ho1 hc1 hs1 => ?_
    refine ap (m := 1) (news := bytesV [c]) sl22 (Own.ch h2 hc1 (by simp)) ho1.rd one_bytesV (by omega) (by omega) fun v2 w2 L2 ho2 hc2 hl2 => ?_
    have hbL : b ∉ Lb := (List.nodup_cons.1 hnd).1
    have hc02 : Ch Lb w w2 := hc1.nil.trans hc2 (fun x hx => .inl hx)
    have h12 := hc02.at_ h1 hbL
    have hf2 : ∀ x, x ∈ L2 → x ∈ Lb ∨ w.heap.size ≤ x := fun x hx => by
      rcases hl2 x hx with h | h
      · exact .inl h
      · right; omega
    have hbL2 : b ∉ L2 := fun hx => by
      rcases hf2 b hx with h | h
      · exact hbL h
      · have := hlt b (by simp); omega
    have hnd2 := ho2.nodup
    have ho2' : BS w2 v2 (all ++ [c]) L2 := by
      unfold BS
      rw [List.length_append, bytesV_append]
      exact ho2
    obtain ⟨A, cc, rfl, hcc1, hcc2⟩ := Own.shape ho2'
    rw [nilC_v, fa_v fo27_0]
    refine st sc22 h12 (by simp) rfl fun w3 hb3 hc3 hs3 => ?_
    have ho3 := Own.ch ho2' hc3 (fun x hx hm => by simp at hm; exact hbL2 (hm ▸ hx))
    rw [nilC_v, fa_v fo27_0, ld_v sc22 (cells3 hb3).1, len_v el22, nilC_v, fa_v fo27_2]
    refine st sc3 hb3 (by simp) rfl fun w4 hb4 hc4 hs4 => ?_
    have ho4 := Own.ch ho3 hc4 (fun x hx hm => by simp at hm; exact hbL2 (hm ▸ hx))
    have hc04 : Ch (b :: Lb) w w4 := ((hc02.mono (by simp; grind)).trans hc3 (by simp)).trans hc4 (by simp)
    have hfr : ∀ x, x ∈ b :: L2 → x ∈ b :: Lb ∨ w.heap.size ≤ x := fun x hx => by
      simp only [List.mem_cons] at hx ⊢
      rcases hx with rfl | hx
      · exact .inl (.inl rfl)
      · rcases hf2 x hx with h | h
        · exact .inl (.inr h)
        · exact .inr h
    have hx1 : (all ++ [c]).length = all.length + 1 := by simp
    rw [nilC_v, fa_v fo27_0, ld_v sc22 (cells3 hb4).1, len_v el22, sub_v, wrap_i64 (by omega) (by omega), ge_v]
    have hnd4 : (b :: L2).Nodup := List.nodup_cons.2 ⟨hbL2, hnd2⟩
    unfold putF at k
    rw [if_neg (by simp)] at k
    have hsi := suffix_iff (all ++ [c])
    cases hsuf : Lib.hasSuffix (all ++ [c]) endT with
    | true =>
      rw [if_pos hsuf] at k
      obtain ⟨hs6, hsd⟩ := hsi.1 hsuf
      rw [decide_eq_true (by omega), br_true, nilC_v, fa_v fo27_0, ld_v sc22 (cells3 hb4).1, cutl_v el22 ((all ++ [c]).length - 6) (by omega) (by omega) hcc1]
      have hcut := RB.cut' (show RB w4 w4.heap.size (.slice A (all ++ [c]).length cc) (all ++ [c]) from Own.rd ho4) (l := (all ++ [c]).length - 6) (u := (all ++ [c]).length) (by omega) (Nat.le_refl _)
      rw [List.take_of_length_le (by rw [List.length_drop]; omega), hsd] at hcut
      rw [cvbs_v by22 Tryd.underlying9 hcut]
      have eS : (Value.string { data := #[27, 91, 50, 48, 49, 126] }) = strV endT := rfl
      rw [eS, eqs_v, decide_eq_true rfl, br_true, nilC_v, fa_v fo27_2]
      refine st sc3 hb4 (by simp) rfl fun w6 hb6 hc6 hs6 => ?_
      rw [nilC_v, fa_v fo27_1]
      refine st sc4 hb6 (by simp) rfl fun w7 hb7 hc7 hs7 => ?_
      refine k w7 (b :: L2) ⟨⟨_, all ++ [c], (all ++ [c]).length - 6, L2, ?_, Own.ch (Own.ch ho4 hc6 (fun x hx hm => by simp at hm; exact hbL2 (hm ▸ hx))) hc7 (fun x hx hm => by simp at hm; exact hbL2 (hm ▸ hx)), rfl, rfl, by omega, ?_, fun e => by cases e⟩, hnd4⟩ ((hc04.trans hc6 (by simp)).trans hc7 (by simp)) hfr
      · rw [hb7]
        simp
        omega
      · omega
    | false =>
      rw [if_neg (by rw [hsuf]; simp)] at k
      refine br_dec _ _ _ (fun hg => ?_) (fun hg => ?_)
      rw [nilC_v, fa_v fo27_0, ld_v sc22 (cells3 hb4).1, cutl_v el22 ((all ++ [c]).length - 6) (by omega) (by omega) hcc1]
      have hcut := RB.cut' (show RB w4 w4.heap.size (.slice A (all ++ [c]).length cc) (all ++ [c]) from Own.rd ho4) (l := (all ++ [c]).length - 6) (u := (all ++ [c]).length) (by omega) (Nat.le_refl _)
      rw [List.take_of_length_le (by rw [List.length_drop]; omega)] at hcut
      rw [cvbs_v by22 Tryd.underlying9 hcut]
      have eS : (Value.string { data := #[27, 91, 50, 48, 49, 126] }) = strV endT := rfl
      rw [eS, eqs_v, decide_eq_false (fun e => by rw [hsi.2 ⟨by omega, e⟩] at hsuf; cases hsuf), br_false]
      all_goals
        rw [nilC_v, fa_v fo27_0, ld_v sc22 (cells3 hb4).1, len_v el22, gt_v]
        refine br_dec _ _ _ (fun hg2 => ?_) (fun hg2 => ?_)
        · rw [if_pos (by omega)] at k
          rw [nilC_v, fa_v fo27_2]
          refine st sc3 hb4 (by simp) rfl fun w6 hb6 hc6 hs6 => ?_
          rw [nilC_v, fa_v fo27_1]
          refine st sc4 hb6 (by simp) rfl fun w7 hb7 hc7 hs7 => ?_
          exact k w7 (b :: L2) ⟨⟨_, all ++ [c], 16384, L2, by rw [hb7]; rfl, Own.ch (Own.ch ho4 hc6 (fun x hx hm => by simp at hm; exact hbL2 (hm ▸ hx))) hc7 (fun x hx hm => by simp at hm; exact hbL2 (hm ▸ hx)), rfl, rfl, by omega, by omega, fun e => by cases e⟩, hnd4⟩ ((hc04.trans hc6 (by simp)).trans hc7 (by simp)) hfr
        · rw [if_neg (by omega)] at k
          exact k w4 (b :: L2) ⟨⟨_, all ++ [c], (all ++ [c]).length, L2, by rw [hb4]; rfl, ho4, rfl, (List.take_of_length_le (Nat.le_refl _)).symm, by omega, by omega, fun _ => ⟨rfl, by omega⟩⟩, hnd4⟩ hc04 hfr
theorem rtext_p {b : Nat} {bs : List UInt8} {done : Bool} {L : List Nat} (h : RPt w b bs done L)
    (k : ∀ v' w' L', RS w' v' (nlR (runes bs)) L' → Ch [] w w' → (∀ z, z ∈ L' → w.heap.size ≤ z) → K v' w') : S.call Tryd.prog 11 [PT b] K w := by
  obtain ⟨v, all, cut, Lb, h1, h2, h5, h6, h7, h8, h9⟩ := h.ex
  refine F11_link ?_
  unfold F11
  refine drawn_ok fun w1 hc1 hs1 => ?_
  have h1' := hc1.at_ h1 (by simp)
  have h2' := Own.ch h2 hc1 (by simp)
  obtain ⟨A, c, rfl, hcc1, hcc2⟩ := Own.shape h2'
  refine ⟨Ch [] w1, Ch.refl _ _, ?_⟩
  refine h_ok (x := PT b) (fun w' hw => run_nilC _) ?_
  refine h_ok (x := PT b) (fun w' hw => run_fa fo27_0) ?_
  refine h_ok (x := .slice A all.length c) (fun w' hw => run_ld sc22 (hw.cell (cells3 h1').1 (by simp))) ?_
  refine h_ok (x := PT b) (fun w' hw => run_nilC _) ?_
  refine h_ok (x := .pointer (some ⟨b, 2, none⟩)) (fun w' hw => run_fa fo27_2) ?_
  refine h_ok (x := I64 cut) (fun w' hw => run_ld sc3 (hw.cell (cells3 h1').2.2 (by simp))) ?_
  refine h_ok (x := cutS 1 A c 0 cut) (fun w' hw => run_cut el22 _ _ 0 cut (.inl ⟨rfl, rfl⟩) (.inr ⟨_, rfl⟩) (Nat.zero_le _) (by omega)) ?_
  have hcut := RB.cut' (show RB w1 w1.heap.size (.slice A all.length c) all from Own.rd h2') (l := 0) (u := cut) (by omega) h7
  rw [List.drop_zero, Nat.sub_zero, ← h6] at hcut
  refine rrunes_ hcut (Nat.le_refl _) (by have := congrArg List.length h6; rw [List.length_take] at this; omega) fun v2 w2 L2 ho2 hc2 hf2 => ?_
  refine ⟨hc2, ?_⟩
  have hlen : (runes bs).length ≤ 16385 := by
    have h3 := runes_len bs
    have h4 := congrArg List.length h6
    rw [List.length_take] at h4
    omega
  generalize runes bs = l at *
  intro I hC
  have key : ∀ (d i : Nat) (out : List Int) (v4 x19 x26 x42 : Value) (L3 : List Nat) (w' : World), l.length - i ≤ d → i ≤ l.length → RS w' v4 out L3 → Ch [] w2 w' → (∀ z, z ∈ L3 → w2.heap.size ≤ z) → out.length ≤ i → nlR l = out ++ nlR (l.drop i) → I [v4, I64 i, x19, x26, x42] w' := by
    intro d
    induction d with
    | zero =>
      intro i out v4 x19 x26 x42 L3 w' hd hi ho hc hf hle he
      refine hC _ _ _ _ _ _ ?_
      have hr := Rd.ch ho2.rd hc (by simp)
      rw [lenr_v el32 hr, lt_v, decide_eq_false (by omega), br_false]
      rw [List.drop_eq_nil_of_le (by omega)] at he
      simp only [nlR, List.append_nil] at he
      rw [he] at k
      have s1 := hc1.size
      have s2 := hc2.size
      exact k v4 w' L3 ho ((hc1.trans hc2 (by simp)).trans hc (by simp)) (fun z hz => by have := hf z hz; omega)
    | succ d ih =>
      intro i out v4 x19 x26 x42 L3 w' hd hi ho hc hf hle he
      refine hC _ _ _ _ _ _ ?_
      have hr := Rd.ch ho2.rd hc (by simp)
      rw [lenr_v el32 hr, lt_v]
      refine br_dec _ _ _ (fun hlt => ?_) (fun hge => ?_)
      · have hil : i < l.length := by omega
        have hdi : l.drop i = l[i] :: l.drop (i + 1) := List.drop_eq_getElem_cons hil
        rw [hdi] at he
        refine seq_ok fun J hJ => ?_
        have next : ∀ (i' : Nat) (out' : List Int) (v4 y2 y3 : Value) (L3 : List Nat) (w' : World), i ≤ i' → i' < l.length → RS w' v4 out' L3 → Ch [] w2 w' → (∀ z, z ∈ L3 → w2.heap.size ≤ z) → out'.length ≤ i' + 1 → nlR l = out' ++ nlR (l.drop (i' + 1)) → J [v4, I64 i', y2, y3] w' := by
          intro i' out' v4 y2 y3 L3 w' h1 h2 ho hc hf hle he
          refine hJ _ _ ?_
          rw [nth_succ, nth_zero, add_v, wrap_i64 (by omega) (by omega)]
          have := ih (i' + 1) out' v4 (.bool (decide ((i : Int) < l.length))) y2 y3 L3 w' (by omega) (by omega) ho hc hf hle he
          rw [show ((i' + 1 : Nat) : Int) = (i' : Int) + 1 from by omega] at this
          exact this
        clear hJ
        rw [ixr_v (j := i) el32 sc21 hr rfl (i32s_get hil), eq_v]
        refine br_dec _ _ _ (fun h13 => ?_) (fun h13 => ?_)
        · rw [h13] at he
          refine push32 ho (by omega) fun v5 w5 L5 ho5 hc5 hl5 => ?_
          have hc25 : Ch [] w2 w5 := hc.trans hc5 (fun z hz => .inr (hf z hz))
          have hf5 : ∀ z, z ∈ L5 → w2.heap.size ≤ z := fun z hz => by
            rcases hl5 z hz with h | h
            · exact hf z h
            · have := hc.size; omega
          have hr5 := Rd.ch ho2.rd hc25 (by simp)
          refine seq_ok fun J1 hJ1 => ?_
          rw [add_v, wrap_i64 (by omega) (by omega), lenr_v el32 hr5, lt_v]
          refine br_dec _ _ _ (fun h2 => ?_) (fun h2 => ?_)
          · have hil2 : i + 1 < l.length := by omega
            rw [add_v, wrap_i64 (by omega) (by omega), ixr_v (j := i + 1) el32 sc21 hr5 (by omega) (i32s_get hil2), eq_v]
            have hdi2 : l.drop (i + 1) = l[i + 1] :: l.drop (i + 2) := List.drop_eq_getElem_cons hil2
            refine br_dec _ _ _ (fun h10 => ?_) (fun h10 => ?_)
            · rw [add_v, wrap_i64 (by omega) (by omega)]
              refine hJ1 _ _ ?_
              rw [nth_zero]
              have := next (i + 1) (out ++ [10]) v5 (.bool (decide (l[i] = 13))) (.bool (decide (l[i + 1] = 10))) L5 w5 (by omega) hil2 ho5 hc25 hf5 (by rw [List.length_append]; simp; omega) (by rw [he, hdi2, h10, nlR_crlf]; simp)
              exact this
            · refine hJ1 _ _ ?_
              rw [nth_zero]
              exact next i (out ++ [10]) v5 _ _ L5 w5 (by omega) hil ho5 hc25 hf5 (by rw [List.length_append]; simp; omega) (by rw [he, nlR_cr (fun r' e => h10 (by rw [hdi2] at e; injection e))]; simp)
          · refine hJ1 _ _ ?_
            rw [nth_zero]
            refine next i (out ++ [10]) v5 _ _ L5 w5 (by omega) hil ho5 hc25 hf5 (by rw [List.length_append]; simp; omega) ?_
            rw [he, nlR_cr (fun r' e => ?_)]
            · simp
            · rw [List.drop_eq_nil_of_le (by omega)] at e
              cases e
        · rw [ixr_v (j := i) el32 sc21 hr rfl (i32s_get hil)]
          refine push32 ho (by omega) fun v5 w5 L5 ho5 hc5 hl5 => ?_
          have hc25 : Ch [] w2 w5 := hc.trans hc5 (fun z hz => .inr (hf z hz))
          exact next i (out ++ [l[i]]) v5 _ _ L5 w5 (by omega) hil ho5 hc25 (fun z hz => by
            rcases hl5 z hz with h | h
            · exact hf z h
            · have := hc.size; omega) (by rw [List.length_append]; simp; omega) (by rw [he, nlR_miss _ h13]; simp)
      · rw [List.drop_eq_nil_of_le (by omega)] at he
        simp only [nlR, List.append_nil] at he
        rw [he] at k
        have s1 := hc1.size
        have s2 := hc2.size
        exact k v4 w' L3 ho ((hc1.trans hc2 (by simp)).trans hc (by simp)) (fun z hz => by have := hf z hz; omega)
  exact key l.length 0 [] _ undef undef undef [] w2 (by omega) (by omega) (Own.nil _ _ _) (Ch.refl _ _) (by simp) (by simp) (by simp)
end
end Go.Proofs.YthpbiliajcameaaDoor
