import Derived.Test.YtbhgindbdojmmaaE3
set_option linter.unusedVariables false
set_option maxRecDepth 4000
namespace Go.Proofs.Ytbhgindbdojmmaa
open Go Go.Fw Go.Proofs Go.RowKit
section
variable {w : World} {K : Value → World → Prop}
theorem rreplace_ {b : Nat} {l : List HL} {base most : Int} {L : List Nat} {x : HL} (h : LAt w b l base most L) (hl : l.length * 24 ≤ 140737488355328) (i : Int)
    (k1 : (i < 0 ∨ (l.length : Int) ≤ i) → ∀ w', Ch [] w w' → K (.tuple #[hlV ([], 0), I64 4]) w')
    (k2 : ∀ (j : Nat) y, i = j → l[j]? = some y → may [x] ≠ 0 → ∀ w', Ch [] w w' → K (.tuple #[hlV ([], 0), I64 (may [x])]) w')
    (k3 : ∀ (j : Nat) y, i = j → l[j]? = some y → may [x] = 0 → ∀ w' L', LAt w' b (l.set j x) base most L' → Ch L w w' → (∀ z, z ∈ L' → z ∈ L ∨ w.heap.size ≤ z) → K (.tuple #[hlV y, I64 0]) w') : S.call Try.prog 57 [PT b, I64 i, hlV x] K w := by
  refine F57_link ?_
  unfold F57
  refine Go.Fw.bx fun w1 hb1 hc1 hs1 => ?_
  have hb1' : w1.heap[w.heap.size]? = some (.cells #[strV x.1, .int .i64 x.2] 36 (0, 0)) := hb1
  generalize ht5 : w.heap.size = t5 at hb1'
  refine Go.Fw.al z36 fun w2 hb2 hc2 hs2 => ?_
  have hb2' : w2.heap[w1.heap.size]? = some (.cells #[strV [], .int .i64 0] 36 (0, 0)) := hb2
  generalize ht6 : w1.heap.size = t6 at hb2'
  have hc02 : Ch [] w w2 := hc1.trans hc2 (by simp)
  have h52 := hc2.at_ hb1' (by simp)
  have hq2 := h.ch hc02 (by simp)
  refine ris_ hq2 i ?_
  rw [not_v]
  by_cases hin : 0 ≤ i ∧ i < l.length
  · rw [decide_eq_true hin, show (!true) = false from rfl, br_false]
    obtain ⟨j, rfl⟩ := Int.eq_ofNat_of_zero_le hin.1
    have hjl : j < l.length := by omega
    have hget : l[j]? = some l[j] := List.getElem?_eq_getElem hjl
    rw [ldw_v ag36 h52 rfl, v_eq (bs36 w2 _ _)]
    have hrl : RL (w2.alloc (.cells #[strV x.1, .int .i64 x.2] 36)) (w2.alloc (.cells #[strV x.1, .int .i64 x.2] 36)).heap.size (.slice (some ⟨w2.heap.size, 0, none⟩) 1 1) [x] := by
      exact Own.rd (Own.fresh (e := 36) (sz := 2) (n := 1) (heap_alloc_new w2 _) rfl (by simp only [maxLen]; omega))
    have hc23 : Ch [] w2 (w2.alloc (.cells #[strV x.1, .int .i64 x.2] 36)) := ch_alloc w2 _
    generalize (w2.alloc (.cells #[strV x.1, .int .i64 x.2] 36)) = w3 at *
    refine rmay_ hrl ?_
    have hc03 : Ch [] w w3 := hc02.trans hc23 (by simp)
    rw [ne_v]
    refine br_dec _ _ _ (fun hn => ?_) (fun hn => ?_)
    · rw [v_eq (build36z w3)]
      refine stw ag36 (hc23.at_ hb2' (by simp)) rfl rfl (by simp [Value.oneCell', strV]) fun w7 hb7 hc7 hs7 => ?_
      rw [ldR_p ag36 hb7 rfl]
      exact k2 j _ rfl hget hn w7 (hc03.trans hc7 (by have := hc1.size; simp; omega))
    · have hm0 : may [x] = 0 := by omega
      obtain ⟨lv, Ll, h1, h2, h5⟩ := (h.ch hc03 (by simp)).ex
      have hnd := h.nodup
      have hlt := h.lt
      subst h5
      have hb0 : b < w.heap.size := hlt b (by simp)
      have hLl : ∀ x, x ∈ Ll → x < w.heap.size := fun x hx => hlt x (by simp [hx])
      rw [nilC_v, fa_v fo81_0, ld_v sc28 (cells3 h1).1, ixa_v (j := j) el28 ag36 (LS.rl h2) (by omega) rfl hjl (lines_el hget)]
      refine Go.Fw.al z36 fun w4 hb4 hc4 hs4 => ?_
      refine stw ag36 hb4 rfl rfl (by simp [Value.oneCell', strV]) fun w5 hb5 hc5 hs5 => ?_
      have hc35 : Ch [] w3 w5 := hc4.trans hc5 (by simp)
      have h15 := hc35.at_ h1 (by simp)
      have h25 := Own.ch h2 hc35 (by simp)
      have h55 := (hc23.trans hc35 (by simp)).at_ h52 (by simp)
      have h65 := (hc23.trans hc35 (by simp)).at_ hb2' (by simp)
      rw [nilC_v, fa_v fo81_0, ld_v sc28 (cells3 h15).1]
      refine ap (m := l.length) (news := lines l) sl28 (Own.nil _ _ _) (Own.rd h25) one_lines (by omega) (by omega) fun v1 w6 L6 ho6 hc6 hl6 => ?_
      rw [List.nil_append, Nat.zero_add] at ho6
      have hf6 : ∀ x, x ∈ L6 → w5.heap.size ≤ x := fun x hx => by simpa using hl6 x hx
      have s1 := hc1.size
      have s2 := hc2.size
      have s3 := hc23.size
      have s35 := hc35.size
      have s6 := hc6.size
      have h16 := hc6.at_ h15 (by simp)
      have h56 := hc6.at_ h55 (by simp)
      have h66 := hc6.at_ h65 (by simp)
      have h96 := hc6.at_ hb5 (by simp)
      obtain ⟨g, off, c, rfl, rfl, hcc⟩ := Own.some_ ho6 (by omega)
      have hg5 := hf6 g (by simp)
      have hcm : c ≤ 9223372036854775807 := by obtain ⟨_, _, h, _, h3⟩ := Own.shape ho6; injection h with _ _ h; subst h; simpa [maxLen] using h3
      rw [nilC_v, fa_v fo81_0]
      refine st sc28 h16 (by simp) rfl fun w7 hb7 hc7 hs7 => ?_
      have ho7 := Own.ch ho6 hc7 (by simp; omega)
      refine drawn_ok fun w8 hc8 hs8 => ?_
      have h18 := hc8.at_ hb7 (by simp)
      have h58 := hc8.at_ (hc7.at_ h56 (by simp; omega)) (by simp)
      rw [nilC_p, fa_p fo81_0, ld_p sc28 (cells3 h18).1, ldw_p ag36 h58 rfl, ia_p el28 (by omega) (by omega), Int.toNat_natCast]
      refine stoA ag36 (Own.ch ho7 hc8 (by simp)) hjl rfl (by simp [Value.oneCell', strV]) fun w9 ho9 hc9 hs9 => ?_
      have hl9 : LS w9 (.slice (some ⟨g, off, none⟩) l.length c) (l.set j x) [g] := by
        unfold LS
        rw [List.length_set, ← lines_put hjl]
        exact ho9
      have hc59 : Ch [b] w5 w9 := ((hc6.nil (L := [b])).trans hc7 (by simp)).trans ((hc8.nil (L := [g])).trans hc9 (by simp)) (by simp; omega)
      rw [ldw_v ag36 (hc59.at_ hb5 (by simp; omega)) rfl]
      refine stw ag36 (hc59.at_ h65 (by simp; omega)) rfl rfl (by simp [Value.oneCell', strV]) fun w10 hb10 hc10 hs10 => ?_
      rw [ldR_p ag36 hb10 rfl]
      have h110 := hc10.at_ (hc9.at_ h18 (by simp; omega)) (by simp; omega)
      refine k3 j _ rfl hget hm0 w10 [b, g] ⟨⟨_, [g], h110, Own.ch hl9 hc10 (by simp; omega), rfl⟩, by simp; omega⟩ ?_ (fun z hz => ?_)
      · exact (((hc03.trans hc35 (by simp)).nil (L := b :: Ll)).trans hc59 (by simp)).trans hc10 (by simp; omega)
      · simp at hz
        rcases hz with rfl | rfl
        · exact .inl (by simp)
        · right; omega
  · rw [decide_eq_false hin, show (!false) = true from rfl, br_true, v_eq (build36z w2)]
    refine stw ag36 hb2' rfl rfl (by simp [Value.oneCell', strV]) fun w3 hb3 hc3 hs3 => ?_
    rw [ldR_p ag36 hb3 rfl]
    exact k1 (by omega) w3 (hc02.trans hc3 (by have := hc1.size; simp; omega))
theorem rremove_ {b : Nat} {l : List HL} {base most : Int} {L : List Nat} (h : LAt w b l base most L) (hl : l.length * 24 ≤ 140737488355328) (i : Int)
    (k1 : (i < 0 ∨ (l.length : Int) ≤ i) → ∀ w', Ch [] w w' → K (.tuple #[hlV ([], 0), I64 4]) w')
    (k2 : ∀ (j : Nat) y, i = j → l[j]? = some y → ∀ w' L', LAt w' b (l.eraseIdx j) base most L' → Ch L w w' → (∀ z, z ∈ L' → z ∈ L ∨ w.heap.size ≤ z) → K (.tuple #[hlV y, I64 0]) w') : S.call Try.prog 58 [PT b, I64 i] K w := by
  refine F58_link ?_
  unfold F58
  refine Go.Fw.al z36 fun w2 hb2 hc2 hs2 => ?_
  have hb2' : w2.heap[w.heap.size]? = some (.cells #[strV [], .int .i64 0] 36 (0, 0)) := hb2
  generalize ht4 : w.heap.size = t4 at hb2'
  have hq2 := h.ch hc2 (by simp)
  refine ris_ hq2 i ?_
  rw [not_v]
  by_cases hin : 0 ≤ i ∧ i < l.length
  · rw [decide_eq_true hin, show (!true) = false from rfl, br_false]
    obtain ⟨j, rfl⟩ := Int.eq_ofNat_of_zero_le hin.1
    have hjl : j < l.length := by omega
    have hget : l[j]? = some l[j] := List.getElem?_eq_getElem hjl
    obtain ⟨lv, Ll, h1, h2, h5⟩ := hq2.ex
    have hnd := h.nodup
    have hlt := h.lt
    subst h5
    have hb0 : b < w.heap.size := hlt b (by simp)
    have hLl : ∀ x, x ∈ Ll → x < w.heap.size := fun x hx => hlt x (by simp [hx])
    obtain ⟨A, c, rfl, hcc1, hcc2⟩ := Own.shape h2
    have hcm : c ≤ 9223372036854775807 := by simp only [maxLen] at hcc2; omega
    rw [nilC_v, fa_v fo81_0, ld_v sc28 (cells3 h1).1, ixa_v (j := j) el28 ag36 (LS.rl h2) (by omega) rfl hjl (lines_el hget)]
    refine Go.Fw.al z36 fun w4 hb4 hc4 hs4 => ?_
    refine stw ag36 hb4 rfl rfl (by simp [Value.oneCell', strV]) fun w5 hb5 hc5 hs5 => ?_
    have hc25 : Ch [] w2 w5 := hc4.trans hc5 (by simp)
    have h15 := hc25.at_ h1 (by simp)
    have h25 := Own.ch h2 hc25 (by simp)
    have h65 := hc25.at_ hb2' (by simp)
    rw [nilC_v, fa_v fo81_0, ld_v sc28 (cells3 h15).1, cutu_v el28 j rfl (by omega)]
    have hcu := Rd.cut (Own.rd h25) (l := 0) (u := j) (by omega) (by omega) (by omega)
    have e1 : ((lines l).drop (0 * 2)).take ((j - 0) * 2) = lines (l.take j) := by rw [Nat.zero_mul, List.drop_zero, Nat.sub_zero, lines_take]
    rw [e1, Nat.sub_zero] at hcu
    have hlj : (l.take j).length = j := by rw [List.length_take]; omega
    refine ap (m := j) (news := lines (l.take j)) sl28 (Own.nil _ _ _) hcu one_lines (by omega) (by omega) fun v1 w6 L6 ho6 hc6 hl6 => ?_
    rw [List.nil_append, Nat.zero_add] at ho6
    have hf6 : ∀ x, x ∈ L6 → w5.heap.size ≤ x := fun x hx => by simpa using hl6 x hx
    have h16 := hc6.at_ h15 (by simp)
    have h26 := Own.ch h25 hc6 (by simp)
    rw [nilC_v, fa_v fo81_0, ld_v sc28 (cells3 h16).1, add_v, wrap_i64 (by omega) (by omega), cutl_v el28 (j + 1) (by omega) (by omega) hcc1]
    have hcd := Rd.cut (Own.rd h26) (l := j + 1) (u := l.length) (by omega) (Nat.le_refl _) (by omega)
    have e2 : ((lines l).drop ((j + 1) * 2)).take ((l.length - (j + 1)) * 2) = lines (l.drop (j + 1)) := by
      rw [lines_drop, List.take_of_length_le (by rw [lines_length, List.length_drop]; omega)]
    rw [e2] at hcd
    refine ap (m := l.length - (j + 1)) (news := lines (l.drop (j + 1))) sl28 ho6 hcd one_lines (by omega) (by omega) fun v2 w7 L7 ho7 hc7 hl7 => ?_
    rw [← lines_eraseIdx] at ho7
    have hlen : (l.eraseIdx j).length = j + (l.length - (j + 1)) := by rw [List.length_eraseIdx_of_lt hjl]; omega
    rw [← hlen] at ho7
    have hf7 : ∀ x, x ∈ L7 → w5.heap.size ≤ x := fun x hx => by
      rcases hl7 x hx with h | h
      · exact hf6 x h
      · have := hc6.size; omega
    have hc57 : Ch [] w5 w7 := hc6.trans hc7 (fun x hx => .inr (hf6 x hx))
    have h17 := hc57.at_ h15 (by simp)
    have h67 := hc57.at_ h65 (by simp)
    have h87 := hc57.at_ hb5 (by simp)
    have s2 := hc2.size
    have s25 := hc25.size
    obtain ⟨A7, c7, rfl, _⟩ := ho7.shape
    rw [nilC_v, fa_v fo81_0]
    refine st sc28 h17 (by simp) rfl fun w8 hb8 hc8 hs8 => ?_
    have hbt : b ≠ t4 := by omega
    rw [ldw_v ag36 (hc8.at_ h87 (by simp; omega)) rfl]
    refine stw ag36 (hc8.at_ h67 (by simp; omega)) rfl rfl (by simp [Value.oneCell', strV]) fun w9 hb9 hc9 hs9 => ?_
    rw [ldR_p ag36 hb9 rfl]
    refine k2 j _ rfl hget w9 (b :: L7) ⟨⟨_, L7, hc9.at_ hb8 (by simp; omega), Own.ch (Own.ch ho7 hc8 (fun x hx => by have := hf7 x hx; simp; omega)) hc9 (fun x hx => by have := hf7 x hx; simp; omega), rfl⟩,
      List.nodup_cons.2 ⟨fun hm => by have := hf7 b hm; omega, ho7.nodup⟩⟩ ?_ (fun z hz => ?_)
    · exact ((((hc2.trans hc25 (by simp)).trans hc57 (by simp)).nil (L := b :: Ll)).trans hc8 (by simp)).trans hc9 (by simp; omega)
    · simp only [List.mem_cons] at hz
      rcases hz with rfl | hz
      · exact .inl (by simp)
      · have := hf7 z hz; right; omega
  · rw [decide_eq_false hin, show (!false) = true from rfl, br_true, v_eq (build36z w2)]
    refine stw ag36 hb2' rfl rfl (by simp [Value.oneCell', strV]) fun w3 hb3 hc3 hs3 => ?_
    rw [ldR_p ag36 hb3 rfl]
    exact k1 (by omega) w3 (hc2.trans hc3 (by simp; omega))
theorem rsearch_ {b : Nat} {l : List HL} {base most : Int} {L : List Nat} {fro : Int} {t : Txt} {back begins : Bool} (h : LAt w b l base most L) (hl : l.length ≤ 4096) (hx : ∀ x ∈ l, x.1.length ≤ 16384) (ht : t.length ≤ 9223372036854775807)
    (hf : -9223372036854775808 ≤ fro ∧ fro ≤ 9223372036854775807)
    (k : K (.tuple #[I64 (srch l fro t back begins).1, I64 (srch l fro t back begins).2.1, .bool (srch l fro t back begins).2.2]) w) : S.call Try.prog 59 [PT b, I64 fro, strV t, .bool back, .bool begins] K w := by
  refine F59_link ?_
  unfold F59
  refine seq_ok fun J hJ => ?_
  obtain ⟨lv, Ll, h1, h2, h5⟩ := h.ex
  have h2' := h2
  obtain ⟨A, c, rfl, hc1, hc2⟩ := Own.shape h2
  have hj : ∀ v2 v3 v4, J [I64 (startS l fro back), I64 (if back = true then -1 else 1), v2, v3, v4] w := by
    intro v2 v3 v4
    refine hJ _ _ ?_
    intro I hC
    have key : ∀ (d : Nat) (i : Int) (x10 x11 x12 x15 x16 x36 x51 x65 x66 x72 : Value), leftS l back i < d → -9223372036854775808 ≤ i → i ≤ 9223372036854775807 → (back = true → i < 4611686018427387904) → (back = false → -1 ≤ i) →
        K (.tuple #[I64 (goS l t back begins d i).1, I64 (goS l t back begins d i).2.1, .bool (goS l t back begins d i).2.2]) w → I [x10, x11, x12, I64 i, x15, x16, x36, x51, x65, x66, x72] w := by
      intro d
      induction d with
      | zero =>
        intro i x10 x11 x12 x15 x16 x36 x51 x65 x66 x72 hd hi1 hi2 hb1 hb2 kk
        refine hC _ _ _ _ _ _ _ _ _ _ _ _ ?_
        unfold leftS at hd
        refine ris_ h i ?_
        rw [decide_eq_false (by cases back <;> simp at hd <;> omega), br_false]
        exact kk
      | succ d ih =>
        intro i x10 x11 x12 x15 x16 x36 x51 x65 x66 x72 hd hi1 hi2 hb1 hb2 kk
        refine hC _ _ _ _ _ _ _ _ _ _ _ _ ?_
        refine ris_ h i ?_
        by_cases hin : 0 ≤ i ∧ i < l.length
        · rw [decide_eq_true hin, br_true]
          obtain ⟨j, rfl⟩ := Int.eq_ofNat_of_zero_le hin.1
          have hjl : j < l.length := by omega
          have hget : l[j]? = some l[j] := List.getElem?_eq_getElem hjl
          have hxl := hx _ (List.getElem_mem hjl)
          rw [nilC_v, fa_v fo81_0, ld_v sc28 (cells3 h1).1, ixf_v (j := j) el28 fo36_0 sc9 (LS.rl h2') (by omega) rfl hjl (lines_0 hget)]
          unfold goS at kk
          rw [if_pos hin, Int.toNat_natCast, hget, Option.getD_some] at kk
          refine seq_ok fun J1 hJ1 => ?_
          have hj1 : ∀ a1 a2 a3, J1 [I64 (fnd l[j].1 t back begins), a1, a2, a3] w := by
            intro a1 a2 a3
            refine hJ1 _ _ ?_
            rw [nth_zero, ge_v]
            refine br_dec _ _ _ (fun h0 => ?_) (fun h0 => ?_)
            · rw [if_pos h0] at kk; exact kk
            · rw [if_neg h0] at kk
              have hval : IntKind.i64.wrap ((j : Int) + (if back = true then -1 else 1)) = if back = true then (j : Int) - 1 else (j : Int) + 1 := by
                cases back
                · simp only [Bool.false_eq_true, if_false]; rw [wrap_i64 (by omega) (by omega)]
                · simp only [if_true]; rw [wrap_i64 (by omega) (by omega)]; omega
              rw [nth_succ, nth_zero, add_v, hval]
              refine ih _ _ _ _ _ _ _ _ _ _ _ ?_ ?_ ?_ ?_ ?_ kk
              · unfold leftS at *; cases back <;> simp at * <;> omega
              · cases back <;> simp <;> omega
              · cases back <;> simp <;> omega
              · intro hb'; subst hb'; simp; omega
              · intro hb'; subst hb'; simp; omega
          clear hJ1
          unfold fnd at hj1
          cases begins with
          | true =>
            simp only [if_true] at hj1
            rw [br_true, lenS_v und9, lenS_v und9, ge_v]
            have hp : Lib.hasPrefix l[j].1 t = Lib.occAt l[j].1 t 0 := rfl
            refine br_dec _ _ _ (fun hle => ?_) (fun hle => ?_)
            · rw [lenS_v und9]
              have hcut : (Instr.sliceAt 9 (strV l[j].1) none (some (I64 t.length)) none).run Try.prog w = .ok (strV ((l[j].1.drop 0).take t.length)) w := by
                unfold strV
                rw [run_sliceAt_string _ _ _ _ _ _ und9, run_slice_string_h w 9 ⟨l[j].1.toArray⟩ und9 .i64 (t.length : Int) (by omega) (by rw [size_str]; omega)]
                congr 2
                rw [Int.toNat_natCast]
                apply ByteArray.ext
                apply Array.ext'
                simp
              rw [v_eq hcut, eqs_v, occ_eq, ← hp]
              cases hpp : Lib.hasPrefix l[j].1 t with
              | true => rw [hpp] at hj1; rw [br_true]; exact hj1 _ _ _
              | false => rw [hpp] at hj1; rw [br_false]; exact hj1 _ _ _
            · have : Lib.hasPrefix l[j].1 t = false := by
                cases hpp : Lib.hasPrefix l[j].1 t with
                | false => rfl
                | true =>
                  rw [hp] at hpp
                  have := occ_len hpp (Nat.zero_le _)
                  omega
              rw [this] at hj1
              exact hj1 _ _ _
          | false =>
            simp only [Bool.false_eq_true, if_false] at hj1
            rw [br_false]
            cases back with
            | true =>
              rw [br_true]
              simp only [if_true] at hj1
              exact rlast_ hxl ht (hj1 _ _ _)
            | false =>
              rw [br_false]
              simp only [Bool.false_eq_true, if_false] at hj1
              exact rfirst_ hxl ht (hj1 _ _ _)
        · rw [decide_eq_false hin, br_false]
          unfold goS at kk
          rw [if_neg hin] at kk
          exact kk
    rw [nth_zero]
    refine key (l.length + 1) _ _ _ _ _ _ _ _ _ _ _ ?_ ?_ ?_ ?_ ?_ k
    · unfold leftS startS; cases back <;> simp <;> omega
    · unfold startS; cases back <;> simp <;> omega
    · unfold startS; cases back <;> simp <;> omega
    · intro hb'; subst hb'; unfold startS; simp; omega
    · intro hb'; subst hb'; unfold startS; simp; omega
  clear hJ
  unfold startS at hj
  cases back with
  | true =>
    simp only [if_true] at hj
    rw [br_true, nilC_v, fa_v fo81_0, ld_v sc28 (cells3 h1).1, len_v el28, ge_v]
    refine br_dec _ _ _ (fun hle => ?_) (fun hle => ?_)
    · rw [nilC_v, fa_v fo81_0, ld_v sc28 (cells3 h1).1, len_v el28, sub_v, wrap_i64 (by omega) (by omega)]
      rw [Int.min_eq_right (by omega)] at hj
      exact hj _ _ _
    · rw [Int.min_eq_left (by omega)] at hj
      exact hj _ _ _
  | false =>
    simp only [Bool.false_eq_true, if_false] at hj
    rw [br_false, lt_v]
    refine br_dec _ _ _ (fun hle => ?_) (fun hle => ?_)
    · rw [Int.max_eq_right (by omega)] at hj
      exact hj _ _ _
    · rw [Int.max_eq_left (by omega)] at hj
      exact hj _ _ _
/-- An operation: what it does, its lines, where, which number, its text, and two marks. -/
structure OpT where
  d : Int
  ls : List HL
  i : Int
  n : Int
  t : Txt
  bk : Bool
  bg : Bool
def OpT.line (o : OpT) : HL := match o.ls with | [] => (o.t, 0) | x :: _ => x
abbrev opCells (o : OpT) (v : Value) : Array Value := #[I64 o.d, v, I64 o.i, I64 o.n, strV o.t, .bool o.bk, .bool o.bg]
abbrev opV (o : OpT) (v : Value) : Value := .agg (opCells o v)
theorem line_ {o : OpT} {v : Value} {B : Nat} (hr : RL w B v o.ls) (hB : B ≤ w.heap.size) (k : ∀ w', Ch [] w w' → K (hlV o.line) w') : S.call Try.prog 37 [opV o v] K w := by
  refine F37_link ?_
  unfold F37
  obtain ⟨A, c, rfl, _⟩ := hr.form
  refine Go.Fw.bx fun w1 hb1 hc1 hs1 => ?_
  have hb1' : w1.heap[w.heap.size]? = some (.cells (opCells o (.slice A o.ls.length c)) 77 (0, 0)) := hb1
  generalize w.heap.size = t1 at hb1'
  refine Go.Fw.al z36 fun w2 hb2 hc2 hs2 => ?_
  have hc02 : Ch [] w w2 := hc1.trans hc2 (by simp)
  have h12 := hc2.at_ hb1' (by simp)
  have hr2 := hr.ch hc02
  rw [fa_v fo77_1, ld_v sc28 (cells7 h12).2.1, len_v el28, eq_v]
  cases hls : o.ls with
  | nil =>
    rw [decide_eq_true (by simp), br_true, fa_v fo77_4, ld_v sc9 (cells7 h12).2.2.2.2.1]
    unfold strV
    rw [v_eq (build36 w2 _)]
    refine stw ag36 hb2 rfl rfl (by simp [Value.oneCell', strV]) fun w3 hb3 hc3 hs3 => ?_
    rw [ldR_p ag36 hb3 rfl]
    have hk := k w3 (hc02.trans hc3 (by have := hc1.size; simp; omega))
    unfold OpT.line at hk
    rw [hls] at hk
    exact hk
  | cons x rest =>
    rw [decide_eq_false (by simp; omega), br_false, fa_v fo77_1, ld_v sc28 (cells7 h12).2.1]
    rw [hls] at hr2
    have hx : (x :: rest)[0]? = some x := rfl
    rw [hls, ixa_v (i := 0) (j := 0) el28 ag36 hr2 (by omega) (by omega) (by simp) (lines_el hx)]
    refine stw ag36 hb2 rfl rfl (by simp [Value.oneCell', strV]) fun w3 hb3 hc3 hs3 => ?_
    rw [ldR_p ag36 hb3 rfl]
    have hk := k w3 (hc02.trans hc3 (by have := hc1.size; simp; omega))
    unfold OpT.line at hk
    rw [hls] at hk
    exact hk
end
end Go.Proofs.Ytbhgindbdojmmaa
