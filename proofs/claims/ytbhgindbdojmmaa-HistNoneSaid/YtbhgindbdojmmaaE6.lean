import Derived.Test.YtbhgindbdojmmaaE5
set_option linter.unusedVariables false
set_option maxRecDepth 4000
namespace Go.Proofs.Ytbhgindbdojmmaa
open Go Go.Fw Go.Proofs Go.RowKit
theorem ag77 : aggSz Try.prog 77 = some 7 := by kernel_rfl
section
variable {w : World} {K : Value → World → Prop}
set_option maxHeartbeats 4000000
theorem step_ {B b r : Nat} {l : List HL} {base : Int} {most A : Nat} {LH LR : List Nat} {o : OpT} {v : Value} {m : Int} (s : St w B b r l base most A LH LR) (hB : B ≤ w.heap.size) (hro : RL w B v o.ls) (hA : A + o.ls.length ≤ 1048576)
    (hi : -9223372036854775808 ≤ o.i ∧ o.i ≤ 9223372036854775807) (hn : -9223372036854775808 ≤ o.n ∧ o.n < 9223372036854775808) (ht : o.t.length ≤ 9223372036854775807) (hm0 : w.cell? ⟨0, 0, none⟩ = some (.int .i64 m))
    (k : ∀ w' b' l' base' most' LH' LR', St w' B b' r l' base' most' (A + o.ls.length) LH' LR' → Ch (LH ++ LR) w w' → K (.tuple #[PT b', .bool true]) w') : S.call Try.prog 34 [PT b, PT r, opV o v] K w := by
  refine F34_link ?_
  unfold F34
  obtain ⟨A', c, rfl, _⟩ := hro.form
  refine Go.Fw.bx fun w1 hb1 hc1 hs1 => ?_
  have h51 : w1.heap[w.heap.size]? = some (.cells (opCells o (.slice A' o.ls.length c)) 77 (0, 0)) := hb1
  have s1 := s.ch hc1
  have hro1 := hro.ch hc1
  have t5n : w.heap.size ∉ LH ++ LR := fun hx => by have := s.lt _ hx; omega
  have t5h : w.heap.size ∉ LH := fun hx => t5n (List.mem_append_left _ hx)
  have t5r : w.heap.size ∉ LR := fun hx => t5n (List.mem_append_right _ hx)
  have hb5 : w.heap.size < w1.heap.size := by omega
  have hB1 : B ≤ w1.heap.size := by omega
  have hm1 := hc1.cell hm0 (by simp)
  have hl4 : l.length ≤ 4096 := by have := s.len; have := s.mo; omega
  have hbase : 1 ≤ base ∧ base ≤ 1048577 := by have h1 := s.b1; have h2 := s.b2; omega
  have hbn : base ≠ 0 := by omega
  have hmo := s.mo
  generalize w.heap.size = t5 at h51 t5n t5h t5r hb5
  have fin : ∀ w' b' l' base' most' LH' LR', St w' B b' r l' base' most' (A + o.ls.length) LH' LR' → Ch (LH ++ LR) w1 w' → K (.tuple #[PT b', .bool true]) w' := fun w' b' l' base' most' LH' LR' h1 h2 =>
    k w' b' l' base' most' LH' LR' h1 ((hc1.nil (L := LH ++ LR)).trans h2 (fun x hx => .inl hx))
  have same : ∀ w', Ch [] w1 w' → St w' B b r l base most (A + o.ls.length) LH LR := fun w' hc => by
    have := s1.ch hc
    exact ⟨this.h, this.r, this.d, this.fh, this.fr, this.len, this.mo, this.sh, this.b1, by have := this.b2; omega⟩
  clear k hb1
  rw [fa_v fo77_0, ld_v sc3 (cells7 h51).1, eq_v]
  refine br_dec _ _ _ (fun hd => ?_) (fun hd => ?_)
  · -- add
    refine drawn_ok fun w2 hc2 hs2 => ?_
    have s2 := s1.ch hc2
    have h52 := hc2.at_ h51 (by simp)
    refine ⟨fun w' => Ch (LH ++ LR) w2 w', Ch.refl _ _, ?_⟩
    refine h_ok (x := .pointer (some ⟨t5, 1, none⟩)) (fun w' hw => run_fa fo77_1) ?_
    refine h_ok (x := .slice A' o.ls.length c) (fun w' hw => run_ld sc28 (cells7 (hw.at_ h52 t5n)).2.1) ?_
    refine h_ok (x := .pointer (some ⟨t5, 1, none⟩)) (fun w' hw => run_fa fo77_1) ?_
    refine h_ok (x := .slice A' o.ls.length c) (fun w' hw => run_ld sc28 (cells7 (hw.at_ h52 t5n)).2.1) ?_
    have hro2 := hro1.ch hc2
    refine add1_ s2.h hro2 (by omega) hl4 (by omega) hbase hmo fun w3 LH' hq3 hc3 hl3 => ⟨hc3.mono (fun x hx => .inl (List.mem_append_left _ hx)), ?_⟩
    have hro3 : RL w3 B (.slice A' o.ls.length c) o.ls := Rd.ch hro2 hc3 s2.fh
    refine radd1_ (s2.r.ch hc3 (fun x hx hh => s2.d x hh hx)) hro3 s2.fr hl4 (by omega) hbase hmo fun w4 LR' hq4 hc4 hl4' => ?_
    have hal := add_len l o.ls most s.len
    have hb2 := s.b2
    obtain ⟨s4, hc24⟩ := s2.next (A' := A + o.ls.length) (by omega) hq3 hc3 hl3 hq4 hc4 hl4' hal.1 hmo (add_sh s.sh) (by omega) (by omega)
    refine ⟨hc24, ?_⟩
    refine h_ok (x := .bool (decide (may o.ls = may o.ls))) (fun w' hw => run_eq ..) ?_
    rw [decide_eq_true rfl]
    exact fin w4 b _ _ _ LH' LR' s4 ((hc2.nil (L := LH ++ LR)).trans hc24 (fun x hx => .inl hx))
  rw [eq_v]
  refine br_dec _ _ _ (fun hd => ?_) (fun hd => ?_)
  · -- stifle
    refine drawn_ok fun w2 hc2 hs2 => ?_
    have s2 := s1.ch hc2
    have h52 := hc2.at_ h51 (by simp)
    refine ⟨fun w' => Ch (LH ++ LR) w2 w', Ch.refl _ _, ?_⟩
    refine h_ok (x := .pointer (some ⟨t5, 2, none⟩)) (fun w' hw => run_fa fo77_2) ?_
    refine h_ok (x := I64 o.i) (fun w' hw => run_ld sc3 (cells7 (hw.at_ h52 t5n)).2.2.1) ?_
    refine h_ok (x := .pointer (some ⟨t5, 2, none⟩)) (fun w' hw => run_fa fo77_2) ?_
    refine h_ok (x := I64 o.i) (fun w' hw => run_ld sc3 (cells7 (hw.at_ h52 t5n)).2.2.1) ?_
    refine stifle1_ s2.h hl4 hbase fun w3 LH' hq3 hc3 hl3 => ⟨hc3.mono (fun x hx => .inl (List.mem_append_left _ hx)), ?_⟩
    refine rstifle1_ (s2.r.ch hc3 (fun x hx hh => s2.d x hh hx)) hl4 hbase fun w4 LR' hq4 hc4 hl4' => ?_
    have hal := stf_len l o.i most s.len hmo
    have hb2 := s.b2
    obtain ⟨s4, hc24⟩ := s2.next (A' := A + o.ls.length) (by omega) hq3 hc3 hl3 hq4 hc4 hl4' hal.1 hal.2.1 (stf_sh s.sh) (by omega) (by omega)
    refine ⟨hc24, ?_⟩
    refine h_ok (x := .bool (decide ((stfL l o.i most).1 = (stfL l o.i most).1))) (fun w' hw => run_eq ..) ?_
    rw [decide_eq_true rfl]
    exact fin w4 b _ _ _ LH' LR' s4 ((hc2.nil (L := LH ++ LR)).trans hc24 (fun x hx => .inl hx))
  rw [eq_v]
  refine br_dec _ _ _ (fun hd => ?_) (fun hd => ?_)
  · -- at and number
    rw [fa_v fo77_2, ld_v sc3 (cells7 h51).2.2.1]
    refine at1_ s1.h hbn o.i fun w2 hc2 => ?_
    rw [x20, x21]
    refine Go.Fw.al z36 fun w3 hb3 hc3 hs3 => ?_
    refine stw ag36 hb3 rfl rfl (by simp [Value.oneCell', strV]) fun w4 hb4 hc4 hs4 => ?_
    have hc14 : Ch [] w1 w4 := hc2.trans (hc3.trans hc4 (by simp)) (by simp)
    have h54 := hc14.at_ h51 (by simp)
    rw [fa_v fo77_2, ld_v sc3 (cells7 h54).2.2.1]
    refine rat1_ (s1.ch hc14).r o.i fun w5 hc5 => ?_
    rw [x20, x21]
    refine Go.Fw.al z36 fun w6 hb6 hc6 hs6 => ?_
    refine stw ag36 hb6 rfl rfl (by simp [Value.oneCell', strV]) fun w7 hb7 hc7 hs7 => ?_
    have hc47 : Ch [] w4 w7 := hc5.trans (hc6.trans hc7 (by simp)) (by simp)
    have hc17 : Ch [] w1 w7 := hc14.trans hc47 (by simp)
    have h57 := hc47.at_ h54 (by simp)
    rw [fa_v fo77_3, ld_v sc2 (cells7 h57).2.2.2.1]
    refine number1_ (s1.ch hc17).h hbase.1 (by omega) o.n hn fun w8 hc8 => ?_
    rw [x20, x21]
    refine Go.Fw.al z36 fun w9 hb9 hc9 hs9 => ?_
    refine stw ag36 hb9 rfl rfl (by simp [Value.oneCell', strV]) fun w10 hb10 hc10 hs10 => ?_
    have hc70 : Ch [] w7 w10 := hc8.trans (hc9.trans hc10 (by simp)) (by simp)
    have hc110 : Ch [] w1 w10 := hc17.trans hc70 (by simp)
    have h510 := hc70.at_ h57 (by simp)
    rw [fa_v fo77_3, ld_v sc2 (cells7 h510).2.2.2.1]
    refine rnumber1_ (s1.ch hc110).r hbase.1 (by omega) o.n hn fun w11 hc11 => ?_
    rw [x20, x21]
    refine Go.Fw.al z36 fun w12 hb12 hc12 hs12 => ?_
    refine stw ag36 hb12 rfl rfl (by simp [Value.oneCell', strV]) fun w13 hb13 hc13 hs13 => ?_
    have hc103 : Ch [] w10 w13 := hc11.trans (hc12.trans hc13 (by simp)) (by simp)
    have hc713 : Ch [] w7 w13 := hc70.trans hc103 (by simp)
    have hc413 : Ch [] w4 w13 := hc47.trans hc713 (by simp)
    rw [ldw_v ag36 (hc413.at_ hb4 (by simp)) rfl, ldw_v ag36 (hc713.at_ hb7 (by simp)) rfl, v_eq (run_eql36 ..), decide_eq_true rfl, br_true, eqb_v (by kernel_rfl), beq_self_eq_true, br_true,
      ldw_v ag36 (hc103.at_ hb10 (by simp)) rfl, ldw_v ag36 hb13 rfl, v_eq (run_eql36 ..), decide_eq_true rfl, br_true, eqb_v (by kernel_rfl), beq_self_eq_true]
    have hc113 : Ch [] w1 w13 := hc14.trans hc413 (by simp)
    exact fin w13 b l base most LH LR (same _ hc113) hc113.nil
  rw [eq_v]
  refine br_dec _ _ _ (fun hd => ?_) (fun hd => ?_)
  · -- replace
    have hrl := rep_len l o.i o.line
    have hrs := rep_sh (l := l) (i := o.i) (x := o.line) s.sh
    generalize hy : (repL l o.i o.line).1 = y at *
    generalize hex : (repL l o.i o.line).2.1 = ex at *
    generalize hlx : (repL l o.i o.line).2.2 = lx at *
    refine seq_ok fun J hJ => ?_
    have hj : ∀ w' t16 LH', HAt w' b lx base most LH' → Ch LH w1 w' → (∀ z, z ∈ LH' → z ∈ LH ∨ w1.heap.size ≤ z) → w'.heap[t16]? = some (.cells #[strV y.1, .int .i64 y.2] 36 (0, 0)) → w1.heap.size ≤ t16 → J [PT t16, I64 ex] w' := by
      intro wa t16 LH' hq hc hl' h16 ht16
      refine hJ _ _ ?_
      clear hJ
      refine seq_ok fun J1 hJ1 => ?_
      have hj1 : ∀ w' t18 LR', LAt w' r lx base most LR' → Ch LR wa w' → (∀ z, z ∈ LR' → z ∈ LR ∨ wa.heap.size ≤ z) → w'.heap[t18]? = some (.cells #[strV y.1, .int .i64 y.2] 36 (0, 0)) → J1 [PT t18, I64 ex] w' := by
        intro wb t18 LR' hq' hc' hl'' h18
        refine hJ1 _ _ ?_
        clear hJ1
        obtain ⟨s4, hc24⟩ := s1.next (A' := A + o.ls.length) hB1 hq hc hl' hq' hc' hl'' (by have := s.len; omega) hmo hrs (by omega) (by have := s.b2; omega)
        have h16' := hc'.at_ h16 (fun hx => by have := s1.r.lt _ hx; omega)
        rw [nth_zero, nth_zero, ldw_v ag36 h16' rfl, ldw_v ag36 h18 rfl, v_eq (run_eql36 ..), decide_eq_true rfl, br_true, nth_succ, nth_zero, nth_succ, nth_zero, eq_v, decide_eq_true rfl]
        exact fin wb b _ _ _ LH' LR' s4 hc24
      clear hJ1
      refine drawn_ok fun wb hcb hsb => ?_
      have hra : LAt wb r l base most LR := (s1.r.ch hc (fun x hx hh => s1.d x hh hx)).ch hcb (by simp)
      have h5b := hcb.at_ (hc.at_ h51 t5h) (by simp)
      have hrob : RL wb B (.slice A' o.ls.length c) o.ls := (Rd.ch (Rd.ch hro1 hc s1.fh) hcb (by simp))
      have hszb : B ≤ wb.heap.size := by have := hc.size; omega
      have rltb := hra.lt
      refine ⟨fun w' => Ch LR wb w', Ch.refl _ _, ?_⟩
      refine h_ok (x := .pointer (some ⟨t5, 2, none⟩)) (fun w' hw => run_fa fo77_2) ?_
      refine h_ok (x := I64 o.i) (fun w' hw => run_ld sc3 (cells7 (hw.at_ h5b t5r)).2.2.1) ?_
      refine h_ok (x := opV o (.slice A' o.ls.length c)) (fun w' hw => run_lda (vs := (opCells o (.slice A' o.ls.length c)).toList) ag77 rfl (block_cells (by simpa using hw.at_ h5b t5r))) ?_
      have tail : ∀ wt t18, Ch [] wb wt → wt.heap[t18]? = some (.cells #[strV [], .int .i64 0] 36 (0, 0)) → wb.heap.size ≤ t18 →
          S.call Try.prog 57 [PT r, I64 o.i, hlV o.line] (fun t123 w => (Ch LR wb w) ∧ (S.h Try.prog (fun w' => Ch LR wb w') (Instr.extract t123 0) (fun t124 w => S.h Try.prog (fun w' => Ch LR wb w') (Instr.extract t123 1) (fun t125 w => S.u Try.prog (Instr.storeAt 36 (PT t18) t124) (fun w => (Ch LR wb w) ∧ (J1 [PT t18, t125] w)) w) w) w)) wt := by
        intro wt t18 hct h18 hbt
        refine rreplace1_ (hra.ch hct (by simp)) hl4 o.i fun wc LR' hqc hcc hlc => ?_
        rw [hy, hex]
        rw [hlx] at hqc
        have hcbc : Ch LR wb wc := (hct.nil (L := LR)).trans hcc (fun x hx => .inl hx)
        refine ⟨hcbc, ?_⟩
        refine h_ok (x := hlV y) (fun w' hw => rfl) ?_
        refine h_ok (x := I64 ex) (fun w' hw => rfl) ?_
        have h18c := hcc.at_ h18 (fun hx => by have := rltb _ hx; omega)
        refine stw ag36 h18c rfl rfl (by simp [Value.oneCell', strV]) fun wd hbd hcd hsd => ?_
        have h18n : t18 ∉ LR' := fun hx => by
          rcases hlc _ hx with h | h
          · have := rltb _ h; omega
          · have := lt_of_heap h18; omega
        have hcbd : Ch LR wb wd := hcbc.trans hcd (by simp; omega)
        refine ⟨hcbd, ?_⟩
        have := hcb.size
        exact hj1 wd t18 LR' (hqc.ch hcd (by simp; exact fun x hx e => h18n (e ▸ hx))) ((hcb.nil (L := LR)).trans hcbd (fun x hx => .inl hx)) (fun z hz => by
          rcases hlc z hz with h | h
          · exact .inl h
          · right; have := hct.size; omega) hbd
      refine ⟨?_, ?_⟩
      · refine line_ hrob hszb fun wc hcc => ⟨hcc.nil, ?_, ?_⟩
        · refine rreplace1_ (hra.ch hcc (by simp)) hl4 o.i fun wd LR' hqd hcd hld => ?_
          rw [hy, hex]
          rw [hlx] at hqd
          have hcbd : Ch LR wb wd := (hcc.nil (L := LR)).trans hcd (fun x hx => .inl hx)
          refine ⟨hcbd, ?_⟩
          refine h_ok (x := hlV y) (fun w' hw => rfl) ?_
          refine h_ok (x := I64 ex) (fun w' hw => rfl) ?_
          refine Go.Fw.al z36 fun we hbe hce hse => ⟨hcbd.trans hce (by simp), ?_⟩
          refine stw ag36 hbe rfl rfl (by simp [Value.oneCell', strV]) fun wf hbf hcf hsf => ?_
          have hcdf : Ch [] wd wf := hce.trans hcf (by simp)
          have hcbf : Ch LR wb wf := hcbd.trans hcdf (by simp)
          refine ⟨hcbf, ?_⟩
          exact hj1 wf _ LR' (hqd.ch hcdf (by simp)) ((hcb.nil (L := LR)).trans hcbf (fun x hx => .inl hx)) (fun z hz => by
            rcases hld z hz with h | h
            · exact .inl h
            · right; have := hcc.size; have := hcb.size; omega) hbf
        · refine Go.Fw.al z36 fun we hbe hce hse => ⟨(hcc.trans hce (by simp)).nil, ?_⟩
          exact tail we _ (hcc.trans hce (by simp)) hbe hcc.size
      · refine Go.Fw.al z36 fun wc hbc hcc hsc => ⟨hcc.nil, ?_⟩
        refine line_ (hrob.ch hcc) (by omega) fun wd hcd => ⟨(hcc.trans hcd (by simp)).nil, ?_⟩
        exact tail wd _ (hcc.trans hcd (by simp)) (hcd.at_ hbc (by simp)) (Nat.le_refl _)
    clear hJ
    refine drawn_ok fun wb hcb hsb => ?_
    have s2 := s1.ch hcb
    have h5b := hcb.at_ h51 (by simp)
    have hrob := hro1.ch hcb
    have hszb : B ≤ wb.heap.size := by omega
    have hlt := s2.h.lt
    refine ⟨fun w' => Ch LH wb w', Ch.refl _ _, ?_⟩
    refine h_ok (x := .pointer (some ⟨t5, 2, none⟩)) (fun w' hw => run_fa fo77_2) ?_
    refine h_ok (x := I64 o.i) (fun w' hw => run_ld sc3 (cells7 (hw.at_ h5b t5h)).2.2.1) ?_
    refine h_ok (x := opV o (.slice A' o.ls.length c)) (fun w' hw => run_lda (vs := (opCells o (.slice A' o.ls.length c)).toList) ag77 rfl (block_cells (by simpa using hw.at_ h5b t5h))) ?_
    have tail : ∀ wt t18, Ch [] wb wt → wt.heap[t18]? = some (.cells #[strV [], .int .i64 0] 36 (0, 0)) → wb.heap.size ≤ t18 →
        S.call Try.prog 36 [PT b, I64 o.i, hlV o.line] (fun t123 w => (Ch LH wb w) ∧ (S.h Try.prog (fun w' => Ch LH wb w') (Instr.extract t123 0) (fun t124 w => S.h Try.prog (fun w' => Ch LH wb w') (Instr.extract t123 1) (fun t125 w => S.u Try.prog (Instr.storeAt 36 (PT t18) t124) (fun w => (Ch LH wb w) ∧ (J [PT t18, t125] w)) w) w) w)) wt := by
      intro wt t18 hct h18 hbt
      refine replace1_ (s2.h.ch hct (by simp)) hbn o.i fun wc LR' hqc hcc hlc => ?_
      rw [hy, hex]
      rw [hlx] at hqc
      have hcbc : Ch LH wb wc := (hct.nil (L := LH)).trans hcc (fun x hx => .inl hx)
      refine ⟨hcbc, ?_⟩
      refine h_ok (x := hlV y) (fun w' hw => rfl) ?_
      refine h_ok (x := I64 ex) (fun w' hw => rfl) ?_
      have h18c := hcc.at_ h18 (fun hx => by have := hlt _ hx; omega)
      refine stw ag36 h18c rfl rfl (by simp [Value.oneCell', strV]) fun wd hbd hcd hsd => ?_
      have h18n : t18 ∉ LR' := fun hx => by
        rcases hlc _ hx with h | h
        · have := hlt _ h; omega
        · have := lt_of_heap h18; omega
      have hcbd : Ch LH wb wd := hcbc.trans hcd (by simp; omega)
      refine ⟨hcbd, ?_⟩
      have := hcb.size
      exact hj wd t18 LR' (hqc.ch hcd (by simp; exact fun x hx e => h18n (e ▸ hx))) ((hcb.nil (L := LH)).trans hcbd (fun x hx => .inl hx)) (fun z hz => by
        rcases hlc z hz with h | h
        · exact .inl h
        · right; have := hct.size; omega) hbd (by omega)
    refine ⟨?_, ?_⟩
    · refine line_ hrob hszb fun wc hcc => ⟨hcc.nil, ?_, ?_⟩
      · refine replace1_ (s2.h.ch hcc (by simp)) hbn o.i fun wd LR' hqd hcd hld => ?_
        rw [hy, hex]
        rw [hlx] at hqd
        have hcbd : Ch LH wb wd := (hcc.nil (L := LH)).trans hcd (fun x hx => .inl hx)
        refine ⟨hcbd, ?_⟩
        refine h_ok (x := hlV y) (fun w' hw => rfl) ?_
        refine h_ok (x := I64 ex) (fun w' hw => rfl) ?_
        refine Go.Fw.al z36 fun we hbe hce hse => ⟨hcbd.trans hce (by simp), ?_⟩
        refine stw ag36 hbe rfl rfl (by simp [Value.oneCell', strV]) fun wf hbf hcf hsf => ?_
        have hcdf : Ch [] wd wf := hce.trans hcf (by simp)
        have hcbf : Ch LH wb wf := hcbd.trans hcdf (by simp)
        refine ⟨hcbf, ?_⟩
        exact hj wf _ LR' (hqd.ch hcdf (by simp)) ((hcb.nil (L := LH)).trans hcbf (fun x hx => .inl hx)) (fun z hz => by
          rcases hld z hz with h | h
          · exact .inl h
          · right; have := hcc.size; have := hcb.size; omega) hbf (by have := hcbd.size; have := hcb.size; omega)
      · refine Go.Fw.al z36 fun we hbe hce hse => ⟨(hcc.trans hce (by simp)).nil, ?_⟩
        exact tail we _ (hcc.trans hce (by simp)) hbe hcc.size
    · refine Go.Fw.al z36 fun wc hbc hcc hsc => ⟨hcc.nil, ?_⟩
      refine line_ (hrob.ch hcc) (by omega) fun wd hcd => ⟨(hcc.trans hcd (by simp)).nil, ?_⟩
      exact tail wd _ (hcc.trans hcd (by simp)) (hcd.at_ hbc (by simp)) (Nat.le_refl _)
  rw [eq_v]
  refine br_dec _ _ _ (fun hd => ?_) (fun hd => ?_)
  · -- remove
    have hrl := rem_len l o.i
    have hrs := rem_sh (l := l) (i := o.i) s.sh
    generalize hy : (remL l o.i).1 = y at *
    generalize hex : (remL l o.i).2.1 = ex at *
    generalize hlx : (remL l o.i).2.2 = lx at *
    rw [fa_v fo77_2, ld_v sc3 (cells7 h51).2.2.1]
    refine remove1_ s1.h hbn hl4 o.i fun w2 LH' hq2 hc2 hl2 => ?_
    rw [hy, hex, x20, x21]
    rw [hlx] at hq2
    refine Go.Fw.al z36 fun w3 hb3 hc3 hs3 => ?_
    refine stw ag36 hb3 rfl rfl (by simp [Value.oneCell', strV]) fun w4 hb4 hc4 hs4 => ?_
    have hc24 : Ch [] w2 w4 := hc3.trans hc4 (by simp)
    have hc14 : Ch LH w1 w4 := hc2.trans hc24 (by simp)
    have h54 := hc14.at_ h51 t5h
    rw [fa_v fo77_2, ld_v sc3 (cells7 h54).2.2.1]
    have hra : LAt w4 r l base most LR := s1.r.ch hc14 (fun x hx hh => s1.d x hh hx)
    refine rremove1_ hra hl4 o.i fun w5 LR' hq5 hc5 hl5 => ?_
    rw [hy, hex, x20, x21]
    rw [hlx] at hq5
    obtain ⟨s5, hc15⟩ := s1.next (A' := A + o.ls.length) hB1 (hq2.ch hc24 (by simp)) hc14 hl2 hq5 hc5 hl5 (by have := s.len; omega) hmo hrs (by omega) (by have := s.b2; omega)
    have h45 := hc5.at_ hb4 (fun hx => by have := s1.r.lt _ hx; have := hc2.size; omega)
    refine Go.Fw.al z36 fun w6 hb6 hc6 hs6 => ?_
    refine stw ag36 hb6 rfl rfl (by simp [Value.oneCell', strV]) fun w7 hb7 hc7 hs7 => ?_
    have hc57 : Ch [] w5 w7 := hc6.trans hc7 (by simp)
    rw [ldw_v ag36 (hc57.at_ h45 (by simp)) rfl, ldw_v ag36 hb7 rfl, v_eq (run_eql36 ..), decide_eq_true rfl, br_true, eq_v, decide_eq_true rfl]
    exact fin w7 b _ _ _ LH' LR' (s5.ch hc57) (hc15.trans hc57 (by simp))
  rw [eq_v]
  refine br_dec _ _ _ (fun hd => ?_) (fun hd => ?_)
  · -- search
    rw [fa_v fo77_2, ld_v sc3 (cells7 h51).2.2.1, fa_v fo77_4, ld_v sc9 (cells7 h51).2.2.2.2.1, fa_v fo77_5, ld_v sc4 (cells7 h51).2.2.2.2.2.1, fa_v fo77_6, ld_v sc4 (cells7 h51).2.2.2.2.2.2]
    refine search_ s1.h hbn hl4 s1.sh hm1 hi ?_
    rw [x30, x31, x32, fa_v fo77_2, ld_v sc3 (cells7 h51).2.2.1, fa_v fo77_4, ld_v sc9 (cells7 h51).2.2.2.2.1, fa_v fo77_5, ld_v sc4 (cells7 h51).2.2.2.2.2.1, fa_v fo77_6, ld_v sc4 (cells7 h51).2.2.2.2.2.2]
    refine rsearch_ s1.r hl4 s1.sh ht hi ?_
    rw [x30, x31, x32, eq_v, decide_eq_true rfl, br_true, eq_v, decide_eq_true rfl, br_true, eqb_v (by kernel_rfl), beq_self_eq_true]
    exact fin w1 b l base most LH LR (same _ (Ch.refl _ _)) (Ch.refl _ _)
  rw [eq_v]
  refine br_dec _ _ _ (fun hd => ?_) (fun hd => ?_)
  · -- clone
    refine pclone_ s1.h hbn (by omega) fun w2 b' LC hq2 hc2 hl2 => ?_
    have s2 := s1.ch hc2
    have h52 := hc2.at_ h51 (by simp)
    rw [fa_v fo77_1, ld_v sc28 (cells7 h52).2.1]
    refine add1_ s2.h (hro1.ch hc2) (by have := hc2.size; omega) hl4 (by omega) hbase hmo fun w3 LH' hq3 hc3 hl3 => ?_
    have h53 := hc3.at_ h52 t5h
    have hal := add_len l o.ls most s.len
    rw [fa_v fo77_2, ld_v sc3 (cells7 h53).2.2.1]
    refine remove1_ hq3 (by omega) (by omega) o.i fun w4 LH2 hq4 hc4 hl4' => ?_
    have hlth := s1.h.lt
    have hlc := hq2.lt
    have hlc' : ∀ x, x ∈ LC → x ∉ LH' := fun x hx hh => by
      have h1 := hl2 x hx
      have h2 := hlc x hx
      rcases hl3 x hh with h | h
      · have := hlth x h; omega
      · omega
    have hcc : HAt w4 b' l base most LC := (hq2.ch hc3 (fun x hx hh => by have := hl2 x hx; have := hlth x hh; omega)).ch hc4 hlc'
    have hc14 : Ch LH w1 w4 := (hc2.nil.trans hc3 (fun x hx => .inl hx)).trans hc4 (fun x hx => by
      rcases hl3 x hx with h | h
      · exact .inl h
      · right; have := hc2.size; omega)
    obtain ⟨s5, hc15⟩ := s1.next (A' := A + o.ls.length) hB1 hcc hc14 (fun x hx => .inr (hl2 x hx)) (s1.r.ch hc14 (fun x hx hh => s1.d x hh hx)) (Ch.refl LR w4) (fun x hx => .inl hx) s.len hmo s.sh (by omega) (by have := s.b2; omega)
    rw [nen_v (by kernel_rfl)]
    exact fin w4 b' _ _ _ LC LR s5 hc15
  · exact fin w1 b l base most LH LR (same _ (Ch.refl _ _)) (Ch.refl _ _)
end
end Go.Proofs.Ytbhgindbdojmmaa
