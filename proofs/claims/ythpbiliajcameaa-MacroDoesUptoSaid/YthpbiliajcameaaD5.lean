import Derived.Test.YthpbiliajcameaaD4
set_option linter.unusedVariables false
set_option maxRecDepth 4000
namespace Go.Proofs.Ythpbiliajcameaa
open Go Go.Fw Go.Proofs Go.RowKit
section
variable {w : World} {K : Value → World → Prop}
theorem ixr_p {P : Program} {t e s B n j : Nat} {v : Value} {xs : List Value} {u : Value} {k : IntKind} {i : Int} {K : Value → World → Prop} (ht : elT P t = some (e, 1)) (hs : scal P s = true) (h : Rd w B 1 v n xs) (hi : i = j) (hj : xs[j]? = some u) :
    S.p P (Instr.indexAt t v (.int k i)) (fun p w => S.p P (Instr.loadAt s p) K w) w = K u w := by
  subst hi
  obtain ⟨A, c, rfl, h2, h3, _⟩ := h.form
  obtain ⟨g, off, rfl, hc⟩ := h.at_ hj
  have hlt := (List.getElem?_eq_some_iff.1 hj).1
  rw [h.len, Nat.mul_one] at hlt
  rw [ia_p ht (by omega) (by omega), Int.toNat_natCast, Nat.mul_one, ld_p hs hc]
theorem pback_ {b B : Nat} {ty bs : Bs} {ms : List Bs} {run : Nat} {L : List Nat} {src : Value} (hq : RQ w b ty ms run L) (hs : RB w B src bs) (hl : ty.length ≤ 65536) (ht : total ms + bs.length ≤ 1099511627776) (hms : ms.length ≤ 1048576)
    (k : ∀ w' L', RQ w' b (backM ty ms run bs).2.1 (backM ty ms run bs).2.2 run L' → Ch L w w' → (∀ x, x ∈ L' → x ∈ L ∨ w.heap.size ≤ x) → K (I64 (backM ty ms run bs).1) w') : S.call Try.prog 31 [PT b, src] K w := by
  obtain ⟨tv, mv, hs', Lt, Lm, Lh, h1, h2, h3, h4, h5⟩ := hq.ex
  subst h5
  have hs0 := hs
  have h2' := h2
  have h3' := h3
  have hnd := hq.nodup
  have hlt := hq.lt
  obtain ⟨A, c, rfl, _⟩ := hs.form
  obtain ⟨Am, cm, rfl, hcm1, hcm2⟩ := h3.shape
  obtain ⟨At, ct, rfl, _⟩ := Own.shape h2
  have hbw := hlt b (by simp)
  refine F31_link ?_
  unfold F31
  rw [nilC_v, fa_v fo44_0, ld_v sc32 (cells3 h1).1, len_v el32, gt_v]
  refine br_dec _ _ _ (fun hge => ?_) (fun hge => ?_)
  · rcases snoc_cases ms with rfl | ⟨r, m, rfl⟩
    · simp at hge
    rw [backM_snoc] at k
    obtain ⟨hs1, hh, L0, L1, rfl, rfl, he0, hbm⟩ := HE.unsnoc h4
    have hrl : hs1.length = r.length := he0.len
    have hlen : (r ++ [m]).length = r.length + 1 := by simp
    rw [hlen] at h1 h3 h3'
    have htot : total (r ++ [m]) = total r + m.length := by rw [total_append]; simp [total]
    rw [htot] at ht
    rw [hlen] at hms
    refine drawn_ok fun w1 hc1 hs1' => ?_
    have h11 := hc1.at_ h1 (by simp)
    have h31 := h3'.ch hc1 (by simp)
    have h21 := Own.ch h2' hc1 (by simp)
    have hbm1 : BS w1 hh m L1 := Own.ch hbm hc1 (by simp)
    have he01 := he0.ch hc1 (by simp)
    obtain ⟨g, off, c1, hA, hLm, _⟩ := h31.some_ (by omega)
    injection hA with hA _ hA2
    subst hA hA2 hLm
    have hget : (hs1 ++ [hh])[r.length]? = some hh := by rw [← hrl]; simp
    have hgs : g < w.heap.size := hlt g (by simp)
    rw [hlen]
    refine ⟨fun w' => Ch [] w1 w', Ch.refl _ _, ?_⟩
    have hsub : ∀ w', (S.bin .sub 3 (.tmp 17) (.const (I64 1)) (I64 ((r.length + 1 : Nat) : Int)) (I64 1)).run Try.prog w' = .ok (I64 r.length) w' := fun w' => by
      rw [run_sub, wrap_i64 (by omega) (by omega)]; congr 2; omega
    have hsub' : ∀ w', (S.bin .sub 3 (.tmp 24) (.const (I64 1)) (I64 ((r.length + 1 : Nat) : Int)) (I64 1)).run Try.prog w' = .ok (I64 r.length) w' := fun w' => by
      rw [run_sub, wrap_i64 (by omega) (by omega)]; congr 2; omega
    have hia : ∀ w', (Instr.indexAt 32 (.slice (some ⟨g, off, none⟩) (r.length + 1) cm) (I64 r.length)).run Try.prog w' = .ok (.pointer (some ⟨g, off + r.length, none⟩)) w' := fun w' => by
      have := run_ia (P := Try.prog) (w := w') (g := g) (off := off) (c := cm) el32 .i64 (r.length : Int) (n := r.length + 1) (by omega) (by omega)
      rwa [Int.toNat_natCast, Nat.mul_one] at this
    refine h_ok (x := PT b) (fun w' hw => run_nilC _) ?_
    refine h_ok (x := PT b) (fun w' hw => run_fa fo44_0) ?_
    refine h_ok (x := .slice (some ⟨g, off, none⟩) (r.length + 1) cm) (fun w' hw => run_ld sc32 (cells3 (hw.at_ h11 (by simp))).1) ?_
    refine h_ok (x := I64 r.length) (fun w' hw => hsub w') ?_
    refine h_ok (x := PT b) (fun w' hw => run_nilC _) ?_
    refine h_ok (x := PT b) (fun w' hw => run_fa fo44_0) ?_
    refine h_ok (x := .slice (some ⟨g, off, none⟩) (r.length + 1) cm) (fun w' hw => run_ld sc32 (cells3 (hw.at_ h11 (by simp))).1) ?_
    refine h_ok (x := I64 r.length) (fun w' hw => hsub' w') ?_
    refine h_ok (x := .pointer (some ⟨g, off + r.length, none⟩)) (fun w' hw => hia w') ?_
    refine h_ok (x := hh) (fun w' hw => run_ld sc22 (hw.cell (Own.cell h31 hget) (by simp))) ?_
    refine rjoin_ (Rd.ch hs0 hc1 (by simp)) (Own.rd hbm1) (by omega) fun v2 w2 L2 ho2 hc2 hl2 => ⟨hc2, ?_⟩
    refine h_ok (x := .pointer (some ⟨g, off + r.length, none⟩)) (fun w' hw => hia w') ?_
    have ho2' := ho2
    obtain ⟨A2, c2, rfl, _⟩ := Own.shape ho2
    refine sto sc22 (h31.ch hc2 (by simp)) (by omega) rfl fun w3 ho3 hc3 hs3 => ?_
    have hset : (hs1 ++ [hh]).set r.length (.slice A2 (bs ++ m).length c2) = hs1 ++ [.slice A2 (bs ++ m).length c2] := by rw [← hrl]; simp
    rw [hset] at ho3
    have hc01 : Ch [] w w2 := hc1.trans hc2 (by simp)
    have hsz2 := hc01.size
    have hl2' : ∀ x, x ∈ L2 → w.heap.size ≤ x := fun x hx => by have := hl2 x hx; omega
    have hgb : b ≠ g := fun e => by subst e; simp at hnd
    have hdg : ∀ x, x ∈ Lt ++ L0 → x ≠ g := by
      intro x hx e
      subst e
      simp only [List.nodup_cons, List.mem_append, List.mem_cons, List.nodup_append, not_or] at hnd
      grind
    refine k w3 (b :: (Lt ++ ([g] ++ (L0 ++ L2)))) ⟨⟨.slice At ty.length ct, .slice (some ⟨g, off, none⟩) (r.length + 1) cm, hs1 ++ [.slice A2 (bs ++ m).length c2], Lt, [g], L0 ++ L2, ?_, ?_, ?_, ?_, rfl⟩, ?_⟩ ?_ ?_
    · exact hc3.at_ (hc2.at_ h11 (by simp)) (by simpa using hgb)
    · exact Own.ch (Own.ch h21 hc2 (by simp)) hc3 (fun x hx => by simpa using hdg x (by simp [hx]))
    · rw [show (r ++ [bs ++ m]).length = r.length + 1 from by simp]
      exact ho3
    · exact HE.snoc (Own.ch ho2' hc3 (fun x hx hm => by simp at hm; have := hl2' x hx; omega)) ((he01.ch hc2 (by simp)).ch hc3 (fun x hx => by simpa using hdg x (by simp [hx])))
    · have := nodup_swap (A := b :: (Lt ++ ([g] ++ L0))) (X := L1) (Y := L2) (B := []) (n := w.heap.size) (by simpa using hnd) (by simpa using hlt) ho2.nodup (fun x hx => .inr (hl2' x hx))
      simpa using this
    · exact (hc01.nil).trans hc3 (by simp)
    · intro x hx
      simp only [List.mem_cons, List.mem_append] at hx ⊢
      grind
  · have hm0 : ms = [] := List.eq_nil_of_length_eq_zero (by omega)
    subst hm0
    rw [backM_none] at k
    have hhs : hs' = [] := List.eq_nil_of_length_eq_zero (by rw [h4.len]; rfl)
    subst hhs
    have hLh : Lh = [] := h4
    subst hLh
    have typed : ¬ (0 < run ∧ bs ≠ []) → S.v Try.prog (Builtin.len_ #[22] 3 #[.slice A bs.length c]) (fun t47 w => S.v Try.prog (S.nilC (PT b)) (fun t49 w => S.v Try.prog (Instr.fieldAt 44 t49 1) (fun t50 w => S.v Try.prog (Instr.loadAt 22 t50) (fun t51 w => S.v Try.prog (Builtin.len_ #[22] 3 #[t51]) (fun t52 w => S.v Try.prog (S.bin .sub 3 (.const (I64 65536)) (.tmp 52) (I64 65536) t52) (fun t53 w => S.v Try.prog (S.bin .gtr 3 (.tmp 47) (.tmp 53) t47 t53)
        (fun t54 w => br t54 (K (I64 3) w) (S.v Try.prog (S.nilC (PT b)) (fun t58 w => S.v Try.prog (Instr.fieldAt 44 t58 1) (fun t59 w => S.v Try.prog (Instr.loadAt 22 t59) (fun t60 w => S.call Try.prog 42 [.slice A bs.length c, t60] (fun t61 w => S.v Try.prog (S.nilC (PT b)) (fun t62 w => S.v Try.prog (Instr.fieldAt 44 t62 1) (fun t63 w => S.u Try.prog (Instr.storeAt 22 t63 t61) (fun w => K (I64 0) w) w) w) w) w) w) w) w)) w) w) w) w) w) w) w := by
      intro hnot
      rw [if_neg hnot] at k
      rw [len_v el22, nilC_v, fa_v fo44_1, ld_v sc22 (cells3 h1).2.1, len_v el22, sub_v, wrap_i64 (by omega) (by omega), gt_v]
      refine br_dec _ _ _ (fun hgt => ?_) (fun hle => ?_)
      · rw [if_pos (by omega)] at k
        exact k w _ hq (Ch.refl _ _) (fun x hx => .inl hx)
      · rw [if_neg (by omega)] at k
        rw [nilC_v, fa_v fo44_1, ld_v sc22 (cells3 h1).2.1]
        refine rjoin_ hs0 (Own.rd h2') (by omega) fun v1 w1 L1 ho1 hc1 hl1 => ?_
        have h11 := hc1.at_ h1 (by simp)
        have ho1' := ho1
        obtain ⟨A1, c1, rfl, _⟩ := Own.shape ho1
        rw [nilC_v, fa_v fo44_1]
        refine st sc22 h11 (by simp) rfl fun w2 hb2 hc2 hs2 => ?_
        refine k w2 (b :: (L1 ++ (Lm ++ []))) ⟨⟨_, _, [], L1, Lm, [], hb2, ?_, ?_, rfl, rfl⟩, ?_⟩ ((hc1.nil).trans hc2 (by simp)) ?_
        · exact Own.ch ho1' hc2 (fun x hx hm => by simp at hm; have := hl1 x hx; omega)
        · exact (h3'.ch hc1 (by simp)).ch hc2 (fun x hx hm => by simp at hm; subst hm; simp at hnd; exact hnd.1.2 hx)
        · exact nodup_swap (A := [b]) (X := Lt) (Y := L1) (B := Lm ++ []) (n := w.heap.size) hnd hlt ho1'.nodup (fun x hx => .inr (hl1 x hx))
        · intro x hx
          simp only [List.mem_cons, List.mem_append, List.not_mem_nil, or_false] at hx ⊢
          rcases hx with rfl | hx | hx
          · exact .inl (.inl rfl)
          · right; exact hl1 x hx
          · exact .inl (.inr (.inr hx))
    rw [nilC_v, fa_v fo44_2, ld_v sc3 (cells3 h1).2.2, gt_v]
    refine br_dec _ _ _ (fun hr => ?_) (fun hr => ?_)
    · rw [len_v el22, gt_v]
      refine br_dec _ _ _ (fun hp => ?_) (fun hp => ?_)
      · have hbn : bs ≠ [] := fun e => by subst e; simp at hp
        rw [if_pos ⟨by omega, hbn⟩] at k
        have hnil : RB w 0 (.slice none 0 0) [] := ⟨rfl, none, 0, rfl, Nat.le_refl _, Nat.zero_le _, fun h => absurd h (by simp), fun b off h => by cases h⟩
        refine rjoin_ hnil hs0 (by simp; omega) fun v1 w1 L1 ho1 hc1 hl1 => ?_
        rw [List.nil_append] at ho1
        have ho1' := ho1
        obtain ⟨A1, c1, rfl, _⟩ := Own.shape ho1
        refine bs1 sl32 rfl rfl fun w2 ho2 hc2 hs2 => ?_
        have hc02 : Ch [] w w2 := hc1.trans hc2 (by simp)
        have h12 := hc02.at_ h1 (by simp)
        rw [nilC_v, fa_v fo44_0]
        refine st sc32 h12 (by simp) rfl fun w3 hb3 hc3 hs3 => ?_
        have hsz1 := hc1.size
        have l1 := Own.lt ho1'
        refine k w3 (b :: (Lt ++ ([w1.heap.size] ++ L1))) ⟨⟨_, _, [.slice A1 bs.length c1], Lt, [w1.heap.size], L1, hb3, ?_, ?_, ?_, rfl⟩, ?_⟩ ((hc02.nil).trans hc3 (by simp)) ?_
        · exact Own.ch (Own.ch h2' hc02 (by simp)) hc3 (fun x hx hm => by simp at hm; subst hm; simp at hnd; exact hnd.1.1 hx)
        · exact ho2.ch hc3 (by simp; omega)
        · exact ⟨L1, [], by simp, Own.ch (Own.ch ho1' hc2 (by simp)) hc3 (fun x hx hm => by simp at hm; have := hl1 x hx; omega), rfl⟩
        · have hn1 : ([w1.heap.size] ++ L1).Nodup := by
            simp only [List.singleton_append, List.nodup_cons]
            exact ⟨fun hm => by have := l1 _ hm; omega, ho1'.nodup⟩
          have := nodup_swap (A := b :: Lt) (X := Lm) (Y := [w1.heap.size] ++ L1) (B := []) (n := w.heap.size) (by simpa using hnd) (by simpa using hlt) hn1 (fun x hx => .inr (by
            simp only [List.singleton_append, List.mem_cons] at hx
            rcases hx with rfl | hx
            · omega
            · exact hl1 x hx))
          simpa using this
        · intro x hx
          simp only [List.mem_cons, List.mem_append, List.not_mem_nil, or_false] at hx ⊢
          rcases hx with rfl | hx | rfl | hx
          · exact .inl (.inl rfl)
          · exact .inl (.inr (.inl hx))
          · right; omega
          · right; exact hl1 x hx
      · exact typed (fun h => h.2 (List.eq_nil_of_length_eq_zero (by omega)))
    · exact typed (fun h => hr (by omega))
theorem pnext_ {b : Nat} {ty : Bs} {ms : List Bs} {run : Nat} {L : List Nat} (hq : RQ w b ty ms run L) (hms : ms.length ≤ 1048576) (hne : ∀ m, m ∈ ms → m ≠ [])
    (k : ∀ w' L', RQ w' b (nextM ty ms run).2.1 (nextM ty ms run).2.2.1 (nextM ty ms run).2.2.2 L' → Ch L w w' → (∀ x, x ∈ L' → x ∈ L ∨ w.heap.size ≤ x) → K (B3 (nextM ty ms run).1.1 (nextM ty ms run).1.2.1 (nextM ty ms run).1.2.2) w') : S.call Try.prog 32 [PT b] K w := by
  refine F32_link ?_
  unfold F32
  refine seq_ok fun J hJ => ?_
  suffices hj : ∀ x w' ms1 L1, RQ w' b ty ms1 run L1 → (if 256 ≤ run then [] else ms) = ms1 → Ch L w w' → (∀ x, x ∈ L1 → x ∈ L) → J [x] w' by
    obtain ⟨tv, mv, hs', Lt, Lm, Lh, h1, h2, h3, h4, h5⟩ := hq.ex
    subst h5
    have hnd := hq.nodup
    rw [nilC_v, fa_v fo44_2, ld_v sc3 (cells3 h1).2.2, ge_v]
    refine br_dec _ _ _ (fun hge => ?_) (fun hge => ?_)
    · rw [nilC_v, fa_v fo44_0]
      refine st sc32 h1 (by simp) rfl fun w2 hb2 hc2 hs2 => ?_
      refine hj _ w2 [] (b :: (Lt ++ ([] ++ []))) ⟨⟨_, _, [], Lt, [], [], hb2, ?_, Own.nil _ _ _, rfl, rfl⟩, ?_⟩ (if_pos (by omega)) (hc2.mono (by simp)) ?_
      · exact Own.ch h2 hc2 (fun x hx hm => by simp at hm; subst hm; simp at hnd; exact hnd.1.1 hx)
      · simp only [List.nodup_cons, List.mem_append, List.nodup_append, not_or, List.append_nil] at hnd ⊢
        exact ⟨hnd.1.1, hnd.2.1⟩
      · intro x hx
        simp only [List.mem_cons, List.mem_append, List.append_nil] at hx ⊢
        grind
    · exact hj _ w ms _ hq (if_neg (by omega)) (Ch.refl _ _) (fun x hx => hx)
  intro xb w1 ms1 L1 hq1 hms1 hc01 hsub1
  refine hJ _ _ ?_
  clear hJ
  obtain ⟨tv, mv, hs', Lt, Lm, Lh, h1, h2, h3, h4, h5⟩ := hq1.ex
  subst h5
  have h2' := h2
  have h3' := h3
  have hnd := hq1.nodup
  have hlt := hq1.lt
  have hsz01 := hc01.size
  have hlen1 : ms1.length ≤ 1048576 := by
    rw [← hms1]
    split
    · exact Nat.zero_le _
    · exact hms
  obtain ⟨Am, cm, rfl, hcm1, hcm2⟩ := h3.shape
  have hbw := hlt b (by simp)
  rw [nilC_v, fa_v fo44_0, ld_v sc32 (cells3 h1).1, len_v el32, gt_v]
  refine br_dec _ _ _ (fun hp => ?_) (fun hp => ?_)
  · have hr : ¬ 256 ≤ run := fun h => by rw [if_pos h] at hms1; subst hms1; simp at hp
    rw [if_neg hr] at hms1
    subst hms1
    rcases snoc_cases ms with rfl | ⟨r, x, rfl⟩
    · simp at hp
    have hx := hne x (by simp)
    match x, hx with
    | c :: m, _ =>
    rw [nextM_mac ty r c m (by omega)] at k
    obtain ⟨hs1, hh, L0, L1, rfl, rfl, he0, hbm⟩ := HE.unsnoc h4
    have hrl : hs1.length = r.length := he0.len
    have hlen : (r ++ [c :: m]).length = r.length + 1 := by simp
    rw [hlen] at h1 h3 h3' hlen1
    have hget : (hs1 ++ [hh])[r.length]? = some hh := by rw [← hrl]; simp
    have hcell : (bytesV (c :: m))[0]? = some (byteV c) := rfl
    have hi : ((r ++ [c :: m]).length : Int) - 1 = r.length := by rw [hlen]; omega
    rw [nilC_v, fa_v fo44_0, ld_v sc32 (cells3 h1).1, sub_v, wrap_i64 (by omega) (by omega), hi, ixr_v (j := r.length) el32 sc22 (Own.rd h3') rfl hget, ixr_v (i := 0) (j := 0) el22 sc5 (Own.rd hbm) rfl hcell]
    refine drawn_ok fun w2 hc2 hs2 => ?_
    have h12 := hc2.at_ h1 (by simp)
    have h32 := h3'.ch hc2 (by simp)
    have h22 : BS w2 tv ty Lt := Own.ch h2' hc2 (by simp)
    have hbm2 : BS w2 hh (c :: m) L1 := Own.ch hbm hc2 (by simp)
    have he02 := he0.ch hc2 (by simp)
    have hbm2' := hbm2
    obtain ⟨Ah, ch, rfl, hch1, hch2⟩ := Own.shape hbm2
    obtain ⟨g, off, c1, hA, hLm, _⟩ := h32.some_ (by omega)
    injection hA with hA _ hA2
    subst hA hA2 hLm
    rw [nilC_p, fa_p fo44_0, ld_p sc32 (cells3 h12).1, sub_p, wrap_i64 (by omega) (by omega), hi, nilC_p, fa_p fo44_0, ld_p sc32 (cells3 h12).1, sub_p, wrap_i64 (by omega) (by omega), hi, ixr_p (j := r.length) el32 sc22 (Own.rd h32) rfl hget, cutl_p (i := 1) el22 1 rfl (by simp) hch1, ia_p el32 (by omega) (by omega), Int.toNat_natCast, Nat.mul_one]
    have hcut := Own.cut hbm2' (l := 1) (u := (c :: m).length) (by simp) (Nat.le_refl _)
    refine sto sc22 h32 (by omega) rfl fun w3 ho3 hc3 hs3 => ?_
    have hset : (hs1 ++ [Value.slice Ah (c :: m).length ch]).set r.length (cutS 1 Ah ch 1 (c :: m).length) = hs1 ++ [cutS 1 Ah ch 1 (c :: m).length] := by rw [← hrl]; simp
    rw [hset] at ho3
    have hgb : b ≠ g := fun e => by subst e; simp at hnd
    have hdg : ∀ x, x ∈ Lt ++ (L0 ++ L1) → x ≠ g := by
      intro x hx e
      subst e
      simp only [List.nodup_cons, List.mem_append, List.mem_cons, List.nodup_append, not_or] at hnd
      grind
    have hq3 : RQ w3 b ty (r ++ [m]) run (b :: (Lt ++ ([g] ++ (L0 ++ L1)))) := by
      refine ⟨⟨tv, .slice (some ⟨g, off, none⟩) (r.length + 1) cm, hs1 ++ [cutS 1 Ah ch 1 (c :: m).length], Lt, [g], L0 ++ L1, hc3.at_ h12 (by simpa using hgb), ?_, ?_, ?_, rfl⟩, hnd⟩
      · exact Own.ch h22 hc3 (fun x hx => by simpa using hdg x (by simp [hx]))
      · rw [show (r ++ [m]).length = r.length + 1 from by simp]; exact ho3
      · refine HE.snoc ?_ (he02.ch hc3 (fun x hx => by simpa using hdg x (by simp [hx])))
        have := Own.ch hcut hc3 (fun x hx => by simpa using hdg x (by simp [hx]))
        have e : ((bytesV (c :: m)).drop (1 * 1)).take (((c :: m).length - 1) * 1) = bytesV m := by simp [bytesV, List.take_of_length_le]
        rw [e] at this
        exact this
    have hc13 : Ch (b :: (Lt ++ ([g] ++ (L0 ++ L1)))) w1 w3 := (hc2.nil).trans hc3 (by simp)
    refine clean_ hq3 (by simp; omega) fun w4 L4 hq4 hc4 hl4 => ?_
    rw [full_snoc (fun y hy => hne y (by simp [hy]))] at hq4
    obtain ⟨tv4, mv4, hs4, Lt4, Lm4, Lh4, g1, g2, g3, g4, g5⟩ := hq4.ex
    subst g5
    have hnd4 := hq4.nodup
    rw [nilC_v, fa_v fo44_2, ld_v sc3 (cells3 g1).2.2, add_v, wrap_i64 (by omega) (by omega), nilC_v, fa_v fo44_2]
    refine st sc3 g1 (by simp) rfl fun w5 hb5 hc5 hs5 => ?_
    have hd4 : ∀ x, x ∈ Lt4 ++ (Lm4 ++ Lh4) → x ∉ [b] := fun x hx hm => by
      simp only [List.mem_cons, List.not_mem_nil, or_false] at hm
      subst hm
      exact (List.nodup_cons.1 hnd4).1 hx
    have hsz13 := hc13.size
    refine k w5 (b :: (Lt4 ++ (Lm4 ++ Lh4))) ⟨⟨tv4, mv4, hs4, Lt4, Lm4, Lh4, hb5, Own.ch g2 hc5 (fun x hx => hd4 x (by simp [hx])), g3.ch hc5 (fun x hx => hd4 x (by simp [hx])), g4.ch hc5 (fun x hx => hd4 x (by simp [hx])), rfl⟩, hnd4⟩ ?_ ?_
    · exact ((hc01.trans hc13 (fun x hx => .inl (hsub1 x hx))).trans hc4 (fun x hx => .inl (hsub1 x hx))).trans hc5 (fun x hx => by
        simp at hx; subst hx; exact .inl (hsub1 _ (by simp)))
    · intro x hx
      rcases hl4 x hx with h | h
      · exact .inl (hsub1 x h)
      · right; omega
  · have hm0 : ms1 = [] := List.eq_nil_of_length_eq_zero (by omega)
    subst hm0
    have hrest : 256 ≤ run ∨ ms = [] := by
      by_cases h : 256 ≤ run
      · exact .inl h
      · rw [if_neg h] at hms1; exact .inr hms1
    rw [nextM_rest hrest] at k
    have hhs : hs' = [] := List.eq_nil_of_length_eq_zero (by rw [h4.len]; rfl)
    subst hhs
    have hLh : Lh = [] := h4
    subst hLh
    obtain ⟨At, ct, rfl, hct1, hct2⟩ := Own.shape h2
    rw [nilC_v, fa_v fo44_1, ld_v sc22 (cells3 h1).2.1, len_v el22, eq_v]
    refine br_dec _ _ _ (fun h0 => ?_) (fun h0 => ?_)
    · have ht0 : ty = [] := List.eq_nil_of_length_eq_zero (by omega)
      subst ht0
      exact k w1 _ hq1 hc01 (fun x hx => .inl (hsub1 x hx))
    · match ty, h0 with
      | c :: t, _ =>
      have hcell : (bytesV (c :: t))[0]? = some (byteV c) := rfl
      rw [nilC_v, fa_v fo44_1, ld_v sc22 (cells3 h1).2.1, ixr_v (i := 0) (j := 0) el22 sc5 (Own.rd h2') rfl hcell, nilC_v, fa_v fo44_1, ld_v sc22 (cells3 h1).2.1, cutl_v (i := 1) el22 1 rfl (by simp) hct1, nilC_v, fa_v fo44_1]
      have hcut := Own.cut h2' (l := 1) (u := (c :: t).length) (by simp) (Nat.le_refl _)
      have e : ((bytesV (c :: t)).drop (1 * 1)).take (((c :: t).length - 1) * 1) = bytesV t := by simp [bytesV, List.take_of_length_le]
      rw [e] at hcut
      have hcut' : BS w1 (cutS 1 At ct 1 (c :: t).length) t Lt := hcut
      have hcut0 := hcut'
      obtain ⟨A2, c2, hA2, _⟩ := Own.shape hcut0
      rw [hA2] at hcut' ⊢
      refine st sc22 h1 (by simp) rfl fun w2 hb2 hc2 hs2 => ?_
      rw [nilC_v, fa_v fo44_2]
      refine st sc3 hb2 (by simp) rfl fun w3 hb3 hc3 hs3 => ?_
      have hd : ∀ x, x ∈ Lt ++ (Lm ++ []) → x ∉ [b] := fun x hx hm => by
        simp only [List.mem_cons, List.not_mem_nil, or_false] at hm
        subst hm
        exact (List.nodup_cons.1 hnd).1 hx
      refine k w3 (b :: (Lt ++ (Lm ++ []))) ⟨⟨_, _, [], Lt, Lm, [], hb3, Own.ch (Own.ch hcut' hc2 (fun x hx => hd x (by simp [hx]))) hc3 (fun x hx => hd x (by simp [hx])), (h3'.ch hc2 (fun x hx => hd x (by simp [hx]))).ch hc3 (fun x hx => hd x (by simp [hx])), rfl, rfl⟩, hnd⟩ ?_ (fun x hx => .inl (hsub1 x hx))
      exact (hc01.trans hc2 (fun x hx => by simp at hx; subst hx; exact .inl (hsub1 _ (by simp)))).trans hc3 (fun x hx => by simp at hx; subst hx; exact .inl (hsub1 _ (by simp)))
end
end Go.Proofs.Ythpbiliajcameaa
