import Derived.Test.YtjaoeipfiodnfaaDoorBL
set_option linter.unusedVariables false
set_option maxRecDepth 4000
namespace Go.Proofs.YtjaoeipfiodnfaaDoor
open Go Go.Fw Go.Proofs Go.RowKit
/-! ### TparmPlain -/
def errN (e : Int) : Prop := e = 0 ∨ e = 3 ∨ e = 41
def okD (D : Int × MS) : Prop := errN D.1 ∧ D.2.out.length ≤ 16384
theorem okD_ite {p : Prop} [Decidable p] {a b : Int × MS} (h1 : okD a) (h2 : okD b) : okD (if p then a else b) := by
  by_cases h : p
  · rw [if_pos h]; exact h1
  · rw [if_neg h]; exact h2
theorem push_okD {s : MS} (h : s.out.length ≤ 16384) (p : Par) : okD (pushR s p) := by
  unfold pushR
  split
  · exact ⟨.inr (.inr rfl), h⟩
  · exact ⟨.inl rfl, h⟩
theorem write_okD {s : MS} (h : s.out.length ≤ 16384) (t : List UInt8) : okD (writeR s t) := by
  unfold writeR
  split
  · exact ⟨.inr (.inl rfl), h⟩
  · refine ⟨.inl rfl, ?_⟩
    show (s.out ++ t).length ≤ 16384
    rw [List.length_append]
    omega
theorem does_okD (x : Code) {s : MS} (h : s.out.length ≤ 16384) : okD (doesR x s) := by
  have h1 : (popR s).2.out.length ≤ 16384 := by rw [pop_out]; exact h
  have h2 : (popR (popR s).2).2.out.length ≤ 16384 := by rw [pop_out]; exact h1
  unfold doesR
  exact okD_ite (write_okD h _) (okD_ite (write_okD h1 _) (okD_ite (write_okD h1 _) (okD_ite ⟨.inl rfl, h⟩ (okD_ite (push_okD h _) (okD_ite ⟨.inl rfl, h1⟩ (okD_ite (push_okD h _) (okD_ite (push_okD h _)
    (okD_ite (push_okD h1 _) (okD_ite (push_okD h1 _) (okD_ite (push_okD h1 _) (push_okD h2 _)))))))))))
def okR (R : Int × Nat × MS) : Prop := errN R.1 ∧ R.2.2.out.length ≤ 16384
theorem okR_ite {p : Prop} [Decidable p] {a b : Int × Nat × MS} (h1 : okR a) (h2 : okR b) : okR (if p then a else b) := by
  by_cases h : p
  · rw [if_pos h]; exact h1
  · rw [if_neg h]; exact h2
theorem run_okR : ∀ (n : Nat) (t : List Code) (o : Nat) (s : MS), s.out.length ≤ 16384 → okR (runF n t o s)
  | 0, t, o, s, h => ⟨.inl rfl, h⟩
  | n + 1, [], o, s, h => ⟨.inl rfl, h⟩
  | n + 1, x :: r, o, s, h => by
    have h1 : (popR s).2.out.length ≤ 16384 := by rw [pop_out]; exact h
    have hd := does_okD x h
    simp only [runF]
    exact okR_ite (run_okR n _ _ _ h) (okR_ite (run_okR n _ _ _ h) (okR_ite (okR_ite (okR_ite (run_okR n _ _ _ h1) (run_okR n _ _ _ h1)) (run_okR n _ _ _ h)) (okR_ite (okR_ite (run_okR n _ _ _ h) (run_okR n _ _ _ h))
      (okR_ite (run_okR n _ _ _ hd.2) ⟨hd.1, hd.2⟩))))
theorem cap_len (s : List UInt8) (f : UInt8 → Option Par) (ps : List Par) : (capRun s f ps).1.length ≤ 16384 := by
  have h := run_okR (capE s).1.length (capE s).1 0 (run0 f ps) (by simp [run0])
  unfold capRun
  repeat' split
  all_goals first | exact h.2 | simp
theorem parseF_at : ∀ (d n : Nat) (r : List UInt8), (∀ x, x ∈ (parseF d n r).1 → x.at' ≤ n + r.length) ∧ (∀ m, (parseF d n r).2 = some m → m ≤ n + r.length)
  | 0, n, r => by simp [parseF]
  | d + 1, n, [] => by simp [parseF]
  | d + 1, n, a :: t => by
    cases ho : oneR (a :: t) with
    | none =>
      have e : parseF (d + 1) n (a :: t) = ([], some n) := by simp only [parseF, ho]
      rw [e]
      exact ⟨fun x hx => (by cases hx), fun m hm => (by injection hm with hm; omega)⟩
    | some q =>
      obtain ⟨x, r'⟩ := q
      have hlt := oneR_len ho
      obtain ⟨h1, h2⟩ := parseF_at d (n + ((a :: t).length - r'.length)) r'
      simp only [parseF, ho]
      refine ⟨fun y hy => ?_, fun m hm => ?_⟩
      · simp only [List.mem_cons] at hy
        rcases hy with rfl | hy
        · simp
        · have := h1 y hy
          omega
      · have := h2 m hm
        omega
theorem behind_mem (e : Bool) : ∀ (t : List Code) (d : Nat) (y : Code), y ∈ behindS e d t → y ∈ t
  | [], d, y, h => by simp [behindS] at h
  | x :: r, d, y, h => by
    unfold behindS at h
    repeat' split at h
    all_goals first | exact h | exact List.mem_cons_of_mem _ h | exact List.mem_cons_of_mem _ (behind_mem e r _ y h)
theorem at_ite {B : Nat} {p : Prop} [Decidable p] {a b : Int × Nat × MS} (h1 : a.2.1 ≤ B) (h2 : b.2.1 ≤ B) : (if p then a else b).2.1 ≤ B := by
  by_cases h : p
  · rw [if_pos h]; exact h1
  · rw [if_neg h]; exact h2
theorem run_at (B : Nat) : ∀ (n : Nat) (t : List Code) (o : Nat) (s : MS), (∀ x, x ∈ t → x.at' ≤ B) → (runF n t o s).2.1 ≤ B
  | 0, t, o, s, h => Nat.zero_le _
  | n + 1, [], o, s, h => Nat.zero_le _
  | n + 1, x :: r, o, s, h => by
    have hr : ∀ y, y ∈ r → y.at' ≤ B := fun y hy => h y (List.mem_cons_of_mem _ hy)
    have hb : ∀ e, ∀ y, y ∈ behindS e 0 r → y.at' ≤ B := fun e y hy => hr y (behind_mem e r 0 y hy)
    simp only [runF]
    exact at_ite (run_at B n _ _ _ hr) (at_ite (run_at B n _ _ _ hr) (at_ite (at_ite (at_ite (run_at B n _ _ _ (hb _)) (run_at B n _ _ _ hr)) (run_at B n _ _ _ hr)) (at_ite (at_ite (run_at B n _ _ _ (hb _)) (run_at B n _ _ _ hr))
      (at_ite (run_at B n _ _ _ hr) (h x (by simp))))))
theorem cap_at {s : List UInt8} (hs : s.length ≤ 4096) (f : UInt8 → Option Par) (ps : List Par) : (capRun s f ps).2.1 ≤ 4096 := by
  obtain ⟨h1, h2⟩ := parseF_at s.length 0 s
  have hE : (∀ x, x ∈ (capE s).1 → x.at' ≤ 4096) ∧ (capE s).2.1 ≤ 4096 := by
    unfold capE
    rw [if_neg (by omega)]
    unfold parseR
    cases hp : (parseF s.length 0 s).2 with
    | none => exact ⟨fun x hx => by have := h1 x hx; omega, Nat.zero_le _⟩
    | some m => exact ⟨fun x hx => by simp at hx, by have := h2 m hp; show m ≤ 4096; omega⟩
  have h := run_at 4096 (capE s).1.length (capE s).1 0 (run0 f ps) hE.1
  unfold capRun
  repeat' split
  all_goals first | exact hE.2 | exact h | simp
/-- What the law asks of the two answers. -/
structure PlainOk (pl : List UInt8) (A B : List UInt8 × Nat × Int) : Prop where
  ok : A.2.2 = 0 → B.2.2 = 0 ∧ B.1 = pl ++ A.1 ∧ B.2.1 = 0
  bad : A.2.2 = 40 ∨ A.2.2 = 41 → (B.2.2 = A.2.2 ∧ B.2.1 = A.2.1 + pl.length ∧ B.1 = []) ∨ B.2.2 = 3
  long : A.2.2 = 3 → B.2.2 = 3
  rest : A.2.2 ≠ 0 → A.2.2 ≠ 40 → A.2.2 ≠ 41 → A.2.2 ≠ 3 → B.2.2 = A.2.2
theorem plain_law {pl s : List UInt8} {f : UInt8 → Option Par} {ps : List Par} (hn : (37 : UInt8) ∉ pl) (hl : pl.length + s.length ≤ 4096) (hr : pl.length + (capRun s f ps).1.length ≤ 16384) : PlainOk pl (capRun s f ps) (capRun (pl ++ s) f ps) := by
  have hL := parseA_lits pl 0 s hn
  have hS := parseA_shift pl.length 0 s
  rw [Nat.zero_add] at hL hS
  rw [hS] at hL
  simp only at hL
  have hE1 : capE s = match (parseA 0 s).2 with
    | none => ((parseA 0 s).1, 0, 0)
    | some n => ([], n, 40) := by unfold capE; rw [if_neg (by omega)]; rfl
  have hE2 : capE (pl ++ s) = match (parseA 0 (pl ++ s)).2 with
    | none => ((parseA 0 (pl ++ s)).1, 0, 0)
    | some n => ([], n, 40) := by unfold capE; rw [if_neg (by simp; omega)]; rfl
  rw [hL] at hE2
  simp only at hE2
  cases hp : (parseA 0 s).2 with
  | some m =>
    rw [hp] at hE1 hE2
    simp only [Option.map_some] at hE1 hE2
    have e1 : capRun s f ps = ([], m, 40) := by unfold capRun; rw [hE1]; rfl
    have e2 : capRun (pl ++ s) f ps = ([], m + pl.length, 40) := by unfold capRun; rw [hE2]; rfl
    rw [e1, e2]
    exact ⟨fun h => by simp at h, fun _ => .inl ⟨rfl, rfl, rfl⟩, fun h => by simp at h, fun _ h => by simp at h⟩
  | none =>
    rw [hp] at hE1 hE2
    simp only [Option.map_none] at hE1 hE2
    have e1 : capRun s f ps = if 9 < ps.length then ([], 0, 1) else if ps.all mayB = false then ([], 0, 1) else if (runS (parseA 0 s).1 0 (run0 f ps)).1 = 0 then ((runS (parseA 0 s).1 0 (run0 f ps)).2.2.out, 0, 0) else ([], (runS (parseA 0 s).1 0 (run0 f ps)).2.1, (runS (parseA 0 s).1 0 (run0 f ps)).1) := by
      unfold capRun; rw [hE1]; simp only; rw [if_neg (by simp)]
    have e2 : capRun (pl ++ s) f ps = if 9 < ps.length then ([], 0, 1) else if ps.all mayB = false then ([], 0, 1) else if (runS (lits 0 pl ++ (parseA 0 s).1.map (sh pl.length)) 0 (run0 f ps)).1 = 0 then ((runS (lits 0 pl ++ (parseA 0 s).1.map (sh pl.length)) 0 (run0 f ps)).2.2.out, 0, 0) else ([], (runS (lits 0 pl ++ (parseA 0 s).1.map (sh pl.length)) 0 (run0 f ps)).2.1, (runS (lits 0 pl ++ (parseA 0 s).1.map (sh pl.length)) 0 (run0 f ps)).1) := by
      unfold capRun; rw [hE2]; simp only; rw [if_neg (by simp)]
    by_cases h9 : 9 < ps.length
    · rw [e1, e2, if_pos h9, if_pos h9]
      exact ⟨fun h => by simp at h, fun h => by simp at h, fun h => by simp at h, fun _ _ _ _ => rfl⟩
    by_cases hm : ps.all mayB = false
    · rw [e1, e2, if_neg h9, if_neg h9, if_pos hm, if_pos hm]
      exact ⟨fun h => by simp at h, fun h => by simp at h, fun h => by simp at h, fun _ _ _ _ => rfl⟩
    rw [if_neg h9, if_neg hm] at e1 e2
    have hlk := run_like pl pl.length (parseA 0 s).1.length (parseA 0 s).1 0 (run0 f ps)
    have hok := run_okR (parseA 0 s).1.length (parseA 0 s).1 0 (run0 f ps) (by simp [run0])
    have hw : runS (lits 0 pl ++ (parseA 0 s).1.map (sh pl.length)) 0 (run0 f ps) = runF (parseA 0 s).1.length ((parseA 0 s).1.map (sh pl.length)) 0 (wo pl (run0 f ps)) := by
      rw [run_lits pl 0 _ 0 _ (by simp [run0]; omega)]
      have : ({ run0 f ps with out := (run0 f ps).out ++ pl } : MS) = wo pl (run0 f ps) := by unfold wo run0; simp
      rw [this]
      unfold runS
      rw [List.length_map]
    rw [hw] at e2
    rw [show runS (parseA 0 s).1 0 (run0 f ps) = runF (parseA 0 s).1.length (parseA 0 s).1 0 (run0 f ps) from rfl] at e1
    rw [e1] at hr
    rw [e1, e2]
    generalize runF (parseA 0 s).1.length (parseA 0 s).1 0 (run0 f ps) = R at *
    generalize runF (parseA 0 s).1.length ((parseA 0 s).1.map (sh pl.length)) 0 (wo pl (run0 f ps)) = R' at *
    obtain ⟨hs, hlg, hrm⟩ := hlk
    obtain ⟨hen, _⟩ := hok
    by_cases h0 : R.1 = 0
    · rw [if_pos h0] at hr
      have h0' := hrm h0 hr
      rw [if_pos h0, if_pos h0']
      refine ⟨fun _ => ⟨rfl, ?_, rfl⟩, fun h => by simp at h, fun h => by simp at h, fun h => by simp at h⟩
      rcases hs with h3 | ⟨_, ho, _⟩
      · rw [h0'] at h3; cases h3
      · exact ho
    · rw [if_neg h0]
      rcases hen with h | h | h
      · exact absurd h h0
      · have h3 := hlg h
        rw [if_neg (by rw [h3]; decide)]
        exact ⟨fun hh => absurd hh h0, fun hh => by simp only [h] at hh; omega, fun _ => h3, fun _ _ _ hh => absurd h hh⟩
      · rcases hs with h3 | ⟨he, ho, hat⟩
        · rw [if_neg (by rw [h3]; decide)]
          exact ⟨fun hh => absurd hh h0, fun _ => .inr h3, fun hh => by simp only [h] at hh; omega, fun _ _ hh => absurd h hh⟩
        · rw [if_neg (by rw [he]; exact h0)]
          exact ⟨fun hh => absurd hh h0, fun _ => .inl ⟨he, hat h0, rfl⟩, fun hh => by simp only [h] at hh; omega, fun _ _ hh => absurd h hh⟩
section
variable {w : World} {K : Value → World → Prop}
set_option maxHeartbeats 1000000
theorem plain_ {v : Value} {px s : List UInt8} {ps : List Par} {m : Int} (hpx : px.length ≤ 1048576) (hs : s.length ≤ 1048576) (hps : Rd w w.heap.size 3 v ps.length (parsC ps)) (hok : ∀ p, p ∈ ps → ParOk p) (hg : Gnd w) (hm : w.cell? ⟨1, 0, none⟩ = some (.int .i64 m)) (k : ∀ w', Ch [] w w' → K (.bool true) w') :
    S.call Tryd.prog 3 [strV px, strV s, v] K w := by
  refine F3_link ?_
  unfold F3
  have h6 := hg.1
  refine begun_ hg fun w1 hc1 => ?_
  rw [not_v, show (!true) = false from rfl, br_false]
  refine noPc_ hpx (hc1.cell hm (by simp)) fun w2 hc2 => ?_
  obtain ⟨hpn, hpl⟩ := noPc_spec px
  generalize noPc px = pl at *
  have hc02 : Ch [] w w2 := hc1.trans hc2 (by simp)
  have run1 : ∀ (t : List UInt8) (w3 : World) (K' : Value → World → Prop), Ch [] w w3 → (∀ w4, Ch [] w w4 → K' (.tuple #[strV (capRun t (fun _ => none) ps).1, I64 (capRun t (fun _ => none) ps).2.1, I64 (capRun t (fun _ => none) ps).2.2]) w4) → S.call Tryd.prog 11 [strV t] (fun t19 w => S.call Tryd.prog 13 [] (fun t20 w => S.call Tryd.prog 12 [t19, t20, v] K' w) w) w3 := by
    intro t w3 K' hc03 hk
    refine new_ fun w4 L4 hcap hc4 hl4 => ?_
    have hs3 := hc03.size
    have hs4 := hc4.size
    refine newvars_ fun w5 bv mm hv hc5 hbv hmm => ?_
    have hs5 := hc5.size
    have hc05 : Ch [] w w5 := (hc03.trans hc4 (by simp)).trans hc5 (by simp)
    refine run_ (hcap.ch hc5 (by simp)) hv (hg.ch hc05 (by simp)) (by omega) (fun hm => by have := hcap.lt' mm hm; omega) ((hps.ch hc05 (by simp)).mono (by omega)) hok (fun c p h => by cases h) fun w6 hc6 => ?_
    exact hk w6 (Ch.fresh hc05 hc6 (by simp; omega))
  refine run1 s w2 _ hc02 fun w3 hc3 => ?_
  rw [x30, x31, x32, addS_v (by omega)]
  refine run1 (pl ++ s) w3 _ hc3 fun w4 hc4 => ?_
  have hkk := k w4 hc4
  have hxl := cap_len s (fun _ => none) ps
  have hlaw := @plain_law pl s (fun _ => none) ps hpn
  have hat := fun h => @cap_at s h (fun _ => none) ps
  generalize capRun s (fun _ => none) ps = A at *
  generalize capRun (pl ++ s) (fun _ => none) ps = B at *
  obtain ⟨x, at', e⟩ := A
  obtain ⟨y, bt, f⟩ := B
  simp only at hxl hlaw hat
  dsimp only
  have fin : ∀ q : Bool, q = true → K (.bool q) w4 := fun q hq => hq ▸ hkk
  rw [x30, x31, x32, lenS_v', lenS_v', add_v, wrap_i64 (by omega) (by omega), gt_v]
  refine br_dec _ _ _ (fun h1 => hkk) (fun h1 => ?_)
  rw [lenS_v', lenS_v', sub_v, wrap_i64 (by omega) (by omega), gt_v]
  refine br_dec _ _ _ (fun h2 => hkk) (fun h2 => ?_)
  obtain ⟨l1, l2, l3, l4⟩ := hlaw (by omega) (by omega)
  simp only at l1 l2 l3 l4
  rw [eq_v]
  refine br_dec _ _ _ (fun h0 => ?_) (fun h0 => ?_)
  · obtain ⟨a1, a2, a3⟩ := l1 h0
    rw [eq_v, decide_eq_true a1, br_true, addS_v (by omega), eqs_v, decide_eq_true a2, br_true, eq_v]
    exact fin _ (decide_eq_true (by omega))
  refine seq_ok fun J hJ => ?_
  have hT : (e = 40 ∨ e = 41) → ∀ (q : Bool), q = true → J [.bool q] w4 := by
    intro he q hq
    subst hq
    refine hJ _ _ ?_
    rw [nth_zero, br_true, eq_v]
    rcases l2 he with ⟨b1, b2, b3⟩ | b3
    · have hat' := hat (by omega)
      rw [decide_eq_true b1, br_true, lenS_v', add_v, wrap_i64 (by omega) (by omega), eq_v, decide_eq_true (by omega), br_true, show (Value.string { data := #[] }) = strV [] from rfl, eqs_v, decide_eq_true b3, br_true]
      exact hkk
    · refine br_dec _ _ _ (fun hfe => ?_) (fun hfe => ?_)
      · omega
      · rw [eq_v]
        exact fin _ (decide_eq_true b3)
  have hF : ¬ (e = 40 ∨ e = 41) → ∀ (q : Bool), q = false → J [.bool q] w4 := by
    intro he q hq
    subst hq
    refine hJ _ _ ?_
    rw [nth_zero, br_false, eq_v]
    refine br_dec _ _ _ (fun h3 => ?_) (fun h3 => ?_)
    · rw [eq_v]
      exact fin _ (decide_eq_true (l3 h3))
    · rw [eq_v]
      exact fin _ (decide_eq_true (l4 h0 (by omega) (by omega) h3))
  clear hJ
  rw [eq_v]
  by_cases h40 : e = 40
  · rw [decide_eq_true h40, br_true]
    exact hT (.inl h40) true rfl
  rw [decide_eq_false h40, br_false, eq_v]
  by_cases h41 : e = 41
  · exact hT (.inr h41) _ (decide_eq_true h41)
  · exact hF (by omega) _ (decide_eq_false h41)
end
end Go.Proofs.YtjaoeipfiodnfaaDoor
