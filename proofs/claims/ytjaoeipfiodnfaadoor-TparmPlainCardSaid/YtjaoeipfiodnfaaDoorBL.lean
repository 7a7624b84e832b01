import Derived.Test.YtjaoeipfiodnfaaDoorBG
set_option linter.unusedVariables false
set_option maxRecDepth 4000
namespace Go.Proofs.YtjaoeipfiodnfaaDoor
open Go Go.Fw Go.Proofs Go.RowKit
/-! ### Without percent signs -/
theorem rep_none : ∀ (m : Nat) (x : List UInt8), Lib.count x [37] = m → (37 : UInt8) ∉ Lib.replaceK [37] [] m x ∧ (Lib.replaceK [37] [] m x).length ≤ x.length
  | 0, x, hc => by
    simp only [Lib.replaceK]
    refine ⟨fun hm => ?_, Nat.le_refl _⟩
    rcases Lib.index_spec x [37] with ⟨h1, h2⟩ | ⟨i, h1, h2, h3, h4⟩
    · obtain ⟨j, hj⟩ := List.getElem?_of_mem hm
      have hl := (List.getElem?_eq_some_iff.1 hj).1
      have := h2 j (by omega)
      unfold Lib.occAt at this
      rw [← List.getElem_cons_drop hl, (List.getElem?_eq_some_iff.1 hj).2] at this
      simp at this
    · have := Lib.count_hit (s := x) (sub := [37]) (by simp) h1
      omega
  | m + 1, x, hc => by
    obtain ⟨i, hi⟩ := Lib.index_of_count (s := x) (old := [37]) (by omega)
    have hh := Lib.count_hit (s := x) (sub := [37]) (by simp) hi
    have hr := Lib.index_room x [37] (by omega)
    rw [Lib.replaceK_hit [37] [] m x i hi]
    obtain ⟨h1, h2⟩ := rep_none m (x.drop (i + [37].length)) (by omega)
    refine ⟨fun hm => ?_, ?_⟩
    · simp only [List.append_nil, List.mem_append] at hm
      rcases hm with hm | hm
      · rcases Lib.index_spec x [37] with ⟨g1, g2⟩ | ⟨i', g1, g2, g3, g4⟩
        · omega
        · obtain ⟨j, hj⟩ := List.getElem?_of_mem hm
          have hl := (List.getElem?_eq_some_iff.1 hj).1
          rw [List.length_take] at hl
          rw [List.getElem?_take_of_lt (by omega)] at hj
          have hl' := (List.getElem?_eq_some_iff.1 hj).1
          have := g4 j (by omega)
          unfold Lib.occAt at this
          rw [← List.getElem_cons_drop hl', (List.getElem?_eq_some_iff.1 hj).2] at this
          simp at this
      · exact h1 hm
    · simp only [List.length_append, List.length_take, List.append_nil]
      rw [List.length_drop] at h2
      simp only [List.length_singleton] at *
      omega
/-- What is left of a text without its percent signs. -/
def noPc (x : List UInt8) : List UInt8 := Lib.replaceAll x [37] []
theorem noPc_spec (x : List UInt8) : (37 : UInt8) ∉ noPc x ∧ (noPc x).length ≤ x.length := by
  have : noPc x = Lib.replaceK [37] [] (Lib.count x [37]) x := by
    unfold noPc Lib.replaceAll Lib.replace
    rw [if_neg (by decide)]
    congr 1
  rw [this]
  exact rep_none _ x rfl
section
variable {w : World} {K : Value → World → Prop}
theorem noPc_ {x : List UInt8} {m : Int} (hl : x.length ≤ 1048576) (hm : w.cell? ⟨1, 0, none⟩ = some (.int .i64 m)) (k : ∀ w', Ch [] w w' → K (strV (noPc x)) w') : S.call Tryd.prog 10 [strV x, .string { data := #[37] }, .string { data := #[] }] K w := by
  refine Calls.mono (Tryd.strings_ReplaceAll ⟨x.toArray⟩ ⟨#[37]⟩ ⟨#[]⟩ m w (by rw [size_str]; omega) hm (by decide) (by show (⟨x.toArray⟩ : ByteArray).size + _ * 0 ≤ _; rw [size_str]; omega)) ?_
  rintro e w' ⟨rfl, hb⟩
  exact k w' (chBelow hb)
end
/-! ### Places -/
def sh (k : Nat) (x : Code) : Code := { x with at' := x.at' + k }
theorem parseF_shift (k : Nat) : ∀ (d n : Nat) (r : List UInt8), parseF d (n + k) r = ((parseF d n r).1.map (sh k), (parseF d n r).2.map (· + k))
  | 0, n, r => rfl
  | d + 1, n, [] => rfl
  | d + 1, n, a :: t => by
    cases ho : oneR (a :: t) with
    | none => simp [parseF, ho]
    | some q =>
      obtain ⟨x, r'⟩ := q
      have ih := parseF_shift k d (n + ((a :: t).length - r'.length)) r'
      simp only [parseF, ho]
      rw [show n + k + ((a :: t).length - r'.length) = n + ((a :: t).length - r'.length) + k from by omega, ih]
      rfl
theorem parseA_shift (k n : Nat) (r : List UInt8) : parseA (n + k) r = ((parseA n r).1.map (sh k), (parseA n r).2.map (· + k)) := parseF_shift k _ n r
def lits : Nat → List UInt8 → List Code
  | _, [] => []
  | n, c :: r => { at' := n, c := c } :: lits (n + 1) r
theorem parseA_lits : ∀ (pl : List UInt8) (n : Nat) (s : List UInt8), (37 : UInt8) ∉ pl → parseA n (pl ++ s) = (lits n pl ++ (parseA (n + pl.length) s).1, (parseA (n + pl.length) s).2)
  | [], n, s, h => rfl
  | c :: r, n, s, h => by
    simp only [List.mem_cons, not_or] at h
    have ho : oneR ((c :: r) ++ s) = some ({ c := c }, r ++ s) := by
      simp only [List.cons_append, oneR]
      rw [if_neg (fun e => h.1 e.symm)]
    rw [parseA_some ho, show n + (((c :: r) ++ s).length - (r ++ s).length) = n + 1 from by simp only [List.length_append, List.length_cons]; omega, parseA_lits r (n + 1) s h.2]
    simp only [List.length_cons]
    rw [show n + 1 + r.length = n + (r.length + 1) from by omega]
    rfl
/-! ### A run with a text ahead -/
def wo (pl : List UInt8) (s : MS) : MS := { s with out := pl ++ s.out }
theorem pop_wo (pl : List UInt8) (s : MS) : popR (wo pl s) = ((popR s).1, wo pl (popR s).2) := by
  unfold popR
  cases hs : s.st with
  | nil => rw [show (wo pl s).st = [] from hs]
  | cons p r => rw [show (wo pl s).st = p :: r from hs]; rfl
theorem pop_out (s : MS) : (popR s).2.out = s.out := by unfold popR; split <;> rfl
/-- How a step with a text ahead goes, held against the step without it. -/
structure Like (pl : List UInt8) (D D' : Int × MS) : Prop where
  same : D'.1 = 3 ∨ (D'.1 = D.1 ∧ D'.2 = wo pl D.2)
  long : D.1 = 3 → D'.1 = 3
  room : D.1 = 0 → pl.length + D.2.out.length ≤ 16384 → D'.1 = 0
theorem push_like (pl : List UInt8) (s : MS) (p : Par) : Like pl (pushR s p) (pushR (wo pl s) p) := by
  unfold pushR
  rw [show (wo pl s).st = s.st from rfl]
  split
  · exact ⟨.inr ⟨rfl, rfl⟩, fun h => by simp at h, fun h => by simp at h⟩
  · exact ⟨.inr ⟨rfl, rfl⟩, fun h => by simp at h, fun _ _ => rfl⟩
theorem write_like (pl : List UInt8) (s : MS) (t : List UInt8) : Like pl (writeR s t) (writeR (wo pl s) t) := by
  unfold writeR
  have e : (wo pl s).out.length = pl.length + s.out.length := by show (pl ++ s.out).length = _; rw [List.length_append]
  rw [e]
  by_cases h : 16384 < s.out.length + t.length
  · rw [if_pos h, if_pos (by omega)]
    exact ⟨.inl rfl, fun _ => rfl, fun h => by simp at h⟩
  · rw [if_neg h]
    by_cases h2 : 16384 < pl.length + s.out.length + t.length
    · rw [if_pos h2]
      refine ⟨.inl rfl, fun h => by simp at h, fun _ hr => ?_⟩
      have : (s.out ++ t).length = s.out.length + t.length := List.length_append
      simp only at hr
      omega
    · rw [if_neg h2]
      refine ⟨.inr ⟨rfl, ?_⟩, fun h => by simp at h, fun _ _ => rfl⟩
      show ({ ps := s.ps, st := s.st, out := (pl ++ s.out) ++ t, f := s.f } : MS) = { ps := s.ps, st := s.st, out := pl ++ (s.out ++ t), f := s.f }
      rw [List.append_assoc]
theorem does_like (pl : List UInt8) (x : Code) (s : MS) : Like pl (doesR x s) (doesR x (wo pl s)) := by
  unfold doesR
  rw [pop_wo]
  simp only
  rw [pop_wo]
  simp only
  by_cases c0 : x.op.toNat = 0
  · rw [if_pos c0, if_pos c0]; exact write_like _ _ _
  rw [if_neg c0, if_neg c0]
  by_cases c1 : x.op.toNat = 99
  · rw [if_pos c1, if_pos c1]; exact write_like _ _ _
  rw [if_neg c1, if_neg c1]
  by_cases c2 : x.op.toNat = 100
  · rw [if_pos c2, if_pos c2]; exact write_like _ _ _
  rw [if_neg c2, if_neg c2]
  by_cases c3 : x.op.toNat = 105
  · rw [if_pos c3, if_pos c3]; exact ⟨.inr ⟨rfl, rfl⟩, fun h => by simp at h, fun _ _ => rfl⟩
  rw [if_neg c3, if_neg c3]
  by_cases c4 : x.op.toNat = 112
  · rw [if_pos c4, if_pos c4]; exact push_like _ _ _
  rw [if_neg c4, if_neg c4]
  by_cases c5 : x.op.toNat = 80
  · rw [if_pos c5, if_pos c5]; exact ⟨.inr ⟨rfl, rfl⟩, fun h => by simp at h, fun _ _ => rfl⟩
  rw [if_neg c5, if_neg c5]
  by_cases c6 : x.op.toNat = 103
  · rw [if_pos c6, if_pos c6]; exact push_like _ _ _
  rw [if_neg c6, if_neg c6]
  by_cases c7 : x.op.toNat = 123
  · rw [if_pos c7, if_pos c7]; exact push_like _ _ _
  rw [if_neg c7, if_neg c7]
  by_cases c8 : x.op.toNat = 108
  · rw [if_pos c8, if_pos c8]; exact push_like _ _ _
  rw [if_neg c8, if_neg c8]
  by_cases c9 : x.op.toNat = 33
  · rw [if_pos c9, if_pos c9]; exact push_like _ _ _
  rw [if_neg c9, if_neg c9]
  by_cases c10 : x.op.toNat = 126
  · rw [if_pos c10, if_pos c10]; exact push_like _ _ _
  rw [if_neg c10, if_neg c10]
  exact push_like _ _ _
theorem push_out (s : MS) (p : Par) : s.out.length ≤ (pushR s p).2.out.length := by unfold pushR; split <;> exact Nat.le_refl _
theorem write_out (s : MS) (t : List UInt8) : s.out.length ≤ (writeR s t).2.out.length := by
  unfold writeR
  split
  · exact Nat.le_refl _
  · show s.out.length ≤ (s.out ++ t).length
    rw [List.length_append]
    omega
theorem le_ite {n : Nat} {p : Prop} [Decidable p] {a b : Int × MS} (h1 : n ≤ a.2.out.length) (h2 : n ≤ b.2.out.length) : n ≤ (if p then a else b).2.out.length := by
  by_cases h : p
  · rw [if_pos h]; exact h1
  · rw [if_neg h]; exact h2
theorem does_out (x : Code) (s : MS) : s.out.length ≤ (doesR x s).2.out.length := by
  have h1 := pop_out s
  have h2 := pop_out (popR s).2
  unfold doesR
  exact le_ite (write_out _ _) (le_ite (h1 ▸ write_out _ _) (le_ite (h1 ▸ write_out _ _) (le_ite (Nat.le_refl _) (le_ite (push_out _ _) (le_ite (by rw [← h1]; exact Nat.le_refl _) (le_ite (push_out _ _) (le_ite (push_out _ _)
    (le_ite (h1 ▸ push_out _ _) (le_ite (h1 ▸ push_out _ _) (le_ite (h1 ▸ push_out _ _) ((h2.trans h1) ▸ push_out _ _)))))))))))
theorem le_iteR {n : Nat} {p : Prop} [Decidable p] {a b : Int × Nat × MS} (h1 : n ≤ a.2.2.out.length) (h2 : n ≤ b.2.2.out.length) : n ≤ (if p then a else b).2.2.out.length := by
  by_cases h : p
  · rw [if_pos h]; exact h1
  · rw [if_neg h]; exact h2
theorem run_out : ∀ (n : Nat) (t : List Code) (o : Nat) (s : MS), s.out.length ≤ (runF n t o s).2.2.out.length
  | 0, t, o, s => Nat.le_refl _
  | n + 1, [], o, s => Nat.le_refl _
  | n + 1, x :: r, o, s => by
    have h1 := pop_out s
    simp only [runF]
    exact le_iteR (run_out n _ _ _) (le_iteR (run_out n _ _ _) (le_iteR (le_iteR (le_iteR (h1 ▸ run_out n _ _ _) (h1 ▸ run_out n _ _ _)) (run_out n _ _ _)) (le_iteR (le_iteR (run_out n _ _ _) (run_out n _ _ _))
      (le_iteR (Nat.le_trans (does_out x s) (run_out n _ _ _)) (does_out x s)))))
theorem behind_sh (k : Nat) (e : Bool) : ∀ (t : List Code) (d : Nat), behindS e d (t.map (sh k)) = (behindS e d t).map (sh k)
  | [], d => rfl
  | x :: r, d => by
    rw [List.map_cons, behindS.eq_def e d (sh k x :: _), behindS.eq_def e d (x :: r)]
    dsimp only
    have h : (sh k x).op = x.op := rfl
    rw [h]
    repeat' split
    all_goals first | exact behind_sh k e r _ | rfl
structure LikeR (pl : List UInt8) (k : Nat) (R R' : Int × Nat × MS) : Prop where
  same : R'.1 = 3 ∨ (R'.1 = R.1 ∧ R'.2.2.out = pl ++ R.2.2.out ∧ (R.1 ≠ 0 → R'.2.1 = R.2.1 + k))
  long : R.1 = 3 → R'.1 = 3
  room : R.1 = 0 → pl.length + R.2.2.out.length ≤ 16384 → R'.1 = 0
theorem like_ite {pl : List UInt8} {k : Nat} {p : Prop} [Decidable p] {a b c d : Int × Nat × MS} (h1 : LikeR pl k a c) (h2 : LikeR pl k b d) : LikeR pl k (if p then a else b) (if p then c else d) := by
  by_cases h : p
  · rw [if_pos h, if_pos h]; exact h1
  · rw [if_neg h, if_neg h]; exact h2
theorem run_like (pl : List UInt8) (k : Nat) : ∀ (n : Nat) (t : List Code) (o : Nat) (s : MS), LikeR pl k (runF n t o s) (runF n (t.map (sh k)) o (wo pl s))
  | 0, t, o, s => ⟨.inr ⟨rfl, rfl, fun h => absurd rfl h⟩, fun h => by simp [runF] at h, fun _ _ => rfl⟩
  | n + 1, [], o, s => ⟨.inr ⟨rfl, rfl, fun h => absurd rfl h⟩, fun h => by simp [runF] at h, fun _ _ => rfl⟩
  | n + 1, x :: r, o, s => by
    rw [List.map_cons]
    simp only [runF, behind_sh, pop_wo]
    have h : (sh k x).op = x.op := rfl
    have hd : ∀ s, doesR (sh k x) s = doesR x s := fun s => rfl
    rw [h, hd]
    have hl := does_like pl x s
    refine like_ite (run_like pl k n _ _ _) (like_ite (run_like pl k n _ _ _) (like_ite (like_ite (like_ite (run_like pl k n _ _ _) (run_like pl k n _ _ _)) (run_like pl k n _ _ _)) (like_ite (like_ite (run_like pl k n _ _ _) (run_like pl k n _ _ _)) ?_)))
    by_cases h0 : (doesR x s).1 = 0
    · rw [if_pos h0]
      have hmono := run_out n r o (doesR x s).2
      rcases hl.same with h3 | ⟨he, hw⟩
      · rw [if_neg (by rw [h3]; decide)]
        refine ⟨.inl h3, fun _ => h3, fun hz hr => ?_⟩
        have := hl.room h0 (by omega)
        rw [this] at h3
        cases h3
      · rw [if_pos (by rw [he]; exact h0), hw]
        exact run_like pl k n _ _ _
    · rw [if_neg h0]
      rcases hl.same with h3 | ⟨he, hw⟩
      · rw [if_neg (by rw [h3]; decide)]
        exact ⟨.inl h3, fun _ => h3, fun hz => absurd hz h0⟩
      · rw [if_neg (by rw [he]; exact h0)]
        exact ⟨.inr ⟨he, by show (doesR x (wo pl s)).2.out = _; rw [hw]; rfl, fun _ => rfl⟩, fun hz => by show (doesR x (wo pl s)).1 = 3; rw [he]; exact hz, fun hz => absurd hz h0⟩
theorem run_lits : ∀ (pl : List UInt8) (n : Nat) (t : List Code) (o : Nat) (s : MS), s.out.length + pl.length ≤ 16384 → runS (lits n pl ++ t) o s = runS t o { s with out := s.out ++ pl }
  | [], n, t, o, s, h => by simp [lits]
  | c :: r, n, t, o, s, h => by
    simp only [List.length_cons] at h
    simp only [lits, List.cons_append]
    have hd : doesR { at' := n, c := c } s = (0, { s with out := s.out ++ [c] }) := by
      show writeR s [c] = _
      unfold writeR
      rw [if_neg (by simp; omega)]
    rw [runS_step (by decide : ((0 : UInt8)).toNat ≠ 63) (by decide : ((0 : UInt8)).toNat ≠ 59) (by decide : ((0 : UInt8)).toNat ≠ 116) (by decide : ((0 : UInt8)).toNat ≠ 101) hd, run_lits r (n + 1) t o _ (by simp; omega)]
    simp
end Go.Proofs.YtjaoeipfiodnfaaDoor
