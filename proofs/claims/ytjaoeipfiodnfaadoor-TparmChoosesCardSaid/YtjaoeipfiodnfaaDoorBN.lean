import Derived.Test.YtjaoeipfiodnfaaDoorBL
set_option linter.unusedVariables false
set_option maxRecDepth 4000
namespace Go.Proofs.YtjaoeipfiodnfaaDoor
open Go Go.Fw Go.Proofs Go.RowKit
/-! ### TparmChooses: the string, its codes, what it comes to -/
def segS (i : Nat) (p : List UInt8) : List UInt8 := [37, 112, 49, 37, 123] ++ Lib.itoa (i : Int) ++ [125, 37, 61, 37, 116] ++ p ++ [37, 101]
def endS : List UInt8 := [110, 111, 110, 101, 37, 59, 33]
def chS : Nat → List (List UInt8) → List UInt8
  | _, [] => endS
  | i, p :: r => segS i p ++ chS (i + 1) r
def lits0 (p : List UInt8) : List Code := p.map fun c => { c := c }
def endC : List Code := [{ op := 59 }, { c := 33 }]
def chC : Nat → List (List UInt8) → List Code
  | _, [] => lits0 [110, 111, 110, 101] ++ endC
  | i, p :: r => { op := 112, c := 49 } :: { op := 123, n := (i : Int) } :: { op := 61 } :: { op := 116 } :: (lits0 p ++ { op := 101 } :: chC (i + 1) r)
theorem PRs.lits {p r : List UInt8} {l : List Code} (h : (37 : UInt8) ∉ p) (h2 : PRs r l) : PRs (p ++ r) (lits0 p ++ l) := by
  induction p with
  | nil => exact h2
  | cons c t ih =>
    simp only [List.mem_cons, not_or] at h
    refine PRs.cons' (x := { c := c }) ?_ rfl (ih h.2)
    simp only [List.cons_append, oneR]
    rw [if_neg (fun e => h.1 e.symm)]
def valD (ds : List UInt8) (n : Nat) : Nat := ds.foldl (fun a c => 10 * a + (c.toNat - 48)) n
theorem numR_digits (rest : List UInt8) : ∀ (ds : List UInt8) (n m : Nat), (∀ d, d ∈ ds → digitB d = true) → m + ds.length ≤ 9 → numR (ds ++ 125 :: rest) n m = some (valD ds n, m + ds.length, 125 :: rest)
  | [], n, m, h, hl => by
    simp only [List.nil_append]
    unfold numR
    rw [if_neg (by decide)]
    rfl
  | d :: ds, n, m, h, hl => by
    simp only [List.length_cons] at hl
    simp only [List.cons_append]
    unfold numR
    rw [if_pos (h d (by simp)), if_neg (by omega), numR_digits rest ds _ _ (fun x hx => h x (by simp [hx])) (by omega)]
    simp only [List.length_cons, valD, List.foldl_cons]
    rw [show m + 1 + ds.length = m + (ds.length + 1) from by omega]
def okDec (i : Nat) : Bool := (decL i).all digitB && decide ((decL i).length ≤ 3) && decide (valD (decL i) 0 = i) && decide (1 ≤ (decL i).length)
theorem dec_check : ∀ i, i < 60 → okDec i = true := by decide +kernel
theorem brace_parse {i : Nat} (hi : i < 60) (rest : List UInt8) : oneR (37 :: 123 :: (decL i ++ 125 :: rest)) = some ({ op := 123, n := (i : Int) }, rest) := by
  have h := dec_check i hi
  unfold okDec at h
  simp only [Bool.and_eq_true, decide_eq_true_eq, List.all_eq_true] at h
  obtain ⟨⟨⟨h1, h2⟩, h3⟩, h4⟩ := h
  show numberR (decL i ++ 125 :: rest) = _
  have hp : peekR (decL i ++ 125 :: rest) ≠ 45 := by
    cases hd : decL i with
    | nil => rw [hd] at h4; simp at h4
    | cons d t =>
      have := digitB_spec.1 (h1 d (by rw [hd]; simp))
      show d ≠ 45
      intro e
      rw [e] at this
      simp at this
  have hs : signR (decL i ++ 125 :: rest) = (1, decL i ++ 125 :: rest) := by unfold signR; rw [if_neg hp]
  unfold numberR
  rw [hs]
  simp only
  rw [numR_digits rest (decL i) 0 0 h1 (by omega), h3]
  simp only [closeR]
  rw [if_pos ⟨trivial, by omega⟩]
  simp
theorem ch_parse : ∀ (ps : List (List UInt8)) (i : Nat), (∀ p, p ∈ ps → (37 : UInt8) ∉ p) → i + ps.length ≤ 60 → PRs (chS i ps) (chC i ps)
  | [], i, h, hl => PRs.lits (p := [110, 111, 110, 101]) (by decide) (PRs.cons' rfl rfl (PRs.cons' rfl rfl PRs.nil))
  | p :: r, i, h, hl => by
    simp only [List.length_cons] at hl
    have ih := ch_parse r (i + 1) (fun q hq => h q (by simp [hq])) (by omega)
    have e : chS i (p :: r) = 37 :: 112 :: 49 :: 37 :: 123 :: (decL i ++ 125 :: 37 :: 61 :: 37 :: 116 :: (p ++ 37 :: 101 :: chS (i + 1) r)) := by
      show segS i p ++ chS (i + 1) r = _
      unfold segS
      rw [itoa_nat, dec_decL (by omega)]
      simp
    rw [e]
    exact PRs.cons' rfl rfl (PRs.cons' (brace_parse (by omega) _) rfl (PRs.cons' rfl rfl (PRs.cons' rfl rfl (PRs.lits (h p (by simp)) (PRs.cons' rfl rfl ih)))))
theorem behind_lits (e : Bool) (d : Nat) (t : List Code) : ∀ (p : List UInt8), behindS e d (lits0 p ++ t) = behindS e d t
  | [] => rfl
  | c :: r => by
    show behindS e d ({ c := c } :: (lits0 r ++ t)) = _
    rw [behindS.eq_def]
    dsimp only
    rw [if_neg (by decide), if_neg (by decide), if_neg (by decide)]
    exact behind_lits e d t r
theorem behind_else (p : List UInt8) (t : List Code) : behindS true 0 (lits0 p ++ { op := 101 } :: t) = t := by
  rw [behind_lits, behindS.eq_def]
  dsimp only
  rw [if_neg (by decide), if_neg (by decide), if_pos (by decide), if_pos ⟨rfl, rfl⟩]
theorem behind_end : ∀ (ps : List (List UInt8)) (i : Nat), behindS false 0 (chC i ps) = endC
  | [], i => by
    show behindS false 0 (lits0 [110, 111, 110, 101] ++ endC) = _
    rw [behind_lits]
    rfl
  | p :: r, i => by
    have ih := behind_end r (i + 1)
    show behindS false 0 ({ op := 112, c := 49 } :: { op := 123, n := (i : Int) } :: { op := 61 } :: { op := 116 } :: (lits0 p ++ { op := 101 } :: chC (i + 1) r)) = _
    rw [behindS.eq_def]; dsimp only; rw [if_neg (by decide), if_neg (by decide), if_neg (by decide)]
    rw [behindS.eq_def]; dsimp only; rw [if_neg (by decide), if_neg (by decide), if_neg (by decide)]
    rw [behindS.eq_def]; dsimp only; rw [if_neg (by decide), if_neg (by decide), if_neg (by decide)]
    rw [behindS.eq_def]; dsimp only; rw [if_neg (by decide), if_neg (by decide), if_neg (by decide)]
    rw [behind_lits, behindS.eq_def]; dsimp only; rw [if_neg (by decide), if_neg (by decide), if_pos (by decide), if_neg (by simp)]
    exact ih
theorem run_lits0 : ∀ (p : List UInt8) (t : List Code) (o : Nat) (s : MS), s.out.length + p.length ≤ 16384 → runS (lits0 p ++ t) o s = runS t o { s with out := s.out ++ p }
  | [], t, o, s, h => by simp [lits0]
  | c :: r, t, o, s, h => by
    simp only [List.length_cons] at h
    show runS ({ c := c } :: (lits0 r ++ t)) o s = _
    have hd : doesR { c := c } s = (0, { s with out := s.out ++ [c] }) := does_lit (by omega)
    rw [runS_step (by decide : ((0 : UInt8)).toNat ≠ 63) (by decide : ((0 : UInt8)).toNat ≠ 59) (by decide : ((0 : UInt8)).toNat ≠ 116) (by decide : ((0 : UInt8)).toNat ≠ 101) hd, run_lits0 r t o _ (by simp; omega)]
    simp
def wantR (n : Int) : Nat → List (List UInt8) → List UInt8
  | _, [] => [110, 111, 110, 101]
  | i, p :: r => if n = (i : Int) then p else wantR n (i + 1) r
theorem run_end {s : MS} {o : Nat} (h : s.out.length ≤ 16383) : runS endC o s = (0, 0, { s with out := s.out ++ [33] }) := by
  show runS ({ op := 59 } :: [{ c := 33 }]) o s = _
  rw [runS_cons, if_neg (by decide), if_pos (by decide), runS_step (by decide) (by decide) (by decide) (by decide) (does_lit h)]
  rfl
theorem run_ch (n : Int) (f : UInt8 → Option Par) : ∀ (ps : List (List UInt8)) (i : Nat), (∀ p, p ∈ ps → p.length ≤ 4096) →
    runS (chC i ps) 1 { ps := [{ num := n }] ++ List.replicate 8 {}, st := [], out := [], f := f } = (0, 0, { ps := [{ num := n }] ++ List.replicate 8 {}, st := [], out := wantR n i ps ++ [33], f := f })
  | [], i, h => by
    show runS (lits0 [110, 111, 110, 101] ++ endC) 1 _ = _
    rw [run_lits0 _ _ _ _ (by simp), run_end (by simp)]
    rfl
  | p :: r, i, h => by
    have ih := run_ch n f r (i + 1) (fun q hq => h q (by simp [hq]))
    have hpl := h p (by simp)
    show runS ({ op := 112, c := 49 } :: { op := 123, n := (i : Int) } :: { op := 61 } :: { op := 116 } :: (lits0 p ++ { op := 101 } :: chC (i + 1) r)) 1 _ = _
    rw [runS_step (s' := { ps := [{ num := n }] ++ List.replicate 8 {}, st := [{ num := n }], out := [], f := f }) (by decide) (by decide) (by decide) (by decide) rfl]
    rw [runS_step (s' := { ps := [{ num := n }] ++ List.replicate 8 {}, st := [{ num := (i : Int) }, { num := n }], out := [], f := f }) (show ¬ (123 : UInt8).toNat = 63 by decide) (show ¬ (123 : UInt8).toNat = 59 by decide) (show ¬ (123 : UInt8).toNat = 116 by decide) (show ¬ (123 : UInt8).toNat = 101 by decide) rfl]
    rw [runS_step (s' := { ps := [{ num := n }] ++ List.replicate 8 {}, st := [{ num := truthR (decide (n = (i : Int))) }], out := [], f := f }) (by decide) (by decide) (by decide) (by decide) rfl]
    rw [runS_cons, if_neg (by decide), if_neg (by decide), if_pos (by decide), if_pos (by decide)]
    have hw : wantR n i (p :: r) = if n = (i : Int) then p else wantR n (i + 1) r := rfl
    rw [hw]
    show (if truthR (decide (n = (i : Int))) = 0 then runS (behindS true 0 (lits0 p ++ { op := 101 } :: chC (i + 1) r)) 1 { ps := [{ num := n }] ++ List.replicate 8 {}, st := [], out := [], f := f } else runS (lits0 p ++ { op := 101 } :: chC (i + 1) r) 1 { ps := [{ num := n }] ++ List.replicate 8 {}, st := [], out := [], f := f }) = _
    by_cases hn : n = (i : Int)
    · have e1 : ¬ truthR (decide (n = (i : Int))) = 0 := by rw [decide_eq_true hn]; decide
      rw [if_neg e1, if_pos hn, run_lits0 _ _ _ _ (by simp; omega), runS_cons, if_neg (by decide), if_neg (by decide), if_neg (by decide), if_pos (by decide), if_pos (by decide), behind_end, run_end (by simp; omega)]
      simp
    · have e1 : truthR (decide (n = (i : Int))) = 0 := by rw [decide_eq_false hn]; rfl
      rw [if_pos e1, if_neg hn, behind_else]
      exact ih
theorem wantR_eq (n : Int) : ∀ (ps : List (List UInt8)) (i : Nat), wantR n i ps = if (i : Int) ≤ n ∧ n < i + ps.length then ps.getD (n - i).toNat [] else [110, 111, 110, 101]
  | [], i => by
    rw [if_neg (by simp only [List.length_nil]; omega)]
    rfl
  | p :: r, i => by
    simp only [wantR, wantR_eq n r (i + 1), List.length_cons]
    by_cases hn : n = (i : Int)
    · rw [if_pos hn, if_pos (by omega), show (n - (i : Int)).toNat = 0 from by omega]
      rfl
    · rw [if_neg hn]
      by_cases h : ((i + 1 : Nat) : Int) ≤ n ∧ n < ((i + 1 : Nat) : Int) + r.length
      · rw [if_pos h, if_pos (by omega), show (n - (i : Int)).toNat = (n - ((i + 1 : Nat) : Int)).toNat + 1 from by omega]
        rfl
      · rw [if_neg h, if_neg (by omega)]
theorem ch_len : ∀ (ps : List (List UInt8)) (i : Nat), ∀ p, p ∈ ps → p.length ≤ (chS i ps).length
  | q :: r, i, p, h => by
    show p.length ≤ (segS i q ++ chS (i + 1) r).length
    simp only [List.mem_cons] at h
    rcases h with rfl | h
    · simp [segS]
      omega
    · have := ch_len r (i + 1) p h
      simp
      omega
theorem choose_run {n : Int} {ps : List (List UInt8)} (f : UInt8 → Option Par) (h : ∀ p, p ∈ ps → (37 : UInt8) ∉ p) (hl : ps.length ≤ 60) (hs : ([37, 63] ++ chS 0 ps).length ≤ 4096) :
    capRun ([37, 63] ++ chS 0 ps) f [{ num := n }] = (wantR n 0 ps ++ [33], 0, 0) := by
  have hp : PRs ([37, 63] ++ chS 0 ps) ({ op := 63 } :: chC 0 ps) := PRs.cons' rfl rfl (ch_parse ps 0 h (by omega))
  have hr : runS ({ op := 63 } :: chC 0 ps) 0 (run0 f [{ num := n }]) = (0, 0, { ps := [{ num := n }] ++ List.replicate 8 {}, st := [], out := wantR n 0 ps ++ [33], f := f }) := by
    rw [runS_cons, if_pos (by decide)]
    exact run_ch n f ps 0 (fun p hp => by have := ch_len ps 0 p hp; simp at hs; omega)
  exact cap_out hs hp (by simp) rfl (by rw [hr]) (by rw [hr])
end Go.Proofs.YtjaoeipfiodnfaaDoor
