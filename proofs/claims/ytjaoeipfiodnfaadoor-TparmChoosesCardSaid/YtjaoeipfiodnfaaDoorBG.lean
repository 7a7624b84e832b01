import Derived.Test.YtjaoeipfiodnfaaDoorBF
set_option linter.unusedVariables false
set_option maxRecDepth 4000
namespace Go.Proofs.YtjaoeipfiodnfaaDoor
open Go Go.Fw Go.Proofs Go.RowKit
/-! ### What a string comes to, without its places -/
def nz (x : Code) : Code := { x with at' := 0 }
def PRs (r : List UInt8) (l : List Code) : Prop := ∀ n, (parseA n r).1.map nz = l ∧ (parseA n r).2 = none
theorem PRs.nil : PRs [] [] := fun n => by rw [parseA_nil]; exact ⟨rfl, rfl⟩
theorem PRs.cons {r r' : List UInt8} {x : Code} {l : List Code} (h : oneR r = some (x, r')) (h2 : PRs r' l) : PRs r (nz x :: l) := fun n => by
  rw [parseA_some h]
  obtain ⟨a, b⟩ := h2 (n + (r.length - r'.length))
  exact ⟨by rw [List.map_cons, a]; rfl, b⟩
theorem PRs.cons' {r r' : List UInt8} {x y : Code} {l : List Code} (h : oneR r = some (x, r')) (hy : nz x = y) (h2 : PRs r' l) : PRs r (y :: l) := hy ▸ PRs.cons h h2
theorem does_nz (x : Code) (s : MS) : doesR (nz x) s = doesR x s := rfl
theorem behind_nz (e : Bool) : ∀ (t : List Code) (d : Nat), behindS e d (t.map nz) = (behindS e d t).map nz
  | [], d => rfl
  | x :: r, d => by
    rw [List.map_cons, behindS.eq_def e d (nz x :: _), behindS.eq_def e d (x :: r)]
    dsimp only
    have h : (nz x).op = x.op := rfl
    rw [h]
    repeat' split
    all_goals first | exact behind_nz e r _ | rfl
theorem sameR_ite {p : Prop} [Decidable p] {a b c d : Int × Nat × MS} (h1 : a.1 = c.1 ∧ a.2.2 = c.2.2) (h2 : b.1 = d.1 ∧ b.2.2 = d.2.2) : (if p then a else b).1 = (if p then c else d).1 ∧ (if p then a else b).2.2 = (if p then c else d).2.2 := by
  by_cases h : p
  · rw [if_pos h, if_pos h]; exact h1
  · rw [if_neg h, if_neg h]; exact h2
theorem runF_nz : ∀ (n : Nat) (t : List Code) (o : Nat) (s : MS), (runF n (t.map nz) o s).1 = (runF n t o s).1 ∧ (runF n (t.map nz) o s).2.2 = (runF n t o s).2.2
  | 0, t, o, s => ⟨rfl, rfl⟩
  | n + 1, [], o, s => ⟨rfl, rfl⟩
  | n + 1, x :: r, o, s => by
    rw [List.map_cons]
    simp only [runF, behind_nz, does_nz]
    have h : (nz x).op = x.op := rfl
    rw [h]
    exact sameR_ite (runF_nz n _ _ _) (sameR_ite (runF_nz n _ _ _) (sameR_ite (sameR_ite (sameR_ite (runF_nz n _ _ _) (runF_nz n _ _ _)) (runF_nz n _ _ _)) (sameR_ite (sameR_ite (runF_nz n _ _ _) (runF_nz n _ _ _)) (sameR_ite (runF_nz n _ _ _) ⟨rfl, rfl⟩))))
theorem runS_nz (t : List Code) (o : Nat) (s : MS) : (runS (t.map nz) o s).1 = (runS t o s).1 ∧ (runS (t.map nz) o s).2.2 = (runS t o s).2.2 := by
  unfold runS
  rw [List.length_map]
  exact runF_nz _ _ _ _
theorem cap_out {s : List UInt8} {l : List Code} {f : UInt8 → Option Par} {ps : List Par} {out : List UInt8} (hl : s.length ≤ 4096) (hp : PRs s l) (h9 : ps.length ≤ 9) (hm : ps.all mayB = true) (h0 : (runS l 0 (run0 f ps)).1 = 0) (ho : (runS l 0 (run0 f ps)).2.2.out = out) :
    capRun s f ps = (out, 0, 0) := by
  obtain ⟨h1, h2⟩ := hp 0
  have hE : capE s = ((parseA 0 s).1, 0, 0) := by
    unfold capE
    rw [if_neg (by omega), show parseR s = parseA 0 s from rfl, h2]
  obtain ⟨e1, e2⟩ := runS_nz (parseA 0 s).1 0 (run0 f ps)
  rw [h1] at e1 e2
  unfold capRun
  rw [hE]
  simp only
  rw [if_neg (by simp), if_neg (by omega), if_neg (by rw [hm]; simp), ← e1, ← e2, if_pos h0, ho]
/-! ### Decimal -/
def decL (n : Nat) : List UInt8 := if n < 10 then [UInt8.ofNat (48 + n)] else if n < 100 then [UInt8.ofNat (48 + n / 10), UInt8.ofNat (48 + n % 10)] else [UInt8.ofNat (48 + n / 10 / 10), UInt8.ofNat (48 + n / 10 % 10), UInt8.ofNat (48 + n % 10)]
theorem dec_small {n : Nat} (h : n < 10) : Lib.decDigits n = [UInt8.ofNat (48 + n)] := by rw [Lib.decDigits, dif_pos h]
theorem dec_big {n : Nat} (h : ¬ n < 10) : Lib.decDigits n = Lib.decDigits (n / 10) ++ [UInt8.ofNat (48 + n % 10)] := by rw [Lib.decDigits, dif_neg h]
theorem dec_decL {n : Nat} (h : n < 1000) : Lib.decDigits n = decL n := by
  unfold decL
  by_cases h1 : n < 10
  · rw [if_pos h1, dec_small h1]
  · rw [if_neg h1, dec_big h1]
    by_cases h2 : n < 100
    · rw [if_pos h2, dec_small (by omega)]
      rfl
    · rw [if_neg h2, dec_big (by omega), dec_small (by omega)]
      rfl
theorem itoa_nat (n : Nat) : Lib.itoa (n : Int) = Lib.decDigits n := by
  unfold Lib.itoa
  rw [if_neg (by omega), Int.toNat_natCast]
theorem decDigits_lt : ∀ (k u : Nat), 0 < k → u < 10 ^ k → (Lib.decDigits u).length ≤ k
  | 0, u, h, hu => by omega
  | 1, u, h, hu => by rw [dec_small (by omega)]; simp
  | k + 2, u, h, hu => by
    by_cases h1 : u < 10
    · rw [dec_small h1]; simp
    · rw [dec_big h1]
      have := decDigits_lt (k + 1) (u / 10) (by omega) (by rw [Nat.pow_succ] at hu; omega)
      simp only [List.length_append, List.length_singleton]
      omega
theorem itoa_le {n : Int} (h1 : -2147483648 ≤ n) (h2 : n ≤ 2147483647) : (Lib.itoa n).length ≤ 11 := by
  unfold Lib.itoa
  split
  · have := decDigits_lt 10 n.natAbs (by omega) (by omega)
    simp only [List.length_cons]
    omega
  · have := decDigits_lt 10 n.toNat (by omega) (by omega)
    omega
/-! ### %d -/
def dCode : Code := { op := 100, c := 100, flags := [], width := 0, prec := -1 }
theorem has1_nil (c : UInt8) : has1 [] c = false := by unfold has1; simp [Lib.indexByte]
theorem digits_d {x : Code} (n : Int) (hc : x.c.toNat = 100) (hp : x.prec = -1) (h43 : has1 x.flags 43 = false) (h32 : has1 x.flags 32 = false) (h35 : has1 x.flags 35 = false) : (digitsR x n).2 ++ (digitsR x n).1 = Lib.itoa n := by
  have e1 : ∀ s, s1R x n s = s := fun s => by unfold s1R; rw [if_neg (by omega)]
  have e2 : ∀ s, s2R x s = s := fun s => by unfold s2R; rw [if_neg (by omega)]
  unfold digitsR
  rw [e1, e2]
  unfold s3R
  rw [if_neg (by rw [h35]; simp)]
  unfold rawD
  rw [if_pos hc]
  by_cases hm : Lib.hasPrefix (Lib.itoa n) [45] = true
  · rw [if_pos hm]
    unfold Lib.trimPrefix
    rw [if_pos hm]
    unfold Lib.hasPrefix at hm
    obtain ⟨t, ht⟩ := List.isPrefixOf_iff_prefix.1 hm
    rw [← ht]
    simp
  · rw [if_neg hm, if_neg (by rw [h43]; simp), if_neg (by rw [h32]; simp)]
    simp
theorem fmt_d (n : Int) (p : Par) (hn : p.num = n) : fmtR dCode p = Lib.itoa n := by
  have h := digits_d (x := dCode) n rfl rfl (has1_nil _) (has1_nil _) (has1_nil _)
  unfold fmtR
  simp only
  have hb : bodyR dCode p = digitsR dCode n := by unfold bodyR; rw [if_neg (by decide), hn]
  have hp : ∀ q, padN dCode q = 0 := fun q => by unfold padN; simp only [dCode]; omega
  rw [if_neg (by rw [show dCode.flags = [] from rfl, has1_nil]; simp), if_neg (by rw [show dCode.flags = [] from rfl, has1_nil]; simp), hp, hb, List.replicate_zero, List.nil_append]
  exact h
/-! ### begun -/
def begS : List UInt8 := [27, 91, 37, 105, 37, 112, 49, 37, 100, 59, 37, 112, 50, 37, 100, 72]
theorem beg_parse : PRs begS [{ c := 27 }, { c := 91 }, { op := 105 }, { op := 112, c := 49 }, dCode, { c := 59 }, { op := 112, c := 50 }, dCode, { c := 72 }] :=
  PRs.cons' rfl rfl (PRs.cons' rfl rfl (PRs.cons' rfl rfl (PRs.cons' rfl rfl (PRs.cons' rfl rfl (PRs.cons' rfl rfl (PRs.cons' rfl rfl (PRs.cons' rfl rfl (PRs.cons' rfl rfl PRs.nil))))))))
theorem runS_step {x : Code} {r : List Code} {o : Nat} {s s' : MS} (h1 : x.op.toNat ≠ 63) (h2 : x.op.toNat ≠ 59) (h3 : x.op.toNat ≠ 116) (h4 : x.op.toNat ≠ 101) (hd : doesR x s = (0, s')) : runS (x :: r) o s = runS r o s' := by
  rw [runS_cons, if_neg h1, if_neg h2, if_neg h3, if_neg h4, hd, if_pos rfl]
theorem does_d {ps st : List Par} {p : Par} {out : List UInt8} {f : UInt8 → Option Par} {n : Int} (hn : p.num = n) (h1 : -2147483648 ≤ n) (h2 : n ≤ 2147483647) (ho : out.length ≤ 16000) : doesR dCode { ps := ps, st := p :: st, out := out, f := f } = (0, { ps := ps, st := st, out := out ++ Lib.itoa n, f := f }) := by
  have hl := itoa_le h1 h2
  show writeR { ps := ps, st := st, out := out, f := f } (fmtR dCode p) = _
  rw [fmt_d n p hn]
  unfold writeR
  rw [if_neg (by simp only; omega)]
theorem does_lit {c : UInt8} {s : MS} (ho : s.out.length ≤ 16383) : doesR { c := c } s = (0, { s with out := s.out ++ [c] }) := by
  show writeR s [c] = _
  unfold writeR
  rw [if_neg (by simp; omega)]
theorem itoa5 : Lib.itoa 5 = [53] := by rw [show (5 : Int) = ((5 : Nat) : Int) from rfl, itoa_nat, dec_small (by omega)]; rfl
theorem itoa10 : Lib.itoa 10 = [49, 48] := by rw [show (10 : Int) = ((10 : Nat) : Int) from rfl, itoa_nat, dec_big (by omega), dec_small (by omega)]; rfl
theorem beg_run (f : UInt8 → Option Par) : capRun begS f [{ num := 4 }, { num := 9 }] = ([27, 91, 53, 59, 49, 48, 72], 0, 0) := by
  have h : runS [{ c := 27 }, { c := 91 }, { op := 105 }, { op := 112, c := 49 }, dCode, { c := 59 }, { op := 112, c := 50 }, dCode, { c := 72 }] 0 (run0 f [{ num := 4 }, { num := 9 }]) =
      (0, 0, { ps := [{ num := 5 }, { num := 10 }] ++ List.replicate 7 {}, st := [], out := [27, 91, 53, 59, 49, 48, 72], f := f }) := by
    rw [runS_step (s' := { ps := [{ num := 4 }, { num := 9 }] ++ List.replicate 7 {}, st := [], out := [27], f := f }) (by decide) (by decide) (by decide) (by decide) rfl]
    rw [runS_step (s' := { ps := [{ num := 4 }, { num := 9 }] ++ List.replicate 7 {}, st := [], out := [27, 91], f := f }) (by decide) (by decide) (by decide) (by decide) rfl]
    rw [runS_step (s' := { ps := [{ num := 5 }, { num := 10 }] ++ List.replicate 7 {}, st := [], out := [27, 91], f := f }) (by decide) (by decide) (by decide) (by decide) rfl]
    rw [runS_step (s' := { ps := [{ num := 5 }, { num := 10 }] ++ List.replicate 7 {}, st := [{ num := 5 }], out := [27, 91], f := f }) (by decide) (by decide) (by decide) (by decide) rfl]
    rw [runS_step (x := dCode) (by decide) (by decide) (by decide) (by decide) (does_d (n := 5) rfl (by omega) (by omega) (by simp))]
    rw [itoa5]
    rw [runS_step (s' := { ps := [{ num := 5 }, { num := 10 }] ++ List.replicate 7 {}, st := [], out := [27, 91, 53, 59], f := f }) (by decide) (by decide) (by decide) (by decide) rfl]
    rw [runS_step (s' := { ps := [{ num := 5 }, { num := 10 }] ++ List.replicate 7 {}, st := [{ num := 10 }], out := [27, 91, 53, 59], f := f }) (by decide) (by decide) (by decide) (by decide) rfl]
    rw [runS_step (x := dCode) (by decide) (by decide) (by decide) (by decide) (does_d (n := 10) rfl (by omega) (by omega) (by simp))]
    rw [itoa10]
    rw [runS_step (s' := { ps := [{ num := 5 }, { num := 10 }] ++ List.replicate 7 {}, st := [], out := [27, 91, 53, 59, 49, 48, 72], f := f }) (by decide) (by decide) (by decide) (by decide) rfl]
    rfl
  exact cap_out (by decide) beg_parse (by decide) rfl (by rw [h]) (by rw [h])
theorem bs22b (w : World) (a b c d e f : Value) : (Instr.buildSlice 22 2 #[(0, .agg #[a, b, c]), (1, .agg #[d, e, f])]).run Tryd.prog w = .ok (.slice (some ⟨w.heap.size, 0, none⟩) 2 2) (w.alloc (.cells #[a, b, c, d, e, f] 36)) := by kernel_rfl
theorem CapAt.lt' {w : World} {b : Nat} {s : List UInt8} {L : List Nat} (h : CapAt w b s L) : ∀ x, x ∈ L → x < w.heap.size := by
  obtain ⟨v, Lc, h1, h2, h3⟩ := h.ex
  subst h3
  intro x hx
  simp only [List.mem_cons] at hx
  rcases hx with rfl | hx
  · exact lt_of_heap h1
  · exact Own.lt h2 x hx
section
variable {w : World} {K : Value → World → Prop}
/-- Two parameters in a slice. -/
theorem two_ps {p q : Par} (k : ∀ v w', Rd w' w'.heap.size 3 v [p, q].length (parsC [p, q]) → Ch [] w w' → K v w') : S.v Tryd.prog (Instr.buildSlice 22 2 #[(0, parV p), (1, parV q)]) K w := by
  refine v_ok (bs22b ..) ?_
  have hn := heap_alloc_new w (.cells #[I32 p.num, strV p.text, .bool p.is, I32 q.num, strV q.text, .bool q.is] 36)
  have hown : Own (w.alloc (.cells #[I32 p.num, strV p.text, .bool p.is, I32 q.num, strV q.text, .bool q.is] 36)) 36 3 (.slice (some ⟨w.heap.size, 0, none⟩) 2 2) 2 (parsC [p, q]) [w.heap.size] := Own.fresh hn rfl (by simp only [maxLen]; omega)
  exact k _ _ hown.rd (ch_alloc w _)
theorem one_ps {p : Par} (k : ∀ v w', Rd w' w'.heap.size 3 v [p].length (parsC [p]) → Ch [] w w' → K v w') : S.v Tryd.prog (Instr.buildSlice 22 1 #[(0, parV p)]) K w := by
  refine v_ok (bs22 ..) ?_
  have hn := heap_alloc_new w (.cells #[I32 p.num, strV p.text, .bool p.is] 36)
  have hown : Own (w.alloc (.cells #[I32 p.num, strV p.text, .bool p.is] 36)) 36 3 (.slice (some ⟨w.heap.size, 0, none⟩) 1 1) 1 (parsC [p]) [w.heap.size] := Own.fresh hn rfl (by simp only [maxLen]; omega)
  exact k _ _ hown.rd (ch_alloc w _)
theorem Ch.fresh {L : List Nat} {w w1 w2 : World} (h1 : Ch [] w w1) (h2 : Ch L w1 w2) (h : ∀ x, x ∈ L → w.heap.size ≤ x) : Ch [] w w2 := h1.trans h2 (fun x hx => .inr (h x hx))
theorem begun_ (hg : Gnd w) (k : ∀ w', Ch [] w w' → K (.bool true) w') : S.call Tryd.prog 9 [] K w := by
  refine F9_link ?_
  unfold F9
  have h6 := hg.1
  rw [show (Value.string { data := #[27, 91, 37, 105, 37, 112, 49, 37, 100, 59, 37, 112, 50, 37, 100, 72] }) = strV begS from rfl]
  refine new_ fun w1 L1 hcap hc1 hl1 => ?_
  refine newvars_ fun w2 bv mm hv hc2 hbv hmm => ?_
  refine numP_ fun w3 hc3 => ?_
  refine numP_ fun w4 hc4 => ?_
  have hs1 := hc1.size
  have hs2 := hc2.size
  have hs3 := hc3.size
  have hs4 := hc4.size
  refine two_ps fun v w5 hrd hc5 => ?_
  have hs5 := hc5.size
  have hc25 : Ch [] w2 w5 := (hc3.trans hc4 (by simp)).trans hc5 (by simp)
  have hc15 : Ch [] w1 w5 := hc2.trans hc25 (by simp)
  have hc05 : Ch [] w w5 := hc1.trans hc15 (by simp)
  refine run_ (hcap.ch hc15 (by simp)) ⟨hc25.at_ hv.1 (by simp), hv.2.1.ch hc25 (by simp), hv.2.2⟩ (hg.ch hc05 (by simp)) (by omega) (fun hm => by have := hcap.lt' mm hm; omega) hrd (fun p hp => ?_) (fun c p h => by cases h) fun w6 hc6 => ?_
  · simp only [List.mem_cons, List.not_mem_nil, or_false] at hp
    rcases hp with rfl | rfl
    · exact numOk (wrap32_ok _)
    · exact numOk (wrap32_ok _)
  · rw [show capRun begS (fun _ => none) [{ num := IntKind.i32.wrap 4 }, { num := IntKind.i32.wrap 9 }] = ([27, 91, 53, 59, 49, 48, 72], 0, 0) from beg_run _]
    dsimp only
    rw [x30, x31, x32, show (Value.string { data := #[27, 91, 53, 59, 49, 48, 72] }) = strV [27, 91, 53, 59, 49, 48, 72] from rfl, eqs_v, decide_eq_true rfl, br_true, eq_v, decide_eq_true (show ((0 : Nat) : Int) = 0 from rfl), br_true, eq_v, decide_eq_true (show (0 : Int) = 0 from rfl)]
    exact k w6 (Ch.fresh hc05 hc6 (by simp; omega))
end
end Go.Proofs.YtjaoeipfiodnfaaDoor
