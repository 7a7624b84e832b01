import Derived.Test.YtjaoeipfiodnfaaDoorBG
set_option linter.unusedVariables false
set_option maxRecDepth 4000
namespace Go.Proofs.YtjaoeipfiodnfaaDoor
open Go Go.Fw Go.Proofs Go.RowKit
/-! ### TparmNumbers -/
def xCode : Code := { op := 100, c := 120, flags := [], width := 0, prec := -1 }
def wCode (w : Nat) : Code := { op := 100, c := 100, flags := if w = 0 then [48] else [], width := w, prec := -1 }
def eqC (x y : Code) : Bool := decide (x.at' = y.at') && decide (x.op = y.op) && decide (x.c = y.c) && decide (x.n = y.n) && decide (x.flags = y.flags) && decide (x.width = y.width) && decide (x.prec = y.prec)
theorem eqC_eq {x y : Code} (h : eqC x y = true) : x = y := by
  unfold eqC at h
  simp only [Bool.and_eq_true, decide_eq_true_eq] at h
  obtain ⟨⟨⟨⟨⟨⟨h1, h2⟩, h3⟩, h4⟩, h5⟩, h6⟩, h7⟩ := h
  cases x; cases y
  simp_all
def okW (w : Nat) : Bool := match oneR (37 :: (decL w ++ [100])) with
  | some (x, []) => eqC x (wCode w)
  | _ => false
theorem w_check : ∀ w, w < 256 → okW w = true := by decide +kernel
theorem w_parse {w : Nat} (h : w < 256) : oneR (37 :: (decL w ++ [100])) = some (wCode w, []) := by
  have := w_check w h
  unfold okW at this
  split at this
  · rename_i x he
    rw [he, eqC_eq this]
  · cases this
theorem does_fmt {x : Code} {ps st : List Par} {p : Par} {out t : List UInt8} {f : UInt8 → Option Par} (hop : x.op.toNat = 100) (hf : fmtR x p = t) (hl : out.length + t.length ≤ 16384) : doesR x { ps := ps, st := p :: st, out := out, f := f } = (0, { ps := ps, st := st, out := out ++ t, f := f }) := by
  unfold doesR
  rw [if_neg (by omega), if_neg (by omega), if_pos (by omega)]
  show writeR { ps := ps, st := st, out := out, f := f } (fmtR x p) = _
  rw [hf]
  unfold writeR
  rw [if_neg (by simp only; omega)]
theorem fmt_x (n : Int) (p : Par) (hn : p.num = n) : fmtR xCode p = digB 16 (u32n n) := by
  have hb : bodyR xCode p = (digB 16 (u32n n), []) := by
    unfold bodyR
    rw [if_neg (by decide), hn]
    unfold digitsR
    have e0 : rawD xCode n = (digB 16 (u32n n), []) := by unfold rawD; rw [if_neg (by decide), if_neg (by decide), if_pos (by decide)]
    have e1 : ∀ s, s1R xCode n s = s := fun s => by unfold s1R; rw [if_neg (by simp [xCode])]
    have e2 : ∀ s, s2R xCode s = s := fun s => by unfold s2R; rw [if_neg (by simp only [xCode]; omega)]
    rw [e0, e1, e2]
    unfold s3R
    rw [if_neg (by rw [show xCode.flags = [] from rfl, has1_nil]; simp)]
  have hp : ∀ q, padN xCode q = 0 := fun q => by unfold padN; simp only [xCode]; omega
  unfold fmtR
  simp only
  rw [if_neg (by rw [show xCode.flags = [] from rfl, has1_nil]; simp), if_neg (by rw [show xCode.flags = [] from rfl, has1_nil]; simp), hp, hb, List.replicate_zero]
  rfl
theorem has_w (w : Nat) (c : UInt8) (h : has1 [48] c = false) : has1 (wCode w).flags c = false := by
  unfold wCode
  simp only
  split
  · exact h
  · exact has1_nil c
theorem fmt_w (w : Nat) (n : Int) (p : Par) (hn : p.num = n) : fmtR (wCode w) p = List.replicate (w - (Lib.itoa n).length) 32 ++ Lib.itoa n := by
  have h := digits_d (x := wCode w) n rfl rfl (has_w w 43 (by decide)) (has_w w 32 (by decide)) (has_w w 35 (by decide))
  have hb : bodyR (wCode w) p = digitsR (wCode w) n := by unfold bodyR; rw [if_neg (by show ¬ (100 : UInt8).toNat = 115; decide), hn]
  have hl : (Lib.itoa n).length = (digitsR (wCode w) n).1.length + (digitsR (wCode w) n).2.length := by rw [← h, List.length_append]; omega
  have hp : padN (wCode w) (digitsR (wCode w) n) = w - (Lib.itoa n).length := by
    unfold padN
    show (max 0 ((w : Int) - _ - _)).toNat = _
    omega
  unfold fmtR
  simp only
  rw [if_neg (by rw [has_w w 45 (by decide)]; simp), hb, hp]
  by_cases h0 : w = 0
  · subst h0
    rw [if_pos ⟨by decide, by show (-1 : Int) < 0; omega, by show (100 : UInt8).toNat ≠ 115; decide⟩, show 0 - (Lib.itoa n).length = 0 from by omega, List.replicate_zero, List.append_nil, h]
    rfl
  · rw [if_neg (fun hh => by
      have h1 := hh.1
      unfold wCode at h1
      simp only at h1
      rw [if_neg h0, has1_nil] at h1
      cases h1), List.append_assoc, h]
def numPre : List UInt8 := [37, 112, 49, 37, 100, 44, 37, 112, 49, 37, 120, 44, 37, 112, 49, 37]
def numOut (n : Int) (w : Nat) : List UInt8 := Lib.itoa n ++ [44] ++ digB 16 (u32n n) ++ [44] ++ List.replicate (w - (Lib.itoa n).length) 32 ++ Lib.itoa n
theorem num_run {n : Int} {w : Nat} (f : UInt8 → Option Par) (hn : -2147483648 ≤ n ∧ n ≤ 2147483647) (hw : w < 256) : capRun (numPre ++ Lib.itoa (w : Int) ++ [100]) f [{ num := n }] = (numOut n w, 0, 0) := by
  have hd := itoa_le hn.1 hn.2
  have hx := digB_len 16 (u32n n)
  have hwl : (decL w).length ≤ 3 := by unfold decL; repeat' split <;> simp
  have hs : numPre ++ Lib.itoa (w : Int) ++ [100] = [37, 112, 49, 37, 100, 44, 37, 112, 49, 37, 120, 44, 37, 112, 49] ++ (37 :: (decL w ++ [100])) := by rw [itoa_nat, dec_decL (by omega)]; simp [numPre]
  rw [hs]
  have hp : PRs ([37, 112, 49, 37, 100, 44, 37, 112, 49, 37, 120, 44, 37, 112, 49] ++ (37 :: (decL w ++ [100]))) [{ op := 112, c := 49 }, dCode, { c := 44 }, { op := 112, c := 49 }, xCode, { c := 44 }, { op := 112, c := 49 }, wCode w] :=
    PRs.cons' rfl rfl (PRs.cons' rfl rfl (PRs.cons' rfl rfl (PRs.cons' rfl rfl (PRs.cons' rfl rfl (PRs.cons' rfl rfl (PRs.cons' rfl rfl (PRs.cons' (w_parse hw) rfl PRs.nil)))))))
  have h : runS [{ op := 112, c := 49 }, dCode, { c := 44 }, { op := 112, c := 49 }, xCode, { c := 44 }, { op := 112, c := 49 }, wCode w] 0 (run0 f [{ num := n }]) = (0, 0, { ps := [{ num := n }] ++ List.replicate 8 {}, st := [], out := numOut n w, f := f }) := by
    rw [runS_step (s' := { ps := [{ num := n }] ++ List.replicate 8 {}, st := [{ num := n }], out := [], f := f }) (by decide) (by decide) (by decide) (by decide) rfl]
    rw [runS_step (x := dCode) (by decide) (by decide) (by decide) (by decide) (does_fmt rfl (fmt_d n _ rfl) (by simp; omega))]
    rw [runS_step (x := { c := 44 }) (by decide) (by decide) (by decide) (by decide) (does_lit (by simp; omega))]
    rw [runS_step (s' := { ps := [{ num := n }] ++ List.replicate 8 {}, st := [{ num := n }], out := [] ++ Lib.itoa n ++ [44], f := f }) (by decide) (by decide) (by decide) (by decide) rfl]
    rw [runS_step (x := xCode) (by decide) (by decide) (by decide) (by decide) (does_fmt rfl (fmt_x n _ rfl) (by simp; omega))]
    rw [runS_step (x := { c := 44 }) (by decide) (by decide) (by decide) (by decide) (does_lit (by simp; omega))]
    rw [runS_step (s' := { ps := [{ num := n }] ++ List.replicate 8 {}, st := [{ num := n }], out := [] ++ Lib.itoa n ++ [44] ++ digB 16 (u32n n) ++ [44], f := f }) (by decide) (by decide) (by decide) (by decide) rfl]
    rw [runS_step (x := wCode w) (by show ¬ (100 : UInt8).toNat = 63; decide) (by show ¬ (100 : UInt8).toNat = 59; decide) (by show ¬ (100 : UInt8).toNat = 116; decide) (by show ¬ (100 : UInt8).toNat = 101; decide) (does_fmt rfl (fmt_w w n _ rfl) (by simp; omega))]
    rw [runS_nil]
    simp [numOut]
  exact cap_out (by simp; omega) hp (by simp) rfl (by rw [h]) (by rw [h])
section
variable {w : World} {K : Value → World → Prop}
theorem cv213' {n : Int} (w : World) (h1 : -2147483648 ≤ n) (h2 : n ≤ 2147483647) : (Go.convert 21 3 (I32 n)).run Tryd.prog w = .ok (I64 n) w := cvI w (by kernel_rfl) (by kernel_rfl) (by kernel_rfl) (wrap_i64 (by omega) (by omega))
set_option maxHeartbeats 1000000
theorem numbers_ {n : Int} {wd : Nat} (hn : -2147483648 ≤ n ∧ n ≤ 2147483647) (hw : wd < 256) (hg : Gnd w) (k : ∀ w', Ch [] w w' → K (.bool true) w') : S.call Tryd.prog 5 [I32 n, .int .u8 wd] K w := by
  refine F5_link ?_
  unfold F5
  have h6 := hg.1
  refine begun_ hg fun w1 hc1 => ?_
  rw [not_v, show (!true) = false from rfl, br_false, v_eq (cv53 _ _ (by omega))]
  refine itoa_ (by omega) (by omega) (hg.ch hc1 (by simp)) fun w2 hc2 => ?_
  have hc02 : Ch [] w w2 := hc1.trans hc2 (by simp)
  have hwl : (Lib.itoa (wd : Int)).length ≤ 11 := itoa_le (by omega) (by omega)
  have hnl := itoa_le hn.1 hn.2
  have hxl := digB_len 16 (u32n n)
  rw [show (Value.string { data := #[37, 112, 49, 37, 100, 44, 37, 112, 49, 37, 120, 44, 37, 112, 49, 37] }) = strV numPre from rfl, show (Value.string { data := #[100] }) = strV [100] from rfl, show (Value.string { data := #[44] }) = strV [44] from rfl]
  have hnp : numPre.length = 16 := rfl
  rw [addS_v (by omega), addS_v (by simp; omega)]
  refine new_ fun w5 L5 hcap hc5 hl5 => ?_
  have hs2 := hc02.size
  have hs5 := hc5.size
  refine newvars_ fun w6 bv mm hv hc6 hbv hmm => ?_
  have hs6 := hc6.size
  rw [v_eq (bd36n ..)]
  refine one_ps fun v w7 hrd hc7 => ?_
  have hs7 := hc7.size
  have hc57 : Ch [] w5 w7 := hc6.trans hc7 (by simp)
  have hc07 : Ch [] w w7 := (hc02.trans hc5 (by simp)).trans hc57 (by simp)
  refine run_ (hcap.ch hc57 (by simp)) ⟨hc7.at_ hv.1 (by simp), hv.2.1.ch hc7 (by simp), hv.2.2⟩ (hg.ch hc07 (by simp)) (by omega) (fun hm => by have := hcap.lt' mm hm; omega) hrd (fun p hp => ?_) (fun c p h => by cases h) fun w8 hc8 => ?_
  · simp only [List.mem_cons, List.not_mem_nil, or_false] at hp
    subst hp
    exact numOk hn
  rw [num_run _ hn hw]
  dsimp only
  have hc08 : Ch [] w w8 := Ch.fresh hc07 hc8 (by simp; omega)
  rw [x30, x31, x32, v_eq (cv213' _ hn.1 hn.2)]
  refine itoa_ (by omega) (by omega) (hg.ch hc08 (by simp)) fun w9 hc9 => ?_
  have hc09 : Ch [] w w9 := hc08.trans hc9 (by simp)
  rw [addS_v (by simp; omega), v_eq (cvu _), v_eq (cvu2 _)]
  refine fmtUint_ (b := 16) (.inr rfl) (u32n_lt n) (hg.ch hc09 (by simp)) fun w10 hc10 => ?_
  have hc010 : Ch [] w w10 := hc09.trans hc10 (by simp)
  rw [addS_v (by simp; omega), addS_v (by simp; omega), lenS_v', sub_v, wrap_i64 (by omega) (by omega), v_eq (run_max ..), show max (0 : Int) ((wd : Int) - ((Lib.itoa n).length : Int)) = ((wd - (Lib.itoa n).length : Nat) : Int) from by omega]
  refine repeat_ (by omega) fun w11 hc11 => ?_
  rw [addS_v (by simp; omega), addS_v (by simp; omega), eq_v, decide_eq_true (show (0 : Int) = 0 from rfl), br_true, eqs_v, decide_eq_true (by simp [numOut])]
  exact k w11 (hc010.trans hc11 (by simp))
end
end Go.Proofs.YtjaoeipfiodnfaaDoor
