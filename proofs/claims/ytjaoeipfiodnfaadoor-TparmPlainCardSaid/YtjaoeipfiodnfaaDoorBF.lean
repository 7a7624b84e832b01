import Derived.Test.YtjaoeipfiodnfaaDoorBE
set_option linter.unusedVariables false
set_option maxRecDepth 4000
namespace Go.Proofs.YtjaoeipfiodnfaaDoor
open Go Go.Fw Go.Proofs Go.RowKit
/-! ### Run -/
def runF : Nat → List Code → Nat → MS → Int × Nat × MS
  | 0, _, _, s => (0, 0, s)
  | _ + 1, [], _, s => (0, 0, s)
  | n + 1, x :: r, o, s =>
    if x.op.toNat = 63 then runF n r (o + 1) s
    else if x.op.toNat = 59 then runF n r (o - 1) s
    else if x.op.toNat = 116 then (if 0 < o then (if (popR s).1.num = 0 then runF n (behindS true 0 r) o (popR s).2 else runF n r o (popR s).2) else runF n r o s)
    else if x.op.toNat = 101 then (if 0 < o then runF n (behindS false 0 r) o s else runF n r o s)
    else if (doesR x s).1 = 0 then runF n r o (doesR x s).2 else ((doesR x s).1, x.at', (doesR x s).2)
theorem runF_more : ∀ (n m : Nat) (t : List Code) (o : Nat) (s : MS), t.length ≤ n → t.length ≤ m → runF n t o s = runF m t o s
  | 0, m, t, o, s, h1, h2 => by
    have : t = [] := List.eq_nil_of_length_eq_zero (by omega)
    subst this
    cases m <;> rfl
  | n + 1, 0, t, o, s, h1, h2 => by
    have : t = [] := List.eq_nil_of_length_eq_zero (by omega)
    subst this
    rfl
  | n + 1, m + 1, [], o, s, h1, h2 => rfl
  | n + 1, m + 1, x :: r, o, s, h1, h2 => by
    simp only [List.length_cons] at h1 h2
    have hb1 := behindS_len true r 0
    have hb2 := behindS_len false r 0
    have e1 : ∀ o s, runF n r o s = runF m r o s := fun o s => runF_more n m r o s (by omega) (by omega)
    have e2 : ∀ o s, runF n (behindS true 0 r) o s = runF m (behindS true 0 r) o s := fun o s => runF_more n m _ o s (by omega) (by omega)
    have e3 : ∀ o s, runF n (behindS false 0 r) o s = runF m (behindS false 0 r) o s := fun o s => runF_more n m _ o s (by omega) (by omega)
    simp only [runF, e1, e2, e3]
def runS (t : List Code) (o : Nat) (s : MS) : Int × Nat × MS := runF t.length t o s
theorem runS_nil (o : Nat) (s : MS) : runS [] o s = (0, 0, s) := rfl
theorem runS_cons (x : Code) (r : List Code) (o : Nat) (s : MS) : runS (x :: r) o s =
    if x.op.toNat = 63 then runS r (o + 1) s
    else if x.op.toNat = 59 then runS r (o - 1) s
    else if x.op.toNat = 116 then (if 0 < o then (if (popR s).1.num = 0 then runS (behindS true 0 r) o (popR s).2 else runS r o (popR s).2) else runS r o s)
    else if x.op.toNat = 101 then (if 0 < o then runS (behindS false 0 r) o s else runS r o s)
    else if (doesR x s).1 = 0 then runS r o (doesR x s).2 else ((doesR x s).1, x.at', (doesR x s).2) := by
  have hb1 := behindS_len true r 0
  have hb2 := behindS_len false r 0
  have e2 : ∀ o s, runF r.length (behindS true 0 r) o s = runS (behindS true 0 r) o s := fun o s => runF_more _ _ _ o s hb1 (Nat.le_refl _)
  have e3 : ∀ o s, runF r.length (behindS false 0 r) o s = runS (behindS false 0 r) o s := fun o s => runF_more _ _ _ o s hb2 (Nat.le_refl _)
  show runF (r.length + 1) (x :: r) o s = _
  simp only [runF, e2, e3]
  rfl
def run0 (f : UInt8 → Option Par) (ps : List Par) : MS := { ps := ps ++ List.replicate (9 - ps.length) {}, st := [], out := [], f := f }
def capRun (s : List UInt8) (f : UInt8 → Option Par) (ps : List Par) : List UInt8 × Nat × Int :=
  if (capE s).2.2 ≠ 0 then ([], (capE s).2.1, (capE s).2.2)
  else if 9 < ps.length then ([], 0, 1) else if ps.all mayB = false then ([], 0, 1)
  else if (runS (capE s).1 0 (run0 f ps)).1 = 0 then ((runS (capE s).1 0 (run0 f ps)).2.2.out, 0, 0) else ([], (runS (capE s).1 0 (run0 f ps)).2.1, (runS (capE s).1 0 (run0 f ps)).1)
theorem parsC_setPar {l : List Par} {i : Nat} (p : Par) (h : i < l.length) : parsC (l.set i p) = (parsC l).take (i * 3) ++ parC p ++ (parsC l).drop (i * 3 + 3) := by
  rw [List.set_eq_take_append_cons_drop, if_pos h, parsC_append, parsC_cons, parsC_take, show i * 3 + 3 = (i + 1) * 3 from by omega, parsC_drop, List.append_assoc]
theorem mC_setPar {bv : Nat} {ps : List Par} {sv ov : Value} {i : Nat} (p : Par) (h : i < ps.length) : ((mC bv ps sv ov).toList.take (1 + i * 3) ++ parC p ++ (mC bv ps sv ov).toList.drop (1 + i * 3 + 3)).toArray = mC bv (ps.set i p) sv ov := by
  have hl := parsC_len ps
  apply Array.ext'
  unfold mC
  simp only
  rw [parsC_setPar p h, show 1 + i * 3 = i * 3 + 1 from by omega, List.take_succ_cons, List.take_append_of_le_length (by omega), show i * 3 + 1 + 3 = (i * 3 + 3) + 1 from by omega, List.drop_succ_cons, List.drop_append_of_le_length (by omega)]
  simp
theorem pad_set {ps : List Par} {i : Nat} {p : Par} (h9 : ps.length ≤ 9) (h : ps[i]? = some p) : (ps.take i ++ List.replicate (9 - i) ({} : Par)).set i p = ps.take (i + 1) ++ List.replicate (9 - (i + 1)) ({} : Par) := by
  have hi := (List.getElem?_eq_some_iff.1 h).1
  have hp := (List.getElem?_eq_some_iff.1 h).2
  rw [List.set_append_right _ _ (by simp; omega), List.length_take, Nat.min_eq_left (by omega), Nat.sub_self, show 9 - i = (9 - (i + 1)) + 1 from by omega, List.replicate_succ, List.set_cons_zero, List.take_succ_eq_append_getElem hi, hp]
  simp
section
variable {w : World} {K : Value → World → Prop}
theorem stwo {t sz b off : Nat} {vs : List Value} {cs : Array Value} {e : TypeId} {K : World → Prop} (h : aggSz Tryd.prog t = some sz) (hb : w.heap[b]? = some (.cells cs e (0, 0))) (hc : off + sz ≤ cs.size) (hl : vs.length = sz) (h1 : ∀ u ∈ vs, u.oneCell' = true)
    (k : ∀ w' : World, w'.heap[b]? = some (.cells (cs.toList.take off ++ vs ++ cs.toList.drop (off + sz)).toArray e (0, 0)) → Ch [b] w w' → w'.heap.size = w.heap.size → K w') : S.u Tryd.prog (Instr.storeAt t (.pointer (some ⟨b, off, none⟩)) (.agg vs.toArray)) K w := by
  have hst := run_storeCells_at Tryd.prog b off e vs 0 cs w hb (by omega) h1
  simp only [Nat.add_zero] at hst
  rw [hl] at hst
  refine u_ok (w' := w.setRow b (cs.toList.take off ++ vs ++ cs.toList.drop (off + sz)).toArray) ?_ (k _ (setRow_heap w b cs _ e _ hb) (ch_setRow w b _) (by simp))
  unfold Instr.storeAt storeVar
  have hcells : (Value.agg vs.toArray).cells = vs.toArray := rfl
  simp only [Instr.sureAddr, Sem.run_bind, Sem.run_pure, Result.andThen_ok, run_sizeOf_agg h, hcells]
  rw [if_neg (by simp; omega)]
  exact hst
theorem bd73 (w : World) (bv : Nat) : (Instr.build 73 #[(0, PT bv)]).run Tryd.prog w = .ok (.agg (mC bv (List.replicate 9 {}) (.slice none 0 0) (.slice none 0 0))) w := by kernel_rfl
set_option maxHeartbeats 2000000
theorem run_ {b bv mm : Nat} {s : List UInt8} {L : List Nat} {f : UInt8 → Option Par} {v : Value} {ps : List Par} (hc : CapAt w b s L) (hv : VAt w bv mm f) (hg : Gnd w) (h6 : 6 ≤ mm) (hmL : mm ∉ L) (hps : Rd w w.heap.size 3 v ps.length (parsC ps)) (hok : ∀ p, p ∈ ps → ParOk p) (hf : ∀ c p, f c = some p → ParOk p)
    (k : ∀ w', Ch [mm] w w' → K (.tuple #[strV (capRun s f ps).1, I64 (capRun s f ps).2.1, I64 (capRun s f ps).2.2]) w') : S.call Tryd.prog 12 [PT b, PT bv, v] K w := by
  refine F12_link ?_
  unfold F12
  refine check_ hc fun w1 hc1 => ?_
  rw [x20, x21, ne_v]
  refine br_dec _ _ _ (fun he => ?_) (fun he => ?_)
  · have hR : capRun s f ps = ([], (capE s).2.1, (capE s).2.2) := by unfold capRun; rw [if_pos he]
    rw [hR] at k
    exact k w1 hc1.nil
  have he0 : ¬ ((capE s).2.2 ≠ 0) := he
  obtain ⟨hfit, hcl⟩ := capE_fit s
  have hv1 := hc1.at_ hv.1 (by simp)
  refine vnone_ hv1 ?_
  rw [br_false, v_eq (bd73 w1 bv)]
  refine Go.Fw.bx fun w2 hb2 hc2 hs2 => ?_
  have hc02 : Ch [] w w2 := hc1.trans hc2 (by simp)
  have hs01 := hc1.size
  obtain ⟨A, c, hsl, _⟩ := hps.form
  rw [lenr_v el22 (hps.ch hc02 (by simp)), gt_v]
  refine br_dec _ _ _ (fun h9 => ?_) (fun h9 => ?_)
  · have hR : capRun s f ps = ([], 0, 1) := by unfold capRun; rw [if_neg he0, if_pos (by omega)]
    rw [hR] at k
    exact k w2 hc02.nil
  have h9' : ps.length ≤ 9 := by omega
  rw [lenr_v el22 (hps.ch hc02 (by simp))]
  generalize hbm : w1.heap.size = bm at *
  have hbmm : bm ≠ mm := by
    have := hv.2.1.lt
    omega
  have hbv : bv < w.heap.size := lt_of_heap hv.1
  have hmm : mm < w.heap.size := hv.2.1.lt
  have hpsz := hg.1
  have hm2 : MAt w2 bm bv mm { ps := ps.take 0 ++ List.replicate (9 - 0) {}, st := [], out := [], f := f } [bm, mm] := by
    refine ⟨rfl, .slice none 0 0, .slice none 0 0, [], [], hb2, hc2.at_ hv1 (by simp), (hv.2.1.ch hc1 (by simp)).ch hc2 (by simp), Own.nil _ _ _, Own.nil _ _ _, rfl, ?_⟩
    have := hv.2.2
    simp
    omega
  have hps2 : ∀ (w' : World), Ch [] w2 w' ∨ Ch [bm] w2 w' → Rd w' w.heap.size 3 v ps.length (parsC ps) := fun w' h => by
    have h0 := hps.ch hc02 (by simp)
    rcases h with h | h
    · exact h0.ch h (by simp)
    · exact h0.ch h (by simp; omega)
  intro I hC
  -- the parameters
  have params : ∀ (d i : Nat) (x6 x7 x8 x12 x13 x38 x44 : Value) (w' : World), i + d = ps.length → (∀ p, p ∈ ps.take i → mayB p = true) → MAt w' bm bv mm { ps := ps.take i ++ List.replicate (9 - i) {}, st := [], out := [], f := f } [bm, mm] → Ch [bm] w2 w' → I [x6, x7, x8, x12, x13, I64 i, x38, x44] w' := by
    intro d
    induction d with
    | succ d ih =>
      intro i x6 x7 x8 x12 x13 x38 x44 w' hi hmay hm hch
      refine hC _ _ _ _ _ _ _ _ _ ?_
      have hil : i < ps.length := by omega
      obtain ⟨p, hp⟩ : ∃ p, ps[i]? = some p := ⟨ps[i], List.getElem?_eq_getElem hil⟩
      rw [lt_v, decide_eq_true (by omega), br_true, ixa_v el22 ag36 (hps2 w' (.inr hch)) (by omega) rfl hil (ys := parC p) (parsC_at hp)]
      have hsz' := hch.size
      refine al z36 fun w3 hb3 hc3 hs3 => ?_
      refine stw (vs := (parC p).toArray) ag36 hb3 rfl rfl (by simpa using one_par (p := p)) fun w4 hb4 hc4 hs4 => ?_
      rw [ldw_v ag36 hb4 rfl]
      have hc24 : Ch [] w' w4 := (hc3.nil.trans hc4 (fun x hx => .inl hx)).mono (by simp)
      refine may_ fun w5 hc5 => ?_
      rw [not_v]
      have hc25 : Ch [] w' w5 := hc24.trans hc5 (by simp)
      cases hmp : mayB p with
      | false =>
        rw [show (!false) = true from rfl, br_true]
        have hR : capRun s f ps = ([], 0, 1) := by
          unfold capRun
          rw [if_neg he0, if_neg (by omega), if_pos]
          · rw [← Bool.not_eq_true, List.all_eq_true]
            intro h
            have := h p (List.mem_of_getElem? hp)
            rw [hmp] at this
            cases this
        rw [hR] at k
        have hx5 : Ch [bm] w2 w5 := hch.trans hc25.nil (fun x hx => .inl hx)
        exact k w5 ((hc02.nil (L := [mm])).trans hx5 (by simp; omega))
      | true =>
        rw [show (!true) = false from rfl, br_false]
        refine drawn_ok fun w6 hc6 hs6 => ?_
        have hc26 : Ch [] w' w6 := hc25.trans hc6 (by simp)
        have hm6 := hm.ch hc26 (by simp)
        have hb6 := (hc5.trans hc6 (by simp)).at_ hb4 (by simp)
        obtain ⟨sv, ov, Ls, Lo, a1, a2, a3, a4, a5, a6, a7⟩ := hm6.ex
        have hn9 := hm6.n9
        refine ⟨fun w' => w' = w6, rfl, ?_⟩
        rw [h_p, ldw_p ag36 hb6 rfl, nilC_v]
        refine ⟨rfl, ?_⟩
        rw [fa_v fo73_1]
        refine ⟨rfl, ?_⟩
        rw [h_p, p_eq (by have := run_iaa (w := w6) ar70 (g := bm) (off := 1) .i64 (i : Int) (by omega) (by omega); rwa [Int.toNat_natCast] at this)]
        refine stwo (vs := parC p) ag36 a1 (by rw [mC_size hn9]; omega) rfl one_par fun w7 hb7 hc7 hs7 => ?_
        rw [add_v, wrap_i64 (by omega) (by omega), show (i : Int) + 1 = ((i + 1 : Nat) : Int) from by omega]
        rw [mC_setPar p (by rw [hn9]; omega)] at hb7
        simp only at hb7
        rw [pad_set h9' hp] at hb7
        have nd := a7
        rw [a6] at nd
        simp only [List.nodup_cons, List.mem_cons, List.mem_append, not_or] at nd
        refine ih (i + 1) _ _ _ _ _ _ _ w7 (by omega) (fun q hq => ?_) ⟨?_, sv, ov, Ls, Lo, hb7, hc7.at_ a2 (by simpa using nd.1.1), a3.ch hc7 (by simpa using fun e => nd.2.1.1 e.symm), a4.ch hc7 (fun x hx => by simp; exact fun e => nd.2.1.2.1 (e ▸ hx)), a5.ch hc7 (fun x hx => by simp; exact fun e => nd.2.1.2.2 (e ▸ hx)), a6, a7⟩ ((hch.trans hc26.nil (fun x hx => .inl hx)).trans hc7 (fun x hx => .inl hx))
        · have hpp := (List.getElem?_eq_some_iff.1 hp).2
          rw [List.take_succ_eq_append_getElem hil, hpp] at hq
          simp only [List.mem_append, List.mem_singleton] at hq
          rcases hq with hq | rfl
          · exact hmay q hq
          · exact hmp
        · have := congrArg List.length (pad_set h9' hp)
          simp at this ⊢
          omega
    | zero =>
      intro i x6 x7 x8 x12 x13 x38 x44 w' hi hmay hm hch
      refine hC _ _ _ _ _ _ _ _ _ ?_
      rw [lt_v, decide_eq_false (by omega), br_false]
      have hi' : i = ps.length := by omega
      rw [hi', List.take_length] at hm hmay
      have hall : ps.all mayB = true := by rw [List.all_eq_true]; exact hmay
      have hR : capRun s f ps = if (runS (capE s).1 0 (run0 f ps)).1 = 0 then ((runS (capE s).1 0 (run0 f ps)).2.2.out, 0, 0) else ([], (runS (capE s).1 0 (run0 f ps)).2.1, (runS (capE s).1 0 (run0 f ps)).1) := by
        unfold capRun
        rw [if_neg he0, if_neg (by omega), if_neg (by rw [hall]; simp)]
      rw [hR] at k
      have hm' : MAt w' bm bv mm (run0 f ps) [bm, mm] := hm
      have hok0 : MsOk (run0 f ps) := ⟨fun p hp => by
          simp only [run0, List.mem_append, List.mem_replicate] at hp
          rcases hp with hp | ⟨_, rfl⟩
          · exact hok p hp
          · exact parOk0, fun p hp => by simp [run0] at hp, by simp [run0], by simp [run0], hf⟩
      generalize run0 f ps = s0 at *
      generalize hRR : runS (capE s).1 0 s0 = R at *
      have hc0 : Ch [mm] w w' := (hc02.nil (L := [mm])).trans hch (by simp; omega)
      intro I1 hC1
      have key : ∀ (n : Nat) (t : List Code) (i o : Nat) (s' : MS) (y1 y2 y3 y4 y5 y6 y7 y8 y9 y10 y11 y12 y13 : Value) (w3 : World) (L3 : List Nat), t.length ≤ n → (capE s).1.drop i = t → i ≤ (capE s).1.length → o ≤ i → MAt w3 bm bv mm s' L3 → MsOk s' → Ch [mm] w w3 → (∀ x, x ∈ L3 → x = mm ∨ w.heap.size ≤ x) → runS t o s' = R →
          I1 [y1, y2, y3, I64 o, I64 i, y4, y5, y6, y7, y8, y9, y10, y11, y12, y13] w3 := by
        intro n
        induction n with
        | zero =>
          intro t i o s' y1 y2 y3 y4 y5 y6 y7 y8 y9 y10 y11 y12 y13 w3 L3 hn ht hi ho hm3 hok3 hch3 hL3 hR3
          refine hC1 _ _ _ _ _ _ _ _ _ _ _ _ _ _ _ _ ?_
          have ht0 : t = [] := List.eq_nil_of_length_eq_zero (by omega)
          subst ht0
          rw [runS_nil] at hR3
          have hil : i = (capE s).1.length := by
            have := congrArg List.length ht
            simp at this
            omega
          obtain ⟨vc, Lc, g1, g2, g3⟩ := (hc.ch hch3 (fun x hx => by simp; exact fun e => hmL (e ▸ hx))).ex
          have hrd : Rd w3 w3.heap.size 7 vc (capE s).1.length (codesC (capE s).1) := Own.rd g2
          rw [nilC_v, fa_v fo53_1, ld_v sc51 (cells5 g1).2.1, lenr_v el51 hrd, lt_v, decide_eq_false (by omega), br_false]
          obtain ⟨sv, ov, Ls, Lo, a1, a2, a3, a4, a5, a6, a7⟩ := hm3.ex
          have hn9 := hm3.n9
          rw [nilC_v, fa_v fo73_3, ldb_v sc71 a1 (mC_29 hn9), cvbs_v by71 Tryd.underlying9 a5.rd]
          have hRo : R.1 = 0 ∧ R.2.2.out = s'.out := by rw [← hR3]; exact ⟨rfl, rfl⟩
          have := k w3 hch3
          rw [if_pos hRo.1, hRo.2] at this
          exact this
        | succ n ih =>
          intro t i o s' y1 y2 y3 y4 y5 y6 y7 y8 y9 y10 y11 y12 y13 w3 L3 hn ht hi ho hm3 hok3 hch3 hL3 hR3
          refine hC1 _ _ _ _ _ _ _ _ _ _ _ _ _ _ _ _ ?_
          obtain ⟨vc, Lc, g1, g2, g3⟩ := (hc.ch hch3 (fun x hx => by simp; exact fun e => hmL (e ▸ hx))).ex
          have hrd : Rd w3 w3.heap.size 7 vc (capE s).1.length (codesC (capE s).1) := Own.rd g2
          rw [nilC_v, fa_v fo53_1, ld_v sc51 (cells5 g1).2.1, lenr_v el51 hrd, lt_v]
          cases t with
          | nil =>
            rw [runS_nil] at hR3
            have hil : i = (capE s).1.length := by
              have := congrArg List.length ht
              simp at this
              omega
            rw [decide_eq_false (by omega), br_false]
            obtain ⟨sv, ov, Ls, Lo, a1, a2, a3, a4, a5, a6, a7⟩ := hm3.ex
            have hn9 := hm3.n9
            rw [nilC_v, fa_v fo73_3, ldb_v sc71 a1 (mC_29 hn9), cvbs_v by71 Tryd.underlying9 a5.rd]
            have hRo : R.1 = 0 ∧ R.2.2.out = s'.out := by rw [← hR3]; exact ⟨rfl, rfl⟩
            have := k w3 hch3
            rw [if_pos hRo.1, hRo.2] at this
            exact this
          | cons x r =>
            obtain ⟨hx, hdr⟩ := dropc ht
            have hil := (List.getElem?_eq_some_iff.1 hx).1
            have hxf := hfit x (List.mem_of_getElem? hx)
            simp only [List.length_cons] at hn
            rw [decide_eq_true (by omega), br_true]
            rw [runS_cons] at hR3
            have hsz3 := hch3.size
            refine seq_ok fun J hJ => ?_
            have hJ' : ∀ (t' : List Code) (j o' : Nat) (iv : Int) (s2 : MS) (z1 z2 z3 z4 z5 z6 z7 z8 z9 z10 z11 z12 : Value) (w4 : World) (L4 : List Nat), iv + 1 = j → t'.length ≤ n → (capE s).1.drop j = t' → j ≤ (capE s).1.length → o' ≤ j → MAt w4 bm bv mm s2 L4 → MsOk s2 → Ch [mm] w w4 → (∀ x, x ∈ L4 → x = mm ∨ w.heap.size ≤ x) → runS t' o' s2 = R →
                J [z1, z2, z3, I64 o', I64 iv, z4, z5, z6, z7, z8, z9, z10, z11, z12] w4 := by
              intro t' j o' iv s2 z1 z2 z3 z4 z5 z6 z7 z8 z9 z10 z11 z12 w4 L4 hiv hn' hd' hj' ho' hm4 hok4 hch4 hL4 hR4
              refine hJ _ _ ?_
              simp only [nth_zero, nth_succ]
              rw [add_v, wrap_i64 (by omega) (by omega), hiv]
              exact ih t' j o' s2 _ _ _ _ _ _ _ _ _ _ _ _ _ w4 L4 hn' hd' hj' ho' hm4 hok4 hch4 hL4 hR4
            rw [nilC_v, fa_v fo53_1, ld_v sc51 (cells5 g1).2.1, ixa_v el51 ag76 hrd (by omega) rfl hil (ys := codeC x) (codesC_at hx)]
            refine al z76 fun w4 hb4 hc4 hs4 => ?_
            refine stw (vs := (codeC x).toArray) ag76 hb4 rfl rfl (fun u hu => one_code x u (by simpa [codeC] using hu)) fun w5 hb5 hc5 hs5 => ?_
            generalize hgg : w3.heap.size = g at *
            have hx5 : CAt w5 g x := hb5
            have hc35 : Ch [] w3 w5 := (hc4.nil.trans hc5 (fun x hx => .inl hx)).mono (by simp; omega)
            have hm5 := hm3.ch hc35 (by simp)
            have hch5 : Ch [mm] w w5 := hch3.trans hc35 (by simp)
            have hgL : g ∉ L3 := fun hm => by have := hm3.lt g (by simp [hm]); omega
            rw [fa_v fo76_1, ldOp hx5, eqC_v]
            refine br_dec _ _ _ (fun c1 => ?_) (fun c1 => ?_)
            · rw [if_pos (by omega)] at hR3
              rw [add_v, wrap_i64 (by omega) (by omega), show (o : Int) + 1 = ((o + 1 : Nat) : Int) from by omega]
              exact hJ' r (i + 1) (o + 1) i s' _ _ _ _ _ _ _ _ _ _ _ _ w5 L3 (by omega) (by omega) hdr (by omega) (by omega) hm5 hok3 hch5 hL3 hR3
            rw [if_neg (by omega)] at hR3
            rw [fa_v fo76_1, ldOp hx5, eqC_v]
            refine br_dec _ _ _ (fun c2 => ?_) (fun c2 => ?_)
            · rw [if_pos (by omega)] at hR3
              rw [sub_v, wrap_i64 (by omega) (by omega), v_eq (run_max ..), show max (0 : Int) ((o : Int) - 1) = ((o - 1 : Nat) : Int) from by omega]
              exact hJ' r (i + 1) (o - 1) i s' _ _ _ _ _ _ _ _ _ _ _ _ w5 L3 (by omega) (by omega) hdr (by omega) (by omega) hm5 hok3 hch5 hL3 hR3
            rw [if_neg (by omega)] at hR3
            rw [fa_v fo76_1, ldOp hx5, eqC_v]
            refine br_dec _ _ _ (fun c3 => ?_) (fun c3 => ?_)
            · rw [if_pos (by omega)] at hR3
              rw [gt_v]
              refine br_dec _ _ _ (fun c4 => ?_) (fun c4 => ?_)
              · rw [if_pos (by omega)] at hR3
                have hop := popOk hok3
                refine num_ hm5 hok3.sl fun w6 L6 hm6 hc6 hl6 => ?_
                have hL6 : ∀ x, x ∈ L6 → x = mm ∨ w.heap.size ≤ x := fun x hx => by
                  rcases hl6 x hx with h | h
                  · exact hL3 x h
                  · exact .inr (by have := hch5.size; omega)
                have hch6 : Ch [mm] w w6 := hch5.trans hc6 (fun x hx => by
                  rcases hL3 x hx with h | h
                  · exact .inl (by simp [h])
                  · exact .inr h)
                rw [eq_v]
                refine br_dec _ _ _ (fun c5 => ?_) (fun c5 => ?_)
                · rw [if_pos c5] at hR3
                  obtain ⟨vd, Ld, d1, d2, d3⟩ := (hc.ch hch6 (fun x hx => by simp; exact fun e => hmL (e ▸ hx))).ex
                  rw [nilC_v, fa_v fo53_1, ld_v sc51 (cells5 d1).2.1, add_v, wrap_i64 (by omega) (by omega), show (i : Int) + 1 = ((i + 1 : Nat) : Int) from by omega]
                  refine behind_ d2 hcl (by omega) fun j hj1 hj2 hj3 => ?_
                  rw [hdr] at hj3
                  have hbl := behindS_len true r 0
                  rw [sub_v, wrap_i64 (by omega) (by omega)]
                  exact hJ' _ j o _ _ _ _ _ _ _ _ _ _ _ _ _ _ w6 L6 (by omega) (by omega) hj3 hj2 (by omega) hm6 hop.2 hch6 hL6 hR3
                · rw [if_neg c5] at hR3
                  exact hJ' r (i + 1) o i _ _ _ _ _ _ _ _ _ _ _ _ _ w6 L6 (by omega) (by omega) hdr (by omega) (by omega) hm6 hop.2 hch6 hL6 hR3
              · rw [if_neg (by omega)] at hR3
                exact hJ' r (i + 1) o i s' _ _ _ _ _ _ _ _ _ _ _ _ w5 L3 (by omega) (by omega) hdr (by omega) (by omega) hm5 hok3 hch5 hL3 hR3
            rw [if_neg (by omega)] at hR3
            rw [fa_v fo76_1, ldOp hx5, eqC_v]
            refine br_dec _ _ _ (fun c6 => ?_) (fun c6 => ?_)
            · rw [if_pos (by omega)] at hR3
              rw [gt_v]
              refine br_dec _ _ _ (fun c7 => ?_) (fun c7 => ?_)
              · rw [if_pos (by omega)] at hR3
                obtain ⟨vd, Ld, d1, d2, d3⟩ := (hc.ch hch5 (fun x hx => by simp; exact fun e => hmL (e ▸ hx))).ex
                rw [nilC_v, fa_v fo53_1, ld_v sc51 (cells5 d1).2.1, add_v, wrap_i64 (by omega) (by omega), show (i : Int) + 1 = ((i + 1 : Nat) : Int) from by omega]
                refine behind_ d2 hcl (by omega) fun j hj1 hj2 hj3 => ?_
                rw [hdr] at hj3
                have hbl := behindS_len false r 0
                rw [sub_v, wrap_i64 (by omega) (by omega)]
                exact hJ' _ j o _ s' _ _ _ _ _ _ _ _ _ _ _ _ w5 L3 (by omega) (by omega) hj3 hj2 (by omega) hm5 hok3 hch5 hL3 hR3
              · rw [if_neg (by omega)] at hR3
                exact hJ' r (i + 1) o i s' _ _ _ _ _ _ _ _ _ _ _ _ w5 L3 (by omega) (by omega) hdr (by omega) (by omega) hm5 hok3 hch5 hL3 hR3
            rw [if_neg (by omega)] at hR3
            rw [ldX hx5]
            have h6L : ∀ y, y ∈ L3 → 6 ≤ y := fun y hy => by
              rcases hL3 y hy with h | h
              · omega
              · omega
            have hg5 : Gnd w5 := hg.ch hch5 (by simp; omega)
            refine does_ hm5 hok3 hxf.ok hg5 h6L ⟨fun h0 w6 L6 hm6 hc6 hl6 => ?_, fun h0 w6 hc6 => ?_⟩
            · dsimp only
              rw [ne_v, decide_eq_false (by simp), br_false]
              rw [if_pos h0] at hR3
              have hch6 : Ch [mm] w w6 := hch5.trans hc6 (fun x hx => by
                rcases hL3 x hx with h | h
                · exact .inl (by simp [h])
                · exact .inr h)
              have hokd : MsOk (doesR x s').2 := doesOk hok3 ⟨hxf.n1, hxf.n2⟩ (by rw [← h0])
              exact hJ' r (i + 1) o i _ _ _ _ _ _ _ _ _ _ _ _ _ w6 L6 (by omega) (by omega) hdr (by omega) (by omega) hm6 hokd hch6 (fun x hx => by
                rcases hl6 x hx with h | h
                · exact hL3 x h
                · exact .inr (by have := hch5.size; omega)) hR3
            · dsimp only
              rw [ne_v, decide_eq_true h0, br_true]
              rw [if_neg h0] at hR3
              refine drawn_ok fun w7 hc7 hs7 => ?_
              have hx7 : CAt w7 g x := hc7.at_ (hc6.at_ hx5 hgL) (by simp)
              rw [fa_p fo76_0, ld_p sc3 (cells7 hx7).1]
              have hch7 : Ch [mm] w w7 := (hch5.trans hc6 (fun x hx => by
                rcases hL3 x hx with h | h
                · exact .inl (by simp [h])
                · exact .inr h)).trans hc7 (by simp)
              have hR1 : R.1 = (doesR x s').1 ∧ R.2.1 = x.at' := by rw [← hR3]; exact ⟨rfl, rfl⟩
              have := k w7 hch7
              rw [if_neg (by rw [hR1.1]; exact h0), hR1.1, hR1.2] at this
              exact this
      exact key _ (capE s).1 0 0 s0 _ _ _ _ _ _ _ _ _ _ _ _ _ w' _ (Nat.le_refl _) (by simp) (by omega) (by omega) hm' hok0 hc0 (by simp; omega) hRR
  exact params ps.length 0 _ _ _ _ _ _ _ w2 (by omega) (by simp) hm2 (Ch.refl _ _)
end
end Go.Proofs.YtjaoeipfiodnfaaDoor
