import Derived.Test.YtjaoeipfiodnfaaDoorBC
set_option linter.unusedVariables false
set_option maxRecDepth 4000
namespace Go.Proofs.YtjaoeipfiodnfaaDoor
open Go Go.Fw Go.Proofs Go.RowKit
theorem padN_le {x : Code} (hx : CodeOk x) (q : List UInt8 × List UInt8) : padN x q ≤ 1000 := by
  have := hx.wd
  unfold padN
  omega
theorem fmtR_len {x : Code} {p : Par} (hp : ParOk p) (hx : CodeOk x) : (fmtR x p).length ≤ 4611686018427387904 := by
  obtain ⟨h1, h2⟩ := bodyR_len hp hx
  have h3 := padN_le hx (bodyR x p)
  unfold fmtR
  simp only
  repeat' split
  all_goals simp
  all_goals omega
theorem parsC_cell {l : List Par} {i j : Nat} {p : Par} (h : l[i]? = some p) (hj : j < 3) : (parsC l)[i * 3 + j]? = (parC p)[j]? := by
  rw [← parsC_at h, List.getElem?_take_of_lt hj, List.getElem?_drop]
theorem parsC_lt {l : List Par} {i j : Nat} {p : Par} (h : l[i]? = some p) (hj : j < 3) : i * 3 + j < (parsC l).length := by
  have := (List.getElem?_eq_some_iff.1 h).1
  rw [parsC_len]
  omega
theorem mC_par {bv : Nat} {ps : List Par} {sv ov : Value} {i j : Nat} {p : Par} (h : ps[i]? = some p) (hj : j < 3) : (mC bv ps sv ov)[1 + i * 3 + j]? = (parC p)[j]? := by
  unfold mC
  rw [List.getElem?_toArray, show 1 + i * 3 + j = (i * 3 + j) + 1 from by omega, List.getElem?_cons_succ, List.getElem?_append_left (parsC_lt h hj), parsC_cell h hj]
theorem parsC_set : ∀ {l : List Par} {i : Nat} {p : Par} (n : Int), l[i]? = some p → (parsC l).set (i * 3) (I32 n) = parsC (l.set i { p with num := n })
  | [], i, p, n, h => by simp at h
  | a :: r, 0, p, n, h => by
    simp only [List.getElem?_cons_zero, Option.some.injEq] at h
    subst h
    rfl
  | a :: r, i + 1, p, n, h => by
    simp only [List.getElem?_cons_succ] at h
    have ih := parsC_set n h
    rw [parsC_cons, List.set_cons_succ, parsC_cons, List.set_append_right _ _ (by show 3 ≤ _; omega), show (i + 1) * 3 - (parC a).length = i * 3 from by show (i + 1) * 3 - 3 = _; omega, ih]
theorem mC_setNum {bv : Nat} {ps : List Par} {sv ov : Value} {i : Nat} {p : Par} (n : Int) (h : ps[i]? = some p) : (mC bv ps sv ov).setIfInBounds (1 + i * 3 + 0) (I32 n) = mC bv (ps.set i { p with num := n }) sv ov := by
  have hl := parsC_lt h (show 0 < 3 by omega)
  apply Array.ext'
  unfold mC
  simp only [Array.toList_setIfInBounds]
  rw [show 1 + i * 3 + 0 = i * 3 + 1 from by omega, List.set_cons_succ, List.set_append_left _ _ (by omega), parsC_set n h]
theorem popR_ps (s : MS) : (popR s).2.ps = s.ps := by unfold popR; split <;> rfl
theorem popR_f (s : MS) : (popR s).2.f = s.f := by unfold popR; split <;> rfl
theorem ar70 : arT Tryd.prog 70 = some (9, 36, 3) := by kernel_rfl
section
variable {w : World} {K : Value → World → Prop}
theorem run_fa0 {s : TypeId} {i o b : Nat} (w : World) (h : fieldOff Tryd.prog s i = some o) : (Instr.fieldAt s (.pointer (some ⟨b, 0, none⟩)) i).run Tryd.prog w = .ok (.pointer (some ⟨b, o, none⟩)) w := by
  have := run_fa (P := Tryd.prog) (w := w) (b := b) (off := 0) h
  rwa [Nat.zero_add] at this
theorem run_par {bm bv i : Nat} {ps : List Par} {sv ov : Value} {p : Par} (hb : w.heap[bm]? = some (.cells (mC bv ps sv ov) 73 (0, 0))) (h : ps[i]? = some p) : (Instr.loadAt 36 (.pointer (some ⟨bm, 1 + i * 3, none⟩))).run Tryd.prog w = .ok (parV p) w :=
  run_lda (vs := parC p) ag36 rfl fun j v hv => by
    have hj : j < 3 := (List.getElem?_eq_some_iff.1 hv).1
    rw [add_mk, cell_heap hb, mC_par h hj]
    exact hv
theorem DGo.addC {bm bv mm g : Nat} {x : Code} {L : List Nat} {r : Int × MS} (h : DGo w bm bv mm L r K) (hC : CAt w g x) (hg : g ∉ L) : DGo w bm bv mm L r (fun t w' => CAt w' g x ∧ K t w') :=
  ⟨fun h0 w' L' hm hc hl => ⟨hc.at_ hC hg, h.1 h0 w' L' hm hc hl⟩, fun h0 w' hc => ⟨hc.at_ hC hg, h.2 h0 w' hc⟩⟩
theorem pushH {Q : World → Prop} {bm bv mm : Nat} {s : MS} {p : Par} {L : List Nat} (h : MAt w bm bv mm s L) (k : DGo w bm bv mm L (pushR s p) K) (q1 : ∀ w', Ch [] w w' → Q w') (q2 : ∀ w' L' st', MAt w' bm bv mm { s with st := st' } L' → Ch L w w' → Q w') :
    S.call Tryd.prog 55 [PT bm, parV p] (fun t w' => Q w' ∧ K t w') w := by
  unfold pushR at k
  refine push_ h (fun h1 w' hc => ?_) (fun h1 w' L' hm hc hl => ?_)
  · rw [if_pos h1] at k
    exact ⟨q1 w' hc, k.2 (by simp) w' hc.nil⟩
  · rw [if_neg (by omega)] at k
    exact ⟨q2 w' L' _ hm hc, k.1 rfl w' L' hm hc hl⟩
theorem cv215 {n : Int} (w : World) : (Go.convert 21 5 (I32 n)).run Tryd.prog w = .ok (byteV (u8n n)) w := cvI w (by kernel_rfl) (by kernel_rfl) (by kernel_rfl) (by
  unfold u8n
  simp [IntKind.wrap, IntKind.signed, IntKind.bits]
  omega)
theorem notN_v {n : Int} : S.v Tryd.prog (Op.unary .xor (I32 n)) K w = K (I32 (bits .xor .i32 (-1) n)) w := v_eq rfl
set_option maxHeartbeats 2000000
theorem does_ {bm bv mm : Nat} {x : Code} {s : MS} {L : List Nat} (h : MAt w bm bv mm s L) (ok : MsOk s) (hx : CodeOk x) (hg : Gnd w) (h6 : ∀ y, y ∈ L → 6 ≤ y) (k : DGo w bm bv mm L (doesR x s) K) : S.call Tryd.prog 33 [PT bm, codeV x] K w := by
  refine F33_link ?_
  unfold F33
  have hlt := h.lt
  refine Go.Fw.bx fun w1 hb1 hc1 hs1 => ?_
  have hx1 : CAt w1 w.heap.size x := hb1
  generalize hgb : w.heap.size = g at *
  have h1 := h.ch hc1 (by simp)
  have hgL : g ∉ bv :: L := fun hm => by have := hlt g hm; omega
  have hgL' : g ∉ L := fun hm => hgL (by simp [hm])
  have hk : ∀ r, doesR x s = r → DGo w1 bm bv mm L r K := fun r e => e ▸ k.trans hc1.nil (fun x hx => .inl hx)
  clear k
  have hsz0 := hg.1
  have hg1 := hg.ch hc1 (by simp)
  have hop := popOk ok
  refine seq_ok fun J hJ => ?_
  rw [fa_v fo76_1, ldOp hx1, eqC_v]
  refine br_dec _ _ _ (fun c0 => ?_) (fun c0 => ?_)
  · have k0 := hk _ (by unfold doesR; rw [if_pos (by omega)])
    rw [fa_v fo76_2, ldC hx1]
    refine bs1 sl71 rfl rfl fun w2 ho2 hc2 hs2 => ?_
    rw [cvbs_v by71 Tryd.underlying9 (bs := [x.c]) ho2.rd]
    exact writeD (h1.ch hc2 (by simp)) ok.ol (by simp) (k0.trans hc2.nil (fun x hx => .inl hx))
  rw [eqC_v]
  refine br_dec _ _ _ (fun c1 => ?_) (fun c1 => ?_)
  · have k0 := hk _ (by unfold doesR; rw [if_neg (by omega), if_pos (by omega)])
    refine num_ h1 ok.sl fun w2 L2 h2 hc2 hl2 => ?_
    rw [v_eq (cv215 _)]
    refine bs1 sl71 rfl rfl fun w3 ho3 hc3 hs3 => ?_
    rw [cvbs_v by71 Tryd.underlying9 (bs := [u8n (popR s).1.num]) ho3.rd]
    exact writeD (h2.ch hc3 (by simp)) hop.2.ol (by simp) ((k0.trans hc2 hl2).trans hc3.nil (fun x hx => .inl hx))
  rw [eqC_v]
  refine br_dec _ _ _ (fun c2 => ?_) (fun c2 => ?_)
  · have k0 := hk _ (by unfold doesR; rw [if_neg (by omega), if_neg (by omega), if_pos (by omega)])
    refine drawn_ok fun w2 hc2 hs2 => ?_
    have h2 := h1.ch hc2 (by simp)
    have hx2 : CAt w2 g x := hc2.at_ hx1 (by simp)
    refine ⟨fun w' => CAt w' g x, hx2, ?_⟩
    refine h_ok (x := codeV x) (fun w' hw => run_lda (vs := codeC x) ag76 rfl (block_cells hw)) ?_
    refine pop_ h2 ok.sl fun w3 L3 h3 hc3 hl3 => ?_
    have hx3 : CAt w3 g x := hc3.at_ hx2 hgL'
    refine ⟨hx3, ?_⟩
    have hg3 : Gnd w3 := (hg1.ch hc2 (by simp)).ch hc3 h6
    refine formatted_ hop.1 hx hg3 fun w4 hc4 => ?_
    have hgL3 : g ∉ L3 := fun hm => by
      rcases hl3 g hm with h | h
      · exact hgL' h
      · omega
    refine writeD (h3.ch hc4 (by simp)) hop.2.ol (fmtR_len hop.1 hx) ?_
    refine DGo.addC (((k0.trans hc2.nil (fun x hx => .inl hx)).trans hc3 hl3).trans hc4.nil (fun x hx => .inl hx)) (hc4.at_ hx3 (by simp)) hgL3
  rw [eqC_v]
  refine br_dec _ _ _ (fun c3 => ?_) (fun c3 => ?_)
  · have k0 := hk _ (by unfold doesR; rw [if_neg (by omega), if_neg (by omega), if_neg (by omega), if_pos (by omega)])
    have k1 := k0.1 rfl
    clear k0 hk
    intro I hC
    have body : ∀ (i : Nat) (p : Par) (a b c : Value) (w' : World) (L' : List Nat) (ps' : List Par), i < 2 → ps'[i]? = some p → MAt w' bm bv mm { s with ps := ps' } L' → (∀ (w2 : World) (a b c : Value), MAt w2 bm bv mm { s with ps := ps'.set i (incP p) } L' → Ch L' w' w2 → I [a, I64 ((i + 1 : Nat) : Int), b, c] w2) → I [a, I64 i, b, c] w' := by
      intro i p a b c w' L' ps' hi hp hm hI
      refine hC _ _ _ _ _ ?_
      rw [lt_v, decide_eq_true (by omega), br_true]
      refine seq_ok fun J1 hJ1 => ?_
      have hJ1' : ∀ (w2 : World) (a b : Value), MAt w2 bm bv mm { s with ps := ps'.set i (incP p) } L' → Ch L' w' w2 → J1 [a, b] w2 := by
        intro w2 a b hm2 hc2
        refine hJ1 _ _ ?_
        rw [add_v, wrap_i64 (by omega) (by omega), show (i : Int) + 1 = ((i + 1 : Nat) : Int) from by omega]
        exact hI w2 _ _ _ hm2 hc2
      clear hJ1
      obtain ⟨sv, ov, Ls, Lo, a1, a2, a3, a4, a5, a6, a7⟩ := hm.ex
      have hn9 := hm.n9
      have hfld : (mC bv ps' sv ov)[1 + i * 3 + 2]? = some (.bool p.is) := by rw [mC_par hp (by omega)]; rfl
      rw [nilC_v, fa_v fo73_1, iaa_v ar70 i rfl (by omega), fag_v fo36_2, ldb_v sc4 a1 hfld, not_v]
      cases his : p.is with
      | true =>
        rw [show (!true) = false from rfl, br_false]
        have he : ps'.set i (incP p) = ps' := by
          unfold incP
          rw [if_pos his]
          apply List.ext_getElem?
          intro q
          rw [List.getElem?_set]
          split
          · rename_i e
            subst e
            rw [if_pos (List.getElem?_eq_some_iff.1 hp).1, hp]
          · rfl
        refine hJ1' w' _ _ ?_ (Ch.refl _ _)
        rw [he]
        exact hm
      | false =>
        rw [show (!false) = true from rfl, br_true]
        refine drawn_ok fun w2 hc2 hs2 => ?_
        have b1 := hc2.at_ a1 (by simp)
        have hnum : (mC bv ps' sv ov)[1 + i * 3 + 0]? = some (I32 p.num) := by rw [mC_par hp (by omega)]; rfl
        refine ⟨fun w' => w' = w2, rfl, ?_⟩
        rw [h_p, nilC_p, h_p, fa_p fo73_1, h_p]
        rw [p_eq (by have := run_iaa (w := w2) ar70 (g := bm) (off := 1) .i64 (i : Int) (by omega) (by omega); rwa [Int.toNat_natCast] at this), h_p, fag_p fo36_0, h_p, ldb_p sc21 b1 hnum, h_p, add_p, nilC_v]
        refine ⟨rfl, ?_⟩
        rw [fa_v fo73_1]
        refine ⟨rfl, ?_⟩
        rw [iaa_v ar70 i rfl (by omega), fag_v fo36_0]
        refine st sc21 b1 (by rw [mC_size hn9]; omega) rfl fun w3 hb3 hc3 hs3 => ?_
        rw [mC_setNum _ hp] at hb3
        have he : incP p = { p with num := IntKind.i32.wrap (p.num + 1) } := by unfold incP; rw [if_neg (by rw [his]; simp)]
        refine hJ1' w3 _ _ ?_ (hc2.nil.trans hc3 (fun x hx => .inl (by simp at hx; rw [hx, a6]; simp)))
        rw [he]
        have nd := a7
        rw [a6] at nd
        simp only [List.nodup_cons, List.mem_cons, List.mem_append, not_or] at nd
        refine ⟨by simpa using hn9, sv, ov, Ls, Lo, hb3, hc3.at_ (hc2.at_ a2 (by simp)) (by simpa using nd.1.1), (a3.ch hc2 (by simp)).ch hc3 (by simpa using fun e => nd.2.1.1 e.symm), (a4.ch hc2 (by simp)).ch hc3 (fun x hx => by simp; exact fun e => nd.2.1.2.1 (e ▸ hx)), (a5.ch hc2 (by simp)).ch hc3 (fun x hx => by simp; exact fun e => nd.2.1.2.2 (e ▸ hx)), a6, a7⟩
    have hn9 := h.n9
    obtain ⟨p0, p1, r, hps⟩ : ∃ p0 p1 r, s.ps = p0 :: p1 :: r := by
      match hs : s.ps, hn9 with
      | [], h => simp [hs] at hn9
      | [a], h => simp [hs] at hn9
      | a :: b :: r, h => exact ⟨a, b, r, rfl⟩
    refine body 0 p0 _ _ _ w1 L s.ps (by omega) (by rw [hps]; rfl) h1 fun w2 a b c hm2 hc2 => ?_
    refine body 1 p1 _ _ _ w2 L (s.ps.set 0 (incP p0)) (by omega) (by rw [hps]; rfl) hm2 fun w3 a b c hm3 hc3 => ?_
    refine hC _ _ _ _ _ ?_
    rw [lt_v, decide_eq_false (by omega), br_false]
    refine hJ _ _ ?_
    refine k1 w3 L ?_ (hc2.trans hc3 (fun x hx => .inl hx)) (fun x hx => .inl hx)
    have he : (s.ps.set 0 (incP p0)).set 1 (incP p1) = incR s.ps := by rw [hps]; rfl
    rw [he] at hm3
    exact hm3
  rw [eqC_v]
  refine br_dec _ _ _ (fun c4 => ?_) (fun c4 => ?_)
  · have k0 := hk _ (by unfold doesR; rw [if_neg (by omega), if_neg (by omega), if_neg (by omega), if_neg (by omega), if_pos (by omega)])
    have hcc := hx.pm (by omega)
    have hn9 := h.n9
    obtain ⟨p, hp⟩ : ∃ p, s.ps[x.c.toNat - 49]? = some p := ⟨_, List.getElem?_eq_getElem (by omega)⟩
    rw [List.getD_eq_getElem?_getD, hp, Option.getD_some] at k0
    refine drawn_ok fun w2 hc2 hs2 => ?_
    have h2 := h1.ch hc2 (by simp)
    have hx2 : CAt w2 g x := hc2.at_ hx1 (by simp)
    obtain ⟨sv, ov, Ls, Lo, a1, a2, a3, a4, a5, a6, a7⟩ := h2.ex
    refine ⟨fun w' => CAt w' g x ∧ ∃ sv ov, w'.heap[bm]? = some (.cells (mC bv s.ps sv ov) 73 (0, 0)), ⟨hx2, sv, ov, a1⟩, ?_⟩
    refine h_ok (x := .pointer (some ⟨g, 2, none⟩)) (fun w' hw => run_fa0 w' fo76_2) ?_
    refine h_ok (x := byteV x.c) (fun w' hw => run_ld sc5 (cells7 hw.1).2.2.1) ?_
    refine h_ok (x := .int .u8 ((x.c.toNat - 49 : Nat) : Int)) (fun w' hw => by
      show (S.bin .sub 5 _ _ (.int .u8 (x.c.toNat : Int)) (.int .u8 49)).run _ _ = _
      rw [run_sub]
      congr 2
      have := x.c.toNat_lt
      simp [IntKind.wrap, IntKind.signed, IntKind.bits]
      omega) ?_
    refine h_ok (x := PT bm) (fun w' hw => run_nilC _) ?_
    refine h_ok (x := .pointer (some ⟨bm, 1, none⟩)) (fun w' hw => run_fa0 w' fo73_1) ?_
    refine h_ok (x := .pointer (some ⟨bm, 1 + (x.c.toNat - 49) * 3, none⟩)) (fun w' hw => by
      have := run_iaa (w := w') ar70 (g := bm) (off := 1) .u8 ((x.c.toNat - 49 : Nat) : Int) (by omega) (by omega)
      rwa [Int.toNat_natCast] at this) ?_
    refine h_ok (x := parV p) (fun w' hw => by obtain ⟨_, sv', ov', hb⟩ := hw; exact run_par hb hp) ?_
    refine pushH h2 (k0.trans hc2.nil (fun x hx => .inl hx)) (fun w' hc => ⟨hc.at_ hx2 (by simp), sv, ov, hc.at_ a1 (by simp)⟩) (fun w' L' st' hm hc => ⟨hc.at_ hx2 hgL', ?_⟩)
    obtain ⟨sv', ov', _, _, b1, _⟩ := hm.ex
    exact ⟨sv', ov', b1⟩
  rw [eqC_v]
  refine br_dec _ _ _ (fun c5 => ?_) (fun c5 => ?_)
  · have k0 := hk _ (by unfold doesR; rw [if_neg (by omega), if_neg (by omega), if_neg (by omega), if_neg (by omega), if_neg (by omega), if_pos (by omega)])
    have k1 := k0.1 rfl
    clear k0 hk
    refine drawn_ok fun w2 hc2 hs2 => ?_
    have h2 := h1.ch hc2 (by simp)
    have hx2 : CAt w2 g x := hc2.at_ hx1 (by simp)
    obtain ⟨sv, ov, Ls, Lo, a1, a2, a3, a4, a5, a6, a7⟩ := h2.ex
    refine ⟨fun w' => CAt w' g x ∧ (∃ sv ov, w'.heap[bm]? = some (.cells (mC bv s.ps sv ov) 73 (0, 0))) ∧ w'.heap[bv]? = some (.cells #[.map (some mm)] 61 (0, 0)), ⟨hx2, ⟨sv, ov, a1⟩, a2⟩, ?_⟩
    refine h_ok (x := PT bm) (fun w' hw => run_nilC _) ?_
    refine h_ok (x := .pointer (some ⟨bm, 0, none⟩)) (fun w' hw => run_fa0 w' fo73_0) ?_
    refine h_ok (x := PT bv) (fun w' hw => by obtain ⟨_, ⟨sv', ov', hb⟩, _⟩ := hw; exact run_ld sc30 ((cell_heap hb).trans rfl)) ?_
    refine h_ok (x := PT bv) (fun w' hw => run_nilC _) ?_
    refine h_ok (x := .pointer (some ⟨bv, 0, none⟩)) (fun w' hw => run_fa0 w' fo61_0) ?_
    refine h_ok (x := .map (some mm)) (fun w' hw => run_ld sc59 (cells1 hw.2.2)) ?_
    refine h_ok (x := .pointer (some ⟨g, 2, none⟩)) (fun w' hw => run_fa0 w' fo76_2) ?_
    refine h_ok (x := byteV x.c) (fun w' hw => run_ld sc5 (cells7 hw.1).2.2.1) ?_
    refine pop_ h2 ok.sl fun w3 L3 h3 hc3 hl3 => ?_
    obtain ⟨sv3, ov3, Ls3, Lo3, b1, b2, b3, b4, b5, b6, b7⟩ := h3.ex
    refine ⟨⟨hc3.at_ hx2 hgL', ⟨sv3, ov3, by rw [popR_ps] at b1; exact b1⟩, b2⟩, ?_⟩
    refine vmu b3 fun w4 hv4 hc4 hs4 => ?_
    refine hJ _ _ ?_
    have nd := b7
    rw [b6] at nd
    simp only [List.nodup_cons, List.mem_cons, List.mem_append, not_or] at nd
    have hcc4 : Ch L w1 w4 := (hc2.nil.trans hc3 (fun x hx => .inl hx)).trans hc4 (fun x hx => by
      simp at hx
      subst hx
      rcases hl3 x (by rw [b6]; simp) with h | h
      · exact .inl h
      · exact .inr (by have := hc2.size; omega))
    refine k1 w4 L3 ⟨h3.n9, sv3, ov3, Ls3, Lo3, hc4.at_ b1 (by simpa using nd.2.1.1), hc4.at_ b2 (by simpa using nd.1.2.1), ?_, b4.ch hc4 (fun x hx => by simp; exact fun e => nd.2.2.1.1 (e ▸ hx)), b5.ch hc4 (fun x hx => by simp; exact fun e => nd.2.2.1.2 (e ▸ hx)), b6, b7⟩ hcc4 (fun x hx => by
      rcases hl3 x hx with h | h
      · exact .inl h
      · exact .inr (by have := hc2.size; omega))
    exact hv4
  rw [eqC_v]
  refine br_dec _ _ _ (fun c6 => ?_) (fun c6 => ?_)
  · have k0 := hk _ (by unfold doesR; rw [if_neg (by omega), if_neg (by omega), if_neg (by omega), if_neg (by omega), if_neg (by omega), if_neg (by omega), if_pos (by omega)])
    refine drawn_ok fun w2 hc2 hs2 => ?_
    have h2 := h1.ch hc2 (by simp)
    have hx2 : CAt w2 g x := hc2.at_ hx1 (by simp)
    obtain ⟨sv, ov, Ls, Lo, a1, a2, a3, a4, a5, a6, a7⟩ := h2.ex
    have hq : CAt w2 g x ∧ (∃ sv ov, w2.heap[bm]? = some (.cells (mC bv s.ps sv ov) 73 (0, 0))) ∧ w2.heap[bv]? = some (.cells #[.map (some mm)] 61 (0, 0)) := ⟨hx2, ⟨sv, ov, a1⟩, a2⟩
    refine ⟨fun w' => CAt w' g x ∧ (∃ sv ov, w'.heap[bm]? = some (.cells (mC bv s.ps sv ov) 73 (0, 0))) ∧ w'.heap[bv]? = some (.cells #[.map (some mm)] 61 (0, 0)), hq, ?_⟩
    refine h_ok (x := PT bm) (fun w' hw => run_nilC _) ?_
    refine h_ok (x := .pointer (some ⟨bm, 0, none⟩)) (fun w' hw => run_fa0 w' fo73_0) ?_
    refine h_ok (x := PT bv) (fun w' hw => by obtain ⟨_, ⟨sv', ov', hb⟩, _⟩ := hw; exact run_ld sc30 ((cell_heap hb).trans rfl)) ?_
    refine h_ok (x := PT bv) (fun w' hw => run_nilC _) ?_
    refine h_ok (x := .pointer (some ⟨bv, 0, none⟩)) (fun w' hw => run_fa0 w' fo61_0) ?_
    refine h_ok (x := .map (some mm)) (fun w' hw => run_ld sc59 (cells1 hw.2.2)) ?_
    refine h_ok (x := .pointer (some ⟨g, 2, none⟩)) (fun w' hw => run_fa0 w' fo76_2) ?_
    refine h_ok (x := byteV x.c) (fun w' hw => run_ld sc5 (cells7 hw.1).2.2.1) ?_
    rw [vlk_v a3]
    refine ⟨hq, ?_⟩
    refine pushH h2 (k0.trans hc2.nil (fun x hx => .inl hx)) (fun w' hc => ⟨hc.at_ hx2 (by simp), ⟨sv, ov, hc.at_ a1 (by simp)⟩, hc.at_ a2 (by simp)⟩) (fun w' L' st' hm hc => ⟨hc.at_ hx2 hgL', ?_⟩)
    obtain ⟨sv', ov', _, _, b1, b2, _⟩ := hm.ex
    exact ⟨⟨sv', ov', b1⟩, b2⟩
  rw [eqC_v]
  refine br_dec _ _ _ (fun c7 => ?_) (fun c7 => ?_)
  · have k0 := hk _ (by unfold doesR; rw [if_neg (by omega), if_neg (by omega), if_neg (by omega), if_neg (by omega), if_neg (by omega), if_neg (by omega), if_neg (by omega), if_pos (by omega)])
    rw [fa_v fo76_3, ldN hx1, v_eq (bd36n ..)]
    exact pushD h1 k0
  rw [eqC_v]
  refine br_dec _ _ _ (fun c8 => ?_) (fun c8 => ?_)
  · have k0 := hk _ (by unfold doesR; rw [if_neg (by omega), if_neg (by omega), if_neg (by omega), if_neg (by omega), if_neg (by omega), if_neg (by omega), if_neg (by omega), if_neg (by omega), if_pos (by omega)])
    refine pop_ h1 ok.sl fun w2 L2 h2 hc2 hl2 => ?_
    rw [v_eq (fd36_1 _ _), lenS_v', v_eq (cv321w _), v_eq (bd36n ..)]
    exact pushD h2 (k0.trans hc2 hl2)
  rw [eqC_v]
  refine br_dec _ _ _ (fun c9 => ?_) (fun c9 => ?_)
  · have k0 := hk _ (by unfold doesR; rw [if_neg (by omega), if_neg (by omega), if_neg (by omega), if_neg (by omega), if_neg (by omega), if_neg (by omega), if_neg (by omega), if_neg (by omega), if_neg (by omega), if_pos (by omega)])
    refine num_ h1 ok.sl fun w2 L2 h2 hc2 hl2 => ?_
    rw [eq_v]
    refine truth_ ?_
    rw [v_eq (bd36n ..)]
    exact pushD h2 (k0.trans hc2 hl2)
  rw [eqC_v]
  refine br_dec _ _ _ (fun c10 => ?_) (fun c10 => ?_)
  · have k0 := hk _ (by unfold doesR; rw [if_neg (by omega), if_neg (by omega), if_neg (by omega), if_neg (by omega), if_neg (by omega), if_neg (by omega), if_neg (by omega), if_neg (by omega), if_neg (by omega), if_neg (by omega), if_pos (by omega)])
    refine num_ h1 ok.sl fun w2 L2 h2 hc2 hl2 => ?_
    rw [notN_v, v_eq (bd36n ..)]
    exact pushD h2 (k0.trans hc2 hl2)
  · have k0 := hk _ (by unfold doesR; rw [if_neg (by omega), if_neg (by omega), if_neg (by omega), if_neg (by omega), if_neg (by omega), if_neg (by omega), if_neg (by omega), if_neg (by omega), if_neg (by omega), if_neg (by omega), if_neg (by omega)])
    refine num_ h1 ok.sl fun w2 L2 h2 hc2 hl2 => ?_
    have hop2 := popOk hop.2
    refine num_ h2 hop.2.sl fun w3 L3 h3 hc3 hl3 => ?_
    have hgL2 : g ∉ L2 := fun hm => by
      rcases hl2 g hm with h | h
      · exact hgL' h
      · omega
    have hx3 : CAt w3 g x := hc3.at_ (hc2.at_ hx1 hgL') hgL2
    rw [fa_v fo76_1, ldOp hx3]
    refine two_ ⟨hop2.1.lo, hop2.1.hi⟩ ⟨hop.1.lo, hop.1.hi⟩ ?_
    rw [v_eq (bd36n ..)]
    exact pushD h3 ((k0.trans hc2 hl2).trans hc3 hl3)
end
end Go.Proofs.YtjaoeipfiodnfaaDoor
