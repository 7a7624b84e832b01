import Derived.Test.YtjaoeipfiodnfaaDoorBJ
set_option linter.unusedVariables false
set_option maxRecDepth 4000
namespace Go.Proofs.YtjaoeipfiodnfaaDoor
open Go Go.Fw Go.Proofs Go.RowKit
/-! ### The reference's variables -/
def letN (c : UInt8) : Int := if 97 ≤ c.toNat ∧ c.toNat ≤ 122 then (c.toNat : Int) - 97 else if 65 ≤ c.toNat ∧ c.toNat ≤ 90 then 26 + ((c.toNat : Int) - 65) else -1
theorem letN_lt (c : UInt8) : letN c < 52 := by unfold letN; repeat' split <;> omega
theorem letN_ge (c : UInt8) : -1 ≤ letN c := by unfold letN; repeat' split <;> omega
theorem letterB_iff {c : UInt8} : letterB c = true ↔ 0 ≤ letN c := by
  unfold letterB letN
  simp
  split
  · omega
  · split <;> omega
theorem letN_inj {a b : UInt8} (ha : 0 ≤ letN a) (h : letN a = letN b) : a = b := by
  apply UInt8.toNat_inj.1
  unfold letN at ha h
  repeat' split at ha
  all_goals repeat' split at h
  all_goals omega
def RV (w : World) (b : Nat) (V : List Par) : Prop := w.heap[b]? = some (.cells (parsC V).toArray 95 (0, 0)) ∧ V.length = 52
theorem RV.ch {w w' : World} {b : Nat} {V : List Par} {M : List Nat} (h : RV w b V) (hc : Ch M w w') (hd : b ∉ M) : RV w' b V := ⟨hc.at_ h.1 hd, h.2⟩
def getR (V : List Par) (c : UInt8) : Par := if letN c < 0 then {} else V.getD (letN c).toNat {}
def setR (V : List Par) (c : UInt8) (p : Par) : Int × List Par := if 0 ≤ letN c ∧ mayB p = true then (0, V.set (letN c).toNat p) else (1, V)
def Agree (f : UInt8 → Option Par) (V : List Par) : Prop := ∀ c, getV f c = getR V c
theorem setR_len {V : List Par} {c : UInt8} {p : Par} : (setR V c p).2.length = V.length := by unfold setR; split <;> simp
theorem agree0 : Agree (fun _ => none) (List.replicate 52 {}) := by
  intro c
  unfold getV getR
  split
  · split
    · rfl
    · rw [List.getD_eq_getElem?_getD, List.getElem?_replicate]
      split <;> rfl
  · split
    · rfl
    · rename_i h1 h2
      exact absurd (letterB_iff.2 (by omega)) h1
theorem agree_set {f : UInt8 → Option Par} {V : List Par} {c : UInt8} {p : Par} (h : Agree f V) (hV : V.length = 52) : (setV f c p).1 = (setR V c p).1 ∧ Agree (setV f c p).2 (setR V c p).2 := by
  have hlt := letN_lt c
  unfold setV setR
  by_cases hc : letterB c = true ∧ mayB p = true
  · have hc' := letterB_iff.1 hc.1
    rw [if_pos hc, if_pos ⟨hc', hc.2⟩]
    refine ⟨rfl, fun j => ?_⟩
    unfold getV getR
    by_cases hj : letterB j = true
    · have hj' := letterB_iff.1 hj
      rw [if_pos hj, if_neg (by omega), List.getD_eq_getElem?_getD, List.getElem?_set]
      show (if j = c then some p else f j).getD {} = _
      by_cases hjc : j = c
      · subst hjc
        rw [if_pos rfl, if_pos rfl, if_pos (by omega)]
      · have := h j
        unfold getV getR at this
        rw [if_pos hj, if_neg (by omega), List.getD_eq_getElem?_getD] at this
        rw [if_neg hjc, if_neg (fun e => hjc (letN_inj hj' (by omega))), this]
    · rw [if_neg hj, if_pos (by have := mt letterB_iff.2 hj; omega)]
  · rw [if_neg hc, if_neg (fun hh => hc ⟨letterB_iff.2 hh.1, hh.2⟩)]
    exact ⟨rfl, h⟩
theorem ar93 : arT Tryd.prog 93 = some (52, 36, 3) := by kernel_rfl
theorem bd95 (w : World) : (Instr.build 95 #[]).run Tryd.prog w = .ok (.agg (parsC (List.replicate 52 {})).toArray) w := by kernel_rfl
section
variable {w : World} {K : Value → World → Prop}
theorem subC_v {t : TypeId} {x y : Operand} {c : UInt8} {m : Nat} (h : m ≤ c.toNat) : S.v Tryd.prog (S.bin .sub t x y (byteV c) (.int .u8 (m : Nat))) K w = K (.int .u8 ((c.toNat - m : Nat) : Int)) w := by
  unfold byteV
  rw [sub_v]
  have hlt := c.toNat_lt
  have : IntKind.u8.wrap ((c.toNat : Int) - (m : Int)) = ((c.toNat - m : Nat) : Int) := by
    simp [IntKind.wrap, IntKind.signed, IntKind.bits]
    omega
  rw [this]
theorem letterN_ {c : UInt8} (k : K (I64 (letN c)) w) : S.call Tryd.prog 44 [byteV c] K w := by
  refine F44_link ?_
  unfold F44
  have hlt := c.toNat_lt
  have hk : ∀ i : Int, letN c = i → K (I64 i) w := fun i e => e ▸ k
  clear k
  have low : ∀ (h1 : 97 ≤ c.toNat) (h2 : c.toNat ≤ 122), S.v Tryd.prog (S.bin Go.BinOp.sub 5 (Go.Operand.tmp 10) (Go.Operand.const (Go.Value.int Go.IntKind.u8 97)) (byteV c) (Go.Value.int Go.IntKind.u8 97)) (fun t11 w => S.v Tryd.prog (Go.convert 5 3 t11) (fun t12 w => K t12 w) w) w := fun h1 h2 => by
    rw [show (Value.int IntKind.u8 97) = .int .u8 ((97 : Nat) : Int) from rfl, subC_v h1, v_eq (cv53 _ _ (by omega))]
    exact hk _ (by unfold letN; rw [if_pos ⟨h1, h2⟩]; omega)
  have high : ∀ (h1 : 65 ≤ c.toNat) (h2 : c.toNat ≤ 90), S.v Tryd.prog (S.bin Go.BinOp.sub 5 (Go.Operand.tmp 20) (Go.Operand.const (Go.Value.int Go.IntKind.u8 65)) (byteV c) (Go.Value.int Go.IntKind.u8 65)) (fun t21 w => S.v Tryd.prog (Go.convert 5 3 t21) (fun t22 w => S.v Tryd.prog (S.bin Go.BinOp.add 3 (Go.Operand.const (Go.Value.int Go.IntKind.i64 26)) (Go.Operand.tmp 22) (Go.Value.int Go.IntKind.i64 26) t22) (fun t23 w => K t23 w) w) w) w := fun h1 h2 => by
    rw [show (Value.int IntKind.u8 65) = .int .u8 ((65 : Nat) : Int) from rfl, subC_v h1, v_eq (cv53 _ _ (by omega)), add_v, wrap_i64 (by omega) (by omega)]
    exact hk _ (by unfold letN; rw [if_neg (by omega), if_pos ⟨h1, h2⟩]; omega)
  have none_ : ¬ (97 ≤ c.toNat ∧ c.toNat ≤ 122) → ¬ (65 ≤ c.toNat ∧ c.toNat ≤ 90) → K (I64 (-1)) w := fun h1 h2 => hk _ (by unfold letN; rw [if_neg h1, if_neg h2])
  rw [geC_v]
  refine br_dec _ _ _ (fun h1 => ?_) (fun h1 => ?_)
  · rw [leC_v]
    refine br_dec _ _ _ (fun h2 => low (by omega) (by omega)) (fun h2 => ?_)
    rw [geC_v]
    refine br_dec _ _ _ (fun h3 => ?_) (fun h3 => none_ (by omega) (by omega))
    rw [leC_v]
    exact br_dec _ _ _ (fun h4 => high (by omega) (by omega)) (fun h4 => none_ (by omega) (by omega))
  · rw [geC_v]
    refine br_dec _ _ _ (fun h3 => ?_) (fun h3 => none_ (by omega) (by omega))
    rw [leC_v]
    exact br_dec _ _ _ (fun h4 => high (by omega) (by omega)) (fun h4 => none_ (by omega) (by omega))
theorem mayN_ {p : Par} (k : ∀ w', Ch [] w w' → K (.bool (mayB p)) w') : S.call Tryd.prog 45 [parV p] K w := by
  refine F45_link ?_
  unfold F45
  refine Go.Fw.bx fun w1 hb1 hc1 hs1 => ?_
  have hp1 : w1.heap[w.heap.size]? = some (.cells #[I32 p.num, strV p.text, .bool p.is] 36 (0, 0)) := hb1
  have k1 := k w1 hc1
  have hm : mayB p = true ↔ (p.is = true ∧ p.num = 0) ∨ (p.is = false ∧ p.text = []) := by unfold mayB; simp
  have hk : ∀ q : Bool, (q = true ↔ (p.is = true ∧ p.num = 0) ∨ (p.is = false ∧ p.text = [])) → K (.bool q) w1 := fun q hq => by
    have : q = mayB p := by rw [Bool.eq_iff_iff, hq, hm]
    rw [this]; exact k1
  rw [fa_v fo36_2, ld_v sc4 (cells3 hp1).2.2]
  cases his : p.is with
  | true =>
    rw [his] at hk
    rw [br_true, fa_v fo36_0, ld_v sc21 (cells3 hp1).1, eq_v]
    refine br_dec _ _ _ (fun h0 => ?_) (fun h0 => ?_)
    · exact hk true (by simp [h0])
    · rw [fa_v fo36_2, ld_v sc4 (cells3 hp1).2.2, his, not_v, show (!true) = false from rfl, br_false]
      exact hk false (by simp [h0])
  | false =>
    rw [his] at hk
    rw [br_false, fa_v fo36_2, ld_v sc4 (cells3 hp1).2.2, his, not_v, show (!false) = true from rfl, br_true, fa_v fo36_1, ld_v sc9 (cells3 hp1).2.1]
    rw [show (Value.string { data := #[] }) = strV [] from rfl, eqs_v]
    exact hk _ (by simp)
theorem rv_par {b i : Nat} {V : List Par} {p : Par} (h : RV w b V) (hp : V[i]? = some p) : (Instr.loadAt 36 (.pointer (some ⟨b, 0 + i * 3, none⟩))).run Tryd.prog w = .ok (parV p) w :=
  run_lda (vs := parC p) ag36 rfl fun j v hv => by
    have hj : j < 3 := (List.getElem?_eq_some_iff.1 hv).1
    rw [add_mk, cell_heap h.1, List.getElem?_toArray, Nat.zero_add, parsC_cell hp hj]
    exact hv
theorem rget_ {b : Nat} {V : List Par} {c : UInt8} (h : RV w b V) (k : ∀ w', Ch [] w w' → K (parV (getR V c)) w') : S.call Tryd.prog 42 [PT b, byteV c] K w := by
  refine F42_link ?_
  unfold F42
  refine al z36 fun w1 hb1 hc1 hs1 => ?_
  have h1 := h.ch hc1 (by simp)
  have hlt := letN_lt c
  have hge := letN_ge c
  have fin : ∀ q (K' : Value → World → Prop), getR V c = q → K' = K → S.u Tryd.prog (Instr.storeAt 36 (.pointer (some ⟨w.heap.size, 0, none⟩)) (parV q)) (fun w_1 => S.p Tryd.prog (S.ldR 36 (.pointer (some ⟨w.heap.size, 0, none⟩))) (fun r w => K' r w) w_1) w1 := by
    intro q K' hq hK
    subst hK
    refine stw (vs := (parC q).toArray) ag36 hb1 rfl rfl (by simpa using one_par (p := q)) fun w2 hb2 hc2 hs2 => ?_
    rw [ldR_p ag36 hb2 rfl]
    have := k w2 ((hc1.nil.trans hc2 (fun x hx => .inl hx)).mono (by simp))
    rw [hq] at this
    exact this
  refine letterN_ ?_
  rw [lt_v]
  refine br_dec _ _ _ (fun h0 => ?_) (fun h0 => ?_)
  · rw [v_eq (bd36 _)]
    exact fin {} K (by unfold getR; rw [if_pos h0]) rfl
  · obtain ⟨p, hp⟩ : ∃ p, V[(letN c).toNat]? = some p := ⟨_, List.getElem?_eq_getElem (by have := h.2; omega)⟩
    rw [nilC_v, fa_v fo95_0, iaa_v ar93 (letN c).toNat (by omega) (by omega), v_eq (rv_par h1 hp)]
    exact fin p K (by unfold getR; rw [if_neg h0, List.getD_eq_getElem?_getD, hp]; rfl) rfl
theorem rset_ {b : Nat} {V : List Par} {c : UInt8} {p : Par} (h : RV w b V) (k : ∀ w', RV w' b (setR V c p).2 → Ch [b] w w' → K (I64 (setR V c p).1) w') : S.call Tryd.prog 21 [PT b, byteV c, parV p] K w := by
  refine F21_link ?_
  unfold F21
  refine Go.Fw.bx fun w1 hb1 hc1 hs1 => ?_
  have h1 := h.ch hc1 (by simp)
  have hlt := letN_lt c
  have hge := letN_ge c
  refine letterN_ ?_
  rw [lt_v]
  refine br_dec _ _ _ (fun h0 => ?_) (fun h0 => ?_)
  · have e : setR V c p = (1, V) := by unfold setR; rw [if_neg (by omega)]
    rw [e] at k
    exact k w1 h1 hc1.nil
  rw [ldw_v ag36 hb1 rfl]
  refine mayN_ fun w2 hc2 => ?_
  have hc02 : Ch [] w w2 := hc1.trans hc2 (by simp)
  have h2 := h1.ch hc2 (by simp)
  rw [not_v]
  cases hm : mayB p with
  | false =>
    rw [show (!false) = true from rfl, br_true]
    have e : setR V c p = (1, V) := by unfold setR; rw [if_neg (by rw [hm]; simp)]
    rw [e] at k
    exact k w2 h2 hc02.nil
  | true =>
    rw [show (!true) = false from rfl, br_false]
    have e : setR V c p = (0, V.set (letN c).toNat p) := by unfold setR; rw [if_pos ⟨by omega, hm⟩]
    rw [e] at k
    refine drawn_ok fun w3 hc3 hs3 => ?_
    have h3 := h2.ch hc3 (by simp)
    have hb3 := (hc2.trans hc3 (by simp)).at_ hb1 (by simp)
    refine ⟨fun w' => w' = w3, rfl, ?_⟩
    rw [h_p, ldw_p ag36 hb3 rfl, nilC_v]
    refine ⟨rfl, ?_⟩
    rw [fa_v fo95_0]
    refine ⟨rfl, ?_⟩
    rw [h_p, p_eq (by have := run_iaa (w := w3) ar93 (g := b) (off := 0) .i64 (letN c) (by omega) (by omega); exact this)]
    have hV := h.2
    have hpl := parsC_len V
    refine stwo (vs := parC p) ag36 h3.1 (by simp [hpl]; omega) rfl one_par fun w4 hb4 hc4 hs4 => ?_
    refine k w4 ⟨?_, by simpa using hV⟩ ((hc02.trans hc3 (by simp)).nil.trans hc4 (fun x hx => .inl hx))
    rw [hb4, parsC_setPar p (by omega)]
    simp
/-! ### same, vars -/
theorem cv35 {n : Nat} (w : World) (h : n < 256) : (Go.convert 3 5 (.int .i64 (n : Int))).run Tryd.prog w = .ok (byteV (UInt8.ofNat n)) w := cvI w (by kernel_rfl) (by kernel_rfl) (by kernel_rfl) (by
  simp [IntKind.wrap, IntKind.signed, IntKind.bits])
theorem same_ {bv mm b : Nat} {f : UInt8 → Option Par} {V : List Par} (h : VAtB w bv mm f) (hr : RV w b V) (ha : Agree f V) (k : ∀ w', Ch [] w w' → K (.bool true) w') : S.call Tryd.prog 18 [PT bv, PT b] K w := by
  refine F18_link ?_
  unfold F18
  intro I hC
  have key : ∀ (d i : Nat) (x4 x5 x7 x17 : Value) (w' : World), i + d = 256 → Ch [] w w' → I [x4, x5, I64 i, x7, x17] w' := by
    intro d
    induction d with
    | zero =>
      intro i x4 x5 x7 x17 w' hi hch
      refine hC _ _ _ _ _ _ ?_
      rw [lt_v, decide_eq_false (by omega), br_false]
      exact k w' hch
    | succ d ih =>
      intro i x4 x5 x7 x17 w' hi hch
      refine hC _ _ _ _ _ _ ?_
      rw [lt_v, decide_eq_true (by omega), br_true, v_eq (cv35 _ (by omega))]
      refine get_ (h.ch hch (by simp) (by simp)) fun w1 hc1 => ?_
      have hch1 : Ch [] w w1 := hch.trans hc1 (by simp)
      rw [v_eq (cv35 _ (by omega))]
      refine rget_ (hr.ch hch1 (by simp)) fun w2 hc2 => ?_
      have e : parB (getV f (UInt8.ofNat i)) (getR V (UInt8.ofNat i)) = true := parB_iff.2 (ha _)
      rw [v_eq (run_ne36 ..), e, show (!true) = false from rfl, br_false, add_v, wrap_i64 (by omega) (by omega), show (i : Int) + 1 = ((i + 1 : Nat) : Int) from by omega]
      exact ih (i + 1) _ _ _ _ w2 (by omega) (hch1.trans hc2 (by simp))
  exact key 256 0 _ _ _ _ w (by omega) (Ch.refl _ _)
def keyB (i : Nat) : UInt8 := if i % 2 = 1 then UInt8.ofNat (65 + i % 26) else UInt8.ofNat (97 + i % 26)
def varsF : Nat → List Par → (UInt8 → Option Par) → (UInt8 → Option Par)
  | _, [], f => f
  | i, p :: r, f => varsF (i + 1) r (setV f (keyB i) p).2
def varsV : Nat → List Par → List Par → List Par
  | _, [], V => V
  | i, p :: r, V => varsV (i + 1) r (setR V (keyB i) p).2
theorem agree_vars : ∀ (l : List Par) (i : Nat) (f : UInt8 → Option Par) (V : List Par), Agree f V → V.length = 52 → Agree (varsF i l f) (varsV i l V)
  | [], i, f, V, h, hV => h
  | p :: r, i, f, V, h, hV => agree_vars r (i + 1) _ _ (agree_set h hV).2 (by rw [setR_len]; exact hV)
set_option maxHeartbeats 1000000
theorem vars_ {v : Value} {l : List Par} (hl : Rd w w.heap.size 3 v l.length (parsC l)) (k : ∀ w' bv mm b, VAtB w' bv mm (varsF 0 l fun _ => none) → RV w' b (varsV 0 l (List.replicate 52 {})) → Ch [] w w' → w.heap.size ≤ bv → w.heap.size ≤ mm → w.heap.size ≤ b → bv ≠ b → mm ≠ b → K (.tuple #[PT bv, PT b]) w') : S.call Tryd.prog 17 [v] K w := by
  refine F17_link ?_
  unfold F17
  refine newvarsB_ fun w1 bv mm hv hc1 hbv hmm => ?_
  have hs1 := hc1.size
  rw [v_eq (bd95 _)]
  refine Go.Fw.bx fun w2 hb2 hc2 hs2 => ?_
  have hr2 : RV w2 w1.heap.size (List.replicate 52 {}) := ⟨hb2, by simp⟩
  have hv2 := hv.ch hc2 (by simp) (by simp)
  have hbvl := lt_of_heap hv.1
  have hmml := hv.2.1.vm.lt
  generalize hgb : w1.heap.size = b at *
  have hc02 : Ch [] w w2 := hc1.trans hc2 (by simp)
  have hll : l.length ≤ maxLen := by
    obtain ⟨A, c, _, h1, h2, _⟩ := hl.form
    omega
  simp only [maxLen] at hll
  rw [eqn_v pt30, show (some (⟨bv, 0, none⟩ : Addr)).isNone = false from rfl, br_false, lenr_v el22 (hl.ch hc02 (by simp))]
  intro I hC
  have key : ∀ (r : List Par) (i : Nat) (f : UInt8 → Option Par) (V : List Par) (x6 x7 x8 x17 x27 : Value) (w' : World), l.drop i = r → i ≤ l.length → VAtB w' bv mm f → RV w' b V → Ch [mm, b] w2 w' → varsF i r f = varsF 0 l (fun _ => none) → varsV i r V = varsV 0 l (List.replicate 52 {}) → I [x6, x7, x8, I64 i, x17, x27] w' := by
    intro r
    induction r with
    | nil =>
      intro i f V x6 x7 x8 x17 x27 w' hr hi hv' hr' hch e1 e2
      refine hC _ _ _ _ _ _ _ ?_
      have hil : i = l.length := by
        have := congrArg List.length hr
        simp at this
        omega
      rw [lt_v, decide_eq_false (by omega), br_false]
      simp only [varsF] at e1
      simp only [varsV] at e2
      rw [e1] at hv'
      rw [e2] at hr'
      exact k w' bv mm b hv' hr' (Ch.fresh hc02 hch (by simp; omega)) hbv hmm (by omega) (by omega) (by omega)
    | cons p r ih =>
      intro i f V x6 x7 x8 x17 x27 w' hr hi hv' hr' hch e1 e2
      refine hC _ _ _ _ _ _ _ ?_
      have hx : l[i]? = some p ∧ l.drop (i + 1) = r := by
        constructor
        · have := congrArg List.head? hr
          rw [List.head?_drop] at this
          exact this
        · have := congrArg List.tail hr
          rw [List.tail_drop] at this
          exact this
      have hil := (List.getElem?_eq_some_iff.1 hx.1).1
      have hcw : Ch [] w w' := Ch.fresh hc02 hch (by simp; omega)
      rw [lt_v, decide_eq_true (by omega), br_true, ixa_v el22 ag36 (hl.ch hcw (by simp)) (by omega) rfl hil (ys := parC p) (parsC_at hx.1)]
      refine al z36 fun w3 hb3 hc3 hs3 => ?_
      refine stw (vs := (parC p).toArray) ag36 hb3 rfl rfl (by simpa using one_par (p := p)) fun w4 hb4 hc4 hs4 => ?_
      have hc24 : Ch [] w' w4 := (hc3.nil.trans hc4 (fun x hx => .inl hx)).mono (by simp)
      have t26 : (i : Int).tmod 26 = ((i % 26 : Nat) : Int) := by rw [Int.tmod_eq_emod_of_nonneg (by omega)]; omega
      have t2 : (i : Int).tmod 2 = ((i % 2 : Nat) : Int) := by rw [Int.tmod_eq_emod_of_nonneg (by omega)]; omega
      rw [rem_v (by omega), t26, add_v, wrap_i64 (by omega) (by omega), show (97 : Int) + ((i % 26 : Nat) : Int) = ((97 + i % 26 : Nat) : Int) from by omega, v_eq (cv35 _ (by omega))]
      refine seq_ok fun J hJ => ?_
      have hJ' : ∀ (q : Value), J [byteV (keyB i), q] w4 := by
        intro q
        refine hJ _ _ ?_
        rw [nth_zero, ldw_v ag36 hb4 rfl]
        have hsz := hch.size
        refine set_ (hv'.ch hc24 (by simp) (by simp)) fun w5 hv5 hc5 => ?_
        have hmw : mm < w'.heap.size := by omega
        rw [ldw_v ag36 (hc5.at_ hb4 (by simp; omega)) rfl]
        refine rset_ ((hr'.ch hc24 (by simp)).ch hc5 (by simp; omega)) fun w6 hr6 hc6 => ?_
        rw [add_v, wrap_i64 (by omega) (by omega), show (i : Int) + 1 = ((i + 1 : Nat) : Int) from by omega]
        refine ih (i + 1) _ _ _ _ _ _ _ w6 hx.2 (by omega) (hv5.ch hc6 (by simp; omega) (by simp; omega)) hr6 (((hch.trans hc24 (by simp)).trans hc5 (by simp)).trans hc6 (by simp)) e1 e2
      clear hJ
      rw [rem_v (by omega), t2, eq_v]
      refine br_dec _ _ _ (fun h1 => ?_) (fun h1 => ?_)
      · have e : keyB i = UInt8.ofNat (65 + i % 26) := by unfold keyB; rw [if_pos (by omega)]
        rw [e] at hJ'
        rw [rem_v (by omega), t26, add_v, wrap_i64 (by omega) (by omega), show (65 : Int) + ((i % 26 : Nat) : Int) = ((65 + i % 26 : Nat) : Int) from by omega, v_eq (cv35 _ (by omega))]
        exact hJ' _
      · have e : keyB i = UInt8.ofNat (97 + i % 26) := by unfold keyB; rw [if_neg (by omega)]
        rw [e] at hJ'
        exact hJ' _
  exact key l 0 _ _ _ _ _ _ _ w2 (by simp) (by omega) hv2 hr2 (Ch.refl _ _) rfl rfl
/-! ### TparmVars -/
theorem varlaw_ {v : Value} {l : List Par} {c : UInt8} {p : Par} (hl : Rd w w.heap.size 3 v l.length (parsC l)) (hg : Gnd w) (k : ∀ w', Ch [] w w' → K (.bool true) w') : S.call Tryd.prog 7 [v, byteV c, parV p] K w := by
  refine F7_link ?_
  unfold F7
  have h6 := hg.1
  refine Go.Fw.bx fun w1 hb1 hc1 hs1 => ?_
  generalize hgg : w.heap.size = g at *
  refine vars_ (l := l) ((hl.ch hc1 (by simp)).mono (by omega)) fun w2 bv mm b hv2 hr2 hc2 hbv hmm hb hne1 hne2 => ?_
  have hc02 : Ch [] w w2 := hc1.trans hc2 (by simp)
  have hA : Agree (varsF 0 l fun _ => none) (varsV 0 l (List.replicate 52 {})) := agree_vars l 0 _ _ agree0 (by simp)
  have hV := hr2.2
  generalize hf0 : (varsF 0 l fun _ => none) = f0 at *
  generalize hV0 : varsV 0 l (List.replicate 52 {}) = V0 at *
  rw [x20, x21]
  refine begun_ (hg.ch hc02 (by simp)) fun w3 hc3 => ?_
  rw [not_v, show (!true) = false from rfl, br_false, eqn_v pt30, show (some (⟨bv, 0, none⟩ : Addr)).isNone = false from rfl, br_false]
  have hv3 := hv2.ch hc3 (by simp) (by simp)
  have hr3 := hr2.ch hc3 (by simp)
  refine same_ hv3 hr3 hA fun w4 hc4 => ?_
  rw [not_v, show (!true) = false from rfl, br_false]
  have hv4 := hv3.ch hc4 (by simp) (by simp)
  have hr4 := hr3.ch hc4 (by simp)
  refine clone_ hv4 fun w5 bu mu hu5 hc5 hbu hmu => ?_
  rw [eqn_v pt30, show (some (⟨bu, 0, none⟩ : Addr)).isNone = false from rfl, br_false]
  have hv5 := hv4.ch hc5 (by simp) (by simp)
  have hr5 := hr4.ch hc5 (by simp)
  have hc05 : Ch [] w w5 := ((hc02.trans hc3 (by simp)).trans hc4 (by simp)).trans hc5 (by simp)
  have hb5 : w5.heap[g]? = some (.cells (parC p).toArray 36 (0, 0)) := (((hc2.trans hc3 (by simp)).trans hc4 (by simp)).trans hc5 (by simp)).at_ hb1 (by simp)
  have hv4l := lt_of_heap hv4.1
  have hm4l := hv4.2.1.vm.lt
  have hb4l := lt_of_heap hr4.1
  refine drawn_ok fun w6 hc6 hs6 => ?_
  have hb6 := hc6.at_ hb5 (by simp)
  refine ⟨fun w' => w'.heap[g]? = some (.cells (parC p).toArray 36 (0, 0)), hb6, ?_⟩
  have hld : ∀ w', w'.heap[g]? = some (.cells (parC p).toArray 36 (0, 0)) → (Instr.loadAt 36 (.pointer (some ⟨g, 0, none⟩))).run Tryd.prog w' = .ok (parV p) w' := fun w' hw => run_lda (vs := parC p) ag36 rfl (block_cells hw)
  refine h_ok (x := parV p) hld ?_
  refine h_ok (x := parV p) hld ?_
  refine set_ (hv5.ch hc6 (by simp) (by simp)) fun w7 hv7 hc7 => ?_
  have hb7 := hc7.at_ hb6 (by simp; omega)
  refine ⟨hb7, ?_⟩
  refine rset_ ((hr5.ch hc6 (by simp)).ch hc7 (by simpa using hne2.symm)) fun w8 hr8 hc8 => ?_
  have hb8 := hc8.at_ hb7 (by simp; omega)
  refine ⟨hb8, ?_⟩
  obtain ⟨hs1', hA'⟩ := agree_set (c := c) (p := p) hA hV
  refine h_ok (x := .bool false) (fun w' hw => by rw [run_ne, hs1', decide_eq_false (by simp)]) ?_
  rw [br_false]
  refine same_ (hv7.ch hc8 (by simpa using hne1) (by simpa using hne2)) hr8 hA' fun w9 hc9 => ?_
  have hb9 := hc9.at_ hb8 (by simp)
  refine ⟨hb9, ?_⟩
  refine h_ok (x := .bool false) (fun w' hw => rfl) ?_
  rw [br_false]
  have hc57 : Ch [mm, b] w5 w9 := ((hc6.nil.trans (hc7.mono (L' := [mm, b]) (by simp)) (fun x hx => .inl hx)).trans hc8 (by simp)).trans hc9 (by simp)
  have hc09 : Ch [] w w9 := Ch.fresh hc05 hc57 (by simp; omega)
  refine vars_ (l := l) ((hl.ch hc09 (by simp)).mono (by have := hc09.size; omega)) fun w10 bv' mm' b' hv10 hr10 hc10 _ _ _ _ _ => ?_
  rw [x20, x21]
  rw [hV0] at hr10
  refine same_ ((hu5.ch hc57 (by simp; omega) (by simp; omega)).ch hc10 (by simp) (by simp)) hr10 hA fun w11 hc11 => ?_
  exact k w11 ((hc09.trans hc10 (by simp)).trans hc11 (by simp))
end
end Go.Proofs.YtjaoeipfiodnfaaDoor
