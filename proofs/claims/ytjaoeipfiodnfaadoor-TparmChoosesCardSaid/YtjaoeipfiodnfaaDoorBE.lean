import Derived.Test.YtjaoeipfiodnfaaDoorBD
set_option linter.unusedVariables false
set_option maxRecDepth 4000
namespace Go.Proofs.YtjaoeipfiodnfaaDoor
open Go Go.Fw Go.Proofs Go.RowKit
/-! ### What a parse gives is sound -/
structure CodeFit (x : Code) : Prop where
  ok : CodeOk x
  n1 : -2147483648 ≤ x.n
  n2 : x.n ≤ 2147483647
theorem fit_simple {o c : UInt8} (h : o.toNat ≠ 112) : CodeFit { op := o, c := c } := ⟨⟨by simp, by simp, by simp, fun e => absurd e h⟩, by simp, by simp⟩
theorem fit_num {n : Int} (h1 : -2147483648 ≤ n) (h2 : n ≤ 2147483647) : CodeFit { op := 123, n := n } := ⟨⟨by simp, by simp, by simp, fun e => absurd (show (123 : UInt8).toNat = 112 from e) (by decide)⟩, h1, h2⟩
theorem tailR_fit {fl : List UInt8} {wd : Nat} {pr : Int} {r r' : List UInt8} {x : Code} (hw : wd ≤ 1000) (h1 : -1 ≤ pr) (h2 : pr ≤ 1000) (h : tailR fl wd pr r = some (x, r')) : CodeFit x := by
  cases r with
  | nil => cases h
  | cons c t =>
    simp only [tailR] at h
    split at h
    · injection h with h
      injection h with h _
      subst h
      exact ⟨⟨hw, h1, h2, fun e => absurd (show (100 : UInt8).toNat = 112 from e) (by decide)⟩, by simp, by simp⟩
    · cases h
theorem exitR_fit {fl r r' : List UInt8} {x : Code} (h : exitR fl r = some (x, r')) : CodeFit x := by
  unfold exitR at h
  split at h
  · rename_i hw
    unfold precR at h
    split at h
    · split at h
      · rename_i hp
        exact tailR_fit hw (by omega) (by omega) h
      · cases h
    · exact tailR_fit hw (by omega) (by omega) h
  · cases h
theorem formatR_fit {r r' : List UInt8} {x : Code} (h : formatR r = some (x, r')) : CodeFit x := exitR_fit h
theorem numR_lt : ∀ (r : List UInt8) (n m : Nat) {a b : Nat} {r' : List UInt8}, m ≤ 9 → n < 10 ^ m → numR r n m = some (a, b, r') → a < 1000000000
  | [], n, m, a, b, r', hm, hn, h => by
    simp only [numR, Option.some.injEq, Prod.mk.injEq] at h
    have := Nat.pow_le_pow_right (show 0 < 10 by omega) hm
    rw [← h.1]
    omega
  | c :: r, n, m, a, b, r', hm, hn, h => by
    unfold numR at h
    split at h
    · rename_i hd
      have hd' := digitB_spec.1 hd
      split at h
      · cases h
      · exact numR_lt r _ _ (by omega) (by rw [Nat.pow_succ]; omega) h
    · simp only [Option.some.injEq, Prod.mk.injEq] at h
      have := Nat.pow_le_pow_right (show 0 < 10 by omega) hm
      rw [← h.1]
      omega
theorem numberR_fit {r r' : List UInt8} {x : Code} (h : numberR r = some (x, r')) : CodeFit x := by
  unfold numberR at h
  have hs : (signR r).1 = 1 ∨ (signR r).1 = -1 := by unfold signR; split <;> simp
  cases hn : numR (signR r).2 0 0 with
  | none => rw [hn] at h; cases h
  | some q =>
    obtain ⟨a, b, r2⟩ := q
    have hlt := numR_lt _ 0 0 (by omega) (by omega) hn
    rw [hn] at h
    cases r2 with
    | nil => cases h
    | cons c t =>
      simp only [closeR] at h
      split at h
      · injection h with h
        injection h with h _
        subst h
        rcases hs with e | e
        · exact fit_num (by rw [e]; omega) (by rw [e]; omega)
        · exact fit_num (by rw [e]; omega) (by rw [e]; omega)
      · cases h
theorem oneR_fit {r r' : List UInt8} {x : Code} (h : oneR r = some (x, r')) : CodeFit x := by
  cases r with
  | nil => cases h
  | cons c r =>
    have one : ∀ {y z : Code} {t t' : List UInt8}, some (y, t) = some (z, t') → y = z := fun e => by injection e with e; injection e with e _
    simp only [oneR] at h
    split at h
    · cases r with
      | nil => cases h
      | cons d r =>
        simp only [percR] at h
        split at h
        · rw [← one h]; exact fit_simple (by decide)
        · split at h
          · rename_i hsim
            rw [← one h]
            refine fit_simple (fun e => ?_)
            rw [e] at hsim
            simp [simpleL] at hsim
          · split at h
            · cases r with
              | nil => cases h
              | cons y r =>
                simp only [parmR] at h
                split at h
                · rename_i hy
                  rw [← one h]
                  exact ⟨⟨by simp, by simp, by simp, fun _ => hy⟩, by simp, by simp⟩
                · cases h
            · rename_i h112
              split at h
              · cases r with
                | nil => cases h
                | cons y r =>
                  simp only [varR] at h
                  split at h
                  · rw [← one h]
                    exact fit_simple (fun e => h112 (UInt8.toNat_inj.1 e))
                  · cases h
              · split at h
                · cases r with
                  | nil => cases h
                  | cons y r =>
                    cases r with
                    | nil => cases h
                    | cons z r =>
                      simp only [quoteR] at h
                      split at h
                      · rw [← one h]
                        have := y.toNat_lt
                        exact fit_num (by omega) (by omega)
                      · cases h
                · split at h
                  · exact numberR_fit h
                  · exact formatR_fit h
    · rw [← one h]; exact fit_simple (by decide)
theorem parseF_fit : ∀ (d n : Nat) (r : List UInt8), (∀ x, x ∈ (parseF d n r).1 → CodeFit x) ∧ (parseF d n r).1.length ≤ r.length
  | 0, n, r => by simp [parseF]
  | d + 1, n, [] => by simp [parseF]
  | d + 1, n, a :: t => by
    cases ho : oneR (a :: t) with
    | none => simp [parseF, ho]
    | some q =>
      obtain ⟨x, r'⟩ := q
      have hlt := oneR_len ho
      obtain ⟨h1, h2⟩ := parseF_fit d (n + ((a :: t).length - r'.length)) r'
      simp only [parseF, ho]
      refine ⟨fun y hy => ?_, ?_⟩
      · simp only [List.mem_cons] at hy
        rcases hy with rfl | hy
        · have hf := oneR_fit ho
          exact ⟨⟨hf.ok.wd, hf.ok.p1, hf.ok.p2, hf.ok.pm⟩, hf.n1, hf.n2⟩
        · exact h1 y hy
      · simp only [List.length_cons] at *
        omega
theorem parseR_fit (s : List UInt8) : ∀ x, x ∈ (parseR s).1 → CodeFit x := (parseF_fit _ _ _).1
theorem parseR_len (s : List UInt8) : (parseR s).1.length ≤ s.length := (parseF_fit _ _ _).2
theorem capE_fit (s : List UInt8) : (∀ x, x ∈ (capE s).1 → CodeFit x) ∧ (capE s).1.length ≤ 4096 := by
  unfold capE
  split
  · simp
  · have h1 := parseR_fit s
    have h2 := parseR_len s
    split
    · exact ⟨h1, by show (parseR s).1.length ≤ 4096; omega⟩
    · simp
/-! ### behind -/
def behindS (e : Bool) : Nat → List Code → List Code
  | d, [] => []
  | d, x :: r => if x.op.toNat = 63 then behindS e (d + 1) r else if x.op.toNat = 59 then (if d = 0 then x :: r else behindS e (d - 1) r)
    else if x.op.toNat = 101 then (if d = 0 ∧ e = true then r else behindS e d r) else behindS e d r
theorem behindS_len (e : Bool) : ∀ (r : List Code) (d : Nat), (behindS e d r).length ≤ r.length
  | [], d => by simp [behindS]
  | x :: r, d => by
    have h1 := behindS_len e r (d + 1)
    have h2 := behindS_len e r (d - 1)
    have h3 := behindS_len e r d
    unfold behindS
    repeat' split
    all_goals simp only [List.length_cons]
    all_goals omega
theorem codesC_cons (a : Code) (b : List Code) : codesC (a :: b) = codeC a ++ codesC b := by simp [codesC]
theorem codesC_drop (l : List Code) (i : Nat) : (codesC l).drop (i * 7) = codesC (l.drop i) := by
  induction i generalizing l with
  | zero => simp
  | succ i ih =>
    cases l with
    | nil => simp [codesC]
    | cons a r =>
      rw [codesC_cons, Nat.add_mul, Nat.one_mul, Nat.add_comm, ← List.drop_drop, List.drop_left' (by rfl), ih]
      rfl
theorem codesC_at {l : List Code} {i : Nat} {x : Code} (h : l[i]? = some x) : ((codesC l).drop (i * 7)).take 7 = codeC x := by
  have hl := (List.getElem?_eq_some_iff.1 h).1
  have hp := (List.getElem?_eq_some_iff.1 h).2
  rw [codesC_drop, ← List.getElem_cons_drop hl, hp, codesC_cons, List.take_left' (by rfl)]
theorem codesC_cell {l : List Code} {i j : Nat} {x : Code} (h : l[i]? = some x) (hj : j < 7) : (codesC l)[i * 7 + j]? = (codeC x)[j]? := by
  rw [← codesC_at h, List.getElem?_take_of_lt hj, List.getElem?_drop]
theorem dropc {l r : List Code} {x : Code} {i : Nat} (h : l.drop i = x :: r) : l[i]? = some x ∧ l.drop (i + 1) = r := by
  constructor
  · have := congrArg List.head? h
    rw [List.head?_drop] at this
    exact this
  · have := congrArg List.tail h
    rw [List.tail_drop] at this
    exact this
section
variable {w : World} {K : Value → World → Prop}
set_option maxHeartbeats 1000000
theorem behind_ {v : Value} {l : List Code} {L : List Nat} {i0 : Nat} {e : Bool} (h : CS w v l L) (hl : l.length ≤ 4096) (hi : i0 ≤ l.length) (k : ∀ j, i0 ≤ j → j ≤ l.length → l.drop j = behindS e 0 (l.drop i0) → K (I64 j) w) : S.call Tryd.prog 32 [v, I64 i0, .bool e] K w := by
  refine F32_link ?_
  unfold F32
  intro I hC
  have hr : Rd w w.heap.size 7 v l.length (codesC l) := Own.rd h
  have key : ∀ (t : List Code) (i d : Nat) (x6 x11 x18 x19 x23 x26 x30 x36 : Value), i0 ≤ i → i ≤ l.length → d ≤ i → l.drop i = t → behindS e d t = behindS e 0 (l.drop i0) → I [I64 i, x6, I64 d, x11, x18, x19, x23, x26, x30, x36] w := by
    intro t
    induction t with
    | nil =>
      intro i d x6 x11 x18 x19 x23 x26 x30 x36 h0 h1 hd ht he
      refine hC _ _ _ _ _ _ _ _ _ _ _ ?_
      have hil : i = l.length := by
        have := congrArg List.length ht
        simp at this
        omega
      rw [lenr_v el51 hr, lt_v, decide_eq_false (by omega), br_false]
      exact k i h0 h1 (by rw [← he, ht]; rfl)
    | cons x r ih =>
      intro i d x6 x11 x18 x19 x23 x26 x30 x36 h0 h1 hd ht he
      refine hC _ _ _ _ _ _ _ _ _ _ _ ?_
      obtain ⟨hx, hdr⟩ := dropc ht
      have hil := (List.getElem?_eq_some_iff.1 hx).1
      rw [lenr_v el51 hr, lt_v, decide_eq_true (by omega), br_true]
      refine seq_ok fun J hJ => ?_
      have hJ' : ∀ (d' : Nat) (a b c f g q s : Value), d' ≤ i + 1 → behindS e d' r = behindS e d (x :: r) → J [a, I64 d', b, c, f, g, q, s] w := by
        intro d' a b c f g q s hd' he'
        refine hJ _ _ ?_
        simp only [nth_zero, nth_succ]
        rw [add_v, wrap_i64 (by omega) (by omega), show (i : Int) + 1 = ((i + 1 : Nat) : Int) from by omega]
        exact ih (i + 1) d' _ _ _ _ _ _ _ _ (by omega) (by omega) hd' hdr (he'.trans he)
      rw [ixf_v (s := 76) (f := 1) (o := 1) el51 fo76_1 sc5 hr (by omega) rfl hil (by rw [codesC_cell hx (by omega)]; rfl), eqC_v]
      refine br_dec _ _ _ (fun c1 => ?_) (fun c1 => ?_)
      · rw [add_v, wrap_i64 (by omega) (by omega), show (d : Int) + 1 = ((d + 1 : Nat) : Int) from by omega]
        exact hJ' _ _ _ _ _ _ _ _ (by omega) (by rw [behindS.eq_def e d (x :: r)]; dsimp only; rw [if_pos (by omega)])
      rw [eqC_v]
      refine br_dec _ _ _ (fun c2 => ?_) (fun c2 => ?_)
      · rw [eq_v]
        refine br_dec _ _ _ (fun c3 => ?_) (fun c3 => ?_)
        · refine k i h0 h1 ?_
          rw [← he, ht, behindS.eq_def e d (x :: r)]; dsimp only; rw [if_neg (by omega), if_pos (by omega), if_pos (by omega)]
        · rw [sub_v, wrap_i64 (by omega) (by omega), show (d : Int) - 1 = ((d - 1 : Nat) : Int) from by omega]
          exact hJ' _ _ _ _ _ _ _ _ (by omega) (by rw [behindS.eq_def e d (x :: r)]; dsimp only; rw [if_neg (by omega), if_pos (by omega), if_neg (by omega)])
      rw [eqC_v]
      refine br_dec _ _ _ (fun c4 => ?_) (fun c4 => ?_)
      · rw [eq_v]
        refine br_dec _ _ _ (fun c5 => ?_) (fun c5 => ?_)
        · cases e with
          | true =>
            rw [br_true, add_v, wrap_i64 (by omega) (by omega), show (i : Int) + 1 = ((i + 1 : Nat) : Int) from by omega]
            refine k (i + 1) (by omega) (by omega) ?_
            rw [← he, hdr, behindS.eq_def true d (x :: r)]; dsimp only; rw [if_neg (by omega), if_neg (by omega), if_pos (by omega), if_pos ⟨by omega, rfl⟩]
          | false =>
            rw [br_false]
            exact hJ' d _ _ _ _ _ _ _ (by omega) (by rw [behindS.eq_def false d (x :: r)]; dsimp only; rw [if_neg (by omega), if_neg (by omega), if_pos (by omega), if_neg (by simp)])
        · exact hJ' d _ _ _ _ _ _ _ (by omega) (by rw [behindS.eq_def e d (x :: r)]; dsimp only; rw [if_neg (by omega), if_neg (by omega), if_pos (by omega), if_neg (by omega)])
      · exact hJ' d _ _ _ _ _ _ _ (by omega) (by rw [behindS.eq_def e d (x :: r)]; dsimp only; rw [if_neg (by omega), if_neg (by omega), if_neg (by omega)])
  exact key _ i0 0 _ _ _ _ _ _ _ _ (by omega) hi (by omega) rfl rfl
/-! ### may, none, Check -/
theorem may_ {p : Par} (k : ∀ w', Ch [] w w' → K (.bool (mayB p)) w') : S.call Tryd.prog 30 [parV p] K w := by
  refine F30_link ?_
  unfold F30
  refine Go.Fw.bx fun w1 hb1 hc1 hs1 => ?_
  have hp1 : w1.heap[w.heap.size]? = some (.cells #[I32 p.num, strV p.text, .bool p.is] 36 (0, 0)) := hb1
  have k1 := k w1 hc1
  have hm : mayB p = true ↔ (p.is = true ∧ p.num = 0) ∨ (p.is = false ∧ p.text = []) := by unfold mayB; simp
  have hk : ∀ q : Bool, (q = true ↔ (p.is = true ∧ p.num = 0) ∨ (p.is = false ∧ p.text = [])) → K (.bool q) w1 := fun q hq => by
    have : q = mayB p := by rw [Bool.eq_iff_iff, hq, hm]
    rw [this]; exact k1
  rw [fa_v fo36_2, ld_v sc4 (cells3 hp1).2.2]
  cases his : p.is with
  | true =>
    rw [his] at hk
    rw [br_true, fa_v fo36_0, ld_v sc21 (cells3 hp1).1, eq_v]
    refine br_dec _ _ _ (fun h0 => ?_) (fun h0 => ?_)
    · exact hk true (by simp [h0])
    · rw [fa_v fo36_2, ld_v sc4 (cells3 hp1).2.2, his, not_v, show (!true) = false from rfl, br_false]
      exact hk false (by simp [h0])
  | false =>
    rw [his] at hk
    rw [br_false, fa_v fo36_2, ld_v sc4 (cells3 hp1).2.2, his, not_v, show (!false) = true from rfl, br_true, fa_v fo36_1, ld_v sc9 (cells3 hp1).2.1]
    rw [show (Value.string { data := #[] }) = strV [] from rfl, eqs_v]
    exact hk _ (by simp)
theorem vnone_ {bv mm : Nat} (h : w.heap[bv]? = some (.cells #[.map (some mm)] 61 (0, 0))) (k : K (.bool false) w) : S.call Tryd.prog 29 [PT bv] K w := by
  refine F29_link ?_
  unfold F29
  rw [eqn_v pt30, show (some (⟨bv, 0, none⟩ : Addr)).isNone = false from rfl, br_false, nilC_v, fa_v fo61_0, ld_v sc59 (cells1 h)]
  rw [v_eq (run_eql_of (P := Tryd.prog) (w := w) (t := 59) (x := .map (some mm)) (y := .map none) (r := false) (.tmp 9) (.const (.map none)) rfl rfl (fun d => by
    unfold Op.equalIn
    rw [Sem.run_bind, run_underlying Tryd.underlying59]
    rfl))]
  exact k
theorem cnone_ {b : Nat} {s : List UInt8} {L : List Nat} (h : CapAt w b s L) (k : K (.bool false) w) : S.call Tryd.prog 46 [PT b] K w := by
  refine F46_link ?_
  unfold F46
  obtain ⟨v, Lc, h1, h2, h3⟩ := h.ex
  rw [eqn_v pt27, show (some (⟨b, 0, none⟩ : Addr)).isNone = false from rfl, br_false, nilC_v, fa_v fo53_4, ld_v sc4 (cells5 h1).2.2.2.2, not_v]
  exact k
theorem check_ {b : Nat} {s : List UInt8} {L : List Nat} (h : CapAt w b s L) (k : ∀ w', Ch [] w w' → K (.tuple #[I64 (capE s).2.1, I64 (capE s).2.2]) w') : S.call Tryd.prog 22 [PT b] K w := by
  refine F22_link ?_
  unfold F22
  refine cnone_ h ?_
  rw [br_false]
  refine drawn_ok fun w1 hc1 hs1 => ?_
  obtain ⟨v, Lc, h1, h2, h3⟩ := (h.ch hc1 (by simp)).ex
  rw [nilC_p, fa_p fo53_2, ld_p sc3 (cells5 h1).2.2.1, nilC_p, fa_p fo53_3, ld_p sc25 (cells5 h1).2.2.2.1]
  exact k w1 hc1
/-- Variables: their block, and the map's. -/
def VAt (w : World) (bv mm : Nat) (f : UInt8 → Option Par) : Prop := w.heap[bv]? = some (.cells #[.map (some mm)] 61 (0, 0)) ∧ VM w mm f ∧ bv ≠ mm
theorem newvars_ (k : ∀ w' bv mm, VAt w' bv mm (fun _ => none) → Ch [] w w' → w.heap.size ≤ bv → w.heap.size ≤ mm → K (PT bv) w') : S.call Tryd.prog 13 [] K w := by
  refine F13_link ?_
  unfold F13
  refine vmk fun w1 hm1 hc1 hs1 => ?_
  rw [v_eq (show (Instr.build 61 #[(0, .map (some w.heap.size))]).run Tryd.prog w1 = .ok (.agg #[.map (some w.heap.size)]) w1 from by kernel_rfl)]
  refine Go.Fw.bx fun w2 hb2 hc2 hs2 => ?_
  exact k w2 w1.heap.size w.heap.size ⟨hb2, hm1.ch hc2 (by simp), by omega⟩ (hc1.trans hc2 (by simp)) (by omega) (by omega)
theorem numP_ {n : Int} (k : ∀ w', Ch [] w w' → K (parV { num := IntKind.i32.wrap n }) w') : S.call Tryd.prog 26 [I64 n] K w := by
  refine F26_link ?_
  unfold F26
  refine al z36 fun w1 hb1 hc1 hs1 => ?_
  rw [v_eq (cv321w _), v_eq (bd36n ..)]
  refine stw (vs := (parC { num := IntKind.i32.wrap n }).toArray) ag36 hb1 rfl rfl (by simpa using one_par (p := { num := IntKind.i32.wrap n })) fun w2 hb2 hc2 hs2 => ?_
  rw [ldR_p ag36 hb2 rfl]
  exact k w2 ((hc1.nil.trans hc2 (fun x hx => .inl hx)).mono (by simp))
end
end Go.Proofs.YtjaoeipfiodnfaaDoor
