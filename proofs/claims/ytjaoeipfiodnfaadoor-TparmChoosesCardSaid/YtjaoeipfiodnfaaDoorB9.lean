import Derived.Test.YtjaoeipfiodnfaaDoorB8
set_option linter.unusedVariables false
set_option maxRecDepth 4000
namespace Go.Proofs.YtjaoeipfiodnfaaDoor
open Go Go.Fw Go.Proofs Go.RowKit
/-! ### Digits and formats -/
def u32n (n : Int) : Nat := (n % 4294967296).toNat
def rawD (x : Code) (n : Int) : List UInt8 × List UInt8 :=
  if x.c.toNat = 100 then (if Lib.hasPrefix (Lib.itoa n) [45] = true then (Lib.trimPrefix (Lib.itoa n) [45], [45]) else if has1 x.flags 43 = true then (Lib.itoa n, [43]) else if has1 x.flags 32 = true then (Lib.itoa n, [32]) else (Lib.itoa n, []))
  else if x.c.toNat = 111 then (digB 8 (u32n n), []) else if x.c.toNat = 120 then (digB 16 (u32n n), []) else ((digB 16 (u32n n)).map up1, [])
def s1R (x : Code) (n : Int) (s : List UInt8) : List UInt8 := if x.prec = 0 ∧ n = 0 then [] else s
def s2R (x : Code) (s : List UInt8) : List UInt8 := if 0 < x.prec - s.length then List.replicate (x.prec - s.length).toNat 48 ++ s else s
def s3R (x : Code) (n : Int) (sg s : List UInt8) : List UInt8 × List UInt8 :=
  if has1 x.flags 35 = true then ((if x.c.toNat = 111 ∧ Lib.hasPrefix s [48] = false then 48 :: s else s), (if (x.c.toNat = 120 ∨ x.c.toNat = 88) ∧ n ≠ 0 then [48, x.c] else sg)) else (s, sg)
def digitsR (x : Code) (n : Int) : List UInt8 × List UInt8 := s3R x n (rawD x n).2 (s2R x (s1R x n (rawD x n).1))
theorem decDigits_len : ∀ u, (Lib.decDigits u).length ≤ u + 1 := by
  intro u
  induction u using Nat.strongRecOn with
  | ind u ih =>
    rw [Lib.decDigits]
    split
    · simp
    · have := ih (u / 10) (by omega)
      simp only [List.length_append, List.length_singleton]
      omega
theorem itoa_len (n : Int) : (Lib.itoa n).length ≤ n.natAbs + 2 := by
  unfold Lib.itoa
  split
  · have := decDigits_len n.natAbs
    simp only [List.length_cons]
    omega
  · have := decDigits_len n.toNat
    omega
theorem dg_len (b : Nat) : ∀ (f u : Nat) (acc : List UInt8), (dg b f u acc).length ≤ f + acc.length
  | 0, u, acc => by simp [dg]
  | f + 1, u, acc => by
    rw [dg]
    split
    · have := dg_len b f (u / b) (dch (u % b) :: acc)
      simp only [List.length_cons] at this
      omega
    · simp
      omega
theorem digB_len (b u : Nat) : (digB b u).length ≤ 22 := by simpa [digB] using dg_len b 22 u []
theorem trim_len (s p : List UInt8) : (Lib.trimPrefix s p).length ≤ s.length := by
  unfold Lib.trimPrefix
  split <;> simp
theorem rawD_len (x : Code) (n : Int) : (rawD x n).1.length ≤ n.natAbs + 22 ∧ (rawD x n).2.length ≤ 1 := by
  have h1 := itoa_len n
  have h2 := trim_len (Lib.itoa n) [45]
  have h3 := digB_len 8 (u32n n)
  have h4 := digB_len 16 (u32n n)
  unfold rawD
  repeat' split
  all_goals simp
  all_goals omega
theorem s1R_len (x : Code) (n : Int) (s : List UInt8) : (s1R x n s).length ≤ s.length := by unfold s1R; split <;> simp
theorem s2R_len {x : Code} (hp : x.prec ≤ 1000) (s : List UInt8) : (s2R x s).length ≤ s.length + 1000 := by
  unfold s2R
  split
  · simp
    omega
  · omega
theorem digitsR_len {x : Code} {n : Int} (hp : x.prec ≤ 1000) : (digitsR x n).1.length ≤ n.natAbs + 1023 ∧ (digitsR x n).2.length ≤ 2 := by
  obtain ⟨h1, h2⟩ := rawD_len x n
  have h3 := s1R_len x n (rawD x n).1
  have h4 := s2R_len hp (s1R x n (rawD x n).1)
  unfold digitsR s3R
  repeat' split
  all_goals simp
  all_goals omega
section
variable {w : World} {K : Value → World → Prop}
theorem ldAt {g : Nat} {x : Code} (h : CAt w g x) : S.v Tryd.prog (Instr.loadAt 3 (.pointer (some ⟨g, 0, none⟩))) K w = K (I64 x.at') w := ld_v sc3 (cells7 h).1
theorem ldOp {g : Nat} {x : Code} (h : CAt w g x) : S.v Tryd.prog (Instr.loadAt 5 (.pointer (some ⟨g, 1, none⟩))) K w = K (byteV x.op) w := ld_v sc5 (cells7 h).2.1
theorem ldC {g : Nat} {x : Code} (h : CAt w g x) : S.v Tryd.prog (Instr.loadAt 5 (.pointer (some ⟨g, 2, none⟩))) K w = K (byteV x.c) w := ld_v sc5 (cells7 h).2.2.1
theorem ldN {g : Nat} {x : Code} (h : CAt w g x) : S.v Tryd.prog (Instr.loadAt 21 (.pointer (some ⟨g, 3, none⟩))) K w = K (I32 x.n) w := ld_v sc21 (cells7 h).2.2.2.1
theorem ldFl {g : Nat} {x : Code} (h : CAt w g x) : S.v Tryd.prog (Instr.loadAt 9 (.pointer (some ⟨g, 4, none⟩))) K w = K (strV x.flags) w := ld_v sc9 (cells7 h).2.2.2.2.1
theorem ldWd {g : Nat} {x : Code} (h : CAt w g x) : S.v Tryd.prog (Instr.loadAt 3 (.pointer (some ⟨g, 5, none⟩))) K w = K (I64 x.width) w := ld_v sc3 (cells7 h).2.2.2.2.2.1
theorem ldPr {g : Nat} {x : Code} (h : CAt w g x) : S.v Tryd.prog (Instr.loadAt 3 (.pointer (some ⟨g, 6, none⟩))) K w = K (I64 x.prec) w := ld_v sc3 (cells7 h).2.2.2.2.2.2
theorem ldX {g : Nat} {x : Code} (h : CAt w g x) : S.v Tryd.prog (Instr.loadAt 76 (.pointer (some ⟨g, 0, none⟩))) K w = K (codeV x) w := ldw_v ag76 h rfl
theorem cvu {n : Int} (w : World) : (Go.convert 21 40 (I32 n)).run Tryd.prog w = .ok (.int .u32 (u32n n : Nat)) w := cvI w (by kernel_rfl) (by kernel_rfl) (by kernel_rfl) (by
  unfold u32n
  simp [IntKind.wrap, IntKind.signed, IntKind.bits]
  omega)
theorem cvu2 {n : Int} (w : World) : (Go.convert 40 39 (.int .u32 (u32n n : Nat))).run Tryd.prog w = .ok (.int .u64 (u32n n : Nat)) w := cvI w (by kernel_rfl) (by kernel_rfl) (by kernel_rfl) (by
  unfold u32n
  simp [IntKind.wrap, IntKind.signed, IntKind.bits]
  omega)
theorem u32n_lt (n : Int) : u32n n < 18446744073709551616 := by unfold u32n; omega
theorem cv212 {n : Int} (w : World) (h1 : -2147483648 ≤ n) (h2 : n ≤ 2147483647) : (Go.convert 21 2 (I32 n)).run Tryd.prog w = .ok (I64 n) w := cvI w (by kernel_rfl) (by kernel_rfl) (by kernel_rfl) (wrap_i64 (by omega) (by omega))
theorem addT_v {x y : Operand} {c : UInt8} {b : List UInt8} (h : b.length ≤ 9223372036854775800) : S.v Tryd.prog (S.bin .add 9 x y (.string { data := #[c] }) (strV b)) K w = K (strV (c :: b)) w := addS_v (a := [c]) (by simp; omega)
set_option maxHeartbeats 1000000
theorem digits_ {x : Code} {n : Int} (hn1 : -2147483648 ≤ n) (hn2 : n ≤ 2147483647) (hp1 : -1 ≤ x.prec) (hp2 : x.prec ≤ 1000) (hg : Gnd w)
    (k : ∀ w', Ch [] w w' → K (.tuple #[strV (digitsR x n).1, strV (digitsR x n).2]) w') : S.call Tryd.prog 78 [codeV x, I32 n] K w := by
  refine F78_link ?_
  unfold F78
  refine Go.Fw.bx fun w1 hb1 hc1 hs1 => ?_
  have hx1 : CAt w1 w.heap.size x := hb1
  generalize hgb : w.heap.size = g at *
  have hg1 := hg.ch hc1 (by simp)
  obtain ⟨hl1, hl2⟩ := rawD_len x n
  refine seq_ok fun J hJ => ?_
  have hJ' : ∀ (s sg : List UInt8) (rest : List Value) (w2 : World), rawD x n = (s, sg) → Ch [] w1 w2 → J (strV s :: strV sg :: rest) w2 := by
    intro s sg rest w2 hr hc2
    refine hJ _ _ ?_
    simp only [nth_zero, nth_succ]
    have hx2 : CAt w2 g x := hc2.at_ hx1 (by simp)
    have hD : digitsR x n = s3R x n sg (s2R x (s1R x n s)) := by unfold digitsR; rw [hr]
    rw [hr] at hl1 hl2
    simp only at hl1 hl2
    refine seq_ok fun J1 hJ1 => ?_
    have hJ1' : ∀ (rest : List Value), J1 (strV (s1R x n s) :: rest) w2 := by
      intro rest
      refine hJ1 _ _ ?_
      simp only [nth_zero, nth_succ]
      have hls := s1R_len x n s
      generalize s1R x n s = s1 at *
      refine seq_ok fun J2 hJ2 => ?_
      have hJ2' : ∀ (rest : List Value) (w3 : World), Ch [] w2 w3 → J2 (strV (s2R x s1) :: rest) w3 := by
        intro rest w3 hc3
        refine hJ2 _ _ ?_
        simp only [nth_zero, nth_succ]
        have hx3 : CAt w3 g x := hc3.at_ hx2 (by simp)
        have hls2 := s2R_len hp2 s1
        generalize s2R x s1 = s2 at *
        refine seq_ok fun J3 hJ3 => ?_
        have hJ3' : ∀ (a b : List UInt8) (rest : List Value), s3R x n sg s2 = (a, b) → J3 (strV a :: strV b :: rest) w3 := by
          intro a b rest he
          refine hJ3 _ _ ?_
          simp only [nth_zero, nth_succ]
          rw [hD, he] at k
          exact k w3 ((hc1.trans hc2 (by simp)).trans hc3 (by simp))
        clear hJ3
        rw [fa_v fo76_4, ldFl hx3]
        refine contains_ ?_
        refine br_bool _ _ _ (fun h35 => ?_) (fun h35 => ?_)
        · refine seq_ok fun J4 hJ4 => ?_
          have hJ4' : ∀ (rest : List Value) (a : List UInt8), a = (if x.c.toNat = 111 ∧ Lib.hasPrefix s2 [48] = false then 48 :: s2 else s2) → J4 (strV a :: rest) w3 := by
            intro rest a ha
            refine hJ4 _ _ ?_
            simp only [nth_zero, nth_succ]
            have hyes : (x.c.toNat = 120 ∨ x.c.toNat = 88) → n ≠ 0 → ∀ rest, J3 (strV a :: strV [48, x.c] :: rest) w3 := fun h1 h2 rest => hJ3' _ _ _ (by unfold s3R; rw [if_pos h35, ← ha, if_pos ⟨h1, h2⟩])
            have hno : ¬ ((x.c.toNat = 120 ∨ x.c.toNat = 88) ∧ n ≠ 0) → ∀ rest, J3 (strV a :: strV sg :: rest) w3 := fun h1 rest => hJ3' _ _ _ (by unfold s3R; rw [if_pos h35, ← ha, if_neg h1])
            rw [fa_v fo76_2, ldC hx3, eqC_v]
            refine br_dec _ _ _ (fun h120 => ?_) (fun h120 => ?_)
            · rw [ne_v]
              refine br_dec _ _ _ (fun h0 => ?_) (fun h0 => ?_)
              · rw [fa_v fo76_2, ldC hx3, v_eq (cvB _ _), v_eq (cvi x.c (by omega)), addT_v (by simp)]
                exact hyes (.inl (by omega)) h0 _
              · exact hno (fun h => h0 h.2) _
            · rw [fa_v fo76_2, ldC hx3, eqC_v]
              refine br_dec _ _ _ (fun h88 => ?_) (fun h88 => ?_)
              · rw [ne_v]
                refine br_dec _ _ _ (fun h0 => ?_) (fun h0 => ?_)
                · rw [fa_v fo76_2, ldC hx3, v_eq (cvB _ _), v_eq (cvi x.c (by omega)), addT_v (by simp)]
                  exact hyes (.inr (by omega)) h0 _
                · exact hno (fun h => h0 h.2) _
              · exact hno (fun h => by omega) _
          clear hJ4
          rw [fa_v fo76_2, ldC hx3, eqC_v]
          refine br_dec _ _ _ (fun h111 => ?_) (fun h111 => ?_)
          · refine hasPrefix_ ?_
            rw [not_v]
            refine br_bool _ _ _ (fun h48 => ?_) (fun h48 => ?_)
            · rw [addT_v (by omega)]
              exact hJ4' _ _ (by rw [if_pos ⟨by omega, by simpa using h48⟩])
            · exact hJ4' _ _ (by rw [if_neg (by simp at h48; simp [h48])])
          · exact hJ4' _ _ (by rw [if_neg (by omega)])
        · exact hJ3' _ _ _ (by unfold s3R; rw [if_neg (by rw [h35]; simp)])
      clear hJ2
      rw [fa_v fo76_6, ldPr hx2, lenS_v', sub_v, wrap_i64 (by omega) (by omega), gt_v]
      refine br_dec _ _ _ (fun h0 => ?_) (fun h0 => ?_)
      · rw [show x.prec - (s1.length : Int) = ((x.prec - (s1.length : Int)).toNat : Int) from by omega]
        refine repeat_ (by omega) fun w3 hc3 => ?_
        rw [addS_v (by simp; omega)]
        have he : s2R x s1 = List.replicate (x.prec - (s1.length : Int)).toNat 48 ++ s1 := by unfold s2R; rw [if_pos h0]
        rw [← he]
        exact hJ2' _ w3 hc3
      · have he : s2R x s1 = s1 := by unfold s2R; rw [if_neg h0]
        have := hJ2' [I64 (x.prec - (s1.length : Int)), .bool (decide (0 < x.prec - (s1.length : Int)))] w2 (Ch.refl _ _)
        rw [he] at this
        exact this
    clear hJ1
    have hone : ∀ (q : Bool), ¬ (x.prec = 0 ∧ n = 0) → J1 [strV s, .bool q] w2 := fun q hq => by
      have := hJ1' [.bool q]
      unfold s1R at this
      rw [if_neg hq] at this
      exact this
    rw [fa_v fo76_6, ldPr hx2, eq_v]
    refine br_dec _ _ _ (fun h0 => ?_) (fun h0 => ?_)
    · rw [eq_v]
      refine br_dec _ _ _ (fun h1 => ?_) (fun h1 => ?_)
      · have := hJ1' [.bool (decide (n = 0))]
        unfold s1R at this
        rw [if_pos ⟨h0, h1⟩] at this
        exact this
      · exact hone _ (fun h => h1 h.2)
    · exact hone _ (fun h => h0 h.1)
  clear hJ k
  rw [fa_v fo76_2, ldC hx1, eqC_v]
  refine br_dec _ _ _ (fun h100 => ?_) (fun h100 => ?_)
  · rw [v_eq (cv212 _ hn1 hn2)]
    refine fmtInt_ (by omega) (by omega) hg1 fun w2 hc2 => ?_
    refine cutPrefix_ ?_
    have hx2 : CAt w2 g x := hc2.at_ hx1 (by simp)
    rw [x20, x21]
    refine br_bool _ _ _ (fun h45 => ?_) (fun h45 => ?_)
    · exact hJ' _ [45] _ w2 (by unfold rawD; rw [if_pos (by omega), if_pos h45]) hc2
    · have h45' : ¬ (Lib.hasPrefix (Lib.itoa n) [45] = true) := by rw [h45]; simp
      rw [fa_v fo76_4, ldFl hx2]
      refine contains_ ?_
      refine br_bool _ _ _ (fun h43 => ?_) (fun h43 => ?_)
      · exact hJ' _ [43] _ w2 (by unfold rawD; rw [if_pos (by omega), if_neg h45', if_pos h43]) hc2
      · rw [fa_v fo76_4, ldFl hx2]
        refine contains_ ?_
        refine br_bool _ _ _ (fun h32 => ?_) (fun h32 => ?_)
        · exact hJ' _ [32] _ w2 (by unfold rawD; rw [if_pos (by omega), if_neg h45', if_neg (by rw [h43]; simp), if_pos h32]) hc2
        · exact hJ' _ [] _ w2 (by unfold rawD; rw [if_pos (by omega), if_neg h45', if_neg (by rw [h43]; simp), if_neg (by rw [h32]; simp)]) hc2
  · rw [eqC_v]
    refine br_dec _ _ _ (fun h111 => ?_) (fun h111 => ?_)
    · rw [v_eq (cvu _), v_eq (cvu2 _)]
      refine fmtUint_ (b := 8) (.inl rfl) (u32n_lt n) hg1 fun w2 hc2 => ?_
      exact hJ' _ [] _ w2 (by unfold rawD; rw [if_neg (by omega), if_pos (by omega)]) hc2
    · rw [eqC_v]
      refine br_dec _ _ _ (fun h120 => ?_) (fun h120 => ?_)
      · rw [v_eq (cvu _), v_eq (cvu2 _)]
        refine fmtUint_ (b := 16) (.inr rfl) (u32n_lt n) hg1 fun w2 hc2 => ?_
        exact hJ' _ [] _ w2 (by unfold rawD; rw [if_neg (by omega), if_neg (by omega), if_pos (by omega)]) hc2
      · rw [v_eq (cvu _), v_eq (cvu2 _)]
        refine fmtUint_ (b := 16) (.inr rfl) (u32n_lt n) hg1 fun w2 hc2 => ?_
        have := digB_len 16 (u32n n)
        refine upper_ (by omega) fun w3 hc3 => ?_
        exact hJ' _ [] _ w3 (by unfold rawD; rw [if_neg (by omega), if_neg (by omega), if_neg (by omega)]) (hc2.trans hc3 (by simp))
def bodyR (x : Code) (p : Par) : List UInt8 × List UInt8 := if x.c.toNat = 115 then (if 0 ≤ x.prec then p.text.take (min (p.text.length : Int) x.prec).toNat else p.text, []) else digitsR x p.num
def padN (x : Code) (q : List UInt8 × List UInt8) : Nat := (max 0 ((x.width : Int) - q.1.length - q.2.length)).toNat
def fmtR (x : Code) (p : Par) : List UInt8 :=
  let q := bodyR x p
  if has1 x.flags 45 = true then q.2 ++ q.1 ++ List.replicate (padN x q) 32
  else if has1 x.flags 48 = true ∧ x.prec < 0 ∧ x.c.toNat ≠ 115 then q.2 ++ List.replicate (padN x q) 48 ++ q.1
  else List.replicate (padN x q) 32 ++ q.2 ++ q.1
structure ParOk (p : Par) : Prop where
  lo : -2147483648 ≤ p.num
  hi : p.num ≤ 2147483647
  tx : p.text.length ≤ 140737488355328
structure CodeOk (x : Code) : Prop where
  wd : x.width ≤ 1000
  p1 : -1 ≤ x.prec
  p2 : x.prec ≤ 1000
  pm : x.op.toNat = 112 → 49 ≤ x.c.toNat ∧ x.c.toNat ≤ 57
theorem bodyR_len {x : Code} {p : Par} (hp : ParOk p) (hx : CodeOk x) : (bodyR x p).1.length ≤ 140737488355328 ∧ (bodyR x p).2.length ≤ 2 := by
  have h1 := digitsR_len (x := x) (n := p.num) hx.p2
  have := hp.lo
  have := hp.hi
  have := hp.tx
  unfold bodyR
  split
  · split
    · simp
      omega
    · simp
      omega
  · omega
theorem formatted_ {x : Code} {p : Par} (hp : ParOk p) (hx : CodeOk x) (hg : Gnd w) (k : ∀ w', Ch [] w w' → K (strV (fmtR x p)) w') : S.call Tryd.prog 54 [codeV x, parV p] K w := by
  refine F54_link ?_
  unfold F54
  refine Go.Fw.bx fun w0 hb0 hc0 hs0 => ?_
  refine Go.Fw.bx fun w1 hb1 hc1 hs1 => ?_
  have hx1 : CAt w1 w.heap.size x := hc1.at_ hb0 (by simp)
  have hp1 : w1.heap[w0.heap.size]? = some (.cells #[I32 p.num, strV p.text, .bool p.is] 36 (0, 0)) := hb1
  generalize hgb : w.heap.size = g at *
  generalize hgb' : w0.heap.size = g' at *
  have hc01 : Ch [] w w1 := hc0.trans hc1 (by simp)
  have hg1 := hg.ch hc01 (by simp)
  obtain ⟨hl1, hl2⟩ := bodyR_len hp hx
  have hwd := hx.wd
  refine seq_ok fun J hJ => ?_
  have hJ' : ∀ (s sg : List UInt8) (rest : List Value) (w2 : World), bodyR x p = (s, sg) → Ch [] w1 w2 → J (strV s :: strV sg :: rest) w2 := by
    intro s sg rest w2 hr hc2
    refine hJ _ _ ?_
    simp only [nth_zero, nth_succ]
    have hx2 : CAt w2 g x := hc2.at_ hx1 (by simp)
    have hF : fmtR x p = (if has1 x.flags 45 = true then sg ++ s ++ List.replicate (padN x (s, sg)) 32
      else if has1 x.flags 48 = true ∧ x.prec < 0 ∧ x.c.toNat ≠ 115 then sg ++ List.replicate (padN x (s, sg)) 48 ++ s
      else List.replicate (padN x (s, sg)) 32 ++ sg ++ s) := by unfold fmtR; rw [hr]
    rw [hF] at k
    rw [hr] at hl1 hl2
    simp only at hl1 hl2
    have hpn : (max 0 ((x.width : Int) - s.length - sg.length)) = ((padN x (s, sg) : Nat) : Int) := by unfold padN; simp only; omega
    have hpl : padN x (s, sg) ≤ 1000 := by unfold padN; simp only; omega
    rw [fa_v fo76_5, ldWd hx2, lenS_v', sub_v, wrap_i64 (by omega) (by omega), lenS_v', sub_v, wrap_i64 (by omega) (by omega), v_eq (run_max ..), hpn, fa_v fo76_4, ldFl hx2]
    generalize padN x (s, sg) = m at *
    refine contains_ ?_
    have last : ¬ (has1 x.flags 45 = true) → ¬ (has1 x.flags 48 = true ∧ x.prec < 0 ∧ x.c.toNat ≠ 115) → S.call Tryd.prog 16 [(Go.Value.string { data := #[32] }), I64 m] (fun t70 w => S.v Tryd.prog (S.bin Go.BinOp.add 9 (Go.Operand.tmp 70) (Go.Operand.tmp 71) t70 (strV sg)) (fun t72 w => S.v Tryd.prog (S.bin Go.BinOp.add 9 (Go.Operand.tmp 72)
      (Go.Operand.tmp 73) t72 (strV s)) (fun t74 w => K t74 w) w) w) w2 := by
      intro h1 h2
      rw [if_neg h1, if_neg h2] at k
      refine repeat_ (by omega) fun w3 hc3 => ?_
      rw [addS_v (by simp; omega), addS_v (by simp; omega)]
      exact k w3 ((hc01.trans hc2 (by simp)).trans hc3 (by simp))
    refine br_bool _ _ _ (fun h45 => ?_) (fun h45 => ?_)
    · rw [if_pos h45] at k
      rw [addS_v (by omega)]
      refine repeat_ (by omega) fun w3 hc3 => ?_
      rw [addS_v (by simp; omega)]
      exact k w3 ((hc01.trans hc2 (by simp)).trans hc3 (by simp))
    · have h45' : ¬ (has1 x.flags 45 = true) := by rw [h45]; simp
      rw [fa_v fo76_4, ldFl hx2]
      refine contains_ ?_
      refine br_bool _ _ _ (fun h48 => ?_) (fun h48 => ?_)
      · rw [fa_v fo76_6, ldPr hx2, lt_v]
        refine br_dec _ _ _ (fun hpr => ?_) (fun hpr => ?_)
        · rw [fa_v fo76_2, ldC hx2, neC_v]
          refine br_dec _ _ _ (fun h115 => ?_) (fun h115 => ?_)
          · rw [if_neg h45', if_pos ⟨h48, hpr, by omega⟩] at k
            refine repeat_ (by omega) fun w3 hc3 => ?_
            rw [addS_v (by simp; omega), addS_v (by simp; omega)]
            exact k w3 ((hc01.trans hc2 (by simp)).trans hc3 (by simp))
          · exact last h45' (fun h => h115 (by omega))
        · exact last h45' (fun h => hpr h.2.1)
      · exact last h45' (fun h => by rw [h48] at h; simp at h)
  clear hJ k
  rw [fa_v fo76_2, ldC hx1, eqC_v]
  refine br_dec _ _ _ (fun h115 => ?_) (fun h115 => ?_)
  · rw [fa_v fo36_1, ld_v sc9 (cells3 hp1).2.1, fa_v fo76_6, ldPr hx1, ge_v]
    refine br_dec _ _ _ (fun h0 => ?_) (fun h0 => ?_)
    · have htx := hp.tx
      rw [lenS_v', fa_v fo76_6, ldPr hx1, v_eq (run_min ..), cuth_v (by omega) (by omega)]
      exact hJ' _ [] _ w1 (by unfold bodyR; rw [if_pos (by omega), if_pos h0]) (Ch.refl _ _)
    · exact hJ' _ [] _ w1 (by unfold bodyR; rw [if_pos (by omega), if_neg h0]) (Ch.refl _ _)
  · rw [ldX hx1, fa_v fo36_0, ld_v sc21 (cells3 hp1).1]
    refine digits_ hp.lo hp.hi hx.p1 hx.p2 hg1 fun w2 hc2 => ?_
    rw [x20, x21]
    exact hJ' _ _ _ w2 (by unfold bodyR; rw [if_neg (by omega)]) hc2
end
end Go.Proofs.YtjaoeipfiodnfaaDoor
