import Derived.Test.YtjaoeipfiodnfaaDoorB4
set_option linter.unusedVariables false
set_option maxRecDepth 4000
namespace Go.Proofs.YtjaoeipfiodnfaaDoor
open Go Go.Fw Go.Proofs
/-! ### parse and New -/
theorem countR_len : ∀ (r : List UInt8) (n : Nat), (countR r n).2.length ≤ r.length
  | [], n => by simp [countR]
  | c :: r, n => by
    unfold countR
    split
    · have := countR_len r (min (10 * n + (c.toNat - 48)) 1001)
      simp only [List.length_cons]
      omega
    · simp
theorem flagsR_len (b : Bool) : ∀ (r : List UInt8), (flagsR b r).2.length ≤ r.length
  | [] => by simp [flagsR]
  | c :: r => by
    unfold flagsR
    split
    · have := flagsR_len b r
      simp only [List.length_cons]
      omega
    · simp
theorem tailR_len {fl : List UInt8} {wd : Nat} {pr : Int} {r r' : List UInt8} {x : Code} (h : tailR fl wd pr r = some (x, r')) : r'.length < r.length := by
  cases r with
  | nil => cases h
  | cons c t =>
    simp only [tailR] at h
    split at h
    · injection h with h
      injection h with _ h
      subst h
      simp
    · cases h
theorem exitR_len {fl r r' : List UInt8} {x : Code} (h : exitR fl r = some (x, r')) : r'.length < r.length := by
  unfold exitR at h
  split at h
  · have h2 := countR_len r 0
    generalize countR r 0 = q at *
    unfold precR at h
    split at h
    · split at h
      · have := tailR_len h
        have h3 := countR_len q.2.tail 0
        simp only [List.length_tail] at h3
        omega
      · cases h
    · have := tailR_len h
      omega
  · cases h
theorem formatR_len {r r' : List UInt8} {x : Code} (h : formatR r = some (x, r')) : r'.length < r.length := by
  have h0 : (if peekR r = 58 then r.tail else r).length ≤ r.length := by split <;> simp
  have h1 := flagsR_len (decide (peekR r = 58)) (if peekR r = 58 then r.tail else r)
  have h2 := exitR_len h
  omega
theorem numR_len : ∀ (r : List UInt8) (n m : Nat) {a b : Nat} {r' : List UInt8}, numR r n m = some (a, b, r') → r'.length ≤ r.length
  | [], n, m, a, b, r', h => by
    simp only [numR, Option.some.injEq, Prod.mk.injEq] at h
    simp [h.2.2]
  | c :: r, n, m, a, b, r', h => by
    unfold numR at h
    split at h
    · split at h
      · cases h
      · have := numR_len r _ _ h
        simp only [List.length_cons]
        omega
    · simp only [Option.some.injEq, Prod.mk.injEq] at h
      simp [← h.2.2]
theorem numberR_len {r r' : List UInt8} {x : Code} (h : numberR r = some (x, r')) : r'.length < r.length := by
  unfold numberR at h
  have h0 : (signR r).2.length ≤ r.length := by unfold signR; split <;> simp
  cases hn : numR (signR r).2 0 0 with
  | none => rw [hn] at h; cases h
  | some q =>
    obtain ⟨a, b, r2⟩ := q
    have h1 := numR_len _ _ _ hn
    rw [hn] at h
    cases r2 with
    | nil => cases h
    | cons c t =>
      simp only [closeR] at h
      split at h
      · injection h with h
        injection h with _ h
        subst h
        simp only [List.length_cons] at h1
        omega
      · cases h
theorem oneR_len {r r' : List UInt8} {x : Code} (h : oneR r = some (x, r')) : r'.length < r.length := by
  cases r with
  | nil => cases h
  | cons c r =>
    simp only [oneR] at h
    split at h
    · cases r with
      | nil => cases h
      | cons d r =>
        simp only [percR] at h
        have one : ∀ {y : Code} {t t' : List UInt8}, some (y, t) = some (x, t') → t' = t := fun e => by injection e with e; injection e with _ e; exact e.symm
        split at h
        · rw [one h]; simp; omega
        · split at h
          · rw [one h]; simp; omega
          · split at h
            · cases r with
              | nil => cases h
              | cons y r =>
                simp only [parmR] at h
                split at h
                · rw [one h]; simp; omega
                · cases h
            · split at h
              · cases r with
                | nil => cases h
                | cons y r =>
                  simp only [varR] at h
                  split at h
                  · rw [one h]; simp; omega
                  · cases h
              · split at h
                · cases r with
                  | nil => cases h
                  | cons y r =>
                    cases r with
                    | nil => cases h
                    | cons z r =>
                      simp only [quoteR] at h
                      split at h
                      · rw [one h]; simp; omega
                      · cases h
                · split at h
                  · have := numberR_len h
                    simp only [List.length_cons]
                    omega
                  · have := formatR_len h
                    simp only [List.length_cons] at *
                    omega
    · injection h with h
      injection h with _ h
      rw [← h]
      simp
/-- What a string comes to, from a place on: its codes, or the place that means nothing. -/
def parseF : Nat → Nat → List UInt8 → List Code × Option Nat
  | 0, _, _ => ([], none)
  | d + 1, n, r => match r with
    | [] => ([], none)
    | _ :: _ => match oneR r with
      | none => ([], some n)
      | some (x, r') => ({ x with at' := n } :: (parseF d (n + (r.length - r'.length)) r').1, (parseF d (n + (r.length - r'.length)) r').2)
def parseR (s : List UInt8) : List Code × Option Nat := parseF s.length 0 s
theorem parseF_more : ∀ (d e n : Nat) (r : List UInt8), r.length ≤ d → r.length ≤ e → parseF d n r = parseF e n r
  | 0, e, n, r, h1, h2 => by
    have : r = [] := List.eq_nil_of_length_eq_zero (by omega)
    subst this
    cases e <;> rfl
  | d + 1, 0, n, r, h1, h2 => by
    have : r = [] := List.eq_nil_of_length_eq_zero (by omega)
    subst this
    rfl
  | d + 1, e + 1, n, [], _, _ => rfl
  | d + 1, e + 1, n, a :: t, h1, h2 => by
    cases ho : oneR (a :: t) with
    | none => simp [parseF, ho]
    | some q =>
      obtain ⟨x, r'⟩ := q
      have hlt := oneR_len ho
      have := parseF_more d e (n + ((a :: t).length - r'.length)) r' (by simp only [List.length_cons] at *; omega) (by simp only [List.length_cons] at *; omega)
      simp only [parseF, ho]
      rw [this]
/-- From a place on. -/
def parseA (n : Nat) (r : List UInt8) : List Code × Option Nat := parseF r.length n r
theorem parseA_nil (n : Nat) : parseA n [] = ([], none) := rfl
theorem parseA_none {n : Nat} {r : List UInt8} (hr : r ≠ []) (h : oneR r = none) : parseA n r = ([], some n) := by
  cases r with
  | nil => exact absurd rfl hr
  | cons a t => simp [parseA, parseF, h]
theorem parseA_some {n : Nat} {r r' : List UInt8} {x : Code} (h : oneR r = some (x, r')) : parseA n r = ({ x with at' := n } :: (parseA (n + (r.length - r'.length)) r').1, (parseA (n + (r.length - r'.length)) r').2) := by
  cases r with
  | nil => cases h
  | cons a t =>
    have hlt := oneR_len h
    have hm := parseF_more t.length r'.length (n + ((a :: t).length - r'.length)) r' (by simp only [List.length_cons] at *; omega) (Nat.le_refl _)
    unfold parseA
    rw [show (a :: t).length = t.length + 1 from rfl] at *
    simp only [parseF, h]
    rw [← hm]
    rfl
def codesC (l : List Code) : List Value := l.flatMap codeC
theorem codesC_len (l : List Code) : (codesC l).length = l.length * 7 := by
  induction l with
  | nil => rfl
  | cons a r ih => simp only [codesC, List.flatMap_cons, List.length_append] at *; rw [ih]; simp [codeC]; omega
theorem codesC_append (a b : List Code) : codesC (a ++ b) = codesC a ++ codesC b := by simp [codesC]
theorem one_codes {l : List Code} : ∀ u ∈ codesC l, u.oneCell' = true := by
  intro u hu
  obtain ⟨x, _, hx⟩ := List.mem_flatMap.1 hu
  simp only [codeC, List.mem_cons, List.not_mem_nil, or_false] at hx
  rcases hx with rfl | rfl | rfl | rfl | rfl | rfl | rfl <;> rfl
theorem bs51 (w : World) (a b c d e f g : Value) : (Instr.buildSlice 51 1 #[(0, .agg #[a, b, c, d, e, f, g])]).run Tryd.prog w = .ok (.slice (some ⟨w.heap.size, 0, none⟩) 1 1) (w.alloc (.cells #[a, b, c, d, e, f, g] 76)) := by kernel_rfl
theorem b107 (w : World) (s : List UInt8) : (Instr.build 107 #[(0, strV s)]).run Tryd.prog w = .ok (.agg #[strV s, I64 0]) w := by kernel_rfl
theorem b53 (w : World) (s : List UInt8) : (Instr.build 53 #[(0, strV s), (4, .bool true)]).run Tryd.prog w = .ok (.agg #[strV s, .slice none 0 0, I64 0, I64 0, .bool true]) w := by kernel_rfl
/-- A slice of codes of one's own. -/
def CS (w : World) (v : Value) (l : List Code) (L : List Nat) : Prop := Own w 76 7 v l.length (codesC l) L
section
variable {w : World} {K : Value → World → Prop}
theorem lenS_v' {ty : TypeId} {bs : List UInt8} : S.v Tryd.prog (Builtin.len_ #[9] ty #[strV bs]) K w = K (I64 bs.length) w := lenS_v Tryd.underlying9
theorem parse_ {s : List UInt8} (hl : s.length ≤ 4096)
    (k1 : ∀ v w' L, (parseR s).2 = none → CS w' v (parseR s).1 L → Ch [] w w' → (∀ z, z ∈ L → w.heap.size ≤ z) → K (.tuple #[v, I64 0, I64 0]) w')
    (k2 : ∀ n w', (parseR s).2 = some n → Ch [] w w' → K (.tuple #[.slice none 0 0, I64 n, I64 40]) w') : S.call Tryd.prog 28 [strV s] K w := by
  refine F28_link ?_
  unfold F28
  rw [v_eq (b107 w s)]
  refine Go.Fw.bx fun w1 hb1 hc1 hs1 => ?_
  have hp1 : PS w1 w.heap.size s s := ⟨0, by simp, by simp, hb1⟩
  intro I hC
  have hR : parseA 0 s = parseR s := rfl
  generalize hb : w.heap.size = b at *
  have key : ∀ (d : Nat) (r : List UInt8) (l : List Code) (n : Nat) (x2 x3 x4 v x7 x8 x9 x19 x30 : Value) (L : List Nat) (w' : World), r.length ≤ d → n + r.length = s.length → PS w' b s r → CS w' v l L → Ch [] w w' → (∀ z, z ∈ L → b < z) → l.length ≤ n → (parseR s).1 = l ++ (parseA n r).1 → (parseR s).2 = (parseA n r).2 → I [x2, x3, x4, v, x7, x8, x9, x19, x30] w' := by
    intro d
    induction d with
    | zero =>
      intro r l n x2 x3 x4 v x7 x8 x9 x19 x30 L w' hd hn hp ho hc hf hll he1 he2
      refine hC _ _ _ _ _ _ _ _ _ _ ?_
      have hr : r = [] := List.eq_nil_of_length_eq_zero (by omega)
      subst hr
      obtain ⟨m, m1, m2, m3⟩ := hp
      simp at m1 hn
      rw [nilC_v, fa_v fo107_1, ld_v sc3 (cells2 m3).2, lenS_v', lt_v, decide_eq_false (by omega), br_false]
      rw [parseA_nil] at he1 he2
      rw [List.append_nil] at he1
      rw [he1] at k1
      exact k1 v w' L he2 ho hc (fun z hz => by have := hf z hz; omega)
    | succ d ih =>
      intro r l n x2 x3 x4 v x7 x8 x9 x19 x30 L w' hd hn hp ho hc hf hll he1 he2
      refine hC _ _ _ _ _ _ _ _ _ _ ?_
      obtain ⟨m, m1, m2, m3⟩ := id hp
      obtain rfl : m = n := by omega
      rw [nilC_v, fa_v fo107_1, ld_v sc3 (cells2 m3).2, lenS_v', lt_v]
      cases r with
      | nil =>
        simp at hn
        rw [decide_eq_false (by omega), br_false]
        rw [parseA_nil] at he1 he2
        rw [List.append_nil] at he1
        rw [he1] at k1
        exact k1 v w' L he2 ho hc (fun z hz => by have := hf z hz; omega)
      | cons c0 t =>
        simp only [List.length_cons] at hn hd
        rw [decide_eq_true (by omega), br_true, nilC_v, fa_v fo107_1, ld_v sc3 (cells2 m3).2]
        have hs' := hc.size
        refine one_ hp hl (fun x r' w2 hx hp2 hc2 => ?_) (fun x w2 hx hc2 => ?_)
        · rw [x20, x21]
          refine al z76 fun w3 hb3 hc3 hs3 => ?_
          refine stw (vs := #[I64 x.at', byteV x.op, byteV x.c, I32 x.n, strV x.flags, I64 x.width, I64 x.prec]) ag76 hb3 rfl rfl (one_code x) fun w4 hb4 hc4 hs4 => ?_
          rw [not_v, show (!true) = false from rfl, br_false, fa_v fo76_0]
          refine st sc3 hb4 (by simp) rfl fun w5 hb5 hc5 hs5 => ?_
          rw [ldw_v ag76 hb5 rfl]
          have hs2 := hc2.size
          have hc05 : Ch [b] w w5 := (((hc.nil (L := [b])).trans hc2 (by simp)).trans hc3 (by simp)).trans (hc4.trans hc5 (fun x hx => .inl hx)) (by simp; omega)
          have hc25 : Ch [b] w' w5 := (hc2.trans hc3 (by simp)).trans (hc4.trans hc5 (fun x hx => .inl hx)) (by simp; omega)
          have hblt := hp2.lt
          have hp5 : PS w5 b s r' := (hp2.ch hc3 (by simp)).ch (hc4.trans hc5 (fun x hx => .inl hx)) (by simp; omega)
          have hLne : ∀ z, z ∈ L → z ∉ [b] := fun z hz => by have := hf z hz; simp; omega
          have ho5 : CS w5 v l L := Own.ch ho hc25 hLne
          have hv5 : (Value.agg ((#[I64 x.at', byteV x.op, byteV x.c, I32 x.n, strV x.flags, I64 x.width, I64 x.prec] : Array Value).setIfInBounds 0 (I64 m))) = .agg #[I64 m, byteV x.op, byteV x.c, I32 x.n, strV x.flags, I64 x.width, I64 x.prec] := rfl
          rw [hv5]
          refine v_ok (bs51 ..) ?_
          have hn6 := heap_alloc_new w5 (.cells #[I64 m, byteV x.op, byteV x.c, I32 x.n, strV x.flags, I64 x.width, I64 x.prec] 76)
          have hc6 := ch_alloc w5 (.cells #[I64 m, byteV x.op, byteV x.c, I32 x.n, strV x.flags, I64 x.width, I64 x.prec] 76)
          have hown : Own (w5.alloc (.cells #[I64 m, byteV x.op, byteV x.c, I32 x.n, strV x.flags, I64 x.width, I64 x.prec] 76)) 76 7 (.slice (some ⟨w5.heap.size, 0, none⟩) 1 1) 1 (codesC [{ x with at' := m }]) [w5.heap.size] := Own.fresh hn6 rfl (by simp only [maxLen]; omega)
          have hlen6 : (w5.alloc (.cells #[I64 m, byteV x.op, byteV x.c, I32 x.n, strV x.flags, I64 x.width, I64 x.prec] 76)).heap.size = w5.heap.size + 1 := by simp
          generalize w5.alloc (.cells #[I64 m, byteV x.op, byteV x.c, I32 x.n, strV x.flags, I64 x.width, I64 x.prec] 76) = w6 at *
          refine ap (m := 1) (news := codesC [{ x with at' := m }]) sl51 (Own.ch ho5 hc6 (by simp)) hown.rd one_codes (by omega) (by omega) fun v7 w7 L7 ho7 hc7 hl7 => ?_
          have hlt := oneR_len hx
          simp only [List.length_cons] at hlt
          rw [parseA_some hx] at he1 he2
          have hsz5 := hc05.size
          have hc07 : Ch [] w w7 := ((hc05.mono (by simp; omega)).trans hc6 (by simp)).trans hc7 (fun z hz => .inr (by have := hf z hz; omega))
          have ho7' : CS w7 v7 (l ++ [{ x with at' := m }]) L7 := by
            unfold CS
            rw [List.length_append, codesC_append]
            exact ho7
          have hp7 : PS w7 b s r' := (hp5.ch hc6 (by simp)).ch hc7 (fun hz => by have := hf b hz; omega)
          simp only [List.length_cons] at he1 he2
          have hsub : m + (t.length + 1 - r'.length) + r'.length = s.length := by omega
          exact ih r' (l ++ [{ x with at' := m }]) (m + (t.length + 1 - r'.length)) _ _ _ v7 _ _ _ _ _ L7 w7 (by omega) hsub hp7 ho7' hc07 (fun z hz => by
            rcases hl7 z hz with h | h
            · exact hf z h
            · omega) (by rw [List.length_append]; show l.length + 1 ≤ _; omega) (by rw [he1]; simp) he2
        · rw [x20, x21]
          refine al z76 fun w3 hb3 hc3 hs3 => ?_
          refine stw (vs := #[I64 x.at', byteV x.op, byteV x.c, I32 x.n, strV x.flags, I64 x.width, I64 x.prec]) ag76 hb3 rfl rfl (one_code x) fun w4 hb4 hc4 hs4 => ?_
          rw [not_v, show (!false) = true from rfl, br_true]
          have hs2 := hc2.size
          rw [parseA_none (by simp) hx] at he2
          have hc04 : Ch [b] w w4 := (((hc.nil (L := [b])).trans hc2 (by simp)).trans hc3 (by simp)).trans hc4 (by simp; omega)
          exact k2 m w4 he2 (hc04.mono (by simp; omega))
  exact key s.length s [] 0 _ _ _ _ _ _ _ _ _ [] w1 (Nat.le_refl _) (by simp) hp1 (Own.nil _ _ _) hc1 (by simp) (by simp) (by rw [hR]; rfl) (by rw [hR])
/-! ### A capability -/
/-- What a capability holds: its codes, where it means nothing, and what is wrong. -/
def capE (s : List UInt8) : List Code × Nat × Int :=
  if 4096 < s.length then ([], 0, 3) else match (parseR s).2 with
    | none => ((parseR s).1, 0, 0)
    | some n => ([], n, 40)
structure CapAt (w : World) (b : Nat) (s : List UInt8) (L : List Nat) : Prop where
  ex : ∃ v Lc, w.heap[b]? = some (.cells #[strV s, v, I64 (capE s).2.1, I64 (capE s).2.2, .bool true] 53 (0, 0)) ∧ CS w v (capE s).1 Lc ∧ L = b :: Lc
theorem CapAt.ch {w w' : World} {b : Nat} {s : List UInt8} {L M : List Nat} (h : CapAt w b s L) (hc : Ch M w w') (hd : ∀ x, x ∈ L → x ∉ M) : CapAt w' b s L := by
  obtain ⟨v, Lc, h1, h2, h5⟩ := h.ex
  subst h5
  exact ⟨v, Lc, hc.at_ h1 (hd b (by simp)), Own.ch h2 hc (fun x hx => hd x (by simp [hx])), rfl⟩
theorem new_ {s : List UInt8} (k : ∀ w' L, CapAt w' w.heap.size s L → Ch [] w w' → (∀ z, z ∈ L → w.heap.size ≤ z) → K (PT w.heap.size) w') : S.call Tryd.prog 11 [strV s] K w := by
  refine F11_link ?_
  unfold F11
  rw [v_eq (b53 w s)]
  refine Go.Fw.bx fun w1 hb1 hc1 hs1 => ?_
  rw [lenS_v', gt_v]
  refine br_dec _ _ _ (fun hg => ?_) (fun hg => ?_)
  · have hb1' : w1.heap[w.heap.size]? = some (.cells #[strV s, .slice none 0 0, I64 0, I64 0, .bool true] 53 (0, 0)) := hb1
    rw [nilC_v, fa_v fo53_3]
    refine st sc25 hb1' (by simp) rfl fun w2 hb2 hc2 hs2 => ?_
    have hE : capE s = ([], 0, 3) := by unfold capE; rw [if_pos (by omega)]
    refine k w2 [w.heap.size] ⟨_, [], by rw [hb2, hE]; rfl, by rw [hE]; exact Own.nil _ _ _, rfl⟩ ((hc1.nil.trans hc2 (fun x hx => .inl hx)).mono (by simp)) (by simp)
  · have hle : s.length ≤ 4096 := by omega
    have hE : capE s = match (parseR s).2 with
      | none => ((parseR s).1, 0, 0)
      | some n => ([], n, 40) := by unfold capE; rw [if_neg (by omega)]
    have s1 := hc1.size
    refine parse_ hle (fun v w2 L hn ho hc2 hf => ?_) (fun n w2 hn hc2 => ?_)
    · rw [hn] at hE
      try simp only at hE
      rw [x30, x31, x32, nilC_v, fa_v fo53_1]
      have hb2 : w2.heap[w.heap.size]? = some (.cells #[strV s, .slice none 0 0, I64 0, I64 0, .bool true] 53 (0, 0)) := hc2.at_ hb1 (by simp)
      refine st sc51 hb2 (by simp) (by obtain ⟨A, c, rfl, _⟩ := Own.shape ho; rfl) fun w3 hb3 hc3 hs3 => ?_
      rw [nilC_v, fa_v fo53_2]
      refine st sc3 hb3 (by simp) rfl fun w4 hb4 hc4 hs4 => ?_
      rw [nilC_v, fa_v fo53_3]
      refine st sc25 hb4 (by simp) rfl fun w5 hb5 hc5 hs5 => ?_
      have hc25 : Ch [w.heap.size] w2 w5 := (hc3.trans hc4 (fun x hx => .inl hx)).trans hc5 (fun x hx => .inl hx)
      have hc05 : Ch [] w w5 := ((hc1.trans hc2 (by simp)).nil.trans hc25 (fun x hx => .inl hx)).mono (by simp)
      refine k w5 (w.heap.size :: L) ⟨v, L, by rw [hb5, hE]; rfl, by rw [hE]; exact Own.ch ho hc25 (fun x hx => by have := hf x hx; simp; omega), rfl⟩ hc05 (fun z hz => by
        simp only [List.mem_cons] at hz
        rcases hz with rfl | hz
        · omega
        · have := hf z hz; omega)
    · rw [hn] at hE
      try simp only at hE
      rw [x30, x31, x32, nilC_v, fa_v fo53_1]
      have hb2 : w2.heap[w.heap.size]? = some (.cells #[strV s, .slice none 0 0, I64 0, I64 0, .bool true] 53 (0, 0)) := hc2.at_ hb1 (by simp)
      refine st sc51 hb2 (by simp) rfl fun w3 hb3 hc3 hs3 => ?_
      rw [nilC_v, fa_v fo53_2]
      refine st sc3 hb3 (by simp) rfl fun w4 hb4 hc4 hs4 => ?_
      rw [nilC_v, fa_v fo53_3]
      refine st sc25 hb4 (by simp) rfl fun w5 hb5 hc5 hs5 => ?_
      have hc25 : Ch [w.heap.size] w2 w5 := (hc3.trans hc4 (fun x hx => .inl hx)).trans hc5 (fun x hx => .inl hx)
      have hc05 : Ch [] w w5 := ((hc1.trans hc2 (by simp)).nil.trans hc25 (fun x hx => .inl hx)).mono (by simp)
      refine k w5 [w.heap.size] ⟨_, [], by rw [hb5, hE]; rfl, by rw [hE]; exact Own.nil _ _ _, rfl⟩ hc05 (by simp)
end
end Go.Proofs.YtjaoeipfiodnfaaDoor
