import Derived.Test.YtjaoeipfiodnfaaDoorBB
set_option linter.unusedVariables false
set_option maxRecDepth 4000
namespace Go.Proofs.YtjaoeipfiodnfaaDoor
open Go Go.Fw Go.Proofs Go.RowKit
/-! ### One code is done -/
def truthR (b : Bool) : Int := if b then 1 else 0
def twoR (o : Nat) (a b : Int) : Int :=
  if o = 43 then IntKind.i32.wrap (a + b) else if o = 45 then IntKind.i32.wrap (a - b) else if o = 42 then IntKind.i32.wrap (a * b)
  else if o = 47 then (if b = 0 then 0 else IntKind.i32.wrap (IntKind.i64.wrap (a.tdiv b))) else if o = 109 then (if b = 0 then 0 else IntKind.i32.wrap (a.tmod b))
  else if o = 38 then bits .and .i32 a b else if o = 124 then bits .or .i32 a b else if o = 94 then bits .xor .i32 a b
  else if o = 61 then truthR (decide (a = b)) else if o = 62 then truthR (decide (b < a)) else if o = 60 then truthR (decide (a < b))
  else if o = 65 then truthR (decide (a ≠ 0 ∧ b ≠ 0)) else truthR (decide (a ≠ 0 ∨ b ≠ 0))
def incP (p : Par) : Par := if p.is = true then p else { p with num := IntKind.i32.wrap (p.num + 1) }
def incR : List Par → List Par
  | a :: b :: r => incP a :: incP b :: r
  | l => l
def u8n (n : Int) : UInt8 := UInt8.ofNat (n % 256).toNat
def doesR (x : Code) (s : MS) : Int × MS :=
  if x.op.toNat = 0 then writeR s [x.c]
  else if x.op.toNat = 99 then writeR (popR s).2 [u8n (popR s).1.num]
  else if x.op.toNat = 100 then writeR (popR s).2 (fmtR x (popR s).1)
  else if x.op.toNat = 105 then (0, { s with ps := incR s.ps })
  else if x.op.toNat = 112 then pushR s (s.ps.getD (x.c.toNat - 49) {})
  else if x.op.toNat = 80 then (0, { (popR s).2 with f := fun j => if j = x.c then some (popR s).1 else (popR s).2.f j })
  else if x.op.toNat = 103 then pushR s ((s.f x.c).getD {})
  else if x.op.toNat = 123 then pushR s { num := x.n }
  else if x.op.toNat = 108 then pushR (popR s).2 { num := IntKind.i32.wrap (popR s).1.text.length }
  else if x.op.toNat = 33 then pushR (popR s).2 { num := truthR (decide ((popR s).1.num = 0)) }
  else if x.op.toNat = 126 then pushR (popR s).2 { num := bits .xor .i32 (-1) (popR s).1.num }
  else pushR (popR (popR s).2).2 { num := twoR x.op.toNat (popR (popR s).2).1.num (popR s).1.num }
structure MsOk (s : MS) : Prop where
  ps : ∀ p, p ∈ s.ps → ParOk p
  st : ∀ p, p ∈ s.st → ParOk p
  sl : s.st.length ≤ 64
  ol : s.out.length ≤ 16384
  f : ∀ c p, s.f c = some p → ParOk p
theorem parOk0 : ParOk {} := ⟨by simp, by simp, by simp⟩
theorem popOk {s : MS} (h : MsOk s) : ParOk (popR s).1 ∧ MsOk (popR s).2 := by
  obtain ⟨h1, h2, h3, h4, h5⟩ := h
  unfold popR
  cases hs : s.st with
  | nil => exact ⟨parOk0, h1, h2, h3, h4, h5⟩
  | cons p r => exact ⟨h2 p (by rw [hs]; simp), h1, fun q hq => h2 q (by rw [hs]; simp; exact .inr hq), by rw [hs] at h3; simp at h3; show r.length ≤ 64; omega, h4, h5⟩
theorem wrap32_ok (n : Int) : -2147483648 ≤ IntKind.i32.wrap n ∧ IntKind.i32.wrap n ≤ 2147483647 := by
  simp [IntKind.wrap, IntKind.signed, IntKind.bits]
  split <;> omega
theorem bits32_ok (op : BinOp) (a b : Int) : -2147483648 ≤ bits op .i32 a b ∧ bits op .i32 a b ≤ 2147483647 := wrap32_ok _
theorem truthR_ok (b : Bool) : -2147483648 ≤ truthR b ∧ truthR b ≤ 2147483647 := by unfold truthR; split <;> omega
def okN (n : Int) : Prop := -2147483648 ≤ n ∧ n ≤ 2147483647
theorem ite_ok {p : Prop} [Decidable p] {x y : Int} (hx : okN x) (hy : okN y) : okN (if p then x else y) := by
  by_cases h : p
  · rw [if_pos h]; exact hx
  · rw [if_neg h]; exact hy
theorem twoR_ok (o : Nat) (a b : Int) : -2147483648 ≤ twoR o a b ∧ twoR o a b ≤ 2147483647 := by
  show okN _
  have h0 : okN 0 := ⟨by omega, by omega⟩
  unfold twoR
  exact ite_ok (wrap32_ok _) (ite_ok (wrap32_ok _) (ite_ok (wrap32_ok _) (ite_ok (ite_ok h0 (wrap32_ok _)) (ite_ok (ite_ok h0 (wrap32_ok _)) (ite_ok (bits32_ok _ _ _) (ite_ok (bits32_ok _ _ _) (ite_ok (bits32_ok _ _ _)
    (ite_ok (truthR_ok _) (ite_ok (truthR_ok _) (ite_ok (truthR_ok _) (ite_ok (truthR_ok _) (truthR_ok _))))))))))))
theorem pushOk {s : MS} {p : Par} {s' : MS} (h : MsOk s) (hp : ParOk p) (e : pushR s p = (0, s')) : MsOk s' := by
  unfold pushR at e
  split at e
  · simp at e
  · injection e with _ e
    subst e
    exact ⟨h.ps, fun q hq => by
      simp only [List.mem_cons] at hq
      rcases hq with rfl | hq
      · exact hp
      · exact h.st q hq, by show _ + 1 ≤ 64; omega, h.ol, h.f⟩
theorem writeOk {s : MS} {t : List UInt8} {s' : MS} (h : MsOk s) (e : writeR s t = (0, s')) : MsOk s' := by
  unfold writeR at e
  split at e
  · simp at e
  · injection e with _ e
    subst e
    exact ⟨h.ps, h.st, h.sl, by show (s.out ++ t).length ≤ 16384; rw [List.length_append]; omega, h.f⟩
theorem incP_ok {p : Par} (h : ParOk p) : ParOk (incP p) := by
  unfold incP
  split
  · exact h
  · exact ⟨(wrap32_ok _).1, (wrap32_ok _).2, h.tx⟩
theorem incR_ok {l : List Par} (h : ∀ p, p ∈ l → ParOk p) : ∀ p, p ∈ incR l → ParOk p := by
  match l, h with
  | [], h => exact h
  | [a], h => exact h
  | a :: b :: r, h =>
    intro p hp
    simp only [incR, List.mem_cons] at hp
    rcases hp with rfl | rfl | hp
    · exact incP_ok (h a (by simp))
    · exact incP_ok (h b (by simp))
    · exact h p (by simp [hp])
theorem getD_ok {l : List Par} (h : ∀ p, p ∈ l → ParOk p) (i : Nat) : ParOk (l.getD i {}) := by
  rw [List.getD_eq_getElem?_getD]
  cases hi : l[i]? with
  | none => exact parOk0
  | some p => exact h p (List.mem_of_getElem? hi)
theorem fOk {s : MS} (h : MsOk s) (c : UInt8) : ParOk ((s.f c).getD {}) := by
  cases hc : s.f c with
  | none => exact parOk0
  | some p => exact h.f c p hc
theorem numOk {n : Int} (h : -2147483648 ≤ n ∧ n ≤ 2147483647) : ParOk { num := n } := ⟨h.1, h.2, by simp⟩
theorem doesOk {x : Code} {s s' : MS} (h : MsOk s) (hn : -2147483648 ≤ x.n ∧ x.n ≤ 2147483647) (e : doesR x s = (0, s')) : MsOk s' := by
  have h1 := popOk h
  have h2 := popOk h1.2
  unfold doesR at e
  by_cases c0 : x.op.toNat = 0
  · rw [if_pos c0] at e
    exact writeOk h e
  rw [if_neg c0] at e
  by_cases c99 : x.op.toNat = 99
  · rw [if_pos c99] at e
    exact writeOk h1.2 e
  rw [if_neg c99] at e
  by_cases c100 : x.op.toNat = 100
  · rw [if_pos c100] at e
    exact writeOk h1.2 e
  rw [if_neg c100] at e
  by_cases c105 : x.op.toNat = 105
  · rw [if_pos c105] at e
    injection e with _ e
    subst e
    exact ⟨incR_ok h.ps, h.st, h.sl, h.ol, h.f⟩
  rw [if_neg c105] at e
  by_cases c112 : x.op.toNat = 112
  · rw [if_pos c112] at e
    exact pushOk h (getD_ok h.ps _) e
  rw [if_neg c112] at e
  by_cases c80 : x.op.toNat = 80
  · rw [if_pos c80] at e
    injection e with _ e
    subst e
    exact ⟨h1.2.ps, h1.2.st, h1.2.sl, h1.2.ol, fun c p hc => by
      simp only at hc
      split at hc
      · injection hc with hc
        exact hc ▸ h1.1
      · exact h1.2.f c p hc⟩
  rw [if_neg c80] at e
  by_cases c103 : x.op.toNat = 103
  · rw [if_pos c103] at e
    exact pushOk h (fOk h _) e
  rw [if_neg c103] at e
  by_cases c123 : x.op.toNat = 123
  · rw [if_pos c123] at e
    exact pushOk h (numOk hn) e
  rw [if_neg c123] at e
  by_cases c108 : x.op.toNat = 108
  · rw [if_pos c108] at e
    exact pushOk h1.2 (numOk (wrap32_ok _)) e
  rw [if_neg c108] at e
  by_cases c33 : x.op.toNat = 33
  · rw [if_pos c33] at e
    exact pushOk h1.2 (numOk (truthR_ok _)) e
  rw [if_neg c33] at e
  by_cases c126 : x.op.toNat = 126
  · rw [if_pos c126] at e
    exact pushOk h1.2 (numOk (bits32_ok _ _ _)) e
  rw [if_neg c126] at e
  exact pushOk h2.2 (numOk (twoR_ok _ _ _)) e
section
variable {w : World} {K : Value → World → Prop}
theorem truth_ {b : Bool} (k : K (I32 (truthR b)) w) : S.call Tryd.prog 56 [.bool b] K w := by
  refine F56_link ?_
  unfold F56
  cases b
  · exact k
  · exact k
theorem and32_v {t : TypeId} {x y : Operand} {a b : Int} : S.v Tryd.prog (S.bin .and t x y (I32 a) (I32 b)) K w = K (I32 (bits .and .i32 a b)) w := v_eq (by
  unfold S.bin
  rw [Sem.run_bind, eqGuard_int]
  rfl)
theorem or32_v {t : TypeId} {x y : Operand} {a b : Int} : S.v Tryd.prog (S.bin .or t x y (I32 a) (I32 b)) K w = K (I32 (bits .or .i32 a b)) w := v_eq (by
  unfold S.bin
  rw [Sem.run_bind, eqGuard_int]
  rfl)
theorem xor32_v {t : TypeId} {x y : Operand} {a b : Int} : S.v Tryd.prog (S.bin .xor t x y (I32 a) (I32 b)) K w = K (I32 (bits .xor .i32 a b)) w := v_eq (by
  unfold S.bin
  rw [Sem.run_bind, eqGuard_int]
  rfl)
theorem cv221w {n : Int} (w : World) : (Go.convert 2 21 (.int .i64 n)).run Tryd.prog w = .ok (I32 (IntKind.i32.wrap n)) w := cvI w (by kernel_rfl) (by kernel_rfl) (by kernel_rfl) rfl
theorem cv321w {n : Int} (w : World) : (Go.convert 3 21 (.int .i64 n)).run Tryd.prog w = .ok (I32 (IntKind.i32.wrap n)) w := cvI w (by kernel_rfl) (by kernel_rfl) (by kernel_rfl) rfl
theorem two_ {o : UInt8} {a b : Int} (ha : -2147483648 ≤ a ∧ a ≤ 2147483647) (hb : -2147483648 ≤ b ∧ b ≤ 2147483647) (k : K (I32 (twoR o.toNat a b)) w) : S.call Tryd.prog 57 [byteV o, I32 a, I32 b] K w := by
  refine F57_link ?_
  unfold F57
  have hk : ∀ r, twoR o.toNat a b = r → K (I32 r) w := fun r e => e ▸ k
  clear k
  rw [eqC_v]
  refine br_dec _ _ _ (fun h1 => ?_) (fun h1 => ?_)
  · rw [add_v]; exact hk _ (by unfold twoR; rw [if_pos (by omega)])
  rw [eqC_v]
  refine br_dec _ _ _ (fun h2 => ?_) (fun h2 => ?_)
  · rw [sub_v]; exact hk _ (by unfold twoR; rw [if_neg (by omega), if_pos (by omega)])
  rw [eqC_v]
  refine br_dec _ _ _ (fun h3 => ?_) (fun h3 => ?_)
  · rw [mul_v]; exact hk _ (by unfold twoR; rw [if_neg (by omega), if_neg (by omega), if_pos (by omega)])
  rw [eqC_v]
  refine br_dec _ _ _ (fun h4 => ?_) (fun h4 => ?_)
  · rw [eq_v]
    refine br_dec _ _ _ (fun h0 => ?_) (fun h0 => ?_)
    · exact hk _ (by unfold twoR; rw [if_neg (by omega), if_neg (by omega), if_neg (by omega), if_pos (by omega), if_pos h0])
    · rw [v_eq (cv212 _ ha.1 ha.2), v_eq (cv212 _ hb.1 hb.2), quo_v h0, v_eq (cv221w _)]
      exact hk _ (by unfold twoR; rw [if_neg (by omega), if_neg (by omega), if_neg (by omega), if_pos (by omega), if_neg h0])
  rw [eqC_v]
  refine br_dec _ _ _ (fun h5 => ?_) (fun h5 => ?_)
  · rw [eq_v]
    refine br_dec _ _ _ (fun h0 => ?_) (fun h0 => ?_)
    · exact hk _ (by unfold twoR; rw [if_neg (by omega), if_neg (by omega), if_neg (by omega), if_neg (by omega), if_pos (by omega), if_pos h0])
    · rw [v_eq (cv212 _ ha.1 ha.2), v_eq (cv212 _ hb.1 hb.2), rem_v h0, v_eq (cv221w _)]
      exact hk _ (by unfold twoR; rw [if_neg (by omega), if_neg (by omega), if_neg (by omega), if_neg (by omega), if_pos (by omega), if_neg h0])
  rw [eqC_v]
  refine br_dec _ _ _ (fun h6 => ?_) (fun h6 => ?_)
  · rw [and32_v]; exact hk _ (by unfold twoR; rw [if_neg (by omega), if_neg (by omega), if_neg (by omega), if_neg (by omega), if_neg (by omega), if_pos (by omega)])
  rw [eqC_v]
  refine br_dec _ _ _ (fun h7 => ?_) (fun h7 => ?_)
  · rw [or32_v]; exact hk _ (by unfold twoR; rw [if_neg (by omega), if_neg (by omega), if_neg (by omega), if_neg (by omega), if_neg (by omega), if_neg (by omega), if_pos (by omega)])
  rw [eqC_v]
  refine br_dec _ _ _ (fun h8 => ?_) (fun h8 => ?_)
  · rw [xor32_v]; exact hk _ (by unfold twoR; rw [if_neg (by omega), if_neg (by omega), if_neg (by omega), if_neg (by omega), if_neg (by omega), if_neg (by omega), if_neg (by omega), if_pos (by omega)])
  have hR : twoR o.toNat a b = if o.toNat = 61 then truthR (decide (a = b)) else if o.toNat = 62 then truthR (decide (b < a)) else if o.toNat = 60 then truthR (decide (a < b))
      else if o.toNat = 65 then truthR (decide (a ≠ 0 ∧ b ≠ 0)) else truthR (decide (a ≠ 0 ∨ b ≠ 0)) := by
    unfold twoR; rw [if_neg (by omega), if_neg (by omega), if_neg (by omega), if_neg (by omega), if_neg (by omega), if_neg (by omega), if_neg (by omega), if_neg (by omega)]
  rw [hR] at hk
  rw [eqC_v]
  refine br_dec _ _ _ (fun h9 => ?_) (fun h9 => ?_)
  · rw [eq_v]; exact truth_ (hk _ (by rw [if_pos (by omega)]))
  rw [eqC_v]
  refine br_dec _ _ _ (fun h10 => ?_) (fun h10 => ?_)
  · rw [gt_v]; exact truth_ (hk _ (by rw [if_neg (by omega), if_pos (by omega)]))
  rw [eqC_v]
  refine br_dec _ _ _ (fun h11 => ?_) (fun h11 => ?_)
  · rw [lt_v]; exact truth_ (hk _ (by rw [if_neg (by omega), if_neg (by omega), if_pos (by omega)]))
  rw [eqC_v]
  refine br_dec _ _ _ (fun h12 => ?_) (fun h12 => ?_)
  · rw [ne_v]
    refine br_dec _ _ _ (fun h0 => ?_) (fun h0 => ?_)
    · rw [ne_v]
      exact truth_ (hk _ (by rw [if_neg (by omega), if_neg (by omega), if_neg (by omega), if_pos (by omega)]; congr 1; exact decide_eq_decide.2 ⟨fun h => h.2, fun h => ⟨h0, h⟩⟩))
    · exact truth_ (hk _ (by rw [if_neg (by omega), if_neg (by omega), if_neg (by omega), if_pos (by omega), decide_eq_false (fun h => h0 h.1)]))
  · rw [ne_v]
    refine br_dec _ _ _ (fun h0 => ?_) (fun h0 => ?_)
    · exact truth_ (hk _ (by rw [if_neg (by omega), if_neg (by omega), if_neg (by omega), if_neg (by omega), decide_eq_true (.inl h0)]))
    · rw [ne_v]
      exact truth_ (hk _ (by rw [if_neg (by omega), if_neg (by omega), if_neg (by omega), if_neg (by omega)]; congr 1; exact decide_eq_decide.2 ⟨fun h => by omega, fun h => .inr h⟩))
end
end Go.Proofs.YtjaoeipfiodnfaaDoor
