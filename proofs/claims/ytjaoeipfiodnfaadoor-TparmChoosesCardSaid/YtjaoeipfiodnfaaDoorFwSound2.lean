import Derived.Test.YtjaoeipfiodnfaaDoorFwSound
namespace Go.Fw
section
variable {P : Program}
theorem has_mem {L : List Nat} {i : Nat} : has L i = true ↔ i ∈ L := by
  induction L with
  | nil => simp [has]
  | cons j r ih =>
    simp only [has, List.mem_cons]
    cases hb : Nat.beq j i with
    | true => simp [(Nat.eq_of_beq_eq_true hb).symm]
    | false =>
      have : i ≠ j := fun e => by subst e; simp at hb
      simp [ih, this]
theorem has_false {L : List Nat} {i : Nat} : has L i = false ↔ i ∉ L := by
  rw [← has_mem]; cases has L i <;> simp

theorem get_map {keep : List Nat} {t : Env} {i : Nat} (h : i ∈ keep) : get (keep.map fun i => (i, get t i)) i = get t i := by
  induction keep with
  | nil => cases h
  | cons j r ih =>
    simp only [List.map_cons, get]
    cases hb : Nat.beq j i with
    | true => have := Nat.eq_of_beq_eq_true hb; subst this; simp
    | false =>
      simp only [cond_false]
      refine ih ?_
      cases h with
      | head => simp at hb
      | tail _ hm => exact hm

theorem get_norm {keep : List Nat} {t : Env} {i : Nat} (h : i ∈ keep) : get (norm keep t) i = get t i := by
  unfold norm
  simp only [get]
  cases hb : Nat.beq mkS i with
  | true => have := Nat.eq_of_beq_eq_true hb; subst this; rfl
  | false => exact get_map h
theorem get_norm_mk {keep : List Nat} {t : Env} : get (norm keep t) mkS = get t mkS := by
  unfold norm
  simp [get]
theorem nth_append (A : List Value) (x : Value) (r : List Value) : nth (A ++ x :: r) A.length = x := by
  induction A with
  | nil => rfl
  | cons a A ih => simpa using ih

theorem get_setLk (t t' : Env) (i : Nat) : ∀ (M pre : List Nat), get (setLk pre.length M (readL (pre ++ M) t') t) i = if i ∈ M then get t' i else get t i
  | [], pre => by simp [setLk]
  | m :: r, pre => by
    have ih := get_setLk t t' i r (pre ++ [m])
    simp only [List.length_append, List.length_cons, List.length_nil, Nat.zero_add, List.append_assoc, List.singleton_append] at ih
    simp only [setLk, get, List.mem_cons]
    cases hb : Nat.beq m i with
    | true =>
      have := Nat.eq_of_beq_eq_true hb; subst this
      simp only [cond_true, true_or, if_true, readL, List.map_append, List.map_cons]
      have := nth_append (pre.map (get t')) (get t' m) (r.map (get t'))
      simpa using this
    | false =>
      have hne : i ≠ m := fun e => by subst e; simp at hb
      simp only [cond_false, ih, hne, false_or]

theorem get_setL (t t' : Env) (i : Nat) (M : List Nat) : get (setL M (readL M t') t) i = if i ∈ M then get t' i else get t i := by
  simpa [setL] using get_setLk t t' i M []

theorem step1_elim {g : Bool} {x : Value} {K : Value → World → Prop} {w : World} (h : step1 g x K w) : K x w := by
  cases g with
  | false => exact h
  | true =>
    simp only [step1, br] at h
    split at h
    · exact h
    · exact h
    · exact h.elim

def chkOp (ops : Array Oper) (n : Nat) (L : List Nat) (o : Oper) : Bool :=
  okOp o && (o.looksAt ops).all (has L) && (match o.dst with
    | some d => Nat.blt d n
    | none => true)
theorem chkOp_spec {ops : Array Oper} {n : Nat} {L : List Nat} {o : Oper} (h : chkOp ops n L o = true) :
    okOp o = true ∧ (∀ i, i ∈ o.looksAt ops → i ∈ L) ∧ (∀ i, o.dst = some i → i < n) := by
  simp only [chkOp, Bool.and_eq_true, List.all_eq_true] at h
  refine ⟨h.1.1, fun i hi => has_mem.1 (h.1.2 i hi), fun i hi => ?_⟩
  have := h.2
  rw [hi] at this
  exact Nat.lt_of_succ_le (by simpa [Nat.blt] using this)
def chkL (ops : Array Oper) (n : Nat) (keep : List Nat) : List Nat → List Oper → Bool
  | L, [] => keep.all (has L)
  | L, o :: l => chkOp ops n L o && chkL ops n keep (addD o.dst L) l

theorem Ag.mono {n : Nat} {L L' : List Nat} {t : Env} {a : Act} (h : Ag n L t a) (hl : ∀ i, i ∈ L' → i ∈ L) : Ag n L' t a := ⟨h.size, h.le, h.defers, fun i hi => h.at_ i (hl i hi)⟩

theorem put_defersF (a : Act) (d : Option Tmp) (v : Value) : (a.put d v).defers = a.defers := by cases d <;> rfl
theorem put_frame (a : Act) (d : Option Tmp) (v : Value) (j : Nat) (h : d ≠ some j) : (a.put d v).tmps[j]? = a.tmps[j]? := by
  cases d with
  | none => rfl
  | some d =>
    have : d ≠ j := fun e => h (by rw [e])
    simp [Act.put, Array.getElem?_setIfInBounds_ne this]

theorem dL_sound {ent : Nat → Bool} (hent : chkEnt P ent) {r : Option Nat} {m : Nat} {ops : Array Oper} {n : Nat} {keep : List Nat} {Q : Exit → Act → World → Prop} {K : Env → World → Prop} :
    ∀ (l : List Oper) (i : Nat) (L : List Nat) (t : Env) (a : Act) (w : World), chkL ops n keep L l = true → Ag n L t a → dL P ent ops.toList i l K t w →
      (∀ t' a' w', Ag n keep t' a' → (a'.defers = a.defers ∧ ∀ j, j ∉ l.filterMap (·.dst) → a'.tmps[j]? = a.tmps[j]?) → K t' w' → Q .normal a' w') → wpListIn (WF r) m P ops Q l a w
  | [], _, L, t, a, w, hc, ha, hd, hK => by
    simp only [chkL, List.all_eq_true] at hc
    exact hK t a w (ha.mono fun i hi => has_mem.1 (hc i hi)) ⟨rfl, fun _ _ => rfl⟩ hd
  | o :: l, i, L, t, a, w, hc, ha, hd, hK => by
    simp only [chkL, Bool.and_eq_true] at hc
    obtain ⟨hok, hlook, hdst⟩ := chkOp_spec hc.1
    have hrest : ∀ x w', dL P ent ops.toList (i + 1) l K (put t o.dst x) w' → wpListIn (WF r) m P ops Q l (a.put o.dst x) w' := fun x w' hx =>
      dL_sound hent l (i + 1) _ _ _ w' hc.2 (ha.put o.dst hdst x) hx fun t' a' w'' h1 h2 h3 => hK t' a' w'' h1 ⟨h2.1.trans (put_defersF ..), fun j hj => by
        rw [h2.2 j (fun hm => hj (by
          simp only [List.filterMap_cons]
          cases o.dst <;> simp [hm])), put_frame _ _ _ _ (fun e => hj (by simp [e]))]⟩ h3
    rw [wpListIn]
    rw [ha.wanted hlook]
    simp only [dL] at hd
    cases hw : wantedE ops.toList t o with
    | true =>
      rw [hw] at hd
      simp only [if_true]
      exact (dOp_sound hent hok (execOp_congr o (okOp_sel hok) (ha.looks hlook)) hd fun x w' hx => hrest x w' (step1_elim hx))
    | false =>
      rw [hw] at hd
      simp only [Bool.false_eq_true, if_false]
      exact ⟨fun _ _ => trivial, hrest undef w hd⟩

/-! ### A region whose order is drawn -/
/-- Whatever order is picked from here on; behind each operation of 'nS' the word S holds if it held before it. -/
def wpAnyT (r : Option Nat) (m : Nat) (P : Program) (ops : Array Oper) (Q : Exit → Act → World → Prop) (I : World → Prop) (nS : Nat → Bool) : Nat → Array Bool → Act → World → Prop
  | 0, listed, a, w => Region.ready .any ops listed = [] ∧ Q .normal a w
  | fuel + 1, listed, a, w =>
    (Region.ready .any ops listed = [] → Q .normal a w) ∧
    ∀ i ∈ Region.ready .any ops listed, wpOpIn (WF r) m P ops Q i (fun a' w' => (nS i = true → I w → I w') ∧ wpAnyT r m P ops Q I nS fuel (listed.setIfInBounds i true) a' w') a w

theorem wpAny_of_T {r : Option Nat} {m : Nat} {ops : Array Oper} {Q : Exit → Act → World → Prop} {I : World → Prop} {nS : Nat → Bool} : ∀ (fuel : Nat) (listed : Array Bool) (a : Act) (w : World),
    wpAnyT r m P ops Q I nS fuel listed a w → wpAnyIn (WF r) m P .any ops Q fuel listed a w
  | 0, _, _, _, h => h
  | fuel + 1, _, _, _, h => ⟨h.1, fun i hi => wpOpIn_mono (fun a' w' h' => wpAny_of_T fuel _ a' w' h'.2) (h.2 i hi)⟩

theorem wpAnyT_done {r : Option Nat} {m : Nat} {ops : Array Oper} {Q : Exit → Act → World → Prop} {I : World → Prop} {nS : Nat → Bool} {listed : Array Bool} {a : Act} {w : World}
    (hr : Region.ready .any ops listed = []) (h : Q .normal a w) : ∀ fuel, wpAnyT r m P ops Q I nS fuel listed a w
  | 0 => ⟨hr, h⟩
  | _ + 1 => ⟨fun _ => h, by rw [hr]; simp⟩

theorem yieldsIf_wpOpIn {S : World → Prop} {r : Option Nat} {m : Nat} {ops : Array Oper} {Q : Exit → Act → World → Prop} {i : Nat} {o : Oper} {v : Value} {a : Act} (hi : ops[i]? = some o) (hok : okOp o = true) (hy : YieldsIf P ops S o v a)
    {K : Act → World → Prop} {w : World} (hS : S w) (h : K (a.put o.dst v) w) : wpOpIn (WF r) m P ops Q i K a w := by
  unfold wpOpIn
  simp only [hi]
  rcases hy with ⟨hw, hv⟩ | ⟨hw, rfl⟩
  · simp only [hw, if_true]
    refine wpIn_of_run hok ?_
    rw [hv w hS]
    exact h
  · simp only [hw, Bool.false_eq_true, if_false]; exact ⟨fun _ _ => trivial, h⟩

theorem wpOpIn_putIf {S : World → Prop} {r : Option Nat} {m : Nat} {ops : Array Oper} {Q : Exit → Act → World → Prop} {j : Nat} {oi oj : Oper} {v : Value} (hj : ops[j]? = some oj) (hap : oi.apart ops oj = true)
    (hoki : okOp oi = true) (hokj : okOp oj = true)
    (hQ : ∀ c a w, Q (.panic c) (a.put oi.dst v) w → Q (.panic c) a w) {K : Act → World → Prop} {a : Act} {w : World}
    (hy : YieldsIf P ops S oi v a) (h : wpOpIn (WF r) m P ops Q j K (a.put oi.dst v) w) :
    wpOpIn (WF r) m P ops Q j (fun a' w' => YieldsIf P ops S oi v a' ∧ K (a'.put oi.dst v) w') a w := by
  have hsi := okOp_sel hoki
  have hsj := okOp_sel hokj
  obtain ⟨h1, h2, h3⟩ := Oper.apart_spec hap
  have keep : ∀ (a : Act), YieldsIf P ops S oi v a → ∀ u, YieldsIf P ops S oi v (a.put oj.dst u) := fun a hy u =>
    hy.of_same (execOp_put oi hsi a oj.dst u h3) (wanted_put oi a oj.dst u h3)
  have keepD : ∀ d, YieldsIf P ops S oi v { a with defers := d :: a.defers } := fun d => hy.of_same rfl rfl
  unfold wpOpIn at *
  simp only [hj] at *
  rw [wanted_put oj a oi.dst v h1] at h
  split
  · rename_i hw
    simp only [hw, if_true] at h
    have h := h.2
    rw [Oper.semAt_eq _ _ _ (okOp_defer hokj), execOp_put oj hsj a oi.dst v h1] at h
    refine wpIn_of_run hokj ?_
    generalize (execOp a.eval oj).run P w = res at *
    cases res with
    | ok x w' =>
      cases x <;> simp only [Oper.uponIn] at h ⊢
      case value u => exact ⟨keep a hy u, by rw [← Act.put_comm a v u h2]; exact h⟩
      case skip => exact ⟨keep a hy _, by rw [← Act.put_comm a v undef h2]; exact h⟩
      case defer d =>
        refine ⟨keep _ (keepD d) _, ?_⟩
        rw [← Act.put_comm _ v undef h2, ← Act.put_defers]
        exact h
      case enter f args =>
        refine ⟨h.1, CallsIn.mono h.2 fun e w'' he => ?_⟩
        cases e with
        | returned u => exact ⟨keep a hy u, by rw [← Act.put_comm a v u h2]; exact he⟩
        | panicked c => exact hQ _ _ _ he
        | outgrown => exact he
      case row row args => exact ⟨h.1, RowsIn.mono h.2 fun u w'' he => ⟨keep a hy u, by rw [← Act.put_comm a v u h2]; exact he⟩⟩
      case round l f tmps assign body =>
        refine ⟨h.1, RoundIn.mono h.2 fun e w'' he => ?_⟩
        cases e with
        | returned u => exact ⟨keep a hy u, by rw [← Act.put_comm a v u h2]; exact he⟩
        | panicked c => exact hQ _ _ _ he
        | outgrown => exact he
    | halt x w' =>
      cases x <;> simp only [Oper.uponIn] at h ⊢
      case panic u => exact hQ _ _ _ h
  · rename_i hw
    simp only [hw] at h
    exact ⟨fun _ _ => trivial, keep a hy _, by rw [← Act.put_comm a v undef h2]; exact h.2⟩

theorem wpAnyT_first {r : Option Nat} {m : Nat} {ops : Array Oper} {Q : Exit → Act → World → Prop} {I Y : World → Prop} {nS : Nat → Bool} {i : Nat} {oi : Oper} {v : Value} (hi : ops[i]? = some oi)
    (hsel : ∀ (j : Nat) (o : Oper), ops[j]? = some o → okOp o = true)
    (hQ : ∀ c a w, Q (.panic c) (a.put oi.dst v) w → Q (.panic c) a w) :
    ∀ (fuel : Nat) (listed : Array Bool) (a : Act) (w : World),
      (∀ j oj, ops[j]? = some oj → j ≠ i → listed.getD j true = false → (∀ e ∈ oj.after, Region.binds .any e = true → e.on ≠ i) →
        oi.apart ops oj = true ∧ ∀ w w', (nS j = true → I w → I w') → Y w → Y w') →
      i ∈ Region.ready .any ops listed → YieldsIf P ops Y oi v a → Y w →
      wpAnyT r m P ops Q I nS fuel (listed.setIfInBounds i true) (a.put oi.dst v) w → wpAnyT r m P ops Q I nS (fuel + 1) listed a w := by
  intro fuel
  induction fuel with
  | zero =>
    intro listed a w _ hr hy hS H
    refine ⟨fun h => (by rw [h] at hr; cases hr), fun j hj => ?_⟩
    by_cases hji : j = i
    · subst hji; exact yieldsIf_wpOpIn hi (hsel _ _ hi) hy hS ⟨fun _ h => h, H⟩
    · have := ready_mono hj hji
      rw [H.1] at this
      cases this
  | succ fuel ih =>
    intro listed a w hfree hr hy hS H
    refine ⟨fun h => (by rw [h] at hr; cases hr), fun j hj => ?_⟩
    by_cases hji : j = i
    · subst hji; exact yieldsIf_wpOpIn hi (hsel _ _ hi) hy hS ⟨fun _ h => h, H⟩
    · have h1 := H.2 j (ready_mono hj hji)
      obtain ⟨hjun, oj, hoj, hall⟩ := mem_ready.1 hj
      have hnot : ∀ e ∈ oj.after, Region.binds .any e = true → e.on ≠ i := fun e he hb heq => by
        have h1 := hall e he hb
        have h0 := (mem_ready.1 hr).1
        rw [heq] at h1
        rcases Nat.lt_or_ge i listed.size with h' | h'
        · simp [h'] at h0 h1; rw [h0] at h1; cases h1
        · simp [Array.getElem?_eq_none h'] at h1
      obtain ⟨hap, hstay⟩ := hfree j oj hoj hji hjun hnot
      have h2 := wpOpIn_putIf hoj hap (hsel _ _ hi) (hsel _ _ hoj) hQ hy h1
      have hfree' : ∀ k ok, ops[k]? = some ok → k ≠ i → (listed.setIfInBounds j true).getD k true = false →
          (∀ e ∈ ok.after, Region.binds .any e = true → e.on ≠ i) → oi.apart ops ok = true ∧ ∀ w w', (nS k = true → I w → I w') → Y w → Y w' := fun k ok hk hki hun hno => by
        refine hfree k ok hk hki ?_ hno
        by_cases hjk : j = k
        · subst hjk; exact hjun
        · rw [getD_set_ne true hjk] at hun; exact hun
      refine wpOpIn_mono (fun a' w' h3 => ⟨h3.2.1, ih (listed.setIfInBounds j true) a' w' hfree' (ready_mono hr (Ne.symm hji)) h3.1 (hstay w w' h3.2.1 hS) ?_⟩) h2
      rw [Array.setIfInBounds_comm _ _ hji]
      exact h3.2.2

def moveOp (o : Oper) : Bool :=
  match o.op with
  | .move _ => true
  | .assign _ => true
  | _ => false
/-- Number i may be taken now: whoever has not come up, and does not wait for it, is apart from it (and keeps the word S). -/
def freeD (ops : Array Oper) (listed : Array Bool) (nS : Nat → Bool) (pur : Bool) (i : Nat) (oi : Oper) : Bool :=
  (List.range ops.size).all fun j => Nat.beq j i || listed.getD j true || match ops[j]? with
    | some oj => oj.after.any (fun e => Region.binds .any e && Nat.beq e.on i) || (oi.apart ops oj && (pur || nS j))
    | none => true
def Ord.heads : Ord → List Nat
  | .step i false _ => [i]
  | .fork a b => a.heads ++ b.heads
  | _ => []
def Ord.loud (j : Nat) : Ord → Bool
  | .fin => false
  | .step i tk r => (!tk && Nat.beq i j) || r.loud j
  | .fork a b => a.loud j || b.loud j
def Ord.depth : Ord → Nat
  | .fin => 0
  | .step _ _ r => r.depth + 1
  | .fork a b => match Nat.ble a.depth b.depth with
    | true => b.depth
    | false => a.depth
def among (ready hs : List Nat) : Bool := ready.all (has hs) && !ready.isEmpty
/-- 'b': one of several that may come up: that it is of them has been looked at. -/
def chkD (ops : Array Oper) (n : Nat) (keep flags : List Nat) (nS : Nat → Bool) : Bool → Ord → Array Bool → Bool → List Nat → Bool
  | b, .fin, listed, _, L => !b && (match Region.ready .any ops listed with
    | [] => true
    | _ => false) && keep.all (has L)
  | b, .fork x y, listed, s, L => (b || among (Region.ready .any ops listed) (x.heads ++ y.heads)) && chkD ops n keep flags nS true x listed s L && chkD ops n keep flags nS true y listed s L
  | b, .step i tk l, listed, s, L => match ops[i]? with
    | none => false
    | some o => chkOp ops n L o && (match tk with
      | true => !b && has (Region.ready .any ops listed) i && freeD ops listed nS (moveOp o) i o && (moveOp o || s) && chkD ops n keep flags nS false l (listed.setIfInBounds i true) s (addD o.dst L)
      | false => (b || among (Region.ready .any ops listed) [i]) && (match nS i with
        | true => has flags i
        | false => true) && chkD ops n keep flags nS false l (listed.setIfInBounds i true) (has flags i && (s || o.guard.isNone)) (addD o.dst L))
def noSel (ops : Array Oper) : Bool := ops.toList.all okOp

theorem among_spec {ready hs : List Nat} (h : among ready hs = true) : ready ≠ [] ∧ ∀ j ∈ ready, j ∈ hs := by
  simp only [among, Bool.and_eq_true, List.all_eq_true, Bool.not_eq_true'] at h
  exact ⟨fun e => by rw [e] at h; simp at h, fun j hj => has_mem.1 (h.1 j hj)⟩
theorem freeD_spec {ops : Array Oper} {listed : Array Bool} {nS : Nat → Bool} {pur : Bool} {i : Nat} {oi : Oper} (h : freeD ops listed nS pur i oi = true) (j : Nat) (oj : Oper)
    (hj : ops[j]? = some oj) (hne : j ≠ i) (hun : listed.getD j true = false) (hno : ∀ e ∈ oj.after, Region.binds .any e = true → e.on ≠ i) : oi.apart ops oj = true ∧ (pur = true ∨ nS j = true) := by
  simp only [freeD, List.all_eq_true, List.mem_range] at h
  have h1 := h j (Array.getElem?_eq_some_iff.1 hj).1
  have hb : Nat.beq j i = false := by
    cases hb : Nat.beq j i with
    | false => rfl
    | true => exact absurd (Nat.eq_of_beq_eq_true hb) hne
  have hany : (oj.after.any fun e => Region.binds .any e && Nat.beq e.on i) = false := by
    rw [← Bool.not_eq_true, Array.any_eq_true]
    rintro ⟨k, hk, hx⟩
    rw [Bool.and_eq_true] at hx
    exact hno _ (Array.getElem_mem hk) hx.1 (Nat.eq_of_beq_eq_true hx.2)
  simp only [hj, hb, hun, hany, Bool.false_or, Bool.and_eq_true, Bool.or_eq_true] at h1
  exact h1

theorem wpOp_of_dOp {ent : Nat → Bool} (hent : chkEnt P ent) {r : Option Nat} {m : Nat} {ops : Array Oper} {i : Nat} {o : Oper} (hi : ops[i]? = some o) (hok : okOp o = true) {t : Env} {a : Act} {w : World} {K : Value → World → Prop} {Q : Exit → Act → World → Prop}
    (hw : Region.wanted o (yielded ops a.tmps) = true) (he : execOp a.eval o = execOp (ev t) o) (h : dOp P ent t o K w) {next : Act → World → Prop} (hK : ∀ x w', K x w' → next (a.put o.dst x) w') : wpOpIn (WF r) m P ops Q i next a w := by
  unfold wpOpIn
  simp only [hi, hw, if_true]
  exact dOp_sound hent hok he h hK

/-- How the two ways of holding a word go into one. -/
def holdI (hold : Option (World → Prop)) (w0 : World) : World → Prop :=
  match hold with
  | some I => I
  | none => fun w => w = w0

theorem tOp_yields {ops : Array Oper} {hold : Option (World → Prop)} {w0 : World} {t : Env} {a : Act} {o : Oper} {K : Value → World → Prop} {w : World}
    (hw : Region.wanted o (yielded ops a.tmps) = true) (he : execOp a.eval o = execOp (ev t) o) (h : tOp P hold t o K w) (hI : moveOp o = true ∨ holdI hold w0 w) :
    ∃ x, YieldsIf P ops (fun w' => moveOp o = true ∨ holdI hold w0 w') o x a ∧ K x w := by
  have hdef : moveOp o = false → (match vSem t o with
      | some s => tV P hold s K w
      | none => False) → ∃ x, YieldsIf P ops (fun w' => moveOp o = true ∨ holdI hold w0 w') o x a ∧ K x w := fun hm hr => by
    have hI' : holdI hold w0 w := hI.resolve_left (by simp [hm])
    cases hs : vSem t o with
    | none => rw [hs] at hr; exact hr.elim
    | some s =>
      rw [hs] at hr
      cases hold with
      | none =>
        obtain ⟨x, hx, hk⟩ := hr
        have e0 : w = w0 := hI'
        refine ⟨x, .inl ⟨hw, fun w' hw' => ?_⟩, hk⟩
        have e1 : w' = w0 := hw'.resolve_left (by simp [hm])
        rw [he]
        exact vSem_exec hs (by rw [e1, ← e0]; exact hx)
      | some I =>
        obtain ⟨x, hx, hk⟩ := hr
        refine ⟨x, .inl ⟨hw, fun w' hw' => ?_⟩, hk⟩
        rw [he]
        exact vSem_exec hs (hx w' (hw'.resolve_left (by simp [hm])))
  obtain ⟨dst, op, type, pos, after, guard⟩ := o
  cases op <;> simp only [tOp] at h <;> first
    | exact hdef rfl h
    | skip
  case move x => exact ⟨_, .inl ⟨hw, fun w' _ => by rw [he]; rfl⟩, h⟩
  case assign x => exact ⟨_, .inl ⟨hw, fun w' _ => by rw [he]; rfl⟩, h⟩
  case pick c x y =>
    cases hc : ev t c with
    | bool b =>
      rw [hc] at h
      cases b
      · exact ⟨_, .inl ⟨hw, fun w' _ => by rw [he]; simp only [execOp, hc, asBool, Sem.run_bind, Sem.run_pure, Result.andThen_ok]; rfl⟩, h⟩
      · exact ⟨_, .inl ⟨hw, fun w' _ => by rw [he]; simp only [execOp, hc, asBool, Sem.run_bind, Sem.run_pure, Result.andThen_ok]; rfl⟩, h⟩
    | _ => rw [hc] at h; exact h.elim

theorem dD_sound {ent : Nat → Bool} (hent : chkEnt P ent) {r : Option Nat} {m : Nat} {ops : Array Oper} (hsel : noSel ops = true) {n : Nat} {keep flags : List Nat} {nS : Nat → Bool} {hold : Option (World → Prop)} {w0 : World}
    {Q : Exit → Act → World → Prop} (hQ : ∀ c a w, ¬ Q (.panic c) a w) {K : Env → World → Prop} (hnS : hold = none → flags = []) :
    ∀ (l : Ord) (b : Bool) (fuel : Nat) (listed : Array Bool) (s : Bool) (L : List Nat) (t : Env) (a : Act) (w : World), chkD ops n keep flags nS b l listed s L = true → l.depth ≤ fuel → (s = true → holdI hold w0 w) → Ag n L t a →
      dD P ent ops.toList hold flags l K t w →
      (∀ t' a' w', Ag n keep t' a' → (a'.defers = a.defers ∧ ∀ j, j ∉ ops.toList.filterMap (·.dst) → a'.tmps[j]? = a.tmps[j]?) → K t' w' → Q .normal a' w') →
      (b = false → wpAnyT r m P ops Q (holdI hold w0) nS fuel listed a w) ∧
      ∀ fuel', fuel = fuel' + 1 → ∀ j ∈ l.heads, wpOpIn (WF r) m P ops Q j (fun a' w' => (nS j = true → holdI hold w0 w → holdI hold w0 w') ∧ wpAnyT r m P ops Q (holdI hold w0) nS fuel' (listed.setIfInBounds j true) a' w') a w
  | .fin, b, fuel, listed, s, L, t, a, w, hc, hf, hs, ha, hd, hK => by
    refine ⟨fun _ => ?_, fun _ _ j hj => by cases hj⟩
    simp only [chkD, Bool.and_eq_true, List.all_eq_true] at hc
    refine wpAnyT_done ?_ (hK t a w (ha.mono fun i hi => has_mem.1 (hc.2 i hi)) ⟨rfl, fun _ _ => rfl⟩ hd) fuel
    cases hr : Region.ready .any ops listed with
    | nil => rfl
    | cons x y => rw [hr] at hc; exact absurd hc.1.2 (by simp)
  | .fork x y, b, fuel, listed, s, L, t, a, w, hc, hf, hs, ha, hd, hK => by
    simp only [chkD, Bool.and_eq_true] at hc
    obtain ⟨⟨hb, hx⟩, hy⟩ := hc
    have hfx : x.depth ≤ fuel ∧ y.depth ≤ fuel := by
      simp only [Ord.depth] at hf
      cases hbl : Nat.ble x.depth y.depth with
      | true => rw [hbl] at hf; have := Nat.le_of_ble_eq_true hbl; exact ⟨Nat.le_trans this hf, hf⟩
      | false =>
        rw [hbl] at hf
        have : ¬ x.depth ≤ y.depth := fun h => by rw [Nat.ble_eq_true_of_le h] at hbl; cases hbl
        exact ⟨hf, by have : y.depth ≤ x.depth := by omega
                      exact Nat.le_trans this hf⟩
    have ihx := dD_sound hent (r := r) (m := m) hsel hQ hnS x true fuel listed s L t a w hx hfx.1 hs ha hd.1 hK
    have ihy := dD_sound hent (r := r) (m := m) hsel hQ hnS y true fuel listed s L t a w hy hfx.2 hs ha hd.2 hK
    have hB : ∀ fuel', fuel = fuel' + 1 → ∀ j ∈ (Ord.fork x y).heads, wpOpIn (WF r) m P ops Q j (fun a' w' => (nS j = true → holdI hold w0 w → holdI hold w0 w') ∧ wpAnyT r m P ops Q (holdI hold w0) nS fuel' (listed.setIfInBounds j true) a' w') a w := fun fuel' hfu j hj => by
      simp only [Ord.heads, List.mem_append] at hj
      exact hj.elim (ihx.2 fuel' hfu j) (ihy.2 fuel' hfu j)
    refine ⟨fun h0 => ?_, hB⟩
    subst h0
    obtain ⟨hne, hmem⟩ := among_spec (by simpa using hb)
    cases fuel with
    | zero =>
      obtain ⟨j, hj⟩ := List.exists_mem_of_ne_nil _ hne
      have hjh := hmem j hj
      have : 0 < (Ord.fork x y).depth := by
        have hpos : ∀ o : Ord, j ∈ o.heads → 0 < o.depth := by
          intro o
          induction o with
          | fin => intro h; cases h
          | step i tk l _ => intro _; simp [Ord.depth]
          | fork p q ihp ihq =>
            intro h
            simp only [Ord.heads, List.mem_append] at h
            simp only [Ord.depth]
            cases hbl : Nat.ble p.depth q.depth with
            | true =>
              have := Nat.le_of_ble_eq_true hbl
              rcases h with h | h
              · have := ihp h; show 0 < q.depth; omega
              · exact ihq h
            | false =>
              have : ¬ p.depth ≤ q.depth := fun h => by rw [Nat.ble_eq_true_of_le h] at hbl; cases hbl
              rcases h with h | h
              · exact ihp h
              · have := ihq h; show 0 < p.depth; omega
        exact hpos _ (by simpa [Ord.heads] using hjh)
      omega
    | succ fuel => exact ⟨fun h => absurd h hne, fun j hj => hB fuel rfl j (hmem j hj)⟩
  | .step i tk l, b, fuel, listed, s, L, t, a, w, hc, hf, hs, ha, hd, hK => by
    obtain ⟨fuel, rfl⟩ : ∃ m, fuel = m + 1 := ⟨fuel - 1, by simp only [Ord.depth] at hf; omega⟩
    have hf' : l.depth ≤ fuel := by simp only [Ord.depth] at hf; omega
    simp only [chkD] at hc
    simp only [dD, Array.getElem?_toList] at hd
    cases hi : ops[i]? with
    | none => rw [hi] at hd; exact hd.elim
    | some o =>
      rw [hi] at hc hd
      simp only [Bool.and_eq_true] at hc
      obtain ⟨hok, hlook, hdst⟩ := chkOp_spec hc.1
      have hmem : o ∈ ops.toList := Array.mem_toList_iff.2 (Array.mem_of_getElem? hi)
      have hselA : ∀ (j : Nat) (o : Oper), ops[j]? = some o → okOp o = true := fun j o hj => List.all_eq_true.1 hsel o (Array.mem_toList_iff.2 (Array.mem_of_getElem? hj))
      have hK' : ∀ x, ∀ t' a' w', Ag n keep t' a' → (a'.defers = (a.put o.dst x).defers ∧ ∀ j, j ∉ ops.toList.filterMap (·.dst) → a'.tmps[j]? = (a.put o.dst x).tmps[j]?) → K t' w' → Q .normal a' w' := fun x t' a' w' h1 h2 h3 =>
        hK t' a' w' h1 ⟨h2.1.trans (put_defersF ..), fun j hj => by
          rw [h2.2 j hj, put_frame _ _ _ _ (fun e => hj (List.mem_filterMap.2 ⟨o, hmem, e⟩))]⟩ h3
      have hwe := ha.wanted hlook
      have hex := execOp_congr o (okOp_sel hok) (ha.looks hlook)
      cases tk with
      | true =>
        refine ⟨fun _ => ?_, fun _ _ j hj => by cases hj⟩
        simp only [Bool.and_eq_true] at hc
        obtain ⟨_, ⟨⟨⟨_, hready⟩, hfree⟩, hms⟩, hrest⟩ := hc
        have hready := has_mem.1 hready
        have hY : moveOp o = true ∨ holdI hold w0 w := by
          rw [Bool.or_eq_true] at hms
          exact hms.imp id hs
        have hstay : ∀ j oj, ops[j]? = some oj → j ≠ i → listed.getD j true = false → (∀ e ∈ oj.after, Region.binds .any e = true → e.on ≠ i) →
            o.apart ops oj = true ∧ ∀ w w', (nS j = true → holdI hold w0 w → holdI hold w0 w') → (moveOp o = true ∨ holdI hold w0 w) → (moveOp o = true ∨ holdI hold w0 w') := fun j oj hj hne hun hno => by
          obtain ⟨h1, h2⟩ := freeD_spec hfree j oj hj hne hun hno
          refine ⟨h1, fun w w' hn hy => ?_⟩
          rcases h2 with h2 | h2
          · exact .inl h2
          · exact hy.imp id (hn h2)
        have hgo : ∀ x, YieldsIf P ops (fun w' => moveOp o = true ∨ holdI hold w0 w') o x a → dD P ent ops.toList hold flags l K (put t o.dst x) w → wpAnyT r m P ops Q (holdI hold w0) nS (fuel + 1) listed a w := fun x hy hx =>
          wpAnyT_first hi hselA (fun c a' w' h => absurd h (hQ _ _ _)) fuel listed a w hstay hready hy hY
            ((dD_sound hent hsel hQ hnS l false fuel _ s _ _ _ w hrest hf' hs (ha.put o.dst hdst x) hx (hK' x)).1 rfl)
        cases hw : wantedE ops.toList t o with
        | true =>
          simp only [hw] at hd
          obtain ⟨x, hy, hk⟩ := tOp_yields (w0 := w0) (by rw [hwe, hw]) hex hd hY
          exact hgo x hy (step1_elim hk)
        | false =>
          simp only [hw] at hd
          exact hgo undef (.inr ⟨by rw [hwe, hw], rfl⟩) hd
      | false =>
        simp only [Bool.and_eq_true] at hc
        obtain ⟨_, ⟨hone, hnflag⟩, hrest⟩ := hc
        have hgo : ∀ x w', (nS i = true → holdI hold w0 w → holdI hold w0 w') → ((has flags i && (s || o.guard.isNone)) = true → holdI hold w0 w') → dD P ent ops.toList hold flags l K (put t o.dst x) w' →
            (nS i = true → holdI hold w0 w → holdI hold w0 w') ∧ wpAnyT r m P ops Q (holdI hold w0) nS fuel (listed.setIfInBounds i true) (a.put o.dst x) w' := fun x w' h1 h2 hx =>
          ⟨h1, (dD_sound hent hsel hQ hnS l false fuel _ _ _ _ _ w' hrest hf' h2 (ha.put o.dst hdst x) hx (hK' x)).1 rfl⟩
        have hB : ∀ fuel', fuel + 1 = fuel' + 1 → ∀ j ∈ (Ord.step i false l).heads, wpOpIn (WF r) m P ops Q j (fun a' w' => (nS j = true → holdI hold w0 w → holdI hold w0 w') ∧ wpAnyT r m P ops Q (holdI hold w0) nS fuel' (listed.setIfInBounds j true) a' w') a w := fun fuel' hfu j hj => by
          obtain rfl : fuel = fuel' := by omega
          obtain rfl : j = i := by simpa [Ord.heads] using hj
          cases hw : wantedE ops.toList t o with
          | true =>
            simp only [hw] at hd
            refine wpOp_of_dOp hent hi hok (by rw [hwe, hw]) hex hd fun x w' hx => ?_
            cases hfl : has flags j with
            | false =>
              have hn : nS j = false := by
                cases hn : nS j with
                | false => rfl
                | true => rw [hn, hfl] at hnflag; exact absurd hnflag (by simp)
              refine hgo x w' (fun h => absurd h (by simp [hn])) (fun h => absurd h (by simp [hfl])) ?_
              rw [hfl] at hx
              refine step1_elim (g := isG ops.toList j) (K := fun y w'' => dD P ent ops.toList hold flags l K (put t o.dst y) w'') ?_
              cases hold <;> exact hx
            | true =>
              rw [hfl] at hx
              cases hold with
              | none =>
                have := hnS rfl
                rw [this] at hfl
                exact absurd hfl (by simp [has])
              | some I =>
                obtain ⟨hI, hx⟩ := hx
                exact hgo x w' (fun _ _ => hI) (fun _ => hI) (step1_elim (g := isG ops.toList j) (K := fun y w'' => dD P ent ops.toList (some I) flags l K (put t o.dst y) w'') hx)
          | false =>
            simp only [hw] at hd
            unfold wpOpIn
            simp only [hi, hwe, hw, Bool.false_eq_true, if_false]
            refine ⟨fun _ _ => trivial, ?_⟩
            refine hgo undef w (fun _ h => h) (fun hb => ?_) hd
            simp only [Bool.and_eq_true, Bool.or_eq_true] at hb
            rcases hb.2 with h | h
            · exact hs h
            · have hg : o.guard = none := by simpa using h
              simp [wantedE, hg] at hw
        refine ⟨fun h0 => ?_, hB⟩
        subst h0
        obtain ⟨hne, hmem⟩ := among_spec (by simpa using hone)
        exact ⟨fun h => absurd h hne, fun j hj => hB fuel rfl j (hmem j hj)⟩

/-! ### What comes up ahead of all that is held -/
def chkPre (ops : Array Oper) (n : Nat) (k : Array Bool → List Nat → Bool) : List (Nat × Bool) → Array Bool → List Nat → Bool
  | [], listed, L => k listed L
  | (i, tk) :: l, listed, L => match ops[i]? with
    | none => false
    | some o => chkOp ops n L o && (match tk with
      | true => has (Region.ready .any ops listed) i && freeD ops listed (fun _ => false) true i o && moveOp o
      | false => among (Region.ready .any ops listed) [i]) && chkPre ops n k l (listed.setIfInBounds i true) (addD o.dst L)
theorem wpT_of_Any {r : Option Nat} {m : Nat} {ops : Array Oper} {Q : Exit → Act → World → Prop} {I : World → Prop} : ∀ (fuel : Nat) (listed : Array Bool) (a : Act) (w : World),
    wpAnyIn (WF r) m P .any ops Q fuel listed a w → wpAnyT r m P ops Q I (fun _ => false) fuel listed a w
  | 0, _, _, _, h => h
  | fuel + 1, _, _, _, h => ⟨h.1, fun i hi => wpOpIn_mono (fun a' w' h' => ⟨fun h => by simp at h, wpT_of_Any fuel _ a' w' h'⟩) (h.2 i hi)⟩
theorem dPre_sound {ent : Nat → Bool} (hent : chkEnt P ent) {r : Option Nat} {m : Nat} {ops : Array Oper} (hsel : noSel ops = true) {n d : Nat} {k : Array Bool → List Nat → Bool} {a0 : Act}
    {Q : Exit → Act → World → Prop} (hQ : ∀ c a w, ¬ Q (.panic c) a w) {K : Env → World → Prop}
    (hk : ∀ (fuel : Nat) (listed : Array Bool) (L : List Nat) (t : Env) (a : Act) (w : World), k listed L = true → d ≤ fuel → Ag n L t a → (a.defers = a0.defers ∧ ∀ j, j ∉ ops.toList.filterMap (·.dst) → a.tmps[j]? = a0.tmps[j]?) → K t w → wpAnyIn (WF r) m P .any ops Q fuel listed a w) :
    ∀ (l : List (Nat × Bool)) (fuel : Nat) (listed : Array Bool) (L : List Nat) (t : Env) (a : Act) (w : World), chkPre ops n k l listed L = true → l.length + d ≤ fuel → Ag n L t a → (a.defers = a0.defers ∧ ∀ j, j ∉ ops.toList.filterMap (·.dst) → a.tmps[j]? = a0.tmps[j]?) →
      dPre P ent ops.toList l K t w → wpAnyIn (WF r) m P .any ops Q fuel listed a w
  | [], fuel, listed, L, t, a, w, hc, hf, ha, hfr, hd => hk fuel listed L t a w hc (by simpa using hf) ha hfr hd
  | (i, tk) :: l, fuel, listed, L, t, a, w, hc, hf, ha, hfr, hd => by
    obtain ⟨fuel, rfl⟩ : ∃ m, fuel = m + 1 := ⟨fuel - 1, by simp only [List.length_cons] at hf; omega⟩
    have hf' : l.length + d ≤ fuel := by simp only [List.length_cons] at hf; omega
    simp only [chkPre] at hc
    simp only [dPre, Array.getElem?_toList] at hd
    cases hi : ops[i]? with
    | none => rw [hi] at hd; exact hd.elim
    | some o =>
      rw [hi] at hc hd
      simp only [Bool.and_eq_true] at hc
      obtain ⟨⟨hco, hcase⟩, hrest⟩ := hc
      obtain ⟨hok, hlook, hdst⟩ := chkOp_spec hco
      have hmem : o ∈ ops.toList := Array.mem_toList_iff.2 (Array.mem_of_getElem? hi)
      have hselA : ∀ (j : Nat) (o : Oper), ops[j]? = some o → okOp o = true := fun j o hj => List.all_eq_true.1 hsel o (Array.mem_toList_iff.2 (Array.mem_of_getElem? hj))
      have hfr' : ∀ x, ((a.put o.dst x).defers = a0.defers ∧ ∀ j, j ∉ ops.toList.filterMap (·.dst) → (a.put o.dst x).tmps[j]? = a0.tmps[j]?) := fun x =>
        ⟨(put_defersF ..).trans hfr.1, fun j hj => by
          rw [put_frame _ _ _ _ (fun e => hj (List.mem_filterMap.2 ⟨o, hmem, e⟩)), hfr.2 j hj]⟩
      have hwe := ha.wanted hlook
      have hex := execOp_congr o (okOp_sel hok) (ha.looks hlook)
      have hgo : ∀ x w', dPre P ent ops.toList l K (put t o.dst x) w' → wpAnyIn (WF r) m P .any ops Q fuel (listed.setIfInBounds i true) (a.put o.dst x) w' := fun x w' hx =>
        dPre_sound hent hsel hQ hk l fuel _ _ _ _ w' hrest hf' (ha.put o.dst hdst x) (hfr' x) hx
      cases tk with
      | true =>
        simp only [Bool.and_eq_true] at hcase
        obtain ⟨⟨hready, hfree⟩, hmv⟩ := hcase
        have hready := has_mem.1 hready
        have hgoT : ∀ x, YieldsIf P ops (fun _ => True) o x a → dPre P ent ops.toList l K (put t o.dst x) w → wpAnyIn (WF r) m P .any ops Q (fuel + 1) listed a w := fun x hy hx =>
          wpAny_of_T (I := fun _ => True) (nS := fun _ => false) _ _ _ _ (wpAnyT_first hi hselA (fun c a' w' h => absurd h (hQ _ _ _)) fuel listed a w
            (fun j oj hj hne hun hno => ⟨(freeD_spec hfree j oj hj hne hun hno).1, fun _ _ _ _ => trivial⟩) hready hy trivial (wpT_of_Any _ _ _ _ (hgo x w hx)))
        cases hw : wantedE ops.toList t o with
        | true =>
          simp only [hw] at hd
          obtain ⟨x, hy, hk'⟩ := tOp_yields (w0 := w) (by rw [hwe, hw]) hex hd (.inl hmv)
          refine hgoT x ?_ (step1_elim hk')
          rcases hy with ⟨h1, h2⟩ | h
          · exact .inl ⟨h1, fun w' _ => h2 w' (.inl hmv)⟩
          · exact .inr h
        | false =>
          simp only [hw] at hd
          exact hgoT undef (.inr ⟨by rw [hwe, hw], rfl⟩) hd
      | false =>
        obtain ⟨hne, hmem'⟩ := among_spec hcase
        refine ⟨fun h => absurd h hne, fun j hj => ?_⟩
        obtain rfl : j = i := by simpa using hmem' j hj
        cases hw : wantedE ops.toList t o with
        | true =>
          simp only [hw] at hd
          exact wpOp_of_dOp hent hi hok (by rw [hwe, hw]) hex hd fun x w' hx => hgo x w' (step1_elim hx)
        | false =>
          simp only [hw] at hd
          unfold wpOpIn
          simp only [hi, hwe, hw, Bool.false_eq_true, if_false]
          exact ⟨fun _ _ => trivial, hgo undef w hd⟩
end
end Go.Fw
