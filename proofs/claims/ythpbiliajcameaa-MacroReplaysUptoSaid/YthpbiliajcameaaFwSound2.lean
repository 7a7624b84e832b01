import Derived.Test.YthpbiliajcameaaFwSound
namespace Go.Fw
section
variable {P : Program}
theorem has_mem {L : List Nat} {i : Nat} : has L i = true ↔ i ∈ L := by
  induction L with
  | nil => simp [has]
  | cons j r ih =>
    simp only [has, List.mem_cons]
    cases hb : Nat.beq j i with
    | true => simp [(Nat.eq_of_beq_eq_true hb).symm]
    | false =>
      have : i ≠ j := fun e => by subst e; simp at hb
      simp [ih, this]
theorem has_false {L : List Nat} {i : Nat} : has L i = false ↔ i ∉ L := by
  rw [← has_mem]; cases has L i <;> simp

theorem get_norm {keep : List Nat} {t : Env} {i : Nat} (h : i ∈ keep) : get (norm keep t) i = get t i := by
  induction keep with
  | nil => cases h
  | cons j r ih =>
    simp only [norm, List.map_cons, get]
    cases hb : Nat.beq j i with
    | true => have := Nat.eq_of_beq_eq_true hb; subst this; simp
    | false =>
      simp only [cond_false]
      refine ih ?_
      cases h with
      | head => simp at hb
      | tail _ hm => exact hm

theorem nth_append (A : List Value) (x : Value) (r : List Value) : nth (A ++ x :: r) A.length = x := by
  induction A with
  | nil => rfl
  | cons a A ih => simpa using ih

theorem get_setLk (t t' : Env) (i : Nat) : ∀ (M pre : List Nat), get (setLk pre.length M (readL (pre ++ M) t') t) i = if i ∈ M then get t' i else get t i
  | [], pre => by simp [setLk]
  | m :: r, pre => by
    have ih := get_setLk t t' i r (pre ++ [m])
    simp only [List.length_append, List.length_cons, List.length_nil, Nat.zero_add, List.append_assoc, List.singleton_append] at ih
    simp only [setLk, get, List.mem_cons]
    cases hb : Nat.beq m i with
    | true =>
      have := Nat.eq_of_beq_eq_true hb; subst this
      simp only [cond_true, true_or, if_true, readL, List.map_append, List.map_cons]
      have := nth_append (pre.map (get t')) (get t' m) (r.map (get t'))
      simpa using this
    | false =>
      have hne : i ≠ m := fun e => by subst e; simp at hb
      simp only [cond_false, ih, hne, false_or]

theorem get_setL (t t' : Env) (i : Nat) (M : List Nat) : get (setL M (readL M t') t) i = if i ∈ M then get t' i else get t i := by
  simpa [setL] using get_setLk t t' i M []

theorem step1_elim {g : Bool} {x : Value} {K : Value → World → Prop} {w : World} (h : step1 g x K w) : K x w := by
  cases g with
  | false => exact h
  | true =>
    simp only [step1, br] at h
    split at h
    · exact h
    · exact h
    · exact h.elim

def chkOp (ops : Array Oper) (n : Nat) (L : List Nat) (o : Oper) : Bool :=
  okOp o && (o.looksAt ops).all (has L) && (match o.dst with
    | some d => Nat.blt d n
    | none => true)
theorem chkOp_spec {ops : Array Oper} {n : Nat} {L : List Nat} {o : Oper} (h : chkOp ops n L o = true) :
    okOp o = true ∧ (∀ i, i ∈ o.looksAt ops → i ∈ L) ∧ (∀ i, o.dst = some i → i < n) := by
  simp only [chkOp, Bool.and_eq_true, List.all_eq_true] at h
  refine ⟨h.1.1, fun i hi => has_mem.1 (h.1.2 i hi), fun i hi => ?_⟩
  have := h.2
  rw [hi] at this
  exact Nat.lt_of_succ_le (by simpa [Nat.blt] using this)
def chkL (ops : Array Oper) (n : Nat) (keep : List Nat) : List Nat → List Oper → Bool
  | L, [] => keep.all (has L)
  | L, o :: l => chkOp ops n L o && chkL ops n keep (addD o.dst L) l

theorem Ag.mono {n : Nat} {L L' : List Nat} {t : Env} {a : Act} (h : Ag n L t a) (hl : ∀ i, i ∈ L' → i ∈ L) : Ag n L' t a := ⟨h.size, h.defers, fun i hi => h.at_ i (hl i hi)⟩

theorem put_frame (a : Act) (d : Option Tmp) (v : Value) (j : Nat) (h : d ≠ some j) : (a.put d v).tmps[j]? = a.tmps[j]? := by
  cases d with
  | none => rfl
  | some d =>
    have : d ≠ j := fun e => h (by rw [e])
    simp [Act.put, Array.getElem?_setIfInBounds_ne this]

theorem dL_sound {ent : Nat → Bool} (hent : chkEnt P ent) {ops : Array Oper} {n : Nat} {keep : List Nat} {Q : Exit → Act → World → Prop} {K : Env → World → Prop} :
    ∀ (l : List Oper) (i : Nat) (L : List Nat) (t : Env) (a : Act) (w : World), chkL ops n keep L l = true → Ag n L t a → dL P ent ops.toList i l K t w →
      (∀ t' a' w', Ag n keep t' a' → (∀ j, j ∉ l.filterMap (·.dst) → a'.tmps[j]? = a.tmps[j]?) → K t' w' → Q .normal a' w') → wpList P ops Q l a w
  | [], _, L, t, a, w, hc, ha, hd, hK => by
    simp only [chkL, List.all_eq_true] at hc
    exact hK t a w (ha.mono fun i hi => has_mem.1 (hc i hi)) (fun _ _ => rfl) hd
  | o :: l, i, L, t, a, w, hc, ha, hd, hK => by
    simp only [chkL, Bool.and_eq_true] at hc
    obtain ⟨hok, hlook, hdst⟩ := chkOp_spec hc.1
    have hrest : ∀ x w', dL P ent ops.toList (i + 1) l K (put t o.dst x) w' → wpList P ops Q l (a.put o.dst x) w' := fun x w' hx =>
      dL_sound hent l (i + 1) _ _ _ w' hc.2 (ha.put o.dst hdst x) hx fun t' a' w'' h1 h2 h3 => hK t' a' w'' h1 (fun j hj => by
        rw [h2 j (fun hm => hj (by
          simp only [List.filterMap_cons]
          cases o.dst <;> simp [hm])), put_frame _ _ _ _ (fun e => hj (by simp [e]))]) h3
    rw [wpList]
    rw [ha.wanted hlook]
    simp only [dL] at hd
    cases hw : wantedE ops.toList t o with
    | true =>
      rw [hw] at hd
      simp only [if_true]
      exact .inl (dOp_sound hent (execOp_congr o (okOp_sel hok) (ha.looks hlook)) hd fun x w' hx => hrest x w' (step1_elim hx))
    | false =>
      rw [hw] at hd
      simp only [Bool.false_eq_true, if_false]
      exact hrest undef w hd

/-! ### A region whose order is drawn -/
/-- Whatever order is picked from here on; behind each operation of 'nS' the word S holds if it held before it. -/
def wpAnyT (P : Program) (ops : Array Oper) (Q : Exit → Act → World → Prop) (I : World → Prop) (nS : Nat → Bool) : Nat → Array Bool → Act → World → Prop
  | 0, listed, a, w => Region.ready .any ops listed = [] ∧ Q .normal a w
  | fuel + 1, listed, a, w =>
    (Region.ready .any ops listed = [] → Q .normal a w) ∧
    ∀ i ∈ Region.ready .any ops listed, wpOp P ops Q i (fun a' w' => (nS i = true → I w → I w') ∧ wpAnyT P ops Q I nS fuel (listed.setIfInBounds i true) a' w') a w

theorem wpAny_of_T {ops : Array Oper} {Q : Exit → Act → World → Prop} {I : World → Prop} {nS : Nat → Bool} : ∀ (fuel : Nat) (listed : Array Bool) (a : Act) (w : World),
    wpAnyT P ops Q I nS fuel listed a w → wpAny P .any ops Q fuel listed a w
  | 0, _, _, _, h => h
  | fuel + 1, _, _, _, h => ⟨h.1, fun i hi => wpOp_mono (fun a' w' h' => wpAny_of_T fuel _ a' w' h'.2) (h.2 i hi)⟩

theorem wpAnyT_done {ops : Array Oper} {Q : Exit → Act → World → Prop} {I : World → Prop} {nS : Nat → Bool} {listed : Array Bool} {a : Act} {w : World}
    (hr : Region.ready .any ops listed = []) (h : Q .normal a w) : ∀ fuel, wpAnyT P ops Q I nS fuel listed a w
  | 0 => ⟨hr, h⟩
  | _ + 1 => ⟨fun _ => h, by rw [hr]; simp⟩

theorem wpAnyT_first {ops : Array Oper} {Q : Exit → Act → World → Prop} {I Y : World → Prop} {nS : Nat → Bool} {i : Nat} {oi : Oper} {v : Value} (hi : ops[i]? = some oi)
    (hsel : ∀ (j : Nat) (o : Oper) cs b, ops[j]? = some o → o.op ≠ .select cs b)
    (hQ : ∀ c a w, Q (.panic c) (a.put oi.dst v) w → Q (.panic c) a w) :
    ∀ (fuel : Nat) (listed : Array Bool) (a : Act) (w : World),
      (∀ j oj, ops[j]? = some oj → j ≠ i → listed.getD j true = false → (∀ e ∈ oj.after, Region.binds .any e = true → e.on ≠ i) →
        oi.apart ops oj = true ∧ ∀ w w', (nS j = true → I w → I w') → Y w → Y w') →
      i ∈ Region.ready .any ops listed → YieldsIf P ops Y oi v a → Y w →
      wpAnyT P ops Q I nS fuel (listed.setIfInBounds i true) (a.put oi.dst v) w → wpAnyT P ops Q I nS (fuel + 1) listed a w := by
  intro fuel
  induction fuel with
  | zero =>
    intro listed a w _ hr hy hS H
    refine ⟨fun h => (by rw [h] at hr; cases hr), fun j hj => ?_⟩
    by_cases hji : j = i
    · subst hji; exact hy.wpOp hi hS ⟨fun _ h => h, H⟩
    · have := ready_mono hj hji
      rw [H.1] at this
      cases this
  | succ fuel ih =>
    intro listed a w hfree hr hy hS H
    refine ⟨fun h => (by rw [h] at hr; cases hr), fun j hj => ?_⟩
    by_cases hji : j = i
    · subst hji; exact hy.wpOp hi hS ⟨fun _ h => h, H⟩
    · have h1 := H.2 j (ready_mono hj hji)
      obtain ⟨hjun, oj, hoj, hall⟩ := mem_ready.1 hj
      have hnot : ∀ e ∈ oj.after, Region.binds .any e = true → e.on ≠ i := fun e he hb heq => by
        have h1 := hall e he hb
        have h0 := (mem_ready.1 hr).1
        rw [heq] at h1
        rcases Nat.lt_or_ge i listed.size with h' | h'
        · simp [h'] at h0 h1; rw [h0] at h1; cases h1
        · simp [Array.getElem?_eq_none h'] at h1
      obtain ⟨hap, hstay⟩ := hfree j oj hoj hji hjun hnot
      have h2 := wpOp_putIf hoj hap (fun cs b => hsel i oi cs b hi) (fun cs b => hsel j oj cs b hoj) hQ hy h1
      have hfree' : ∀ k ok, ops[k]? = some ok → k ≠ i → (listed.setIfInBounds j true).getD k true = false →
          (∀ e ∈ ok.after, Region.binds .any e = true → e.on ≠ i) → oi.apart ops ok = true ∧ ∀ w w', (nS k = true → I w → I w') → Y w → Y w' := fun k ok hk hki hun hno => by
        refine hfree k ok hk hki ?_ hno
        by_cases hjk : j = k
        · subst hjk; exact hjun
        · rw [getD_set_ne true hjk] at hun; exact hun
      refine wpOp_mono (fun a' w' h3 => ⟨h3.2.1, ih (listed.setIfInBounds j true) a' w' hfree' (ready_mono hr (Ne.symm hji)) h3.1 (hstay w w' h3.2.1 hS) ?_⟩) h2
      rw [Array.setIfInBounds_comm _ _ hji]
      exact h3.2.2

def moveOp (o : Oper) : Bool :=
  match o.op with
  | .move _ => true
  | .assign _ => true
  | _ => false
/-- Number i may be taken now: whoever has not come up, and does not wait for it, is apart from it (and keeps the word S). -/
def freeD (ops : Array Oper) (listed : Array Bool) (nS : Nat → Bool) (pur : Bool) (i : Nat) (oi : Oper) : Bool :=
  (List.range ops.size).all fun j => Nat.beq j i || listed.getD j true || match ops[j]? with
    | some oj => oj.after.any (fun e => Region.binds .any e && Nat.beq e.on i) || (oi.apart ops oj && (pur || nS j))
    | none => true
def eqL : List Nat → Nat → Bool
  | [j], i => Nat.beq j i
  | _, _ => false
def chkD (ops : Array Oper) (n : Nat) (keep flags : List Nat) (nS : Nat → Bool) : List (Nat × Bool) → Array Bool → Bool → List Nat → Bool
  | [], listed, _, L => (match Region.ready .any ops listed with
    | [] => true
    | _ => false) && keep.all (has L)
  | (i, tk) :: l, listed, s, L => match ops[i]? with
    | none => false
    | some o => chkOp ops n L o && (match tk with
      | true => has (Region.ready .any ops listed) i && freeD ops listed nS (moveOp o) i o && (moveOp o || s) && chkD ops n keep flags nS l (listed.setIfInBounds i true) s (addD o.dst L)
      | false => eqL (Region.ready .any ops listed) i && (match nS i with
        | true => has flags i
        | false => true) && chkD ops n keep flags nS l (listed.setIfInBounds i true) (has flags i && (s || o.guard.isNone)) (addD o.dst L))
def noSel (ops : Array Oper) : Bool := ops.toList.all okOp

theorem eqL_spec {l : List Nat} {i : Nat} (h : eqL l i = true) : l = [i] := by
  cases l with
  | nil => cases h
  | cons j r =>
    cases r with
    | nil => rw [Nat.eq_of_beq_eq_true h]
    | cons _ _ => cases h
theorem freeD_spec {ops : Array Oper} {listed : Array Bool} {nS : Nat → Bool} {pur : Bool} {i : Nat} {oi : Oper} (h : freeD ops listed nS pur i oi = true) (j : Nat) (oj : Oper)
    (hj : ops[j]? = some oj) (hne : j ≠ i) (hun : listed.getD j true = false) (hno : ∀ e ∈ oj.after, Region.binds .any e = true → e.on ≠ i) : oi.apart ops oj = true ∧ (pur = true ∨ nS j = true) := by
  simp only [freeD, List.all_eq_true, List.mem_range] at h
  have h1 := h j (Array.getElem?_eq_some_iff.1 hj).1
  have hb : Nat.beq j i = false := by
    cases hb : Nat.beq j i with
    | false => rfl
    | true => exact absurd (Nat.eq_of_beq_eq_true hb) hne
  have hany : (oj.after.any fun e => Region.binds .any e && Nat.beq e.on i) = false := by
    rw [← Bool.not_eq_true, Array.any_eq_true]
    rintro ⟨k, hk, hx⟩
    rw [Bool.and_eq_true] at hx
    exact hno _ (Array.getElem_mem hk) hx.1 (Nat.eq_of_beq_eq_true hx.2)
  simp only [hj, hb, hun, hany, Bool.false_or, Bool.and_eq_true, Bool.or_eq_true] at h1
  exact h1

theorem wpOp_of_dOp {ent : Nat → Bool} (hent : chkEnt P ent) {ops : Array Oper} {i : Nat} {o : Oper} (hi : ops[i]? = some o) {t : Env} {a : Act} {w : World} {K : Value → World → Prop} {Q : Exit → Act → World → Prop}
    (hw : Region.wanted o (yielded ops a.tmps) = true) (he : execOp a.eval o = execOp (ev t) o) (h : dOp P ent t o K w) {next : Act → World → Prop} (hK : ∀ x w', K x w' → next (a.put o.dst x) w') : wpOp P ops Q i next a w := by
  unfold wpOp
  simp only [hi, hw, if_true]
  exact .inl (dOp_sound hent he h hK)

/-- How the two ways of holding a word go into one. -/
def holdI (hold : Option (World → Prop)) (w0 : World) : World → Prop :=
  match hold with
  | some I => I
  | none => fun w => w = w0

theorem tOp_yields {ops : Array Oper} {hold : Option (World → Prop)} {w0 : World} {t : Env} {a : Act} {o : Oper} {K : Value → World → Prop} {w : World}
    (hw : Region.wanted o (yielded ops a.tmps) = true) (he : execOp a.eval o = execOp (ev t) o) (h : tOp P hold t o K w) (hI : moveOp o = true ∨ holdI hold w0 w) :
    ∃ x, YieldsIf P ops (fun w' => moveOp o = true ∨ holdI hold w0 w') o x a ∧ K x w := by
  have hdef : moveOp o = false → (match vSem t o with
      | some s => tV P hold s K w
      | none => False) → ∃ x, YieldsIf P ops (fun w' => moveOp o = true ∨ holdI hold w0 w') o x a ∧ K x w := fun hm hr => by
    have hI' : holdI hold w0 w := hI.resolve_left (by simp [hm])
    cases hs : vSem t o with
    | none => rw [hs] at hr; exact hr.elim
    | some s =>
      rw [hs] at hr
      cases hold with
      | none =>
        obtain ⟨x, hx, hk⟩ := hr
        have e0 : w = w0 := hI'
        refine ⟨x, .inl ⟨hw, fun w' hw' => ?_⟩, hk⟩
        have e1 : w' = w0 := hw'.resolve_left (by simp [hm])
        rw [he]
        exact vSem_exec hs (by rw [e1, ← e0]; exact hx)
      | some I =>
        obtain ⟨x, hx, hk⟩ := hr
        refine ⟨x, .inl ⟨hw, fun w' hw' => ?_⟩, hk⟩
        rw [he]
        exact vSem_exec hs (hx w' (hw'.resolve_left (by simp [hm])))
  obtain ⟨dst, op, type, pos, after, guard⟩ := o
  cases op <;> simp only [tOp] at h <;> first
    | exact hdef rfl h
    | skip
  case move x => exact ⟨_, .inl ⟨hw, fun w' _ => by rw [he]; rfl⟩, h⟩
  case assign x => exact ⟨_, .inl ⟨hw, fun w' _ => by rw [he]; rfl⟩, h⟩
  case pick c x y =>
    cases hc : ev t c with
    | bool b =>
      rw [hc] at h
      cases b
      · exact ⟨_, .inl ⟨hw, fun w' _ => by rw [he]; simp only [execOp, hc, asBool, Sem.run_bind, Sem.run_pure, Result.andThen_ok]; rfl⟩, h⟩
      · exact ⟨_, .inl ⟨hw, fun w' _ => by rw [he]; simp only [execOp, hc, asBool, Sem.run_bind, Sem.run_pure, Result.andThen_ok]; rfl⟩, h⟩
    | _ => rw [hc] at h; exact h.elim

theorem dD_sound {ent : Nat → Bool} (hent : chkEnt P ent) {ops : Array Oper} (hsel : noSel ops = true) {n : Nat} {keep flags : List Nat} {nS : Nat → Bool} {hold : Option (World → Prop)} {w0 : World}
    {Q : Exit → Act → World → Prop} (hQ : ∀ c a w, ¬ Q (.panic c) a w) {K : Env → World → Prop} (hnS : hold = none → flags = []) :
    ∀ (l : List (Nat × Bool)) (fuel : Nat) (listed : Array Bool) (s : Bool) (L : List Nat) (t : Env) (a : Act) (w : World), chkD ops n keep flags nS l listed s L = true → l.length ≤ fuel → (s = true → holdI hold w0 w) → Ag n L t a →
      dD P ent ops.toList hold flags l K t w →
      (∀ t' a' w', Ag n keep t' a' → (∀ j, j ∉ ops.toList.filterMap (·.dst) → a'.tmps[j]? = a.tmps[j]?) → K t' w' → Q .normal a' w') → wpAnyT P ops Q (holdI hold w0) nS fuel listed a w
  | [], fuel, listed, s, L, t, a, w, hc, hf, hs, ha, hd, hK => by
    simp only [chkD, Bool.and_eq_true, List.all_eq_true] at hc
    refine wpAnyT_done ?_ (hK t a w (ha.mono fun i hi => has_mem.1 (hc.2 i hi)) (fun _ _ => rfl) hd) fuel
    cases hr : Region.ready .any ops listed with
    | nil => rfl
    | cons x y => rw [hr] at hc; exact absurd hc.1 (by simp)
  | (i, tk) :: l, fuel, listed, s, L, t, a, w, hc, hf, hs, ha, hd, hK => by
    obtain ⟨fuel, rfl⟩ : ∃ m, fuel = m + 1 := ⟨fuel - 1, by simp at hf; omega⟩
    have hf' : l.length ≤ fuel := by simp at hf; omega
    simp only [chkD] at hc
    simp only [dD, Array.getElem?_toList] at hd
    cases hi : ops[i]? with
    | none => rw [hi] at hd; exact hd.elim
    | some o =>
      rw [hi] at hc hd
      simp only [Bool.and_eq_true] at hc
      obtain ⟨hok, hlook, hdst⟩ := chkOp_spec hc.1
      have hmem : o ∈ ops.toList := Array.mem_toList_iff.2 (Array.mem_of_getElem? hi)
      have hselA : ∀ (j : Nat) (o : Oper) cs b, ops[j]? = some o → o.op ≠ .select cs b := fun j o cs b hj => okOp_sel (List.all_eq_true.1 hsel o (Array.mem_toList_iff.2 (Array.mem_of_getElem? hj))) cs b
      have hK' : ∀ x, ∀ t' a' w', Ag n keep t' a' → (∀ j, j ∉ ops.toList.filterMap (·.dst) → a'.tmps[j]? = (a.put o.dst x).tmps[j]?) → K t' w' → Q .normal a' w' := fun x t' a' w' h1 h2 h3 =>
        hK t' a' w' h1 (fun j hj => by
          rw [h2 j hj, put_frame _ _ _ _ (fun e => hj (List.mem_filterMap.2 ⟨o, hmem, e⟩))]) h3
      have hwe := ha.wanted hlook
      have hex := execOp_congr o (okOp_sel hok) (ha.looks hlook)
      cases tk with
      | true =>
        simp only [Bool.and_eq_true] at hc
        obtain ⟨_, ⟨⟨hready, hfree⟩, hms⟩, hrest⟩ := hc
        have hready := has_mem.1 hready
        have hY : moveOp o = true ∨ holdI hold w0 w := by
          rw [Bool.or_eq_true] at hms
          exact hms.imp id hs
        have hstay : ∀ j oj, ops[j]? = some oj → j ≠ i → listed.getD j true = false → (∀ e ∈ oj.after, Region.binds .any e = true → e.on ≠ i) →
            o.apart ops oj = true ∧ ∀ w w', (nS j = true → holdI hold w0 w → holdI hold w0 w') → (moveOp o = true ∨ holdI hold w0 w) → (moveOp o = true ∨ holdI hold w0 w') := fun j oj hj hne hun hno => by
          obtain ⟨h1, h2⟩ := freeD_spec hfree j oj hj hne hun hno
          refine ⟨h1, fun w w' hn hy => ?_⟩
          rcases h2 with h2 | h2
          · exact .inl h2
          · exact hy.imp id (hn h2)
        have hgo : ∀ x, YieldsIf P ops (fun w' => moveOp o = true ∨ holdI hold w0 w') o x a → dD P ent ops.toList hold flags l K (put t o.dst x) w → wpAnyT P ops Q (holdI hold w0) nS (fuel + 1) listed a w := fun x hy hx =>
          wpAnyT_first hi hselA (fun c a' w' h => absurd h (hQ _ _ _)) fuel listed a w hstay hready hy hY
            (dD_sound hent hsel hQ hnS l fuel _ s _ _ _ w hrest hf' hs (ha.put o.dst hdst x) hx (hK' x))
        cases hw : wantedE ops.toList t o with
        | true =>
          simp only [hw] at hd
          obtain ⟨x, hy, hk⟩ := tOp_yields (w0 := w0) (by rw [hwe, hw]) hex hd hY
          exact hgo x hy (step1_elim hk)
        | false =>
          simp only [hw] at hd
          exact hgo undef (.inr ⟨by rw [hwe, hw], rfl⟩) hd
      | false =>
        simp only [Bool.and_eq_true] at hc
        obtain ⟨_, ⟨heq, hnflag⟩, hrest⟩ := hc
        have heq := eqL_spec heq
        have hgo : ∀ x w', (nS i = true → holdI hold w0 w → holdI hold w0 w') → ((has flags i && (s || o.guard.isNone)) = true → holdI hold w0 w') → dD P ent ops.toList hold flags l K (put t o.dst x) w' →
            (nS i = true → holdI hold w0 w → holdI hold w0 w') ∧ wpAnyT P ops Q (holdI hold w0) nS fuel (listed.setIfInBounds i true) (a.put o.dst x) w' := fun x w' h1 h2 hx =>
          ⟨h1, dD_sound hent hsel hQ hnS l fuel _ _ _ _ _ w' hrest hf' h2 (ha.put o.dst hdst x) hx (hK' x)⟩
        refine ⟨fun h0 => absurd (heq ▸ h0) (by simp), fun j hj => ?_⟩
        rw [heq] at hj
        obtain rfl : j = i := by simpa using hj
        cases hw : wantedE ops.toList t o with
        | true =>
          simp only [hw] at hd
          refine wpOp_of_dOp hent hi (by rw [hwe, hw]) hex hd fun x w' hx => ?_
          cases hfl : has flags j with
          | false =>
            have hn : nS j = false := by
              cases hn : nS j with
              | false => rfl
              | true => rw [hn, hfl] at hnflag; exact absurd hnflag (by simp)
            refine hgo x w' (fun h => absurd h (by simp [hn])) (fun h => absurd h (by simp [hfl])) ?_
            rw [hfl] at hx
            refine step1_elim (g := isG ops.toList j) (K := fun y w'' => dD P ent ops.toList hold flags l K (put t o.dst y) w'') ?_
            cases hold <;> exact hx
          | true =>
            rw [hfl] at hx
            cases hold with
            | none =>
              have := hnS rfl
              rw [this] at hfl
              exact absurd hfl (by simp [has])
            | some I =>
              obtain ⟨hI, hx⟩ := hx
              exact hgo x w' (fun _ _ => hI) (fun _ => hI) (step1_elim (g := isG ops.toList j) (K := fun y w'' => dD P ent ops.toList (some I) flags l K (put t o.dst y) w'') hx)
        | false =>
          simp only [hw] at hd
          unfold wpOp
          simp only [hi, hwe, hw, Bool.false_eq_true, if_false]
          refine hgo undef w (fun _ h => h) (fun hb => ?_) hd
          simp only [Bool.and_eq_true, Bool.or_eq_true] at hb
          rcases hb.2 with h | h
          · exact hs h
          · have hg : o.guard = none := by simpa using h
            simp [wantedE, hg] at hw
end
end Go.Fw
