import Derived.Test.YthpbiliajcameaaFwSound2
namespace Go.Fw
section
variable {P : Program}

/-! ### The code -/
structure Lift (n : Nat) (keep W : List Nat) (a0 : Act) (Q : Qd) (e : Exit) (a : Act) (w : World) : Prop where
  kind : match e with | .panic _ => False | .outgrown => False | .goto _ => False | _ => True
  frame : ∀ j, j ∉ W → a.tmps[j]? = a0.tmps[j]?
  end_ : ∃ t, Ag n keep t a ∧ Q e t w

def chkCode (n : Nat) (keep : List Nat) (orc : List (Nat × Orc)) : Code → Bool
  | .region id ops draw => match draw with
    | false => chkL ops n keep keep ops.toList
    | true => match orcOf orc id with
      | none => false
      | some o => noSel ops && chkD ops n keep o.flags (fun j => has o.flags j || o.ord.any fun p => p.2 && Nat.beq p.1 j) o.ord (Array.replicate ops.size false) (match o.held with | true => o.init | false => true) keep && Nat.ble o.ord.length ops.size && (match o.held with
        | true => true
        | false => o.flags.isEmpty)
  | .seq a b => chkCode n keep orc a && chkCode n keep orc b
  | .cond c x y => (match c with
    | .tmp i => has keep i
    | _ => true) && chkCode n keep orc x && chkCode n keep orc y
  | .block _ c => chkCode n keep orc c
  | .loop c => chkCode n keep orc c
  | .scope c => chkCode n keep orc c
  | _ => true

theorem allV_intro : ∀ (n : Nat) {X : List Value → Prop}, (∀ vs, X vs) → allV n X
  | 0, _, h => h []
  | n + 1, _, h => fun x => allV_intro n fun l => h (x :: l)

theorem mods_mem {keep : List Nat} {c : Code} {i : Nat} : i ∈ mods keep c ↔ i ∈ keep ∧ i ∈ writes c := by
  simp [mods, has_mem]

theorem Ag.norm {n : Nat} {keep : List Nat} {t : Env} {a : Act} (h : Ag n keep t a) : Ag n keep (norm keep t) a :=
  ⟨h.size, h.defers, fun i hi => by rw [get_norm hi]; exact h.at_ i hi⟩

/-- Behind a piece of code: what it may have written is as the new words say, all else as the old ones. -/
theorem Ag.joined {n : Nat} {keep : List Nat} {c : Code} {t t' : Env} {a0 a : Act} (h0 : Ag n keep t a0) (h : Ag n keep t' a) (hf : ∀ j, j ∉ writes c → a.tmps[j]? = a0.tmps[j]?) :
    Ag n keep (Fw.norm keep (setL (mods keep c) (readL (mods keep c) t') t)) a :=
  ⟨h.size, h.defers, fun i hi => by
    rw [get_norm hi, get_setL]
    by_cases hm : i ∈ mods keep c
    · rw [if_pos hm]; exact h.at_ i hi
    · rw [if_neg hm]
      have : i ∉ writes c := fun hw => hm (mods_mem.2 ⟨hi, hw⟩)
      rw [hf i this]; exact h0.at_ i hi⟩

theorem den_sound {ent : Nat → Bool} (hent : chkEnt P ent) (hmix : P.follows .mixedOrders = true) {n : Nat} {keep : List Nat} {orc : List (Nat × Orc)} :
    ∀ (c : Code), chkCode n keep orc c = true → ∀ (Q : Qd) (t : Env) (a : Act) (w : World), Ag n keep t a → den P ent orc keep c Q t w → c.wp P (Lift n keep (writes c) a Q) a w
  | .skip, _, Q, t, a, w, ha, hd => wp_skip ⟨trivial, fun _ _ => rfl, t, ha, hd⟩
  | .label l, _, Q, t, a, w, ha, hd => wp_label ⟨trivial, fun _ _ => rfl, t, ha, hd⟩
  | .exit id, _, Q, t, a, w, ha, hd => wp_exit ⟨trivial, fun _ _ => rfl, t, ha, hd⟩
  | .ret, _, Q, t, a, w, ha, hd => wp_ret ⟨trivial, fun _ _ => rfl, t, ha, hd⟩
  | .goto _, _, _, _, _, _, _, hd => hd.elim
  | .refuse _, _, _, _, _, _, _, hd => hd.elim
  | .rangeFunc _ _ _ _, _, _, _, _, _, _, hd => hd.elim
  | .region id ops draw, hc, Q, t, a, w, ha, hd => by
    cases draw with
    | false =>
      simp only [chkCode] at hc
      simp only [den] at hd
      refine wp_region_list (dL_sound hent ops.toList 0 keep t a w hc ha hd fun t' a' w' h1 h2 h3 => ⟨trivial, h2, _, h1.norm, h3⟩)
    | true =>
      simp only [chkCode] at hc
      simp only [den] at hd
      cases ho : orcOf orc id with
      | none => rw [ho] at hd; exact hd.elim
      | some o =>
        rw [ho] at hc hd
        simp only [Bool.and_eq_true] at hc
        obtain ⟨⟨⟨hsel, hD⟩, hlen⟩, hheld⟩ := hc
        have hlen : o.ord.length ≤ ops.size := Nat.le_of_ble_eq_true hlen
        have hQ : ∀ c a' w', ¬ Lift n keep (writes (.region id ops true)) a Q (.panic c) a' w' := fun c a' w' h => h.kind
        have hfin : ∀ t' a' w', Ag n keep t' a' → (∀ j, j ∉ ops.toList.filterMap (·.dst) → a'.tmps[j]? = a.tmps[j]?) → Q .normal (norm keep t') w' → Lift n keep (writes (.region id ops true)) a Q .normal a' w' :=
          fun t' a' w' h1 h2 h3 => ⟨trivial, h2, _, h1.norm, h3⟩
        cases hh : o.held with
        | false =>
          simp only [hh] at hd hheld
          have hfl : o.flags = [] := List.isEmpty_iff.1 hheld
          exact wp_region_any hmix (wpAny_of_T _ _ _ _ (dD_sound (hold := none) (w0 := { w with drawn := w.drawn + 1 }) hent hsel hQ (fun _ => hfl) o.ord ops.size _ _ keep t a _ hD hlen (fun _ => rfl) ha hd hfin))
        | true =>
          simp only [hh] at hd
          obtain ⟨I, hI, hd⟩ := hd
          exact wp_region_any hmix (wpAny_of_T _ _ _ _ (dD_sound (hold := some I) (w0 := w) hent hsel hQ (fun h => by cases h) o.ord ops.size _ _ keep t a _ hD hlen (fun h => by
            rw [hh] at h
            have h : o.init = true := h
            rw [h] at hI
            exact hI) ha hd hfin))
  | .seq x y, hc, Q, t, a, w, ha, hd => by
    simp only [chkCode, Bool.and_eq_true] at hc
    have ihx := den_sound hent hmix x hc.1
    have ihy := den_sound hent hmix y hc.2
    have key : ∀ Nx : Env → World → Prop, den P ent orc keep x (thenE Nx Q) t w →
        (∀ t' a' w', Ag n keep t' a' → (∀ j, j ∉ writes x → a'.tmps[j]? = a.tmps[j]?) → Nx t' w' → ∃ t'', Ag n keep t'' a' ∧ den P ent orc keep y Q t'' w') →
        (Code.seq x y).wp P (Lift n keep (writes (.seq x y)) a Q) a w := fun Nx hx hN => by
      refine wp_seq (Code.wp_mono ?_ (ihx _ t a w ha hx))
      intro e a' w' hl
      have hfr : ∀ j, j ∉ writes (.seq x y) → a'.tmps[j]? = a.tmps[j]? := fun j hj => hl.frame j (fun h => hj (List.mem_append_left _ h))
      obtain ⟨t', hag, hq⟩ := hl.end_
      cases e with
      | normal =>
        obtain ⟨t'', hag', hy⟩ := hN t' a' w' hag hl.frame hq
        refine Code.wp_mono ?_ (ihy Q t'' a' w' hag' hy)
        exact fun e a'' w'' h2 => ⟨h2.kind, fun j hj => (h2.frame j (fun h => hj (List.mem_append_right _ h))).trans (hfr j hj), h2.end_⟩
      | exit id => exact ⟨trivial, hfr, t', hag, hq⟩
      | ret => exact ⟨trivial, hfr, t', hag, hq⟩
      | goto l => exact hl.kind.elim
      | panic c => exact hl.kind.elim
      | outgrown => exact hl.kind.elim
    simp only [den] at hd
    cases hdir : direct x with
    | true =>
      rw [hdir] at hd
      exact key _ hd fun t' a' w' h1 _ h3 => ⟨t', h1, h3⟩
    | false =>
      rw [hdir] at hd
      exact key _ hd fun t' a' w' h1 h2 h3 => ⟨_, ha.joined h1 h2, h3⟩
  | .cond c x y, hc, Q, t, a, w, ha, hd => by
    simp only [chkCode, Bool.and_eq_true] at hc
    have he : a.eval c = ev t c := ha.eval c fun i hi => by
      have := hc.1.1
      rw [hi] at this
      exact has_mem.1 this
    simp only [den, br] at hd
    cases hv : ev t c with
    | bool b =>
      rw [hv] at hd
      cases b with
      | true =>
        exact wp_cond_true (he.trans hv) (Code.wp_mono (fun e a' w' h => ⟨h.kind, fun j hj => h.frame j (fun hm => hj (List.mem_append_left _ hm)), h.end_⟩) (den_sound hent hmix x hc.1.2 Q t a w ha hd))
      | false =>
        exact wp_cond_false (he.trans hv) (Code.wp_mono (fun e a' w' h => ⟨h.kind, fun j hj => h.frame j (fun hm => hj (List.mem_append_right _ hm)), h.end_⟩) (den_sound hent hmix y hc.2 Q t a w ha hd))
    | _ => rw [hv] at hd; exact hd.elim
  | .block id c, hc, Q, t, a, w, ha, hd => by
    simp only [chkCode] at hc
    simp only [den] at hd
    refine wp_block (Code.wp_mono ?_ (den_sound hent hmix c hc _ t a w ha hd))
    intro e a' w' h
    obtain ⟨t', hag, hq⟩ := h.end_
    cases e with
    | exit i =>
      simp only [Exit.inBlock]
      simp only [blockE] at hq
      by_cases hi : i = id
      · subst hi
        simp only [Nat.beq_refl] at hq
        rw [if_pos rfl]
        exact ⟨trivial, h.frame, t', hag, hq⟩
      · have : Nat.beq i id = false := by
          cases hb : Nat.beq i id with
          | false => rfl
          | true => exact absurd (Nat.eq_of_beq_eq_true hb) hi
        rw [this] at hq
        rw [if_neg hi]
        exact ⟨trivial, h.frame, t', hag, hq⟩
    | normal => exact ⟨trivial, h.frame, t', hag, hq⟩
    | ret => exact ⟨trivial, h.frame, t', hag, hq⟩
    | goto l => exact h.kind.elim
    | panic c => exact h.kind.elim
    | outgrown => exact h.kind.elim
  | .scope c, hc, Q, t, a, w, ha, hd => by
    simp only [chkCode] at hc
    simp only [den] at hd
    refine wp_scope_straight (Code.wp_mono ?_ (den_sound hent hmix c hc _ t a w ha hd))
    intro e a' w' h
    cases e with
    | goto l => exact h.kind.elim
    | _ => exact h
  | .loop c, hc, Q, t, a, w, ha, hd => by
    simp only [chkCode] at hc
    simp only [den, S.loop] at hd
    have ih := den_sound hent hmix c hc
    intro b k cs
    have hI := hd (fun vs w => ∀ a1 : Act, (∀ j, j ∉ writes c → a1.tmps[j]? = a.tmps[j]?) → Ag n keep (norm keep (setL (mods keep c) vs t)) a1 → ∃ e a' w', Lift n keep (writes c) a Q e a' w' ∧ Arrives P (lone (b.at a1 (.code c :: .inLoop c :: k)) cs w) b k cs e a' w')
      (allV_intro _ fun vs w' hden a1 hfr hag => by
        obtain ⟨e, a2, w2, hl, harr⟩ := ih _ _ a1 w' hag hden b (.inLoop c :: k) cs
        have hfr2 : ∀ j, j ∉ writes c → a2.tmps[j]? = a.tmps[j]? := fun j hj => (hl.frame j hj).trans (hfr j hj)
        obtain ⟨t2, hag2, hq⟩ := hl.end_
        cases e with
        | normal =>
          obtain ⟨e3, a3, w3, hl3, harr3⟩ := hq a2 hfr2 (ha.joined hag2 hfr2)
          exact ⟨e3, a3, w3, hl3, .of_steps (Steps.trans harr (.one step_inLoop)) harr3⟩
        | exit id => exact ⟨_, a2, w2, ⟨trivial, hfr2, t2, hag2, hq⟩, .pass (x := .inLoop c) rfl (fun _ _ => .inl (by simp)) harr⟩
        | ret => exact ⟨_, a2, w2, ⟨trivial, hfr2, t2, hag2, hq⟩, .pass (x := .inLoop c) rfl (fun _ _ => .inl (by simp)) harr⟩
        | goto l => exact hl.kind.elim
        | panic c => exact hl.kind.elim
        | outgrown => exact hl.kind.elim)
    obtain ⟨e, a', w', hl, harr⟩ := hI a (fun _ _ => rfl) (ha.joined (c := c) ha (fun _ _ => rfl))
    exact ⟨e, a', w', hl, .of_steps (.one step_loop) harr⟩

/-! ### A call -/
def getArg (i : Nat) (args : List Value) : Value := nth args i
theorem get_argEnv (args : List Value) : ∀ (k i : Nat), get (argEnv k args) (k + i) = nth args i := by
  induction args with
  | nil => intro k i; rfl
  | cons x r ih =>
    intro k i
    cases i with
    | zero => simp [argEnv, get]
    | succ i =>
      have hb : Nat.beq k (k + (i + 1)) = false := by
        cases hb : Nat.beq k (k + (i + 1)) with
        | false => rfl
        | true => have := Nat.eq_of_beq_eq_true hb; omega
      simp only [argEnv, get, hb, cond_false, nth]
      have := ih (k + 1) i
      rw [← this]
      congr 1
      omega

theorem nth_eq (args : List Value) (m i : Nat) (h : i < args.length + m) : (args.toArray ++ Array.replicate m undef)[i]? = some (nth args i) := by
  have hnth : ∀ (l : List Value) (i : Nat), nth l i = l.getD i undef := by
    intro l
    induction l with
    | nil => intro i; rfl
    | cons x r ih =>
      intro i
      cases i with
      | zero => rfl
      | succ i => simpa using ih i
  rw [hnth]
  by_cases hi : i < args.length
  · rw [Array.getElem?_append_left (by simpa using hi)]
    simp [hi]
  · rw [Array.getElem?_append_right (by simpa using hi)]
    simp only [List.size_toArray, Array.getElem?_replicate]
    rw [if_pos (by omega)]
    simp [hi]

def resOf (tmps : Array Value) : ResultVar → Sem Value
  | .tmp t => pure (tmps.getD t undef)
  | .cell a t => do loadVar t (← asAddr (tmps.getD a undef))
theorem results_eq (fn : Func) (tmps : Array Value) : results fn tmps = (do
    let vs ← fn.results.mapM (resOf tmps)
    pure (if h : vs.size = 1 then vs[0] else .tuple vs)) := by
  unfold results
  congr 1

theorem run_ret1 (a : Act) {t : Env} {n : Nat} {keep : List Nat} (ha : Ag n keep t a) (K : Value → World → Prop) (w : World) : ∀ (rs : List ResultVar) (acc : List Value),
    (∀ x ∈ rs, (match x with | .tmp i => i ∈ keep | .cell i _ => i ∈ keep)) → ret1 t rs acc K P w →
    ∃ vs : List Value, vs.length = rs.length ∧ (rs.mapM (resOf a.tmps)).run P w = .ok vs w ∧ K (match vs.reverse ++ acc with | [x] => x | l => .tuple l.reverse.toArray) w
  | [], acc, _, h => ⟨[], rfl, by simp [Sem.run_pure], h⟩
  | .tmp i :: r, acc, hk, h => by
    obtain ⟨vs, hl, hr, hK⟩ := run_ret1 a ha K w r _ (fun x hx => hk x (List.mem_cons_of_mem _ hx)) h
    have hi : i ∈ keep := hk _ (List.mem_cons_self ..)
    have hat := ha.at_ i hi
    have hres : (resOf a.tmps (.tmp i)).run P w = .ok (get t i) w := by
      simp [resOf, hat, Sem.run_pure]
    refine ⟨get t i :: vs, by simp [hl], ?_, by simpa using hK⟩
    rw [List.mapM_cons, Sem.run_bind, hres, Result.andThen_ok, Sem.run_bind, hr, Result.andThen_ok, Sem.run_pure]
  | .cell i ty :: r, acc, hk, h => by
    obtain ⟨x, hx, h⟩ := h
    obtain ⟨vs, hl, hr, hK⟩ := run_ret1 a ha K w r _ (fun x hx => hk x (List.mem_cons_of_mem _ hx)) h
    have hi : i ∈ keep := hk _ (List.mem_cons_self ..)
    have hat := ha.at_ i hi
    have hres : (resOf a.tmps (.cell i ty)).run P w = .ok x w := by
      have hg : a.tmps.getD i undef = get t i := by simp [hat]
      show ((do loadVar ty (← asAddr (a.tmps.getD i undef)) : Sem Value)).run P w = _
      rw [hg]; exact hx
    refine ⟨x :: vs, by simp [hl], ?_, by simpa using hK⟩
    rw [List.mapM_cons, Sem.run_bind, hres, Result.andThen_ok, Sem.run_bind, hr, Result.andThen_ok, Sem.run_pure]

def chkFn (fn : Func) (c : Code) (keep : List Nat) (orc : List (Nat × Orc)) (nargs : Nat) : Bool :=
  chkCode fn.ntmps keep orc c && keep.all (fun i => Nat.blt i fn.ntmps) && Nat.ble nargs fn.ntmps && fn.results.toList.all fun r => match r with
    | .tmp i => has keep i
    | .cell i _ => has keep i

theorem calls_of_den {ent : Nat → Bool} (hent : chkEnt P ent) (hmix : P.follows .mixedOrders = true) {f : FuncId} {fn : Func} {c : Code} {keep : List Nat} {orc : List (Nat × Orc)} {args : List Value} {K : Value → World → Prop} {w : World}
    (hf : P.funcs[f]? = some fn) (hb : fn.body = some c) (hc : chkFn fn c keep orc args.length = true) (h : denFn P ent orc keep c fn.results.toList args K w) : S.call P f args K w := by
  simp only [chkFn, Bool.and_eq_true, List.all_eq_true] at hc
  obtain ⟨⟨⟨hcode, hkeep⟩, hn⟩, hres⟩ := hc
  have hn : args.length ≤ fn.ntmps := Nat.le_of_ble_eq_true hn
  have hsz : (args.toArray ++ Array.replicate (fn.ntmps - args.toArray.size) undef).size = fn.ntmps := by simp; omega
  have ha0 : Ag fn.ntmps keep (norm keep (argEnv 0 args)) { tmps := args.toArray ++ Array.replicate (fn.ntmps - args.toArray.size) undef, defers := [] } := by
    refine Ag.norm ⟨hsz, rfl, fun i hi => ?_⟩
    have hlt : i < fn.ntmps := Nat.lt_of_succ_le (by simpa [Nat.blt] using hkeep i hi)
    have := get_argEnv args 0 i
    rw [Nat.zero_add] at this
    rw [this]
    exact nth_eq args _ i (by simp; omega)
  refine calls_of_wp hf hb (Code.wp_mono ?_ (den_sound hent hmix c hcode _ _ _ w ha0 h))
  intro e a w' hl
  obtain ⟨t, hag, hq⟩ := hl.end_
  have hfin : ret1 t fn.results.toList [] K P w' → a.defers = [] ∧ ∃ v, (results fn a.tmps).run P w' = .ok v w' ∧ retP K (.returned v) w' := fun hr => by
    obtain ⟨vs, hlen, hrun, hK⟩ := run_ret1 a hag K w' fn.results.toList [] (fun x hx => by
      have := hres x hx
      cases x <;> exact has_mem.1 this) hr
    refine ⟨hag.defers, _, ?_, hK⟩
    rw [results_eq]
    have hm : (fn.results.mapM (resOf a.tmps)).run P w' = .ok vs.toArray w' := by
      rw [Array.mapM_eq_mapM_toList, map_eq_pure_bind, Sem.run_bind, hrun]
      rfl
    rw [Sem.run_bind, hm, Result.andThen_ok, Sem.run_pure]
    simp only [List.append_nil]
    congr 1
    match vs with
    | [] => rfl
    | [x] => rfl
    | x :: y :: r =>
      simp only [List.size_toArray, List.length_cons]
      rw [dif_neg (by omega)]
      have hne : ∀ (l : List Value), 2 ≤ l.length → (match l with | [x] => x | l => Value.tuple l.reverse.toArray) = .tuple l.reverse.toArray := fun l hl => by
        match l, hl with
        | a :: b :: c, _ => rfl
      rw [hne _ (by simp)]
      simp
  cases e with
  | normal => exact hfin hq
  | ret => exact hfin hq
  | exit id => exact hq.elim
  | goto l => exact hl.kind.elim
  | panic c => exact hl.kind.elim
  | outgrown => exact hl.kind.elim
end
end Go.Fw
