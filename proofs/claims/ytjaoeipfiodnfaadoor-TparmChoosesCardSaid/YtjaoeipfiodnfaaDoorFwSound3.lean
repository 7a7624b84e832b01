import Derived.Test.YtjaoeipfiodnfaaDoorFwSound2
namespace Go.Fw
section
variable {P : Program}

/-! ### The code -/
structure Lift (n : Nat) (keep W : List Nat) (g : Bool) (a0 : Act) (Q : Qd) (e : Exit) (a : Act) (w : World) : Prop where
  kind : match e with | .panic _ => False | .outgrown => False | .goto _ => False | _ => True
  frame : ∀ j, j ∉ W → a.tmps[j]? = a0.tmps[j]?
  dframe : g = false → a.defers = a0.defers
  end_ : ∃ t, Ag n keep t a ∧ Q e t w

def nodupB : List Nat → Bool
  | [] => true
  | i :: r => !has r i && nodupB r
def chkCode (n : Nat) (keep : List Nat) (orc : List (Nat × Orc)) : Code → Bool
  | .region id ops draw => match draw with
    | false => chkL ops n keep keep ops.toList
    | true => match orcOf orc id with
      | none => false
      | some o => match o.pre with
       | _ :: _ => noSel ops && chkPre ops n (fun listed L => chkD ops n keep o.flags (fun j => has o.flags j || !o.ord.loud j) false o.ord listed true L) o.pre (Array.replicate ops.size false) keep && Nat.ble (o.pre.length + o.ord.depth) ops.size
       | [] => noSel ops && chkD ops n keep o.flags (fun j => has o.flags j || !o.ord.loud j) false o.ord (Array.replicate ops.size false) (match o.held with | true => o.init | false => true) keep && Nat.ble o.ord.depth ops.size && (match o.held with
        | true => true
        | false => o.flags.isEmpty)
  | .seq a b => chkCode n keep orc a && chkCode n keep orc b
  | .cond c x y => (match c with
    | .tmp i => has keep i
    | _ => true) && chkCode n keep orc x && chkCode n keep orc y
  | .block _ c => chkCode n keep orc c
  | .loop c => chkCode n keep orc c
  | .scope c => chkCode n keep orc c
  | .rangeFunc g ps a b => (match g with
    | .tmp i => has keep i
    | _ => true) && ps.toList.all (fun i => Nat.blt i n) && nodupB ps.toList && keep.all (fun i => Nat.blt i n) && chkCode n keep orc a && chkCode n keep orc b && !rngs a && !rngs b
  | _ => true

theorem allV_intro : ∀ (n : Nat) {X : List Value → Prop}, (∀ vs, X vs) → allV n X
  | 0, _, h => h []
  | n + 1, _, h => fun x => allV_intro n fun l => h (x :: l)

theorem mods_mem {keep : List Nat} {c : Code} {i : Nat} (hi : i ≠ mkS) : i ∈ mods keep c ↔ i ∈ keep ∧ i ∈ writes c := by
  unfold mods
  cases rngs c with
  | true => simp [has_mem, hi]
  | false => simp [has_mem]
theorem mods_mk {keep : List Nat} {c : Code} (h : rngs c = true) : mkS ∈ mods keep c := by
  unfold mods; rw [h]; simp

theorem Ag.norm {n : Nat} {keep : List Nat} {t : Env} {a : Act} (h : Ag n keep t a) : Ag n keep (norm keep t) a :=
  ⟨h.size, h.le, by rw [get_norm_mk]; exact h.defers, fun i hi => by rw [get_norm hi]; exact h.at_ i hi⟩
theorem Ag.lt {n : Nat} {keep : List Nat} {t : Env} {a : Act} (h : Ag n keep t a) {i : Nat} (hi : i ∈ keep) : i < n := by
  have := h.at_ i hi
  have := (Array.getElem?_eq_some_iff.1 this).1
  rw [h.size] at this
  exact this

/-- Behind a piece of code: what it may have written is as the new words say, all else as the old ones. -/
theorem Ag.joined {n : Nat} {keep : List Nat} {c : Code} {t t' : Env} {a0 a : Act} (h0 : Ag n keep t a0) (h : Ag n keep t' a) (hf : ∀ j, j ∉ writes c → a.tmps[j]? = a0.tmps[j]?) (hdf : rngs c = false → a.defers = a0.defers) :
    Ag n keep (Fw.norm keep (setL (mods keep c) (readL (mods keep c) t') t)) a :=
  ⟨h.size, h.le, by
    rw [get_norm_mk, get_setL]
    by_cases hm : mkS ∈ mods keep c
    · rw [if_pos hm]; exact h.defers
    · rw [if_neg hm]
      cases hr : rngs c with
      | true => exact absurd (mods_mk hr) hm
      | false => rw [hdf hr]; exact h0.defers, fun i hi => by
    have hne : i ≠ mkS := fun e => absurd (Nat.lt_of_lt_of_le (h.lt hi) h.le) (by rw [e]; exact Nat.lt_irrefl _)
    rw [get_norm hi, get_setL]
    by_cases hm : i ∈ mods keep c
    · rw [if_pos hm]; exact h.at_ i hi
    · rw [if_neg hm]
      have : i ∉ writes c := fun hw => hm ((mods_mem hne).2 ⟨hi, hw⟩)
      rw [hf i this]; exact h0.at_ i hi⟩

theorem nodupB_cons {i : Nat} {r : List Nat} (h : nodupB (i :: r) = true) : i ∉ r ∧ nodupB r = true := by
  simp only [nodupB, Bool.and_eq_true, Bool.not_eq_true'] at h
  exact ⟨has_false.1 h.1, h.2⟩
/-- A round's temporaries. -/
theorem round_tmps : ∀ (ps : List Nat) (pre args : List Value) (tmps : Array Value) (i : Nat), nodupB ps = true → (∀ p ∈ ps, p < tmps.size) → args.length = ps.length → (t : Env) →
    (∀ v, i ∉ ps → tmps[i]? = some v → ((ps.zip args).foldl (fun (tmps : Array Value) x => tmps.setIfInBounds x.1 x.2) tmps)[i]? = some v) ∧
    (i ∈ ps → ((ps.zip args).foldl (fun (tmps : Array Value) x => tmps.setIfInBounds x.1 x.2) tmps)[i]? = some (get (setLk pre.length ps (pre ++ args) t) i))
  | [], pre, args, tmps, i, _, _, _, t => ⟨fun v _ h => h, fun h => by cases h⟩
  | p :: ps, pre, [], tmps, i, _, _, hl, t => by simp at hl
  | p :: ps, pre, x :: args, tmps, i, hn, hlt, hl, t => by
    obtain ⟨hp, hn'⟩ := nodupB_cons hn
    have ih := round_tmps ps (pre ++ [x]) args (tmps.setIfInBounds p x) i hn' (fun q hq => by rw [Array.size_setIfInBounds]; exact hlt q (List.mem_cons_of_mem _ hq)) (by simpa using hl) t
    simp only [List.zip_cons_cons, List.foldl_cons]
    refine ⟨fun v hi hv => ih.1 v (fun h => hi (List.mem_cons_of_mem _ h)) ?_, fun hi => ?_⟩
    · have : p ≠ i := fun e => hi (by simp [e])
      rw [Array.getElem?_setIfInBounds_ne this]; exact hv
    · have hnth : nth (pre ++ x :: args) pre.length = x := nth_append ..
      simp only [setLk, get]
      cases hb : Nat.beq p i with
      | true =>
        have := Nat.eq_of_beq_eq_true hb
        subst this
        simp only [cond_true, hnth]
        refine ih.1 x hp ?_
        have : p < tmps.size := hlt p (by simp)
        simp [this]
      | false =>
        have hne : p ≠ i := fun e => by subst e; simp at hb
        have him : i ∈ ps := by
          cases hi with
          | head => exact absurd rfl hne
          | tail _ h => exact h
        have := ih.2 him
        simp only [List.length_append, List.length_cons, List.length_nil, Nat.zero_add, List.append_assoc, List.singleton_append] at this
        exact this
theorem get_setLk_out {t : Env} {i : Nat} : ∀ (ps : List Nat) (k : Nat) (vs : List Value), i ∉ ps → get (setLk k ps vs t) i = get t i
  | [], _, _, _ => rfl
  | p :: ps, k, vs, h => by
    have hb : Nat.beq p i = false := by
      cases hb : Nat.beq p i with
      | false => rfl
      | true => exact absurd (by simp [Nat.eq_of_beq_eq_true hb]) h
    simp only [setLk, get, hb, cond_false]
    exact get_setLk_out ps (k + 1) vs (fun hm => h (List.mem_cons_of_mem _ hm))

theorem ch_putObj {w : World} {l : Nat} {old : Obj} (new : Obj) (h : w.heap[l]? = some old) : (w.putObj l new).heap[l]? = some new ∧ Ch [l] w (w.putObj l new) ∧ (w.putObj l new).heap.size = w.heap.size :=
  ⟨World.putObj_heap_same (Array.getElem?_eq_some_iff.1 h).1, ⟨rfl, rfl, rfl, by simp, fun k _ hn => World.putObj_heap_other (by simpa using hn)⟩, by simp⟩
theorem setO_go {l : Nat} {old new : Obj} {K : World → Prop} {w : World} (h : S.setO l old new K w) : K (w.putObj l new) :=
  let ⟨h1, h2, h3⟩ := ch_putObj new h.1
  h.2 _ h1 h2 h3

theorem den_sound {ent : Nat → Bool} (hent : chkEnt P ent) (hmix : P.follows .mixedOrders = true) {n : Nat} {keep : List Nat} {orc : List (Nat × Orc)} :
    ∀ (c : Code) (r : Option Nat), (r = none ∨ rngs c = false) → chkCode n keep orc c = true → ∀ (Q : Qd) (t : Env) (a : Act) (w : World), Ag n keep t a → den P ent orc keep c Q t w → c.wpIn (WF r) 0 P (Lift n keep (writes c) (rngs c) a Q) a w
  | .skip, r, hrg, _, Q, t, a, w, ha, hd => wpIn_skip ⟨trivial, fun _ _ => rfl, fun _ => rfl, t, ha, hd⟩
  | .label l, r, hrg, _, Q, t, a, w, ha, hd => wpIn_label ⟨trivial, fun _ _ => rfl, fun _ => rfl, t, ha, hd⟩
  | .exit id, r, hrg, _, Q, t, a, w, ha, hd => wpIn_exit ⟨trivial, fun _ _ => rfl, fun _ => rfl, t, ha, hd⟩
  | .ret, r, hrg, _, Q, t, a, w, ha, hd => wpIn_ret ⟨trivial, fun _ _ => rfl, fun _ => rfl, t, ha, hd⟩
  | .goto _, _, _, _, _, _, _, _, _, hd => hd.elim
  | .refuse _, _, _, _, _, _, _, _, _, hd => hd.elim
  | .scope _, _, _, _, _, _, _, _, _, hd => hd.elim
  | .rangeFunc g ps assign body, r, hrg, hc, Q, t, a, w, ha, hd => by
    have hr0 : r = none := hrg.resolve_right (by simp [rngs])
    subst hr0
    simp only [chkCode, Bool.and_eq_true, List.all_eq_true, Bool.not_eq_true'] at hc
    obtain ⟨⟨⟨⟨⟨⟨⟨hg, hps⟩, hnd⟩, hkeep⟩, hca⟩, hcb⟩, hra⟩, hrb⟩ := hc
    have hlt : ∀ {l : List Nat}, (∀ i ∈ l, Nat.blt i n = true) → ∀ i ∈ l, i < n := fun h i hi => Nat.lt_of_succ_le (by simpa [Nat.blt] using h i hi)
    have hps := hlt hps
    have hkeep := hlt hkeep
    have he : a.eval g = ev t g := ha.eval g fun i hi => by
      rw [hi] at hg
      exact has_mem.1 hg
    simp only [den] at hd
    refine wpIn_rangeFunc (F := WF none) fun fn _ => ?_
    have hlast : ∀ (w : World) (o : Obj), (w.alloc o).heap.size = w.heap.size + 1 := fun w o => by simp
    have hold : ∀ (w : World) (o : Obj) (k : Nat), k < w.heap.size → (w.alloc o).heap[k]? = w.heap[k]? := fun w o k hk => by
      show (w.heap.push o)[k]? = _
      rw [Array.getElem?_push_lt hk, Array.getElem?_eq_getElem hk]
    let rec0 : Loop := { state := .ready, pending := none, fn := fn, tmps := a.tmps, params := ps, assign := assign, body := body, defers := w.heap.size }
    let w1 : World := (w.alloc (.deferred (some []))).alloc (.loop rec0)
    have hw1D : w1.heap[w.heap.size]? = some (.deferred (some [])) := by
      rw [hold _ _ _ (by rw [hlast]; omega)]
      exact World.alloc_heap_new w _
    have hw1L : w1.heap[w.heap.size + 1]? = some (.loop rec0) := by
      have := World.alloc_heap_new (w.alloc (.deferred (some []))) (.loop rec0)
      rw [hlast] at this
      exact this
    have hsz1 : w1.heap.size = w.heap.size + 2 := by show ((w.alloc _).alloc _).heap.size = _; rw [hlast, hlast]
    have hch1 : Ch [] w w1 := ⟨rfl, rfl, rfl, by omega, fun k hk _ => by
      show ((w.alloc _).alloc _).heap[k]? = _
      rw [hold _ _ _ (by rw [hlast]; omega), hold _ _ _ hk]⟩
    have hcall := hd (.func (.yield (w.heap.size + 1)) #[] #[]) (fun j => .loop { rec0 with state := if j.isNone then .ready else .done, pending := j }) (.loop { rec0 with state := .busy })
      (fun j => .loop { rec0 with state := .exhausted, pending := j }) w1 hw1D hw1L hch1 hsz1 (fun args K w2 hal h2 hrnd => by
        have hrun : (S.callV (.func (.yield (w.heap.size + 1)) #[] #[]) args).run P w2 = .ok (.round (w.heap.size + 1) fn ((ps.zip args.toArray).foldl (fun tmps (t, a) => tmps.setIfInBounds t a) a.tmps) assign body) w2 := by
          have hy := run_yield (P := P) (w := w2) (l := w.heap.size + 1) (args := args.toArray) h2 (by simpa using hal)
          simpa [S.callV, Deferred.ofValue, invoke, Sem.run_bind, Sem.run_pure, Result.andThen_ok] using hy
        unfold S.nx
        rw [hrun]
        refine roundIn_of_wpIn (F := Fence.wide) trivial ?_
        have hfold : (ps.zip args.toArray).foldl (fun tmps (t, a) => tmps.setIfInBounds t a) a.tmps = (ps.toList.zip args).foldl (fun (tmps : Array Value) x => tmps.setIfInBounds x.1 x.2) a.tmps := by
          rw [← Array.foldl_toList, Array.toList_zip]
        have hsizeF : ∀ (l : List (Nat × Value)) (tm : Array Value), (l.foldl (fun (tmps : Array Value) x => tmps.setIfInBounds x.1 x.2) tm).size = tm.size := by
          intro l
          induction l with
          | nil => intro tm; rfl
          | cons x l ih => intro tm; simp only [List.foldl_cons]; rw [ih, Array.size_setIfInBounds]
        have ha0 : Ag n keep (norm keep ((mkS, undef) :: setL ps.toList args t)) { tmps := (ps.zip args.toArray).foldl (fun tmps (t, a) => tmps.setIfInBounds t a) a.tmps, defers := [] } := by
          rw [hfold]
          refine Ag.norm ⟨by rw [hsizeF]; exact ha.size, ha.le, by simp [get, marksOf, marksL, undef], fun i hi => ?_⟩
          have hne : Nat.beq mkS i = false := by
            cases hb : Nat.beq mkS i with
            | false => rfl
            | true => exact absurd (Nat.lt_of_lt_of_le (hkeep i hi) ha.le) (by rw [← Nat.eq_of_beq_eq_true hb]; exact Nat.lt_irrefl _)
          simp only [get, hne, cond_false]
          have hrt := round_tmps ps.toList [] args a.tmps i hnd (fun p hp => by rw [ha.size]; exact hps p hp) (by rw [hal, Array.length_toList]) t
          by_cases him : i ∈ ps.toList
          · exact hrt.2 him
          · have := hrt.1 _ him (ha.at_ i hi)
            rw [this]
            unfold setL
            rw [get_setLk_out _ _ _ him]
        have hA := den_sound hent hmix assign (some (w.heap.size + 1)) (.inr hra) hca _ _ _ w2 ha0 hrnd
        refine wpIn_mono hA fun e a1 w3 hl => ?_
        obtain ⟨t1, hag1, hq⟩ := hl.end_
        have hd1 : a1.defers = [] := hl.dframe hra
        cases e with
        | normal =>
          have hb := setO_go hq
          refine ⟨_, run_beginRound (r := rec0) hq.1 rfl, ?_⟩
          refine wpIn_mono (den_sound hent hmix body (some (w.heap.size + 1)) (.inr hrb) hcb _ _ _ _ hag1 hb) fun e2 a2 w4 hl2 => ?_
          obtain ⟨t2, hag2, hq2⟩ := hl2.end_
          have fin : ∀ j : Option Code, S.setO (w.heap.size + 1) (.loop { rec0 with state := .busy }) (.loop { rec0 with state := if j.isNone then .ready else .done, pending := j }) (fun w' => K (.bool j.isNone) w') w4 →
              ∃ v w', (Instr.endRound (w.heap.size + 1) j).run P w4 = .ok v w' ∧ retP K (.returned v) w' := fun j h =>
            ⟨_, _, run_endRound j h.1, setO_go h⟩
          cases e2 with
          | normal => exact fin none hq2
          | ret => exact fin (some .ret) hq2
          | exit id => exact hq2.elim
          | goto l => exact hl2.kind.elim
          | panic c => exact hl2.kind.elim
          | outgrown => exact hl2.kind.elim
        | exit id => exact hq.elim
        | ret => exact hq.elim
        | goto l => exact hl.kind.elim
        | panic c => exact hl.kind.elim
        | outgrown => exact hl.kind.elim)
    unfold S.ent at hcall
    cases hrun : (S.callV (ev t g) [.func (.yield (w.heap.size + 1)) #[] #[]]).run P w1 with
    | halt x w' => rw [hrun] at hcall; exact hcall.elim
    | ok nx w2 =>
      rw [hrun] at hcall
      cases nx <;> first
        | (exfalso; exact hcall)
        | skip
      case enter f args =>
        have hdec : ∃ d w1', (Deferred.ofValue (ev t g) #[.func (.yield (w.heap.size + 1)) #[] #[]]).run P w1 = .ok d w1' ∧ (invoke d.target d.args).run P w1' = .ok (.enter f args) w2 := by
          have hrun' := hrun
          unfold S.callV at hrun'
          rw [Sem.run_bind] at hrun'
          cases hd1 : (Deferred.ofValue (ev t g) #[.func (.yield (w.heap.size + 1)) #[] #[]]).run P w1 with
          | ok d w1' => 
            have : (Deferred.ofValue (ev t g) [Value.func (.yield (w.heap.size + 1)) #[] #[]].toArray).run P w1 = .ok d w1' := hd1
            rw [this] at hrun'
            exact ⟨d, w1', rfl, hrun'⟩
          | halt x w1' =>
            have : (Deferred.ofValue (ev t g) [Value.func (.yield (w.heap.size + 1)) #[] #[]].toArray).run P w1 = .halt x w1' := hd1
            rw [this] at hrun'
            cases hrun'
        obtain ⟨d, w1', hd1, hinv⟩ := hdec
        refine ⟨w.heap.size + 1, [markD w.heap.size], w1, d, w1', f, args, w2, run_enterLoop_outer .., ?_, fun _ _ => trivial, hinv, depth_WF, callsIn_WF (Calls.mono hcall fun e w5 h5 => ?_)⟩
        · show (resolve a.eval (rangeCall g (w.heap.size + 1)) 0).run P w1 = _
          have : resolve a.eval (rangeCall g (w.heap.size + 1)) 0 = Deferred.ofValue (a.eval g) #[.func (.yield (w.heap.size + 1)) #[] #[]] := by simp [resolve, Act.eval]
          rw [this, he]; exact hd1
        · cases e with
          | panicked c => exact h5.elim
          | outgrown => exact h5.elim
          | returned v =>
            obtain ⟨j, hs⟩ := h5
            have hend := run_endLoop (P := P) hs.1 (by cases j <;> simp)
            have hK := setO_go hs
            have hag : Ag n keep (norm keep ((mkS, addMark w.heap.size (get t mkS)) :: t)) { a with defers := [markD w.heap.size] ++ a.defers } := by
              refine Ag.norm ⟨ha.size, ha.le, ?_, fun i hi => ?_⟩
              · have : get ((mkS, addMark w.heap.size (get t mkS)) :: t) mkS = addMark w.heap.size (get t mkS) := by simp [get]
                rw [this]
                simp [marksOf, addMark, marksL, markN, ha.defers]
              · have hne : Nat.beq mkS i = false := by
                  cases hb : Nat.beq mkS i with
                  | false => rfl
                  | true => exact absurd (Nat.lt_of_lt_of_le (hkeep i hi) ha.le) (by rw [← Nat.eq_of_beq_eq_true hb]; exact Nat.lt_irrefl _)
                simp only [get, hne, cond_false]
                exact ha.at_ i hi
            refine ⟨_, _, hend, ?_⟩
            cases j with
            | none => exact ⟨trivial, fun _ _ => rfl, fun h => by simp [rngs] at h, _, hag, hK⟩
            | some cj =>
              cases cj <;> first
                | (exfalso; exact hK)
                | skip
              exact wpIn_ret ⟨trivial, fun _ _ => rfl, fun h => by simp [rngs] at h, _, hag, hK⟩
  | .region id ops draw, r, hrg, hc, Q, t, a, w, ha, hd => by
    cases draw with
    | false =>
      simp only [chkCode] at hc
      simp only [den] at hd
      refine wpIn_region_list (dL_sound hent ops.toList 0 keep t a w hc ha hd fun t' a' w' h1 h2 h3 => ⟨trivial, h2.2, fun _ => h2.1, _, h1.norm, h3⟩)
    | true =>
      simp only [chkCode] at hc
      simp only [den] at hd
      cases ho : orcOf orc id with
      | none => rw [ho] at hd; exact hd.elim
      | some o =>
        rw [ho] at hc hd
        have hQ : ∀ c a' w', ¬ Lift n keep (writes (.region id ops true)) (rngs (.region id ops true)) a Q (.panic c) a' w' := fun c a' w' h => h.kind
        have hfin : ∀ t' a' w', Ag n keep t' a' → (a'.defers = a.defers ∧ ∀ j, j ∉ ops.toList.filterMap (·.dst) → a'.tmps[j]? = a.tmps[j]?) → Q .normal (norm keep t') w' → Lift n keep (writes (.region id ops true)) (rngs (.region id ops true)) a Q .normal a' w' :=
          fun t' a' w' h1 h2 h3 => ⟨trivial, h2.2, fun _ => h2.1, _, h1.norm, h3⟩
        cases hpre : o.pre with
        | cons p0 pr =>
          simp only [hpre] at hc hd
          simp only [Bool.and_eq_true] at hc
          obtain ⟨⟨hsel, hD⟩, hlen⟩ := hc
          have hlen := Nat.le_of_ble_eq_true hlen
          exact wpIn_region_any hmix (dPre_sound hent (d := o.ord.depth) hsel hQ (fun fuel listed L t' a' w' hk hf ha' hfr hK => by
            obtain ⟨I, hI, hK⟩ := hK
            exact wpAny_of_T _ _ _ _ ((dD_sound (hold := some I) (w0 := w) hent hsel hQ (fun h => by cases h) o.ord false fuel _ true L t' a' w' hk hf (fun _ => hI) ha' hK
              (fun t'' a'' w'' h1 h2 h3 => hfin t'' a'' w'' h1 ⟨h2.1.trans hfr.1, fun j hj => (h2.2 j hj).trans (hfr.2 j hj)⟩ h3)).1 rfl)) (p0 :: pr) ops.size _ keep t a _ hD hlen ha ⟨rfl, fun _ _ => rfl⟩ hd)
        | nil =>
        simp only [hpre] at hc hd
        simp only [Bool.and_eq_true] at hc
        obtain ⟨⟨⟨hsel, hD⟩, hlen⟩, hheld⟩ := hc
        have hlen : o.ord.depth ≤ ops.size := Nat.le_of_ble_eq_true hlen
        cases hh : o.held with
        | false =>
          simp only [hh] at hd hheld
          have hfl : o.flags = [] := List.isEmpty_iff.1 hheld
          exact wpIn_region_any hmix (wpAny_of_T _ _ _ _ ((dD_sound (hold := none) (w0 := { w with drawn := w.drawn + 1 }) hent hsel hQ (fun _ => hfl) o.ord false ops.size _ _ keep t a _ hD hlen (fun _ => rfl) ha hd hfin).1 rfl))
        | true =>
          simp only [hh] at hd
          obtain ⟨I, hI, hd⟩ := hd
          exact wpIn_region_any hmix (wpAny_of_T _ _ _ _ ((dD_sound (hold := some I) (w0 := w) hent hsel hQ (fun h => by cases h) o.ord false ops.size _ _ keep t a _ hD hlen (fun h => by
            rw [hh] at h
            have h : o.init = true := h
            rw [h] at hI
            exact hI) ha hd hfin).1 rfl))
  | .seq x y, r, hrg, hc, Q, t, a, w, ha, hd => by
    simp only [chkCode, Bool.and_eq_true] at hc
    have hrx : r = none ∨ rngs x = false := hrg.imp id fun h => by simp only [rngs, Bool.or_eq_false_iff] at h; exact h.1
    have hry : r = none ∨ rngs y = false := hrg.imp id fun h => by simp only [rngs, Bool.or_eq_false_iff] at h; exact h.2
    have ihx := den_sound hent hmix x r hrx hc.1
    have ihy := den_sound hent hmix y r hry hc.2
    have key : ∀ Nx : Env → World → Prop, den P ent orc keep x (thenE Nx Q) t w →
        (∀ t' a' w', Ag n keep t' a' → (∀ j, j ∉ writes x → a'.tmps[j]? = a.tmps[j]?) → (rngs x = false → a'.defers = a.defers) → Nx t' w' → ∃ t'', Ag n keep t'' a' ∧ den P ent orc keep y Q t'' w') →
        (Code.seq x y).wpIn (WF r) 0 P (Lift n keep (writes (.seq x y)) (rngs (.seq x y)) a Q) a w := fun Nx hx hN => by
      refine wpIn_seq (wpIn_mono (ihx _ t a w ha hx) ?_)
      intro e a' w' hl
      have hfr : ∀ j, j ∉ writes (.seq x y) → a'.tmps[j]? = a.tmps[j]? := fun j hj => hl.frame j (fun h => hj (List.mem_append_left _ h))
      have hdf : rngs (.seq x y) = false → a'.defers = a.defers := fun h => hl.dframe (by simp only [rngs, Bool.or_eq_false_iff] at h; exact h.1)
      obtain ⟨t', hag, hq⟩ := hl.end_
      cases e with
      | normal =>
        obtain ⟨t'', hag', hy⟩ := hN t' a' w' hag hl.frame hl.dframe hq
        refine wpIn_mono (ihy Q t'' a' w' hag' hy) ?_
        exact fun e a'' w'' h2 => ⟨h2.kind, fun j hj => (h2.frame j (fun h => hj (List.mem_append_right _ h))).trans (hfr j hj), fun h => (h2.dframe (by simp only [rngs, Bool.or_eq_false_iff] at h; exact h.2)).trans (hdf h), h2.end_⟩
      | exit id => exact ⟨trivial, hfr, hdf, t', hag, hq⟩
      | ret => exact ⟨trivial, hfr, hdf, t', hag, hq⟩
      | goto l => exact hl.kind.elim
      | panic c => exact hl.kind.elim
      | outgrown => exact hl.kind.elim
    simp only [den] at hd
    cases hdir : direct orc x with
    | true =>
      rw [hdir] at hd
      exact key _ hd fun t' a' w' h1 _ _ h3 => ⟨t', h1, h3⟩
    | false =>
      rw [hdir] at hd
      exact key _ hd fun t' a' w' h1 h2 h2d h3 => ⟨_, ha.joined h1 h2 h2d, h3⟩
  | .cond c x y, r, hrg, hc, Q, t, a, w, ha, hd => by
    simp only [chkCode, Bool.and_eq_true] at hc
    have hrx : r = none ∨ rngs x = false := hrg.imp id fun h => by simp only [rngs, Bool.or_eq_false_iff] at h; exact h.1
    have hry : r = none ∨ rngs y = false := hrg.imp id fun h => by simp only [rngs, Bool.or_eq_false_iff] at h; exact h.2
    have he : a.eval c = ev t c := ha.eval c fun i hi => by
      have := hc.1.1
      rw [hi] at this
      exact has_mem.1 this
    simp only [den, br] at hd
    cases hv : ev t c with
    | bool b =>
      rw [hv] at hd
      cases b with
      | true =>
        exact wpIn_cond_true (he.trans hv) (wpIn_mono (den_sound hent hmix x r hrx hc.1.2 Q t a w ha hd) (fun e a' w' h => ⟨h.kind, fun j hj => h.frame j (fun hm => hj (List.mem_append_left _ hm)), fun hg => h.dframe (by simp only [rngs, Bool.or_eq_false_iff] at hg; exact hg.1), h.end_⟩))
      | false =>
        exact wpIn_cond_false (he.trans hv) (wpIn_mono (den_sound hent hmix y r hry hc.2 Q t a w ha hd) (fun e a' w' h => ⟨h.kind, fun j hj => h.frame j (fun hm => hj (List.mem_append_right _ hm)), fun hg => h.dframe (by simp only [rngs, Bool.or_eq_false_iff] at hg; exact hg.2), h.end_⟩))
    | _ => rw [hv] at hd; exact hd.elim
  | .block id c, r, hrg, hc, Q, t, a, w, ha, hd => by
    simp only [chkCode] at hc
    simp only [den] at hd
    refine wpIn_block (wpIn_mono (den_sound hent hmix c r hrg hc _ t a w ha hd) ?_)
    intro e a' w' h
    obtain ⟨t', hag, hq⟩ := h.end_
    cases e with
    | exit i =>
      simp only [Exit.inBlock]
      simp only [blockE] at hq
      by_cases hi : i = id
      · subst hi
        simp only [Nat.beq_refl] at hq
        rw [if_pos rfl]
        exact ⟨trivial, h.frame, h.dframe, t', hag, hq⟩
      · have : Nat.beq i id = false := by
          cases hb : Nat.beq i id with
          | false => rfl
          | true => exact absurd (Nat.eq_of_beq_eq_true hb) hi
        rw [this] at hq
        rw [if_neg hi]
        exact ⟨trivial, h.frame, h.dframe, t', hag, hq⟩
    | normal => exact ⟨trivial, h.frame, h.dframe, t', hag, hq⟩
    | ret => exact ⟨trivial, h.frame, h.dframe, t', hag, hq⟩
    | goto l => exact h.kind.elim
    | panic c => exact h.kind.elim
    | outgrown => exact h.kind.elim
  | .loop c, r, hrg, hc, Q, t, a, w, ha, hd => by
    simp only [chkCode] at hc
    simp only [den, S.loop] at hd
    have ih := den_sound hent hmix c r hrg hc
    intro b k cs hro hb hr
    have hI := hd (fun vs w => ∀ a1 : Act, (∀ j, j ∉ writes c → a1.tmps[j]? = a.tmps[j]?) → (rngs c = false → a1.defers = a.defers) → Ag n keep (norm keep (setL (mods keep c) vs t)) a1 → ∃ e a' w', Lift n keep (writes c) (rngs c) a Q e a' w' ∧ ArrivesIn (Machine.fenced P (WF r)) P (lone (b.atR a1 (.code c :: .inLoop c :: k)) cs w) b k cs e a' w')
      (allV_intro _ fun vs w' hden a1 hfr hdf hag => by
        obtain ⟨e, a2, w2, hl, harr⟩ := ih _ _ a1 w' hag hden b (.inLoop c :: k) cs hro hb hr
        have hfr2 : ∀ j, j ∉ writes c → a2.tmps[j]? = a.tmps[j]? := fun j hj => (hl.frame j hj).trans (hfr j hj)
        have hdf2 : rngs c = false → a2.defers = a.defers := fun h => (hl.dframe h).trans (hdf h)
        obtain ⟨t2, hag2, hq⟩ := hl.end_
        cases e with
        | normal =>
          obtain ⟨e3, a3, w3, hl3, harr3⟩ := hq a2 hfr2 hdf2 (ha.joined hag2 hfr2 hdf2)
          exact ⟨e3, a3, w3, hl3, .of_steps (StepsIn.trans harr (.one (fenced_calm hb hr rfl) stepR_inLoop)) harr3⟩
        | exit id => exact ⟨_, a2, w2, ⟨trivial, hfr2, hdf2, t2, hag2, hq⟩, .pass (x := .inLoop c) rfl (fun _ _ => .inl (by simp)) harr⟩
        | ret => exact ⟨_, a2, w2, ⟨trivial, hfr2, hdf2, t2, hag2, hq⟩, .pass (x := .inLoop c) rfl (fun _ _ => .inl (by simp)) harr⟩
        | goto l => exact hl.kind.elim
        | panic c => exact hl.kind.elim
        | outgrown => exact hl.kind.elim)
    obtain ⟨e, a', w', hl, harr⟩ := hI a (fun _ _ => rfl) (fun _ => rfl) (ha.joined (c := c) ha (fun _ _ => rfl) (fun _ => rfl))
    exact ⟨e, a', w', hl, .of_steps (.one (fenced_calm hb hr rfl) stepR_loop) harr⟩

/-! ### A call -/
def getArg (i : Nat) (args : List Value) : Value := nth args i
theorem get_argEnv (args : List Value) : ∀ (k i : Nat), get (argEnv k args) (k + i) = nth args i := by
  induction args with
  | nil => intro k i; rfl
  | cons x r ih =>
    intro k i
    cases i with
    | zero => simp [argEnv, get]
    | succ i =>
      have hb : Nat.beq k (k + (i + 1)) = false := by
        cases hb : Nat.beq k (k + (i + 1)) with
        | false => rfl
        | true => have := Nat.eq_of_beq_eq_true hb; omega
      simp only [argEnv, get, hb, cond_false, nth]
      have := ih (k + 1) i
      rw [← this]
      congr 1
      omega

theorem nth_eq (args : List Value) (m i : Nat) (h : i < args.length + m) : (args.toArray ++ Array.replicate m undef)[i]? = some (nth args i) := by
  have hnth : ∀ (l : List Value) (i : Nat), nth l i = l.getD i undef := by
    intro l
    induction l with
    | nil => intro i; rfl
    | cons x r ih =>
      intro i
      cases i with
      | zero => rfl
      | succ i => simpa using ih i
  rw [hnth]
  by_cases hi : i < args.length
  · rw [Array.getElem?_append_left (by simpa using hi)]
    simp [hi]
  · rw [Array.getElem?_append_right (by simpa using hi)]
    simp only [List.size_toArray, Array.getElem?_replicate]
    rw [if_pos (by omega)]
    simp [hi]

def resOf (tmps : Array Value) : ResultVar → Sem Value
  | .tmp t => pure (tmps.getD t undef)
  | .cell a t => do loadVar t (← asAddr (tmps.getD a undef))
theorem results_eq (fn : Func) (tmps : Array Value) : results fn tmps = (do
    let vs ← fn.results.mapM (resOf tmps)
    pure (if h : vs.size = 1 then vs[0] else .tuple vs)) := by
  unfold results
  congr 1

theorem run_ret1 (a : Act) {t : Env} {n : Nat} {keep : List Nat} (ha : Ag n keep t a) (K : Value → World → Prop) (w : World) : ∀ (rs : List ResultVar) (acc : List Value),
    (∀ x ∈ rs, (match x with | .tmp i => i ∈ keep | .cell i _ => i ∈ keep)) → ret1 t rs acc K P w →
    ∃ vs : List Value, vs.length = rs.length ∧ (rs.mapM (resOf a.tmps)).run P w = .ok vs w ∧ K (match vs.reverse ++ acc with | [x] => x | l => .tuple l.reverse.toArray) w
  | [], acc, _, h => ⟨[], rfl, by simp [Sem.run_pure], h⟩
  | .tmp i :: r, acc, hk, h => by
    obtain ⟨vs, hl, hr, hK⟩ := run_ret1 a ha K w r _ (fun x hx => hk x (List.mem_cons_of_mem _ hx)) h
    have hi : i ∈ keep := hk _ (List.mem_cons_self ..)
    have hat := ha.at_ i hi
    have hres : (resOf a.tmps (.tmp i)).run P w = .ok (get t i) w := by
      simp [resOf, hat, Sem.run_pure]
    refine ⟨get t i :: vs, by simp [hl], ?_, by simpa using hK⟩
    rw [List.mapM_cons, Sem.run_bind, hres, Result.andThen_ok, Sem.run_bind, hr, Result.andThen_ok, Sem.run_pure]
  | .cell i ty :: r, acc, hk, h => by
    obtain ⟨x, hx, h⟩ := h
    obtain ⟨vs, hl, hr, hK⟩ := run_ret1 a ha K w r _ (fun x hx => hk x (List.mem_cons_of_mem _ hx)) h
    have hi : i ∈ keep := hk _ (List.mem_cons_self ..)
    have hat := ha.at_ i hi
    have hres : (resOf a.tmps (.cell i ty)).run P w = .ok x w := by
      have hg : a.tmps.getD i undef = get t i := by simp [hat]
      show ((do loadVar ty (← asAddr (a.tmps.getD i undef)) : Sem Value)).run P w = _
      rw [hg]; exact hx
    refine ⟨x :: vs, by simp [hl], ?_, by simpa using hK⟩
    rw [List.mapM_cons, Sem.run_bind, hres, Result.andThen_ok, Sem.run_bind, hr, Result.andThen_ok, Sem.run_pure]

def chkFn (fn : Func) (c : Code) (keep : List Nat) (orc : List (Nat × Orc)) (nargs : Nat) : Bool :=
  chkCode fn.ntmps keep orc c && keep.all (fun i => Nat.blt i fn.ntmps) && Nat.ble nargs fn.ntmps && Nat.ble fn.ntmps mkS && fn.results.toList.all fun r => match r with
    | .tmp i => has keep i
    | .cell i _ => has keep i

theorem leavesM (fn : Func) (tmps : Array Value) (R : Ending → World → Prop) : ∀ (l : List Nat) (w : World) (k : World → Prop), S.closes l k w → (∀ w', k w' → ∃ v, (results fn tmps).run P w' = .ok v w' ∧ R (.returned v) w') →
    LeavesInM Fence.wide 0 P fn tmps R (l.map markD) .returning w
  | [], w, k, h, hk => hk w h
  | b :: l, w, k, h, hk => ⟨by simp, .inl ⟨b, _, rfl, run_takeDeferred h.1, leavesM fn tmps R l _ k (setO_go h) hk⟩⟩
theorem calls_of_den {ent : Nat → Bool} (hent : chkEnt P ent) (hmix : P.follows .mixedOrders = true) {f : FuncId} {fn : Func} {c : Code} {keep : List Nat} {orc : List (Nat × Orc)} {args : List Value} {K : Value → World → Prop} {w : World}
    (hf : P.funcs[f]? = some fn) (hb : fn.body = some c) (hc : chkFn fn c keep orc args.length = true) (h : denFn P ent orc keep c fn.results.toList args K w) : S.call P f args K w := by
  simp only [chkFn, Bool.and_eq_true, List.all_eq_true] at hc
  obtain ⟨⟨⟨⟨hcode, hkeep⟩, hn⟩, hmk⟩, hres⟩ := hc
  have hmk := Nat.le_of_ble_eq_true hmk
  have hn : args.length ≤ fn.ntmps := Nat.le_of_ble_eq_true hn
  have hsz : (args.toArray ++ Array.replicate (fn.ntmps - args.toArray.size) undef).size = fn.ntmps := by simp; omega
  have ha0 : Ag fn.ntmps keep (norm keep (argEnv 0 args)) { tmps := args.toArray ++ Array.replicate (fn.ntmps - args.toArray.size) undef, defers := [] } := by
    have hout : ∀ (l : List Value) (k i : Nat), k + l.length ≤ i → get (argEnv k l) i = undef := by
      intro l
      induction l with
      | nil => intro k i _; rfl
      | cons x l ih =>
        intro k i h
        simp only [List.length_cons] at h
        have hb : Nat.beq k i = false := by
          cases hb : Nat.beq k i with
          | false => rfl
          | true => have := Nat.eq_of_beq_eq_true hb; omega
        simp only [argEnv, get, hb, cond_false]
        exact ih (k + 1) i (by omega)
    refine Ag.norm ⟨hsz, hmk, by rw [hout args 0 mkS (by rw [Nat.zero_add]; exact Nat.le_trans hn hmk)]; simp [marksOf, marksL, undef], fun i hi => ?_⟩
    have hlt : i < fn.ntmps := Nat.lt_of_succ_le (by simpa [Nat.blt] using hkeep i hi)
    have := get_argEnv args 0 i
    rw [Nat.zero_add] at this
    rw [this]
    exact nth_eq args _ i (by simp; omega)
  refine callsIn_wide.1 (callsIn_of_wp_marks (F := Fence.wide) (n := 0) hf hb trivial (wpIn_mono (den_sound hent hmix c none (.inl rfl) hcode _ _ _ w ha0 h) ?_))
  intro e a w0 hl
  obtain ⟨t, hag, hq⟩ := hl.end_
  have hfin : ∀ w', ret1 t fn.results.toList [] K P w' → ∃ v, (results fn a.tmps).run P w' = .ok v w' ∧ retP K (.returned v) w' := fun w' hr => by
    obtain ⟨vs, hlen, hrun, hK⟩ := run_ret1 a hag K w' fn.results.toList [] (fun x hx => by
      have := hres x hx
      cases x <;> exact has_mem.1 this) hr
    refine ⟨_, ?_, hK⟩
    rw [results_eq]
    have hm : (fn.results.mapM (resOf a.tmps)).run P w' = .ok vs.toArray w' := by
      rw [Array.mapM_eq_mapM_toList, map_eq_pure_bind, Sem.run_bind, hrun]
      rfl
    rw [Sem.run_bind, hm, Result.andThen_ok, Sem.run_pure]
    simp only [List.append_nil]
    congr 1
    match vs with
    | [] => rfl
    | [x] => rfl
    | x :: y :: r =>
      simp only [List.size_toArray, List.length_cons]
      rw [dif_neg (by omega)]
      have hne : ∀ (l : List Value), 2 ≤ l.length → (match l with | [x] => x | l => Value.tuple l.reverse.toArray) = .tuple l.reverse.toArray := fun l hl => by
        match l, hl with
        | a :: b :: c, _ => rfl
      rw [hne _ (by simp)]
      simp
  cases e with
  | normal =>
    show LeavesInM _ _ P fn a.tmps _ a.defers .returning w0
    rw [hag.defers]
    exact leavesM fn a.tmps _ _ w0 _ hq hfin
  | ret =>
    show LeavesInM _ _ P fn a.tmps _ a.defers .returning w0
    rw [hag.defers]
    exact leavesM fn a.tmps _ _ w0 _ hq hfin
  | exit id => exact hq.elim
  | goto l => exact hl.kind.elim
  | panic c => exact hl.kind.elim
  | outgrown => exact hl.kind.elim
end
end Go.Fw
