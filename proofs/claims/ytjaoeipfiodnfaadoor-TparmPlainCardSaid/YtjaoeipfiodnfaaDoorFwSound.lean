import Derived.Test.YtjaoeipfiodnfaaDoorFwCore
namespace Go.Fw
section
variable {P : Program}

/-! ### An operation -/
def chkEnt (P : Program) (ent : Nat → Bool) : Prop := ∀ f, ent f = true → ∃ fn, P.funcs[f]? = some fn ∧ fn.name ≠ "runtime.NumGoroutine" ∧ fn.body.isSome = true

theorem run_callFunc (f : Nat) (args : Array Value) (w : World) {fn : Func} (h : P.funcs[f]? = some fn) (hn : fn.name ≠ "runtime.NumGoroutine") (hb : fn.body.isSome = true) :
    (callFunc f args).run P w = .ok (.enter f args) w := by
  unfold callFunc
  have hb' : fn.body ≠ none := by intro e; rw [e] at hb; cases hb
  simp [program, Bind.bind, Sem.bind, Sem.run, h, hn, Pure.pure, hb']

theorem map_argsL (t : Env) (xs : Array Operand) : (argsL t xs).toArray = xs.map (ev t) := by
  apply Array.ext'
  simp [argsL]

theorem map_partsE (t : Env) (ps : Array (Nat × Operand)) : partsE t ps = ps.map fun (i, x) => (i, ev t x) := by
  apply Array.ext'
  simp [partsE]

theorem optE_map (t : Env) (x : Option Operand) : optE t x = x.map (ev t) := by cases x <;> rfl

/-- What 'vSem' says is what the machine does. -/
theorem vSem_exec {t : Env} {o : Oper} {s : Sem Value} (h : vSem t o = some s) {w : World} {x : Value} {w' : World} (hr : s.run P w = .ok x w') :
    (execOp (ev t) o).run P w = .ok (.value x) w' := by
  obtain ⟨dst, op, type, pos, after, guard⟩ := o
  cases op <;> simp only [vSem] at h
  case nilCheck y =>
    injection h with h; subst h
    simp only [execOp]
    cases hy : ev t y with
    | pointer a =>
      cases a with
      | none => rw [hy] at hr; simp [S.nilC, stuck] at hr
      | some a =>
        rw [hy] at hr
        simp only [S.nilC, pure, Sem.run] at hr ⊢
        simpa using hr
    | _ => rw [hy] at hr; simp [S.nilC, stuck] at hr
  case call c =>
    obtain ⟨callee, args, ats⟩ := c
    cases callee with
    | value f => simp at h
    | invoke r m => simp at h
    | builtin b =>
      cases b <;> simp only [reduceCtorEq] at h <;>
      · injection h with h; subst h
        simp only [execOp, resolve, invoke, builtin, Sem.run_bind, Sem.run_pure, Result.andThen_ok]
        rw [← map_argsL, hr]; rfl
  all_goals first
    | (injection h with h; subst h
       simp only [execOp, S.bin, map_partsE, optE_map, map_argsL] at hr ⊢
       simp only [Sem.run_bind, Sem.run_pure, Result.andThen_ok, hr] at hr ⊢
       first | done | (rw [hr]; rfl))
    | (exact absurd h (by simp))

/-- The machine's frame 'a' holds, at the places of 'L', what 't' says. -/
def markD (b : Nat) : Deferred := { target := .collected b, args := #[] }
structure Ag (n : Nat) (L : List Nat) (t : Env) (a : Act) : Prop where
  size : a.tmps.size = n
  le : n ≤ mkS
  defers : a.defers = (marksOf (get t mkS)).map markD
  at_ : ∀ i, i ∈ L → a.tmps[i]? = some (get t i)

theorem Ag.eval {n : Nat} {L : List Nat} {t : Env} {a : Act} (h : Ag n L t a) (x : Operand) (hx : ∀ i, x = .tmp i → i ∈ L) : a.eval x = ev t x := by
  cases x with
  | tmp i =>
    have := h.at_ i (hx i rfl)
    simp only [Act.eval, ev, Array.getD_eq_getD_getElem?, this, Option.getD_some]
  | _ => rfl

theorem get_put_same (t : Env) (d : Nat) (v : Value) : get (put t (some d) v) d = v := by
  simp [put, get]
theorem get_put_other (t : Env) (d i : Nat) (v : Value) (h : i ≠ d) : get (put t (some d) v) i = get t i := by
  have : Nat.beq d i = false := by
    cases hb : Nat.beq d i with
    | false => rfl
    | true => exact absurd (Nat.eq_of_beq_eq_true hb).symm h
  simp [put, get, this]

def addD (d : Option Tmp) (L : List Nat) : List Nat :=
  match d with
  | some d => d :: L
  | none => L

theorem Ag.put {n : Nat} {L : List Nat} {t : Env} {a : Act} (h : Ag n L t a) (d : Option Tmp) (hd : ∀ i, d = some i → i < n) (v : Value) :
    Ag n (addD d L) (put t d v) (a.put d v) := by
  cases d with
  | none => exact h
  | some d =>
    have hdm : mkS ≠ d := fun e => absurd (Nat.lt_of_lt_of_le (hd d rfl) h.le) (by rw [← e]; exact Nat.lt_irrefl _)
    refine ⟨by simp [Act.put, h.size], h.le, by rw [get_put_other _ _ _ _ hdm]; exact h.defers, fun i hi => ?_⟩
    by_cases hid : i = d
    · subst hid
      have : i < a.tmps.size := by rw [h.size]; exact hd i rfl
      rw [get_put_same]
      simp [Act.put, this]
    · have hi' : i ∈ L := by
        cases hi with
        | head => exact absurd rfl hid
        | tail _ hm => exact hm
      rw [get_put_other _ _ _ _ hid, ← h.at_ i hi']
      simp [Act.put, Array.getElem?_setIfInBounds_ne (Ne.symm hid)]

theorem Ag.looks {n : Nat} {L : List Nat} {t : Env} {a : Act} {ops : Array Oper} {o : Oper} (h : Ag n L t a) (hl : ∀ i, i ∈ o.looksAt ops → i ∈ L) :
    ∀ x ∈ o.op.operands, a.eval x = ev t x := fun x hx => h.eval x fun i hi => hl i (by
      subst hi
      exact List.mem_append_left _ (List.mem_filterMap.2 ⟨.tmp i, by simpa using hx, rfl⟩))

theorem Ag.wanted {n : Nat} {L : List Nat} {t : Env} {a : Act} {ops : Array Oper} {o : Oper} (h : Ag n L t a) (hl : ∀ i, i ∈ o.looksAt ops → i ∈ L) :
    Region.wanted o (yielded ops a.tmps) = wantedE ops.toList t o := by
  unfold Region.wanted wantedE
  cases hg : o.guard with
  | none => rfl
  | some g =>
    obtain ⟨j, want⟩ := g
    simp only [Array.getElem?_toList]
    cases hj : ops[j]? with
    | none => simp [yielded, hj]
    | some oj =>
      cases hd : oj.dst with
      | none => simp [yielded, hj, hd]
      | some d =>
        have hin : d ∈ L := hl d (List.mem_append_right _ (by simp [hg, hj, hd]))
        have hat := h.at_ d hin
        simp only [yielded, hj, Option.bind_some, hd, hat]
        cases get t d <;> simp <;> (cases want <;> simp)

def okOp (o : Oper) : Bool :=
  match o.op with
  | .select _ _ => false
  | .defer _ => false
  | _ => true

theorem okOp_sel {o : Oper} (h : okOp o = true) : ∀ cs b, o.op ≠ .select cs b := fun cs b e => by simp [okOp, e] at h

/-- The fence that lets all in; of an activation, or of a round. -/
def WF (r : Option Nat) : Fence := { Fence.wide with round := r }
theorem callsIn_WF {r : Option Nat} {m : Nat} {f : FuncId} {args : Array Value} {w : World} {R : Ending → World → Prop} (h : Calls P f args w R) : CallsIn (WF r) m P f args w R :=
  (callsIn_wide (n := m)).2 h
theorem roundIn_WF {r : Option Nat} {m l : Nat} {f : FuncId} {tmps : Array Value} {assign body : Code} {w : World} {R : Ending → World → Prop} (h : RoundIn Fence.wide 0 P l f tmps assign body w R) : RoundIn (WF r) m P l f tmps assign body w R :=
  ⟨trivial, fun c cs _ => h.2 c cs (room_wide _)⟩
theorem depth_WF {r : Option Nat} {m : Nat} : (WF r).depth.isSome = true → 1 ≤ m := fun h => by cases h
theorem okOp_defer {o : Oper} (h : okOp o = true) : ∀ c, o.op ≠ .defer c := fun c e => by simp [okOp, e] at h
theorem wpIn_of_run {r : Option Nat} {m : Nat} {o : Oper} (hok : okOp o = true) {a : Act} {w : World} {next : Act → World → Prop} {Q : Exit → Act → World → Prop}
    (h : o.uponIn (WF r) m P a next Q ((execOp a.eval o).run P w)) : o.wpIn (WF r) m P a w next Q :=
  ⟨fun _ _ => trivial, by rw [Oper.semAt_eq _ _ _ (okOp_defer hok)]; exact h⟩

theorem dOp_sound {ent : Nat → Bool} (hent : chkEnt P ent) {r : Option Nat} {m : Nat} {t : Env} {a : Act} {o : Oper} (hok : okOp o = true) {K : Value → World → Prop} {w : World}
    (he : execOp a.eval o = execOp (ev t) o) (h : dOp P ent t o K w) {next : Act → World → Prop} {Q : Exit → Act → World → Prop}
    (hK : ∀ x w', K x w' → next (a.put o.dst x) w') : o.wpIn (WF r) m P a w next Q := by
  have hcall : ∀ {f : Nat} {args : Array Value} {w' : World}, Calls P f args w' (retP K) → o.uponIn (WF r) m P a next Q (.ok (.enter f args) w') := fun {f args w'} hc => by
    rw [Oper.uponIn_enter]
    refine ⟨depth_WF, callsIn_WF (hc.mono fun e w'' hr => ?_)⟩
    cases e with
    | returned x => exact hK x w'' hr
    | panicked c => exact hr.elim
    | outgrown => exact hr.elim
  have hround : ∀ {l : Nat} {f : FuncId} {tmps : Array Value} {assign body : Code} {w' : World}, RoundIn Fence.wide 0 P l f tmps assign body w' (retP K) → o.uponIn (WF r) m P a next Q (.ok (.round l f tmps assign body) w') := fun {l f tmps assign body w'} hc => by
    rw [Oper.uponIn_round]
    refine ⟨depth_WF, roundIn_WF (hc.mono fun e w'' hr => ?_)⟩
    cases e with
    | returned x => exact hK x w'' hr
    | panicked c => exact hr.elim
    | outgrown => exact hr.elim
  have hv : ∀ {s : Sem Value}, vSem t o = some s → S.v P s K w → o.wpIn (WF r) m P a w next Q := fun {s} hs hr => by
    refine wpIn_of_run hok ?_
    rw [he]
    unfold S.v at hr
    cases hrun : s.run P w with
    | ok x w' =>
      rw [hrun] at hr
      rw [vSem_exec hs hrun]
      exact hK x w' hr
    | halt x w' => rw [hrun] at hr; exact hr.elim
  have hnx : S.nx P (execOp (ev t) o) K w → o.wpIn (WF r) m P a w next Q := fun hr => by
    refine wpIn_of_run hok ?_
    rw [he]
    unfold S.nx at hr
    generalize (execOp (ev t) o).run P w = r at hr ⊢
    cases r with
    | halt x w' => exact hr.elim
    | ok n w' =>
      cases n <;> first
        | exact hK _ _ hr
        | exact hcall hr
        | exact hround hr
        | exact hr.elim
  have hdef : (match vSem t o with
      | some s => S.v P s K w
      | none => S.nx P (execOp (ev t) o) K w) → o.wpIn (WF r) m P a w next Q := fun hr => by
    cases hs : vSem t o with
    | none => rw [hs] at hr; exact hnx hr
    | some s => rw [hs] at hr; exact hv hs hr
  obtain ⟨dst, op, type, pos, after, guard⟩ := o
  cases op <;> simp only [dOp] at h <;> first
    | exact hdef h
    | skip
  case pick c x y =>
    refine wpIn_of_run hok ?_; rw [he]
    simp only [execOp]
    cases hc : ev t c with
    | bool b =>
      rw [hc] at h
      simp only [asBool, Sem.run_bind, Sem.run_pure, Result.andThen_ok, Oper.uponIn_value]
      cases b
      · exact hK _ _ h
      · exact hK _ _ h
    | _ => rw [hc] at h; exact h.elim
  case store ty x y =>
    refine wpIn_of_run hok ?_; rw [he]
    simp only [execOp]
    unfold S.u at h
    cases hr : (Instr.storeAt ty (ev t x) (ev t y)).run P w with
    | ok q w' =>
      rw [hr] at h
      simp only [Sem.run_bind, hr, Sem.run_pure, Result.andThen_ok, Oper.uponIn_skip]
      exact hK _ _ h
    | halt q w' => rw [hr] at h; exact h.elim
  case mapUpdate ty m k x =>
    refine wpIn_of_run hok ?_; rw [he]
    simp only [execOp]
    unfold S.u at h
    cases hr : (Instr.mapUpdate ty (ev t m) (ev t k) (ev t x)).run P w with
    | ok q w' =>
      rw [hr] at h
      simp only [Sem.run_bind, hr, Sem.run_pure, Result.andThen_ok, Oper.uponIn_skip]
      exact hK _ _ h
    | halt q w' => rw [hr] at h; exact h.elim
  case insert ty m k x =>
    refine wpIn_of_run hok ?_; rw [he]
    simp only [execOp]
    unfold S.u at h
    cases hr : (Instr.mapUpdate ty (ev t m) (ev t k) (ev t x)).run P w with
    | ok q w' =>
      rw [hr] at h
      simp only [Sem.run_bind, hr, Sem.run_pure, Result.andThen_ok, Oper.uponIn_skip]
      exact hK _ _ h
    | halt q w' => rw [hr] at h; exact h.elim
  case call c =>
    obtain ⟨callee, args, ats⟩ := c
    have hvalue : ∀ x, callee = .value x → S.nx P (S.callV (ev t x) (argsL t args)) K w → Oper.wpIn (WF r) m P { dst, op := .call { callee, args, argTypes := ats }, type, pos, after, guard } a w next Q := fun x hx hr => by
      subst hx
      refine hnx ?_
      simpa only [execOp, resolve, S.callV, map_argsL] using hr
    cases callee with
    | invoke r m => exact hdef h
    | builtin b => exact hdef h
    | value x =>
      cases x with
      | func f =>
        simp only at h
        have hex : execOp (ev t) { dst, op := .call { callee := .value (.func f), args, argTypes := ats }, type, pos, after, guard } = callFunc f (argsL t args).toArray := by
          simp [execOp, resolve, ev, Deferred.ofValue, invoke, map_argsL]
        cases hf : ent f with
        | false =>
          rw [hf] at h
          refine hnx ?_
          rw [hex]
          exact h
        | true =>
          rw [hf] at h
          obtain ⟨fn, h1, h2, h3⟩ := hent f hf
          refine wpIn_of_run hok ?_
          rw [he, hex, run_callFunc f _ w h1 h2 h3]
          exact hcall h
      | _ => exact hvalue _ rfl h
end
end Go.Fw
