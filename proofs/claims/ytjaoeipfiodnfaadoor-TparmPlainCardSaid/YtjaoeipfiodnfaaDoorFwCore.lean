/- A second way to walk a function's text: a plain predicate 'den' that follows the code, and the proof that it is enough for the machine's call. -/
import Derived.OrdersHeld
import Derived.Tactics
import Derived.Scope
import Derived.KernelRfl
import Derived.Eval
import Derived.RangeFuncRecord
import Derived.OrdersIn
import Derived.TacticsIn
namespace Go.Fw

/-! ### What has turned -/
/-- From w to w' the blocks of L alone have turned, and new ones have come. -/
structure Ch (L : List Nat) (w w' : World) : Prop where
  os : w'.os = w.os
  tape : w'.tape = w.tape
  output : w'.output = w.output
  size : w.heap.size ≤ w'.heap.size
  block : ∀ k, k < w.heap.size → k ∉ L → w'.heap[k]? = w.heap[k]?

abbrev Env := List (Nat × Value)
def get : Env → Nat → Value
  | [], _ => undef
  | (j, v) :: r, i => bif Nat.beq j i then v else get r i
def ev (t : Env) : Operand → Value
  | .tmp i => get t i
  | .const v => v
  | .global g => .pointer (some ⟨g, 0, none⟩)
  | .func f => .func (.func f) #[] #[]
def put (t : Env) (d : Option Tmp) (v : Value) : Env :=
  match d with
  | some d => (d, v) :: t
  | none => t
/-- The slot that bears the marks which ranges over functions have left. -/
def mkS : Nat := 1000000
def norm (keep : List Nat) (t : Env) : Env := (mkS, get t mkS) :: keep.map fun i => (i, get t i)
def marksL : Value → List Value
  | .tuple vs => vs.toList
  | _ => []
def markN : Value → Nat
  | .pointer (some a) => a.block
  | _ => 0
def marksOf (v : Value) : List Nat := (marksL v).map markN
def addMark (b : Nat) (v : Value) : Value := .tuple (Value.pointer (some ⟨b, 0, none⟩) :: marksL v).toArray
def nth : List Value → Nat → Value
  | [], _ => undef
  | x :: _, 0 => x
  | _ :: r, i + 1 => nth r i
@[simp] theorem nth_zero (x : Value) (r : List Value) : nth (x :: r) 0 = x := rfl
@[simp] theorem nth_succ (x : Value) (r : List Value) (i : Nat) : nth (x :: r) (i + 1) = nth r i := rfl
def readL (M : List Nat) (t : Env) : List Value := M.map (get t)
def setLk : Nat → List Nat → List Value → Env → Env
  | _, [], _, t => t
  | k, m :: r, vs, t => (m, nth vs k) :: setLk (k + 1) r vs t
def setL (M : List Nat) (vs : List Value) (t : Env) : Env := setLk 0 M vs t
def allV : Nat → (List Value → Prop) → Prop
  | 0, Q => Q []
  | n + 1, Q => ∀ x, allV n fun l => Q (x :: l)
def br (v : Value) (A B : Prop) : Prop :=
  match v with
  | .bool true => A
  | .bool false => B
  | _ => False
def retP (K : Value → World → Prop) : Ending → World → Prop
  | .returned v, w => K v w
  | _, _ => False
namespace S
def v (P : Program) (s : Sem Value) (K : Value → World → Prop) (w : World) : Prop :=
  match s.run P w with
  | .ok x w' => K x w'
  | .halt _ _ => False
def u (P : Program) (s : Sem Unit) (K : World → Prop) (w : World) : Prop :=
  match s.run P w with
  | .ok _ w' => K w'
  | .halt _ _ => False
def p (P : Program) (s : Sem Value) (K : Value → World → Prop) (w : World) : Prop := ∃ x, s.run P w = .ok x w ∧ K x w
def h (P : Program) (I : World → Prop) (s : Sem Value) (K : Value → World → Prop) (w : World) : Prop := ∃ x, (∀ w', I w' → s.run P w' = .ok x w') ∧ K x w
def call (P : Program) (f : FuncId) (args : List Value) (K : Value → World → Prop) (w : World) : Prop := Calls P f args.toArray w (retP K)
def nx (P : Program) (s : Sem Next) (K : Value → World → Prop) (w : World) : Prop :=
  match s.run P w with
  | .ok (.value x) w' => K x w'
  | .ok .skip w' => K undef w'
  | .ok (.enter f args) w' => Calls P f args w' (retP K)
  | .ok (.round l f tmps assign body) w' => RoundIn Fence.wide 0 P l f tmps assign body w' (retP K)
  | _ => False
def seq (k : List Value → World → Prop) (f : (List Value → World → Prop) → Prop) : Prop := f k
def loop (C : (List Value → World → Prop) → Prop) (s : List Value) (w : World) : Prop := ∀ I : List Value → World → Prop, C I → I s w
/-- The world behind the draw of an order. -/
def drawn (F : World → Prop) (w : World) : Prop := F { w with drawn := w.drawn + 1 }
def nilC : Value → Sem Value
  | .pointer (some a) => pure (.pointer (some a))
  | _ => stuck "nil"
def bin (op : BinOp) (ty : TypeId) (x y : Operand) (a b : Value) : Sem Value := do eqGuard op ty x y a b; binOp op ty a b
def callV (f : Value) (args : List Value) : Sem Next := do let d ← Deferred.ofValue f args.toArray; invoke d.target d.args
/-- A result that lies in a variable. -/
def ldR (ty : TypeId) (a : Value) : Sem Value := do loadVar ty (← asAddr a)
/-- A block turns from one thing into another. -/
def setO (l : Nat) (old new : Obj) (K : World → Prop) (w : World) : Prop := w.heap[l]? = some old ∧ ∀ w', w'.heap[l]? = some new → Ch [l] w w' → w'.heap.size = w.heap.size → K w'
/-- A function value is called that is a function's. -/
def ent (P : Program) (f : Value) (args : List Value) (K : Value → World → Prop) (w : World) : Prop :=
  match (S.callV f args).run P w with
  | .ok (.enter g xs) w' => Calls P g xs w' (retP K)
  | _ => False
def fin (nrm rt : World → Prop) : Option Code → World → Prop
  | none, w => nrm w
  | some .ret, w => rt w
  | _, _ => False
/-- A range over a function. -/
def rng (P : Program) (g : Value) (np : Nat) (rnd : ((World → Prop) → World → Prop) → (Option Code → World → Prop) → List Value → World → Prop) (nrm rt : Nat → World → Prop) (w : World) : Prop :=
  ∀ (yv : Value) (Rj : Option Code → Obj) (Rb : Obj) (Rx : Option Code → Obj) (w1 : World), w1.heap[w.heap.size]? = some (.deferred (some [])) → w1.heap[w.heap.size + 1]? = some (Rj none) → Ch [] w w1 → w1.heap.size = w.heap.size + 2 →
    (∀ args K w2, args.length = np → w2.heap[w.heap.size + 1]? = some (Rj none) → rnd (setO (w.heap.size + 1) (Rj none) Rb) (fun j => setO (w.heap.size + 1) Rb (Rj j) (fun w' => K (.bool j.isNone) w')) args w2 → S.nx P (S.callV yv args) K w2) →
    S.ent P g [yv] (fun _ w5 => ∃ j, setO (w.heap.size + 1) (Rj j) (Rx j) (fin (nrm w.heap.size) (rt w.heap.size) j) w5) w1
/-- The marks' blocks are shut. -/
def closes : List Nat → (World → Prop) → World → Prop
  | [], k, w => k w
  | b :: r, k, w => setO b (.deferred (some [])) (.deferred none) (closes r k) w
end S

def argsL (t : Env) (xs : Array Operand) : List Value := xs.toList.map (ev t)
def optE (t : Env) (x : Option Operand) : Option Value :=
  match x with
  | some y => some (ev t y)
  | none => none
def partsE (t : Env) (ps : Array (Nat × Operand)) : Array (Nat × Value) := (ps.toList.map fun p => (p.1, ev t p.2)).toArray

/-- The operations that leave a value: the machine's own word for each. -/
def vSem (t : Env) (o : Oper) : Option (Sem Value) :=
  match o.op with
  | .alloc e => some (Instr.alloc e true (.tuple #[]))
  | .box e x => some (Instr.box e (ev t x))
  | .build ty ps => some (Instr.build ty (partsE t ps))
  | .buildSlice ty n ps => some (Instr.buildSlice ty n (partsE t ps))
  | .load ty x => some (Instr.loadAt ty (ev t x))
  | .nilCheck x => some (S.nilC (ev t x))
  | .binOp op ty x y _ => some (S.bin op ty x y (ev t x) (ev t y))
  | .unOp op _ x => some (Op.unary op (ev t x))
  | .convert s d x => some (Go.convert s d (ev t x))
  | .makeInterface ty x => some (Instr.makeInterface ty (ev t x))
  | .makeMap ty r => some (Instr.makeMap ty (optE t r))
  | .makeSlice ty l c => some (Instr.makeSlice ty (ev t l) (ev t c))
  | .slice ty x lo hi mx => some (Instr.sliceAt ty (ev t x) (optE t lo) (optE t hi) (optE t mx))
  | .fieldAddr s x f => some (Instr.fieldAt s (ev t x) f)
  | .field ty x f => some (Instr.field ty (ev t x) f)
  | .indexAddr ty x i => some (Instr.indexAt ty (ev t x) (ev t i))
  | .index ty x i => some (Instr.index ty (ev t x) (ev t i))
  | .lookup ty x i ok => some (Instr.lookup ty (ev t x) (ev t i) ok)
  | .range ty x => some (Instr.range ty (ev t x))
  | .next it s => some (Instr.next (ev t it) s o.type)
  | .entry it => some (Instr.entry (ev t it))
  | .extract x i => some (Instr.extract (ev t x) i)
  | .panic x => some (Instr.panic (ev t x))
  | .typeAssert x ty asserted ok => some (Instr.typeAssert (ev t x) ty asserted ok)
  | .makeFunc fn first cap => some (Instr.makeFunc fn (argsL t first).toArray (argsL t cap).toArray)
  | .mapEntry ty m k => some (Instr.mapEntry ty (ev t m) (ev t k))
  | .call c => match c.callee with
    | .builtin .append => some (Builtin.append_ c.argTypes o.type (argsL t c.args).toArray)
    | .builtin .len => some (Builtin.len_ c.argTypes o.type (argsL t c.args).toArray)
    | .builtin .cap => some (Builtin.cap_ c.argTypes o.type (argsL t c.args).toArray)
    | .builtin .copy => some (Builtin.copy_ c.argTypes o.type (argsL t c.args).toArray)
    | .builtin .max => some (Builtin.max_ c.argTypes o.type (argsL t c.args).toArray)
    | .builtin .min => some (Builtin.min_ c.argTypes o.type (argsL t c.args).toArray)
    | .builtin .clear => some (Builtin.clear_ c.argTypes o.type (argsL t c.args).toArray)
    | .builtin .delete => some (Builtin.delete_ c.argTypes o.type (argsL t c.args).toArray)
    | .builtin .unsafeSliceData => some (Builtin.unsafeSliceData_ c.argTypes o.type (argsL t c.args).toArray)
    | .builtin .unsafeString => some (Builtin.unsafeString_ c.argTypes o.type (argsL t c.args).toArray)
    | _ => none
  | _ => none

def dOp (P : Program) (ent : Nat → Bool) (t : Env) (o : Oper) (K : Value → World → Prop) (w : World) : Prop :=
  match o.op with
  | .move x => K (ev t x) w
  | .assign x => K (ev t x) w
  | .pick c x y => br (ev t c) (K (ev t x) w) (K (ev t y) w)
  | .store ty x y => S.u P (Instr.storeAt ty (ev t x) (ev t y)) (K undef) w
  | .mapUpdate ty m k x => S.u P (Instr.mapUpdate ty (ev t m) (ev t k) (ev t x)) (K undef) w
  | .insert ty m k x => S.u P (Instr.mapUpdate ty (ev t m) (ev t k) (ev t x)) (K undef) w
  | .call c => match c.callee with
    | .value (.func f) => match ent f with
      | true => S.call P f (argsL t c.args) K w
      | false => S.nx P (callFunc f (argsL t c.args).toArray) K w
    | .value x => S.nx P (S.callV (ev t x) (argsL t c.args)) K w
    | _ => match vSem t o with
      | some s => S.v P s K w
      | none => S.nx P (execOp (ev t) o) K w
  | _ => match vSem t o with
    | some s => S.v P s K w
    | none => S.nx P (execOp (ev t) o) K w

def isG (ops : List Oper) (j : Nat) : Bool := ops.any fun o => match o.guard with
  | some (k, _) => Nat.beq k j
  | none => false
def wantedE (ops : List Oper) (t : Env) (o : Oper) : Bool :=
  match o.guard with
  | none => true
  | some (j, want) => match ops[j]? with
    | some oj => match oj.dst with
      | some d => match get t d with
        | .bool b => match want with
          | true => b
          | false => !b
        | _ => false
      | none => false
    | none => false
def step1 (g : Bool) (x : Value) (K : Value → World → Prop) (w : World) : Prop :=
  match g with
  | true => br x (K (.bool true) w) (K (.bool false) w)
  | false => K x w
/-- A region's operations in the text's order; 'i': the number of the first of the list. -/
def dL (P : Program) (ent : Nat → Bool) (ops : List Oper) : Nat → List Oper → (Env → World → Prop) → Env → World → Prop
  | _, [], K, t, w => K t w
  | i, o :: l, K, t, w => match wantedE ops t o with
    | true => dOp P ent t o (fun x w' => step1 (isG ops i) x (fun y w'' => dL P ent ops (i + 1) l K (put t o.dst y) w'') w') w
    | false => dL P ent ops (i + 1) l K (put t o.dst undef) w

def ret1 (t : Env) : List ResultVar → List Value → (Value → World → Prop) → Program → World → Prop
  | [], acc, K, _, w => K (match acc with | [x] => x | l => .tuple l.reverse.toArray) w
  | .tmp x :: r, acc, K, P, w => ret1 t r (get t x :: acc) K P w
  | .cell a ty :: r, acc, K, P, w => S.p P (S.ldR ty (get t a)) (fun x w' => ret1 t r (x :: acc) K P w') w
def retQ (P : Program) (rs : List ResultVar) (K : Value → World → Prop) : Exit → Env → World → Prop
  | .normal, t, w => S.closes (marksOf (get t mkS)) (fun w' => ret1 t rs [] K P w') w
  | .ret, t, w => S.closes (marksOf (get t mkS)) (fun w' => ret1 t rs [] K P w') w
  | _, _, _ => False
def failE : Exit → Env → World → Prop := fun _ _ _ => False
def roundE (done : Option Code → World → Prop) : Exit → Env → World → Prop
  | .normal, _, w => done none w
  | .ret, _, w => done (some .ret) w
  | _, _, _ => False

/-! ### A region whose order is drawn -/
/-- The orders in which a region's operations are followed: 'step i true': number i is taken now, whenever it may come up; 'step i false': it alone may come up; 'fork': several may. -/
inductive Ord where
  | fin
  | step (i : Nat) (tk : Bool) (r : Ord)
  | fork (a b : Ord)
def Ord.forks : Ord → Bool
  | .fin => false
  | .step _ _ r => r.forks
  | .fork _ _ => true
structure Orc where
  ord : Ord
  flags : List Nat
  held : Bool
  init : Bool
  pre : List (Nat × Bool) := []
def orcOf : List (Nat × Orc) → Nat → Option Orc
  | [], _ => none
  | (j, o) :: r, i => bif Nat.beq j i then some o else orcOf r i
def has : List Nat → Nat → Bool
  | [], _ => false
  | j :: r, i => bif Nat.beq j i then true else has r i
def tV (P : Program) (hold : Option (World → Prop)) (s : Sem Value) (K : Value → World → Prop) (w : World) : Prop :=
  match hold with
  | none => S.p P s K w
  | some I => S.h P I s K w
def tOp (P : Program) (hold : Option (World → Prop)) (t : Env) (o : Oper) (K : Value → World → Prop) (w : World) : Prop :=
  match o.op with
  | .move x => K (ev t x) w
  | .assign x => K (ev t x) w
  | .pick c x y => br (ev t c) (K (ev t x) w) (K (ev t y) w)
  | _ => match vSem t o with
    | some s => tV P hold s K w
    | none => False
def keepI (hold : Option (World → Prop)) (flag : Bool) (w : World) (X : Prop) : Prop :=
  match hold, flag with
  | some I, true => I w ∧ X
  | _, _ => X
def initI (b : Bool) (I : World → Prop) (w : World) : Prop :=
  match b with
  | true => I w
  | false => True
def dD (P : Program) (ent : Nat → Bool) (ops : List Oper) (hold : Option (World → Prop)) (flags : List Nat) : Ord → (Env → World → Prop) → Env → World → Prop
  | .fin, K, t, w => K t w
  | .fork a b, K, t, w => dD P ent ops hold flags a K t w ∧ dD P ent ops hold flags b K t w
  | .step i tk l, K, t, w => match ops[i]? with
    | none => False
    | some o => match wantedE ops t o with
      | false => dD P ent ops hold flags l K (put t o.dst undef) w
      | true => match tk with
        | true => tOp P hold t o (fun x w' => step1 (isG ops i) x (fun y w'' => dD P ent ops hold flags l K (put t o.dst y) w'') w') w
        | false => dOp P ent t o (fun x w' => keepI hold (has flags i) w' (step1 (isG ops i) x (fun y w'' => dD P ent ops hold flags l K (put t o.dst y) w'') w')) w

/-- What comes up ahead of all that is held. -/
def dPre (P : Program) (ent : Nat → Bool) (ops : List Oper) : List (Nat × Bool) → (Env → World → Prop) → Env → World → Prop
  | [], K, t, w => K t w
  | (i, tk) :: l, K, t, w => match ops[i]? with
    | none => False
    | some o => match wantedE ops t o with
      | false => dPre P ent ops l K (put t o.dst undef) w
      | true => match tk with
        | true => tOp P none t o (fun x w' => step1 (isG ops i) x (fun y w'' => dPre P ent ops l K (put t o.dst y) w'') w') w
        | false => dOp P ent t o (fun x w' => step1 (isG ops i) x (fun y w'' => dPre P ent ops l K (put t o.dst y) w'') w') w

/-! ### The code -/
def writes : Code → List Nat
  | .region _ ops _ => ops.toList.filterMap (·.dst)
  | .seq a b => writes a ++ writes b
  | .cond _ a b => writes a ++ writes b
  | .block _ c => writes c
  | .loop c => writes c
  | .scope c => writes c
  | _ => []
/-- Does it range over a function? -/
def rngs : Code → Bool
  | .seq a b => rngs a || rngs b
  | .cond _ a b => rngs a || rngs b
  | .block _ c => rngs c
  | .loop c => rngs c
  | .scope c => rngs c
  | .rangeFunc _ _ _ _ => true
  | _ => false
def mods (keep : List Nat) (c : Code) : List Nat :=
  match rngs c with
  | true => mkS :: (let W := writes c; keep.filter (has W))
  | false => let W := writes c; keep.filter (has W)
def cntX : Code → Nat → Nat
  | .seq a b, id => cntX a id + cntX b id
  | .cond _ a b, id => cntX a id + cntX b id
  | .block i c, id => match Nat.beq i id with
    | true => 0
    | false => cntX c id
  | .loop c, id => cntX c id
  | .scope c, id => cntX c id
  | .exit i, id => match Nat.beq i id with
    | true => 1
    | false => 0
  | _, _ => 0
def cntN (orc : List (Nat × Orc)) : Code → Nat
  | .skip => 1
  | .label _ => 1
  | .region id _ draw => match draw with
    | false => 1
    | true => match orcOf orc id with
      | none => 1
      | some o => match o.ord.forks with
        | true => 2
        | false => 1
  | .seq a b => match Nat.ble (cntN orc a) 1 with
    | true => cntN orc a * cntN orc b
    | false => cntN orc b
  | .cond _ a b => cntN orc a + cntN orc b
  | .block i c => cntN orc c + cntX c i
  | .scope c => cntN orc c
  | .rangeFunc _ _ _ _ => 1
  | _ => 0
def direct (orc : List (Nat × Orc)) (a : Code) : Bool := Nat.ble (cntN orc a) 1
abbrev Qd := Exit → Env → World → Prop
def thenE (N : Env → World → Prop) (Q : Qd) : Qd
  | .normal, t, w => N t w
  | e, t, w => Q e t w
def blockE (id : Nat) (Q : Qd) : Qd
  | .exit i, t, w => match Nat.beq i id with
    | true => Q .normal t w
    | false => Q (.exit i) t w
  | e, t, w => Q e t w
def den (P : Program) (ent : Nat → Bool) (orc : List (Nat × Orc)) (keep : List Nat) : Code → Qd → Env → World → Prop
  | .skip, Q, t, w => Q .normal t w
  | .label _, Q, t, w => Q .normal t w
  | .region id ops draw, Q, t, w => match draw with
    | false => dL P ent ops.toList 0 ops.toList (fun t' w' => Q .normal (norm keep t') w') t w
    | true => match orcOf orc id with
      | none => False
      | some o => match o.pre with
       | _ :: _ => dPre P ent ops.toList o.pre (fun t' w' => ∃ I : World → Prop, I w' ∧ dD P ent ops.toList (some I) o.flags o.ord (fun t'' w'' => Q .normal (norm keep t'') w'') t' w') t { w with drawn := w.drawn + 1 }
       | [] => match o.held with
        | false => dD P ent ops.toList none o.flags o.ord (fun t' w' => Q .normal (norm keep t') w') t { w with drawn := w.drawn + 1 }
        | true => ∃ I : World → Prop, initI o.init I { w with drawn := w.drawn + 1 } ∧ dD P ent ops.toList (some I) o.flags o.ord (fun t' w' => Q .normal (norm keep t') w') t { w with drawn := w.drawn + 1 }
  | .seq a b, Q, t, w => match direct orc a with
    | true => den P ent orc keep a (thenE (den P ent orc keep b Q) Q) t w
    | false => S.seq (fun vs w' => den P ent orc keep b Q (norm keep (setL (mods keep a) vs t)) w') (fun J => den P ent orc keep a (thenE (fun t' w' => J (readL (mods keep a) t') w') Q) t w)
  | .cond c x y, Q, t, w => br (ev t c) (den P ent orc keep x Q t w) (den P ent orc keep y Q t w)
  | .block id c, Q, t, w => den P ent orc keep c (blockE id Q) t w
  | .loop c, Q, t, w => S.loop (fun I => allV (mods keep c).length fun vs => ∀ w', den P ent orc keep c (thenE (fun t' w'' => I (readL (mods keep c) t') w'') Q) (norm keep (setL (mods keep c) vs t)) w' → I vs w') (readL (mods keep c) t) w
  | .rangeFunc g ps assign body, Q, t, w =>
    S.rng P (ev t g) ps.size (fun beg done args w' => den P ent orc keep assign (thenE (fun t' w'' => beg (fun w3 => den P ent orc keep body (roundE done) t' w3) w'') failE) (norm keep ((mkS, undef) :: setL ps.toList args t)) w')
      (fun b w' => Q .normal (norm keep ((mkS, addMark b (get t mkS)) :: t)) w') (fun b w' => Q .ret (norm keep ((mkS, addMark b (get t mkS)) :: t)) w') w
  | .exit id, Q, t, w => Q (.exit id) t w
  | .ret, Q, t, w => Q .ret t w
  | _, _, _, _ => False

def argEnv : Nat → List Value → Env
  | _, [] => []
  | i, x :: r => (i, x) :: argEnv (i + 1) r
def denFn (P : Program) (ent : Nat → Bool) (orc : List (Nat × Orc)) (keep : List Nat) (c : Code) (rs : List ResultVar) (args : List Value) (K : Value → World → Prop) (w : World) : Prop :=
  den P ent orc keep c (retQ P rs K) (norm keep (argEnv 0 args)) w
end Go.Fw
