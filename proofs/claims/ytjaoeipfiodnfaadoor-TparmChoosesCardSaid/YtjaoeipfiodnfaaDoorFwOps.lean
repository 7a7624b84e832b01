import Derived.Test.YtjaoeipfiodnfaaDoorFwSound3
import Derived.Laws.Append
import Derived.Laws.AppendOwn
import Derived.Laws.CopyRow
import Derived.Below
import Derived.WalkKit
namespace Go.Fw
open Go.RowKit

theorem Ch.refl (L : List Nat) (w : World) : Ch L w w := ⟨rfl, rfl, rfl, Nat.le_refl _, fun _ _ _ => rfl⟩
theorem Ch.trans {L L' : List Nat} {a b c : World} (h : Ch L a b) (k : Ch L' b c) (hl : ∀ x, x ∈ L' → x ∈ L ∨ a.heap.size ≤ x) : Ch L a c :=
  ⟨k.os.trans h.os, k.tape.trans h.tape, k.output.trans h.output, Nat.le_trans h.size k.size, fun i hi hn =>
    (k.block i (Nat.lt_of_lt_of_le hi h.size) (fun hm => by
      rcases hl i hm with h1 | h1
      · exact hn h1
      · omega)).trans (h.block i hi hn)⟩
theorem Ch.mono {L L' : List Nat} {a b : World} (h : Ch L a b) (hl : ∀ x, x ∈ L → x ∈ L' ∨ a.heap.size ≤ x) : Ch L' a b :=
  ⟨h.os, h.tape, h.output, h.size, fun i hi hn => h.block i hi (fun hm => by
    rcases hl i hm with h1 | h1
    · exact hn h1
    · omega)⟩
theorem Ch.nil {L : List Nat} {a b : World} (h : Ch [] a b) : Ch L a b := h.mono (by simp)
theorem Ch.drew (w : World) : Ch [] w w.drew := ⟨rfl, rfl, rfl, Nat.le_refl _, fun _ _ _ => rfl⟩
theorem Ch.at_ {L : List Nat} {w w' : World} (h : Ch L w w') {b : Nat} {o : Obj} (hb : w.heap[b]? = some o) (hn : b ∉ L) : w'.heap[b]? = some o :=
  (h.block b (Array.getElem?_eq_some_iff.1 hb).1 hn).trans hb
theorem Ch.cell {L : List Nat} {w w' : World} (h : Ch L w w') {a : Addr} {v : Value} (hc : w.cell? a = some v) (hn : a.block ∉ L) : w'.cell? a = some v :=
  (World.cell?_of_block (h.block a.block (World.block_lt_of_cell? w a hc) hn)).trans hc
theorem Ch.below {L : List Nat} {w w' : World} (h : Ch L w w') {B : Nat} (hB : B ≤ w.heap.size) (hl : ∀ x, x ∈ L → B ≤ x) : Below B w w' :=
  ⟨h.os, h.tape, h.output, h.size, fun k hk => h.block k (by omega) (fun hm => by have := hl k hm; omega)⟩

theorem lt_of_heap {w : World} {b : Nat} {o : Obj} (h : w.heap[b]? = some o) : b < w.heap.size := (Array.getElem?_eq_some_iff.1 h).1
theorem cell_heap {w : World} {b off : Nat} {cs : Array Value} {e : TypeId} {fr : Nat × Nat} (h : w.heap[b]? = some (.cells cs e fr)) : w.cell? ⟨b, off, none⟩ = cs[off]? := by
  simp [World.cell?, h]
theorem add_mk (b off n : Nat) : (⟨b, off, none⟩ : Addr).add n = ⟨b, off + n, none⟩ := by
  unfold Addr.add; split <;> simp_all

section
variable {P : Program} {w : World}

/-! ### From a run to the words of the walk -/
theorem v_ok {s : Sem Value} {x : Value} {w' : World} {K : Value → World → Prop} (h : s.run P w = .ok x w') (k : K x w') : S.v P s K w := by
  unfold S.v; rw [h]; exact k
theorem u_ok {s : Sem Unit} {w' : World} {K : World → Prop} (h : s.run P w = .ok () w') (k : K w') : S.u P s K w := by
  unfold S.u; rw [h]; exact k
theorem v_eq {s : Sem Value} {x : Value} {w' : World} {K : Value → World → Prop} (h : s.run P w = .ok x w') : S.v P s K w = K x w' := by
  unfold S.v; rw [h]
theorem p_eq {s : Sem Value} {x : Value} {K : Value → World → Prop} (h : s.run P w = .ok x w) : S.p P s K w = K x w := by
  unfold S.p; rw [h]
  exact propext ⟨fun ⟨y, e, k⟩ => by injection e with e1 e2; rw [e1]; exact k, fun k => ⟨x, rfl, k⟩⟩
theorem h_ok {I : World → Prop} {s : Sem Value} {x : Value} {K : Value → World → Prop} (h : ∀ w', I w' → s.run P w' = .ok x w') (k : K x w) : S.h P I s K w := ⟨x, h, k⟩
theorem call_ok {f : FuncId} {args : List Value} {K K' : Value → World → Prop} (h : S.call P f args K' w) (k : ∀ x w', K' x w' → K x w') : S.call P f args K w := by
  unfold S.call at *
  refine h.mono fun e w' he => ?_
  cases e with
  | returned x => exact k x w' he
  | panicked c => exact he
  | outgrown => exact he
theorem br_true (A B : Prop) : br (.bool true) A B = A := rfl
theorem br_false (A B : Prop) : br (.bool false) A B = B := rfl
theorem br_dec (p : Prop) [Decidable p] (A B : Prop) (ht : p → A) (hf : ¬ p → B) : br (.bool (decide p)) A B := by
  by_cases h : p
  · rw [decide_eq_true h]; exact ht h
  · rw [decide_eq_false h]; exact hf h
theorem br_bool (b : Bool) (A B : Prop) (ht : b = true → A) (hf : b = false → B) : br (.bool b) A B := by
  cases b
  · exact hf rfl
  · exact ht rfl

/-! ### Addresses -/
def fieldOff (P : Program) (s : TypeId) (i : Nat) : Option Nat :=
  match P.underlying s with
  | some (.struct fs) => match fs[i]? with
    | some f => match P.info? f.type with
      | some inf => if inf.size = 0 then none else some f.offset
      | none => none
    | none => none
  | _ => none
theorem run_nilC (a : Addr) : (S.nilC (.pointer (some a))).run P w = .ok (.pointer (some a)) w := rfl
theorem run_fa {s : TypeId} {i o b off : Nat} (h : fieldOff P s i = some o) : (Instr.fieldAt s (.pointer (some ⟨b, off, none⟩)) i).run P w = .ok (.pointer (some ⟨b, off + o, none⟩)) w := by
  unfold fieldOff at h
  cases hu : P.underlying s with
  | none => simp [hu] at h
  | some d =>
    cases d <;> simp only [hu, reduceCtorEq] at h
    case struct fs =>
      cases hf : fs[i]? with
      | none => simp [hf] at h
      | some f =>
        simp only [hf] at h
        cases hi : P.info? f.type with
        | none => simp [hi] at h
        | some inf =>
          simp only [hi] at h
          by_cases hz : inf.size = 0
          · simp [hz] at h
          · rw [if_neg hz] at h
            injection h with h
            subst h
            unfold Instr.fieldAt
            simp only [Sem.run_bind, run_underlying hu, Result.andThen_ok, hf]
            simp [Instr.sureAddr, fieldPlace, sizeOf, typeInfo, hi, hz, add_mk, go_sem]
def scal (P : Program) (t : TypeId) : Bool :=
  match P.underlying t with
  | some (.struct _) => false
  | some (.array _ _) => false
  | some _ => (P.info? t).any fun i => Nat.beq i.size 1
  | none => false
theorem run_isAgg_scal {t : TypeId} (h : scal P t = true) (w : World) : (isAgg t).run P w = .ok false w := by
  unfold scal at h
  cases hu : P.underlying t with
  | none => simp [hu] at h
  | some d =>
    unfold isAgg
    rw [Sem.run_bind, run_underlying hu w]
    cases d <;> simp_all [go_sem]
theorem run_sizeOf_scal {t : TypeId} (h : scal P t = true) (w : World) : (sizeOf t).run P w = .ok 1 w := by
  unfold scal at h
  cases hi : P.info? t with
  | none => cases hu : P.underlying t with
    | none => simp [hu] at h
    | some d => cases d <;> simp [hu, hi] at h
  | some i =>
    have : i.size = 1 := by
      cases hu : P.underlying t with
      | none => simp [hu] at h
      | some d => cases d <;> simp_all
    simp [sizeOf, typeInfo, hi, this, go_sem]
theorem run_ld {t : TypeId} {a : Addr} {v : Value} (h : scal P t = true) (hc : w.cell? a = some v) : (Instr.loadAt t (.pointer (some a))).run P w = .ok v w := by
  unfold Instr.loadAt loadVar
  simp only [Instr.sureAddr, Sem.run_bind, Sem.run_pure, Result.andThen_ok, run_isAgg_scal h]
  simp [load, Sem.run, hc]
theorem run_st {t : TypeId} {b off : Nat} {v : Value} {cs : Array Value} {e : TypeId} (h : scal P t = true) (hb : w.heap[b]? = some (.cells cs e (0, 0))) (ho : off < cs.size) (hv : v.oneCell' = true) :
    (Instr.storeAt t (.pointer (some ⟨b, off, none⟩)) v).run P w = .ok () (w.setCell ⟨b, off, none⟩ v) := by
  have hc : w.cell? ⟨b, off, none⟩ = some cs[off] := by rw [cell_heap hb]; simp [ho]
  have hf : w.frozen? ⟨b, off, none⟩ = false := by simp [World.frozen?, hb]
  have hcells : v.cells = #[v] := by cases v <;> first | rfl | (simp [Value.oneCell'] at hv)
  unfold Instr.storeAt storeVar
  simp only [Instr.sureAddr, Sem.run_bind, Sem.run_pure, Result.andThen_ok, run_sizeOf_scal h, hcells]
  have := run_store (P := P) (w := w) ⟨b, off, none⟩ v .plain hv
  simp [storeCells, Addr.add, this, hc, hf, go_sem]
theorem ch_setCell (w : World) (a : Addr) (v : Value) : Ch [a.block] w (w.setCell a v) :=
  ⟨rfl, rfl, rfl, by simp [World.setCell], fun k _ hn => Below.heap_setCell _ _ _ _ (fun e => hn (by simp [e]))⟩
theorem heap_setCell {w : World} {b off : Nat} {cs : Array Value} {e : TypeId} {fr : Nat × Nat} (hb : w.heap[b]? = some (.cells cs e fr)) (v : Value) :
    (w.setCell ⟨b, off, none⟩ v).heap[b]? = some (.cells (cs.setIfInBounds off v) e fr) := by
  simp [World.setCell, Array.getElem?_modify, hb]
/-- A store: the world behind it under a name. -/
theorem st {t : TypeId} {b off : Nat} {v : Value} {cs : Array Value} {e : TypeId} {K : World → Prop} (h : scal P t = true) (hb : w.heap[b]? = some (.cells cs e (0, 0))) (ho : off < cs.size) (hv : v.oneCell' = true)
    (k : ∀ w' : World, w'.heap[b]? = some (.cells (cs.setIfInBounds off v) e (0, 0)) → Ch [b] w w' → w'.heap.size = w.heap.size → K w') : S.u P (Instr.storeAt t (.pointer (some ⟨b, off, none⟩)) v) K w :=
  u_ok (run_st h hb ho hv) (k _ (heap_setCell hb v) (ch_setCell w ⟨b, off, none⟩ v) (by simp [World.setCell]))

/-! ### Numbers, bools, strings -/
theorem eqGuard_int (op : BinOp) (t : TypeId) (x y : Operand) (k k' : IntKind) (a b : Int) : (eqGuard op t x y (.int k a) (.int k' b)).run P w = .ok () w := by
  unfold eqGuard; split <;> rfl
theorem run_add (t : TypeId) (x y : Operand) (k : IntKind) (a b : Int) : (S.bin .add t x y (.int k a) (.int k b)).run P w = .ok (.int k (k.wrap (a + b))) w := by
  unfold S.bin; rw [Sem.run_bind, eqGuard_int]; simp [binOp, Op.intArith, go_sem]
theorem run_sub (t : TypeId) (x y : Operand) (k : IntKind) (a b : Int) : (S.bin .sub t x y (.int k a) (.int k b)).run P w = .ok (.int k (k.wrap (a - b))) w := by
  unfold S.bin; rw [Sem.run_bind, eqGuard_int]; simp [binOp, Op.intArith, go_sem]
theorem run_mul (t : TypeId) (x y : Operand) (k : IntKind) (a b : Int) : (S.bin .mul t x y (.int k a) (.int k b)).run P w = .ok (.int k (k.wrap (a * b))) w := by
  unfold S.bin; rw [Sem.run_bind, eqGuard_int]; simp [binOp, Op.intArith, go_sem]
theorem run_quo (t : TypeId) (x y : Operand) (k : IntKind) (a b : Int) (hb : b ≠ 0) : (S.bin .quo t x y (.int k a) (.int k b)).run P w = .ok (.int k (k.wrap (a.tdiv b))) w := by
  unfold S.bin; rw [Sem.run_bind, eqGuard_int]; simp [binOp, Op.intDiv, hb, go_sem]
theorem run_rem (t : TypeId) (x y : Operand) (k : IntKind) (a b : Int) (hb : b ≠ 0) : (S.bin .rem t x y (.int k a) (.int k b)).run P w = .ok (.int k (a.tmod b)) w := by
  unfold S.bin; rw [Sem.run_bind, eqGuard_int]; simp [binOp, Op.intDiv, hb, go_sem]
theorem run_eq (t : TypeId) (x y : Operand) (k : IntKind) (a b : Int) : (S.bin .eql t x y (.int k a) (.int k b)).run P w = .ok (.bool (decide (a = b))) w := by
  unfold S.bin; rw [Sem.run_bind, eqGuard_int]; simp [binOp, Op.intCmp, go_sem]; rfl
theorem run_ne (t : TypeId) (x y : Operand) (k : IntKind) (a b : Int) : (S.bin .neq t x y (.int k a) (.int k b)).run P w = .ok (.bool (decide (a ≠ b))) w := by
  unfold S.bin; rw [Sem.run_bind, eqGuard_int]
  have : (a != b) = decide (a ≠ b) := by by_cases h : a = b <;> simp [h]
  simp [binOp, Op.intCmp, this, go_sem]
theorem run_lt (t : TypeId) (x y : Operand) (k : IntKind) (a b : Int) : (S.bin .lss t x y (.int k a) (.int k b)).run P w = .ok (.bool (decide (a < b))) w := by
  unfold S.bin; rw [Sem.run_bind, eqGuard_int]; simp [binOp, Op.intCmp, go_sem]
theorem run_le (t : TypeId) (x y : Operand) (k : IntKind) (a b : Int) : (S.bin .leq t x y (.int k a) (.int k b)).run P w = .ok (.bool (decide (a ≤ b))) w := by
  unfold S.bin; rw [Sem.run_bind, eqGuard_int]; simp [binOp, Op.intCmp, go_sem]
theorem run_gt (t : TypeId) (x y : Operand) (k : IntKind) (a b : Int) : (S.bin .gtr t x y (.int k a) (.int k b)).run P w = .ok (.bool (decide (b < a))) w := by
  unfold S.bin; rw [Sem.run_bind, eqGuard_int]; simp [binOp, Op.intCmp, go_sem]
theorem run_ge (t : TypeId) (x y : Operand) (k : IntKind) (a b : Int) : (S.bin .geq t x y (.int k a) (.int k b)).run P w = .ok (.bool (decide (b ≤ a))) w := by
  unfold S.bin; rw [Sem.run_bind, eqGuard_int]; simp [binOp, Op.intCmp, go_sem]
theorem run_not (b : Bool) : (Op.unary .not (.bool b)).run P w = .ok (.bool !b) w := rfl
def isBoolT (P : Program) (t : TypeId) : Bool :=
  match P.underlying t with
  | some .bool => true
  | _ => false
theorem und_bool {t : TypeId} (h : isBoolT P t = true) : P.underlying t = some .bool := by
  unfold isBoolT at h; split at h <;> simp_all
theorem run_equal {t : TypeId} {x y : Value} {r : Bool} (h : ∀ d, (Op.equalIn (d + 1) t x y).run P w = .ok r w) : (Op.equal t x y).run P w = .ok r w := h 9999
theorem run_eql_of {t : TypeId} {x y : Value} {r : Bool} (o o' : Operand) (hg : (eqGuard .eql t o o' x y).run P w = .ok () w) (hb : binOp .eql t x y = (do pure (.bool (← Op.equal t x y))))
    (h : ∀ d, (Op.equalIn (d + 1) t x y).run P w = .ok r w) : (S.bin .eql t o o' x y).run P w = .ok (.bool r) w := by
  unfold S.bin; rw [Sem.run_bind, hg, hb, Result.andThen_ok, Sem.run_bind, run_equal h]; rfl
theorem run_neq_of {t : TypeId} {x y : Value} {r : Bool} (o o' : Operand) (hg : (eqGuard .neq t o o' x y).run P w = .ok () w) (hb : binOp .neq t x y = (do pure (.bool (!(← Op.equal t x y)))))
    (h : ∀ d, (Op.equalIn (d + 1) t x y).run P w = .ok r w) : (S.bin .neq t o o' x y).run P w = .ok (.bool !r) w := by
  unfold S.bin; rw [Sem.run_bind, hg, hb, Result.andThen_ok, Sem.run_bind, run_equal h]; rfl
theorem run_eqb {t : TypeId} (h : isBoolT P t = true) (x y : Operand) (a b : Bool) : (S.bin .eql t x y (.bool a) (.bool b)).run P w = .ok (.bool (a == b)) w :=
  run_eql_of x y rfl rfl fun d => by
    unfold Op.equalIn
    rw [Sem.run_bind, run_underlying (und_bool h)]; rfl
theorem run_neb {t : TypeId} (h : isBoolT P t = true) (x y : Operand) (a b : Bool) : (S.bin .neq t x y (.bool a) (.bool b)).run P w = .ok (.bool (!(a == b))) w :=
  run_neq_of x y rfl rfl fun d => by
    unfold Op.equalIn
    rw [Sem.run_bind, run_underlying (und_bool h)]; rfl
def isPtrT (P : Program) (t : TypeId) : Bool :=
  match P.underlying t with
  | some (.pointer _) => true
  | _ => false
theorem und_ptr {t : TypeId} (h : isPtrT P t = true) : ∃ e, P.underlying t = some (.pointer e) := by
  unfold isPtrT at h; split at h <;> simp_all
theorem run_eq_nil {t : TypeId} (h : isPtrT P t = true) (x y : Operand) (a : Option Addr) : (S.bin .eql t x y (.pointer a) (.pointer none)).run P w = .ok (.bool a.isNone) w := by
  obtain ⟨e, he⟩ := und_ptr h
  refine run_eql_of x y rfl rfl fun d => ?_
  unfold Op.equalIn
  rw [Sem.run_bind, run_underlying he]
  cases a <;> rfl
theorem run_ne_nil {t : TypeId} (h : isPtrT P t = true) (x y : Operand) (a : Option Addr) : (S.bin .neq t x y (.pointer a) (.pointer none)).run P w = .ok (.bool a.isSome) w := by
  obtain ⟨e, he⟩ := und_ptr h
  have : a.isSome = !a.isNone := by cases a <;> rfl
  rw [this]
  refine run_neq_of x y rfl rfl fun d => ?_
  unfold Op.equalIn
  rw [Sem.run_bind, run_underlying he]
  cases a <;> rfl
theorem wrap_i64 {n : Int} (h1 : -9223372036854775808 ≤ n) (h2 : n < 9223372036854775808) : IntKind.i64.wrap n = n := IntWalk.i64_in _ (by omega)

/-! ### Slices: length, index, cut -/
def elT (P : Program) (t : TypeId) : Option (TypeId × Nat) :=
  match P.underlying t with
  | some (.slice e) => (P.info? e).map fun i => (e, i.size)
  | _ => none
theorem elT_spec {t e sz : Nat} (h : elT P t = some (e, sz)) : P.underlying t = some (.slice e) ∧ ∃ i, P.info? e = some i ∧ i.size = sz := by
  unfold elT at h
  split at h
  · rename_i e' hu
    cases hi : P.info? e' with
    | none => simp [hi] at h
    | some i =>
      simp only [hi, Option.map_some, Option.some.injEq, Prod.mk.injEq] at h
      obtain ⟨rfl, rfl⟩ := h
      exact ⟨hu, i, hi, rfl⟩
  · cases h
theorem run_len {t e sz : Nat} (h : elT P t = some (e, sz)) (ats : Array TypeId) (ty : TypeId) (ha : ats[0]? = some t) (A : Option Addr) (n c : Nat) : (Builtin.len_ ats ty #[.slice A n c]).run P w = .ok (.int .i64 n) w := by
  unfold Builtin.len_
  simp [ha, run_underlying (elT_spec h).1, goInt, go_sem]
theorem run_len_str {t : Nat} (h : P.underlying t = some .string) (ats : Array TypeId) (ty : TypeId) (ha : ats[0]? = some t) (s : ByteArray) : (Builtin.len_ ats ty #[.string s]).run P w = .ok (.int .i64 s.size) w := by
  unfold Builtin.len_
  simp [ha, run_underlying h, goInt, go_sem]
theorem run_ia {t e sz : Nat} (h : elT P t = some (e, sz)) {g off n c : Nat} (k : IntKind) (i : Int) (h0 : 0 ≤ i) (h1 : i < n) :
    (Instr.indexAt t (.slice (some ⟨g, off, none⟩) n c) (.int k i)).run P w = .ok (.pointer (some ⟨g, off + i.toNat * sz, none⟩)) w := by
  obtain ⟨hu, j, hj, hs⟩ := elT_spec h
  unfold Instr.indexAt
  simp [asIntOf, run_underlying hu, h0, h1, sizeOf, typeInfo, hj, hs, add_mk, go_sem]
theorem run_ix_str {t : Nat} (h : P.underlying t = some .string) (s : ByteArray) (k : IntKind) (i : Int) (b : UInt8) (h0 : 0 ≤ i) (hb : s[i.toNat]? = some b) :
    (Instr.index t (.string s) (.int k i)).run P w = .ok (.int .u8 b.toNat) w := by
  unfold Instr.index
  simp [asIntOf, run_underlying h, h0, hb, go_sem]
/-- A cut of a slice. -/
def cutS (sz : Nat) (A : Option Addr) (c l u : Nat) : Value := .slice (if c = l then A else A.map (·.add (l * sz))) (u - l) (c - l)
/-- Its bounds in range. -/
theorem run_cut {t e sz : Nat} (h : elT P t = some (e, sz)) {A : Option Addr} {n c : Nat} (lo hi : Option Value) (l u : Nat)
    (hlo : (lo = none ∧ l = 0) ∨ ∃ k, lo = some (.int k (l : Int))) (hhi : (hi = none ∧ u = n) ∨ ∃ k, hi = some (.int k (u : Int))) (h1 : l ≤ u) (h2 : u ≤ c) :
    (Instr.sliceAt t (.slice A n c) lo hi none).run P w = .ok (cutS sz A c l u) w := by
  unfold cutS
  obtain ⟨hu, j, hj, hs⟩ := elT_spec h
  have hb : ∀ (k : IntKind) (i y : Nat) (code : BoundsCode), i ≤ y → (Instr.sliceBound (.int k (i : Int)) y code).run P w = .ok i w := fun k i y code hi => by
    unfold Instr.sliceBound
    have : (i : Int) ≤ (y : Int) := by omega
    simp [asIntOf, this, go_sem]
  unfold Instr.sliceAt Instr.slice Instr.sliceBounds
  rcases hlo with ⟨rfl, rfl⟩ | ⟨k, rfl⟩ <;> rcases hhi with ⟨rfl, rfl⟩ | ⟨k', rfl⟩
  · simp [run_underlying hu, sizeOf, typeInfo, hj, go_sem]
  · simp [run_underlying hu, sizeOf, typeInfo, hj, hb _ _ _ _ h2, go_sem]
  · simp [run_underlying hu, sizeOf, typeInfo, hj, hs, hb _ _ _ _ h1, go_sem]
  · simp [run_underlying hu, sizeOf, typeInfo, hj, hs, hb _ _ _ _ h2, go_sem]
    intro hc; omega

/-! ### New memory -/
theorem ch_alloc (w : World) (o : Obj) : Ch [] w (w.alloc o) := ⟨rfl, rfl, rfl, by simp, fun k hk _ => Below.heap_alloc _ _ _ hk⟩
theorem bx {e : TypeId} {v : Value} {K : Value → World → Prop}
    (k : ∀ w' : World, w'.heap[w.heap.size]? = some (.cells v.cells e (0, 0)) → Ch [] w w' → w'.heap.size = w.heap.size + 1 → K (.pointer (some ⟨w.heap.size, 0, none⟩)) w') : S.v P (Instr.box e v) K w :=
  v_ok (x := .pointer (some ⟨w.heap.size, 0, none⟩)) (w' := w.alloc (.cells v.cells e)) (by simp [Instr.box, newVar, newRow, newObj, go_sem]; rfl) (k _ (heap_alloc_new w _) (ch_alloc w _) (by simp))

/-! ### A slice of one's own -/
/-- The slice value v of n elements (sz cells each) lies in one block alone (L names it), from some offset on, and its cells are xs; nil: no block. -/
structure Own (w : World) (e : TypeId) (sz : Nat) (v : Value) (n : Nat) (xs : List Value) (L : List Nat) : Prop where
  len : xs.length = n * sz
  form : (v = .slice none 0 0 ∧ n = 0 ∧ L = []) ∨
    ∃ g off cap cur, v = .slice (some ⟨g, off, none⟩) n cap ∧ L = [g] ∧ w.heap[g]? = some (.cells cur e (0, 0)) ∧ n ≤ cap ∧ cap ≤ maxLen ∧ off + cap * sz ≤ cur.size ∧ (cur.toList.drop off).take (n * sz) = xs
theorem Own.nil (w : World) (e : TypeId) (sz : Nat) : Own w e sz (.slice none 0 0) 0 [] [] := ⟨by simp, .inl ⟨rfl, rfl, rfl⟩⟩
theorem Own.ch {e : TypeId} {sz : Nat} {v : Value} {n : Nat} {xs : List Value} {L : List Nat} (h : Own w e sz v n xs L) {M : List Nat} {w' : World} (hc : Ch M w w') (hd : ∀ x, x ∈ L → x ∉ M) : Own w' e sz v n xs L := by
  refine ⟨h.len, ?_⟩
  rcases h.form with h0 | ⟨g, off, cap, cur, h1, h2, h3, rest⟩
  · exact .inl h0
  · exact .inr ⟨g, off, cap, cur, h1, h2, hc.at_ h3 (hd g (by simp [h2])), rest⟩
theorem Own.lt {e : TypeId} {sz : Nat} {v : Value} {n : Nat} {xs : List Value} {L : List Nat} (h : Own w e sz v n xs L) : ∀ x, x ∈ L → x < w.heap.size := by
  intro x hx
  rcases h.form with ⟨_, _, rfl⟩ | ⟨g, off, cap, cur, h1, rfl, h3, rest⟩
  · cases hx
  · obtain rfl : x = g := by simpa using hx
    exact lt_of_heap h3
theorem Own.shape {e : TypeId} {sz : Nat} {v : Value} {n : Nat} {xs : List Value} {L : List Nat} (h : Own w e sz v n xs L) : ∃ A c, v = .slice A n c ∧ n ≤ c ∧ c ≤ maxLen := by
  rcases h.form with ⟨rfl, rfl, _⟩ | ⟨g, off, cap, cur, h1, _, _, h4, h5, _⟩
  · exact ⟨_, _, rfl, Nat.le_refl _, Nat.zero_le _⟩
  · exact ⟨_, _, h1, h4, h5⟩
theorem take_drop_get {l : List Value} {off m j : Nat} {xs : List Value} (h : (l.drop off).take m = xs) (hj : j < xs.length) : l[off + j]? = xs[j]? := by
  subst h
  simp only [List.length_take, List.length_drop] at hj
  rw [List.getElem?_take_of_lt (by omega), List.getElem?_drop]
/-- A cell of it. -/
theorem Own.cell {e : TypeId} {sz : Nat} {n : Nat} {xs : List Value} {L : List Nat} {g off c : Nat} (h : Own w e sz (.slice (some ⟨g, off, none⟩) n c) n xs L) {j : Nat} {u : Value} (hj : xs[j]? = some u) : w.cell? ⟨g, off + j, none⟩ = some u := by
  rcases h.form with ⟨h0, _⟩ | ⟨g', off', cap, cur, h1, _, h3, _, _, _, h6⟩
  · injection h0 with h0; cases h0
  · simp only [Value.slice.injEq, Option.some.injEq, Addr.mk.injEq] at h1
    obtain ⟨⟨rfl, rfl, _⟩, _, rfl⟩ := h1
    rw [cell_heap h3, ← Array.getElem?_toList, take_drop_get h6 (List.getElem?_eq_some_iff.1 hj).1]
    exact hj
/-- Where there are elements there is a block. -/
theorem Own.some_ {e : TypeId} {sz : Nat} {v : Value} {n : Nat} {xs : List Value} {L : List Nat} (h : Own w e sz v n xs L) (hn : 0 < n) : ∃ g off c, v = .slice (some ⟨g, off, none⟩) n c ∧ L = [g] ∧ n ≤ c := by
  rcases h.form with ⟨_, h0, _⟩ | ⟨g, off, cap, cur, h1, h2, _, h4, _⟩
  · omega
  · exact ⟨g, off, cap, h1, h2, h4⟩
/-- A cut of it is of one's own too. -/
theorem Own.cut {e : TypeId} {sz : Nat} {A : Option Addr} {n c : Nat} {xs : List Value} {L : List Nat} (h : Own w e sz (.slice A n c) n xs L) {l u : Nat} (h1 : l ≤ u) (h2 : u ≤ n) :
    Own w e sz (cutS sz A c l u) (u - l) ((xs.drop (l * sz)).take ((u - l) * sz)) L := by
  have hm : (u - l) * sz ≤ (n - l) * sz := Nat.mul_le_mul_right _ (by omega)
  have hm2 : (n - l) * sz = n * sz - l * sz := Nat.sub_mul _ _ _
  unfold cutS
  refine ⟨by rw [List.length_take, List.length_drop, h.len]; omega, ?_⟩
  rcases h.form with ⟨h0, h0', h0''⟩ | ⟨g, off, cap, cur, hv, hL, hb, hn, hc, ho, hx⟩
  · simp only [Value.slice.injEq] at h0
    obtain ⟨rfl, _, rfl⟩ := h0
    left
    refine ⟨?_, by omega, h0''⟩
    simp
    omega
  · simp only [Value.slice.injEq] at hv
    obtain ⟨rfl, _, rfl⟩ := hv
    right
    have hcl : (c - l) * sz = c * sz - l * sz := Nat.sub_mul _ _ _
    have hlc : l * sz ≤ c * sz := Nat.mul_le_mul_right _ (by omega)
    have hln : l * sz ≤ n * sz := Nat.mul_le_mul_right _ (by omega)
    by_cases hcl0 : c = l
    · subst hcl0
      have hu : u = c := by omega
      subst hu
      exact ⟨g, off, 0, cur, by simp, hL, hb, by omega, Nat.zero_le _, by omega, by simp⟩
    · refine ⟨g, off + l * sz, c - l, cur, by rw [if_neg hcl0]; simp [add_mk], hL, hb, by omega, by omega, by omega, ?_⟩
      rw [← hx, ← List.drop_drop, List.drop_take, List.take_take]
      congr 1
      omega
/-- Another block's store, or anything that turns blocks of M alone. -/
theorem Own.fresh {e : TypeId} {sz : Nat} {cur : Array Value} {g n : Nat} (hg : w.heap[g]? = some (.cells cur e (0, 0))) (hs : cur.size = n * sz) (hm : n ≤ maxLen) : Own w e sz (.slice (some ⟨g, 0, none⟩) n n) n cur.toList [g] :=
  ⟨by simp [hs], .inr ⟨g, 0, n, cur, rfl, rfl, hg, Nat.le_refl _, hm, by omega, by rw [List.drop_zero, ← hs, ← Array.length_toList, List.take_length]⟩⟩

/-! ### A slice that is only read -/
/-- The slice value v of n elements has the cells xs; all lie below block B. -/
structure Rd (w : World) (B sz : Nat) (v : Value) (n : Nat) (xs : List Value) : Prop where
  len : xs.length = n * sz
  form : ∃ A c, v = .slice A n c ∧ n ≤ c ∧ c ≤ maxLen ∧ (0 < n → ∃ b off, A = some ⟨b, off, none⟩ ∧ b < B) ∧ ∀ b off, A = some ⟨b, off, none⟩ → ∀ j u, xs[j]? = some u → w.cell? ⟨b, off + j, none⟩ = some u
theorem Rd.ch {B sz : Nat} {v : Value} {n : Nat} {xs : List Value} (h : Rd w B sz v n xs) {M : List Nat} {w' : World} (hc : Ch M w w') (hd : ∀ x, x ∈ M → B ≤ x) : Rd w' B sz v n xs := by
  obtain ⟨A, c, h1, h2, h3, h4, h5⟩ := h.form
  refine ⟨h.len, A, c, h1, h2, h3, h4, fun b off hA j u hu => ?_⟩
  have hn : 0 < n := by
    rcases Nat.eq_zero_or_pos n with h0 | h0
    · have := h.len; rw [h0] at this
      simp at this
      subst this
      simp at hu
    · exact h0
  obtain ⟨b', off', hA', hb'⟩ := h4 hn
  rw [hA'] at hA
  simp only [Option.some.injEq, Addr.mk.injEq] at hA
  obtain ⟨rfl, rfl, _⟩ := hA
  exact hc.cell (h5 b' off' hA' j u hu) (fun hm => by have := hd _ hm; simp at this; omega)
theorem Own.rd {e : TypeId} {sz : Nat} {v : Value} {n : Nat} {xs : List Value} {L : List Nat} (h : Own w e sz v n xs L) : Rd w w.heap.size sz v n xs := by
  refine ⟨h.len, ?_⟩
  obtain ⟨A, c, rfl, h2, h3⟩ := h.shape
  refine ⟨A, c, rfl, h2, h3, fun hn => ?_, fun b off hA j u hu => ?_⟩
  · obtain ⟨g, off, c', hv, hL, _⟩ := h.some_ hn
    injection hv with hv _
    exact ⟨g, off, hv, h.lt g (by simp [hL])⟩
  · subst hA
    exact h.cell hu
theorem Rd.mono {B B' sz : Nat} {v : Value} {n : Nat} {xs : List Value} (h : Rd w B sz v n xs) (hB : B ≤ B') : Rd w B' sz v n xs := by
  obtain ⟨A, c, h1, h2, h3, h4, h5⟩ := h.form
  exact ⟨h.len, A, c, h1, h2, h3, fun hn => by obtain ⟨b, off, e, hb⟩ := h4 hn; exact ⟨b, off, e, by omega⟩, h5⟩

/-! ### append -/
theorem ch_setRow (w : World) (g : Nat) (cs : Array Value) : Ch [g] w (w.setRow g cs) := ⟨rfl, rfl, rfl, by simp, fun k _ hn => setRow_other w g k cs (by simpa using hn)⟩
theorem Rd.first {B sz n : Nat} {v : Value} {xs : List Value} (h : Rd w B sz v n xs) : (Builtin.firstCells sz n v).run P w = .ok xs.toArray w := by
  obtain ⟨A, c, rfl, h2, h3, h4, h5⟩ := h.form
  cases A with
  | none =>
    have hn : n = 0 := by
      rcases Nat.eq_zero_or_pos n with h0 | h0
      · exact h0
      · obtain ⟨b, off, e, _⟩ := h4 h0; cases e
    have hx : xs = [] := List.eq_nil_of_length_eq_zero (by rw [h.len, hn]; simp)
    subst hx
    simp [Builtin.firstCells, go_sem]
  | some a =>
    refine run_firstCells_some (P := P) w sz n a n c xs h.len fun j u hu => ?_
    have hn : 0 < n := by
      rcases Nat.eq_zero_or_pos n with h0 | h0
      · have := h.len; rw [h0] at this; simp at this; subst this; simp at hu
      · exact h0
    obtain ⟨b, off, e, _⟩ := h4 hn
    injection e with e
    subst e
    rw [add_mk]
    exact h5 b off rfl j u hu
theorem Rd.drew {B sz n : Nat} {v : Value} {xs : List Value} (h : Rd w B sz v n xs) : Rd w.drew B sz v n xs := h.ch (Ch.drew w) (by simp)
/-- What a program says of a slice's type. -/
structure SlT (P : Program) (t e sz bytes : Nat) (z : Value) : Prop where
  und : P.underlying t = some (.slice e)
  info : ∃ i, P.info? e = some i ∧ i.size = sz ∧ i.bytes = bytes ∧ i.zero = some z
  zs : z.cells.size = sz
  pos : 0 < sz
def slInfo (P : Program) (t : TypeId) : Option (Nat × Nat × Nat × Value) :=
  match P.underlying t with
  | some (.slice e) => match P.info? e with
    | some i => match i.zero with
      | some z => some (e, i.size, i.bytes, z)
      | none => none
    | none => none
  | _ => none
theorem slT_of {t e sz bytes : Nat} {z : Value} (h : slInfo P t = some (e, sz, bytes, z)) (hz : z.cells.size = sz) (hp : 0 < sz) : SlT P t e sz bytes z := by
  unfold slInfo at h
  cases hu : P.underlying t with
  | none => simp [hu] at h
  | some d =>
    cases d <;> simp only [hu, reduceCtorEq] at h
    case slice e' =>
      cases hi : P.info? e' with
      | none => simp [hi] at h
      | some i =>
        simp only [hi] at h
        cases hzz : i.zero with
        | none => simp [hzz] at h
        | some z' =>
          simp only [hzz, Option.some.injEq, Prod.mk.injEq] at h
          obtain ⟨rfl, rfl, rfl, rfl⟩ := h
          exact ⟨hu, ⟨i, hi, rfl, rfl, hzz⟩, hz, hp⟩
theorem run_append0 {t ty e sz bytes : Nat} {z : Value} (T : SlT P t e sz bytes z) {v src : Value} {n m B : Nat} {xs news : List Value} {L : List Nat} (h : Own w e sz v n xs L) (hs : Rd w B sz src m news)
    (h1 : ∀ u ∈ news, u.oneCell' = true) (hb : ∀ old, old < n + m → Builtin.nextslicecap (n + m) old * bytes ≤ 281474976710656) (hm : n + m ≤ 9223372036854775807) :
    ∃ v' w' L', (Builtin.append_ #[t, t] ty #[v, src]).run P w = .ok v' w' ∧ Own w' e sz v' (n + m) (xs ++ news) L' ∧ Ch L w w' ∧ ∀ x, x ∈ L' → x ∈ L ∨ w.heap.size ≤ x := by
  obtain ⟨i, hi, rfl, rfl, hz⟩ := T.info
  have hlen : (xs ++ news).length = (n + m) * i.size := by rw [List.length_append, h.len, hs.len, Nat.add_mul]
  have hml : n + m ≤ maxLen := by simp only [maxLen]; omega
  obtain ⟨A, sc, rfl, hsc, hsm, hs4, hs5⟩ := hs.form
  have hf : ∀ W : World, W.heap = w.heap → (Builtin.firstCells i.size m (.slice A m sc)).run P W = .ok news.toArray W := fun W hW =>
    Rd.first (B := B) ⟨hs.len, A, sc, rfl, hsc, hsm, hs4, fun b off hA j u hu => by
      have := hs5 b off hA j u hu
      simpa [World.cell?, hW] using this⟩
  have room : ∀ (g off cap : Nat) (cur : Array Value), v = .slice (some ⟨g, off, none⟩) n cap → L = [g] → w.heap[g]? = some (.cells cur e (0, 0)) → n + m ≤ cap → cap ≤ maxLen → off + cap * i.size ≤ cur.size → (cur.toList.drop off).take (n * i.size) = xs →
      ∃ v' w' L', (Builtin.append_ #[t, t] ty #[v, .slice A m sc]).run P w = .ok v' w' ∧ Own w' e i.size v' (n + m) (xs ++ news) L' ∧ Ch L w w' ∧ ∀ x, x ∈ L' → x ∈ L ∨ w.heap.size ≤ x := by
    intro g off cap cur hv hL hg hroom hcm hfit hx
    subst hv hL
    have hle : (n + m) * i.size ≤ cap * i.size := Nat.mul_le_mul_right _ hroom
    rw [Nat.add_mul] at hle
    have hst := run_storeCells_at P g (off + n * i.size) e news 0 cur w hg (by rw [hs.len]; omega) h1
    simp only [Nat.add_zero] at hst
    refine ⟨.slice (some ⟨g, off, none⟩) (n + m) cap, w.setRow g (cur.toList.take (off + n * i.size) ++ news ++ cur.toList.drop (off + n * i.size + news.length)).toArray, [g], ?_, ⟨hlen, .inr ⟨g, off, cap, _, rfl, rfl, setRow_heap w g cur _ e _ hg, hroom, hcm, ?_, ?_⟩⟩, ch_setRow w g _, fun x hx => .inl hx⟩
    · simp [Builtin.append_, run_underlying T.und, sizeOf, typeInfo, hi, Builtin.lenOf, hroom, hf w rfl, add_mk, hst]
    · simp only [List.size_toArray, List.length_append, List.length_take, List.length_drop, Array.length_toList]
      omega
    · have hl1 : (cur.toList.take (off + n * i.size)).length = off + n * i.size := by simp; omega
      simp only [List.append_assoc]
      rw [List.drop_append_of_le_length (by omega), List.drop_take]
      have : off + n * i.size - off = n * i.size := by omega
      rw [this, hx, ← List.append_assoc, ← hlen, List.take_left]
  have grow : ∀ (old : List Value) (cap : Nat), (Builtin.firstCells i.size n v).run P w.drew = .ok old.toArray w.drew → old = xs → (∃ A', v = .slice A' n cap) → cap < n + m →
      ∃ v' w' L', (Builtin.append_ #[t, t] ty #[v, .slice A m sc]).run P w = .ok v' w' ∧ Own w' e i.size v' (n + m) (xs ++ news) L' ∧ Ch L w w' ∧ ∀ x, x ∈ L' → x ∈ L ∨ w.heap.size ≤ x := by
    intro old cap hfo hold ⟨A', hv⟩ hc
    subst hold hv
    have hn : ¬ (n + m ≤ cap) := by omega
    have h63' : ¬ (9223372036854775807 < ((n : Int) + (m : Int))) := by omega
    have h48 := hb cap hc
    have h48' : ¬ (281474976710656 < Builtin.nextslicecap (n + m) cap * i.bytes) := by omega
    have hge := grownCap_ge w (n + m) cap e
    have hcm := grownCap_le_maxLen w (n + m) cap e hml
    refine ⟨.slice (some ⟨w.heap.size, 0, none⟩) (n + m) (grownCap w (n + m) cap e), w.drew.alloc (.cells (old.toArray ++ news.toArray ++ Builtin.zeroCells z.cells (grownCap w (n + m) cap e - (n + m))) e), [w.heap.size], ?_,
      ⟨hlen, .inr ⟨w.heap.size, 0, _, _, rfl, rfl, heap_alloc_new w.drew _, hge, hcm, ?_, ?_⟩⟩, ((Ch.drew w).trans (ch_alloc w.drew _) (by simp)).nil, fun x hx => .inr (by simp at hx; omega)⟩
    · have hfo' := hfo
      simp [Builtin.append_, run_underlying T.und, sizeOf, typeInfo, zeroValue, hi, hz, Builtin.lenOf, hn, h63', h48', Question.forced, newRow, grownCap]
      rw [hfo', Result.andThen_ok]
      simp [hf w.drew rfl]
      congr 2
      apply Array.ext'
      simp
    · simp only [Array.size_append, List.size_toArray, size_zeroCells, T.zs, h.len, hs.len, Nat.zero_add]
      have : grownCap w (n + m) cap e * i.size = (n + m) * i.size + (grownCap w (n + m) cap e - (n + m)) * i.size := by rw [← Nat.add_mul]; congr 1; omega
      rw [this, Nat.add_mul]
      omega
    · simp only [Array.toList_append, List.append_assoc, List.drop_zero]
      rw [← List.append_assoc, ← hlen]
      exact List.take_left
  rcases h.form with ⟨rfl, rfl, rfl⟩ | ⟨g, off, cap, cur, rfl, rfl, hg, hnc, hcm, hfit, hx⟩
  · have hx : xs = [] := List.eq_nil_of_length_eq_zero (by simpa using h.len)
    subst hx
    by_cases hm0 : m = 0
    · subst hm0
      have hn : news = [] := List.eq_nil_of_length_eq_zero (by simpa using hs.len)
      subst hn
      refine ⟨.slice none 0 0, w, [], ?_, Own.nil w e i.size, Ch.refl _ _, by simp⟩
      have := hf w rfl
      simp [Builtin.append_, run_underlying T.und, sizeOf, typeInfo, hi, Builtin.lenOf, this]
    · exact grow [] 0 (by simp [Builtin.firstCells, go_sem]) rfl ⟨none, rfl⟩ (by omega)
  · by_cases hroom : n + m ≤ cap
    · exact room g off cap cur rfl rfl hg hroom hcm hfit hx
    · refine grow xs cap ?_ rfl ⟨_, rfl⟩ (by omega)
      have := (h.ch (Ch.drew w) (by simp)).rd.first (P := P)
      exact this
theorem run_append {t ty e sz bytes : Nat} {z : Value} (T : SlT P t e sz bytes z) {v src : Value} {n m B : Nat} {xs news : List Value} {L : List Nat} (h : Own w e sz v n xs L) (hs : Rd w B sz src m news)
    (h1 : ∀ u ∈ news, u.oneCell' = true) (hb : (n + m) * bytes ≤ 140737488355328) (hm : n + m ≤ 9223372036854775807) :
    ∃ v' w' L', (Builtin.append_ #[t, t] ty #[v, src]).run P w = .ok v' w' ∧ Own w' e sz v' (n + m) (xs ++ news) L' ∧ Ch L w w' ∧ ∀ x, x ∈ L' → x ∈ L ∨ w.heap.size ≤ x :=
  run_append0 T h hs h1 (fun _ ho => growslice_fits ho hb) hm
theorem nextslicecap_wide {need old : Nat} (h : old < need) : Builtin.nextslicecap need old ≤ need + need / 4 + 512 := by
  unfold Builtin.nextslicecap
  split
  · omega
  · split
    · omega
    · rw [growBy_four]
      repeat' split
      all_goals omega
/-- 'append' with a bound of one's own on what is asked for. -/
theorem ap0 {t ty e sz bytes : Nat} {z : Value} (T : SlT P t e sz bytes z) {v src : Value} {n m B : Nat} {xs news : List Value} {L : List Nat} {K : Value → World → Prop} (h : Own w e sz v n xs L) (hs : Rd w B sz src m news)
    (h1 : ∀ u ∈ news, u.oneCell' = true) (hb : ∀ old, old < n + m → Builtin.nextslicecap (n + m) old * bytes ≤ 281474976710656) (hm : n + m ≤ 9223372036854775807)
    (k : ∀ v' w' L', Own w' e sz v' (n + m) (xs ++ news) L' → Ch L w w' → (∀ x, x ∈ L' → x ∈ L ∨ w.heap.size ≤ x) → K v' w') : S.v P (Builtin.append_ #[t, t] ty #[v, src]) K w := by
  obtain ⟨v', w', L', hr, h1, h2, h3⟩ := run_append0 (ty := ty) T h hs h1 hb hm
  exact v_ok hr (k v' w' L' h1 h2 h3)
theorem ap {t ty e sz bytes : Nat} {z : Value} (T : SlT P t e sz bytes z) {v src : Value} {n m B : Nat} {xs news : List Value} {L : List Nat} {K : Value → World → Prop} (h : Own w e sz v n xs L) (hs : Rd w B sz src m news)
    (h1 : ∀ u ∈ news, u.oneCell' = true) (hb : (n + m) * bytes ≤ 140737488355328) (hm : n + m ≤ 9223372036854775807)
    (k : ∀ v' w' L', Own w' e sz v' (n + m) (xs ++ news) L' → Ch L w w' → (∀ x, x ∈ L' → x ∈ L ∨ w.heap.size ≤ x) → K v' w') : S.v P (Builtin.append_ #[t, t] ty #[v, src]) K w := by
  obtain ⟨v', w', L', hr, h1, h2, h3⟩ := run_append (ty := ty) T h hs h1 hb hm
  exact v_ok hr (k v' w' L' h1 h2 h3)

/-! ### The same as equations of the walk's words -/
theorem nilC_v {a : Addr} {K : Value → World → Prop} : S.v P (S.nilC (.pointer (some a))) K w = K (.pointer (some a)) w := v_eq (run_nilC a)
theorem nilC_p {a : Addr} {K : Value → World → Prop} : S.p P (S.nilC (.pointer (some a))) K w = K (.pointer (some a)) w := p_eq (run_nilC a)
theorem fa_v {s : TypeId} {i o b : Nat} (h : fieldOff P s i = some o) {K : Value → World → Prop} : S.v P (Instr.fieldAt s (.pointer (some ⟨b, 0, none⟩)) i) K w = K (.pointer (some ⟨b, o, none⟩)) w := v_eq (by have := run_fa (w := w) (b := b) (off := 0) h; rwa [Nat.zero_add] at this)
theorem fa_p {s : TypeId} {i o b : Nat} (h : fieldOff P s i = some o) {K : Value → World → Prop} : S.p P (Instr.fieldAt s (.pointer (some ⟨b, 0, none⟩)) i) K w = K (.pointer (some ⟨b, o, none⟩)) w := p_eq (by have := run_fa (w := w) (b := b) (off := 0) h; rwa [Nat.zero_add] at this)
theorem fag_v {s : TypeId} {i o b off : Nat} (h : fieldOff P s i = some o) {K : Value → World → Prop} : S.v P (Instr.fieldAt s (.pointer (some ⟨b, off, none⟩)) i) K w = K (.pointer (some ⟨b, off + o, none⟩)) w := v_eq (run_fa h)
theorem fag_p {s : TypeId} {i o b off : Nat} (h : fieldOff P s i = some o) {K : Value → World → Prop} : S.p P (Instr.fieldAt s (.pointer (some ⟨b, off, none⟩)) i) K w = K (.pointer (some ⟨b, off + o, none⟩)) w := p_eq (run_fa h)
theorem ld_v {t : TypeId} {a : Addr} {v : Value} (h : scal P t = true) (hc : w.cell? a = some v) {K : Value → World → Prop} : S.v P (Instr.loadAt t (.pointer (some a))) K w = K v w := v_eq (run_ld h hc)
theorem ld_p {t : TypeId} {a : Addr} {v : Value} (h : scal P t = true) (hc : w.cell? a = some v) {K : Value → World → Prop} : S.p P (Instr.loadAt t (.pointer (some a))) K w = K v w := p_eq (run_ld h hc)
theorem ldb_v {t : TypeId} {b off : Nat} {v : Value} {cs : Array Value} {e : TypeId} {fr : Nat × Nat} (h : scal P t = true) (hb : w.heap[b]? = some (.cells cs e fr)) (hv : cs[off]? = some v) {K : Value → World → Prop} : S.v P (Instr.loadAt t (.pointer (some ⟨b, off, none⟩))) K w = K v w := v_eq (run_ld h ((cell_heap hb).trans hv))
theorem ldb_p {t : TypeId} {b off : Nat} {v : Value} {cs : Array Value} {e : TypeId} {fr : Nat × Nat} (h : scal P t = true) (hb : w.heap[b]? = some (.cells cs e fr)) (hv : cs[off]? = some v) {K : Value → World → Prop} : S.p P (Instr.loadAt t (.pointer (some ⟨b, off, none⟩))) K w = K v w := p_eq (run_ld h ((cell_heap hb).trans hv))
theorem add_v {t : TypeId} {x y : Operand} {k : IntKind} {a b : Int} {K : Value → World → Prop} : S.v P (S.bin .add t x y (.int k a) (.int k b)) K w = K (.int k (k.wrap (a + b))) w := v_eq (run_add ..)
theorem add_p {t : TypeId} {x y : Operand} {k : IntKind} {a b : Int} {K : Value → World → Prop} : S.p P (S.bin .add t x y (.int k a) (.int k b)) K w = K (.int k (k.wrap (a + b))) w := p_eq (run_add ..)
theorem sub_v {t : TypeId} {x y : Operand} {k : IntKind} {a b : Int} {K : Value → World → Prop} : S.v P (S.bin .sub t x y (.int k a) (.int k b)) K w = K (.int k (k.wrap (a - b))) w := v_eq (run_sub ..)
theorem sub_p {t : TypeId} {x y : Operand} {k : IntKind} {a b : Int} {K : Value → World → Prop} : S.p P (S.bin .sub t x y (.int k a) (.int k b)) K w = K (.int k (k.wrap (a - b))) w := p_eq (run_sub ..)
theorem mul_v {t : TypeId} {x y : Operand} {k : IntKind} {a b : Int} {K : Value → World → Prop} : S.v P (S.bin .mul t x y (.int k a) (.int k b)) K w = K (.int k (k.wrap (a * b))) w := v_eq (run_mul ..)
theorem mul_p {t : TypeId} {x y : Operand} {k : IntKind} {a b : Int} {K : Value → World → Prop} : S.p P (S.bin .mul t x y (.int k a) (.int k b)) K w = K (.int k (k.wrap (a * b))) w := p_eq (run_mul ..)
theorem eq_v {t : TypeId} {x y : Operand} {k : IntKind} {a b : Int} {K : Value → World → Prop} : S.v P (S.bin .eql t x y (.int k a) (.int k b)) K w = K (.bool (decide (a = b))) w := v_eq (run_eq ..)
theorem eq_p {t : TypeId} {x y : Operand} {k : IntKind} {a b : Int} {K : Value → World → Prop} : S.p P (S.bin .eql t x y (.int k a) (.int k b)) K w = K (.bool (decide (a = b))) w := p_eq (run_eq ..)
theorem ne_v {t : TypeId} {x y : Operand} {k : IntKind} {a b : Int} {K : Value → World → Prop} : S.v P (S.bin .neq t x y (.int k a) (.int k b)) K w = K (.bool (decide (a ≠ b))) w := v_eq (run_ne ..)
theorem ne_p {t : TypeId} {x y : Operand} {k : IntKind} {a b : Int} {K : Value → World → Prop} : S.p P (S.bin .neq t x y (.int k a) (.int k b)) K w = K (.bool (decide (a ≠ b))) w := p_eq (run_ne ..)
theorem lt_v {t : TypeId} {x y : Operand} {k : IntKind} {a b : Int} {K : Value → World → Prop} : S.v P (S.bin .lss t x y (.int k a) (.int k b)) K w = K (.bool (decide (a < b))) w := v_eq (run_lt ..)
theorem lt_p {t : TypeId} {x y : Operand} {k : IntKind} {a b : Int} {K : Value → World → Prop} : S.p P (S.bin .lss t x y (.int k a) (.int k b)) K w = K (.bool (decide (a < b))) w := p_eq (run_lt ..)
theorem le_v {t : TypeId} {x y : Operand} {k : IntKind} {a b : Int} {K : Value → World → Prop} : S.v P (S.bin .leq t x y (.int k a) (.int k b)) K w = K (.bool (decide (a ≤ b))) w := v_eq (run_le ..)
theorem le_p {t : TypeId} {x y : Operand} {k : IntKind} {a b : Int} {K : Value → World → Prop} : S.p P (S.bin .leq t x y (.int k a) (.int k b)) K w = K (.bool (decide (a ≤ b))) w := p_eq (run_le ..)
theorem gt_v {t : TypeId} {x y : Operand} {k : IntKind} {a b : Int} {K : Value → World → Prop} : S.v P (S.bin .gtr t x y (.int k a) (.int k b)) K w = K (.bool (decide (b < a))) w := v_eq (run_gt ..)
theorem gt_p {t : TypeId} {x y : Operand} {k : IntKind} {a b : Int} {K : Value → World → Prop} : S.p P (S.bin .gtr t x y (.int k a) (.int k b)) K w = K (.bool (decide (b < a))) w := p_eq (run_gt ..)
theorem ge_v {t : TypeId} {x y : Operand} {k : IntKind} {a b : Int} {K : Value → World → Prop} : S.v P (S.bin .geq t x y (.int k a) (.int k b)) K w = K (.bool (decide (b ≤ a))) w := v_eq (run_ge ..)
theorem ge_p {t : TypeId} {x y : Operand} {k : IntKind} {a b : Int} {K : Value → World → Prop} : S.p P (S.bin .geq t x y (.int k a) (.int k b)) K w = K (.bool (decide (b ≤ a))) w := p_eq (run_ge ..)
theorem quo_v {t : TypeId} {x y : Operand} {k : IntKind} {a b : Int} (hb : b ≠ 0) {K : Value → World → Prop} : S.v P (S.bin .quo t x y (.int k a) (.int k b)) K w = K (.int k (k.wrap (a.tdiv b))) w := v_eq (run_quo _ _ _ _ _ _ hb)
theorem quo_p {t : TypeId} {x y : Operand} {k : IntKind} {a b : Int} (hb : b ≠ 0) {K : Value → World → Prop} : S.p P (S.bin .quo t x y (.int k a) (.int k b)) K w = K (.int k (k.wrap (a.tdiv b))) w := p_eq (run_quo _ _ _ _ _ _ hb)
theorem rem_v {t : TypeId} {x y : Operand} {k : IntKind} {a b : Int} (hb : b ≠ 0) {K : Value → World → Prop} : S.v P (S.bin .rem t x y (.int k a) (.int k b)) K w = K (.int k (a.tmod b)) w := v_eq (run_rem _ _ _ _ _ _ hb)
theorem rem_p {t : TypeId} {x y : Operand} {k : IntKind} {a b : Int} (hb : b ≠ 0) {K : Value → World → Prop} : S.p P (S.bin .rem t x y (.int k a) (.int k b)) K w = K (.int k (a.tmod b)) w := p_eq (run_rem _ _ _ _ _ _ hb)
theorem not_v {b : Bool} {K : Value → World → Prop} : S.v P (Op.unary .not (.bool b)) K w = K (.bool (!b)) w := v_eq (run_not b)
theorem not_p {b : Bool} {K : Value → World → Prop} : S.p P (Op.unary .not (.bool b)) K w = K (.bool (!b)) w := p_eq (run_not b)
theorem eqb_v {t : TypeId} {x y : Operand} {a b : Bool} (h : isBoolT P t = true) {K : Value → World → Prop} : S.v P (S.bin .eql t x y (.bool a) (.bool b)) K w = K (.bool (a == b)) w := v_eq (run_eqb h ..)
theorem eqb_p {t : TypeId} {x y : Operand} {a b : Bool} (h : isBoolT P t = true) {K : Value → World → Prop} : S.p P (S.bin .eql t x y (.bool a) (.bool b)) K w = K (.bool (a == b)) w := p_eq (run_eqb h ..)
theorem neb_v {t : TypeId} {x y : Operand} {a b : Bool} (h : isBoolT P t = true) {K : Value → World → Prop} : S.v P (S.bin .neq t x y (.bool a) (.bool b)) K w = K (.bool (!(a == b))) w := v_eq (run_neb h ..)
theorem neb_p {t : TypeId} {x y : Operand} {a b : Bool} (h : isBoolT P t = true) {K : Value → World → Prop} : S.p P (S.bin .neq t x y (.bool a) (.bool b)) K w = K (.bool (!(a == b))) w := p_eq (run_neb h ..)
theorem eqn_v {t : TypeId} {x y : Operand} {a : Option Addr} (h : isPtrT P t = true) {K : Value → World → Prop} : S.v P (S.bin .eql t x y (.pointer a) (.pointer none)) K w = K (.bool a.isNone) w := v_eq (run_eq_nil h ..)
theorem eqn_p {t : TypeId} {x y : Operand} {a : Option Addr} (h : isPtrT P t = true) {K : Value → World → Prop} : S.p P (S.bin .eql t x y (.pointer a) (.pointer none)) K w = K (.bool a.isNone) w := p_eq (run_eq_nil h ..)
theorem nen_v {t : TypeId} {x y : Operand} {a : Option Addr} (h : isPtrT P t = true) {K : Value → World → Prop} : S.v P (S.bin .neq t x y (.pointer a) (.pointer none)) K w = K (.bool a.isSome) w := v_eq (run_ne_nil h ..)
theorem nen_p {t : TypeId} {x y : Operand} {a : Option Addr} (h : isPtrT P t = true) {K : Value → World → Prop} : S.p P (S.bin .neq t x y (.pointer a) (.pointer none)) K w = K (.bool a.isSome) w := p_eq (run_ne_nil h ..)
theorem len_v {t e sz : Nat} {ty : TypeId} {A : Option Addr} {n c : Nat} (h : elT P t = some (e, sz)) {K : Value → World → Prop} : S.v P (Builtin.len_ #[t] ty #[.slice A n c]) K w = K (.int .i64 n) w := v_eq (run_len h _ _ rfl ..)
theorem len_p {t e sz : Nat} {ty : TypeId} {A : Option Addr} {n c : Nat} (h : elT P t = some (e, sz)) {K : Value → World → Prop} : S.p P (Builtin.len_ #[t] ty #[.slice A n c]) K w = K (.int .i64 n) w := p_eq (run_len h _ _ rfl ..)
theorem lens_v {t ty : TypeId} {s : ByteArray} (h : P.underlying t = some .string) {K : Value → World → Prop} : S.v P (Builtin.len_ #[t] ty #[.string s]) K w = K (.int .i64 s.size) w := v_eq (run_len_str h _ _ rfl ..)
theorem lens_p {t ty : TypeId} {s : ByteArray} (h : P.underlying t = some .string) {K : Value → World → Prop} : S.p P (Builtin.len_ #[t] ty #[.string s]) K w = K (.int .i64 s.size) w := p_eq (run_len_str h _ _ rfl ..)
theorem ia_v {t e sz : Nat} {g off n c : Nat} {k : IntKind} {i : Int} (h : elT P t = some (e, sz)) (h0 : 0 ≤ i) (h1 : i < n) {K : Value → World → Prop} : S.v P (Instr.indexAt t (.slice (some ⟨g, off, none⟩) n c) (.int k i)) K w = K (.pointer (some ⟨g, off + i.toNat * sz, none⟩)) w := v_eq (run_ia h k i h0 h1)
theorem ia_p {t e sz : Nat} {g off n c : Nat} {k : IntKind} {i : Int} (h : elT P t = some (e, sz)) (h0 : 0 ≤ i) (h1 : i < n) {K : Value → World → Prop} : S.p P (Instr.indexAt t (.slice (some ⟨g, off, none⟩) n c) (.int k i)) K w = K (.pointer (some ⟨g, off + i.toNat * sz, none⟩)) w := p_eq (run_ia h k i h0 h1)
theorem ixs_v {t : Nat} {s : ByteArray} {k : IntKind} {i : Int} {b : UInt8} (h : P.underlying t = some .string) (h0 : 0 ≤ i) (hb : s[i.toNat]? = some b) {K : Value → World → Prop} : S.v P (Instr.index t (.string s) (.int k i)) K w = K (.int .u8 b.toNat) w := v_eq (run_ix_str h s k i b h0 hb)
theorem ixs_p {t : Nat} {s : ByteArray} {k : IntKind} {i : Int} {b : UInt8} (h : P.underlying t = some .string) (h0 : 0 ≤ i) (hb : s[i.toNat]? = some b) {K : Value → World → Prop} : S.p P (Instr.index t (.string s) (.int k i)) K w = K (.int .u8 b.toNat) w := p_eq (run_ix_str h s k i b h0 hb)
theorem cutl_v {t e sz : Nat} {A : Option Addr} {n c : Nat} {k : IntKind} {i : Int} (h : elT P t = some (e, sz)) (l : Nat) (hi : i = l) (h1 : l ≤ n) (h2 : n ≤ c) {K : Value → World → Prop} : S.v P (Instr.sliceAt t (.slice A n c) (some (.int k i)) none none) K w = K (cutS sz A c l n) w := v_eq (by subst hi; exact run_cut h _ _ l n (.inr ⟨k, rfl⟩) (.inl ⟨rfl, rfl⟩) h1 h2)
theorem cutl_p {t e sz : Nat} {A : Option Addr} {n c : Nat} {k : IntKind} {i : Int} (h : elT P t = some (e, sz)) (l : Nat) (hi : i = l) (h1 : l ≤ n) (h2 : n ≤ c) {K : Value → World → Prop} : S.p P (Instr.sliceAt t (.slice A n c) (some (.int k i)) none none) K w = K (cutS sz A c l n) w := p_eq (by subst hi; exact run_cut h _ _ l n (.inr ⟨k, rfl⟩) (.inl ⟨rfl, rfl⟩) h1 h2)
theorem cutu_v {t e sz : Nat} {A : Option Addr} {n c : Nat} {k : IntKind} {i : Int} (h : elT P t = some (e, sz)) (u : Nat) (hi : i = u) (h2 : u ≤ c) {K : Value → World → Prop} : S.v P (Instr.sliceAt t (.slice A n c) none (some (.int k i)) none) K w = K (cutS sz A c 0 u) w := v_eq (by subst hi; exact run_cut h _ _ 0 u (.inl ⟨rfl, rfl⟩) (.inr ⟨k, rfl⟩) (Nat.zero_le _) h2)
theorem cutu_p {t e sz : Nat} {A : Option Addr} {n c : Nat} {k : IntKind} {i : Int} (h : elT P t = some (e, sz)) (u : Nat) (hi : i = u) (h2 : u ≤ c) {K : Value → World → Prop} : S.p P (Instr.sliceAt t (.slice A n c) none (some (.int k i)) none) K w = K (cutS sz A c 0 u) w := p_eq (by subst hi; exact run_cut h _ _ 0 u (.inl ⟨rfl, rfl⟩) (.inr ⟨k, rfl⟩) (Nat.zero_le _) h2)
theorem cutlu_v {t e sz : Nat} {A : Option Addr} {n c : Nat} {k k' : IntKind} {i j : Int} (h : elT P t = some (e, sz)) (l u : Nat) (hi : i = l) (hj : j = u) (h1 : l ≤ u) (h2 : u ≤ c) {K : Value → World → Prop} : S.v P (Instr.sliceAt t (.slice A n c) (some (.int k i)) (some (.int k' j)) none) K w = K (cutS sz A c l u) w := v_eq (by subst hi hj; exact run_cut h _ _ l u (.inr ⟨k, rfl⟩) (.inr ⟨k', rfl⟩) h1 h2)
theorem cutlu_p {t e sz : Nat} {A : Option Addr} {n c : Nat} {k k' : IntKind} {i j : Int} (h : elT P t = some (e, sz)) (l u : Nat) (hi : i = l) (hj : j = u) (h1 : l ≤ u) (h2 : u ≤ c) {K : Value → World → Prop} : S.p P (Instr.sliceAt t (.slice A n c) (some (.int k i)) (some (.int k' j)) none) K w = K (cutS sz A c l u) w := p_eq (by subst hi hj; exact run_cut h _ _ l u (.inr ⟨k, rfl⟩) (.inr ⟨k', rfl⟩) h1 h2)
theorem ext_v {vs : Array Value} {i : Nat} {v : Value} (h : vs[i]? = some v) {K : Value → World → Prop} : S.v P (Instr.extract (.tuple vs) i) K w = K v w := v_eq (by simp [Instr.extract, h, go_sem])
theorem ext_p {vs : Array Value} {i : Nat} {v : Value} (h : vs[i]? = some v) {K : Value → World → Prop} : S.p P (Instr.extract (.tuple vs) i) K w = K v w := p_eq (by simp [Instr.extract, h, go_sem])
end
end Go.Fw
