import Derived.Test.YtjaoeipfiodnfaaDoorFwOps3
import Derived.Test.YtjaoeipfiodnfaaDoorFwStr
import Derived.Laws.StructEq
import Derived.Laws.Cells
namespace Go.Fw
open Go.RowKit
section
variable {P : Program} {w : World}
/-! ### Structs -/
def aggSz (P : Program) (t : TypeId) : Option Nat :=
  match P.underlying t with
  | some (.struct _) => (P.info? t).map (·.size)
  | _ => none
theorem aggSz_spec {t sz : Nat} (h : aggSz P t = some sz) : (∃ fs, P.underlying t = some (.struct fs)) ∧ ∃ i, P.info? t = some i ∧ i.size = sz := by
  unfold aggSz at h
  split at h
  · rename_i fs hu
    cases hi : P.info? t with
    | none => simp [hi] at h
    | some i =>
      simp only [hi, Option.map_some, Option.some.injEq] at h
      exact ⟨⟨fs, hu⟩, i, rfl, h⟩
  · cases h
theorem run_isAgg {t sz : Nat} (h : aggSz P t = some sz) : (isAgg t).run P w = .ok true w := by
  obtain ⟨⟨fs, hu⟩, _⟩ := aggSz_spec h
  unfold isAgg
  rw [Sem.run_bind, run_underlying hu w]
  rfl
theorem run_sizeOf_agg {t sz : Nat} (h : aggSz P t = some sz) : (sizeOf t).run P w = .ok sz w := by
  obtain ⟨_, i, hi, hs⟩ := aggSz_spec h
  simp [sizeOf, typeInfo, hi, hs, go_sem]
theorem run_loadVar_agg {t sz : Nat} (h : aggSz P t = some sz) {a : Addr} {vs : List Value} (hl : vs.length = sz) (hc : ∀ (j : Nat) (v : Value), vs[j]? = some v → w.cell? (a.add j) = some v) :
    (loadVar t a).run P w = .ok (.agg vs.toArray) w := by
  unfold loadVar
  simp only [Sem.run_bind, run_isAgg h, Result.andThen_ok, if_true, run_sizeOf_agg h]
  have := run_loadCells_list (P := P) (w := w) a vs hc
  rw [hl] at this
  rw [this]; rfl
theorem run_lda {t sz : Nat} (h : aggSz P t = some sz) {a : Addr} {vs : List Value} (hl : vs.length = sz) (hc : ∀ (j : Nat) (v : Value), vs[j]? = some v → w.cell? (a.add j) = some v) :
    (Instr.loadAt t (.pointer (some a))).run P w = .ok (.agg vs.toArray) w := by
  unfold Instr.loadAt
  simp only [Instr.sureAddr, Sem.run_bind, Sem.run_pure, Result.andThen_ok, run_loadVar_agg h hl hc]
theorem block_cells {b : Nat} {vs : List Value} {e : TypeId} {fr : Nat × Nat} (h : w.heap[b]? = some (.cells vs.toArray e fr)) : ∀ (j : Nat) (v : Value), vs[j]? = some v → w.cell? ((⟨b, 0, none⟩ : Addr).add j) = some v := fun j v hv => by
  rw [add_mk, cell_heap h, Nat.zero_add]; simpa using hv
/-- A whole variable is read. -/
theorem ldw_v {t sz b : Nat} {vs : Array Value} {e : TypeId} {fr : Nat × Nat} {K : Value → World → Prop} (h : aggSz P t = some sz) (hb : w.heap[b]? = some (.cells vs e fr)) (hl : vs.size = sz) :
    S.v P (Instr.loadAt t (.pointer (some ⟨b, 0, none⟩))) K w = K (.agg vs) w := v_eq (run_lda (vs := vs.toList) h (by simpa using hl) (block_cells (by simpa using hb)))
theorem ldw_p {t sz b : Nat} {vs : Array Value} {e : TypeId} {fr : Nat × Nat} {K : Value → World → Prop} (h : aggSz P t = some sz) (hb : w.heap[b]? = some (.cells vs e fr)) (hl : vs.size = sz) :
    S.p P (Instr.loadAt t (.pointer (some ⟨b, 0, none⟩))) K w = K (.agg vs) w := p_eq (run_lda (vs := vs.toList) h (by simpa using hl) (block_cells (by simpa using hb)))
/-- A result that is a whole variable. -/
theorem ldR_p {t sz b : Nat} {vs : Array Value} {e : TypeId} {fr : Nat × Nat} {K : Value → World → Prop} (h : aggSz P t = some sz) (hb : w.heap[b]? = some (.cells vs e fr)) (hl : vs.size = sz) :
    S.p P (S.ldR t (.pointer (some ⟨b, 0, none⟩))) K w = K (.agg vs) w := p_eq (by
  unfold S.ldR
  have := run_loadVar_agg (P := P) (w := w) (a := ⟨b, 0, none⟩) (vs := vs.toList) h (by simpa using hl) (block_cells (by simpa using hb))
  simpa [asAddr, go_sem] using this)
theorem ldRs_p {t : Nat} {a : Addr} {v : Value} {K : Value → World → Prop} (h : scal P t = true) (hc : w.cell? a = some v) :
    S.p P (S.ldR t (.pointer (some a))) K w = K v w := p_eq (by
  have := run_ld (P := P) (w := w) h hc
  unfold Instr.loadAt at this
  unfold S.ldR
  simpa [asAddr, Instr.sureAddr, go_sem] using this)
/-- A whole variable is written. -/
theorem stw {t sz b : Nat} {vs cs : Array Value} {e : TypeId} {K : World → Prop} (h : aggSz P t = some sz) (hb : w.heap[b]? = some (.cells cs e (0, 0))) (hc : cs.size = sz) (hl : vs.size = sz) (h1 : ∀ u ∈ vs.toList, u.oneCell' = true)
    (k : ∀ w' : World, w'.heap[b]? = some (.cells vs e (0, 0)) → Ch [b] w w' → w'.heap.size = w.heap.size → K w') : S.u P (Instr.storeAt t (.pointer (some ⟨b, 0, none⟩)) (.agg vs)) K w := by
  have hst := run_storeCells_at P b 0 e vs.toList 0 cs w hb (by simp; omega) h1
  simp only [Nat.add_zero] at hst
  have hcur : (cs.toList.take 0 ++ vs.toList ++ cs.toList.drop (0 + vs.toList.length)).toArray = vs := by
    apply Array.ext'
    simp [List.drop_eq_nil_of_le (show cs.toList.length ≤ vs.size by simp; omega)]
  have hb0 : (⟨b, 0, none⟩ : Addr) = ⟨b, 0 + 0, none⟩ := rfl
  refine u_ok (w' := w.setRow b vs) ?_ (k _ (setRow_heap w b cs vs e _ hb) (ch_setRow w b vs) (by simp))
  rw [hcur] at hst
  unfold Instr.storeAt storeVar
  have hcells : (Value.agg vs).cells = vs := rfl
  simp only [Instr.sureAddr, Sem.run_bind, Sem.run_pure, Result.andThen_ok, run_sizeOf_agg h, hcells]
  rw [if_neg (by omega)]
  exact hst
/-- A variable comes. -/
def zeroT (P : Program) (t : TypeId) : Option Value := (P.info? t).bind (·.zero)
theorem al {t : TypeId} {z : Value} {K : Value → World → Prop} (hz : zeroT P t = some z)
    (k : ∀ w' : World, w'.heap[w.heap.size]? = some (.cells z.cells t (0, 0)) → Ch [] w w' → w'.heap.size = w.heap.size + 1 → K (.pointer (some ⟨w.heap.size, 0, none⟩)) w') : S.v P (Instr.alloc t true (.tuple #[])) K w := by
  unfold zeroT at hz
  cases hi : P.info? t with
  | none => simp [hi] at hz
  | some i =>
    simp only [hi, Option.bind_some] at hz
    refine v_ok (w' := w.alloc (.cells z.cells t)) ?_ (k _ (heap_alloc_new w _) (ch_alloc w _) (by simp))
    simp [Instr.alloc, zeroValue, typeInfo, hi, hz, newVar, newRow, newObj, go_sem]
    rfl
theorem Rd.atN {B sz n c j : Nat} {A : Option Addr} {xs : List Value} (h : Rd w B sz (.slice A n c) n xs) (hj : j < n) (hp : 0 < sz) : ∃ g off, A = some ⟨g, off, none⟩ ∧ ∀ (i : Nat) (u : Value), xs[j * sz + i]? = some u → w.cell? ⟨g, off + j * sz + i, none⟩ = some u := by
  obtain ⟨A', c', he, _, _, h4, h5⟩ := h.form
  injection he with he _ he2
  subst he
  obtain ⟨g, off, rfl, hg⟩ := h4 (by omega)
  exact ⟨g, off, rfl, fun i u hu => by rw [Nat.add_assoc]; exact h5 g off rfl _ _ hu⟩
/-- An element that is a struct is read. -/
theorem ixa_v {t e s B sz n j : Nat} {v : Value} {xs ys : List Value} {k : IntKind} {i : Int} {K : Value → World → Prop} (ht : elT P t = some (e, sz)) (hs : aggSz P s = some sz) (h : Rd w B sz v n xs) (hp : 0 < sz) (hi : i = j) (hj : j < n) (hy : (xs.drop (j * sz)).take sz = ys) :
    S.v P (Instr.indexAt t v (.int k i)) (fun p w => S.v P (Instr.loadAt s p) K w) w = K (.agg ys.toArray) w := by
  subst hi hy
  obtain ⟨A, c, rfl, h2, h3, _⟩ := h.form
  obtain ⟨g, off, rfl, hcell⟩ := h.atN hj hp
  have hl := h.len
  have hm : (j + 1) * sz ≤ n * sz := Nat.mul_le_mul_right _ hj
  rw [Nat.add_mul, Nat.one_mul] at hm
  rw [ia_v ht (by omega) (by omega), Int.toNat_natCast]
  exact v_eq (run_lda hs (by rw [List.length_take, List.length_drop]; omega) fun m u hu => by
    have hlt := (List.getElem?_eq_some_iff.1 hu).1
    rw [List.length_take] at hlt
    rw [List.getElem?_take_of_lt (by omega), List.getElem?_drop] at hu
    rw [add_mk]; exact hcell m u hu)
theorem ixa_p {t e s B sz n j : Nat} {v : Value} {xs ys : List Value} {k : IntKind} {i : Int} {K : Value → World → Prop} (ht : elT P t = some (e, sz)) (hs : aggSz P s = some sz) (h : Rd w B sz v n xs) (hp : 0 < sz) (hi : i = j) (hj : j < n) (hy : (xs.drop (j * sz)).take sz = ys) :
    S.p P (Instr.indexAt t v (.int k i)) (fun p w => S.p P (Instr.loadAt s p) K w) w = K (.agg ys.toArray) w := by
  subst hi hy
  obtain ⟨A, c, rfl, h2, h3, _⟩ := h.form
  obtain ⟨g, off, rfl, hcell⟩ := h.atN hj hp
  have hl := h.len
  have hm : (j + 1) * sz ≤ n * sz := Nat.mul_le_mul_right _ hj
  rw [Nat.add_mul, Nat.one_mul] at hm
  rw [ia_p ht (by omega) (by omega), Int.toNat_natCast]
  exact p_eq (run_lda hs (by rw [List.length_take, List.length_drop]; omega) fun m u hu => by
    have hlt := (List.getElem?_eq_some_iff.1 hu).1
    rw [List.length_take] at hlt
    rw [List.getElem?_take_of_lt (by omega), List.getElem?_drop] at hu
    rw [add_mk]; exact hcell m u hu)
/-- A field of an element is read. -/
theorem ixf_v {t e s s' B sz n j f o : Nat} {v u : Value} {xs : List Value} {k : IntKind} {i : Int} {K : Value → World → Prop} (ht : elT P t = some (e, sz)) (hf : fieldOff P s f = some o) (hs : scal P s' = true) (h : Rd w B sz v n xs) (hp : 0 < sz) (hi : i = j) (hj : j < n) (hy : xs[j * sz + o]? = some u) :
    S.v P (Instr.indexAt t v (.int k i)) (fun p w => S.v P (Instr.fieldAt s p f) (fun q w => S.v P (Instr.loadAt s' q) K w) w) w = K u w := by
  subst hi
  obtain ⟨A, c, rfl, h2, h3, _⟩ := h.form
  obtain ⟨g, off, rfl, hcell⟩ := h.atN hj hp
  rw [ia_v ht (by omega) (by omega), Int.toNat_natCast, fag_v hf, ld_v hs (hcell o u hy)]
/-- A slice held against nil. -/
theorem run_eqsl {t e sz : Nat} (h : elT P t = some (e, sz)) (x y : Operand) (A : Option Addr) (n c : Nat) : (S.bin .eql t x y (.slice A n c) (.slice none 0 0)).run P w = .ok (.bool A.isNone) w := by
  refine run_eql_of x y rfl rfl fun d => ?_
  unfold Op.equalIn
  rw [Sem.run_bind, run_underlying (elT_spec h).1]
  cases A <;> rfl
theorem eqsl_v {t e sz : Nat} {K : Value → World → Prop} (h : elT P t = some (e, sz)) {x y : Operand} {A : Option Addr} {n c : Nat} : S.v P (S.bin .eql t x y (.slice A n c) (.slice none 0 0)) K w = K (.bool A.isNone) w := v_eq (run_eqsl h ..)
theorem run_nesl {t e sz : Nat} (h : elT P t = some (e, sz)) (x y : Operand) (A : Option Addr) (n c : Nat) : (S.bin .neq t x y (.slice A n c) (.slice none 0 0)).run P w = .ok (.bool A.isSome) w := by
  have : A.isSome = !A.isNone := by cases A <;> rfl
  rw [this]
  refine run_neq_of x y rfl rfl fun d => ?_
  unfold Op.equalIn
  rw [Sem.run_bind, run_underlying (elT_spec h).1]
  cases A <;> rfl
theorem nesl_v {t e sz : Nat} {K : Value → World → Prop} (h : elT P t = some (e, sz)) {x y : Operand} {A : Option Addr} {n c : Nat} : S.v P (S.bin .neq t x y (.slice A n c) (.slice none 0 0)) K w = K (.bool A.isSome) w := v_eq (run_nesl h ..)
/-! ### Function values -/
theorem callV_run {f : Nat} {first cap : Array Value} {args : List Value} {fn : Func} (h : P.funcs[f]? = some fn) (hn : fn.name ≠ "runtime.NumGoroutine") (hb : fn.body.isSome = true) :
    (S.callV (.func (.func f) first cap) args).run P w = .ok (.enter f (first ++ args.toArray ++ cap)) w := by
  unfold S.callV
  simp only [Deferred.ofValue, Sem.run_bind, Sem.run_pure, Result.andThen_ok, invoke]
  exact run_callFunc f _ w h hn hb
theorem ent_func {f : Nat} {first cap : List Value} {args : List Value} {fn : Func} {K : Value → World → Prop} (h : P.funcs[f]? = some fn) (hn : fn.name ≠ "runtime.NumGoroutine") (hb : fn.body.isSome = true) (k : S.call P f (first ++ args ++ cap) K w) :
    S.ent P (.func (.func f) first.toArray cap.toArray) args K w := by
  unfold S.ent
  rw [callV_run h hn hb]
  have : first.toArray ++ args.toArray ++ cap.toArray = (first ++ args ++ cap).toArray := by simp
  simp only [this]
  exact k
theorem nxV_func {f : Nat} {first cap : List Value} {args : List Value} {fn : Func} {K : Value → World → Prop} (h : P.funcs[f]? = some fn) (hn : fn.name ≠ "runtime.NumGoroutine") (hb : fn.body.isSome = true) (k : S.call P f (first ++ args ++ cap) K w) :
    S.nx P (S.callV (.func (.func f) first.toArray cap.toArray) args) K w := by
  unfold S.nx
  rw [callV_run h hn hb]
  have : first.toArray ++ args.toArray ++ cap.toArray = (first ++ args ++ cap).toArray := by simp
  simp only [this]
  exact k
theorem mf_v {fn : Fn} {first cap : Array Value} {K : Value → World → Prop} : S.v P (Instr.makeFunc fn first cap) K w = K (.func fn first cap) w := rfl
end
end Go.Fw
