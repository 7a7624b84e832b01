/- MacroDoes: each answer of a queue and of a recorder is the reference's: where what it reads is of bulk at most 1048576 the law returns true and leaves its argument as it was. -/
import Derived.Test.YthpbiliajcameaaRows
import Derived.Test.YthpbiliajcameaaD8
import Derived.Test.YthpbiliajcameaaFwRow
import Derived.Deep.Matrix
import Derived.JoinedCond
set_option linter.unusedVariables false
namespace Go.Proofs.Ythpbiliajcameaa
open Go Go.Fw Go.Proofs Go.RowKit Go.ChangeShapes Go.WideShapes Go.ChangeAt
theorem own : ownKnob Try.prog.godebug = none := by kernel_rfl
theorem laidOut : laidOutB Try.prog = true := by kernel_rfl
def rowB (zs : List Int) (len : Nat) : List UInt8 := (zs.take len).map fun z => UInt8.ofNat z.toNat
theorem rb_of_row {w : World} {a : Option Addr} {len cap : Nat} {zs : List Int} (h : IsRow .u8 w a len cap zs) : (rowB zs len).length = len ∧ RB w w.heap.size (.slice a len cap) (rowB zs len) := by
  have hr := h.rd
  have hz : (zs.take len).map (Value.int .u8) = bytesV (rowB zs len) := by
    unfold bytesV rowB
    rw [List.map_map]
    refine List.map_congr_left fun z hz => ?_
    have hm : z ∈ zs := List.mem_of_mem_take hz
    have hwf : (Lit.int .u8 z).wf = true := by
      rcases h with ⟨_, _, _, rfl⟩ | ⟨_, _, _, _, _, _, h5⟩
      · cases hm
      · exact h5 z hm
    have hb : 0 ≤ z ∧ z ≤ 255 := by
      simp [Lit.wf, IntKind.min, IntKind.max, IntKind.signed, IntKind.bits] at hwf
      omega
    have : (UInt8.ofNat z.toNat).toNat = z.toNat := by simp; omega
    simp only [Function.comp, byteV, this]
    congr 1
    omega
  have hl : (rowB zs len).length = len := by
    have := hr.len
    simpa [rowB] using this
  refine ⟨hl, ?_⟩
  unfold RB
  rw [hl, ← hz]
  exact hr
theorem one_le {H : Type} (d : DataW H) : 1 ≤ Rows.uptoBulk d := by
  cases d with
  | lit l => cases l <;> simp [Rows.uptoBulk]
  | nil => simp [Rows.uptoBulk]
  | ptr d => simp [Rows.uptoBulk]
  | slice elems spare => simp [Rows.uptoBulk]
  | agg parts => simp [Rows.uptoBulk]
  | iface t d => simp [Rows.uptoBulk]
  | map entries => simp [Rows.uptoBulk]
  | held h => simp [Rows.uptoBulk]
theorem length_le {H : Type} (l : List (DataW H)) : l.length ≤ Rows.uptoBulkAll l := by
  induction l with
  | nil => simp [Rows.uptoBulkAll]
  | cons x r ih => have := one_le x; simp only [Rows.uptoBulkAll, List.length_cons]; omega
theorem flatO_at : ∀ (l : List OpT) (j : Nat) (u : Value), (flatO l)[j]? = some u → ∃ i x, l[i]? = some x ∧ ((j = i * 2 + 0 ∧ u = .int .i64 x.1) ∨ (j = i * 2 + 1 ∧ u = x.2.1))
  | [], j, u, h => by simp [flatO] at h
  | x :: r, 0, u, h => ⟨0, x, rfl, .inl ⟨rfl, by simpa [flatO] using h.symm⟩⟩
  | x :: r, 1, u, h => ⟨0, x, rfl, .inr ⟨rfl, by simpa [flatO] using h.symm⟩⟩
  | x :: r, j + 2, u, h => by
    obtain ⟨i, y, h1, h2⟩ := flatO_at r j u (by simpa [flatO] using h)
    refine ⟨i + 1, y, by simpa using h1, ?_⟩
    rcases h2 with ⟨hj, hu⟩ | ⟨hj, hu⟩
    · exact .inl ⟨by omega, hu⟩
    · exact .inr ⟨by omega, hu⟩
theorem bsum_map {H : Type} (Y : Nat → OpT) (D : Nat → DataW H) : ∀ (R : List Nat), (∀ r ∈ R, (Y r).2.2.length ≤ Rows.uptoBulk (D r)) → bsum (R.map Y) ≤ Rows.uptoBulkAll (R.map D)
  | [], _ => by simp [bsum]
  | r :: R, h => by
    have h1 := h r (by simp)
    have h2 := bsum_map Y D R (fun x hx => h x (by simp [hx]))
    simp only [List.map_cons, bsum, Rows.uptoBulkAll]
    omega
section
variable {H : Type} {enc : TypeId × Value → H} {w : World}
theorem by_of_trod {fuel : Nat} {v : Value} {x : DataW H × List MemPlace} (h : DataW.trod enc Try.prog w 0 (fun _ => true) true fuel 22 [v] = some x) : ∃ bs, RB w w.heap.size v bs ∧ bs.length ≤ Rows.uptoBulk x.1 := by
  rcases open_ints Try.underlying22 Try.underlying5 (by kernel_rfl) h with ⟨hcs, hx⟩ | ⟨a, l, c, zs, hcs, _, hl, hm, hz, hx, hcell, hwz⟩
  · injection hcs with hcs _
    subst hcs
    exact ⟨[], ⟨rfl, none, 0, rfl, Nat.le_refl _, Nat.zero_le _, fun h => absurd h (by simp), fun b off h => by cases h⟩, by simp⟩
  · injection hcs with hcs _
    subst hcs
    have hrow : IsRow .u8 w (some a) l c zs := .inr ⟨_, rfl, hl, hm, by simpa using hz, hcell, hwz⟩
    obtain ⟨h1, h2⟩ := rb_of_row hrow
    refine ⟨_, h2, ?_⟩
    rw [h1, hx]
    have hzl : zs.length = c := by simpa using hz
    have := length_le (H := H) (lits .u8 (zs.take l))
    have e : (lits (H := H) .u8 (zs.take l)).length = l := by simp [lits]; omega
    rw [e] at this
    simp only [Rows.uptoBulk]
    omega
theorem op_of_trod {fuel : Nat} {cs : List Value} {x : DataW H × List MemPlace} (h : DataW.trod enc Try.prog w 0 (fun _ => true) true fuel 51 cs = some x) : ∃ y : OpT, cs = [.int .i64 y.1, y.2.1] ∧ RB w w.heap.size y.2.1 y.2.2 ∧ y.2.2.length ≤ Rows.uptoBulk x.1 := by
  obtain ⟨y0, y1, n, hx, hl, h0, h1⟩ := trod_struct2 Try.underlying51 h
  have hl2 : cs.length = 2 := hl.trans (by kernel_rfl)
  match cs, hl2 with
  | [c0, c1], _ =>
    have e0 : Try.prog.cellsOf 3 = 1 := by kernel_rfl
    have e1 : Try.prog.cellsOf 22 = 1 := by kernel_rfl
    simp only [List.drop_zero, e0, e1, List.take_succ_cons, List.take_zero, List.drop_succ_cons] at h0 h1
    obtain ⟨n', hn, _⟩ := DataW.trod_int Try.underlying3 h0
    obtain ⟨bs, hb, hbl⟩ := by_of_trod h1
    injection hn with hn _
    subst hn
    refine ⟨(n', c1, bs), rfl, hb, ?_⟩
    rw [hx]
    simp only [Rows.uptoBulk, Rows.uptoBulkAll]
    omega
theorem ops_of_trod {fuel : Nat} {v : Value} {x : DataW H × List MemPlace} (h : DataW.trod enc Try.prog w 0 (fun _ => true) true fuel 40 [v] = some x) : ∃ l, OpL w w.heap.size v l ∧ bsum l ≤ Rows.uptoBulk x.1 := by
  rcases Go.Deep.open_slice Try.underlying40 h with ⟨hcs, hx⟩ | ⟨a, len, cap, m, n, D, Pl, hcs, _, hl, hm, hmm, hx, hel⟩
  · injection hcs with hcs _
    subst hcs
    exact ⟨[], ⟨⟨rfl, none, 0, rfl, Nat.le_refl _, Nat.zero_le _, fun h => absurd h (by simp), fun b off h => by cases h⟩, fun x hx => by cases hx⟩, by simp [bsum]⟩
  · injection hcs with hcs _
    subst hcs
    simp only [if_true] at hmm
    subst hmm
    have e51 : Try.prog.cellsOf 51 = 2 := by kernel_rfl
    rw [e51] at hel
    have each : ∀ i, i < m → ∃ y : OpT, (w.cell? ((a.add (i * 2)).add 0) = some (.int .i64 y.1) ∧ w.cell? ((a.add (i * 2)).add 1) = some y.2.1) ∧ RB w w.heap.size y.2.1 y.2.2 ∧ y.2.2.length ≤ Rows.uptoBulk (D i) := fun i hi => by
      obtain ⟨cs', h1, h2⟩ := hel i hi
      obtain ⟨y, rfl, hy⟩ := op_of_trod h2
      obtain ⟨_, _, hc⟩ := World.cells?_some h1
      exact ⟨y, ⟨hc 0 (by omega), hc 1 (by omega)⟩, hy⟩
    obtain ⟨Y, hY⟩ := Go.Deep.choose_lt each
    have hlen : ((List.range len).map Y).length = len := by simp
    have hx0 : ∀ z : Addr, z.add 0 = z := fun z => by simp [Addr.add]
    have ha : 0 < len → a = ⟨a.block, a.off, none⟩ ∧ a.block < w.heap.size := fun hn => by
      have hc := (hY 0 (by omega)).1.1
      rw [Nat.zero_mul, hx0, hx0] at hc
      exact ⟨mk_of_cell hc, World.block_lt_of_cell? w a hc⟩
    refine ⟨(List.range len).map Y, ⟨⟨by rw [flatO_length], some a, m, by rw [hlen], by rw [hlen]; exact hl, hm, fun hn => ?_, fun b off hA j u hu => ?_⟩, fun y hy => ?_⟩, ?_⟩
    · rw [hlen] at hn
      obtain ⟨h1, h2⟩ := ha hn
      exact ⟨a.block, a.off, by rw [← h1], h2⟩
    · injection hA with hA
      subst hA
      obtain ⟨i, y, hi, hor⟩ := flatO_at _ _ _ hu
      have hlt := (List.getElem?_eq_some_iff.1 hi).1
      simp only [List.length_map, List.length_range] at hlt
      simp only [List.getElem?_map, List.getElem?_range hlt, Option.map_some, Option.some.injEq] at hi
      subst hi
      have hc := (hY i (by omega)).1
      rw [add_mk, add_mk, add_mk] at hc
      rcases hor with ⟨rfl, rfl⟩ | ⟨rfl, rfl⟩
      · rw [← Nat.add_assoc]; exact hc.1
      · rw [← Nat.add_assoc]; exact hc.2
    · obtain ⟨i, hi, rfl⟩ := List.mem_map.1 hy
      have hi := List.mem_range.1 hi
      exact (hY i (by omega)).2.1
    · rw [hx]
      have := bsum_map Y D (List.range len) (fun r hr => (hY r (by have := List.mem_range.1 hr; omega)).2.2)
      simp only [Rows.uptoBulk]
      omega
end
set_option maxRecDepth 100000 in
theorem macroDoes_lifted (os : Os) (started : os.Started) (H : Type) (enc : TypeId × Value → H) (F : Stop.Interp) :
    ReturnsInHanded {} Try.checked os 5 .any ((Rows.OpenSpec.upto Rows.macroDoesSpec).pre6 enc Try.prog Try.f5 Rows.macroDoesUptoRow.domain false) (((Rows.OpenSpec.upto Rows.macroDoesSpec).at F).post enc Try.prog Try.f5 false true false false) := by
  refine returnsInHanded_of_cond (C := Try.checked) (s := Rows.OpenSpec.upto Rows.macroDoesSpec) (k := Rows.uptoSmall) rfl own started (by kernel_rfl) Try.func5
    (OpenSpec.witness (enc := enc) (C := Try.checked) (s := Rows.OpenSpec.upto Rows.macroDoesSpec) (k := Rows.uptoSmall) rfl false ⟨#[], #[.slice none 0 0], []⟩ 8 (by kernel_rfl) (by kernel_rfl) (by kernel_rfl) (x := ([.nil], [], [])) (by kernel_rfl) (by kernel_rfl) (by kernel_rfl)) ?_
  intro W base args ds gs before hval0 hW hcnd hk _
  have hval : ∀ (j : Nat) t v, Try.f5.params[j]? = some t → args[j]? = some v → Value.okWide Try.prog W .any base t v := hval0
  have hW' := hW
  obtain ⟨p, q, hA0, hV, rfl, hfz, hnd⟩ := hW
  have hA : DataW.TrodAll enc Try.prog W 0 (fun _ => true) true Try.f5.params.toList args.toList ds p := hA0
  rw [Try.params5] at hA hval
  obtain ⟨v0, vs0, d0, ds0, p0, q0, hargs, rfl, rfl, h0, r0⟩ := trodAll_cons hA
  obtain ⟨rfl, rfl, rfl⟩ := trodAll_nil r0
  obtain rfl : args = #[v0] := by cases args; simp_all
  obtain ⟨rfl, rfl⟩ := trodVars_none hV
  have lt0 : ∀ x ∈ p0, x.block < W.heap.size := by obtain ⟨m, hm⟩ := h0; exact DataW.trod_lt m _ _ _ hm
  obtain ⟨a0, len0, cap0, rfl⟩ := okWide_slice Try.underlying40 (hval 0 40 v0 rfl rfl)
  have k0 := h0
  obtain ⟨fu0, t0⟩ := h0
  obtain ⟨l0, hl0, hle0⟩ := ops_of_trod t0
  simp only at hle0
  have hb : Rows.uptoBulkAll ([d0] ++ []) ≤ 1048576 := of_decide_eq_true hk
  simp only [List.append_nil, Rows.uptoBulkAll] at hb
  clear hA0 hval0
  have hcall := does_ (K := fun v w' => v = .bool true ∧ Ch [] W w') hl0 (by omega) (fun w' hc => ⟨rfl, hc⟩)
  refine Calls.mono hcall fun e W' he => ?_
  cases e with
  | panicked c => exact he.elim
  | outgrown => exact he.elim
  | returned v =>
    obtain ⟨rfl, hc⟩ := he
    have bel : Below W.heap.size W W' := hc.below (Nat.le_refl _) (by simp)
    refine ⟨_, rfl, ?_⟩
    simp only [List.append_nil] at hW'
    exact ⟨_, _, _, [], _, [], hW', trodAll_mk1 (shut_bool Try.underlying4 _), trodAll_mk1 (Below.trod laidOut (by kernel_rfl) (of_decide_eq_true (by kernel_rfl)) k0 bel lt0), rfl, bel.frame _, fun h => by cases h⟩
theorem macroDoesUpto_holds : Rows.MacroDoesUptoSaid :=
  OpenClaim.holds_of_cond 5 Try.f5 rfl rfl rfl rfl rfl rfl rfl ⟨rfl, rfl, rfl, rfl, rfl⟩ rfl rfl rfl rfl rfl (by kernel_rfl) Try.func5 (by kernel_rfl)
    (of_decide_eq_true (by kernel_rfl)) (by unfold Func.isWrapper; first | (rw [if_pos (by decide +kernel)]; kernel_rfl) | (rw [if_neg (by decide +kernel)]; exact ⟨rfl, rfl⟩))
    (fun os started H enc _ F => macroDoes_lifted os started H enc F)
#print axioms macroDoesUpto_holds
end Go.Proofs.Ythpbiliajcameaa
