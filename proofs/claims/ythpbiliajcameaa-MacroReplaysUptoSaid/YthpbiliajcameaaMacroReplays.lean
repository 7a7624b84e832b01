/- MacroReplays: a macro that was recorded, and is pushed, is read as it was recorded: where what it reads is of bulk at most 1048576 the law returns true and leaves its argument as it was. -/
import Derived.Test.YthpbiliajcameaaRows
import Derived.Test.YthpbiliajcameaaJ2
import Derived.Test.YthpbiliajcameaaFwRow
import Derived.Deep.Matrix
import Derived.JoinedCond
set_option linter.unusedVariables false
namespace Go.Proofs.Ythpbiliajcameaa
open Go Go.Fw Go.Proofs Go.RowKit Go.ChangeShapes Go.WideShapes Go.ChangeAt
theorem own : ownKnob Try.prog.godebug = none := by kernel_rfl
theorem laidOut : laidOutB Try.prog = true := by kernel_rfl
def rowB (zs : List Int) (len : Nat) : List UInt8 := (zs.take len).map fun z => UInt8.ofNat z.toNat
theorem rb_of_row {w : World} {a : Option Addr} {len cap : Nat} {zs : List Int} (h : IsRow .u8 w a len cap zs) : (rowB zs len).length = len ∧ RB w w.heap.size (.slice a len cap) (rowB zs len) := by
  have hr := h.rd
  have hz : (zs.take len).map (Value.int .u8) = bytesV (rowB zs len) := by
    unfold bytesV rowB
    rw [List.map_map]
    refine List.map_congr_left fun z hz => ?_
    have hm : z ∈ zs := List.mem_of_mem_take hz
    have hwf : (Lit.int .u8 z).wf = true := by
      rcases h with ⟨_, _, _, rfl⟩ | ⟨_, _, _, _, _, _, h5⟩
      · cases hm
      · exact h5 z hm
    have hb : 0 ≤ z ∧ z ≤ 255 := by
      simp [Lit.wf, IntKind.min, IntKind.max, IntKind.signed, IntKind.bits] at hwf
      omega
    have : (UInt8.ofNat z.toNat).toNat = z.toNat := by simp; omega
    simp only [Function.comp, byteV, this]
    congr 1
    omega
  have hl : (rowB zs len).length = len := by
    have := hr.len
    simpa [rowB] using this
  refine ⟨hl, ?_⟩
  unfold RB
  rw [hl, ← hz]
  exact hr
theorem one_le {H : Type} (d : DataW H) : 1 ≤ Rows.uptoBulk d := by
  cases d with
  | lit l => cases l <;> simp [Rows.uptoBulk]
  | nil => simp [Rows.uptoBulk]
  | ptr d => simp [Rows.uptoBulk]
  | slice elems spare => simp [Rows.uptoBulk]
  | agg parts => simp [Rows.uptoBulk]
  | iface t d => simp [Rows.uptoBulk]
  | map entries => simp [Rows.uptoBulk]
  | held h => simp [Rows.uptoBulk]
theorem length_le {H : Type} (l : List (DataW H)) : l.length ≤ Rows.uptoBulkAll l := by
  induction l with
  | nil => simp [Rows.uptoBulkAll]
  | cons x r ih => have := one_le x; simp only [Rows.uptoBulkAll, List.length_cons]; omega
theorem flat_le {H : Type} (p : Nat → List UInt8) (d : Nat → DataW H) : ∀ (R : List Nat), (∀ r ∈ R, (p r).length ≤ Rows.uptoBulk (d r)) → (R.map p).flatten.length ≤ Rows.uptoBulkAll (R.map d)
  | [], _ => by simp
  | r :: R, h => by
    have h1 := h r (by simp)
    have h2 := flat_le p d R (fun x hx => h x (by simp [hx]))
    simp only [List.map_cons, List.flatten_cons, List.length_append, Rows.uptoBulkAll]
    omega
theorem parts_of_trod {H : Type} {enc : TypeId × Value → H} {w : World} {v : Value} {d : DataW H} {p : List MemPlace} (hv : ∃ a l c, v = .slice a l c) (h : DataW.Trod enc Try.prog w 0 (fun _ => true) true 32 v d p) :
    ∃ ps hs, Parts w w.heap.size v ps hs ∧ ps.flatten.length ≤ Rows.uptoBulk d := by
  obtain ⟨a, len, cap, rfl⟩ := hv
  obtain ⟨fuel, hf⟩ := h
  rcases Go.Deep.open_int_rows Try.underlying32 Try.underlying22 Try.underlying5 (by kernel_rfl) (by kernel_rfl) hf with ⟨hcs, hx⟩ | ⟨x, l, c, A, L, C, Z, hcs, _, hl, hm, hx, hrow⟩
  · simp [Value.cells] at hcs
    obtain ⟨rfl, rfl, rfl⟩ := hcs
    exact ⟨[], [], ⟨⟨rfl, none, 0, rfl, Nat.le_refl _, Nat.zero_le _, fun h => absurd h (by simp), fun b off h => by cases h⟩, fun i p h => by simp at h⟩, by simp⟩
  · simp [Value.cells] at hcs
    obtain ⟨rfl, rfl, rfl⟩ := hcs
    simp only [Prod.mk.injEq] at hx
    have isRow : ∀ r, r < cap → IsRow .u8 w (A r) (L r) (C r) (Z r) := fun r hr => by
      obtain ⟨e1, r1, r2, r3, r4, r5, r6⟩ := hrow r hr
      cases hA : A r with
      | none =>
        have hc := r5 hA
        have hz : Z r = [] := List.eq_nil_of_length_eq_zero (by omega)
        exact .inl ⟨rfl, by omega, hc, hz⟩
      | some y => exact .inr ⟨y, rfl, r1, r2, r3, fun i hi => (r6 y hA).2 i (by omega), r4⟩
    have hlen : ((List.range len).map fun r => rowB (Z r) (L r)).length = len := by simp
    refine ⟨(List.range len).map fun r => rowB (Z r) (L r), (List.range len).map fun r => .slice (A r) (L r) (C r), ⟨⟨?_, some x, cap, ?_, ?_, hm, fun hn => ?_, fun b off hA j u hu => ?_⟩, fun i p hp => ?_⟩, ?_⟩
    · simp
    · rw [hlen]
    · rw [hlen]; exact hl
    · rw [hlen] at hn
      have hc := (hrow 0 (by omega)).1
      have hx0 : x.add 0 = x := by simp [Addr.add]
      rw [hx0] at hc
      exact ⟨x.block, x.off, by rw [← mk_of_cell hc], World.block_lt_of_cell? w x hc⟩
    · injection hA with hA
      subst hA
      have hlt := (List.getElem?_eq_some_iff.1 hu).1
      simp only [List.length_map, List.length_range] at hlt
      simp only [List.getElem?_map, List.getElem?_range hlt, Option.map_some, Option.some.injEq] at hu
      subst hu
      have := (hrow j (by omega)).1
      rwa [add_mk] at this
    · have hlt := (List.getElem?_eq_some_iff.1 hp).1
      simp only [List.length_map, List.length_range] at hlt
      simp only [List.getElem?_map, List.getElem?_range hlt, Option.map_some, Option.some.injEq] at hp
      subst hp
      refine ⟨.slice (A i) (L i) (C i), by simp only [List.getElem?_map, List.getElem?_range hlt, Option.map_some], (rb_of_row (isRow i (by omega))).2⟩
    · rw [hx.1]
      have := flat_le (H := H) (fun r => rowB (Z r) (L r)) (fun r => Go.Deep.intRow .u8 (A r) (L r) (Z r)) (List.range len) (fun r hr => by
        have hr' : r < len := List.mem_range.1 hr
        have hl1 := (rb_of_row (isRow r (by omega))).1
        obtain ⟨e1, r1, r2, r3, r4, r5, r6⟩ := hrow r (by omega)
        show (rowB (Z r) (L r)).length ≤ _
        rw [hl1]
        cases hA : A r with
        | none => have := r5 hA; omega
        | some y =>
          have h1 := length_le (H := H) (lits .u8 ((Z r).take (L r)))
          have h2 : (lits (H := H) .u8 ((Z r).take (L r))).length = L r := by simp [lits]; omega
          simp only [Go.Deep.intRow, Rows.uptoBulk]
          omega)
      simp only [Rows.uptoBulk]
      omega
set_option maxRecDepth 100000 in
theorem macroReplays_lifted (os : Os) (started : os.Started) (H : Type) (enc : TypeId × Value → H) (F : Stop.Interp) :
    ReturnsInHanded {} Try.checked os 4 .any ((Rows.OpenSpec.upto Rows.macroReplaysSpec).pre6 enc Try.prog Try.f4 Rows.macroReplaysUptoRow.domain false) (((Rows.OpenSpec.upto Rows.macroReplaysSpec).at F).post enc Try.prog Try.f4 false true false false) := by
  refine returnsInHanded_of_cond (C := Try.checked) (s := Rows.OpenSpec.upto Rows.macroReplaysSpec) (k := Rows.uptoSmall) rfl own started (by kernel_rfl) Try.func4
    (OpenSpec.witness (enc := enc) (C := Try.checked) (s := Rows.OpenSpec.upto Rows.macroReplaysSpec) (k := Rows.uptoSmall) rfl false ⟨#[], #[.slice none 0 0], []⟩ 8 (by kernel_rfl) (by kernel_rfl) (by kernel_rfl) (x := ([.nil], [], [])) (by kernel_rfl) (by kernel_rfl) (by kernel_rfl)) ?_
  intro W base args ds gs before hval0 hW hcnd hk _
  have hval : ∀ (j : Nat) t v, Try.f4.params[j]? = some t → args[j]? = some v → Value.okWide Try.prog W .any base t v := hval0
  have hW' := hW
  obtain ⟨p, q, hA0, hV, rfl, hfz, hnd⟩ := hW
  have hA : DataW.TrodAll enc Try.prog W 0 (fun _ => true) true Try.f4.params.toList args.toList ds p := hA0
  rw [Try.params4] at hA hval
  obtain ⟨v0, vs0, d0, ds0, p0, q0, hargs, rfl, rfl, h0, r0⟩ := trodAll_cons hA
  obtain ⟨rfl, rfl, rfl⟩ := trodAll_nil r0
  obtain rfl : args = #[v0] := by cases args; simp_all
  obtain ⟨rfl, rfl⟩ := trodVars_none hV
  have lt0 : ∀ x ∈ p0, x.block < W.heap.size := by obtain ⟨m, hm⟩ := h0; exact DataW.trod_lt m _ _ _ hm
  obtain ⟨a0, len0, cap0, rfl⟩ := okWide_slice Try.underlying32 (hval 0 32 v0 rfl rfl)
  obtain ⟨ps, hs, hp, hle⟩ := parts_of_trod ⟨_, _, _, rfl⟩ h0
  have hb : Rows.uptoBulkAll ([d0] ++ []) ≤ 1048576 := of_decide_eq_true hk
  simp only [List.append_nil, Rows.uptoBulkAll] at hb
  clear hA0 hval0
  have hcall := replays_ (K := fun v w' => v = .bool true ∧ Ch [] W w') hp (by omega) (Nat.le_refl _) (fun w' hc => ⟨rfl, hc⟩)
  refine Calls.mono hcall fun e W' he => ?_
  cases e with
  | panicked c => exact he.elim
  | outgrown => exact he.elim
  | returned v =>
    obtain ⟨rfl, hc⟩ := he
    have bel : Below W.heap.size W W' := hc.below (Nat.le_refl _) (by simp)
    refine ⟨_, rfl, ?_⟩
    simp only [List.append_nil] at hW'
    exact ⟨_, _, _, [], _, [], hW', trodAll_mk1 (shut_bool Try.underlying4 _), trodAll_mk1 (Below.trod laidOut (by kernel_rfl) (of_decide_eq_true (by kernel_rfl)) h0 bel lt0), rfl, bel.frame _, fun h => by cases h⟩
theorem macroReplaysUpto_holds : Rows.MacroReplaysUptoSaid :=
  OpenClaim.holds_of_cond 4 Try.f4 rfl rfl rfl rfl rfl rfl rfl ⟨rfl, rfl, rfl, rfl, rfl⟩ rfl rfl rfl rfl rfl (by kernel_rfl) Try.func4 (by kernel_rfl)
    (of_decide_eq_true (by kernel_rfl)) (by unfold Func.isWrapper; first | (rw [if_pos (by decide +kernel)]; kernel_rfl) | (rw [if_neg (by decide +kernel)]; exact ⟨rfl, rfl⟩))
    (fun os started H enc _ F => macroReplays_lifted os started H enc F)
#print axioms macroReplaysUpto_holds
end Go.Proofs.Ythpbiliajcameaa
