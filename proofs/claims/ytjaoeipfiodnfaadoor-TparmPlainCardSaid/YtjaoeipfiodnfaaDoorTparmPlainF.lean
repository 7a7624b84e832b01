/- TparmPlain: a string without a percent sign comes to itself, and is written ahead of what stands behind it: for every input the law returns true and leaves its arguments as they were; five tables of the library are tied to the program's text. -/
import Derived.Test.YtjaoeipfiodnfaaDoorRq
import Derived.Test.YtjaoeipfiodnfaaDoorBU
import Derived.Test.YtjaoeipfiodnfaaDoorCards
import Derived.Test.YtjaoeipfiodnfaaDoorTie
set_option linter.unusedVariables false
namespace Go.Proofs.YtjaoeipfiodnfaaDoor
open Go Go.Fw Go.Proofs Go.RowKit Go.ChangeShapes Go.WideShapes Go.ChangeAt Go.Lib
theorem witness_plain (os : Os) {H : Type} (enc : TypeId × Value → H) :
    (OpenSpec.ofChange Rows.tparmPlainSpec).preRow enc Tryd.prog Tryd.f3 Rows.tparmPlainRow.domain false Rows.tparmPlainRow.laid ((laidWorld os).forCall (fun _ _ => 0) ⟨#[], #[.string ByteArray.empty, .string ByteArray.empty, .slice none 0 0], []⟩).memory #[.string ByteArray.empty, .string ByteArray.empty, .slice none 0 0] := by
  have hw : (DataW.whole enc Tryd.prog ((laidWorld os).forCall (fun _ _ => 0) ⟨#[], #[.string ByteArray.empty, .string ByteArray.empty, .slice none 0 0], []⟩).memory Tryd.f3.params.toList (OpenSpec.ofChange Rows.tparmPlainSpec).vars false #[Value.string ByteArray.empty, .string ByteArray.empty, .slice none 0 0].toList 8).map (fun x => (x.1, x.2.1)) =
      some ([.lit (.string []), .lit (.string []), .nil], []) := by kernel_rfl
  obtain ⟨⟨x1, x2, x3⟩, hx, hx1⟩ := Option.map_eq_some_iff.1 hw
  simp only [Prod.mk.injEq] at hx1
  obtain ⟨rfl, rfl⟩ := hx1
  exact OpenSpec.preRow_of_cond 8 hx (by kernel_rfl) (fun k hk => by cases hk) (by kernel_rfl) (laid_met5 os _)
set_option maxRecDepth 100000 in
theorem tparmPlain_lifted (os : Os) (started : os.Started) (H : Type) (enc : TypeId × Value → H) (F : Stop.Interp) :
    ReturnsInHanded {} Tryd.checked os 3 .any ((OpenSpec.ofChange Rows.tparmPlainSpec).preRow enc Tryd.prog Tryd.f3 Rows.tparmPlainRow.domain false Rows.tparmPlainRow.laid) (((OpenSpec.ofChange Rows.tparmPlainSpec).at F).post enc Tryd.prog Tryd.f3 false true false false) := by
  refine returnsInHanded_of_row (C := Tryd.checked) (s := OpenSpec.ofChange Rows.tparmPlainSpec) own started (by kernel_rfl) Tryd.func3
    (witness_row_atRef (enc := enc) (C := Tryd.checked) false (laidWorld os) #[.string ByteArray.empty, .string ByteArray.empty, .slice none 0 0] rfl (by kernel_rfl) (by kernel_rfl) (by kernel_rfl) (witness_plain os enc)) ?_
  intro W base args ds gs before hval0 hW hcnd _ hwt hL hsh _
  have hG : Gnd W := gnd5 hL
  have hval : ∀ (j : Nat) t v, Tryd.f3.params[j]? = some t → args[j]? = some v → Value.okWide Tryd.prog W .any base t v := hval0
  have hW' := hW
  obtain ⟨p, q, hA0, hV, rfl, hfz, hnd⟩ := hW
  have hA : DataW.TrodAll enc Tryd.prog W 0 (fun _ => true) true Tryd.f3.params.toList args.toList ds p := hA0
  rw [Tryd.params3] at hA hval
  obtain ⟨v0, vs0, d0, ds0, p0, q0, hargs, rfl, rfl, h0, r0⟩ := trodAll_cons hA
  obtain ⟨v1, vs1, d1, ds1, p1, q1, hargs1, rfl, rfl, h1, r1⟩ := trodAll_cons r0
  obtain ⟨v2, vs2, d2, ds2, p2, q2, hargs2, rfl, rfl, h2, r2⟩ := trodAll_cons r1
  obtain ⟨rfl, rfl, rfl⟩ := trodAll_nil r2
  obtain rfl : args = #[v0, v1, v2] := by cases args; simp_all
  obtain ⟨rfl, rfl⟩ := trodVars_none hV
  have lt0 : ∀ x ∈ p0, x.block < W.heap.size := by obtain ⟨m, hm⟩ := h0; exact DataW.trod_lt m _ _ _ hm
  have lt1 : ∀ x ∈ p1, x.block < W.heap.size := by obtain ⟨m, hm⟩ := h1; exact DataW.trod_lt m _ _ _ hm
  have lt2 : ∀ x ∈ p2, x.block < W.heap.size := by obtain ⟨m, hm⟩ := h2; exact DataW.trod_lt m _ _ _ hm
  obtain ⟨s0, rfl⟩ := okWide_string Tryd.underlying9 (hval 0 9 v0 rfl rfl)
  obtain ⟨s1, rfl⟩ := okWide_string Tryd.underlying9 (hval 1 9 v1 rfl rfl)
  obtain ⟨a2, len2, cap2, rfl⟩ := okWide_slice Tryd.underlying22 (hval 2 22 v2 rfl rfl)
  have k0 := h0
  have k1 := h1
  have k2 := h2
  obtain ⟨fu0, t0⟩ := h0
  obtain ⟨fu1, t1⟩ := h1
  obtain ⟨fu2, t2⟩ := h2
  obtain ⟨z0, e0, y0⟩ := DataW.trod_string Tryd.underlying9 t0
  obtain ⟨z1, e1, y1⟩ := DataW.trod_string Tryd.underlying9 t1
  simp only [Value.cells, List.cons.injEq, Value.string.injEq, and_true] at e0 e1
  subst e0 e1
  obtain ⟨l, hl, hle⟩ := pl_of_trodW t2
  have hwt' : (DataW.weightsEach Tryd.prog [9, 9, 22] [d0, d1, d2]).all (· ≤ reachBytes) = true := by
    have e : Tryd.f3.params.toList ++ (OpenSpec.ofChange Rows.tparmPlainSpec).bare.plain.varTypes Tryd.prog = [9, 9, 22] := by rw [Tryd.params3]; rfl
    have h0 : (DataW.weightsEach Tryd.prog (Tryd.f3.params.toList ++ (OpenSpec.ofChange Rows.tparmPlainSpec).bare.plain.varTypes Tryd.prog) ([d0, d1, d2] ++ [])).all (· ≤ reachBytes) = true := hwt
    rw [e, List.append_nil] at h0
    exact h0
  have b0 : s0.data.toList.length ≤ 140737488355328 := sized_mem hwt' (j := 0) (t := 9) (n := s0.data.toList.length) rfl rfl (by
    have := y0.1
    simp only [Prod.mk.injEq] at this
    rw [this.1]
    simp [DataW.weights])
  have b1 : s1.data.toList.length ≤ 140737488355328 := sized_mem hwt' (j := 1) (t := 9) (n := s1.data.toList.length) rfl rfl (by
    have := y1.1
    simp only [Prod.mk.injEq] at this
    rw [this.1]
    simp [DataW.weights])
  clear hA0 hval0
  have hcall := plainF_ (K := fun v w' => v = .bool true ∧ Ch [] W w') (px := s0.data.toList) (s := s1.data.toList) b0 b1 hl (fun p hp => by
    obtain ⟨g1, g2⟩ := hle p hp
    exact ⟨g1.1, g1.2, sized_mem hwt' (j := 2) (t := 22) rfl rfl g2⟩) hG (fun w' hc => ⟨rfl, hc⟩)
  have es : ∀ s : ByteArray, strV s.data.toList = .string s := fun s => by simp [strV]
  rw [es, es] at hcall
  refine Calls.mono hcall fun e W' he => ?_
  cases e with
  | panicked c => exact he.elim
  | outgrown => exact he.elim
  | returned v =>
    obtain ⟨rfl, hc⟩ := he
    have bel : Below W.heap.size W W' := hc.below (Nat.le_refl _) (by simp)
    refine ⟨_, rfl, ?_⟩
    simp only [List.append_nil] at hW'
    exact ⟨_, _, _, [], _, [], hW', trodAll_mk1 (shut_bool Tryd.underlying4 _), trodAll_mk3 (Below.trod laidOut (by kernel_rfl) (of_decide_eq_true (by kernel_rfl)) k0 bel lt0) (Below.trod laidOut (by kernel_rfl) (of_decide_eq_true (by kernel_rfl)) k1 bel lt1) (Below.trod laidOut (by kernel_rfl) (of_decide_eq_true (by kernel_rfl)) k2 bel lt2), rfl, bel.frame _, fun h => by cases h⟩
theorem tparmPlain_row : Rows.TparmPlainSaid :=
  OpenClaim.holds_of_cond 3 Tryd.f3 rfl rfl rfl rfl rfl rfl rfl ⟨rfl, rfl, rfl, rfl, rfl⟩ rfl rfl rfl rfl rfl (by kernel_rfl) Tryd.func3 (by kernel_rfl)
    (of_decide_eq_true (by kernel_rfl)) (by unfold Func.isWrapper; first | (rw [if_pos (by decide +kernel)]; kernel_rfl) | (rw [if_neg (by decide +kernel)]; exact ⟨rfl, rfl⟩))
    (fun os started H enc _ F => by rw [OpenClaim.pre_eq_preRow]; exact tparmPlain_lifted os started H enc F)
theorem tparmPlain_holds : Rows.TparmPlainCardSaid :=
  Claim7.holds_tied_plain_at .later [] [.data, .data, .data, .data, .pinned] true (true, "9fee7fd20c70136198cb5aa060e3cd09a2668cd7121eea19f415aef0d467a83b") false
    tparmPlain_row (fun _ h => by cases h) (by kernel_rfl) (fun _ h => by cases h) tparmPlain_row_tie rfl ⟨rfl, rfl⟩ (by kernel_rfl) rfl
    (fun f fn hf hfn => by
      obtain rfl : f = 3 := Option.some.inj ((show Tryd.prog.funcNamed "lanyard/lanyardlaw04.TparmPlain" = some 3 by kernel_rfl).symm.trans hf) |>.symm
      obtain rfl : fn = Tryd.f3 := (Option.some.inj (Tryd.func3.symm.trans hfn)).symm
      exact ⟨by kernel_rfl, fun j t ht => by
        rw [Tryd.params3] at ht
        have h3 : t = 9 ∨ t = 22 := by
          rcases j with _ | _ | _ | j
          · left; simpa using ht.symm
          · left; simpa using ht.symm
          · right; simpa using ht.symm
          · simp at ht
        rcases h3 with rfl | rfl
        · exact (show Tryd.prog.wantsStandIn 9 = false by kernel_rfl)
        · exact (show Tryd.prog.wantsStandIn 22 = false by kernel_rfl)⟩)
    (by kernel_rfl)
#print axioms tparmPlain_holds
end Go.Proofs.YtjaoeipfiodnfaaDoor
