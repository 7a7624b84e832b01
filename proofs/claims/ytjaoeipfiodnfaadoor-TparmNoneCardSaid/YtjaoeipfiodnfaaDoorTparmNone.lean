/- TparmNone: no Cap and no Vars: for every input the law returns true and leaves its arguments as they were; three tables of the library are tied to the program's text. -/
import Derived.Test.YtjaoeipfiodnfaaDoorRp
import Derived.Test.YtjaoeipfiodnfaaDoorBS
import Derived.Test.YtjaoeipfiodnfaaDoorCards
import Derived.Test.YtjaoeipfiodnfaaDoorTie
set_option linter.unusedVariables false
namespace Go.Proofs.YtjaoeipfiodnfaaDoor
open Go Go.Fw Go.Proofs Go.RowKit Go.ChangeShapes Go.WideShapes Go.ChangeAt Go.Lib
theorem witness_none (os : Os) {H : Type} (enc : TypeId × Value → H) :
    (OpenSpec.ofChange Rows.tparmNoneSpec).preRow enc Tryd.prog Tryd.f8 Rows.tparmNoneRow.domain false Rows.tparmNoneRow.laid ((laidWorld os).forCall (fun _ _ => 0) ⟨#[], #[.string ByteArray.empty, .int .u8 0, .agg #[.int .i32 0, .string ByteArray.empty, .bool false]], []⟩).memory #[.string ByteArray.empty, .int .u8 0, .agg #[.int .i32 0, .string ByteArray.empty, .bool false]] := by
  have hw : (DataW.whole enc Tryd.prog ((laidWorld os).forCall (fun _ _ => 0) ⟨#[], #[.string ByteArray.empty, .int .u8 0, .agg #[.int .i32 0, .string ByteArray.empty, .bool false]], []⟩).memory Tryd.f8.params.toList (OpenSpec.ofChange Rows.tparmNoneSpec).vars false #[Value.string ByteArray.empty, .int .u8 0, .agg #[.int .i32 0, .string ByteArray.empty, .bool false]].toList 8).map (fun x => (x.1, x.2.1)) =
      some ([.lit (.string []), .lit (.int .u8 0), .agg [.lit (.int .i32 0), .lit (.string []), .lit (.bool false)]], []) := by kernel_rfl
  obtain ⟨⟨x1, x2, x3⟩, hx, hx1⟩ := Option.map_eq_some_iff.1 hw
  simp only [Prod.mk.injEq] at hx1
  obtain ⟨rfl, rfl⟩ := hx1
  exact OpenSpec.preRow_of_cond 8 hx (by kernel_rfl) (fun k hk => by cases hk) (by kernel_rfl) (laid_met3 os _)
set_option maxRecDepth 100000 in
theorem tparmNone_lifted (os : Os) (started : os.Started) (H : Type) (enc : TypeId × Value → H) (F : Stop.Interp) :
    ReturnsInHanded {} Tryd.checked os 8 .any ((OpenSpec.ofChange Rows.tparmNoneSpec).preRow enc Tryd.prog Tryd.f8 Rows.tparmNoneRow.domain false Rows.tparmNoneRow.laid) (((OpenSpec.ofChange Rows.tparmNoneSpec).at F).post enc Tryd.prog Tryd.f8 false true false false) := by
  refine returnsInHanded_of_row (C := Tryd.checked) (s := OpenSpec.ofChange Rows.tparmNoneSpec) own started (by kernel_rfl) Tryd.func8
    (witness_row_atRef (enc := enc) (C := Tryd.checked) false (laidWorld os) #[.string ByteArray.empty, .int .u8 0, .agg #[.int .i32 0, .string ByteArray.empty, .bool false]] rfl (by kernel_rfl) (by kernel_rfl) (by kernel_rfl) (witness_none os enc)) ?_
  intro W base args ds gs before hval0 hW hcnd _ _ hL hsh _
  have hG : Gnd W := gnd3 hL
  have hval : ∀ (j : Nat) t v, Tryd.f8.params[j]? = some t → args[j]? = some v → Value.okWide Tryd.prog W .any base t v := hval0
  have hW' := hW
  obtain ⟨p, q, hA0, hV, rfl, hfz, hnd⟩ := hW
  have hA : DataW.TrodAll enc Tryd.prog W 0 (fun _ => true) true Tryd.f8.params.toList args.toList ds p := hA0
  rw [Tryd.params8] at hA hval
  obtain ⟨v0, vs0, d0, ds0, p0, q0, hargs, rfl, rfl, h0, r0⟩ := trodAll_cons hA
  obtain ⟨v1, vs1, d1, ds1, p1, q1, hargs1, rfl, rfl, h1, r1⟩ := trodAll_cons r0
  obtain ⟨v2, vs2, d2, ds2, p2, q2, hargs2, rfl, rfl, h2, r2⟩ := trodAll_cons r1
  obtain ⟨rfl, rfl, rfl⟩ := trodAll_nil r2
  obtain rfl : args = #[v0, v1, v2] := by cases args; simp_all
  obtain ⟨rfl, rfl⟩ := trodVars_none hV
  have lt0 : ∀ x ∈ p0, x.block < W.heap.size := by obtain ⟨m, hm⟩ := h0; exact DataW.trod_lt m _ _ _ hm
  have lt2 : ∀ x ∈ p2, x.block < W.heap.size := by obtain ⟨m, hm⟩ := h2; exact DataW.trod_lt m _ _ _ hm
  obtain ⟨s, rfl⟩ := okWide_string Tryd.underlying9 (hval 0 9 v0 rfl rfl)
  obtain ⟨c, rfl, rfl, rfl, hc⟩ := open_int Tryd.underlying5 (hval 1 5 v1 rfl rfl) h1
  obtain ⟨cs2, rfl, hcs2⟩ := okWide_struct Tryd.underlying36 (hval 2 36 v2 rfl rfl)
  clear hA0 hval0
  have k0 := h0
  have k2 := h2
  obtain ⟨fu0, t0⟩ := h0
  obtain ⟨fu2, t2⟩ := h2
  have es : strV s.data.toList = .string s := rfl
  obtain ⟨p, hp, _, _⟩ := par_of_trod t2
  have hp' : cs2 = (parC p).toArray := Array.ext' (by simpa [Value.cells] using hp)
  have hcall := none_ (K := fun v w' => v = .bool true ∧ Ch [] W w') (s := s.data.toList) (c := .int .u8 c) (p := p) hG (fun w' hc => ⟨rfl, hc⟩)
  have ep : parV p = .agg cs2 := by rw [hp']; rfl
  rw [es, ep] at hcall
  refine Calls.mono hcall fun e W' he => ?_
  cases e with
  | panicked c => exact he.elim
  | outgrown => exact he.elim
  | returned v =>
    obtain ⟨rfl, hch⟩ := he
    have bel : Below W.heap.size W W' := hch.below (Nat.le_refl _) (by simp)
    exact ⟨_, rfl, _, _, _, [], _, [], hW', trodAll_mk1 (shut_bool Tryd.underlying4 _), trodAll_cons_mk (Below.trod laidOut (by kernel_rfl) (of_decide_eq_true (by kernel_rfl)) k0 bel lt0) (trodAll_cons_mk (shut_int Tryd.underlying5 hc) (trodAll_mk1 (Below.trod laidOut (by kernel_rfl) (of_decide_eq_true (by kernel_rfl)) k2 bel lt2))), rfl, bel.frame _, fun h => by cases h⟩
theorem tparmNone_row : Rows.TparmNoneSaid :=
  OpenClaim.holds_of_cond 8 Tryd.f8 rfl rfl rfl rfl rfl rfl rfl ⟨rfl, rfl, rfl, rfl, rfl⟩ rfl rfl rfl rfl rfl (by kernel_rfl) Tryd.func8 (by kernel_rfl)
    (of_decide_eq_true (by kernel_rfl)) (by unfold Func.isWrapper; first | (rw [if_pos (by decide +kernel)]; kernel_rfl) | (rw [if_neg (by decide +kernel)]; exact ⟨rfl, rfl⟩))
    (fun os started H enc _ F => by rw [OpenClaim.pre_eq_preRow]; exact tparmNone_lifted os started H enc F)
theorem tparmNone_holds : Rows.TparmNoneCardSaid :=
  Claim7.holds_tied_plain_at .later [] [.data, .data, .data] true (true, "9fee7fd20c70136198cb5aa060e3cd09a2668cd7121eea19f415aef0d467a83b") false
    tparmNone_row (fun _ h => by cases h) (by kernel_rfl) (fun _ h => by cases h) tparmNone_row_tie rfl ⟨rfl, rfl⟩ (by kernel_rfl) rfl
    (fun f fn hf hfn => by
      obtain rfl : f = 8 := Option.some.inj ((show Tryd.prog.funcNamed "lanyard/lanyardlaw04.TparmNone" = some 8 by kernel_rfl).symm.trans hf) |>.symm
      obtain rfl : fn = Tryd.f8 := (Option.some.inj (Tryd.func8.symm.trans hfn)).symm
      exact ⟨by kernel_rfl, fun j t ht => by
        rw [Tryd.params8] at ht
        have h3 : t = 9 ∨ t = 5 ∨ t = 36 := by
          rcases j with _ | _ | _ | j
          · left; simpa using ht.symm
          · right; left; simpa using ht.symm
          · right; right; simpa using ht.symm
          · simp at ht
        rcases h3 with rfl | rfl | rfl
        · exact (show Tryd.prog.wantsStandIn 9 = false by kernel_rfl)
        · exact (show Tryd.prog.wantsStandIn 5 = false by kernel_rfl)
        · exact (show Tryd.prog.wantsStandIn 36 = false by kernel_rfl)⟩)
    (by kernel_rfl)
#print axioms tparmNone_holds
end Go.Proofs.YtjaoeipfiodnfaaDoor
