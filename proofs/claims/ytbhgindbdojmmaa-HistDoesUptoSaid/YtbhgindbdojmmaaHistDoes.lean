/- HistDoes: each answer of a history, whatever is done, is the reference's: where what it reads is of bulk at most 1048576 the law returns true and leaves its arguments as they were. -/
import Derived.Test.YtbhgindbdojmmaaRd4
import Derived.Deep.DeepHandedRow
set_option linter.unusedVariables false
namespace Go.Proofs.Ytbhgindbdojmmaa
open Go Go.Fw Go.Proofs Go.RowKit Go.ChangeShapes Go.WideShapes Go.ChangeAt
theorem own : ownKnob Try.prog.godebug = none := by kernel_rfl
theorem laidOut : laidOutB Try.prog = true := by kernel_rfl
set_option maxRecDepth 100000 in
theorem histDoes_lifted (os : Os) (started : os.Started) (H : Type) (enc : TypeId × Value → H) (F : Stop.Interp) :
    ReturnsInHanded {} Try.checked os 7 .any ((Rows.OpenSpec.upto Rows.histDoesSpec).preRow enc Try.prog Try.f7 Rows.histDoesUptoRow.domain false []) (((Rows.OpenSpec.upto Rows.histDoesSpec).at F).post enc Try.prog Try.f7 false true false false) := by
  refine returnsInHanded_of_row (C := Try.checked) (s := Rows.OpenSpec.upto Rows.histDoesSpec) own started (by kernel_rfl) Try.func7 ?_ ?_
  · obtain ⟨w, tape, i, g1, g2, g3, g4, ⟨g5, g6⟩, g7⟩ := OpenSpec.witness (enc := enc) (C := Try.checked) (os := os) (f := 7) (fn := Try.f7) (s := Rows.OpenSpec.upto Rows.histDoesSpec) (k := Rows.uptoSmall) rfl (conds := Rows.histDoesUptoRow.domain) (apart := false) false ⟨#[], #[.int .i64 0, .slice none 0 0, .slice none 0 0], []⟩ 8 (by kernel_rfl) (by kernel_rfl) (by kernel_rfl) (x := ([.lit (.int .i64 0), .nil, .nil], [], [])) (by kernel_rfl) (by kernel_rfl) (by kernel_rfl)
    exact ⟨w, tape, i, g1, g2, g3, g4, ⟨⟨g5, laidMetH_nil _ _⟩, g6⟩, g7⟩
  intro W base args ds gs before hval0 hW hcnd hk0 hsz0 _ hsh _
  have hk := hk0 Rows.uptoSmall rfl
  have hval : ∀ (j : Nat) t v, Try.f7.params[j]? = some t → args[j]? = some v → Value.okWide Try.prog W .any base t v := hval0
  have hW' := hW
  obtain ⟨p, q, hA0, hV, rfl, hfz, hnd⟩ := hW
  have hA : DataW.TrodAll enc Try.prog W 0 (fun _ => true) true Try.f7.params.toList args.toList ds p := hA0
  obtain ⟨m, hm⟩ := Try.laysM219.s1_3 W hsh
  rw [Try.params7] at hA hval
  obtain ⟨v0, vs0, d0, ds0, p0, q0, hargs, rfl, rfl, h0, r0⟩ := trodAll_cons hA
  obtain ⟨v1, vs1, d1, ds1, p1, q1, hargs1, rfl, rfl, h1, r1⟩ := trodAll_cons r0
  obtain ⟨v2, vs2, d2, ds2, p2, q2, hargs2, rfl, rfl, h2, r2⟩ := trodAll_cons r1
  obtain ⟨rfl, rfl, rfl⟩ := trodAll_nil r2
  obtain rfl : args = #[v0, v1, v2] := by cases args; simp_all
  obtain ⟨rfl, rfl⟩ := trodVars_none hV
  have lt1 : ∀ x ∈ p1, x.block < W.heap.size := by obtain ⟨m, hm⟩ := h1; exact DataW.trod_lt m _ _ _ hm
  have lt2 : ∀ x ∈ p2, x.block < W.heap.size := by obtain ⟨m, hm⟩ := h2; exact DataW.trod_lt m _ _ _ hm
  obtain ⟨n, rfl, rfl, rfl, hn⟩ := open_int Try.underlying3 (hval 0 3 v0 rfl rfl) h0
  obtain ⟨a1, len1, cap1, rfl⟩ := okWide_slice Try.underlying28 (hval 1 28 v1 rfl rfl)
  obtain ⟨a2, len2, cap2, rfl⟩ := okWide_slice Try.underlying74 (hval 2 74 v2 rfl rfl)
  have k1 := h1
  have k2 := h2
  obtain ⟨fu1, t1⟩ := h1
  obtain ⟨fu2, t2⟩ := h2
  obtain ⟨l0, hl0, hle0⟩ := rl_of_trod t1
  obtain ⟨os0, hos, hle2⟩ := ops_of_trod t2
  simp only at hle0 hle2
  have hb : Rows.uptoBulkAll ([.lit (.int .i64 n), d1, d2] ++ []) ≤ 1048576 := of_decide_eq_true hk
  simp only [List.append_nil, Rows.uptoBulkAll, Rows.uptoBulk] at hb
  clear hA0 hval0
  have hn2 : -9223372036854775808 ≤ n ∧ n ≤ 9223372036854775807 := by simp [Lit.wf, IntKind.min, IntKind.max, IntKind.signed, IntKind.bits] at hn; omega
  have hcall := does_ (K := fun v w' => v = .bool true ∧ Ch [] W w') hl0 hos (by omega) hm hn2 (fun w' hc => ⟨rfl, hc⟩)
  refine Calls.mono hcall fun e W' he => ?_
  cases e with
  | panicked c => exact he.elim
  | outgrown => exact he.elim
  | returned v =>
    obtain ⟨rfl, hc⟩ := he
    have bel : Below W.heap.size W W' := hc.below (Nat.le_refl _) (by simp)
    refine ⟨_, rfl, ?_⟩
    simp only [List.append_nil] at hW'
    exact ⟨_, _, _, [], _, [], hW', trodAll_mk1 (shut_bool Try.underlying4 _), trodAll_mk3 (shut_int Try.underlying3 hn) (Below.trod laidOut (by kernel_rfl) (of_decide_eq_true (by kernel_rfl)) k1 bel lt1) (Below.trod laidOut (by kernel_rfl) (of_decide_eq_true (by kernel_rfl)) k2 bel lt2), rfl, bel.frame _, fun h => by cases h⟩
theorem histDoesUpto_holds : Rows.HistDoesUptoSaid :=
  OpenClaim.holds_of_cond 7 Try.f7 rfl rfl rfl rfl rfl rfl rfl ⟨rfl, rfl, rfl, rfl, rfl⟩ rfl rfl rfl rfl rfl (by kernel_rfl) Try.func7 (by kernel_rfl)
    (of_decide_eq_true (by kernel_rfl)) (by unfold Func.isWrapper; first | (rw [if_pos (by decide +kernel)]; kernel_rfl) | (rw [if_neg (by decide +kernel)]; exact ⟨rfl, rfl⟩))
    (fun os started H enc _ F => by rw [OpenClaim.pre_eq_preRow]; exact histDoes_lifted os started H enc F)
#print axioms histDoesUpto_holds
end Go.Proofs.Ytbhgindbdojmmaa
