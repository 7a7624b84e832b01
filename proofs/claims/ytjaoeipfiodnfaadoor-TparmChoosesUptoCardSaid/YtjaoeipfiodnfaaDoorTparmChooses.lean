/- TparmChooses: a condition comes to just one of its parts, however many there are: where what it reads is of bulk at most 1048576 the law returns true and leaves its arguments as they were; five tables of the library are tied to the program's text. -/
import Derived.Test.YtjaoeipfiodnfaaDoorRp
import Derived.Test.YtjaoeipfiodnfaaDoorBO
import Derived.Test.YtjaoeipfiodnfaaDoorCards
import Derived.Test.YtjaoeipfiodnfaaDoorTie
set_option linter.unusedVariables false
namespace Go.Proofs.YtjaoeipfiodnfaaDoor
open Go Go.Fw Go.Proofs Go.RowKit Go.ChangeShapes Go.WideShapes Go.ChangeAt Go.Lib
theorem maxLen_cell {W : World} (h : W.ShapedOpen Tryd.prog) : ∃ m, W.cell? ⟨1, 0, none⟩ = some (.int .i64 m) := Tryd.laysM219.s1_3 W h
section
variable {H : Type} {enc : TypeId × Value → H} {w : World}
theorem sl_of_trod {fuel : Nat} {v : Value} {x : DataW H × List MemPlace} (h : DataW.trod enc Tryd.prog w 0 (fun _ => true) true fuel 33 [v] = some x) : ∃ l : List (List UInt8), Rd w w.heap.size 1 v l.length (strsV l) ∧ ∀ p, p ∈ l → p.length ≤ Rows.uptoBulk x.1 := by
  rcases Go.Deep.open_slice1 Tryd.underlying33 (by kernel_rfl) h with ⟨hcs, hx⟩ | ⟨a, l, c, m, n, V, D, Pl, hcs, _, hl, hm, hmm, hx, hel⟩
  · injection hcs with hcs _
    subst hcs
    exact ⟨[], ⟨rfl, none, 0, rfl, Nat.le_refl _, Nat.zero_le _, fun h => absurd h (by simp), fun b off h => by cases h⟩, by simp⟩
  · injection hcs with hcs _
    subst hcs
    simp only [if_true] at hmm
    subst hmm
    obtain ⟨Y, hY⟩ := Go.Deep.choose_lt (α := List UInt8) (n := m) (p := fun i y => V i = strV y ∧ y.length ≤ Rows.uptoBulk (D i)) (fun i hi => by
      obtain ⟨z, e, y⟩ := DataW.trod_string Tryd.underlying9 (hel i hi).2
      simp only [List.cons.injEq, and_true] at e
      refine ⟨z.data.toList, by rw [e]; simp [strV], ?_⟩
      have := y.1
      simp only [Prod.mk.injEq] at this
      rw [this.1]
      simp only [Rows.uptoBulk]
      omega)
    have hlen : ((List.range l).map Y).length = l := by simp
    refine ⟨(List.range l).map Y, ⟨by simp [strsV], some a, m, by rw [hlen], by rw [hlen]; exact hl, hm, fun hn => ?_, fun b off hA j u hu => ?_⟩, fun p hp => ?_⟩
    · rw [hlen] at hn
      have hc := (hel 0 (by omega)).1
      have hx0 : a.add 0 = a := by simp [Addr.add]
      rw [hx0] at hc
      exact ⟨a.block, a.off, by rw [← mk_of_cell hc], World.block_lt_of_cell? w a hc⟩
    · injection hA with hA
      subst hA
      have hlt := (List.getElem?_eq_some_iff.1 hu).1
      simp only [strsV, List.length_map, List.length_range] at hlt
      simp only [strsV, List.getElem?_map, List.getElem?_range hlt, Option.map_some, Option.some.injEq] at hu
      subst hu
      have := (hel j (by omega)).1
      rw [(hY j (by omega)).1] at this
      rwa [add_mk] at this
    · obtain ⟨i, hi, rfl⟩ := List.mem_map.1 hp
      have hilt := List.mem_range.1 hi
      refine Nat.le_trans (hY i (by omega)).2 ?_
      rw [hx]
      have := mem_le (l := (List.range l).map D) (d := D i) (List.mem_map.2 ⟨i, hi, rfl⟩)
      simp only [Rows.uptoBulk]
      omega
end
theorem witness_chooses (os : Os) {H : Type} (enc : TypeId × Value → H) :
    (Rows.OpenSpec.upto Rows.tparmChoosesSpec).preRow enc Tryd.prog Tryd.f4 Rows.tparmChoosesUptoRow.domain false Rows.tparmChoosesUptoRow.laid ((laidWorld os).forCall (fun _ _ => 0) ⟨#[], #[.int .i32 0, .slice none 0 0], []⟩).memory #[.int .i32 0, .slice none 0 0] := by
  have hw : (DataW.whole enc Tryd.prog ((laidWorld os).forCall (fun _ _ => 0) ⟨#[], #[.int .i32 0, .slice none 0 0], []⟩).memory Tryd.f4.params.toList (Rows.OpenSpec.upto Rows.tparmChoosesSpec).vars false #[Value.int .i32 0, .slice none 0 0].toList 8).map (fun x => (x.1, x.2.1)) =
      some ([.lit (.int .i32 0), .nil], []) := by kernel_rfl
  obtain ⟨⟨x1, x2, x3⟩, hx, hx1⟩ := Option.map_eq_some_iff.1 hw
  simp only [Prod.mk.injEq] at hx1
  obtain ⟨rfl, rfl⟩ := hx1
  exact OpenSpec.preRow_of_cond 8 hx (by kernel_rfl) (fun k hk => by cases hk; kernel_rfl) (by kernel_rfl) (laid_met5 os _)
set_option maxRecDepth 100000 in
theorem tparmChooses_lifted (os : Os) (started : os.Started) (H : Type) (enc : TypeId × Value → H) (F : Stop.Interp) :
    ReturnsInHanded {} Tryd.checked os 4 .any ((Rows.OpenSpec.upto Rows.tparmChoosesSpec).preRow enc Tryd.prog Tryd.f4 Rows.tparmChoosesUptoRow.domain false Rows.tparmChoosesUptoRow.laid) (((Rows.OpenSpec.upto Rows.tparmChoosesSpec).at F).post enc Tryd.prog Tryd.f4 false true false false) := by
  refine returnsInHanded_of_row (C := Tryd.checked) (s := Rows.OpenSpec.upto Rows.tparmChoosesSpec) own started (by kernel_rfl) Tryd.func4
    (witness_row_atRef (enc := enc) (C := Tryd.checked) false (laidWorld os) #[.int .i32 0, .slice none 0 0] rfl (by kernel_rfl) (by kernel_rfl) (by kernel_rfl) (witness_chooses os enc)) ?_
  intro W base args ds gs before hval0 hW hcnd hk0 _ hL hsh _
  have hk := hk0 Rows.uptoSmall rfl
  have hG : Gnd W := gnd5 hL
  obtain ⟨m0, hm0⟩ := maxLen_cell hsh
  have hval : ∀ (j : Nat) t v, Tryd.f4.params[j]? = some t → args[j]? = some v → Value.okWide Tryd.prog W .any base t v := hval0
  have hW' := hW
  obtain ⟨p, q, hA0, hV, rfl, hfz, hnd⟩ := hW
  have hA : DataW.TrodAll enc Tryd.prog W 0 (fun _ => true) true Tryd.f4.params.toList args.toList ds p := hA0
  rw [Tryd.params4] at hA hval
  obtain ⟨v0, vs0, d0, ds0, p0, q0, hargs, rfl, rfl, h0, r0⟩ := trodAll_cons hA
  obtain ⟨v1, vs1, d1, ds1, p1, q1, hargs1, rfl, rfl, h1, r1⟩ := trodAll_cons r0
  obtain ⟨rfl, rfl, rfl⟩ := trodAll_nil r1
  obtain rfl : args = #[v0, v1] := by cases args; simp_all
  obtain ⟨rfl, rfl⟩ := trodVars_none hV
  have lt1 : ∀ x ∈ p1, x.block < W.heap.size := by obtain ⟨m, hm⟩ := h1; exact DataW.trod_lt m _ _ _ hm
  obtain ⟨a, rfl, rfl, rfl, ha⟩ := open_int Tryd.underlying21 (hval 0 21 v0 rfl rfl) h0
  obtain ⟨a1, len1, cap1, rfl⟩ := okWide_slice Tryd.underlying33 (hval 1 33 v1 rfl rfl)
  have k1 := h1
  obtain ⟨fu1, t1⟩ := h1
  obtain ⟨l, hl, hle⟩ := sl_of_trod t1
  have hb : Rows.uptoBulkAll ([.lit (.int .i32 a), d1] ++ []) ≤ 1048576 := of_decide_eq_true hk
  simp only [List.append_nil, Rows.uptoBulkAll] at hb
  clear hA0 hval0
  have hcall := chooses_ (K := fun v w' => v = .bool true ∧ Ch [] W w') (i32_of_wf ha) hl (fun p hp => by have := hle p hp; simp only at this; omega) hG hm0 (fun w' hc => ⟨rfl, hc⟩)
  refine Calls.mono hcall fun e W' he => ?_
  cases e with
  | panicked c => exact he.elim
  | outgrown => exact he.elim
  | returned v =>
    obtain ⟨rfl, hc⟩ := he
    have bel : Below W.heap.size W W' := hc.below (Nat.le_refl _) (by simp)
    refine ⟨_, rfl, ?_⟩
    simp only [List.append_nil] at hW'
    exact ⟨_, _, _, [], _, [], hW', trodAll_mk1 (shut_bool Tryd.underlying4 _), trodAll_cons_mk (shut_int Tryd.underlying21 ha) (trodAll_mk1 (Below.trod laidOut (by kernel_rfl) (of_decide_eq_true (by kernel_rfl)) k1 bel lt1)), rfl, bel.frame _, fun h => by cases h⟩
theorem tparmChooses_row : Rows.TparmChoosesUptoSaid :=
  OpenClaim.holds_of_cond 4 Tryd.f4 rfl rfl rfl rfl rfl rfl rfl ⟨rfl, rfl, rfl, rfl, rfl⟩ rfl rfl rfl rfl rfl (by kernel_rfl) Tryd.func4 (by kernel_rfl)
    (of_decide_eq_true (by kernel_rfl)) (by unfold Func.isWrapper; first | (rw [if_pos (by decide +kernel)]; kernel_rfl) | (rw [if_neg (by decide +kernel)]; exact ⟨rfl, rfl⟩))
    (fun os started H enc _ F => by rw [OpenClaim.pre_eq_preRow]; exact tparmChooses_lifted os started H enc F)
theorem tparmChoosesUpto_holds : Rows.TparmChoosesUptoCardSaid :=
  Claim7.holds_tied_plain_at .later [] [.data, .data, .data, .data, .pinned] true (true, "9fee7fd20c70136198cb5aa060e3cd09a2668cd7121eea19f415aef0d467a83b") false
    tparmChooses_row (fun _ h => by cases h) (by kernel_rfl) (fun _ h => by cases h) tparmChoosesUpto_row_tie rfl ⟨rfl, rfl⟩ (by kernel_rfl) rfl
    (fun f fn hf hfn => by
      obtain rfl : f = 4 := Option.some.inj ((show Tryd.prog.funcNamed "lanyard/lanyardlaw04.TparmChooses" = some 4 by kernel_rfl).symm.trans hf) |>.symm
      obtain rfl : fn = Tryd.f4 := (Option.some.inj (Tryd.func4.symm.trans hfn)).symm
      exact ⟨by kernel_rfl, fun j t ht => by
        rw [Tryd.params4] at ht
        have h3 : t = 21 ∨ t = 33 := by
          rcases j with _ | _ | j
          · left; simpa using ht.symm
          · right; simpa using ht.symm
          · simp at ht
        rcases h3 with rfl | rfl
        · exact (show Tryd.prog.wantsStandIn 21 = false by kernel_rfl)
        · exact (show Tryd.prog.wantsStandIn 33 = false by kernel_rfl)⟩)
    (by kernel_rfl)
#print axioms tparmChoosesUpto_holds
end Go.Proofs.YtjaoeipfiodnfaaDoor
