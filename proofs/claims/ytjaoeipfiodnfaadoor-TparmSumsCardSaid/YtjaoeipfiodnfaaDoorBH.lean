import Derived.Test.YtjaoeipfiodnfaaDoorBG
set_option linter.unusedVariables false
set_option maxRecDepth 4000
namespace Go.Proofs.YtjaoeipfiodnfaaDoor
open Go Go.Fw Go.Proofs Go.RowKit
/-! ### TparmSums -/
def opsB : List UInt8 := [43, 45, 42, 47, 109]
def wants (a b : Int) : List Int := opsB.map fun o => twoR o.toNat a b
theorem sums_run {o : UInt8} (ho : o ∈ opsB) (f : UInt8 → Option Par) {a b : Int} (ha : -2147483648 ≤ a ∧ a ≤ 2147483647) (hb : -2147483648 ≤ b ∧ b ≤ 2147483647) :
    capRun ([37, 112, 49, 37, 112, 50, 37] ++ [o] ++ [37, 100]) f [{ num := a }, { num := b }] = (Lib.itoa (twoR o.toNat a b), 0, 0) := by
  have hok := twoR_ok o.toNat a b
  have hp : PRs ([37, 112, 49, 37, 112, 50, 37] ++ [o] ++ [37, 100]) [{ op := 112, c := 49 }, { op := 112, c := 50 }, { op := o }, dCode] := by
    simp only [opsB, List.mem_cons, List.not_mem_nil, or_false] at ho
    rcases ho with rfl | rfl | rfl | rfl | rfl <;> exact PRs.cons' rfl rfl (PRs.cons' rfl rfl (PRs.cons' rfl rfl (PRs.cons' rfl rfl PRs.nil)))
  have ho' : o.toNat ≠ 63 ∧ o.toNat ≠ 59 ∧ o.toNat ≠ 116 ∧ o.toNat ≠ 101 := by
    simp only [opsB, List.mem_cons, List.not_mem_nil, or_false] at ho
    rcases ho with rfl | rfl | rfl | rfl | rfl <;> decide
  have hdo : doesR { op := o } { ps := [{ num := a }, { num := b }] ++ List.replicate 7 {}, st := [{ num := b }, { num := a }], out := [], f := f } = (0, { ps := [{ num := a }, { num := b }] ++ List.replicate 7 {}, st := [{ num := twoR o.toNat a b }], out := [], f := f }) := by
    simp only [opsB, List.mem_cons, List.not_mem_nil, or_false] at ho
    rcases ho with rfl | rfl | rfl | rfl | rfl <;> rfl
  have h : runS [{ op := 112, c := 49 }, { op := 112, c := 50 }, { op := o }, dCode] 0 (run0 f [{ num := a }, { num := b }]) = (0, 0, { ps := [{ num := a }, { num := b }] ++ List.replicate 7 {}, st := [], out := Lib.itoa (twoR o.toNat a b), f := f }) := by
    rw [runS_step (s' := { ps := [{ num := a }, { num := b }] ++ List.replicate 7 {}, st := [{ num := a }], out := [], f := f }) (by decide) (by decide) (by decide) (by decide) rfl]
    rw [runS_step (s' := { ps := [{ num := a }, { num := b }] ++ List.replicate 7 {}, st := [{ num := b }, { num := a }], out := [], f := f }) (by decide) (by decide) (by decide) (by decide) rfl]
    rw [runS_step ho'.1 ho'.2.1 ho'.2.2.1 ho'.2.2.2 hdo]
    rw [runS_step (x := dCode) (by decide) (by decide) (by decide) (by decide) (does_d (n := twoR o.toNat a b) rfl hok.1 hok.2 (by simp))]
    rfl
  exact cap_out (by simp) hp (by simp) rfl (by rw [h]) (by rw [h])
theorem bs43 (w : World) (a b c : Int) : (Instr.buildSlice 43 5 #[(0, I32 a), (1, I32 b), (2, I32 c), (3, .int .i32 0), (4, .int .i32 0)]).run Tryd.prog w = .ok (.slice (some ⟨w.heap.size, 0, none⟩) 5 5) (w.alloc (.cells #[I32 a, I32 b, I32 c, I32 0, I32 0] 21)) := by kernel_rfl
theorem bs33 (w : World) (a b c d e : List UInt8) : (Instr.buildSlice 33 5 #[(0, strV a), (1, strV b), (2, strV c), (3, strV d), (4, strV e)]).run Tryd.prog w = .ok (.slice (some ⟨w.heap.size, 0, none⟩) 5 5) (w.alloc (.cells #[strV a, strV b, strV c, strV d, strV e] 9)) := by kernel_rfl
section
variable {w : World} {K : Value → World → Prop}
theorem cv213 {n : Int} (w : World) (h1 : -2147483648 ≤ n) (h2 : n ≤ 2147483647) : (Go.convert 21 3 (I32 n)).run Tryd.prog w = .ok (I64 n) w := cvI w (by kernel_rfl) (by kernel_rfl) (by kernel_rfl) (wrap_i64 (by omega) (by omega))
set_option maxHeartbeats 1000000
theorem sums_ {a b : Int} (ha : -2147483648 ≤ a ∧ a ≤ 2147483647) (hb : -2147483648 ≤ b ∧ b ≤ 2147483647) (hg : Gnd w) (k : ∀ w', Ch [] w w' → K (.bool true) w') : S.call Tryd.prog 6 [I32 a, I32 b] K w := by
  refine F6_link ?_
  unfold F6
  have h6 := hg.1
  refine begun_ hg fun w1 hc1 => ?_
  rw [not_v, show (!true) = false from rfl, br_false, add_v, sub_v, mul_v]
  refine v_ok (bs43 ..) ?_
  have hn := heap_alloc_new w1 (.cells #[I32 (IntKind.i32.wrap (a + b)), I32 (IntKind.i32.wrap (a - b)), I32 (IntKind.i32.wrap (a * b)), I32 0, I32 0] 21)
  have hc2 := ch_alloc w1 (.cells #[I32 (IntKind.i32.wrap (a + b)), I32 (IntKind.i32.wrap (a - b)), I32 (IntKind.i32.wrap (a * b)), I32 0, I32 0] 21)
  have hown : Own (w1.alloc (.cells #[I32 (IntKind.i32.wrap (a + b)), I32 (IntKind.i32.wrap (a - b)), I32 (IntKind.i32.wrap (a * b)), I32 0, I32 0] 21)) 21 1 (.slice (some ⟨w1.heap.size, 0, none⟩) 5 5) 5 [I32 (IntKind.i32.wrap (a + b)), I32 (IntKind.i32.wrap (a - b)), I32 (IntKind.i32.wrap (a * b)), I32 0, I32 0] [w1.heap.size] := Own.fresh hn rfl (by simp only [maxLen]; omega)
  have hs2' : w1.heap.size < (w1.alloc (.cells #[I32 (IntKind.i32.wrap (a + b)), I32 (IntKind.i32.wrap (a - b)), I32 (IntKind.i32.wrap (a * b)), I32 0, I32 0] 21)).heap.size := by simp
  generalize w1.alloc (.cells #[I32 (IntKind.i32.wrap (a + b)), I32 (IntKind.i32.wrap (a - b)), I32 (IntKind.i32.wrap (a * b)), I32 0, I32 0] 21) = w2 at *
  clear hn
  have hs1 := hc1.size
  generalize hgg : w1.heap.size = g at *
  have hc02 : Ch [] w w2 := hc1.trans hc2 (by simp)
  refine seq_ok fun J hJ => ?_
  have hJ' : ∀ (vs : List Value) (w3 : World), Own w3 21 1 (.slice (some ⟨g, 0, none⟩) 5 5) 5 ((wants a b).map I32) [g] → Ch [g] w2 w3 → J vs w3 := by
    intro vs w3 ho3 hc3
    refine hJ _ _ ?_
    have hc03 : Ch [] w w3 := Ch.fresh hc02 hc3 (by simp; omega)
    rw [show (Value.string { data := #[43] }) = strV [43] from rfl, show (Value.string { data := #[45] }) = strV [45] from rfl, show (Value.string { data := #[42] }) = strV [42] from rfl, show (Value.string { data := #[47] }) = strV [47] from rfl, show (Value.string { data := #[109] }) = strV [109] from rfl,
      show (Value.string { data := #[37, 112, 49, 37, 112, 50, 37] }) = strV [37, 112, 49, 37, 112, 50, 37] from rfl, show (Value.string { data := #[37, 100] }) = strV [37, 100] from rfl]
    refine v_ok (bs33 ..) ?_
    have hn := heap_alloc_new w3 (.cells #[strV [43], strV [45], strV [42], strV [47], strV [109]] 9)
    have hc4 := ch_alloc w3 (.cells #[strV [43], strV [45], strV [42], strV [47], strV [109]] 9)
    have hops : Own (w3.alloc (.cells #[strV [43], strV [45], strV [42], strV [47], strV [109]] 9)) 9 1 (.slice (some ⟨w3.heap.size, 0, none⟩) 5 5) 5 (opsB.map fun o => strV [o]) [w3.heap.size] := Own.fresh hn rfl (by simp only [maxLen]; omega)
    have hs4' : w3.heap.size < (w3.alloc (.cells #[strV [43], strV [45], strV [42], strV [47], strV [109]] 9)).heap.size := by simp
    generalize w3.alloc (.cells #[strV [43], strV [45], strV [42], strV [47], strV [109]] 9) = w4 at *
    clear hn
    have hs3 := hc3.size
    generalize hgo : w3.heap.size = go at *
    have ho4 := ho3.ch hc4 (by simp)
    have hc04 : Ch [] w w4 := hc03.trans hc4 (by simp)
    rw [len_v el33]
    intro I hC
    have key : ∀ (d i : Nat) (x4 x6 x7 x8 x10 x44 x74 : Value) (w' : World), i + d = 5 → Ch [] w4 w' → I [x4, x6, x7, x8, x10, I64 i, x44, x74] w' := by
      intro d
      induction d with
      | zero =>
        intro i x4 x6 x7 x8 x10 x44 x74 w' hi hch
        refine hC _ _ _ _ _ _ _ _ _ ?_
        rw [lt_v, decide_eq_false (by omega), br_false]
        exact k w' (hc04.trans hch (by simp))
      | succ d ih =>
        intro i x4 x6 x7 x8 x10 x44 x74 w' hi hch
        refine hC _ _ _ _ _ _ _ _ _ ?_
        have hil : i < opsB.length := by simp [opsB]; omega
        obtain ⟨o, ho⟩ : ∃ o, opsB[i]? = some o := ⟨opsB[i], List.getElem?_eq_getElem hil⟩
        have hmem := List.mem_of_getElem? ho
        have ops' := hops.ch hch (by simp)
        rw [lt_v, decide_eq_true (by omega), br_true, ia_v el33 (by omega) (by omega), show 0 + (i : Int).toNat * 1 = 0 + i from by omega, ldo_v (u := strV [o]) sc9 ops' (by rw [List.getElem?_map, ho]; rfl), addS_v (by simp), addS_v (by simp)]
        have hs' := hch.size
        refine new_ fun w5 L5 hcap hc5 hl5 => ?_
        have hs5 := hc5.size
        refine newvars_ fun w6 bv mm hv hc6 hbv hmm => ?_
        have hs6 := hc6.size
        rw [v_eq (bd36n ..), v_eq (bd36n ..)]
        refine two_ps fun v w7 hrd hc7 => ?_
        have hs7 := hc7.size
        have hc57 : Ch [] w5 w7 := hc6.trans hc7 (by simp)
        have hc47 : Ch [] w4 w7 := (hch.trans hc5 (by simp)).trans hc57 (by simp)
        have hgn : Gnd w7 := hg.ch (hc04.trans hc47 (by simp)) (by simp)
        refine run_ (hcap.ch hc57 (by simp)) ⟨hc7.at_ hv.1 (by simp), hv.2.1.ch hc7 (by simp), hv.2.2⟩ hgn (by omega) (fun hm => by have := hcap.lt' mm hm; omega) hrd (fun p hp => ?_) (fun c p h => by cases h) fun w8 hc8 => ?_
        · simp only [List.mem_cons, List.not_mem_nil, or_false] at hp
          rcases hp with rfl | rfl
          · exact numOk ha
          · exact numOk hb
        rw [sums_run hmem _ ha hb]
        dsimp only
        have hc48 : Ch [] w4 w8 := Ch.fresh hc47 hc8 (by simp; omega)
        have hw : (wants a b)[i]? = some (twoR o.toNat a b) := by unfold wants; rw [List.getElem?_map, ho]; rfl
        have hok := twoR_ok o.toNat a b
        rw [x30, x31, x32, ne_v, decide_eq_false (by simp), br_false, ia_v el43 (by omega) (by omega), show 0 + (i : Int).toNat * 1 = 0 + i from by omega, ldo_v (u := I32 (twoR o.toNat a b)) sc21 (ho4.ch hc48 (by simp)) (by rw [List.getElem?_map, hw]; rfl), v_eq (cv213 _ hok.1 hok.2)]
        refine itoa_ (by omega) (by omega) (hg.ch (hc04.trans hc48 (by simp)) (by simp)) fun w9 hc9 => ?_
        rw [nes_v, decide_eq_false (by simp), br_false, add_v, wrap_i64 (by omega) (by omega), show (i : Int) + 1 = ((i + 1 : Nat) : Int) from by omega]
        exact ih (i + 1) _ _ _ _ _ _ _ w9 (by omega) (hc48.trans hc9 (by simp))
    exact key 5 0 _ _ _ _ _ _ _ w4 (by omega) (Ch.refl _ _)
  clear hJ
  rw [ne_v]
  refine br_dec _ _ _ (fun h0 => ?_) (fun h0 => ?_)
  · rw [v_eq (cv212 _ ha.1 ha.2), v_eq (cv212 _ hb.1 hb.2), quo_v h0, v_eq (cv221w _), ia_v el43 (by omega) (by omega), show 0 + (3 : Int).toNat * 1 = 0 + 3 from rfl]
    refine sto sc21 hown (by omega) rfl fun w3 ho3 hc3 hs3 => ?_
    rw [v_eq (cv212 _ ha.1 ha.2), v_eq (cv212 _ hb.1 hb.2), rem_v h0, v_eq (cv221w _), ia_v el43 (by omega) (by omega), show 0 + (4 : Int).toNat * 1 = 0 + 4 from rfl]
    refine sto sc21 ho3 (by omega) rfl fun w4 ho4 hc4 hs4 => ?_
    refine hJ' _ w4 ?_ (hc3.trans hc4 (fun x hx => .inl hx))
    have e : (wants a b).map I32 = [I32 (IntKind.i32.wrap (a + b)), I32 (IntKind.i32.wrap (a - b)), I32 (IntKind.i32.wrap (a * b)), I32 (IntKind.i32.wrap (IntKind.i64.wrap (a.tdiv b))), I32 (IntKind.i32.wrap (a.tmod b))] := by
      simp [wants, opsB, twoR, h0]
    rw [e]
    exact ho4
  · refine hJ' _ w2 ?_ (Ch.refl _ _)
    have hb0 : b = 0 := by omega
    have e : (wants a b).map I32 = [I32 (IntKind.i32.wrap (a + b)), I32 (IntKind.i32.wrap (a - b)), I32 (IntKind.i32.wrap (a * b)), I32 0, I32 0] := by
      simp [wants, opsB, twoR, hb0]
    rw [e]
    exact hown
end
end Go.Proofs.YtjaoeipfiodnfaaDoor
