import Derived.Test.YtjaoeipfiodnfaaDoorBM
import Derived.Test.YtjaoeipfiodnfaaDoorBT
set_option linter.unusedVariables false
set_option maxRecDepth 4000
namespace Go.Proofs.YtjaoeipfiodnfaaDoor
open Go Go.Fw Go.Proofs Go.RowKit
/-! ### TparmPlain's walk, at texts of any length -/
section
variable {w : World} {K : Value → World → Prop}
set_option maxHeartbeats 1000000
theorem plainF_ {v : Value} {px s : List UInt8} {ps : List Par} (hpx : px.length ≤ 140737488355328) (hs : s.length ≤ 140737488355328) (hps : Rd w w.heap.size 3 v ps.length (parsC ps)) (hok : ∀ p, p ∈ ps → ParOk p) (hg : Gnd w) (k : ∀ w', Ch [] w w' → K (.bool true) w') :
    S.call Tryd.prog 3 [strV px, strV s, v] K w := by
  refine F3_link ?_
  unfold F3
  have h6 := hg.1
  refine begun_ hg fun w1 hc1 => ?_
  rw [not_v, show (!true) = false from rfl, br_false]
  refine noPcF_ hpx fun w2 hc2 => ?_
  obtain ⟨hpn, hpl⟩ := noPc_spec px
  generalize noPc px = pl at *
  have hc02 : Ch [] w w2 := hc1.trans hc2 (by simp)
  have run1 : ∀ (t : List UInt8) (w3 : World) (K' : Value → World → Prop), Ch [] w w3 → (∀ w4, Ch [] w w4 → K' (.tuple #[strV (capRun t (fun _ => none) ps).1, I64 (capRun t (fun _ => none) ps).2.1, I64 (capRun t (fun _ => none) ps).2.2]) w4) → S.call Tryd.prog 11 [strV t] (fun t19 w => S.call Tryd.prog 13 [] (fun t20 w => S.call Tryd.prog 12 [t19, t20, v] K' w) w) w3 := by
    intro t w3 K' hc03 hk
    refine new_ fun w4 L4 hcap hc4 hl4 => ?_
    have hs3 := hc03.size
    have hs4 := hc4.size
    refine newvars_ fun w5 bv mm hv hc5 hbv hmm => ?_
    have hs5 := hc5.size
    have hc05 : Ch [] w w5 := (hc03.trans hc4 (by simp)).trans hc5 (by simp)
    refine run_ (hcap.ch hc5 (by simp)) hv (hg.ch hc05 (by simp)) (by omega) (fun hm => by have := hcap.lt' mm hm; omega) ((hps.ch hc05 (by simp)).mono (by omega)) hok (fun c p h => by cases h) fun w6 hc6 => ?_
    exact hk w6 (Ch.fresh hc05 hc6 (by simp; omega))
  refine run1 s w2 _ hc02 fun w3 hc3 => ?_
  rw [x30, x31, x32, addS_v (by omega)]
  refine run1 (pl ++ s) w3 _ hc3 fun w4 hc4 => ?_
  have hkk := k w4 hc4
  have hxl := cap_len s (fun _ => none) ps
  have hlaw := @plain_law pl s (fun _ => none) ps hpn
  have hat := fun h => @cap_at s h (fun _ => none) ps
  generalize capRun s (fun _ => none) ps = A at *
  generalize capRun (pl ++ s) (fun _ => none) ps = B at *
  obtain ⟨x, at', e⟩ := A
  obtain ⟨y, bt, f⟩ := B
  simp only at hxl hlaw hat
  dsimp only
  have fin : ∀ q : Bool, q = true → K (.bool q) w4 := fun q hq => hq ▸ hkk
  rw [x30, x31, x32, lenS_v', lenS_v', add_v, wrap_i64 (by omega) (by omega), gt_v]
  refine br_dec _ _ _ (fun h1 => hkk) (fun h1 => ?_)
  rw [lenS_v', lenS_v', sub_v, wrap_i64 (by omega) (by omega), gt_v]
  refine br_dec _ _ _ (fun h2 => hkk) (fun h2 => ?_)
  obtain ⟨l1, l2, l3, l4⟩ := hlaw (by omega) (by omega)
  simp only at l1 l2 l3 l4
  rw [eq_v]
  refine br_dec _ _ _ (fun h0 => ?_) (fun h0 => ?_)
  · obtain ⟨a1, a2, a3⟩ := l1 h0
    rw [eq_v, decide_eq_true a1, br_true, addS_v (by omega), eqs_v, decide_eq_true a2, br_true, eq_v]
    exact fin _ (decide_eq_true (by omega))
  refine seq_ok fun J hJ => ?_
  have hT : (e = 40 ∨ e = 41) → ∀ (q : Bool), q = true → J [.bool q] w4 := by
    intro he q hq
    subst hq
    refine hJ _ _ ?_
    rw [nth_zero, br_true, eq_v]
    rcases l2 he with ⟨b1, b2, b3⟩ | b3
    · have hat' := hat (by omega)
      rw [decide_eq_true b1, br_true, lenS_v', add_v, wrap_i64 (by omega) (by omega), eq_v, decide_eq_true (by omega), br_true, show (Value.string { data := #[] }) = strV [] from rfl, eqs_v, decide_eq_true b3, br_true]
      exact hkk
    · refine br_dec _ _ _ (fun hfe => ?_) (fun hfe => ?_)
      · omega
      · rw [eq_v]
        exact fin _ (decide_eq_true b3)
  have hF : ¬ (e = 40 ∨ e = 41) → ∀ (q : Bool), q = false → J [.bool q] w4 := by
    intro he q hq
    subst hq
    refine hJ _ _ ?_
    rw [nth_zero, br_false, eq_v]
    refine br_dec _ _ _ (fun h3 => ?_) (fun h3 => ?_)
    · rw [eq_v]
      exact fin _ (decide_eq_true (l3 h3))
    · rw [eq_v]
      exact fin _ (decide_eq_true (l4 h0 (by omega) (by omega) h3))
  clear hJ
  rw [eq_v]
  by_cases h40 : e = 40
  · rw [decide_eq_true h40, br_true]
    exact hT (.inl h40) true rfl
  rw [decide_eq_false h40, br_false, eq_v]
  by_cases h41 : e = 41
  · exact hT (.inr h41) _ (decide_eq_true h41)
  · exact hF (by omega) _ (decide_eq_false h41)
end
end Go.Proofs.YtjaoeipfiodnfaaDoor
