import Derived.Test.YthpbiliajcameaaQ3
set_option linter.unusedVariables false
namespace Go.Proofs.Ythpbiliajcameaa
open Go Go.Fw Go.Proofs Go.RowKit
structure RAt (w : World) (b : Nat) (now : List UInt8) (on : Bool) (last : List UInt8) (is : Bool) (L : List Nat) : Prop where
  ex : ∃ nv Ln, w.heap[b]? = some (.cells #[nv, .bool on, strV last, .bool is, .bool true] 58 (0, 0)) ∧ BS w nv now Ln ∧ L = b :: Ln
  nodup : L.Nodup
theorem RAt.ch {w w' : World} {b : Nat} {now : List UInt8} {on : Bool} {last : List UInt8} {is : Bool} {L M : List Nat} (h : RAt w b now on last is L) (hc : Ch M w w') (hd : ∀ x, x ∈ L → x ∉ M) : RAt w' b now on last is L := by
  obtain ⟨nv, Ln, h1, h2, h5⟩ := h.ex
  subst h5
  exact ⟨⟨nv, Ln, hc.at_ h1 (hd b (by simp)), h2.ch hc (fun x hx => hd x (by simp [hx])), rfl⟩, h.nodup⟩
theorem RAt.lt {w : World} {b : Nat} {now : List UInt8} {on : Bool} {last : List UInt8} {is : Bool} {L : List Nat} (h : RAt w b now on last is L) : ∀ x, x ∈ L → x < w.heap.size := by
  obtain ⟨nv, Ln, h1, h2, h5⟩ := h.ex
  subst h5
  intro x hx
  simp only [List.mem_cons] at hx
  rcases hx with rfl | hx
  · exact lt_of_heap h1
  · exact Own.lt h2 x hx
theorem und9 : Try.prog.underlying 9 = some .string := by kernel_rfl
theorem und22 : Try.prog.underlying 22 = some (.slice 5) := by kernel_rfl
theorem und5 : Try.prog.underlying 5 = some (.int .u8) := by kernel_rfl
theorem byT22 : ByT Try.prog 22 5 := ⟨und22, und5⟩
theorem build58 (w : World) : (Instr.build 58 #[(4, .bool true)]).run Try.prog w = .ok (.agg #[.slice none 0 0, .bool false, strV [], .bool false, .bool true]) w := by kernel_rfl
section
variable {w : World} {K : Value → World → Prop}
theorem newr_ (k : ∀ w', RAt w' w.heap.size [] false [] false [w.heap.size] → Ch [] w w' → w'.heap.size = w.heap.size + 1 → K (PT w.heap.size) w') : S.call Try.prog 13 [] K w := by
  refine F13_link ?_
  unfold F13
  rw [v_eq (build58 w)]
  refine bx fun w' h hc hsz => k w' ⟨⟨_, [], h, Own.nil _ _ _, rfl⟩, by simp⟩ hc hsz
theorem rnone {b : Nat} {cs : Array Value} {e : TypeId} (h : w.heap[b]? = some (.cells cs e (0, 0))) (h3 : cs[4]? = some (.bool true)) (k : K (.bool false) w) : S.call Try.prog 25 [PT b] K w := by
  refine F25_link ?_
  unfold F25
  rw [eqn_v pt33, Option.isNone_some, br_false, nilC_v, fa_v fo58_4, ldb_v sc4 h h3, not_v]
  exact k
theorem on_ {b : Nat} {now : List UInt8} {on : Bool} {last : List UInt8} {is : Bool} {L : List Nat} (h : RAt w b now on last is L) (k : K (.bool on) w) : S.call Try.prog 17 [PT b] K w := by
  obtain ⟨nv, Ln, h1, h2, h5⟩ := h.ex
  refine F17_link ?_
  unfold F17
  refine rnone h1 rfl ?_
  rw [not_v, show (!false) = true from rfl, br_true, nilC_v, fa_v fo58_1, ld_v sc4 (cells5 h1).2.1]
  exact k
theorem last_ {b : Nat} {now : List UInt8} {on : Bool} {last : List UInt8} {is : Bool} {L : List Nat} (h : RAt w b now on last is L) (k : ∀ w', Ch [] w w' → w'.heap.size = w.heap.size → K (.tuple #[strV last, .bool is]) w') : S.call Try.prog 19 [PT b] K w := by
  obtain ⟨nv, Ln, h1, h2, h5⟩ := h.ex
  refine F19_link ?_
  unfold F19
  refine rnone h1 rfl ?_
  rw [br_false]
  refine drawn_ok fun w' hc hsz => ?_
  have h1' := hc.at_ h1 (by simp)
  rw [nilC_p, fa_p fo58_2, ld_p sc9 (cells5 h1').2.2.1, nilC_p, fa_p fo58_3, ld_p sc4 (cells5 h1').2.2.2.1]
  exact k w' hc hsz
theorem start_ {b : Nat} {now : List UInt8} {on : Bool} {last : List UInt8} {is : Bool} {L : List Nat} (h : RAt w b now on last is L)
    (k1 : on = false → ∀ w', RAt w' b [] true last is [b] → Ch L w w' → K (I64 0) w') (k2 : on = true → K (I64 6) w) : S.call Try.prog 14 [PT b] K w := by
  obtain ⟨nv, Ln, h1, h2, h5⟩ := h.ex
  subst h5
  refine F14_link ?_
  unfold F14
  refine rnone h1 rfl ?_
  rw [br_false, nilC_v, fa_v fo58_1, ld_v sc4 (cells5 h1).2.1]
  refine br_bool _ _ _ (fun ho => k2 ho) (fun ho => ?_)
  rw [nilC_v, fa_v fo58_1]
  refine st sc4 h1 (by simp) rfl fun w1 hb1 hc1 hs1 => ?_
  rw [nilC_v, fa_v fo58_0]
  refine st sc22 hb1 (by simp) rfl fun w2 hb2 hc2 hs2 => ?_
  exact k1 ho w2 ⟨⟨_, [], hb2, Own.nil _ _ _, rfl⟩, by simp⟩ ((hc1.trans hc2 (by simp)).mono (by simp))
theorem wants_ {b : Nat} {now : List UInt8} {on : Bool} {last : List UInt8} {is : Bool} {L : List Nat} (h : RAt w b now on last is L) (k1 : on = true → K (I64 0) w) (k2 : on = false → K (I64 6) w) : S.call Try.prog 27 [PT b] K w := by
  obtain ⟨nv, Ln, h1, h2, h5⟩ := h.ex
  refine F27_link ?_
  unfold F27
  refine rnone h1 rfl ?_
  rw [br_false, nilC_v, fa_v fo58_1, ld_v sc4 (cells5 h1).2.1, not_v]
  refine br_bool _ _ _ (fun ho => k2 (by simpa using ho)) (fun ho => k1 (by simpa using ho))
theorem rput_ {b B : Nat} {now bs : List UInt8} {on : Bool} {last : List UInt8} {is : Bool} {L : List Nat} {src : Value} (h : RAt w b now on last is L) (hs : RB w B src bs) (hl : now.length ≤ 128) (hb : bs.length ≤ 4611686018427387904)
    (k0 : on = false → K (I64 6) w)
    (k1 : on = true → ∀ w' L', RAt w' b (now ++ bs) true last is L' → Ch L w w' → (∀ x, x ∈ L' → x ∈ L ∨ w.heap.size ≤ x) → now.length + bs.length ≤ 128 → K (I64 0) w')
    (k2 : on = true → ∀ w' L', RAt w' b [] false last is L' → Ch L w w' → (∀ x, x ∈ L' → x ∈ L ∨ w.heap.size ≤ x) → 128 < now.length + bs.length → K (I64 3) w') :
    S.call Try.prog 16 [PT b, src] K w := by
  obtain ⟨nv, Ln, h1, h2, h5⟩ := h.ex
  have hs0 := hs
  obtain ⟨A, c, rfl, _⟩ := hs.form
  obtain ⟨A', c', rfl, _⟩ := Own.shape h2
  subst h5
  have hnd := h.nodup
  have hlt := h.lt
  refine F16_link ?_
  unfold F16
  refine wants_ h (fun ho => ?_) (fun ho => ?_)
  · rw [ne_v, decide_eq_false (by simp), br_false, nilC_v, fa_v fo58_0, ld_v sc22 (cells5 h1).1, len_v el22, len_v el22, add_v, wrap_i64 (by omega) (by omega), gt_v]
    refine br_dec _ _ _ (fun hgt => ?_) (fun hle => ?_)
    · rw [nilC_v, fa_v fo58_1]
      refine st sc4 h1 (by simp) rfl fun w1 hb1 hc1 hs1 => ?_
      rw [nilC_v, fa_v fo58_0]
      refine st sc22 hb1 (by simp) rfl fun w2 hb2 hc2 hs2 => ?_
      exact k2 ho w2 [b] ⟨⟨_, [], hb2, Own.nil _ _ _, rfl⟩, by simp⟩ ((hc1.trans hc2 (by simp)).mono (by simp)) (by simp) (by omega)
    · rw [nilC_v, fa_v fo58_0, ld_v sc22 (cells5 h1).1]
      refine ap sl22 h2 hs one_bytesV (by omega) (by omega) fun v' w1 L1 ho1 hc1 hl1 => ?_
      have hbL : b ∉ Ln := fun hm => (List.nodup_cons.1 hnd).1 hm
      have hb1 := hc1.at_ h1 hbL
      rw [nilC_v, fa_v fo58_0]
      obtain ⟨A1, c1, rfl, _⟩ := ho1.shape
      refine st sc22 hb1 (by simp) rfl fun w2 hb2 hc2 hsz => ?_
      have hnd1 : L1.Nodup := ho1.nodup
      subst ho
      refine k1 rfl w2 (b :: L1) ⟨⟨_, L1, hb2, ?_, rfl⟩, ?_⟩ ?_ ?_ (by omega)
      · have := ho1.ch hc2 (by grind)
        simpa [BS, bytesV] using this
      · have := nodup_swap (A := [b]) (X := Ln) (Y := L1) (B := []) (n := w.heap.size) (by simpa using hnd) (by simpa using hlt) hnd1 hl1
        simpa using this
      · exact (hc1.mono (L' := b :: Ln) (by grind)).trans hc2 (by grind)
      · grind
  · rw [ne_v, decide_eq_true (by simp), br_true]
    exact k0 ho
theorem end_ {b : Nat} {now : List UInt8} {on : Bool} {last : List UInt8} {is : Bool} {L : List Nat} (h : RAt w b now on last is L)
    (k0 : on = false → K (I64 6) w) (k1 : on = true → ∀ w', RAt w' b [] false now true [b] → Ch L w w' → K (I64 0) w') : S.call Try.prog 18 [PT b] K w := by
  obtain ⟨nv, Ln, h1, h2, h5⟩ := h.ex
  subst h5
  refine F18_link ?_
  unfold F18
  refine wants_ h (fun ho => ?_) (fun ho => ?_)
  · rw [ne_v, decide_eq_false (by simp), br_false, nilC_v, fa_v fo58_0, ld_v sc22 (cells5 h1).1, cvbs_v byT22 und9 (Own.rd h2), nilC_v, fa_v fo58_2]
    refine st sc9 h1 (by simp) rfl fun w1 hb1 hc1 hs1 => ?_
    rw [nilC_v, fa_v fo58_3]
    refine st sc4 hb1 (by simp) rfl fun w2 hb2 hc2 hs2 => ?_
    rw [nilC_v, fa_v fo58_1]
    refine st sc4 hb2 (by simp) rfl fun w3 hb3 hc3 hs3 => ?_
    rw [nilC_v, fa_v fo58_0]
    refine st sc22 hb3 (by simp) rfl fun w4 hb4 hc4 hs4 => ?_
    exact k1 ho w4 ⟨⟨_, [], hb4, Own.nil _ _ _, rfl⟩, by simp⟩ ((((hc1.trans hc2 (by simp)).trans hc3 (by simp)).trans hc4 (by simp)).mono (by simp))
  · rw [ne_v, decide_eq_true (by simp), br_true]
    exact k0 ho
end
end Go.Proofs.Ythpbiliajcameaa
