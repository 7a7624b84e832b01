import Derived.Test.YtbhgindbdojmmaaH4
set_option linter.unusedVariables false
set_option maxRecDepth 4000
namespace Go.Proofs.Ytbhgindbdojmmaa
open Go Go.Fw Go.Proofs Go.RowKit
abbrev Str := List UInt8
def strs (l : List Str) : List Value := l.map strV
theorem strs_length (l : List Str) : (strs l).length = l.length := by simp [strs]
theorem strs_append (a b : List Str) : strs (a ++ b) = strs a ++ strs b := by simp [strs]
theorem strs_get {l : List Str} {i : Nat} {x : Str} (h : l[i]? = some x) : (strs l)[i]? = some (strV x) := by simp [strs, h]
theorem strs_set (l : List Str) (i : Nat) (x : Str) : (strs l).set i (strV x) = strs (l.set i x) := by simp [strs, List.map_set]
theorem one_strs {l : List Str} : ∀ u ∈ strs l, u.oneCell' = true := by
  intro u hu
  obtain ⟨x, _, rfl⟩ := List.mem_map.1 hu
  rfl
def SS (w : World) (v : Value) (l : List Str) (L : List Nat) : Prop := Own w 9 1 v l.length (strs l) L
def SR (w : World) (B : Nat) (v : Value) (l : List Str) : Prop := Rd w B 1 v l.length (strs l)
structure WAt (w : World) (b : Nat) (was now : List Str) (place : Nat) (L : List Nat) : Prop where
  ex : ∃ wv nv L1 L2, w.heap[b]? = some (.cells #[wv, nv, .int .i64 place] 96 (0, 0)) ∧ SS w wv was L1 ∧ SS w nv now L2 ∧ L = b :: (L1 ++ L2)
  nodup : L.Nodup
theorem WAt.ch {w w' : World} {b : Nat} {was now : List Str} {place : Nat} {L M : List Nat} (h : WAt w b was now place L) (hc : Ch M w w') (hd : ∀ x, x ∈ L → x ∉ M) : WAt w' b was now place L := by
  obtain ⟨wv, nv, L1, L2, h1, h2, h3, h5⟩ := h.ex
  subst h5
  exact ⟨⟨wv, nv, L1, L2, hc.at_ h1 (hd b (by simp)), Own.ch h2 hc (fun x hx => hd x (by simp [hx])), Own.ch h3 hc (fun x hx => hd x (by simp [hx])), rfl⟩, h.nodup⟩
theorem WAt.lt {w : World} {b : Nat} {was now : List Str} {place : Nat} {L : List Nat} (h : WAt w b was now place L) : ∀ x, x ∈ L → x < w.heap.size := by
  obtain ⟨wv, nv, L1, L2, h1, h2, h3, h5⟩ := h.ex
  subst h5
  intro x hx
  simp only [List.mem_cons, List.mem_append] at hx
  rcases hx with rfl | hx | hx
  · exact lt_of_heap h1
  · exact Own.lt h2 x hx
  · exact Own.lt h3 x hx
section
variable {w : World} {K : Value → World → Prop}
theorem wnone {b : Nat} {was now : List Str} {place : Nat} {L : List Nat} (h : WAt w b was now place L) (hn : now ≠ []) (k : K (.bool false) w) : S.call Try.prog 48 [PT b] K w := by
  obtain ⟨wv, nv, L1, L2, h1, h2, h3, h5⟩ := h.ex
  obtain ⟨A, c, rfl, _⟩ := Own.shape h3
  have hpos : 0 < now.length := List.length_pos_iff.2 hn
  refine F48_link ?_
  unfold F48
  rw [eqn_v pt42, Option.isNone_some, br_false, nilC_v, fa_v fo96_1, ld_v sc62 (cells3 h1).2.1, len_v el62, eq_v, decide_eq_false (by omega)]
  exact k
theorem place_ {b : Nat} {was now : List Str} {place : Nat} {L : List Nat} (h : WAt w b was now place L) (hn : now ≠ []) (k : K (I64 place) w) : S.call Try.prog 18 [PT b] K w := by
  refine F18_link ?_
  unfold F18
  refine wnone h hn ?_
  obtain ⟨wv, nv, L1, L2, h1, h2, h3, h5⟩ := h.ex
  rw [br_false, nilC_v, fa_v fo96_2, ld_v sc3 (cells3 h1).2.2]
  exact k
theorem sclone_ {B : Nat} {v : Value} {l : List Str} (h : SR w B v l) (hB : B ≤ w.heap.size) (hl : l.length * 16 ≤ 140737488355328) (k : ∀ r w' L, SS w' r l L → Ch [] w w' → (∀ x, x ∈ L → w.heap.size ≤ x) → K r w') : S.call Try.prog 47 [v] K w := by
  have h0 := h
  obtain ⟨A, c, rfl, hc1, hc2, h4, _⟩ := h.form
  refine F47_link ?_
  unfold F47
  rw [eqsl_v el62]
  cases A with
  | none =>
    have hn : l = [] := by
      rcases Nat.eq_zero_or_pos l.length with h | h
      · exact List.eq_nil_of_length_eq_zero h
      · obtain ⟨b, off, e, _⟩ := h4 h; cases e
    subst hn
    rw [Option.isNone_none, br_true]
    exact k _ _ [] (Own.nil _ _ _) (Ch.refl _ _) (by simp)
  | some a =>
    rw [Option.isNone_some, br_false]
    refine bs0 sl62 ?_
    intro w1 ho1 hcw1 hs1
    have hr1 : Rd w1 B 1 (.slice (some a) l.length c) l.length (strs l) := Rd.ch h0 hcw1 (by simp)
    refine ap (n := 0) (m := l.length) (xs := []) (news := strs l) sl62 ho1 hr1 one_strs (by omega) (by omega) fun v2 w2 L2 ho2 hcw2 hl2 => ?_
    refine k _ _ L2 ?_ (hcw1.trans hcw2 (by simp)) (fun x hx => ?_)
    · have := ho2
      rw [List.nil_append, Nat.zero_add] at this
      exact this
    · rcases hl2 x hx with h | h
      · simp at h; omega
      · omega
theorem here_ {b : Nat} {was now : List Str} {place : Nat} {L : List Nat} (h : WAt w b was now place L) (hn : now ≠ []) (i : Int)
    (k1 : (i < 0 ∨ (now.length : Int) ≤ i) → K (.tuple #[strV [], .bool false]) w) (k2 : ∀ (j : Nat) x, i = j → now[j]? = some x → K (.tuple #[strV x, .bool true]) w) : S.call Try.prog 25 [PT b, I64 i] K w := by
  refine F25_link ?_
  unfold F25
  refine wnone h hn ?_
  rw [br_false, lt_v]
  refine br_dec _ _ _ (fun hlt => k1 (.inl hlt)) (fun hlt => ?_)
  obtain ⟨wv, nv, L1, L2, h1, h2, h3, h5⟩ := h.ex
  have h3' := h3
  obtain ⟨A, c, rfl, _⟩ := Own.shape h3
  rw [nilC_v, fa_v fo96_1, ld_v sc62 (cells3 h1).2.1, len_v el62, ge_v]
  refine br_dec _ _ _ (fun hge => k1 (.inr hge)) (fun hge => ?_)
  obtain ⟨j, rfl⟩ := Int.eq_ofNat_of_zero_le (show 0 ≤ i by omega)
  have hlt2 : j < now.length := by omega
  have hget : now[j]? = some now[j] := List.getElem?_eq_getElem hlt2
  rw [nilC_v, fa_v fo96_1, ld_v sc62 (cells3 h1).2.1, ixr_v (j := j) el62 sc9 (Own.rd h3') rfl (strs_get hget)]
  exact k2 j _ rfl hget
theorem to_ {b : Nat} {was now : List Str} {place : Nat} {L : List Nat} (h : WAt w b was now place L) (hpl : place < now.length) (hlen : now.length ≤ 9223372036854775807) (i : Int) (s : Str) (hs : s.length ≤ 9223372036854775807)
    (k1 : (i < 0 ∨ (now.length : Int) ≤ i) → K (.tuple #[strV [], I64 6]) w) (k2 : ∀ (j : Nat), i = j → j < now.length → 16384 < s.length → K (.tuple #[strV [], I64 3]) w)
    (k3 : ∀ (j : Nat) x w' , i = j → s.length ≤ 16384 → (now.set place s)[j]? = some x → WAt w' b was (now.set place s) j L → Ch L w w' → K (.tuple #[strV x, I64 0]) w') : S.call Try.prog 19 [PT b, I64 i, strV s] K w := by
  have hn : now ≠ [] := fun e => by subst e; simp at hpl
  refine F19_link ?_
  unfold F19
  refine wnone h hn ?_
  rw [br_false, lt_v]
  refine br_dec _ _ _ (fun hlt => k1 (.inl hlt)) (fun hlt => ?_)
  obtain ⟨wv, nv, L1, L2, h1, h2, h3, h5⟩ := h.ex
  have h3' := h3
  subst h5
  obtain ⟨A, c, rfl, hc1, hc2⟩ := Own.shape h3
  rw [nilC_v, fa_v fo96_1, ld_v sc62 (cells3 h1).2.1, len_v el62, ge_v]
  refine br_dec _ _ _ (fun hge => k1 (.inr hge)) (fun hge => ?_)
  obtain ⟨j, rfl⟩ := Int.eq_ofNat_of_zero_le (show 0 ≤ i by omega)
  have hlt2 : j < now.length := by omega
  rw [lenS_v und9, gt_v]
  refine br_dec _ _ _ (fun hgt => k2 j rfl hlt2 (by omega)) (fun hgt => ?_)
  refine drawn_ok fun w1 hcw1 hs1 => ?_
  have h11 := hcw1.at_ h1 (by simp)
  have h31 := Own.ch h3' hcw1 (by simp)
  obtain ⟨g, off, c1, hA, hL2, _⟩ := Own.some_ h31 (by omega)
  injection hA with hA _ hA2
  subst hA hL2
  have hnd := h.nodup
  have hbL : b ≠ g := fun e => by subst e; simp at hnd
  rw [nilC_p, fa_p fo96_1, ld_p sc62 (cells3 h11).2.1, nilC_p, fa_p fo96_2, ld_p sc3 (cells3 h11).2.2, ia_p el62 (by omega) (by omega), Int.toNat_natCast, Nat.mul_one]
  refine sto sc9 h31 hpl rfl fun w2 ho2 hcw2 hs2 => ?_
  rw [strs_set] at ho2
  have h12 := hcw2.at_ h11 (by simpa using hbL)
  rw [nilC_v, fa_v fo96_2]
  refine st sc3 h12 (by simp) rfl fun w3 hb3 hcw3 hs3 => ?_
  have ho3 : SS w3 (.slice (some ⟨g, off, none⟩) now.length c) (now.set place s) [g] := by
    have := ho2.ch hcw3 (by simpa using Ne.symm hbL)
    unfold SS
    rw [List.length_set]
    exact this
  have hlt3 : j < (now.set place s).length := by rw [List.length_set]; exact hlt2
  have hget : (now.set place s)[j]? = some (now.set place s)[j] := List.getElem?_eq_getElem hlt3
  have h23 : SS w3 wv was L1 := by
    have hg1 : ∀ x, x ∈ L1 → x ≠ b ∧ x ≠ g := fun x hx => by
      simp only [List.nodup_cons, List.mem_append, List.nodup_append, List.mem_cons] at hnd
      exact ⟨fun e => hnd.1 (.inl (e ▸ hx)), fun e => hnd.2.2.2 x hx g (by simp) e⟩
    exact Own.ch (Own.ch (Own.ch h2 hcw1 (by simp)) hcw2 (fun x hx => by simpa using (hg1 x hx).2)) hcw3 (fun x hx => by simpa using (hg1 x hx).1)
  rw [nilC_v, fa_v fo96_1, ld_v sc62 (cells3 hb3).2.1, ixr_v (j := j) el62 sc9 (by have := Own.rd ho3; rwa [List.length_set] at this) rfl (strs_get hget)]
  refine k3 j _ w3 rfl (by omega) hget ⟨⟨wv, _, L1, [g], ?_, h23, ho3, rfl⟩, h.nodup⟩ ?_
  · rw [List.length_set] at *
    exact hb3
  · exact ((hcw1.nil (L := b :: (L1 ++ [g]))).trans hcw2 (by simp)).trans hcw3 (by simp)
end
end Go.Proofs.Ytbhgindbdojmmaa
