import Derived.Test.YtbhgindbdojmmaaW8
set_option linter.unusedVariables false
set_option maxRecDepth 4000
namespace Go.Proofs.Ytbhgindbdojmmaa
open Go Go.Fw Go.Proofs Go.RowKit
/-! ### One step of a walk -/
/-- What a step answers and leaves: the text, the error, what stands, the place. -/
def stp (now : List Str) (place : Nat) (i : Int) (s : Str) : Str × Int × List Str × Nat :=
  if i < 0 ∨ (now.length : Int) ≤ i then ([], 6, now, place)
  else if 16384 < s.length then ([], 3, now, place)
  else (((now.set place s)[i.toNat]?).getD [], 0, now.set place s, i.toNat)
def hst (now : List Str) (i : Int) : Str × Bool := if i < 0 ∨ (now.length : Int) ≤ i then ([], false) else ((now[i.toNat]?).getD [], true)
theorem stp_len (now : List Str) (place : Nat) (i : Int) (s : Str) : (stp now place i s).2.2.1.length = now.length := by
  unfold stp
  split
  · rfl
  · split
    · rfl
    · simp
theorem stp_place {now : List Str} {place : Nat} (i : Int) (s : Str) (h : place < now.length) : (stp now place i s).2.2.2 < now.length := by
  unfold stp
  split
  · exact h
  · split
    · exact h
    · simp only; omega
theorem stp_out {now : List Str} {place : Nat} {i : Int} {s : Str} (h : i < 0 ∨ (now.length : Int) ≤ i) : stp now place i s = ([], 6, now, place) := by
  unfold stp; rw [if_pos h]
theorem stp_long {now : List Str} {place : Nat} {j : Nat} {s : Str} (h : j < now.length) (hs : 16384 < s.length) : stp now place j s = ([], 3, now, place) := by
  unfold stp; rw [if_neg (by omega), if_pos hs]
theorem stp_in {now : List Str} {place : Nat} {j : Nat} {s x : Str} (hs : s.length ≤ 16384) (h : (now.set place s)[j]? = some x) : stp now place j s = (x, 0, now.set place s, j) := by
  have hlt := (List.getElem?_eq_some_iff.1 h).1
  rw [List.length_set] at hlt
  unfold stp; rw [if_neg (by omega), if_neg (by omega), Int.toNat_natCast, h]
  rfl
def gos : List (Int × Str) → List Value
  | [] => []
  | x :: r => I64 x.1 :: strV x.2 :: gos r
theorem gos_length (l : List (Int × Str)) : (gos l).length = l.length * 2 := by
  induction l with
  | nil => rfl
  | cons x r ih => simp only [gos, List.length_cons, ih]; omega
theorem gos_el : ∀ {l : List (Int × Str)} {i : Nat} {x : Int × Str}, l[i]? = some x → ((gos l).drop (i * 2)).take 2 = [I64 x.1, strV x.2]
  | [], i, x, h => by simp at h
  | y :: r, 0, x, h => by simp at h; subst h; rfl
  | y :: r, i + 1, x, h => by
    have e : (i + 1) * 2 = i * 2 + 1 + 1 := by omega
    rw [e]
    simp only [gos, List.drop_succ_cons]
    exact gos_el (by simpa using h)
def GL (w : World) (B : Nat) (v : Value) (l : List (Int × Str)) : Prop := Rd w B 2 v l.length (gos l)
theorem ag47 : aggSz Try.prog 47 = some 2 := by kernel_rfl
theorem z47 : zeroT Try.prog 47 = some (.agg #[.int .i64 0, strV []]) := by kernel_rfl
section
variable {w : World} {K : Value → World → Prop}
theorem to2_ {b : Nat} {was now : List Str} {place : Nat} {L : List Nat} (h : WAt w b was now place L) (hpl : place < now.length) (hlen : now.length ≤ 9223372036854775807) (i : Int) (s : Str) (hs : s.length ≤ 9223372036854775807)
    (k : ∀ w', WAt w' b was (stp now place i s).2.2.1 (stp now place i s).2.2.2 L → Ch L w w' → K (.tuple #[strV (stp now place i s).1, I64 (stp now place i s).2.1]) w') : S.call Try.prog 19 [PT b, I64 i, strV s] K w := by
  refine to_ h hpl hlen i s hs (fun ho => ?_) (fun j hi hj hl => ?_) (fun j x w' hi hl hx hw hc => ?_)
  · rw [stp_out ho] at k
    exact k w h (Ch.refl _ _)
  · subst hi
    rw [stp_long hj hl] at k
    exact k w h (Ch.refl _ _)
  · subst hi
    rw [stp_in hl hx] at k
    exact k w' hw hc
theorem rto2_ {b : Nat} {was now : List Str} {place : Nat} {L : List Nat} (h : RWAt w b was now place L) (hpl : place < now.length) (hlen : now.length ≤ 9223372036854775807) (i : Int) (s : Str) (hs : s.length ≤ 9223372036854775807)
    (k : ∀ w', RWAt w' b was (stp now place i s).2.2.1 (stp now place i s).2.2.2 L → Ch L w w' → K (.tuple #[strV (stp now place i s).1, I64 (stp now place i s).2.1]) w') : S.call Try.prog 24 [PT b, I64 i, strV s] K w := by
  refine rto_ h hpl hlen i s hs (fun ho => ?_) (fun j hi hj hl => ?_) (fun j x w' hi hl hx hw hc => ?_)
  · rw [stp_out ho] at k
    exact k w h (Ch.refl _ _)
  · subst hi
    rw [stp_long hj hl] at k
    exact k w h (Ch.refl _ _)
  · subst hi
    rw [stp_in hl hx] at k
    exact k w' hw hc
theorem hst_out {now : List Str} {i : Int} (h : i < 0 ∨ (now.length : Int) ≤ i) : hst now i = ([], false) := by unfold hst; rw [if_pos h]
theorem hst_in {now : List Str} {j : Nat} {x : Str} (h : now[j]? = some x) : hst now j = (x, true) := by
  have hlt := (List.getElem?_eq_some_iff.1 h).1
  unfold hst; rw [if_neg (by omega), Int.toNat_natCast, h]; rfl
theorem here2_ {b : Nat} {was now : List Str} {place : Nat} {L : List Nat} (h : WAt w b was now place L) (hn : now ≠ []) (i : Int) (k : K (.tuple #[strV (hst now i).1, .bool (hst now i).2]) w) : S.call Try.prog 25 [PT b, I64 i] K w := by
  refine here_ h hn i (fun ho => ?_) (fun j x hi hx => ?_)
  · rw [hst_out ho] at k; exact k
  · subst hi; rw [hst_in hx] at k; exact k
theorem rhere2_ {b : Nat} {was now : List Str} {place : Nat} {L : List Nat} (h : RWAt w b was now place L) (i : Int) (k : K (.tuple #[strV (hst now i).1, .bool (hst now i).2]) w) : S.call Try.prog 26 [PT b, I64 i] K w := by
  refine rhere_ h i (fun ho => ?_) (fun j x hi hx => ?_)
  · rw [hst_out ho] at k; exact k
  · subst hi; rw [hst_in hx] at k; exact k
theorem walks_ {v0 v1 v2 : Value} {l : List HL} {gs : List (Int × Str)} {lat : List HL} (h0 : RL w w.heap.size v0 l) (h1 : GL w w.heap.size v1 gs) (h2 : RL w w.heap.size v2 lat) (hl : l.length * 24 ≤ 140737488355328) (hlat : lat.length * 24 ≤ 140737488355328) (hg : gs.length ≤ 9223372036854775807) (hgs : ∀ x ∈ gs, x.2.length ≤ 9223372036854775807)
    (k : ∀ w', Ch [] w w' → K (.bool true) w') : S.call Try.prog 5 [v0, v1, v2] K w := by
  refine F5_link ?_
  unfold F5
  refine from_ (most := 4096) h0 (Nat.le_refl _) (by omega) (by omega) (fun hm w1 hc1 => ?_) (fun hm w1 b L1 hq hc1 hfr1 => ?_)
  · rw [x20, x21]
    refine rfrom_ (most := 4096) (h0.ch hc1) hc1.size (by omega) (by omega) (fun _ w2 hc2 => ?_) (fun h => absurd h hm)
    rw [x20, x21]
    refine begun_ fun w3 hc3 => ?_
    rw [not_v, show (!true) = false from rfl, br_false, ne_v, decide_eq_false (by simp), br_false, ne_v, decide_eq_true hm, br_true]
    exact k w3 ((hc1.trans hc2 (by simp)).trans hc3 (by simp))
  rw [x20, x21]
  refine rfrom_ (most := 4096) (h0.ch hc1) hc1.size (by omega) (by omega) (fun h => absurd hm h) (fun _ w2 b2 L2 hq2 hc2 hfr2 => ?_)
  rw [x20, x21]
  refine begun_ fun w3 hc3 => ?_
  rw [not_v, show (!true) = false from rfl, br_false, ne_v, decide_eq_false (by simp), br_false, ne_v, decide_eq_false (by simp), br_false]
  have hld : (l.drop (l.length - 4096)).length ≤ 4096 := by rw [List.length_drop]; omega
  have hbs : (1 : Int) ≤ 1 + ((l.length - 4096 : Nat) : Int) ∧ (1 + ((l.length - 4096 : Nat) : Int)) ≤ 4611686018427387904 := by omega
  generalize hgd : l.drop (l.length - 4096) = ld at *
  generalize (1 + ((l.length - 4096 : Nat) : Int)) = bse at *
  have hc13 : Ch [] w1 w3 := hc2.trans hc3 (by simp)
  have hq3 := hq.ch hc13 (by simp)
  have hq23 := hq2.ch hc3 (by simp)
  have hc03 := hc1.trans hc13 (by simp)
  have hsz1 := hc1.size
  have hsz2 := hc2.size
  have hsz3 := hc3.size
  refine newwalk_ hq3 (by omega) hld fun w4 bw Lw hw4 hc4 hfrw => ?_
  rw [x20, x21]
  have hsz4 := hc4.size
  refine rnewwalk_ (hq23.ch hc4 (by simp)) hld fun w5 bv Lv hv5 hc5 hfrv => ?_
  have hc05 : Ch [] w w5 := (hc03.trans hc4 (by simp)).trans hc5 (by simp)
  have hsz5 := hc5.size
  rw [eqn_v pt42, Option.isNone_some, br_false, ne_v, decide_eq_false (by simp), br_false]
  have hq5 := hq3.ch (hc4.trans hc5 (by simp)) (by simp)
  have hw5 := hw4.ch hc5 (by simp)
  have hL1lt := hq3.lt
  have hLwlt := hw4.lt
  refine call_ok (K' := fun _ w6 => Ch L1 w5 w6) (add_ hq5 (h2.ch hc05) hc05.size (by omega) hbs (by omega) (fun _ w6 _ hc6 => hc6.nil) (fun _ w6 L6 _ hc6 _ => hc6)) ?_
  intro t57 w6 hc6
  have hdw : ∀ x, x ∈ Lw → x ∉ L1 := fun x hx hm => by have := hfrw x hx; have := hL1lt x hm; omega
  have hdv : ∀ x, x ∈ Lv → x ∉ L1 := fun x hx hm => by have := hfrv x hx; have := hL1lt x hm; omega
  have hdwv : ∀ x, x ∈ Lw → x ∉ Lv := fun x hx hm => by have := hfrv x hm; have := hLwlt x hx; omega
  have hw6 := hw5.ch hc6 hdw
  have hv6 := hv5.ch hc6 hdv
  have hc06 : Ch [] w w6 := hc05.trans hc6 (fun x hx => .inr (hfr1 x hx))
  obtain ⟨A, cp, rfl, hcp1, hcp2, _⟩ := h1.form
  rw [len_v el40]
  intro I hC
  have key : ∀ (d i : Nat) (x6 x14 x15 x16 x17 x18 x19 x20' x21' x22 x61 x129 : Value) (w' : World) (now : List Str) (place : Nat), i + d = gs.length → WAt w' bw (ld.map (·.1)) now place Lw → RWAt w' bv (ld.map (·.1) ++ [[]]) now place Lv → now.length = ld.length + 1 → place < now.length → Ch [] w w' →
      I [x6, x14, x15, x16, x17, x18, x19, x20', x21', x22, I64 i, x61, x129] w' := by
    intro d
    induction d with
    | zero =>
      intro i x6 x14 x15 x16 x17 x18 x19 x20' x21' x22 x61 x129 w7 now place hi hw7 hv7 hnl hpl hc7
      refine hC _ _ _ _ _ _ _ _ _ _ _ _ _ _ ?_
      rw [lt_v, decide_eq_false (by omega), br_false]
      refine drawn_ok fun w8 hc8 hs8 => ?_
      have hw8 := hw7.ch hc8 (by simp)
      obtain ⟨wv, nv, M1, M2, g1, g2, g3, g5⟩ := (hv7.ch hc8 (by simp)).ex
      refine ⟨fun w' => w' = w8, rfl, ?_⟩
      rw [h_p, nilC_p, h_p, fa_p fo64_2, h_p, ld_p sc3 (cells3 g1).2.2]
      refine place_ hw8 (by intro e; simp [e] at hpl) ⟨rfl, ?_⟩
      rw [h_p, eq_p, decide_eq_true rfl]
      exact k w8 (hc7.trans hc8 (by simp))
    | succ d ih =>
      intro i x6 x14 x15 x16 x17 x18 x19 x20' x21' x22 x61 x129 w7 now place hi hw7 hv7 hnl hpl hc7
      refine hC _ _ _ _ _ _ _ _ _ _ _ _ _ _ ?_
      have hlt : i < gs.length := by omega
      have hget : gs[i]? = some gs[i] := List.getElem?_eq_getElem hlt
      have hsl := hgs gs[i] (List.getElem_mem hlt)
      have hnn : now ≠ [] := by intro e; simp [e] at hpl
      have hgr : Rd w7 w.heap.size 2 (.slice A gs.length cp) gs.length (gos gs) := Rd.ch h1 hc7 (by simp)
      rw [lt_v, decide_eq_true (by omega), br_true, ixa_v (j := i) el40 ag47 hgr (by omega) rfl hlt (gos_el hget)]
      refine Go.Fw.al z47 fun w8 hb8 hc8 hs8 => ?_
      refine stw (vs := #[I64 gs[i].1, strV gs[i].2]) ag47 hb8 rfl rfl (by simp [Value.oneCell', strV]) fun w9 hb9 hc9 hs9 => ?_
      have hc79 : Ch [] w7 w9 := hc8.trans hc9 (by simp)
      have hw9 := hw7.ch hc79 (by simp)
      have hv9 := hv7.ch hc79 (by simp)
      have hwlt := hw7.lt
      have hvlt := hv7.lt
      generalize hgo : gs[i].1 = go at *
      generalize hgt : gs[i].2 = tx at *
      rw [fa_v fo47_0, ld_v sc3 (cells2 hb9).1, fa_v fo47_1, ld_v sc9 (cells2 hb9).2]
      refine to2_ hw9 hpl (by omega) go tx (by omega) fun w10 hw10 hc10 => ?_
      have hb10 := hc10.at_ hb9 (fun hm => by have := hwlt _ hm; omega)
      have hv10 := hv9.ch hc10 (fun x hx hm => hdwv x hm hx)
      rw [x20, x21, fa_v fo47_0, ld_v sc3 (cells2 hb10).1, fa_v fo47_1, ld_v sc9 (cells2 hb10).2]
      refine rto2_ hv10 hpl (by omega) go tx (by omega) fun w11 hv11 hc11 => ?_
      have hb11 := hc11.at_ hb10 (fun hm => by have := hvlt _ hm; omega)
      have hw11 := hw10.ch hc11 hdwv
      have hln := stp_len now place go tx
      have hlp := stp_place go tx hpl
      generalize stp now place go tx = r at *
      obtain ⟨rs, re, now', place'⟩ := r
      simp only at hln hlp hw11 hv11 ⊢
      have hnn' : now' ≠ [] := by intro e; simp [e] at hln; omega
      have hc711 : Ch [] w w11 := ((hc7.trans hc79 (by simp)).trans hc10 (fun x hx => .inr (by have := hfrw x hx; have := hc03.size; omega))).trans hc11 (fun x hx => .inr (by have := hfrv x hx; have := hc03.size; omega))
      rw [x20, x21, fa_v fo47_0, ld_v sc3 (cells2 hb11).1]
      refine here2_ hw11 hnn' go ?_
      rw [x20, x21, fa_v fo47_0, ld_v sc3 (cells2 hb11).1]
      refine rhere2_ hv11 go ?_
      rw [x20, x21]
      refine seq_ok fun J hJ => ?_
      have hj : ∀ w', WAt w' bw (ld.map (·.1)) now' place' Lw → RWAt w' bv (ld.map (·.1) ++ [[]]) now' place' Lv → Ch [] w w' → J [.bool false] w' := by
        intro w' hw' hv' hc'
        refine hJ _ _ ?_
        rw [nth_zero, br_false, add_v, wrap_i64 (by omega) (by omega)]
        have := ih (i + 1) x6 (PT w7.heap.size) (strV rs) (I64 re) (strV rs) (I64 re) (strV (hst now' go).1) (.bool (hst now' go).2) (strV (hst now' go).1) (.bool (hst now' go).2) (.bool true) (.bool false) w' now' place' (by omega) hw' hv' (by omega) (by omega) hc'
        rw [show ((i + 1 : Nat) : Int) = (i : Int) + 1 from by omega] at this
        exact this
      clear hJ
      refine drawn_ok fun w12 hc12 hs12 => ?_
      have hw12 := hw11.ch hc12 (by simp)
      have hv12 := hv11.ch hc12 (by simp)
      have hc012 : Ch [] w w12 := hc711.trans hc12 (by simp)
      rw [nes_v, decide_eq_false (by simp), br_false, ne_v, decide_eq_false (by simp), br_false, nes_v, decide_eq_false (by simp), br_false, neb_v bt4, show (!((hst now' go).2 == (hst now' go).2)) = false from by simp, br_false]
      have fin : S.call Try.prog 28 [PT bv] (fun t126 w => S.call Try.prog 27 [PT bw, t126] (fun t127 w => S.v Try.prog (Op.unary Go.UnOp.not t127) (fun t128 w => J [t128] w) w) w) w12 := by
        refine rchanged_ hv12 (by simp; omega) (by omega) fun v13 w13 L13 ho13 hc13 hl13 => ?_
        have e : chgTo (ld.map (·.1) ++ [[]]) now' (now'.length - 1) = chg (ld.map (·.1)) now' := by
          have hl1 : now'.length - 1 = (ld.map (fun z : HL => z.1)).length := by simp; omega
          rw [hl1]
          exact chgTo_app _ _ _ _ (Nat.le_refl _)
        rw [e] at ho13
        have hw13 := hw12.ch hc13 (by simp)
        refine lchanged_ hw13 hnn' (by simp; omega) (by simpa using hld) ho13.rd fun w14 hc14 => ?_
        rw [not_v, show (!true) = false from rfl]
        exact hj w14 (hw13.ch hc14 (by simp)) ((hv12.ch hc13 (by simp)).ch hc14 (by simp)) ((hc012.trans hc13 (by simp)).trans hc14 (by simp))
      obtain ⟨wv, nv, M1, M2, g1, g2, g3, g5⟩ := hv12.ex
      refine ⟨?_, ?_⟩
      · refine place_ hw12 hnn' ?_
        rw [nilC_v, fa_v fo64_2, ld_v sc3 (cells3 g1).2.2, ne_v, decide_eq_false (by simp), br_false]
        exact fin
      · rw [nilC_v]
        refine ⟨?_, ?_⟩
        · refine place_ hw12 hnn' ?_
          rw [fa_v fo64_2, ld_v sc3 (cells3 g1).2.2, ne_v, decide_eq_false (by simp), br_false]
          exact fin
        · rw [fa_v fo64_2]
          refine ⟨?_, ?_⟩
          · refine place_ hw12 hnn' ?_
            rw [ld_v sc3 (cells3 g1).2.2, ne_v, decide_eq_false (by simp), br_false]
            exact fin
          · rw [ld_v sc3 (cells3 g1).2.2]
            refine place_ hw12 hnn' ?_
            rw [ne_v, decide_eq_false (by simp), br_false]
            exact fin
  exact key gs.length 0 _ undef undef undef undef undef undef undef undef undef undef undef w6 (ld.map (·.1) ++ [[]]) ld.length (by omega) hw6 hv6 (by simp) (by simp) hc06
end
end Go.Proofs.Ytbhgindbdojmmaa
