import Derived.Test.YtjaoeipfiodnfaaDoorFwOps
namespace Go.Fw
open Go.RowKit
/-- One part of a list of blocks gives way to another, whose numbers it had or that are new. -/
theorem nodup_swap {A X Y B : List Nat} {n : Nat} (h : (A ++ (X ++ B)).Nodup) (hlt : ∀ x, x ∈ A ++ (X ++ B) → x < n) (hY : Y.Nodup) (hfr : ∀ x, x ∈ Y → x ∈ X ∨ n ≤ x) : (A ++ (Y ++ B)).Nodup := by
  simp only [List.nodup_append, List.mem_append] at h hlt ⊢
  obtain ⟨hA, ⟨hX, hB, hXB⟩, hAXB⟩ := h
  refine ⟨hA, ⟨hY, hB, fun a ha b hb e => ?_⟩, fun a ha b hb e => ?_⟩
  · subst e
    rcases hfr a ha with h1 | h1
    · exact hXB a h1 a hb rfl
    · have := hlt a (.inr (.inr hb)); omega
  · subst e
    rcases hb with hb | hb
    · rcases hfr a hb with h1 | h1
      · exact hAXB a ha a (.inl h1) rfl
      · have := hlt a (.inl ha); omega
    · exact hAXB a ha a (.inr hb) rfl
theorem nodup_snoc {L : List Nat} {n g : Nat} (h : L.Nodup) (hlt : ∀ x, x ∈ L → x < n) (hg : n ≤ g) : (L ++ [g]).Nodup := by
  rw [List.nodup_append]
  refine ⟨h, by simp, fun a ha b hb e => ?_⟩
  have := hlt a ha
  simp at hb
  omega
theorem Own.nodup {w : World} {e : TypeId} {sz : Nat} {v : Value} {n : Nat} {xs : List Value} {L : List Nat} (h : Own w e sz v n xs L) : L.Nodup := by
  rcases h.form with ⟨_, _, rfl⟩ | ⟨g, off, cap, cur, h1, rfl, h3, rest⟩ <;> simp
section
variable {P : Program} {w : World}
/-! ### make, copy, a slice written out -/
theorem run_mk {t e sz bytes : Nat} {z : Value} (T : SlT P t e sz bytes z) (k : IntKind) (n : Nat) (hb : bytes * n ≤ 281474976710656) (hn : n ≤ 9223372036854775807) :
    (Instr.makeSlice t (.int k (n : Int)) (.int k (n : Int))).run P w = .ok (.slice (some ⟨w.heap.size, 0, none⟩) n n) (w.alloc (.cells (madeCells z.cells (n * sz)) e)) := by
  obtain ⟨i, hi, hs, hby, hz⟩ := T.info
  have hb' : (i.bytes : Int) * (n : Int) ≤ 281474976710656 := by
    have h : ((i.bytes * n : Nat) : Int) ≤ 281474976710656 := by rw [hby]; omega
    rwa [Int.natCast_mul] at h
  have hr := run_make (P := P) w t e i z T.und hi hz k k n n (by omega) (by omega) hb' (by omega)
  simp only [Int.toNat_natCast, hs] at hr
  exact hr
theorem mk {t e bytes : Nat} {z : Value} {K : Value → World → Prop} (T : SlT P t e 1 bytes z) (hzc : z.cells = #[z]) {k : IntKind} {n : Nat} (hb : bytes * n ≤ 281474976710656) (hn : n ≤ 9223372036854775807)
    (kk : ∀ w' : World, Own w' e 1 (.slice (some ⟨w.heap.size, 0, none⟩) n n) n (List.replicate n z) [w.heap.size] → Ch [] w w' → w'.heap.size = w.heap.size + 1 → K (.slice (some ⟨w.heap.size, 0, none⟩) n n) w') :
    S.v P (Instr.makeSlice t (.int k (n : Int)) (.int k (n : Int))) K w := by
  refine v_ok (run_mk T k n hb hn) (kk _ ?_ (ch_alloc w _) (by simp))
  have hsz : (madeCells z.cells (n * 1)).size = n * 1 := by simp [madeCells]
  have := Own.fresh (n := n) (sz := 1) (heap_alloc_new w (.cells (madeCells z.cells (n * 1)) e)) hsz (by simp only [maxLen]; omega)
  rw [hzc, Nat.mul_one, toList_madeCells_one] at this
  rw [hzc, Nat.mul_one]
  exact this
/-- 'copy' into a slice of one's own that has room for all of it. -/
theorem cp {t e sz bytes : Nat} {z : Value} {K : Value → World → Prop} (T : SlT P t e sz bytes z) {ats : Array TypeId} {ty : TypeId} (ha : ats[0]? = some t) {v src : Value} {n m B : Nat} {xs news : List Value} {L : List Nat} (h : Own w e sz v n xs L) (hs : Rd w B sz src m news)
    (h1 : ∀ u ∈ news, u.oneCell' = true) (hle : m ≤ n)
    (k : ∀ w', Own w' e sz v n (news ++ xs.drop (m * sz)) L → Ch L w w' → w'.heap.size = w.heap.size → K (.int .i64 m) w') : S.v P (Builtin.copy_ ats ty #[v, src]) K w := by
  obtain ⟨i, hi, rfl, hby, hz⟩ := T.info
  have hf := hs.first (P := P)
  obtain ⟨A, sc, rfl, hsc, hsm, hs4, hs5⟩ := hs.form
  have hmin : min m n = m := Nat.min_eq_left hle
  have hlen : (news ++ xs.drop (m * i.size)).length = n * i.size := by
    have : m * i.size ≤ n * i.size := Nat.mul_le_mul_right _ hle
    rw [List.length_append, List.length_drop, h.len, hs.len]; omega
  rcases h.form with ⟨rfl, rfl, rfl⟩ | ⟨g, off, cap, cur, rfl, rfl, hg, hnc, hcm, hfit, hx⟩
  · have hm : m = 0 := by omega
    subst hm
    have hn : news = [] := List.eq_nil_of_length_eq_zero (by simpa using hs.len)
    have hx : xs = [] := List.eq_nil_of_length_eq_zero (by simpa using h.len)
    subst hn hx
    refine v_ok (w' := w) (x := .int .i64 (0 : Nat)) ?_ (k w (by simpa using h) (Ch.refl _ _) rfl)
    simp [Builtin.copy_, ha, run_underlying T.und, Builtin.lenOf, sizeOf, typeInfo, hi, hf, goInt]
  · have hmul : m * i.size ≤ cap * i.size := Nat.mul_le_mul_right _ (by omega)
    have hmul2 : m * i.size ≤ n * i.size := Nat.mul_le_mul_right _ hle
    have hnc2 : n * i.size ≤ cap * i.size := Nat.mul_le_mul_right _ hnc
    have hst := run_storeCells_at P g off e news 0 cur w hg (by rw [hs.len]; omega) h1
    simp only [Nat.add_zero] at hst
    refine v_ok (w' := w.setRow g (cur.toList.take off ++ news ++ cur.toList.drop (off + news.length)).toArray) (x := .int .i64 m) ?_
      (k _ ⟨hlen, .inr ⟨g, off, cap, _, rfl, rfl, setRow_heap w g cur _ e _ hg, hnc, hcm, ?_, ?_⟩⟩ (ch_setRow w g _) (by simp))
    · simp [Builtin.copy_, ha, run_underlying T.und, Builtin.lenOf, sizeOf, typeInfo, hi, hmin, hf, hst, goInt]
    · simp only [List.size_toArray, List.length_append, List.length_take, List.length_drop, Array.length_toList, hs.len]
      omega
    · have hl1 : (cur.toList.take off).length = off := by simp; omega
      simp only [List.append_assoc]
      rw [List.drop_append_of_le_length (by omega), List.drop_eq_nil_of_le (by omega), List.nil_append, ← hx, List.drop_take, List.drop_drop, hs.len, List.take_append, hs.len,
        List.take_of_length_le (by rw [hs.len]; exact hmul2)]
theorem Rd.cut {B sz : Nat} {A : Option Addr} {n c : Nat} {xs : List Value} (h : Rd w B sz (.slice A n c) n xs) {l u : Nat} (h1 : l ≤ u) (h2 : u ≤ n) (hp : 0 < sz) :
    Rd w B sz (cutS sz A c l u) (u - l) ((xs.drop (l * sz)).take ((u - l) * sz)) := by
  obtain ⟨A', c', he, hc, hm, h4, h5⟩ := h.form
  injection he with e1 _ e3
  subst e1 e3
  have hm1 : (u - l) * sz ≤ (n - l) * sz := Nat.mul_le_mul_right _ (by omega)
  have hm2 : (n - l) * sz = n * sz - l * sz := Nat.sub_mul _ _ _
  refine ⟨by rw [List.length_take, List.length_drop, h.len]; omega, _, _, rfl, by omega, by omega, fun hn => ?_, fun b off hA j x hx => ?_⟩
  · obtain ⟨b, off, rfl, hb⟩ := h4 (by omega)
    rw [if_neg (by omega)]
    exact ⟨b, off + l * sz, by simp [add_mk], hb⟩
  · have hlt := (List.getElem?_eq_some_iff.1 hx).1
    have hn : 0 < u - l := by
      rcases Nat.eq_zero_or_pos (u - l) with h0 | h0
      · rw [h0] at hlt; simp at hlt
      · exact h0
    obtain ⟨b', off', rfl, hb⟩ := h4 (by omega)
    rw [if_neg (by omega)] at hA
    simp only [Option.map_some, add_mk, Option.some.injEq, Addr.mk.injEq] at hA
    obtain ⟨rfl, rfl, _⟩ := hA
    rw [List.length_take] at hlt
    rw [List.getElem?_take_of_lt (by omega), List.getElem?_drop] at hx
    have := h5 b' off' rfl _ _ hx
    rwa [Nat.add_assoc]
/-- A slice of some elements written out. -/
theorem run_bs {t e bytes : Nat} {z : Value} (T : SlT P t e 1 bytes z) (n : Nat) (hn : n ≤ 16) (h0 : n ≠ 0) (parts : Array (Nat × Value)) (cells : Array Value)
    (hc : Instr.fill (fun i => some (i * 1, 1)) ((Array.range (n * 1)).map (z.cells[· % z.cells.size]!)) parts.toList = some cells) :
    (Instr.buildSlice t n parts).run P w = .ok (.slice (some ⟨w.heap.size, 0, none⟩) n n) (w.alloc (.cells cells e)) := by
  obtain ⟨i, hi, hs, hby, hz⟩ := T.info
  have h0' : ¬ (16777216 < n) := by omega
  simp only [Nat.mul_one] at hc
  simp [Instr.buildSlice, run_underlying T.und, sizeOf, typeInfo, zeroValue, hi, hs, hz, newRow, h0, h0', hc]
theorem bs1 {t e bytes : Nat} {z : Value} {K : Value → World → Prop} (T : SlT P t e 1 bytes z) {v : Value} (hv : v.cells = #[v]) (hzc : z.cells = #[z])
    (kk : ∀ w' : World, Own w' e 1 (.slice (some ⟨w.heap.size, 0, none⟩) 1 1) 1 [v] [w.heap.size] → Ch [] w w' → w'.heap.size = w.heap.size + 1 → K (.slice (some ⟨w.heap.size, 0, none⟩) 1 1) w') :
    S.v P (Instr.buildSlice t 1 #[(0, v)]) K w := by
  have hfill : Instr.fill (fun i => some (i * 1, 1)) ((Array.range (1 * 1)).map (z.cells[· % z.cells.size]!)) (#[(0, v)] : Array (Nat × Value)).toList = some #[v] := by
    rw [hzc]
    have hr : Array.range 1 = #[0] := by simp [Array.range_succ, Array.range_zero']
    simp [Instr.fill, hv, hr]
  exact v_ok (run_bs T 1 (by omega) (by omega) _ _ hfill) (kk _ (Own.fresh (cur := #[v]) (heap_alloc_new w _) rfl (by simp only [maxLen]; omega)) (ch_alloc w _) (by simp))
theorem drawn_ok {F : World → Prop} (h : ∀ w', Ch [] w w' → w'.heap.size = w.heap.size → F w') : S.drawn F w := h w.drew (Ch.drew w) rfl
theorem seq_def {k : List Value → World → Prop} {f : (List Value → World → Prop) → Prop} : S.seq k f = f k := rfl
theorem seq_ok {k : List Value → World → Prop} {f : (List Value → World → Prop) → Prop} (h : ∀ J : List Value → World → Prop, (∀ vs w, k vs w → J vs w) → f J) : S.seq k f := h k fun _ _ h => h
/-- An element of a slice of one's own is read. -/
theorem ldo_v {t e : TypeId} {g off n c j : Nat} {xs : List Value} {L : List Nat} {u : Value} {K : Value → World → Prop} (hs : scal P t = true) (h : Own w e 1 (.slice (some ⟨g, off, none⟩) n c) n xs L) (hj : xs[j]? = some u) :
    S.v P (Instr.loadAt t (.pointer (some ⟨g, off + j, none⟩))) K w = K u w := ld_v hs (h.cell hj)
/-- An element of a slice of one's own is written. -/
theorem sto {t e : TypeId} {g off n c j : Nat} {xs : List Value} {L : List Nat} {v : Value} {K : World → Prop} (hs : scal P t = true) (h : Own w e 1 (.slice (some ⟨g, off, none⟩) n c) n xs L) (hj : j < n) (hv : v.oneCell' = true)
    (k : ∀ w', Own w' e 1 (.slice (some ⟨g, off, none⟩) n c) n (xs.set j v) L → Ch L w w' → w'.heap.size = w.heap.size → K w') : S.u P (Instr.storeAt t (.pointer (some ⟨g, off + j, none⟩)) v) K w := by
  rcases h.form with ⟨h0, _⟩ | ⟨g', off', cap, cur, h1, rfl, h3, h4, h5, h6, h7⟩
  · injection h0 with h0; cases h0
  · simp only [Value.slice.injEq, Option.some.injEq, Addr.mk.injEq] at h1
    obtain ⟨⟨rfl, rfl, _⟩, _, rfl⟩ := h1
    refine st hs h3 (by omega) hv fun w' hb hc hsz => k w' ⟨by rw [List.length_set]; exact h.len, .inr ⟨g, off, c, _, rfl, rfl, hb, h4, h5, by simpa using h6, ?_⟩⟩ hc hsz
    subst h7
    rw [Array.toList_setIfInBounds]
    have : (cur.toList.set (off + j) v).drop off = (cur.toList.drop off).set j v := by
      rw [List.drop_set, if_neg (by omega)]; simp
    rw [this, List.take_set]
theorem cells1 {b : Nat} {v0 : Value} {e : TypeId} {fr : Nat × Nat} (h : w.heap[b]? = some (.cells #[v0] e fr)) : w.cell? ⟨b, 0, none⟩ = some v0 :=
  cell_heap h
theorem cells2 {b : Nat} {v0 v1 : Value} {e : TypeId} {fr : Nat × Nat} (h : w.heap[b]? = some (.cells #[v0, v1] e fr)) : w.cell? ⟨b, 0, none⟩ = some v0 ∧ w.cell? ⟨b, 1, none⟩ = some v1 :=
  ⟨cell_heap h, cell_heap h⟩
theorem cells3 {b : Nat} {v0 v1 v2 : Value} {e : TypeId} {fr : Nat × Nat} (h : w.heap[b]? = some (.cells #[v0, v1, v2] e fr)) : w.cell? ⟨b, 0, none⟩ = some v0 ∧ w.cell? ⟨b, 1, none⟩ = some v1 ∧ w.cell? ⟨b, 2, none⟩ = some v2 :=
  ⟨cell_heap h, cell_heap h, cell_heap h⟩
theorem cells4 {b : Nat} {v0 v1 v2 v3 : Value} {e : TypeId} {fr : Nat × Nat} (h : w.heap[b]? = some (.cells #[v0, v1, v2, v3] e fr)) : w.cell? ⟨b, 0, none⟩ = some v0 ∧ w.cell? ⟨b, 1, none⟩ = some v1 ∧ w.cell? ⟨b, 2, none⟩ = some v2 ∧ w.cell? ⟨b, 3, none⟩ = some v3 :=
  ⟨cell_heap h, cell_heap h, cell_heap h, cell_heap h⟩
theorem cells5 {b : Nat} {v0 v1 v2 v3 v4 : Value} {e : TypeId} {fr : Nat × Nat} (h : w.heap[b]? = some (.cells #[v0, v1, v2, v3, v4] e fr)) : w.cell? ⟨b, 0, none⟩ = some v0 ∧ w.cell? ⟨b, 1, none⟩ = some v1 ∧ w.cell? ⟨b, 2, none⟩ = some v2 ∧ w.cell? ⟨b, 3, none⟩ = some v3 ∧ w.cell? ⟨b, 4, none⟩ = some v4 :=
  ⟨cell_heap h, cell_heap h, cell_heap h, cell_heap h, cell_heap h⟩
theorem cells6 {b : Nat} {v0 v1 v2 v3 v4 v5 : Value} {e : TypeId} {fr : Nat × Nat} (h : w.heap[b]? = some (.cells #[v0, v1, v2, v3, v4, v5] e fr)) : w.cell? ⟨b, 0, none⟩ = some v0 ∧ w.cell? ⟨b, 1, none⟩ = some v1 ∧ w.cell? ⟨b, 2, none⟩ = some v2 ∧ w.cell? ⟨b, 3, none⟩ = some v3 ∧ w.cell? ⟨b, 4, none⟩ = some v4 ∧ w.cell? ⟨b, 5, none⟩ = some v5 :=
  ⟨cell_heap h, cell_heap h, cell_heap h, cell_heap h, cell_heap h, cell_heap h⟩
theorem cells7 {b : Nat} {v0 v1 v2 v3 v4 v5 v6 : Value} {e : TypeId} {fr : Nat × Nat} (h : w.heap[b]? = some (.cells #[v0, v1, v2, v3, v4, v5, v6] e fr)) : w.cell? ⟨b, 0, none⟩ = some v0 ∧ w.cell? ⟨b, 1, none⟩ = some v1 ∧ w.cell? ⟨b, 2, none⟩ = some v2 ∧ w.cell? ⟨b, 3, none⟩ = some v3 ∧ w.cell? ⟨b, 4, none⟩ = some v4 ∧ w.cell? ⟨b, 5, none⟩ = some v5 ∧ w.cell? ⟨b, 6, none⟩ = some v6 :=
  ⟨cell_heap h, cell_heap h, cell_heap h, cell_heap h, cell_heap h, cell_heap h, cell_heap h⟩
theorem cells8 {b : Nat} {v0 v1 v2 v3 v4 v5 v6 v7 : Value} {e : TypeId} {fr : Nat × Nat} (h : w.heap[b]? = some (.cells #[v0, v1, v2, v3, v4, v5, v6, v7] e fr)) : w.cell? ⟨b, 0, none⟩ = some v0 ∧ w.cell? ⟨b, 1, none⟩ = some v1 ∧ w.cell? ⟨b, 2, none⟩ = some v2 ∧ w.cell? ⟨b, 3, none⟩ = some v3 ∧ w.cell? ⟨b, 4, none⟩ = some v4 ∧ w.cell? ⟨b, 5, none⟩ = some v5 ∧ w.cell? ⟨b, 6, none⟩ = some v6 ∧ w.cell? ⟨b, 7, none⟩ = some v7 :=
  ⟨cell_heap h, cell_heap h, cell_heap h, cell_heap h, cell_heap h, cell_heap h, cell_heap h, cell_heap h⟩
theorem x20 {v0 v1 : Value} {K : Value → World → Prop} : S.v P (Instr.extract (.tuple #[v0, v1]) 0) K w = K v0 w := rfl
theorem x21 {v0 v1 : Value} {K : Value → World → Prop} : S.v P (Instr.extract (.tuple #[v0, v1]) 1) K w = K v1 w := rfl
theorem x30 {v0 v1 v2 : Value} {K : Value → World → Prop} : S.v P (Instr.extract (.tuple #[v0, v1, v2]) 0) K w = K v0 w := rfl
theorem x31 {v0 v1 v2 : Value} {K : Value → World → Prop} : S.v P (Instr.extract (.tuple #[v0, v1, v2]) 1) K w = K v1 w := rfl
theorem x32 {v0 v1 v2 : Value} {K : Value → World → Prop} : S.v P (Instr.extract (.tuple #[v0, v1, v2]) 2) K w = K v2 w := rfl
theorem x40 {v0 v1 v2 v3 : Value} {K : Value → World → Prop} : S.v P (Instr.extract (.tuple #[v0, v1, v2, v3]) 0) K w = K v0 w := rfl
theorem x41 {v0 v1 v2 v3 : Value} {K : Value → World → Prop} : S.v P (Instr.extract (.tuple #[v0, v1, v2, v3]) 1) K w = K v1 w := rfl
theorem x42 {v0 v1 v2 v3 : Value} {K : Value → World → Prop} : S.v P (Instr.extract (.tuple #[v0, v1, v2, v3]) 2) K w = K v2 w := rfl
theorem x43 {v0 v1 v2 v3 : Value} {K : Value → World → Prop} : S.v P (Instr.extract (.tuple #[v0, v1, v2, v3]) 3) K w = K v3 w := rfl
theorem x50 {v0 v1 v2 v3 v4 : Value} {K : Value → World → Prop} : S.v P (Instr.extract (.tuple #[v0, v1, v2, v3, v4]) 0) K w = K v0 w := rfl
theorem x51 {v0 v1 v2 v3 v4 : Value} {K : Value → World → Prop} : S.v P (Instr.extract (.tuple #[v0, v1, v2, v3, v4]) 1) K w = K v1 w := rfl
theorem x52 {v0 v1 v2 v3 v4 : Value} {K : Value → World → Prop} : S.v P (Instr.extract (.tuple #[v0, v1, v2, v3, v4]) 2) K w = K v2 w := rfl
theorem x53 {v0 v1 v2 v3 v4 : Value} {K : Value → World → Prop} : S.v P (Instr.extract (.tuple #[v0, v1, v2, v3, v4]) 3) K w = K v3 w := rfl
theorem x54 {v0 v1 v2 v3 v4 : Value} {K : Value → World → Prop} : S.v P (Instr.extract (.tuple #[v0, v1, v2, v3, v4]) 4) K w = K v4 w := rfl
end
end Go.Fw
