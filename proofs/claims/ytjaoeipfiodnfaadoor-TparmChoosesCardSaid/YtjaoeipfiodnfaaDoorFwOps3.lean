import Derived.Test.YtjaoeipfiodnfaaDoorFwOps2
import Derived.Laws.Externs
import Derived.Lib.MakeNoZero
namespace Go.Fw
open Go.RowKit
section
variable {P : Program} {w : World}
theorem Own.shrink {e : TypeId} {sz : Nat} {A : Option Addr} {n c c' : Nat} {xs : List Value} {L : List Nat} (h : Own w e sz (.slice A n c) n xs L) (h1 : n ≤ c') (h2 : c' ≤ c) : Own w e sz (.slice A n c') n xs L := by
  refine ⟨h.len, ?_⟩
  rcases h.form with ⟨h0, h0', h0''⟩ | ⟨g, off, cap, cur, hv, hL, hb, hn, hc, ho, hx⟩
  · simp only [Value.slice.injEq] at h0
    obtain ⟨rfl, _, rfl⟩ := h0
    obtain rfl : c' = 0 := by omega
    exact .inl ⟨by rw [h0'], h0', h0''⟩
  · simp only [Value.slice.injEq] at hv
    obtain ⟨rfl, _, rfl⟩ := hv
    have : c' * sz ≤ c * sz := Nat.mul_le_mul_right _ h2
    exact .inr ⟨g, off, c', cur, rfl, hL, hb, h1, by omega, by omega, hx⟩
theorem run_cut3 {t e sz : Nat} (h : elT P t = some (e, sz)) {A : Option Addr} {n c : Nat} {k k' : IntKind} {u m : Nat} (h1 : u ≤ m) (h2 : m ≤ c) :
    (Instr.sliceAt t (.slice A n c) none (some (.int k (u : Int))) (some (.int k' (m : Int)))).run P w = .ok (.slice A u m) w := by
  obtain ⟨hu, j, hj, hs⟩ := elT_spec h
  have hb : ∀ (k : IntKind) (i y : Nat) (code : BoundsCode), i ≤ y → (Instr.sliceBound (.int k (i : Int)) y code).run P w = .ok i w := fun k i y code hi => by
    unfold Instr.sliceBound
    have : (i : Int) ≤ (y : Int) := by omega
    simp [asIntOf, this, go_sem]
  have hA : (if m = 0 then A else A.map (·.add (0 * sz))) = A := by
    split
    · rfl
    · cases A <;> simp [Addr.add]
  unfold Instr.sliceAt Instr.slice Instr.sliceBounds
  simp [run_underlying hu, sizeOf, typeInfo, hj, hb _ _ _ _ h2, go_sem]
  intro hc
  omega
theorem cut3_v {t e sz : Nat} {K : Value → World → Prop} (h : elT P t = some (e, sz)) {A : Option Addr} {n c : Nat} {k k' : IntKind} {u m : Nat} (h1 : u ≤ m) (h2 : m ≤ c) :
    S.v P (Instr.sliceAt t (.slice A n c) none (some (.int k (u : Int))) (some (.int k' (m : Int)))) K w = K (.slice A u m) w := v_eq (run_cut3 h h1 h2)
/-- An empty slice written out. -/
theorem bs0 {t e sz bytes : Nat} {z : Value} {K : Value → World → Prop} (T : SlT P t e sz bytes z)
    (kk : ∀ w' : World, Own w' e sz (.slice (some ⟨w.heap.size, 0, none⟩) 0 0) 0 [] [w.heap.size] → Ch [] w w' → w'.heap.size = w.heap.size + 1 → K (.slice (some ⟨w.heap.size, 0, none⟩) 0 0) w') :
    S.v P (Instr.buildSlice t 0 #[]) K w := by
  obtain ⟨i, hi, hs, hby, hz⟩ := T.info
  have hr : Array.range 0 = (#[] : Array Nat) := rfl
  refine v_ok (w' := w.alloc (.cells #[] e)) (x := .slice (some ⟨w.heap.size, 0, none⟩) 0 0) ?_ (kk _ (Own.fresh (cur := #[]) (heap_alloc_new w _) (by simp) (by simp)) (ch_alloc w _) (by simp))
  simp [Instr.buildSlice, run_underlying T.und, sizeOf, typeInfo, hi, hr, Instr.fill, newRow, newObj, go_sem]
  rfl
/-- 'copy' into a part of a slice of one's own: from place l on. -/
theorem cpAt {t e sz bytes : Nat} {z : Value} {K : Value → World → Prop} (T : SlT P t e sz bytes z) {ats : Array TypeId} {ty : TypeId} (ha : ats[0]? = some t) {A : Option Addr} {c l : Nat} {src : Value} {n m B : Nat} {xs news : List Value} {L : List Nat}
    (h : Own w e sz (.slice A n c) n xs L) (hs : Rd w B sz src m news)
    (h1 : ∀ u ∈ news, u.oneCell' = true) (hle : l + m ≤ n)
    (k : ∀ w', Own w' e sz (.slice A n c) n (xs.take (l * sz) ++ (news ++ xs.drop ((l + m) * sz))) L → Ch L w w' → w'.heap.size = w.heap.size → K (.int .i64 m) w') : S.v P (Builtin.copy_ ats ty #[cutS sz A c l n, src]) K w := by
  obtain ⟨i, hi, rfl, hby, hz⟩ := T.info
  have hf := hs.first (P := P)
  obtain ⟨B', sc, rfl, hsc, hsm, hs4, hs5⟩ := hs.form
  have hmin : min m (n - l) = m := Nat.min_eq_left (by omega)
  have hmul : (l + m) * i.size = l * i.size + m * i.size := Nat.add_mul ..
  have hmn : (l + m) * i.size ≤ n * i.size := Nat.mul_le_mul_right _ hle
  unfold cutS
  by_cases hm0 : m = 0
  · subst hm0
    have hn : news = [] := List.eq_nil_of_length_eq_zero (by simpa using hs.len)
    subst hn
    have hst : ∀ a : Addr, (storeCells a []).run P w = .ok () w := fun a => rfl
    refine v_ok (w' := w) (x := .int .i64 (0 : Nat)) ?_ (k w (by simpa [List.take_append_drop] using h) (Ch.refl _ _) rfl)
    by_cases hcl : c = l
    · cases A <;> simp [Builtin.copy_, ha, run_underlying T.und, Builtin.lenOf, sizeOf, typeInfo, hi, hf, hst, goInt, hcl]
    · cases A <;> simp [Builtin.copy_, ha, run_underlying T.und, Builtin.lenOf, sizeOf, typeInfo, hi, hf, hst, goInt, hcl]
  rcases h.form with ⟨h0, h0', h0''⟩ | ⟨g, off, cap, cur, hv, rfl, hg, hnc, hcm, hfit, hx⟩
  · omega
  · simp only [Value.slice.injEq] at hv
    obtain ⟨rfl, _, rfl⟩ := hv
    have hnc2 : n * i.size ≤ c * i.size := Nat.mul_le_mul_right _ hnc
    have hst := run_storeCells_at P g (off + l * i.size) e news 0 cur w hg (by rw [hs.len]; omega) h1
    simp only [Nat.add_zero] at hst
    have hlen : (xs.take (l * i.size) ++ (news ++ xs.drop ((l + m) * i.size))).length = n * i.size := by
      rw [List.length_append, List.length_append, List.length_take, List.length_drop, h.len, hs.len]; omega
    refine v_ok (w' := w.setRow g (cur.toList.take (off + l * i.size) ++ news ++ cur.toList.drop (off + l * i.size + news.length)).toArray) (x := .int .i64 m) ?_
      (k _ ⟨hlen, .inr ⟨g, off, c, _, rfl, rfl, setRow_heap w g cur _ e _ hg, hnc, hcm, ?_, ?_⟩⟩ (ch_setRow w g _) (by simp))
    · rw [if_neg (by omega)]
      simp [Builtin.copy_, ha, run_underlying T.und, Builtin.lenOf, sizeOf, typeInfo, hi, hmin, hf, add_mk, hst, goInt]
    · simp only [List.size_toArray, List.length_append, List.length_take, List.length_drop, Array.length_toList, hs.len]
      omega
    · have hl1 : (cur.toList.take (off + l * i.size)).length = off + l * i.size := by simp; omega
      simp only [List.append_assoc]
      rw [List.drop_append_of_le_length (by omega), List.drop_take, ← hx, List.take_take, Nat.min_eq_left (by omega), List.drop_take, List.drop_drop, hs.len, List.take_append, List.take_append, hs.len, List.length_take, List.length_drop, Array.length_toList]
      rw [List.take_of_length_le (by rw [List.length_take, List.length_drop, Array.length_toList]; omega)]
      rw [Nat.min_eq_left (by omega), List.take_of_length_le (l := news) (by rw [hs.len]; omega), show off + l * i.size - off = l * i.size from by omega, show off + (l + m) * i.size = off + l * i.size + m * i.size from by omega,
        show n * i.size - l * i.size - m * i.size = n * i.size - (l + m) * i.size from by omega]
theorem Rd.at_ {B n c j : Nat} {A : Option Addr} {xs : List Value} {u : Value} (h : Rd w B 1 (.slice A n c) n xs) (hj : xs[j]? = some u) : ∃ g off, A = some ⟨g, off, none⟩ ∧ w.cell? ⟨g, off + j, none⟩ = some u := by
  obtain ⟨A', c', he, _, _, h4, h5⟩ := h.form
  injection he with he _ he2
  subst he
  have hlt := (List.getElem?_eq_some_iff.1 hj).1
  have hl := h.len
  obtain ⟨g, off, rfl, hg⟩ := h4 (by omega)
  exact ⟨g, off, rfl, h5 g off rfl j _ hj⟩
/-- An element is read. -/
theorem ixr_v {t e s B n j : Nat} {v : Value} {xs : List Value} {u : Value} {k : IntKind} {i : Int} {K : Value → World → Prop} (ht : elT P t = some (e, 1)) (hs : scal P s = true) (h : Rd w B 1 v n xs) (hi : i = j) (hj : xs[j]? = some u) :
    S.v P (Instr.indexAt t v (.int k i)) (fun p w => S.v P (Instr.loadAt s p) K w) w = K u w := by
  subst hi
  obtain ⟨A, c, rfl, h2, h3, _⟩ := h.form
  obtain ⟨g, off, rfl, hcell⟩ := h.at_ hj
  have hlt := (List.getElem?_eq_some_iff.1 hj).1
  have hl := h.len
  rw [ia_v ht (by omega) (by omega), Int.toNat_natCast, Nat.mul_one, ld_v hs hcell]
theorem lenr_v {t ty e sz sz' B n : Nat} {v : Value} {xs : List Value} {K : Value → World → Prop} (ht : elT P t = some (e, sz)) (h : Rd w B sz' v n xs) : S.v P (Builtin.len_ #[t] ty #[v]) K w = K (.int .i64 n) w := by
  obtain ⟨A, c, rfl, h2, h3, _⟩ := h.form
  exact len_v ht
/-- bytealg.MakeNoZero. -/
theorem mnz {f : FuncId} {fn : Func} {ps : Array TypeId} {t e : TypeId} {K : Value → World → Prop} (hf : P.funcs[f]? = some fn) (hname : (fn.name == "runtime.NumGoroutine") = false)
    (hb : fn.body.isNone = true) (hn : Extern.findNext fn = none) (he : Extern.find fn = some (Extern.BytealgMakeNoZero.makeNoZero ps #[t])) (ht : P.underlying t = some (.slice e)) {n : Nat} (hn2 : n ≤ 281474976710656)
    (k : ∀ (w' : World) (c : Nat) (xs : List Value), Own w' e 1 (.slice (some ⟨w.heap.size, 0, none⟩) n c) n xs [w.heap.size] → Ch [] w w' → w'.heap.size = w.heap.size + 1 → n ≤ c → K (.slice (some ⟨w.heap.size, 0, none⟩) n c) w') :
    S.nx P (callFunc f #[.int .i64 n]) K w := by
  obtain ⟨cs, h1, h2, h3⟩ := Lib.run_makeNoZero (P := P) w ps t e ht n hn2
  have hr : (callFunc f #[.int .i64 n]).run P w = .ok (.value (.slice (some ⟨w.heap.size, 0, none⟩) n cs.size)) (w.drew.drew.alloc (.cells cs e)) := by
    rw [run_callFunc_extern hf hname hb hn he, h1]; rfl
  unfold S.nx
  rw [hr]
  refine k _ _ (cs.toList.take n) ⟨by simp; omega, .inr ⟨_, 0, cs.size, cs, rfl, rfl, heap_alloc_new w.drew.drew _, h2, h3 (by simp only [maxLen]; omega), by simp, by simp⟩⟩ (((Ch.drew w).trans (Ch.drew _) (by simp)).trans (ch_alloc _ _) (by simp)) (by simp) h2
end
end Go.Fw
