import Derived.Test.YtjaoeipfiodnfaaDoorRw
import Derived.JoinedCond
set_option linter.unusedVariables false
set_option maxRecDepth 4000
namespace Go.Proofs.YtjaoeipfiodnfaaDoor
open Go Go.Fw Go.Proofs Go.RowKit Go.ChangeShapes Go.WideShapes Go.ChangeAt Go.Lib
theorem one_le {H : Type} (d : DataW H) : 1 ≤ Rows.uptoBulk d := by
  cases d with
  | lit l => cases l <;> simp [Rows.uptoBulk]
  | nil => simp [Rows.uptoBulk]
  | ptr d => simp [Rows.uptoBulk]
  | slice elems spare => simp [Rows.uptoBulk]
  | agg parts => simp [Rows.uptoBulk]
  | iface t d => simp [Rows.uptoBulk]
  | map entries => simp [Rows.uptoBulk]
  | held h => simp [Rows.uptoBulk]
theorem length_le {H : Type} (l : List (DataW H)) : l.length ≤ Rows.uptoBulkAll l := by
  induction l with
  | nil => simp [Rows.uptoBulkAll]
  | cons x r ih => have := one_le x; simp only [Rows.uptoBulkAll, List.length_cons]; omega
theorem mem_le {H : Type} {l : List (DataW H)} {d : DataW H} (h : d ∈ l) : Rows.uptoBulk d ≤ Rows.uptoBulkAll l := by
  induction l with
  | nil => cases h
  | cons x r ih =>
    simp only [List.mem_cons] at h
    simp only [Rows.uptoBulkAll]
    rcases h with rfl | h
    · omega
    · have := ih h; omega
theorem i32_of_wf {n : Int} (h : (Lit.int .i32 n).wf = true) : -2147483648 ≤ n ∧ n ≤ 2147483647 := by
  simp [Lit.wf, IntKind.min, IntKind.max, IntKind.signed, IntKind.bits] at h
  omega
instance : Inhabited Par := ⟨{}⟩
theorem pars_at : ∀ (l : List Par) (j : Nat) (u : Value), (parsC l)[j]? = some u → ∃ i p k, l[i]? = some p ∧ k < 3 ∧ j = i * 3 + k ∧ (parC p)[k]? = some u
  | [], j, u, h => by simp [parsC] at h
  | a :: r, j, u, h => by
    rw [parsC_cons] at h
    by_cases hj : j < 3
    · rw [List.getElem?_append_left (by show j < 3; exact hj)] at h
      exact ⟨0, a, j, rfl, hj, by omega, h⟩
    · rw [List.getElem?_append_right (by show 3 ≤ j; omega)] at h
      obtain ⟨i, p, k, h1, h2, h3, h4⟩ := pars_at r (j - 3) u h
      exact ⟨i + 1, p, k, by simpa using h1, h2, by omega, h4⟩
section
variable {H : Type} {enc : TypeId × Value → H} {w : World}
theorem par_of_trod {fuel : Nat} {cs : List Value} {x : DataW H × List MemPlace} (h : DataW.trod enc Tryd.prog w 0 (fun _ => true) true fuel 36 cs = some x) : ∃ p : Par, cs = parC p ∧ (-2147483648 ≤ p.num ∧ p.num ≤ 2147483647) ∧ p.text.length ≤ Rows.uptoBulk x.1 := by
  obtain ⟨xs, n, _, hx, hl, hlen, hf⟩ := DataW.trod_struct Tryd.underlying36 h
  have hl3 : cs.length = 3 := hl.trans (by kernel_rfl)
  match xs, hlen with
  | [y0, y1, y2], _ =>
  match cs, hl3 with
  | [c0, c1, c2], _ =>
    have h0 := hf 0 _ rfl
    have h1 := hf 1 _ rfl
    have h2 := hf 2 _ rfl
    have e0 : Tryd.prog.cellsOf 21 = 1 := by kernel_rfl
    have e1 : Tryd.prog.cellsOf 9 = 1 := by kernel_rfl
    have e2 : Tryd.prog.cellsOf 4 = 1 := by kernel_rfl
    simp only [List.drop_zero, e0, e1, e2, List.take_succ_cons, List.take_zero, List.drop_succ_cons, List.getElem?_cons_zero, List.getElem?_cons_succ] at h0 h1 h2
    obtain ⟨nn, hn, _, hw⟩ := DataW.trod_int Tryd.underlying21 h0
    obtain ⟨s, hs, hy⟩ := DataW.trod_string Tryd.underlying9 h1
    obtain ⟨b, hb, _⟩ := DataW.trod_bool Tryd.underlying4 h2
    injection hn with hn _
    injection hs with hs _
    injection hb with hb _
    subst hn hs hb
    refine ⟨{ num := nn, text := s.data.toList, is := b }, by simp [parC, strV], i32_of_wf hw, ?_⟩
    rw [hx]
    simp only [List.map_cons, List.map_nil, Rows.uptoBulk, Rows.uptoBulkAll]
    have hy1 := hy.1
    rw [hy1]
    simp only [Rows.uptoBulk]
    omega
theorem pl_of_trod {fuel : Nat} {v : Value} {x : DataW H × List MemPlace} (h : DataW.trod enc Tryd.prog w 0 (fun _ => true) true fuel 22 [v] = some x) : ∃ l : List Par, Rd w w.heap.size 3 v l.length (parsC l) ∧ ∀ p, p ∈ l → (-2147483648 ≤ p.num ∧ p.num ≤ 2147483647) ∧ p.text.length ≤ Rows.uptoBulk x.1 := by
  rcases Go.Deep.open_slice Tryd.underlying22 h with ⟨hcs, hx⟩ | ⟨a, len, cap, m, n, D, Pl, hcs, _, hl, hm, hmm, hx, hel⟩
  · injection hcs with hcs _
    subst hcs
    exact ⟨[], ⟨rfl, none, 0, rfl, Nat.le_refl _, Nat.zero_le _, fun h => absurd h (by simp), fun b off h => by cases h⟩, by simp⟩
  · injection hcs with hcs _
    subst hcs
    simp only [if_true] at hmm
    subst hmm
    have e36 : Tryd.prog.cellsOf 36 = 3 := by kernel_rfl
    rw [e36] at hel
    have each : ∀ i, i < m → ∃ p : Par, (∀ k, k < 3 → w.cell? ((a.add (i * 3)).add k) = (parC p)[k]?) ∧ (-2147483648 ≤ p.num ∧ p.num ≤ 2147483647) ∧ p.text.length ≤ Rows.uptoBulk (D i) := fun i hi => by
      obtain ⟨cs', h1, h2⟩ := hel i hi
      obtain ⟨p, rfl, hp1, hp2⟩ := par_of_trod h2
      obtain ⟨_, hcl, hc⟩ := World.cells?_some h1
      exact ⟨p, fun k hk => by
        have := hc k (by omega)
        rw [this], hp1, hp2⟩
    obtain ⟨Y, hY⟩ := Go.Deep.choose_lt each
    have hlen : ((List.range len).map Y).length = len := by simp
    have hx0 : ∀ z : Addr, z.add 0 = z := fun z => by simp [Addr.add]
    have ha : 0 < len → a = ⟨a.block, a.off, none⟩ ∧ a.block < w.heap.size := fun hn => by
      have hc := (hY 0 (by omega)).1 0 (by omega)
      rw [Nat.zero_mul, hx0, hx0] at hc
      exact ⟨mk_of_cell hc, World.block_lt_of_cell? w a hc⟩
    refine ⟨(List.range len).map Y, ⟨by rw [parsC_len], some a, m, by rw [hlen], by rw [hlen]; exact hl, hm, fun hn => ?_, fun b off hA j u hu => ?_⟩, ?_⟩
    · rw [hlen] at hn
      obtain ⟨h1, h2⟩ := ha hn
      exact ⟨a.block, a.off, by rw [← h1], h2⟩
    · injection hA with hA
      subst hA
      obtain ⟨i, p, k, hi, hk, hj, hu'⟩ := pars_at _ _ _ hu
      have hlt := (List.getElem?_eq_some_iff.1 hi).1
      simp only [List.length_map, List.length_range] at hlt
      simp only [List.getElem?_map, List.getElem?_range hlt, Option.map_some, Option.some.injEq] at hi
      subst hi
      have hc := (hY i (by omega)).1 k hk
      rw [add_mk, add_mk] at hc
      rw [hj, ← Nat.add_assoc, hc, hu']
    · intro p hp
      obtain ⟨i, hi, rfl⟩ := List.mem_map.1 hp
      have hilt := List.mem_range.1 hi
      refine ⟨(hY i (by omega)).2.1, Nat.le_trans (hY i (by omega)).2.2 ?_⟩
      rw [hx]
      have := mem_le (l := (List.range len).map D) (d := D i) (List.mem_map.2 ⟨i, List.mem_range.2 (by omega), rfl⟩)
      simp only [Rows.uptoBulk]
      omega
end
#print axioms pl_of_trod
end Go.Proofs.YtjaoeipfiodnfaaDoor
