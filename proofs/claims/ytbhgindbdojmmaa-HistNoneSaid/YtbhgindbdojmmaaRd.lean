import Derived.Test.YtbhgindbdojmmaaRows
import Derived.Test.YtbhgindbdojmmaaHK
import Derived.Test.YtbhgindbdojmmaaFwRow
import Derived.Deep.Matrix
import Derived.JoinedCond
set_option linter.unusedVariables false
set_option maxRecDepth 4000
namespace Go.Proofs.Ytbhgindbdojmmaa
open Go Go.Fw Go.Proofs Go.RowKit Go.ChangeShapes Go.WideShapes Go.ChangeAt
theorem one_le {H : Type} (d : DataW H) : 1 ≤ Rows.uptoBulk d := by
  cases d with
  | lit l => cases l <;> simp [Rows.uptoBulk]
  | nil => simp [Rows.uptoBulk]
  | ptr d => simp [Rows.uptoBulk]
  | slice elems spare => simp [Rows.uptoBulk]
  | agg parts => simp [Rows.uptoBulk]
  | iface t d => simp [Rows.uptoBulk]
  | map entries => simp [Rows.uptoBulk]
  | held h => simp [Rows.uptoBulk]
theorem length_le {H : Type} (l : List (DataW H)) : l.length ≤ Rows.uptoBulkAll l := by
  induction l with
  | nil => simp [Rows.uptoBulkAll]
  | cons x r ih => have := one_le x; simp only [Rows.uptoBulkAll, List.length_cons]; omega
theorem flat_le {H α : Type} (p : Nat → List α) (d : Nat → DataW H) : ∀ (R : List Nat), (∀ r ∈ R, (p r).length ≤ Rows.uptoBulk (d r)) → (R.map p).flatten.length ≤ Rows.uptoBulkAll (R.map d)
  | [], _ => by simp
  | r :: R, h => by
    have h1 := h r (by simp)
    have h2 := flat_le p d R (fun x hx => h x (by simp [hx]))
    simp only [List.map_cons, List.flatten_cons, List.length_append, Rows.uptoBulkAll]
    omega
theorem lines_at : ∀ (l : List HL) (j : Nat) (u : Value), (lines l)[j]? = some u → ∃ i x, l[i]? = some x ∧ ((j = i * 2 + 0 ∧ u = strV x.1) ∨ (j = i * 2 + 1 ∧ u = .int .i64 x.2))
  | [], j, u, h => by simp [lines] at h
  | x :: r, 0, u, h => ⟨0, x, rfl, .inl ⟨rfl, by simpa [lines] using h.symm⟩⟩
  | x :: r, 1, u, h => ⟨0, x, rfl, .inr ⟨rfl, by simpa [lines] using h.symm⟩⟩
  | x :: r, j + 2, u, h => by
    obtain ⟨i, y, h1, h2⟩ := lines_at r j u (by simpa [lines] using h)
    refine ⟨i + 1, y, by simpa using h1, ?_⟩
    rcases h2 with ⟨hj, hu⟩ | ⟨hj, hu⟩
    · exact .inl ⟨by omega, hu⟩
    · exact .inr ⟨by omega, hu⟩
section
variable {H : Type} {enc : TypeId × Value → H} {w : World}
theorem hl_of_trod {fuel : Nat} {cs : List Value} {x : DataW H × List MemPlace} (h : DataW.trod enc Try.prog w 0 (fun _ => true) true fuel 36 cs = some x) : ∃ y : HL, cs = [strV y.1, .int .i64 y.2] := by
  obtain ⟨y0, y1, n, _, hl, h0, h1⟩ := trod_struct2 Try.underlying36 h
  have hl2 : cs.length = 2 := hl.trans (by kernel_rfl)
  match cs, hl2 with
  | [c0, c1], _ =>
    have e0 : Try.prog.cellsOf 9 = 1 := by kernel_rfl
    have e1 : Try.prog.cellsOf 2 = 1 := by kernel_rfl
    simp only [List.drop_zero, e0, e1, List.take_succ_cons, List.take_zero, List.drop_succ_cons] at h0 h1
    obtain ⟨s, hs, _⟩ := DataW.trod_string und9 h0
    obtain ⟨n', hn, _⟩ := DataW.trod_int und2 h1
    injection hs with hs _
    injection hn with hn _
    subst hs hn
    exact ⟨(s.data.toList, n'), by simp [strV]⟩
theorem rl_of_trod {fuel : Nat} {v : Value} {x : DataW H × List MemPlace} (h : DataW.trod enc Try.prog w 0 (fun _ => true) true fuel 28 [v] = some x) : ∃ l, RL w w.heap.size v l ∧ l.length ≤ Rows.uptoBulk x.1 := by
  rcases Go.Deep.open_slice Try.underlying28 h with ⟨hcs, hx⟩ | ⟨a, len, cap, m, n, D, Pl, hcs, _, hl, hm, hmm, hx, hel⟩
  · injection hcs with hcs _
    subst hcs
    exact ⟨[], ⟨rfl, none, 0, rfl, Nat.le_refl _, Nat.zero_le _, fun h => absurd h (by simp), fun b off h => by cases h⟩, by simp⟩
  · injection hcs with hcs _
    subst hcs
    simp only [if_true] at hmm
    subst hmm
    have e36 : Try.prog.cellsOf 36 = 2 := by kernel_rfl
    rw [e36] at hel
    have each : ∀ i, i < m → ∃ y : HL, w.cell? ((a.add (i * 2)).add 0) = some (strV y.1) ∧ w.cell? ((a.add (i * 2)).add 1) = some (.int .i64 y.2) := fun i hi => by
      obtain ⟨cs', h1, h2⟩ := hel i hi
      obtain ⟨y, rfl⟩ := hl_of_trod h2
      obtain ⟨_, _, hc⟩ := World.cells?_some h1
      exact ⟨y, hc 0 (by omega), hc 1 (by omega)⟩
    obtain ⟨Y, hY⟩ := Go.Deep.choose_lt each
    have hlen : ((List.range len).map Y).length = len := by simp
    have hx0 : ∀ z : Addr, z.add 0 = z := fun z => by simp [Addr.add]
    have ha : 0 < len → a = ⟨a.block, a.off, none⟩ ∧ a.block < w.heap.size := fun hn => by
      have hc := (hY 0 (by omega)).1
      rw [Nat.zero_mul, hx0, hx0] at hc
      exact ⟨mk_of_cell hc, World.block_lt_of_cell? w a hc⟩
    refine ⟨(List.range len).map Y, ⟨by rw [lines_length], some a, m, by rw [hlen], by rw [hlen]; exact hl, hm, fun hn => ?_, fun b off hA j u hu => ?_⟩, ?_⟩
    · rw [hlen] at hn
      obtain ⟨h1, h2⟩ := ha hn
      exact ⟨a.block, a.off, by rw [← h1], h2⟩
    · injection hA with hA
      subst hA
      obtain ⟨i, y, hi, hor⟩ := lines_at _ _ _ hu
      have hlt := (List.getElem?_eq_some_iff.1 hi).1
      simp only [List.length_map, List.length_range] at hlt
      simp only [List.getElem?_map, List.getElem?_range hlt, Option.map_some, Option.some.injEq] at hi
      subst hi
      have hc := hY i (by omega)
      rw [add_mk, add_mk, add_mk] at hc
      rcases hor with ⟨rfl, rfl⟩ | ⟨rfl, rfl⟩
      · rw [← Nat.add_assoc]; exact hc.1
      · rw [← Nat.add_assoc]; exact hc.2
    · rw [hlen, hx]
      have := length_le ((List.range len).map D)
      simp only [List.length_map, List.length_range] at this
      simp only [Rows.uptoBulk]
      omega
theorem parts_of_trod {v : Value} {d : DataW H} {p : List MemPlace} (hv : ∃ a l c, v = .slice a l c) (h : DataW.Trod enc Try.prog w 0 (fun _ => true) true 22 v d p) : ∃ ps hs, Parts w w.heap.size v ps hs ∧ ps.flatten.length ≤ Rows.uptoBulk d := by
  obtain ⟨a, len, cap, rfl⟩ := hv
  obtain ⟨fuel, hf⟩ := h
  rcases Go.Deep.open_slice1 Try.underlying22 (by kernel_rfl) hf with ⟨hcs, hx⟩ | ⟨x, l, c, m, n, V, D, Pl, hcs, _, hl, hm, hmm, hx, hel⟩
  · simp [Value.cells] at hcs
    obtain ⟨rfl, rfl, rfl⟩ := hcs
    exact ⟨[], [], ⟨⟨rfl, none, 0, rfl, Nat.le_refl _, Nat.zero_le _, fun h => absurd h (by simp), fun b off h => by cases h⟩, fun i p h => by simp at h⟩, by simp⟩
  · simp [Value.cells] at hcs
    obtain ⟨rfl, rfl, rfl⟩ := hcs
    simp only [if_true] at hmm
    subst hmm
    simp only [Prod.mk.injEq] at hx
    obtain ⟨Y, hY⟩ := Go.Deep.choose_lt (α := List HL) (n := m) (p := fun i y => RL w w.heap.size (V i) y ∧ y.length ≤ Rows.uptoBulk (D i)) (fun i hi => rl_of_trod (hel i hi).2)
    have hlen : ((List.range len).map Y).length = len := by simp
    refine ⟨(List.range len).map Y, (List.range len).map V, ⟨⟨by simp, some x, m, by rw [hlen], by rw [hlen]; exact hl, hm, fun hn => ?_, fun b off hA j u hu => ?_⟩, fun i p hp => ?_⟩, ?_⟩
    · rw [hlen] at hn
      have hc := (hel 0 (by omega)).1
      have hx0 : x.add 0 = x := by simp [Addr.add]
      rw [hx0] at hc
      exact ⟨x.block, x.off, by rw [← mk_of_cell hc], World.block_lt_of_cell? w x hc⟩
    · injection hA with hA
      subst hA
      have hlt := (List.getElem?_eq_some_iff.1 hu).1
      simp only [List.length_map, List.length_range] at hlt
      simp only [List.getElem?_map, List.getElem?_range hlt, Option.map_some, Option.some.injEq] at hu
      subst hu
      have := (hel j (by omega)).1
      rwa [add_mk] at this
    · have hlt := (List.getElem?_eq_some_iff.1 hp).1
      simp only [List.length_map, List.length_range] at hlt
      simp only [List.getElem?_map, List.getElem?_range hlt, Option.map_some, Option.some.injEq] at hp
      subst hp
      exact ⟨V i, by simp only [List.getElem?_map, List.getElem?_range hlt, Option.map_some], (hY i (by omega)).1⟩
    · rw [hx.1]
      have := flat_le (H := H) Y D (List.range len) (fun r hr => (hY r (by have := List.mem_range.1 hr; omega)).2)
      simp only [Rows.uptoBulk]
      omega
end
end Go.Proofs.Ytbhgindbdojmmaa
