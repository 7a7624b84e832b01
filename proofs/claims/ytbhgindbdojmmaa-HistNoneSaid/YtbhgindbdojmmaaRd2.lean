import Derived.Test.YtbhgindbdojmmaaRd
import Derived.Test.YtbhgindbdojmmaaW9
set_option linter.unusedVariables false
set_option maxRecDepth 4000
namespace Go.Proofs.Ytbhgindbdojmmaa
open Go Go.Fw Go.Proofs Go.RowKit Go.ChangeShapes Go.WideShapes Go.ChangeAt
theorem gos_at : ∀ (l : List (Int × Str)) (j : Nat) (u : Value), (gos l)[j]? = some u → ∃ i x, l[i]? = some x ∧ ((j = i * 2 + 0 ∧ u = .int .i64 x.1) ∨ (j = i * 2 + 1 ∧ u = strV x.2))
  | [], j, u, h => by simp [gos] at h
  | x :: r, 0, u, h => ⟨0, x, rfl, .inl ⟨rfl, by simpa [gos] using h.symm⟩⟩
  | x :: r, 1, u, h => ⟨0, x, rfl, .inr ⟨rfl, by simpa [gos] using h.symm⟩⟩
  | x :: r, j + 2, u, h => by
    obtain ⟨i, y, h1, h2⟩ := gos_at r j u (by simpa [gos] using h)
    refine ⟨i + 1, y, by simpa using h1, ?_⟩
    rcases h2 with ⟨hj, hu⟩ | ⟨hj, hu⟩
    · exact .inl ⟨by omega, hu⟩
    · exact .inr ⟨by omega, hu⟩
theorem mem_le {H : Type} {d : DataW H} : ∀ {l : List (DataW H)}, d ∈ l → Rows.uptoBulk d ≤ Rows.uptoBulkAll l
  | x :: r, h => by
    simp only [Rows.uptoBulkAll]
    rcases List.mem_cons.1 h with rfl | h
    · omega
    · have := mem_le h; omega
section
variable {H : Type} {enc : TypeId × Value → H} {w : World}
theorem go_of_trod {fuel : Nat} {cs : List Value} {x : DataW H × List MemPlace} (h : DataW.trod enc Try.prog w 0 (fun _ => true) true fuel 47 cs = some x) : ∃ y : Int × Str, cs = [.int .i64 y.1, strV y.2] ∧ y.2.length ≤ Rows.uptoBulk x.1 := by
  obtain ⟨y0, y1, n, hx, hl, h0, h1⟩ := trod_struct2 Try.underlying47 h
  have hl2 : cs.length = 2 := hl.trans (by kernel_rfl)
  match cs, hl2 with
  | [c0, c1], _ =>
    have e0 : Try.prog.cellsOf 3 = 1 := by kernel_rfl
    have e1 : Try.prog.cellsOf 9 = 1 := by kernel_rfl
    simp only [List.drop_zero, e0, e1, List.take_succ_cons, List.take_zero, List.drop_succ_cons] at h0 h1
    obtain ⟨n', hn, _⟩ := DataW.trod_int Try.underlying3 h0
    obtain ⟨s, hs, hy1⟩ := DataW.trod_string und9 h1
    injection hs with hs _
    injection hn with hn _
    subst hs hn
    refine ⟨(n', s.data.toList), by simp [strV], ?_⟩
    rw [hx, hy1.1]
    simp only [Rows.uptoBulk, Rows.uptoBulkAll]
    omega
theorem gl_of_trod {fuel : Nat} {v : Value} {x : DataW H × List MemPlace} (h : DataW.trod enc Try.prog w 0 (fun _ => true) true fuel 40 [v] = some x) : ∃ l, GL w w.heap.size v l ∧ l.length ≤ Rows.uptoBulk x.1 ∧ ∀ y ∈ l, y.2.length ≤ Rows.uptoBulk x.1 := by
  rcases Go.Deep.open_slice Try.underlying40 h with ⟨hcs, hx⟩ | ⟨a, len, cap, m, n, D, Pl, hcs, _, hl, hm, hmm, hx, hel⟩
  · injection hcs with hcs _
    subst hcs
    exact ⟨[], ⟨rfl, none, 0, rfl, Nat.le_refl _, Nat.zero_le _, fun h => absurd h (by simp), fun b off h => by cases h⟩, by simp, by simp⟩
  · injection hcs with hcs _
    subst hcs
    simp only [if_true] at hmm
    subst hmm
    have e47 : Try.prog.cellsOf 47 = 2 := by kernel_rfl
    rw [e47] at hel
    have each : ∀ i, i < m → ∃ y : Int × Str, (w.cell? ((a.add (i * 2)).add 0) = some (.int .i64 y.1) ∧ w.cell? ((a.add (i * 2)).add 1) = some (strV y.2)) ∧ y.2.length ≤ Rows.uptoBulk (D i) := fun i hi => by
      obtain ⟨cs', h1, h2⟩ := hel i hi
      obtain ⟨y, rfl, hy⟩ := go_of_trod h2
      obtain ⟨_, _, hc⟩ := World.cells?_some h1
      exact ⟨y, ⟨hc 0 (by omega), hc 1 (by omega)⟩, hy⟩
    obtain ⟨Y, hY⟩ := Go.Deep.choose_lt each
    have hlen : ((List.range len).map Y).length = len := by simp
    have hx0 : ∀ z : Addr, z.add 0 = z := fun z => by simp [Addr.add]
    have ha : 0 < len → a = ⟨a.block, a.off, none⟩ ∧ a.block < w.heap.size := fun hn => by
      have hc := (hY 0 (by omega)).1.1
      rw [Nat.zero_mul, hx0, hx0] at hc
      exact ⟨mk_of_cell hc, World.block_lt_of_cell? w a hc⟩
    refine ⟨(List.range len).map Y, ⟨by rw [gos_length], some a, m, by rw [hlen], by rw [hlen]; exact hl, hm, fun hn => ?_, fun b off hA j u hu => ?_⟩, ?_, ?_⟩
    · rw [hlen] at hn
      obtain ⟨h1, h2⟩ := ha hn
      exact ⟨a.block, a.off, by rw [← h1], h2⟩
    · injection hA with hA
      subst hA
      obtain ⟨i, y, hi, hor⟩ := gos_at _ _ _ hu
      have hlt := (List.getElem?_eq_some_iff.1 hi).1
      simp only [List.length_map, List.length_range] at hlt
      simp only [List.getElem?_map, List.getElem?_range hlt, Option.map_some, Option.some.injEq] at hi
      subst hi
      have hc := (hY i (by omega)).1
      rw [add_mk, add_mk, add_mk] at hc
      rcases hor with ⟨rfl, rfl⟩ | ⟨rfl, rfl⟩
      · rw [← Nat.add_assoc]; exact hc.1
      · rw [← Nat.add_assoc]; exact hc.2
    · rw [hlen, hx]
      have := length_le ((List.range len).map D)
      simp only [List.length_map, List.length_range] at this
      simp only [Rows.uptoBulk]
      omega
    · intro y hy
      obtain ⟨i, hi, rfl⟩ := List.mem_map.1 hy
      have hi := List.mem_range.1 hi
      have h1 := (hY i (by omega)).2
      have h2 := mem_le (d := D i) (l := (List.range len).map D) (List.mem_map.2 ⟨i, List.mem_range.2 hi, rfl⟩)
      rw [hx]
      simp only [Rows.uptoBulk]
      omega
end
end Go.Proofs.Ytbhgindbdojmmaa
