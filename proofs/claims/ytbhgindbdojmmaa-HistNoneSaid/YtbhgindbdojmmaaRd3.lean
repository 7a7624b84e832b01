import Derived.Test.YtbhgindbdojmmaaRd2
import Derived.SizedLaws
set_option linter.unusedVariables false
set_option maxRecDepth 4000
namespace Go.Proofs.Ytbhgindbdojmmaa
open Go Go.Fw Go.Proofs Go.RowKit Go.ChangeShapes Go.WideShapes Go.ChangeAt
section
variable {H : Type} {enc : TypeId × Value → H} {w : World}
theorem rl_of_trod2 {fuel : Nat} {v : Value} {x : DataW H × List MemPlace} (h : DataW.trod enc Try.prog w 0 (fun _ => true) true fuel 28 [v] = some x) : ∃ l, RL w w.heap.size v l ∧ (x.1 = .nil ∧ l = [] ∨ ∃ elems spare, x.1 = .slice elems spare ∧ elems.length = l.length) := by
  rcases Go.Deep.open_slice Try.underlying28 h with ⟨hcs, hx⟩ | ⟨a, len, cap, m, n, D, Pl, hcs, _, hl, hm, hmm, hx, hel⟩
  · injection hcs with hcs _
    subst hcs
    exact ⟨[], ⟨rfl, none, 0, rfl, Nat.le_refl _, Nat.zero_le _, fun h => absurd h (by simp), fun b off h => by cases h⟩, .inl ⟨by rw [hx], rfl⟩⟩
  · injection hcs with hcs _
    subst hcs
    simp only [if_true] at hmm
    subst hmm
    have e36 : Try.prog.cellsOf 36 = 2 := by kernel_rfl
    rw [e36] at hel
    have each : ∀ i, i < m → ∃ y : HL, w.cell? ((a.add (i * 2)).add 0) = some (strV y.1) ∧ w.cell? ((a.add (i * 2)).add 1) = some (.int .i64 y.2) := fun i hi => by
      obtain ⟨cs', h1, h2⟩ := hel i hi
      obtain ⟨y, rfl⟩ := hl_of_trod h2
      obtain ⟨_, _, hc⟩ := World.cells?_some h1
      exact ⟨y, hc 0 (by omega), hc 1 (by omega)⟩
    obtain ⟨Y, hY⟩ := Go.Deep.choose_lt each
    have hlen : ((List.range len).map Y).length = len := by simp
    have hx0 : ∀ z : Addr, z.add 0 = z := fun z => by simp [Addr.add]
    have ha : 0 < len → a = ⟨a.block, a.off, none⟩ ∧ a.block < w.heap.size := fun hn => by
      have hc := (hY 0 (by omega)).1
      rw [Nat.zero_mul, hx0, hx0] at hc
      exact ⟨mk_of_cell hc, World.block_lt_of_cell? w a hc⟩
    refine ⟨(List.range len).map Y, ⟨by rw [lines_length], some a, m, by rw [hlen], by rw [hlen]; exact hl, hm, fun hn => ?_, fun b off hA j u hu => ?_⟩, ?_⟩
    · rw [hlen] at hn
      obtain ⟨h1, h2⟩ := ha hn
      exact ⟨a.block, a.off, by rw [← h1], h2⟩
    · injection hA with hA
      subst hA
      obtain ⟨i, y, hi, hor⟩ := lines_at _ _ _ hu
      have hlt := (List.getElem?_eq_some_iff.1 hi).1
      simp only [List.length_map, List.length_range] at hlt
      simp only [List.getElem?_map, List.getElem?_range hlt, Option.map_some, Option.some.injEq] at hi
      subst hi
      have hc := hY i (by omega)
      rw [add_mk, add_mk, add_mk] at hc
      rcases hor with ⟨rfl, rfl⟩ | ⟨rfl, rfl⟩
      · rw [← Nat.add_assoc]; exact hc.1
      · rw [← Nat.add_assoc]; exact hc.2
    · exact .inr ⟨_, _, by rw [hx], by simp⟩
theorem go_of_trod2 {fuel : Nat} {cs : List Value} {x : DataW H × List MemPlace} (h : DataW.trod enc Try.prog w 0 (fun _ => true) true fuel 47 cs = some x) : ∃ y : Int × Str, cs = [.int .i64 y.1, strV y.2] ∧ y.2.length ≤ maxLen := by
  obtain ⟨y0, y1, n, hx, hl, h0, h1⟩ := trod_struct2 Try.underlying47 h
  have hl2 : cs.length = 2 := hl.trans (by kernel_rfl)
  match cs, hl2 with
  | [c0, c1], _ =>
    have e0 : Try.prog.cellsOf 3 = 1 := by kernel_rfl
    have e1 : Try.prog.cellsOf 9 = 1 := by kernel_rfl
    simp only [List.drop_zero, e0, e1, List.take_succ_cons, List.take_zero, List.drop_succ_cons] at h0 h1
    obtain ⟨n', hn, _⟩ := DataW.trod_int Try.underlying3 h0
    obtain ⟨s, hs, hy1⟩ := DataW.trod_string und9 h1
    injection hs with hs _
    injection hn with hn _
    subst hs hn
    refine ⟨(n', s.data.toList), by simp [strV], ?_⟩
    have := hy1.2
    simpa using this
theorem gl_of_trod2 {fuel : Nat} {v : Value} {x : DataW H × List MemPlace} (h : DataW.trod enc Try.prog w 0 (fun _ => true) true fuel 40 [v] = some x) : ∃ l, GL w w.heap.size v l ∧ l.length ≤ maxLen ∧ ∀ y ∈ l, y.2.length ≤ maxLen := by
  rcases Go.Deep.open_slice Try.underlying40 h with ⟨hcs, hx⟩ | ⟨a, len, cap, m, n, D, Pl, hcs, _, hl, hm, hmm, hx, hel⟩
  · injection hcs with hcs _
    subst hcs
    exact ⟨[], ⟨rfl, none, 0, rfl, Nat.le_refl _, Nat.zero_le _, fun h => absurd h (by simp), fun b off h => by cases h⟩, by simp, by simp⟩
  · injection hcs with hcs _
    subst hcs
    simp only [if_true] at hmm
    subst hmm
    have e47 : Try.prog.cellsOf 47 = 2 := by kernel_rfl
    rw [e47] at hel
    have each : ∀ i, i < m → ∃ y : Int × Str, (w.cell? ((a.add (i * 2)).add 0) = some (.int .i64 y.1) ∧ w.cell? ((a.add (i * 2)).add 1) = some (strV y.2)) ∧ y.2.length ≤ maxLen := fun i hi => by
      obtain ⟨cs', h1, h2⟩ := hel i hi
      obtain ⟨y, rfl, hy⟩ := go_of_trod2 h2
      obtain ⟨_, _, hc⟩ := World.cells?_some h1
      exact ⟨y, ⟨hc 0 (by omega), hc 1 (by omega)⟩, hy⟩
    obtain ⟨Y, hY⟩ := Go.Deep.choose_lt each
    have hlen : ((List.range len).map Y).length = len := by simp
    have hx0 : ∀ z : Addr, z.add 0 = z := fun z => by simp [Addr.add]
    have ha : 0 < len → a = ⟨a.block, a.off, none⟩ ∧ a.block < w.heap.size := fun hn => by
      have hc := (hY 0 (by omega)).1.1
      rw [Nat.zero_mul, hx0, hx0] at hc
      exact ⟨mk_of_cell hc, World.block_lt_of_cell? w a hc⟩
    refine ⟨(List.range len).map Y, ⟨by rw [gos_length], some a, m, by rw [hlen], by rw [hlen]; exact hl, hm, fun hn => ?_, fun b off hA j u hu => ?_⟩, ?_, ?_⟩
    · rw [hlen] at hn
      obtain ⟨h1, h2⟩ := ha hn
      exact ⟨a.block, a.off, by rw [← h1], h2⟩
    · injection hA with hA
      subst hA
      obtain ⟨i, y, hi, hor⟩ := gos_at _ _ _ hu
      have hlt := (List.getElem?_eq_some_iff.1 hi).1
      simp only [List.length_map, List.length_range] at hlt
      simp only [List.getElem?_map, List.getElem?_range hlt, Option.map_some, Option.some.injEq] at hi
      subst hi
      have hc := (hY i (by omega)).1
      rw [add_mk, add_mk, add_mk] at hc
      rcases hor with ⟨rfl, rfl⟩ | ⟨rfl, rfl⟩
      · rw [← Nat.add_assoc]; exact hc.1
      · rw [← Nat.add_assoc]; exact hc.2
    · rw [hlen]
      exact Nat.le_trans hl hm
    · intro y hy
      obtain ⟨i, hi, rfl⟩ := List.mem_map.1 hy
      have hi := List.mem_range.1 hi
      exact (hY i (by omega)).2
/-- A slice of lines is no longer than what memory holds. -/
theorem lines_room {d : DataW H} {l : List HL} {ts : List TypeId} {ds : List (DataW H)} {j : Nat} (hs : (DataW.weightsEach Try.prog ts ds).all (· ≤ reachBytes) = true) (ht : ts[j]? = some 28) (hd : ds[j]? = some d)
    (h : d = .nil ∧ l = [] ∨ ∃ elems spare, d = .slice elems spare ∧ elems.length = l.length) : l.length * 24 ≤ 140737488351232 := by
  rcases h with ⟨_, rfl⟩ | ⟨elems, spare, rfl, he⟩
  · simp
  · have h1 := sized_slice hs ht hd Try.underlying28
    have hb : Try.prog.bytesOf 36 = 24 := by kernel_rfl
    rw [hb] at h1
    have hr : reachBytes = 140737488351232 := by decide
    rw [hr] at h1
    omega
end
end Go.Proofs.Ytbhgindbdojmmaa
