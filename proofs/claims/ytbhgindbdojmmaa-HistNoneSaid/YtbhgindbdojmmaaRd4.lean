import Derived.Test.YtbhgindbdojmmaaRd3
import Derived.Test.YtbhgindbdojmmaaE8
set_option linter.unusedVariables false
set_option maxRecDepth 4000
namespace Go.Proofs.Ytbhgindbdojmmaa
open Go Go.Fw Go.Proofs Go.RowKit Go.ChangeShapes Go.WideShapes Go.ChangeAt
instance : Inhabited OpT := ⟨⟨0, [], 0, 0, [], false, false⟩⟩
theorem opsC_at : ∀ (l : List (OpT × Value)) (j : Nat) (u : Value), (opsC l)[j]? = some u → ∃ i x c, l[i]? = some x ∧ c < 7 ∧ j = i * 7 + c ∧ (opCells x.1 x.2).toList[c]? = some u
  | [], j, u, h => by simp [opsC] at h
  | x :: r, j, u, h => by
    by_cases hj : j < 7
    · refine ⟨0, x, j, rfl, hj, by omega, ?_⟩
      simp only [opsC] at h
      rw [List.getElem?_append_left (by simpa using hj)] at h
      exact h
    · simp only [opsC] at h
      rw [List.getElem?_append_right (by simp; omega)] at h
      obtain ⟨i, y, c, h1, h2, h3, h4⟩ := opsC_at r (j - 7) u (by simpa using h)
      exact ⟨i + 1, y, c, by simpa using h1, h2, by omega, h4⟩
theorem tot_map {H : Type} (Y : Nat → OpT × Value) (D : Nat → DataW H) : ∀ (R : List Nat), (∀ r ∈ R, (Y r).1.ls.length ≤ Rows.uptoBulk (D r)) → tot (R.map Y) ≤ Rows.uptoBulkAll (R.map D)
  | [], _ => by simp [tot]
  | r :: R, h => by
    have h1 := h r (by simp)
    have h2 := tot_map Y D R (fun x hx => h x (by simp [hx]))
    simp only [List.map_cons, tot, Rows.uptoBulkAll]
    omega
section
variable {H : Type} {enc : TypeId × Value → H} {w : World}
theorem op_of_trod {fuel : Nat} {cs : List Value} {x : DataW H × List MemPlace} (h : DataW.trod enc Try.prog w 0 (fun _ => true) true fuel 77 cs = some x) :
    ∃ y : OpT × Value, cs = (opCells y.1 y.2).toList ∧ (RL w w.heap.size y.2 y.1.ls ∧ (-9223372036854775808 ≤ y.1.i ∧ y.1.i ≤ 9223372036854775807) ∧ (-9223372036854775808 ≤ y.1.n ∧ y.1.n < 9223372036854775808) ∧ y.1.t.length ≤ 9223372036854775807) ∧ y.1.ls.length ≤ Rows.uptoBulk x.1 := by
  obtain ⟨xs, n, _, rfl, hl, hlen, hf⟩ := DataW.trod_struct Try.underlying77 h
  have hl2 : cs.length = 7 := hl.trans (by kernel_rfl)
  have hx7 : xs.length = 7 := hlen
  match cs, hl2, xs, hx7 with
  | [c0, c1, c2, c3, c4, c5, c6], _, [y0, y1, y2, y3, y4, y5, y6], _ =>
    have f0 := hf 0 _ rfl
    have f1 := hf 1 _ rfl
    have f2 := hf 2 _ rfl
    have f3 := hf 3 _ rfl
    have f4 := hf 4 _ rfl
    have f5 := hf 5 _ rfl
    have f6 := hf 6 _ rfl
    simp only [List.getElem?_cons_zero, List.getElem?_cons_succ] at f0 f1 f2 f3 f4 f5 f6
    obtain ⟨d, hd, _⟩ := DataW.trod_int Try.underlying3 f0
    obtain ⟨ls, hls, hlb⟩ := rl_of_trod f1
    obtain ⟨i, hi, _, wi⟩ := DataW.trod_int Try.underlying3 f2
    obtain ⟨m, hm, _, wm⟩ := DataW.trod_int und2 f3
    obtain ⟨s, hs, _, ws⟩ := DataW.trod_string und9 f4
    obtain ⟨bk, hbk, _⟩ := DataW.trod_bool Try.underlying4 f5
    obtain ⟨bg, hbg, _⟩ := DataW.trod_bool Try.underlying4 f6
    injection hd with hd _; injection hi with hi _; injection hm with hm _; injection hs with hs _; injection hbk with hbk _; injection hbg with hbg _
    subst hd hi hm hs hbk hbg
    refine ⟨(⟨d, ls, i, m, s.data.toList, bk, bg⟩, c1), by simp [opCells, strV], ⟨hls, ?_, ?_, ?_⟩, ?_⟩
    · simp [Lit.wf, IntKind.min, IntKind.max, IntKind.signed, IntKind.bits] at wi; show -9223372036854775808 ≤ i ∧ i ≤ 9223372036854775807; omega
    · simp [Lit.wf, IntKind.min, IntKind.max, IntKind.signed, IntKind.bits] at wm; show -9223372036854775808 ≤ m ∧ m < 9223372036854775808; omega
    · simp only [maxLen] at ws; simpa using ws
    · simp only [List.map_cons, Rows.uptoBulk, Rows.uptoBulkAll]
      omega
theorem ops_of_trod {fuel : Nat} {v : Value} {x : DataW H × List MemPlace} (h : DataW.trod enc Try.prog w 0 (fun _ => true) true fuel 74 [v] = some x) : ∃ l, Scr w w.heap.size v l ∧ tot l ≤ Rows.uptoBulk x.1 := by
  rcases Go.Deep.open_slice Try.underlying74 h with ⟨hcs, hx⟩ | ⟨a, len, cap, m, n, D, Pl, hcs, _, hl, hm, hmm, hx, hel⟩
  · injection hcs with hcs _
    subst hcs
    exact ⟨[], ⟨⟨rfl, none, 0, rfl, Nat.le_refl _, Nat.zero_le _, fun h => absurd h (by simp), fun b off h => by cases h⟩, fun x hx => by cases hx⟩, by simp [tot]⟩
  · injection hcs with hcs _
    subst hcs
    simp only [if_true] at hmm
    subst hmm
    have e77 : Try.prog.cellsOf 77 = 7 := by kernel_rfl
    rw [e77] at hel
    have each : ∀ i, i < m → ∃ y : OpT × Value, (∀ c u, (opCells y.1 y.2).toList[c]? = some u → w.cell? ((a.add (i * 7)).add c) = some u) ∧ (RL w w.heap.size y.2 y.1.ls ∧ (-9223372036854775808 ≤ y.1.i ∧ y.1.i ≤ 9223372036854775807) ∧ (-9223372036854775808 ≤ y.1.n ∧ y.1.n < 9223372036854775808) ∧ y.1.t.length ≤ 9223372036854775807) ∧ y.1.ls.length ≤ Rows.uptoBulk (D i) := fun i hi => by
      obtain ⟨cs', h1, h2⟩ := hel i hi
      obtain ⟨y, rfl, hy1, hy2⟩ := op_of_trod h2
      obtain ⟨_, _, hc⟩ := World.cells?_some h1
      refine ⟨y, fun c u hu => ?_, hy1, hy2⟩
      have hlt := (List.getElem?_eq_some_iff.1 hu).1
      have := hc c (by simpa using hlt)
      rw [this]
      simpa using hu
    obtain ⟨Y, hY⟩ := Go.Deep.choose_lt each
    have hlen : ((List.range len).map Y).length = len := by simp
    have hx0 : ∀ z : Addr, z.add 0 = z := fun z => by simp [Addr.add]
    have ha : 0 < len → a = ⟨a.block, a.off, none⟩ ∧ a.block < w.heap.size := fun hn => by
      have hc := (hY 0 (by omega)).1 0 _ rfl
      rw [Nat.zero_mul, hx0, hx0] at hc
      exact ⟨mk_of_cell hc, World.block_lt_of_cell? w a hc⟩
    refine ⟨(List.range len).map Y, ⟨⟨by rw [opsC_length], some a, m, by rw [hlen], by rw [hlen]; exact hl, hm, fun hn => ?_, fun b off hA j u hu => ?_⟩, fun y hy => ?_⟩, ?_⟩
    · rw [hlen] at hn
      obtain ⟨h1, h2⟩ := ha hn
      exact ⟨a.block, a.off, by rw [← h1], h2⟩
    · injection hA with hA
      subst hA
      obtain ⟨i, y, c, hi, hc7, rfl, hcu⟩ := opsC_at _ _ _ hu
      have hlt := (List.getElem?_eq_some_iff.1 hi).1
      simp only [List.length_map, List.length_range] at hlt
      simp only [List.getElem?_map, List.getElem?_range hlt, Option.map_some, Option.some.injEq] at hi
      subst hi
      have hc := (hY i (by omega)).1 c u hcu
      rw [add_mk, add_mk] at hc
      rw [← Nat.add_assoc]; exact hc
    · obtain ⟨i, hi, rfl⟩ := List.mem_map.1 hy
      have hi := List.mem_range.1 hi
      exact (hY i (by omega)).2.1
    · rw [hx]
      have := tot_map Y D (List.range len) (fun r hr => (hY r (by have := List.mem_range.1 hr; omega)).2.2)
      simp only [Rows.uptoBulk]
      omega
end
end Go.Proofs.Ytbhgindbdojmmaa
