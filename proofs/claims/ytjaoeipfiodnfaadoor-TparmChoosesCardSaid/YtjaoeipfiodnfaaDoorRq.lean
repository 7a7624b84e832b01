import Derived.Test.YtjaoeipfiodnfaaDoorRp
import Derived.Test.YtjaoeipfiodnfaaDoorBO
import Derived.SizedLaws
set_option linter.unusedVariables false
set_option maxRecDepth 4000
namespace Go.Proofs.YtjaoeipfiodnfaaDoor
open Go Go.Fw Go.Proofs Go.RowKit Go.ChangeShapes Go.WideShapes Go.ChangeAt Go.Lib
/-! ### Readings with sizes, for full forms -/
theorem weightsAll_mem {H : Type} {P : Program} {e : TypeId} {n : Nat} {d : DataW H} : ∀ {l : List (DataW H)}, d ∈ l → n ∈ d.weights P e → n ∈ DataW.weightsAll P e l
  | x :: r, h, hn => by
    simp only [DataW.weightsAll, List.mem_append]
    simp only [List.mem_cons] at h
    rcases h with rfl | h
    · exact .inl hn
    · exact .inr (weightsAll_mem h hn)
theorem sized_mem {H : Type} {P : Program} {ts : List TypeId} {ds : List (DataW H)} (h : (DataW.weightsEach P ts ds).all (· ≤ reachBytes) = true) {j : Nat} {t : TypeId} {d : DataW H} (ht : ts[j]? = some t) (hd : ds[j]? = some d) {n : Nat} (hn : n ∈ d.weights P t) : n ≤ 140737488355328 := by
  have := List.all_eq_true.1 h n (DataW.weights_mem_each ht hd n hn)
  have h1 := of_decide_eq_true this
  have h2 := reachBytes_lt
  omega
section
variable {H : Type} {enc : TypeId × Value → H} {w : World}
theorem par_of_trodW {fuel : Nat} {cs : List Value} {x : DataW H × List MemPlace} (h : DataW.trod enc Tryd.prog w 0 (fun _ => true) true fuel 36 cs = some x) : ∃ p : Par, cs = parC p ∧ (-2147483648 ≤ p.num ∧ p.num ≤ 2147483647) ∧ p.text.length ∈ x.1.weights Tryd.prog 36 := by
  obtain ⟨xs, n, _, hx, hl, hlen, hf⟩ := DataW.trod_struct Tryd.underlying36 h
  have hl3 : cs.length = 3 := hl.trans (by kernel_rfl)
  match xs, hlen with
  | [y0, y1, y2], _ =>
  match cs, hl3 with
  | [c0, c1, c2], _ =>
    have h0 := hf 0 _ rfl
    have h1 := hf 1 _ rfl
    have h2 := hf 2 _ rfl
    have e0 : Tryd.prog.cellsOf 21 = 1 := by kernel_rfl
    have e1 : Tryd.prog.cellsOf 9 = 1 := by kernel_rfl
    have e2 : Tryd.prog.cellsOf 4 = 1 := by kernel_rfl
    simp only [List.drop_zero, e0, e1, e2, List.take_succ_cons, List.take_zero, List.drop_succ_cons, List.getElem?_cons_zero, List.getElem?_cons_succ] at h0 h1 h2
    obtain ⟨nn, hn, _, hw⟩ := DataW.trod_int Tryd.underlying21 h0
    obtain ⟨s, hs, hy⟩ := DataW.trod_string Tryd.underlying9 h1
    obtain ⟨b, hb, _⟩ := DataW.trod_bool Tryd.underlying4 h2
    injection hn with hn _
    injection hs with hs _
    injection hb with hb _
    subst hn hs hb
    refine ⟨{ num := nn, text := s.data.toList, is := b }, by simp [parC, strV], i32_of_wf hw, ?_⟩
    have hy1 := hy.1
    rw [hx]
    simp only [List.map_cons, List.map_nil, hy1, DataW.weights, Tryd.underlying36]
    simp [DataW.weightsEach, DataW.weights]
theorem pl_of_trodW {fuel : Nat} {v : Value} {x : DataW H × List MemPlace} (h : DataW.trod enc Tryd.prog w 0 (fun _ => true) true fuel 22 [v] = some x) : ∃ l : List Par, Rd w w.heap.size 3 v l.length (parsC l) ∧ ∀ p, p ∈ l → (-2147483648 ≤ p.num ∧ p.num ≤ 2147483647) ∧ p.text.length ∈ x.1.weights Tryd.prog 22 := by
  rcases Go.Deep.open_slice Tryd.underlying22 h with ⟨hcs, hx⟩ | ⟨a, len, cap, m, n, D, Pl, hcs, _, hl, hm, hmm, hx, hel⟩
  · injection hcs with hcs _
    subst hcs
    exact ⟨[], ⟨rfl, none, 0, rfl, Nat.le_refl _, Nat.zero_le _, fun h => absurd h (by simp), fun b off h => by cases h⟩, by simp⟩
  · injection hcs with hcs _
    subst hcs
    simp only [if_true] at hmm
    subst hmm
    have e36 : Tryd.prog.cellsOf 36 = 3 := by kernel_rfl
    rw [e36] at hel
    have each : ∀ i, i < m → ∃ p : Par, (∀ k, k < 3 → w.cell? ((a.add (i * 3)).add k) = (parC p)[k]?) ∧ (-2147483648 ≤ p.num ∧ p.num ≤ 2147483647) ∧ p.text.length ∈ (D i).weights Tryd.prog 36 := fun i hi => by
      obtain ⟨cs', h1, h2⟩ := hel i hi
      obtain ⟨p, rfl, hp1, hp2⟩ := par_of_trodW h2
      obtain ⟨_, hcl, hc⟩ := World.cells?_some h1
      exact ⟨p, fun k hk => by
        have := hc k (by omega)
        rw [this], hp1, hp2⟩
    obtain ⟨Y, hY⟩ := Go.Deep.choose_lt each
    have hlen : ((List.range len).map Y).length = len := by simp
    have hx0 : ∀ z : Addr, z.add 0 = z := fun z => by simp [Addr.add]
    have ha : 0 < len → a = ⟨a.block, a.off, none⟩ ∧ a.block < w.heap.size := fun hn => by
      have hc := (hY 0 (by omega)).1 0 (by omega)
      rw [Nat.zero_mul, hx0, hx0] at hc
      exact ⟨mk_of_cell hc, World.block_lt_of_cell? w a hc⟩
    refine ⟨(List.range len).map Y, ⟨by rw [parsC_len], some a, m, by rw [hlen], by rw [hlen]; exact hl, hm, fun hn => ?_, fun b off hA j u hu => ?_⟩, ?_⟩
    · rw [hlen] at hn
      obtain ⟨h1, h2⟩ := ha hn
      exact ⟨a.block, a.off, by rw [← h1], h2⟩
    · injection hA with hA
      subst hA
      obtain ⟨i, p, k, hi, hk, hj, hu'⟩ := pars_at _ _ _ hu
      have hlt := (List.getElem?_eq_some_iff.1 hi).1
      simp only [List.length_map, List.length_range] at hlt
      simp only [List.getElem?_map, List.getElem?_range hlt, Option.map_some, Option.some.injEq] at hi
      subst hi
      have hc := (hY i (by omega)).1 k hk
      rw [add_mk, add_mk] at hc
      rw [hj, ← Nat.add_assoc, hc, hu']
    · intro p hp
      obtain ⟨i, hi, rfl⟩ := List.mem_map.1 hp
      have hilt := List.mem_range.1 hi
      refine ⟨(hY i (by omega)).2.1, ?_⟩
      rw [hx]
      have := weightsAll_mem (P := Tryd.prog) (e := 36) (l := (List.range len).map D) (d := D i) (List.mem_map.2 ⟨i, List.mem_range.2 (by omega), rfl⟩) (hY i (by omega)).2.2
      simp only [DataW.weights, Tryd.underlying22, List.mem_cons, List.mem_append]
      exact .inr (.inl this)
theorem sl_of_trodW {fuel : Nat} {v : Value} {x : DataW H × List MemPlace} (h : DataW.trod enc Tryd.prog w 0 (fun _ => true) true fuel 33 [v] = some x) : ∃ l : List (List UInt8), Rd w w.heap.size 1 v l.length (strsV l) ∧ ∀ p, p ∈ l → p.length ∈ x.1.weights Tryd.prog 33 := by
  rcases Go.Deep.open_slice1 Tryd.underlying33 (by kernel_rfl) h with ⟨hcs, hx⟩ | ⟨a, l, c, m, n, V, D, Pl, hcs, _, hl, hm, hmm, hx, hel⟩
  · injection hcs with hcs _
    subst hcs
    exact ⟨[], ⟨rfl, none, 0, rfl, Nat.le_refl _, Nat.zero_le _, fun h => absurd h (by simp), fun b off h => by cases h⟩, by simp⟩
  · injection hcs with hcs _
    subst hcs
    simp only [if_true] at hmm
    subst hmm
    obtain ⟨Y, hY⟩ := Go.Deep.choose_lt (α := List UInt8) (n := m) (p := fun i y => V i = strV y ∧ y.length ∈ (D i).weights Tryd.prog 9) (fun i hi => by
      obtain ⟨z, e, y⟩ := DataW.trod_string Tryd.underlying9 (hel i hi).2
      simp only [List.cons.injEq, and_true] at e
      refine ⟨z.data.toList, by rw [e]; simp [strV], ?_⟩
      have := y.1
      simp only [Prod.mk.injEq] at this
      rw [this.1]
      simp [DataW.weights])
    have hlen : ((List.range l).map Y).length = l := by simp
    refine ⟨(List.range l).map Y, ⟨by simp [strsV], some a, m, by rw [hlen], by rw [hlen]; exact hl, hm, fun hn => ?_, fun b off hA j u hu => ?_⟩, fun p hp => ?_⟩
    · rw [hlen] at hn
      have hc := (hel 0 (by omega)).1
      have hx0 : a.add 0 = a := by simp [Addr.add]
      rw [hx0] at hc
      exact ⟨a.block, a.off, by rw [← mk_of_cell hc], World.block_lt_of_cell? w a hc⟩
    · injection hA with hA
      subst hA
      have hlt := (List.getElem?_eq_some_iff.1 hu).1
      simp only [strsV, List.length_map, List.length_range] at hlt
      simp only [strsV, List.getElem?_map, List.getElem?_range hlt, Option.map_some, Option.some.injEq] at hu
      subst hu
      have := (hel j (by omega)).1
      rw [(hY j (by omega)).1] at this
      rwa [add_mk] at this
    · obtain ⟨i, hi, rfl⟩ := List.mem_map.1 hp
      have hilt := List.mem_range.1 hi
      rw [hx]
      have := weightsAll_mem (P := Tryd.prog) (e := 9) (l := (List.range l).map D) (d := D i) (List.mem_map.2 ⟨i, hi, rfl⟩) (hY i (by omega)).2
      simp only [DataW.weights, Tryd.underlying33, List.mem_cons, List.mem_append]
      exact .inr (.inl this)
end
end Go.Proofs.YtjaoeipfiodnfaaDoor
