import Derived.Test.YtjaoeipfiodnfaaDoorB5
import Derived.Test.YtjaoeipfiodnfaaDoorShelf
import Derived.MapKept
import Derived.Lib.LaidTab
import Derived.Lib.TrailingZeros
set_option linter.unusedVariables false
set_option maxRecDepth 4000
namespace Go.Proofs.YtjaoeipfiodnfaaDoor
open Go Go.Fw Go.Proofs Go.RowKit Go.MapKept
/-! ### Parameters, and a map from letters to parameters -/
structure Par where
  num : Int := 0
  text : List UInt8 := []
  is : Bool := false
def parC (p : Par) : List Value := [I32 p.num, strV p.text, .bool p.is]
def parV (p : Par) : Value := .agg #[I32 p.num, strV p.text, .bool p.is]
def mayB (p : Par) : Bool := (p.is && decide (p.num = 0)) || (!p.is && decide (p.text = []))
theorem Par.ext' {a b : Par} (h1 : a.num = b.num) (h2 : a.text = b.text) (h3 : a.is = b.is) : a = b := by
  cases a; cases b; simp_all
theorem parV_cells (p : Par) : (parV p).cells = #[I32 p.num, strV p.text, .bool p.is] := rfl
def parsC (l : List Par) : List Value := l.flatMap parC
theorem parsC_len (l : List Par) : (parsC l).length = l.length * 3 := by
  induction l with
  | nil => rfl
  | cons a r ih => simp only [parsC, List.flatMap_cons, List.length_append] at *; rw [ih]; simp [parC]; omega
theorem parsC_append (a b : List Par) : parsC (a ++ b) = parsC a ++ parsC b := by simp [parsC]
theorem parsC_cons (a : Par) (b : List Par) : parsC (a :: b) = parC a ++ parsC b := by simp [parsC]
theorem one_par {p : Par} : ∀ u ∈ parC p, u.oneCell' = true := by
  intro u hu
  simp only [parC, List.mem_cons, List.not_mem_nil, or_false] at hu
  rcases hu with rfl | rfl | rfl <;> rfl
theorem one_pars {l : List Par} : ∀ u ∈ parsC l, u.oneCell' = true := by
  intro u hu
  obtain ⟨x, _, hx⟩ := List.mem_flatMap.1 hu
  exact one_par u hx
theorem parsC_drop (l : List Par) (i : Nat) : (parsC l).drop (i * 3) = parsC (l.drop i) := by
  induction i generalizing l with
  | zero => simp
  | succ i ih =>
    cases l with
    | nil => simp [parsC]
    | cons a r =>
      rw [parsC_cons, Nat.add_mul, Nat.one_mul, Nat.add_comm, ← List.drop_drop, List.drop_left' (by rfl), ih]
      rfl
theorem parsC_take (l : List Par) (i : Nat) : (parsC l).take (i * 3) = parsC (l.take i) := by
  induction i generalizing l with
  | zero => simp [parsC]
  | succ i ih =>
    cases l with
    | nil => simp [parsC]
    | cons a r =>
      rw [parsC_cons, Nat.add_mul, Nat.one_mul, Nat.add_comm, List.take_append, List.take_of_length_le (by simp [parC]), show (parC a).length = 3 from rfl, show 3 + i * 3 - 3 = i * 3 from by omega, ih, List.take_succ_cons, parsC_cons]
theorem parsC_at {l : List Par} {i : Nat} {p : Par} (h : l[i]? = some p) : ((parsC l).drop (i * 3)).take 3 = parC p := by
  have hl := (List.getElem?_eq_some_iff.1 h).1
  have hp := (List.getElem?_eq_some_iff.1 h).2
  rw [parsC_drop, ← List.getElem_cons_drop hl, hp, parsC_cons, List.take_left' (by rfl)]
theorem ag36 : aggSz Tryd.prog 36 = some 3 := by kernel_rfl
theorem z36 : zeroT Tryd.prog 36 = some (parV {}) := by kernel_rfl
theorem bd36 (w : World) : (Instr.build 36 #[]).run Tryd.prog w = .ok (parV {}) w := by kernel_rfl
theorem bd36n (w : World) (n : Int) : (Instr.build 36 #[(0, I32 n)]).run Tryd.prog w = .ok (parV { num := n }) w := by kernel_rfl
theorem fd36_0 (w : World) (p : Par) : (Instr.field 36 (parV p) 0).run Tryd.prog w = .ok (I32 p.num) w := by kernel_rfl
theorem fd36_1 (w : World) (p : Par) : (Instr.field 36 (parV p) 1).run Tryd.prog w = .ok (strV p.text) w := by kernel_rfl
/-! The map. -/
def vlk : List (UInt8 × Par) → UInt8 → Option Par
  | [], _ => none
  | (k, v) :: r, i => if k = i then some v else vlk r i
def vup : List (UInt8 × Par) → UInt8 → Par → List (UInt8 × Par)
  | [], i, s => [(i, s)]
  | (k, v) :: r, i, s => if k = i then (k, s) :: r else (k, v) :: vup r i s
theorem vlk_up (M : List (UInt8 × Par)) (i : UInt8) (s : Par) (j : UInt8) : vlk (vup M i s) j = if j = i then some s else vlk M j := by
  induction M with
  | nil => simp only [vup, vlk]; by_cases h : i = j <;> simp [h, eq_comm]
  | cons x r ih =>
    obtain ⟨k, v⟩ := x
    simp only [vup]
    by_cases h : k = i
    · rw [if_pos h]
      simp only [vlk]
      by_cases h2 : k = j
      · rw [if_pos h2, if_pos (by rw [← h, h2])]
      · rw [if_neg h2, if_neg (by rw [← h]; exact fun e => h2 e.symm), if_neg h2]
    · rw [if_neg h]
      simp only [vlk]
      by_cases h2 : k = j
      · rw [if_pos h2, if_neg (by rw [← h2]; exact h), if_pos h2]
      · rw [if_neg h2, ih, if_neg h2]
def vkv (e : MapEntry) : Value × Value := (e.key, e.val)
def vkvs (M : List (UInt8 × Par)) : List (Value × Value) := M.map fun p => (byteV p.1, parV p.2)
theorem vfind (i : UInt8) (s : Par) : ∀ (es : List MapEntry) (M : List (UInt8 × Par)) (n : Nat), es.map vkv = vkvs M →
    (Instr.findNow (.int .u8) (byteV i) es n = some none ∧ vlk M i = none ∧ vup M i s = M ++ [(i, s)]) ∨
    ∃ j e t, Instr.findNow (.int .u8) (byteV i) es n = some (some (n + j, e.val)) ∧ es[j]? = some e ∧ e.key = byteV i ∧ e.val = parV t ∧ vlk M i = some t ∧ vkvs (vup M i s) = (vkvs M).set j (byteV i, parV s)
  | [], M, n, h => by
    cases M with
    | nil => exact .inl ⟨rfl, rfl, rfl⟩
    | cons x r => simp [vkvs] at h
  | e :: es, M, n, h => by
    cases M with
    | nil => simp [vkvs] at h
    | cons x r =>
      obtain ⟨k, v⟩ := x
      simp only [vkvs, List.map_cons, List.cons.injEq, vkv, Prod.mk.injEq] at h
      obtain ⟨⟨h1, h2⟩, h3⟩ := h
      have hs : Instr.sameNow (.int .u8) (byteV i) e.key = some ((i.toNat : Int) == (k.toNat : Int)) := by rw [h1]; rfl
      by_cases hk : k = i
      · subst hk
        refine .inr ⟨0, e, v, ?_, rfl, h1, h2, ?_, ?_⟩
        · simp [Instr.findNow, hs]
        · simp [vlk]
        · simp [vup, vkvs]
      · have hne : ((i.toNat : Int) == (k.toNat : Int)) = false := by
          simp only [beq_eq_false_iff_ne, ne_eq]
          intro e
          exact hk (UInt8.toNat_inj.1 (by omega))
        have ih := vfind i s es r (n + 1) h3
        rcases ih with ⟨a1, a2, a3⟩ | ⟨j, e', t, a1, a2, a3, a4, a5, a6⟩
        · refine .inl ⟨?_, ?_, ?_⟩
          · simp [Instr.findNow, hs, hne, a1]
          · simp [vlk, hk, a2]
          · simp [vup, hk, a3]
        · refine .inr ⟨j + 1, e', t, ?_, by simpa using a2, a3, a4, ?_, ?_⟩
          · simp [Instr.findNow, hs, hne, a1]; omega
          · simp [vlk, hk, a5]
          · simp only [vup, if_neg hk]
            show (byteV k, parV v) :: vkvs (vup r i s) = _
            rw [a6]; rfl
/-- A map's block. -/
structure VM (w : World) (m : Nat) (f : UInt8 → Option Par) : Prop where
  ex : ∃ es clock M, w.heap[m]? = some (.map es clock) ∧ es.toList.map vkv = vkvs M ∧ ∀ i, vlk M i = f i
theorem VM.ch {w w' : World} {m : Nat} {f : UInt8 → Option Par} {M : List Nat} (h : VM w m f) (hc : Ch M w w') (hd : m ∉ M) : VM w' m f := by
  obtain ⟨es, clock, M', h1, h2⟩ := h.ex
  exact ⟨es, clock, M', hc.at_ h1 hd, h2⟩
theorem VM.lt {w : World} {m : Nat} {f : UInt8 → Option Par} (h : VM w m f) : m < w.heap.size := by
  obtain ⟨es, clock, M', h1, h2⟩ := h.ex
  exact lt_of_heap h1
theorem vch_set (w : World) (m : Nat) (o : Obj) : Ch [m] w { w with heap := w.heap.setIfInBounds m o } :=
  ⟨rfl, rfl, rfl, by simp, fun k hk hn => by simp at hn; simp [Ne.symm hn]⟩
theorem z36run (w : World) : (zeroValue 36).run Tryd.prog w = .ok (parV {}) w := by kernel_rfl
section
variable {w : World} {K : Value → World → Prop}
theorem vmk (k : ∀ w', VM w' w.heap.size (fun _ => none) → Ch [] w w' → w'.heap.size = w.heap.size + 1 → K (.map (some w.heap.size)) w') : S.v Tryd.prog (Instr.makeMap 59 none) K w := by
  refine v_ok (w' := w.alloc (.map #[] 0)) rfl (k _ ⟨#[], 0, [], heap_alloc_new w _, rfl, fun _ => rfl⟩ (ch_alloc w _) (by simp))
theorem vmu {m : Nat} {f : UInt8 → Option Par} {i : UInt8} {s : Par} {K : World → Prop} (h : VM w m f)
    (k : ∀ w', VM w' m (fun j => if j = i then some s else f j) → Ch [m] w w' → w'.heap.size = w.heap.size → K w') : S.u Tryd.prog (Instr.mapUpdate 59 (.map (some m)) (byteV i) (parV s)) K w := by
  obtain ⟨es, clock, M, h1, h2, h3⟩ := h.ex
  have hk : IsKey (.int .u8) (byteV i) := rfl
  have hf : (fun j => if j = i then some s else f j) = fun j => vlk (vup M i s) j := by
    funext j; rw [vlk_up, h3]
  rw [hf] at k
  rcases vfind i s es.toList M 0 h2 with ⟨a1, a2, a3⟩ | ⟨j, e, t, a1, a2, a3, a4, a5, a6⟩
  · refine u_ok (w' := { w with heap := w.heap.setIfInBounds m (.map (es.push { key := byteV i, val := parV s, born := clock }) (clock + 1)) }) ?_ (k _ ⟨_, _, _, (heap_set h1).1, ?_, fun _ => rfl⟩ (vch_set w m _) (by simp))
    · simp [Instr.mapUpdate, run_underlying Tryd.underlying59, Go.MapKept.run_getObj_map h1, run_checkKey Tryd.underlying5 hk, run_findKey Tryd.underlying5 a1, Go.MapKept.run_setObj_map _ h1, Result.andThen]
    · rw [a3]
      simp [vkvs, vkv] at h2 ⊢
      exact h2
  · have hj : es[j]? = some e := by simpa using a2
    rw [Nat.zero_add] at a1
    refine u_ok (w' := { w with heap := w.heap.setIfInBounds m (.map (es.modify j fun e => { e with key := byteV i, val := parV s }) clock) }) ?_ (k _ ⟨_, _, _, (heap_set h1).1, ?_, fun _ => rfl⟩ (vch_set w m _) (by simp))
    · simp [Instr.mapUpdate, run_underlying Tryd.underlying59, Go.MapKept.run_getObj_map h1, run_checkKey Tryd.underlying5 hk, run_findKey Tryd.underlying5 a1, hj, a3, run_keyThatStays hk, Go.MapKept.run_setObj_map _ h1, Result.andThen]
    · rw [a6, ← h2]
      apply List.ext_getElem?
      intro q
      rw [Array.toList_modify, List.getElem?_map, List.getElem?_modify, List.getElem?_set, List.getElem?_map]
      by_cases hq : j = q
      · subst hq
        rw [if_pos rfl, a2]
        have hlt : j < (es.toList.map vkv).length := by
          have := (List.getElem?_eq_some_iff.1 a2).1
          simpa using this
        simp [vkv]
        have := (Array.getElem?_eq_some_iff.1 hj).1
        simp [this]
      · rw [if_neg hq]
        simp [hq]
theorem run_vlk {m : Nat} {f : UInt8 → Option Par} {i : UInt8} (h : VM w m f) : (Instr.lookup 59 (.map (some m)) (byteV i) false).run Tryd.prog w = .ok (parV ((f i).getD {})) w := by
  obtain ⟨es, clock, M, h1, h2, h3⟩ := h.ex
  have hk : IsKey (.int .u8) (byteV i) := rfl
  rcases vfind i {} es.toList M 0 h2 with ⟨a1, a2, a3⟩ | ⟨j, e, t, a1, a2, a3, a4, a5, a6⟩
  · rw [h3] at a2
    rw [a2]
    simp [Instr.lookup, run_underlying Tryd.underlying59, Go.MapKept.run_getObj_map h1, run_checkKey Tryd.underlying5 hk, run_findKey Tryd.underlying5 a1, Result.andThen]
    rfl
  · rw [h3] at a5
    rw [a5]
    simp [Instr.lookup, run_underlying Tryd.underlying59, Go.MapKept.run_getObj_map h1, run_checkKey Tryd.underlying5 hk, run_findKey Tryd.underlying5 a1, a4, Result.andThen]
theorem vlk_v {m : Nat} {f : UInt8 → Option Par} {i : UInt8} (h : VM w m f) : S.v Tryd.prog (Instr.lookup 59 (.map (some m)) (byteV i) false) K w = K (parV ((f i).getD {})) w := v_eq (run_vlk h)
end
/-! ### The tables -/
def Gnd (w : World) : Prop := 6 ≤ w.heap.size ∧ Lib.TabIs Tryd.prog w "internal/strconv.uint64pow10" .u64 Lib.pow10Tab ∧ Lib.TabIs Tryd.prog w "math/bits.deBruijn64tab" .u8 (Lib.deBruijn64tab.map Int.ofNat)
theorem g0 : Tryd.prog.globalNamed "internal/strconv.uint64pow10" = some 0 := by kernel_rfl
theorem g5 : Tryd.prog.globalNamed "math/bits.deBruijn64tab" = some 5 := by kernel_rfl
theorem var_of_block {P : Program} {w w' : World} {n : String} {g : Nat} (hg : P.globalNamed n = some g) (hb : w'.heap[g]? = w.heap[g]?) : w'.var? P n = w.var? P n := by
  simp only [World.var?, hg, Option.bind_some, hb]
theorem Gnd.ch {w w' : World} {M : List Nat} (h : Gnd w) (hc : Ch M w w') (hd : ∀ x, x ∈ M → 6 ≤ x) : Gnd w' := by
  obtain ⟨h0, h1, h2⟩ := h
  have hb : ∀ k, k < 6 → w'.heap[k]? = w.heap[k]? := fun k hk => hc.block k (by omega) (fun hm => by have := hd k hm; omega)
  refine ⟨Nat.le_trans h0 hc.size, ?_, ?_⟩
  · unfold Lib.TabIs at *
    rw [var_of_block g0 (hb 0 (by omega))]
    exact h1
  · unfold Lib.TabIs at *
    rw [var_of_block g5 (hb 5 (by omega))]
    exact h2
end Go.Proofs.YtjaoeipfiodnfaaDoor
