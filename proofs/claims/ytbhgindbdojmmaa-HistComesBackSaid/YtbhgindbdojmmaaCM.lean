import Derived.Test.YtbhgindbdojmmaaW9
import Derived.MapKept
set_option linter.unusedVariables false
set_option maxRecDepth 4000
namespace Go.Proofs.Ytbhgindbdojmmaa
open Go Go.Fw Go.Proofs Go.RowKit Go.MapKept
/-! ### A map from numbers to texts -/
def lk : List (Int × Str) → Int → Option Str
  | [], _ => none
  | (k, v) :: r, i => if k = i then some v else lk r i
def up : List (Int × Str) → Int → Str → List (Int × Str)
  | [], i, s => [(i, s)]
  | (k, v) :: r, i, s => if k = i then (k, s) :: r else (k, v) :: up r i s
theorem lk_up (M : List (Int × Str)) (i : Int) (s : Str) (j : Int) : lk (up M i s) j = if j = i then some s else lk M j := by
  induction M with
  | nil => simp only [up, lk]; by_cases h : i = j <;> simp [h, eq_comm]
  | cons x r ih =>
    obtain ⟨k, v⟩ := x
    simp only [up]
    by_cases h : k = i
    · rw [if_pos h]
      simp only [lk]
      by_cases h2 : k = j
      · rw [if_pos h2, if_pos (by omega)]
      · rw [if_neg h2, if_neg (by omega), if_neg h2]
    · rw [if_neg h]
      simp only [lk]
      by_cases h2 : k = j
      · rw [if_pos h2, if_neg (by omega), if_pos h2]
      · rw [if_neg h2, ih, if_neg h2]
theorem up_len (M : List (Int × Str)) (i : Int) (s : Str) : (up M i s).length = if (lk M i).isSome then M.length else M.length + 1 := by
  induction M with
  | nil => simp [up, lk]
  | cons x r ih =>
    obtain ⟨k, v⟩ := x
    simp only [up, lk]
    by_cases h : k = i
    · simp [h]
    · simp only [if_neg h, List.length_cons, ih]
      split <;> rfl
def kv (e : MapEntry) : Value × Value := (e.key, e.val)
def kvs (M : List (Int × Str)) : List (Value × Value) := M.map fun p => (I64 p.1, strV p.2)
theorem find_spec (i : Int) (s : Str) : ∀ (es : List MapEntry) (M : List (Int × Str)) (n : Nat), es.map kv = kvs M →
    (Instr.findNow (.int .i64) (I64 i) es n = some none ∧ lk M i = none ∧ up M i s = M ++ [(i, s)]) ∨
    ∃ j e t, Instr.findNow (.int .i64) (I64 i) es n = some (some (n + j, e.val)) ∧ es[j]? = some e ∧ e.key = I64 i ∧ e.val = strV t ∧ lk M i = some t ∧ kvs (up M i s) = (kvs M).set j (I64 i, strV s)
  | [], M, n, h => by
    cases M with
    | nil => exact .inl ⟨rfl, rfl, rfl⟩
    | cons x r => simp [kvs] at h
  | e :: es, M, n, h => by
    cases M with
    | nil => simp [kvs] at h
    | cons x r =>
      obtain ⟨k, v⟩ := x
      simp only [kvs, List.map_cons, List.cons.injEq, kv, Prod.mk.injEq] at h
      obtain ⟨⟨h1, h2⟩, h3⟩ := h
      have hs : Instr.sameNow (.int .i64) (I64 i) e.key = some (i == k) := by rw [h1]; rfl
      by_cases hk : k = i
      · subst hk
        refine .inr ⟨0, e, v, ?_, rfl, h1, h2, ?_, ?_⟩
        · simp [Instr.findNow, hs]
        · simp [lk]
        · simp [up, kvs]
      · have hne : (i == k) = false := by simp; omega
        have ih := find_spec i s es r (n + 1) h3
        rcases ih with ⟨a1, a2, a3⟩ | ⟨j, e', t, a1, a2, a3, a4, a5, a6⟩
        · refine .inl ⟨?_, ?_, ?_⟩
          · simp [Instr.findNow, hs, hne, a1]
          · simp [lk, hk, a2]
          · simp [up, hk, a3]
        · refine .inr ⟨j + 1, e', t, ?_, by simpa using a2, a3, a4, ?_, ?_⟩
          · simp [Instr.findNow, hs, hne, a1]; omega
          · simp [lk, hk, a5]
          · simp only [up, if_neg hk]
            show (I64 k, strV v) :: kvs (up r i s) = _
            rw [a6]; rfl
structure MpF (w : World) (m : Nat) (f : Int → Option Str) (n : Nat) : Prop where
  ex : ∃ es clock M, w.heap[m]? = some (.map es clock) ∧ es.toList.map kv = kvs M ∧ (∀ i, lk M i = f i) ∧ M.length = n
theorem MpF.ch {w w' : World} {m : Nat} {f : Int → Option Str} {n : Nat} {M : List Nat} (h : MpF w m f n) (hc : Ch M w w') (hd : m ∉ M) : MpF w' m f n := by
  obtain ⟨es, clock, M', h1, h2⟩ := h.ex
  exact ⟨es, clock, M', hc.at_ h1 hd, h2⟩
theorem MpF.lt {w : World} {m : Nat} {f : Int → Option Str} {n : Nat} (h : MpF w m f n) : m < w.heap.size := by
  obtain ⟨es, clock, M', h1, h2⟩ := h.ex
  exact lt_of_heap h1
theorem ch_set (w : World) (m : Nat) (o : Obj) : Ch [m] w { w with heap := w.heap.setIfInBounds m o } :=
  ⟨rfl, rfl, rfl, by simp, fun k hk hn => by simp at hn; simp [Ne.symm hn]⟩
theorem z9run (w : World) : (zeroValue 9).run Try.prog w = .ok (strV []) w := by kernel_rfl
section
variable {w : World} {K : Value → World → Prop}
theorem mkm (k : ∀ w', MpF w' w.heap.size (fun _ => none) 0 → Ch [] w w' → w'.heap.size = w.heap.size + 1 → K (.map (some w.heap.size)) w') : S.v Try.prog (Instr.makeMap 45 none) K w := by
  refine v_ok (w' := w.alloc (.map #[] 0)) rfl (k _ ⟨#[], 0, [], heap_alloc_new w _, rfl, fun _ => rfl, rfl⟩ (ch_alloc w _) (by simp))
theorem mu {m n : Nat} {f : Int → Option Str} {i : Int} {s : Str} {K : World → Prop} (h : MpF w m f n)
    (k : ∀ w', MpF w' m (fun j => if j = i then some s else f j) (if (f i).isSome then n else n + 1) → Ch [m] w w' → w'.heap.size = w.heap.size → K w') : S.u Try.prog (Instr.mapUpdate 45 (.map (some m)) (I64 i) (strV s)) K w := by
  obtain ⟨es, clock, M, h1, h2, h3, h4⟩ := h.ex
  have hk : IsKey (.int .i64) (I64 i) := rfl
  have hn : (if (f i).isSome then n else n + 1) = (up M i s).length := by rw [up_len, h3, h4]
  have hf : (fun j => if j = i then some s else f j) = fun j => lk (up M i s) j := by
    funext j; rw [lk_up, h3]
  rw [hn, hf] at k
  rcases find_spec i s es.toList M 0 h2 with ⟨a1, a2, a3⟩ | ⟨j, e, t, a1, a2, a3, a4, a5, a6⟩
  · refine u_ok (w' := { w with heap := w.heap.setIfInBounds m (.map (es.push { key := I64 i, val := strV s, born := clock }) (clock + 1)) }) ?_ (k _ ⟨_, _, _, (heap_set h1).1, ?_, fun _ => rfl, rfl⟩ (ch_set w m _) (by simp))
    · simp [Instr.mapUpdate, run_underlying Try.underlying45, Go.MapKept.run_getObj_map h1, run_checkKey Try.underlying3 hk, run_findKey Try.underlying3 a1, Go.MapKept.run_setObj_map _ h1, Result.andThen]
    · rw [a3]
      simp [kvs, kv] at h2 ⊢
      exact h2
  · have hj : es[j]? = some e := by simpa using a2
    rw [Nat.zero_add] at a1
    refine u_ok (w' := { w with heap := w.heap.setIfInBounds m (.map (es.modify j fun e => { e with key := I64 i, val := strV s }) clock) }) ?_ (k _ ⟨_, _, _, (heap_set h1).1, ?_, fun _ => rfl, rfl⟩ (ch_set w m _) (by simp))
    · simp [Instr.mapUpdate, run_underlying Try.underlying45, Go.MapKept.run_getObj_map h1, run_checkKey Try.underlying3 hk, run_findKey Try.underlying3 a1, hj, a3, run_keyThatStays hk, Go.MapKept.run_setObj_map _ h1, Result.andThen]
    · rw [a6, ← h2]
      apply List.ext_getElem?
      intro q
      rw [Array.toList_modify, List.getElem?_map, List.getElem?_modify, List.getElem?_set, List.getElem?_map]
      by_cases hq : j = q
      · subst hq
        rw [if_pos rfl, a2]
        have hlt : j < (es.toList.map kv).length := by
          have := (List.getElem?_eq_some_iff.1 a2).1
          simpa using this
        simp [kv, hlt]
        have := (Array.getElem?_eq_some_iff.1 hj).1
        simp [this]
      · rw [if_neg hq]
        simp [hq]
theorem run_lk {m n : Nat} {f : Int → Option Str} {i : Int} (h : MpF w m f n) : (Instr.lookup 45 (.map (some m)) (I64 i) false).run Try.prog w = .ok (strV ((f i).getD [])) w := by
  obtain ⟨es, clock, M, h1, h2, h3, h4⟩ := h.ex
  have hk : IsKey (.int .i64) (I64 i) := rfl
  rcases find_spec i [] es.toList M 0 h2 with ⟨a1, a2, a3⟩ | ⟨j, e, t, a1, a2, a3, a4, a5, a6⟩
  · rw [h3] at a2
    rw [a2]
    simp [Instr.lookup, run_underlying Try.underlying45, Go.MapKept.run_getObj_map h1, run_checkKey Try.underlying3 hk, run_findKey Try.underlying3 a1, z9run, Result.andThen]
    rfl
  · rw [h3] at a5
    rw [a5]
    simp [Instr.lookup, run_underlying Try.underlying45, Go.MapKept.run_getObj_map h1, run_checkKey Try.underlying3 hk, run_findKey Try.underlying3 a1, a4, Result.andThen]
theorem lk_v {m n : Nat} {f : Int → Option Str} {i : Int} (h : MpF w m f n) : S.v Try.prog (Instr.lookup 45 (.map (some m)) (I64 i) false) K w = K (strV ((f i).getD [])) w := v_eq (run_lk h)
theorem lenm_v {m n : Nat} {f : Int → Option Str} {ty : TypeId} (h : MpF w m f n) : S.v Try.prog (Builtin.len_ #[45] ty #[.map (some m)]) K w = K (I64 n) w := by
  obtain ⟨es, clock, M, h1, h2, h3, h4⟩ := h.ex
  have hl : es.size = n := by
    have := congrArg List.length h2
    simp [kvs] at this
    omega
  refine v_eq ?_
  simp [Builtin.len_, run_underlying Try.underlying45, Go.MapKept.run_getObj_map h1, Result.andThen, hl, goInt]
end
end Go.Proofs.Ytbhgindbdojmmaa
