import Derived.Test.YtjaoeipfiodnfaaDoorBG
import Derived.Laws.StructEq
import Derived.Maps.RangeRun
set_option linter.unusedVariables false
set_option maxRecDepth 4000
namespace Go.Proofs.YtjaoeipfiodnfaaDoor
open Go Go.Fw Go.Proofs Go.RowKit Go.MapKept
open Go.ChangeMaps (setBlock)
/-! ### Two parameters held against one another -/
def parB (a b : Par) : Bool := decide (a.num = b.num) && (decide (a.text = b.text) && decide (a.is = b.is))
theorem parB_iff {a b : Par} : parB a b = true ↔ a = b := by
  unfold parB
  simp only [Bool.and_eq_true, decide_eq_true_eq]
  constructor
  · rintro ⟨h1, h2, h3⟩; exact Par.ext' h1 h2 h3
  · rintro rfl; exact ⟨rfl, rfl, rfl⟩
theorem guard36 : Tryd.prog.eqGuardType Tryd.prog.depth 36 = false := by kernel_rfl
theorem isAgg9 (w : World) : (isAgg 9).run Tryd.prog w = .ok false w := run_isAgg_scal sc9 w
theorem isAgg21 (w : World) : (isAgg 21).run Tryd.prog w = .ok false w := run_isAgg_scal sc21 w
theorem isAgg4 (w : World) : (isAgg 4).run Tryd.prog w = .ok false w := run_isAgg_scal sc4 w
theorem run_eq36 (w : World) (d : Nat) (a b : Par) : (Op.equalIn (d + 2) 36 (parV a) (parV b)).run Tryd.prog w = .ok (parB a b) w := by
  unfold parV
  rw [run_equalIn_struct (P := Tryd.prog) w (d + 1) 36 _ _ (by kernel_rfl) (by kernel_rfl)]
  have hu := Tryd.underlying36
  unfold Program.fieldsOf
  rw [hu]
  have e9 : (Op.equalIn (d + 1) 9 (strV a.text) (strV b.text)).run Tryd.prog w = .ok (decide (a.text = b.text)) w := by
    unfold Op.equalIn strV
    rw [Sem.run_bind, run_underlying Tryd.underlying9]
    have : ((⟨a.text.toArray⟩ : ByteArray) == ⟨b.text.toArray⟩) = decide (a.text = b.text) := by
      by_cases h : a.text = b.text <;> simp [h, beq_toListBytes, ByteArray.toList_mk]
    simp [this]
  have e21 : (Op.equalIn (d + 1) 21 (.int .i32 a.num) (.int .i32 b.num)).run Tryd.prog w = .ok (decide (a.num = b.num)) w := by
    unfold Op.equalIn
    rw [Sem.run_bind, run_underlying Tryd.underlying21]
    have : (a.num == b.num) = decide (a.num = b.num) := by by_cases h : a.num = b.num <;> simp [h]
    simp [this]
  have e4 : (Op.equalIn (d + 1) 4 (.bool a.is) (.bool b.is)).run Tryd.prog w = .ok (decide (a.is = b.is)) w := by
    unfold Op.equalIn
    rw [Sem.run_bind, run_underlying Tryd.underlying4]
    have : (a.is == b.is) = decide (a.is = b.is) := by by_cases h : a.is = b.is <;> simp [h]
    simp [this]
  unfold parB
  generalize decide (a.num = b.num) = r1 at e21 ⊢
  generalize decide (a.text = b.text) = r2 at e9 ⊢
  generalize decide (a.is = b.is) = r3 at e4 ⊢
  cases r1 <;> cases r2 <;> cases r3 <;> simp [Op.eqFields, part, isAgg9, isAgg21, isAgg4, e9, e21, e4]
theorem run_ne36 (w : World) (x y : Operand) (a b : Par) : (S.bin .neq 36 x y (parV a) (parV b)).run Tryd.prog w = .ok (.bool (!parB a b)) w := by
  have h := run_eq36 w 9998 a b
  have hg : (eqGuard .neq 36 x y (parV a) (parV b)).run Tryd.prog w = .ok () w := by
    unfold eqGuard parV
    simp [run_program, guard36]
  unfold S.bin
  rw [Sem.run_bind, hg, Result.andThen_ok]
  have hb : binOp .neq 36 (parV a) (parV b) = (do pure (.bool (!(← Op.equal 36 (parV a) (parV b))))) := rfl
  have he : (Op.equal 36 (parV a) (parV b)).run Tryd.prog w = .ok (parB a b) w := h
  rw [hb, Sem.run_bind, he]; rfl
/-! ### The map with its stamps -/
structure VMB (w : World) (m : Nat) (f : UInt8 → Option Par) : Prop where
  ex : ∃ es clock M, w.heap[m]? = some (.map es clock) ∧ es.toList.map vkv = vkvs M ∧ (∀ i, vlk M i = f i) ∧ (∀ x ∈ es.toList, x.born < clock) ∧ (es.toList.map (·.born)).Nodup ∧ (M.map (·.1)).Nodup
theorem VMB.vm {w : World} {m : Nat} {f : UInt8 → Option Par} (h : VMB w m f) : VM w m f := by
  obtain ⟨es, clock, M, h1, h2, h3, _⟩ := h.ex
  exact ⟨es, clock, M, h1, h2, h3⟩
theorem VMB.ch {w w' : World} {m : Nat} {f : UInt8 → Option Par} {M : List Nat} (h : VMB w m f) (hc : Ch M w w') (hd : m ∉ M) : VMB w' m f := by
  obtain ⟨es, clock, M', h1, h2⟩ := h.ex
  exact ⟨es, clock, M', hc.at_ h1 hd, h2⟩
theorem vlk_mem : ∀ {M : List (UInt8 × Par)} {i : UInt8} {p : Par}, vlk M i = some p → (i, p) ∈ M
  | [], i, p, h => by cases h
  | (k, v) :: r, i, p, h => by
    simp only [vlk] at h
    split at h
    · rename_i e
      injection h with h
      subst e h
      simp
    · exact List.mem_cons_of_mem _ (vlk_mem h)
theorem vlk_of_mem : ∀ {M : List (UInt8 × Par)} {i : UInt8} {p : Par}, (M.map (·.1)).Nodup → (i, p) ∈ M → vlk M i = some p
  | (k, v) :: r, i, p, hn, h => by
    simp only [List.map_cons, List.nodup_cons] at hn
    simp only [List.mem_cons, Prod.mk.injEq] at h
    simp only [vlk]
    rcases h with ⟨rfl, rfl⟩ | h
    · rw [if_pos rfl]
    · rw [if_neg, vlk_of_mem hn.2 h]
      intro e
      subst e
      exact hn.1 (List.mem_map.2 ⟨_, h, rfl⟩)
theorem vlk_none : ∀ {M : List (UInt8 × Par)} {i : UInt8}, vlk M i = none → i ∉ M.map (·.1)
  | [], i, h => by simp
  | (k, v) :: r, i, h => by
    simp only [vlk] at h
    split at h
    · cases h
    · rename_i e
      simp only [List.map_cons, List.mem_cons, not_or]
      exact ⟨fun e' => e e'.symm, vlk_none h⟩
theorem vup_keys : ∀ {M : List (UInt8 × Par)} {i : UInt8} {p s : Par}, vlk M i = some p → (vup M i s).map (·.1) = M.map (·.1)
  | (k, v) :: r, i, p, s, h => by
    simp only [vlk] at h
    simp only [vup]
    split at h
    · rename_i e
      rw [if_pos e]
      rfl
    · rename_i e
      rw [if_neg e, List.map_cons, List.map_cons, vup_keys h]
section
variable {w : World} {K : Value → World → Prop}
theorem vmkB (k : ∀ w', VMB w' w.heap.size (fun _ => none) → Ch [] w w' → w'.heap.size = w.heap.size + 1 → K (.map (some w.heap.size)) w') : S.v Tryd.prog (Instr.makeMap 59 none) K w := by
  refine v_ok (w' := w.alloc (.map #[] 0)) rfl (k _ ⟨#[], 0, [], heap_alloc_new w _, rfl, fun _ => rfl, by simp, by simp, by simp⟩ (ch_alloc w _) (by simp))
theorem vmuB {m : Nat} {f : UInt8 → Option Par} {i : UInt8} {s : Par} {K : World → Prop} (h : VMB w m f)
    (k : ∀ w', VMB w' m (fun j => if j = i then some s else f j) → Ch [m] w w' → w'.heap.size = w.heap.size → K w') : S.u Tryd.prog (Instr.mapUpdate 59 (.map (some m)) (byteV i) (parV s)) K w := by
  obtain ⟨es, clock, M, h1, h2, h3, h4, h5, h6⟩ := h.ex
  have hk : IsKey (.int .u8) (byteV i) := rfl
  have hf : (fun j => if j = i then some s else f j) = fun j => vlk (vup M i s) j := by
    funext j; rw [vlk_up, h3]
  rw [hf] at k
  rcases vfind i s es.toList M 0 h2 with ⟨a1, a2, a3⟩ | ⟨j, e, t, a1, a2, a3, a4, a5, a6⟩
  · refine u_ok (w' := { w with heap := w.heap.setIfInBounds m (.map (es.push { key := byteV i, val := parV s, born := clock }) (clock + 1)) }) ?_ (k _ ⟨_, _, _, (heap_set h1).1, ?_, fun _ => rfl, ?_, ?_, ?_⟩ (vch_set w m _) (by simp))
    · simp [Instr.mapUpdate, run_underlying Tryd.underlying59, Go.MapKept.run_getObj_map h1, run_checkKey Tryd.underlying5 hk, run_findKey Tryd.underlying5 a1, Go.MapKept.run_setObj_map _ h1, Result.andThen]
    · rw [a3]
      simp [vkvs, vkv] at h2 ⊢
      exact h2
    · intro x hx
      simp only [Array.toList_push, List.mem_append, List.mem_singleton] at hx
      rcases hx with hx | rfl
      · have := h4 x hx; omega
      · show clock < clock + 1; omega
    · simp only [Array.toList_push, List.map_append, List.map_cons, List.map_nil]
      rw [List.nodup_append]
      refine ⟨h5, by simp, fun a ha b hb e => ?_⟩
      obtain ⟨x, hx, rfl⟩ := List.mem_map.1 ha
      have := h4 x hx
      simp at hb
      omega
    · rw [a3, List.map_append]
      rw [List.nodup_append]
      refine ⟨h6, by simp, fun a ha b hb e => ?_⟩
      simp at hb
      subst hb
      subst e
      exact vlk_none a2 ha
  · have hj : es[j]? = some e := by simpa using a2
    rw [Nat.zero_add] at a1
    have hborn : (es.modify j fun e => { e with key := byteV i, val := parV s }).toList.map (·.born) = es.toList.map (·.born) := by
      apply List.ext_getElem?
      intro q
      rw [Array.toList_modify, List.getElem?_map, List.getElem?_modify, List.getElem?_map]
      by_cases hq : j = q
      · subst hq
        rw [a2]
        simp
      · simp [hq]
    refine u_ok (w' := { w with heap := w.heap.setIfInBounds m (.map (es.modify j fun e => { e with key := byteV i, val := parV s }) clock) }) ?_ (k _ ⟨_, _, _, (heap_set h1).1, ?_, fun _ => rfl, ?_, ?_, ?_⟩ (vch_set w m _) (by simp))
    · simp [Instr.mapUpdate, run_underlying Tryd.underlying59, Go.MapKept.run_getObj_map h1, run_checkKey Tryd.underlying5 hk, run_findKey Tryd.underlying5 a1, hj, a3, run_keyThatStays hk, Go.MapKept.run_setObj_map _ h1, Result.andThen]
    · rw [a6, ← h2]
      apply List.ext_getElem?
      intro q
      rw [Array.toList_modify, List.getElem?_map, List.getElem?_modify, List.getElem?_set, List.getElem?_map]
      by_cases hq : j = q
      · subst hq
        rw [if_pos rfl, a2]
        have hlt : j < (es.toList.map vkv).length := by
          have := (List.getElem?_eq_some_iff.1 a2).1
          simpa using this
        simp [vkv]
        have := (Array.getElem?_eq_some_iff.1 hj).1
        simp [this]
      · rw [if_neg hq]
        simp [hq]
    · intro x hx
      have hm : x.born ∈ es.toList.map (·.born) := hborn ▸ List.mem_map.2 ⟨x, hx, rfl⟩
      obtain ⟨y, hy, e⟩ := List.mem_map.1 hm
      rw [← e]
      exact h4 y hy
    · rw [hborn]; exact h5
    · rw [vup_keys a5]; exact h6
/-- Variables: their block, and the map's. -/
def VAtB (w : World) (bv mm : Nat) (f : UInt8 → Option Par) : Prop := w.heap[bv]? = some (.cells #[.map (some mm)] 61 (0, 0)) ∧ VMB w mm f ∧ bv ≠ mm
theorem VAtB.ch {w' : World} {bv mm : Nat} {f : UInt8 → Option Par} {M : List Nat} (h : VAtB w bv mm f) (hc : Ch M w w') (h1 : bv ∉ M) (h2 : mm ∉ M) : VAtB w' bv mm f := ⟨hc.at_ h.1 h1, h.2.1.ch hc h2, h.2.2⟩
theorem newvarsB_ (k : ∀ w' bv mm, VAtB w' bv mm (fun _ => none) → Ch [] w w' → w.heap.size ≤ bv → w.heap.size ≤ mm → K (PT bv) w') : S.call Tryd.prog 13 [] K w := by
  refine F13_link ?_
  unfold F13
  refine vmkB fun w1 hm1 hc1 hs1 => ?_
  rw [v_eq (show (Instr.build 61 #[(0, .map (some w.heap.size))]).run Tryd.prog w1 = .ok (.agg #[.map (some w.heap.size)]) w1 from by kernel_rfl)]
  refine Go.Fw.bx fun w2 hb2 hc2 hs2 => ?_
  exact k w2 w1.heap.size w.heap.size ⟨hb2, hm1.ch hc2 (by simp), by omega⟩ (hc1.trans hc2 (by simp)) (by omega) (by omega)
def setV (f : UInt8 → Option Par) (c : UInt8) (p : Par) : Int × (UInt8 → Option Par) := if letterB c = true ∧ mayB p = true then (0, fun j => if j = c then some p else f j) else (1, f)
def getV (f : UInt8 → Option Par) (c : UInt8) : Par := if letterB c = true then (f c).getD {} else {}
theorem set_ {bv mm : Nat} {f : UInt8 → Option Par} {c : UInt8} {p : Par} (h : VAtB w bv mm f) (k : ∀ w', VAtB w' bv mm (setV f c p).2 → Ch [mm] w w' → K (I64 (setV f c p).1) w') : S.call Tryd.prog 20 [PT bv, byteV c, parV p] K w := by
  refine F20_link ?_
  unfold F20
  have hlt1 := lt_of_heap h.1
  have hlt2 := h.2.1.vm.lt
  refine Go.Fw.bx fun w1 hb1 hc1 hs1 => ?_
  have h1 := h.ch hc1 (by simp) (by simp)
  refine vnone_ h1.1 ?_
  rw [br_false]
  refine letter_ ?_
  rw [not_v]
  cases hl : letterB c with
  | false =>
    rw [show (!false) = true from rfl, br_true]
    have e : setV f c p = (1, f) := by unfold setV; rw [if_neg (by rw [hl]; simp)]
    rw [e] at k
    exact k w1 h1 hc1.nil
  | true =>
    rw [show (!true) = false from rfl, br_false, ldw_v ag36 hb1 rfl]
    refine may_ fun w2 hc2 => ?_
    have hc02 : Ch [] w w2 := hc1.trans hc2 (by simp)
    have h2 := h1.ch hc2 (by simp) (by simp)
    rw [not_v]
    cases hm : mayB p with
    | false =>
      rw [show (!false) = true from rfl, br_true]
      have e : setV f c p = (1, f) := by unfold setV; rw [if_neg (by rw [hm]; simp)]
      rw [e] at k
      exact k w2 h2 hc02.nil
    | true =>
      rw [show (!true) = false from rfl, br_false]
      have e : setV f c p = (0, fun j => if j = c then some p else f j) := by unfold setV; rw [if_pos ⟨hl, hm⟩]
      rw [e] at k
      refine drawn_ok fun w3 hc3 hs3 => ?_
      have h3 := h2.ch hc3 (by simp) (by simp)
      have hb3 := (hc2.trans hc3 (by simp)).at_ hb1 (by simp)
      rw [nilC_p, fa_p fo61_0, ld_p sc59 (cells1 h3.1), ldw_p ag36 hb3 rfl]
      refine vmuB h3.2.1 fun w4 hv4 hc4 hs4 => ?_
      exact k w4 ⟨hc4.at_ h3.1 (by simpa using h3.2.2), hv4, h3.2.2⟩ ((hc02.trans hc3 (by simp)).nil.trans hc4 (fun x hx => .inl hx))
theorem get_ {bv mm : Nat} {f : UInt8 → Option Par} {c : UInt8} (h : VAtB w bv mm f) (k : ∀ w', Ch [] w w' → K (parV (getV f c)) w') : S.call Tryd.prog 25 [PT bv, byteV c] K w := by
  refine F25_link ?_
  unfold F25
  refine al z36 fun w1 hb1 hc1 hs1 => ?_
  have h1 := h.ch hc1 (by simp) (by simp)
  have fin : ∀ q, getV f c = q → S.u Tryd.prog (Instr.storeAt 36 (PT w.heap.size) (parV q)) (fun w => S.p Tryd.prog (S.ldR 36 (PT w.heap.size)) (fun r w => K r w) w) w1 → S.u Tryd.prog (Instr.storeAt 36 (PT w.heap.size) (parV q)) (fun w => S.p Tryd.prog (S.ldR 36 (PT w.heap.size)) (fun r w => K r w) w) w1 := fun _ _ h => h
  clear fin
  have fin : ∀ q (K' : Value → World → Prop), getV f c = q → K' = K → S.u Tryd.prog (Instr.storeAt 36 (.pointer (some ⟨w.heap.size, 0, none⟩)) (parV q)) (fun w_1 => S.p Tryd.prog (S.ldR 36 (.pointer (some ⟨w.heap.size, 0, none⟩))) (fun r w => K' r w) w_1) w1 := by
    intro q K' hq hK
    subst hK
    refine stw (vs := (parC q).toArray) ag36 hb1 rfl rfl (by simpa using one_par (p := q)) fun w2 hb2 hc2 hs2 => ?_
    rw [ldR_p ag36 hb2 rfl]
    have := k w2 ((hc1.nil.trans hc2 (fun x hx => .inl hx)).mono (by simp))
    rw [hq] at this
    exact this
  refine vnone_ h1.1 ?_
  rw [br_false]
  refine letter_ ?_
  rw [not_v]
  cases hl : letterB c with
  | false =>
    rw [show (!false) = true from rfl, br_true, v_eq (bd36 _)]
    exact fin {} K (by unfold getV; rw [if_neg (by rw [hl]; simp)]) rfl
  | true =>
    rw [show (!true) = false from rfl, br_false, nilC_v, fa_v fo61_0, ld_v sc59 (cells1 h1.1), vlk_v h1.2.1.vm]
    exact fin _ K (by unfold getV; rw [if_pos hl]) rfl
/-! ### Clone -/
theorem ch_setBlock (w : World) (m : Nat) (o : Obj) : Ch [m] w (setBlock w m o) := vch_set w m o
theorem at_setBlock {w : World} {m : Nat} {o o' : Obj} (h : w.heap[m]? = some o) : (setBlock w m o').heap[m]? = some o' := by
  have := (Array.getElem?_eq_some_iff.1 h).1
  simp [setBlock, this]
set_option maxHeartbeats 1000000
theorem clone_ {bv mm : Nat} {f : UInt8 → Option Par} (h : VAtB w bv mm f) (k : ∀ w' bv' mm', VAtB w' bv' mm' f → Ch [] w w' → w.heap.size ≤ bv' → w.heap.size ≤ mm' → K (PT bv') w') : S.call Tryd.prog 19 [PT bv] K w := by
  refine F19_link ?_
  unfold F19
  refine vnone_ h.1 ?_
  rw [br_false]
  have hlt1 := lt_of_heap h.1
  have hlt2 := h.2.1.vm.lt
  refine newvarsB_ fun w1 bv' mm' hv1 hc1 hbv hmm => ?_
  have h1 := h.ch hc1 (by simp) (by simp)
  rw [nilC_v, fa_v fo61_0, ld_v sc59 (cells1 h1.1)]
  obtain ⟨es, clock, M, g1, g2, g3, g4, g5, g6⟩ := h1.2.1.ex
  refine v_ok (run_range_map w1 59 5 36 mm es clock Tryd.underlying59 g1) ?_
  have hr1 := heap_alloc_new w1 (.mapIter (some mm) clock #[] clock)
  have hc2 := ch_alloc w1 (.mapIter (some mm) clock #[] clock)
  generalize w1.alloc (.mapIter (some mm) clock #[] clock) = w2 at *
  have hs1 := hc1.size
  generalize hgr : w1.heap.size = r at *
  have hv2 := hv1.ch hc2 (by simp) (by simp)
  have hg2 := hc2.at_ g1 (by simp)
  have hc02 : Ch [] w w2 := hc1.trans hc2 (by simp)
  have hbvr : bv' < r := by have := lt_of_heap hv1.1; omega
  have hmmr : mm' < r := by have := hv1.2.1.vm.lt; omega
  -- what an entry is
  have hent : ∀ e, e ∈ es.toList → ∃ i p, e.key = byteV i ∧ e.val = parV p ∧ f i = some p := by
    intro e he
    have : vkv e ∈ vkvs M := g2 ▸ List.mem_map.2 ⟨e, he, rfl⟩
    obtain ⟨⟨i, p⟩, hm, hq⟩ := List.mem_map.1 this
    unfold vkv at hq
    simp only [Prod.mk.injEq] at hq
    exact ⟨i, p, hq.1.symm, hq.2.symm, by rw [← g3]; exact vlk_of_mem g6 hm⟩
  have hall : ∀ i p, f i = some p → ∃ e, e ∈ es.toList ∧ e.key = byteV i := by
    intro i p hi
    rw [← g3] at hi
    have hm := vlk_mem hi
    have : (byteV i, parV p) ∈ es.toList.map vkv := g2 ▸ List.mem_map.2 ⟨(i, p), hm, rfl⟩
    obtain ⟨e, he, hq⟩ := List.mem_map.1 this
    unfold vkv at hq
    simp only [Prod.mk.injEq] at hq
    exact ⟨e, he, hq.1⟩
  intro I hC
  have key : ∀ (d : Nat) (seen : Array Nat) (c0 : Nat) (f' : UInt8 → Option Par) (x4 x5 x15 : Value) (w' : World), (leftOf es seen).size ≤ d → w'.heap[r]? = some (.mapIter (some mm) clock seen c0) → clock ≤ c0 → VAtB w' bv' mm' f' → Ch [r, mm'] w2 w' →
      (∀ i p, f' i = some p → f i = some p) → (∀ e i, e ∈ es.toList → e.key = byteV i → seen.contains e.born = true → f' i = f i) → I [x4, x5, x15] w' := by
    intro d
    induction d with
    | zero =>
      intro seen c0 f' x4 x5 x15 w' hd hr hcc hv hch hA hB
      refine hC _ _ _ _ ?_
      have hg' := hch.at_ hg2 (by simp; omega)
      rcases run_next_at (P := Tryd.prog) w' 0 r mm clock c0 seen es clock hr hg' g4 hcc with ⟨h0, hrun⟩ | ⟨e, he, _⟩
      · refine v_ok hrun ?_
        rw [ext_v (v := .bool false) rfl, br_false]
        have hf : f' = f := by
          funext i
          cases hi : f i with
          | none =>
            cases hi' : f' i with
            | none => rfl
            | some p => rw [hA i p hi'] at hi; cases hi
          | some p =>
            obtain ⟨e, he, hek⟩ := hall i p hi
            rw [hB e i he hek (all_seen es seen h0 e he), hi]
        rw [hf] at hv
        exact k w' bv' mm' hv (Ch.fresh hc02 hch (by simp; omega)) hbv hmm
      · exfalso
        have : 0 < (leftOf es seen).size := by
          have := List.length_pos_of_mem he
          simpa using this
        omega
    | succ d ih =>
      intro seen c0 f' x4 x5 x15 w' hd hr hcc hv hch hA hB
      refine hC _ _ _ _ ?_
      have hg' := hch.at_ hg2 (by simp; omega)
      rcases run_next_at (P := Tryd.prog) w' 0 r mm clock c0 seen es clock hr hg' g4 hcc with ⟨h0, hrun⟩ | ⟨e, he, w3, hw3, hrun⟩
      · refine v_ok hrun ?_
        rw [ext_v (v := .bool false) rfl, br_false]
        have hf : f' = f := by
          funext i
          cases hi : f i with
          | none =>
            cases hi' : f' i with
            | none => rfl
            | some p => rw [hA i p hi'] at hi; cases hi
          | some p =>
            obtain ⟨e, he, hek⟩ := hall i p hi
            rw [hB e i he hek (all_seen es seen h0 e he), hi]
        rw [hf] at hv
        exact k w' bv' mm' hv (Ch.fresh hc02 hch (by simp; omega)) hbv hmm
      · refine v_ok hrun ?_
        have hc3 : Ch [] w' w3 := by
          rcases hw3 with rfl | rfl
          · exact Ch.refl _ _
          · exact Ch.drew _
        have hc4 := ch_setBlock w3 r (.mapIter (some mm) clock (seen.push e.born) clock)
        have hr4 : (setBlock w3 r (.mapIter (some mm) clock (seen.push e.born) clock)).heap[r]? = some (.mapIter (some mm) clock (seen.push e.born) clock) := at_setBlock (hc3.at_ hr (by simp))
        generalize setBlock w3 r (.mapIter (some mm) clock (seen.push e.born) clock) = w4 at *
        have hc24 : Ch [r, mm'] w2 w4 := (hch.trans hc3 (by simp)).trans hc4 (by simp)
        have hg4 := hc24.at_ hg2 (by simp; omega)
        have hmem := (mem_left he).1
        have hshr := left_shrinks es seen e he
        obtain ⟨i, p, hk, hpv, hfi⟩ := hent e hmem
        rw [ext_v (v := .bool true) rfl, br_true]
        have hentry := run_entry_at (P := Tryd.prog) w4 r mm clock seen es clock e hr4 hg4 hmem g5
        rw [v_eq hentry, x20, x21, hk, hpv]
        have hv4 := (hv.ch hc3 (by simp) (by simp)).ch hc4 (by simp; omega) (by simp; omega)
        refine al z36 fun w5 hb5 hc5 hs5 => ?_
        refine stw (vs := (parC p).toArray) ag36 hb5 rfl rfl (by simpa using one_par (p := p)) fun w6 hb6 hc6 hs6 => ?_
        have hc46 : Ch [] w4 w6 := (hc5.nil.trans hc6 (fun x hx => .inl hx)).mono (by simp)
        refine drawn_ok fun w7 hc7 hs7 => ?_
        have hc47 : Ch [] w4 w7 := hc46.trans hc7 (by simp)
        have hv7 := hv4.ch hc47 (by simp) (by simp)
        rw [nilC_p, fa_p fo61_0, ld_p sc59 (cells1 hv7.1), ldw_p ag36 (hc7.at_ hb6 (by simp)) rfl]
        refine vmuB hv7.2.1 fun w8 hv8 hc8 hs8 => ?_
        refine ih (seen.push e.born) clock _ _ _ _ w8 (by omega) (hc8.at_ (hc47.at_ hr4 (by simp)) (by simp; omega)) (Nat.le_refl _) ⟨hc8.at_ hv7.1 (by simpa using hv7.2.2), hv8, hv7.2.2⟩ ((hc24.trans hc47 (by simp)).trans hc8 (by simp)) ?_ ?_
        · intro j q hj
          split at hj
          · rename_i hji
            rw [hji, ← hj]; exact hfi
          · exact hA j q hj
        · intro e' j he' hj hs
          by_cases hji : j = i
          · rw [if_pos hji, hji, hfi]
          · rw [if_neg hji]
            refine hB e' j he' hj ?_
            rw [Array.contains_eq_mem, decide_eq_true_eq] at hs ⊢
            simp only [Array.mem_push] at hs
            rcases hs with hs | hs
            · exact hs
            · exfalso
              have f1 := find_born e es.toList g5 hmem
              have f2 := find_born e' es.toList g5 he'
              rw [hs] at f2
              rw [f1] at f2
              injection f2 with f2
              rw [← f2, hk] at hj
              exact hji (byteV_inj hj).symm
  exact key _ #[] clock (fun _ => none) _ _ _ w2 (Nat.le_refl _) hr1 (Nat.le_refl _) hv2 (Ch.refl _ _) (fun i p h => by cases h) (fun e i he hk hs => by simp at hs)
end
end Go.Proofs.YtjaoeipfiodnfaaDoor
