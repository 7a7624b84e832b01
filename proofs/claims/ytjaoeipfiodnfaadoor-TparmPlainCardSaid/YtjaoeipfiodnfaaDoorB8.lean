import Derived.Test.YtjaoeipfiodnfaaDoorB7
import Derived.Laws.DeepStrings4
set_option linter.unusedVariables false
set_option maxRecDepth 4000
namespace Go.Proofs.YtjaoeipfiodnfaaDoor
open Go Go.Fw Go.Proofs Go.RowKit Go.Sort
/-! ### The library's calls -/
theorem chGrow (w : World) (k : Nat) (os : Array Obj) : Ch [] w (grow (w.drewN k) os) :=
  ⟨rfl, rfl, rfl, by show w.heap.size ≤ (w.heap ++ os).size; rw [Array.size_append]; omega, fun j hj _ => by
    show (w.heap ++ os)[j]? = w.heap[j]?
    rw [Array.getElem?_append, if_pos hj]⟩
theorem chBelow {w w' : World} (h : Below w.heap.size w w') : Ch [] w w' := ⟨h.os, h.tape, h.output, h.size, fun k hk _ => h.block k hk⟩
def has1 (s : List UInt8) (c : UInt8) : Bool := decide (0 ≤ Lib.indexByte s c)
def tx (c : UInt8) : Value := .string { data := #[c] }
section
variable {w : World} {K : Value → World → Prop}
theorem contains_ {s : List UInt8} {c : UInt8} (k : K (.bool (has1 s c)) w) : S.call Tryd.prog 79 [strV s, .string { data := #[c] }] K w := by
  refine Calls.mono (Tryd.strings_Contains_one ⟨s.toArray⟩ c w) ?_
  rintro e w' ⟨rfl, rfl⟩
  simpa [retP, has1] using k
theorem hasPrefix_ {s : List UInt8} {c : UInt8} (k : K (.bool (Lib.hasPrefix s [c])) w) : S.call Tryd.prog 37 [strV s, .string { data := #[c] }] K w := by
  refine Calls.mono (Tryd.strings_HasPrefix ⟨s.toArray⟩ ⟨#[c]⟩ w) ?_
  rintro e w' ⟨rfl, rfl⟩
  simpa [retP] using k
theorem cutPrefix_ {s : List UInt8} {c : UInt8} (k : K (.tuple #[strV (Lib.trimPrefix s [c]), .bool (Lib.hasPrefix s [c])]) w) : S.call Tryd.prog 96 [strV s, .string { data := #[c] }] K w := by
  refine Calls.mono (Tryd.strings_CutPrefix ⟨s.toArray⟩ ⟨#[c]⟩ w) ?_
  rintro e w' ⟨rfl, rfl⟩
  simpa [retP, strV] using k
theorem repeat_ {c : UInt8} {n : Nat} (hn : n ≤ 1000000) (k : ∀ w', Ch [] w w' → K (strV (List.replicate n c)) w') : S.call Tryd.prog 16 [.string { data := #[c] }, I64 n] K w := by
  refine Calls.mono (Tryd.strings_Repeat ⟨#[c]⟩ n w (by omega) (by show 1 * n ≤ _; omega)) ?_
  rintro e w' ⟨rfl, hb⟩
  have : Lib.repeatL [c] n = List.replicate n c := by
    clear k hb hn
    induction n with
    | zero => rfl
    | succ n ih => simp [Lib.repeatL, ih, List.replicate_succ]
  have k' := k w' (chBelow hb)
  rw [← this] at k'
  exact k'
theorem fmtInt_ {n : Int} (h0 : -9223372036854775808 ≤ n) (h1 : n ≤ 9223372036854775807) (hg : Gnd w) (k : ∀ w', Ch [] w w' → K (strV (Lib.itoa n)) w') : S.call Tryd.prog 95 [I64 n, .int .i64 10] K w := by
  refine Calls.mono (Tryd.strconv_FormatInt_10 n h0 h1 w hg.2.1) ?_
  rintro e w' ⟨rfl, kk, os, rfl⟩
  exact k _ (chGrow w kk os)
theorem itoa_ {n : Int} (h0 : -9223372036854775808 ≤ n) (h1 : n ≤ 9223372036854775807) (hg : Gnd w) (k : ∀ w', Ch [] w w' → K (strV (Lib.itoa n)) w') : S.call Tryd.prog 14 [I64 n] K w := by
  refine Calls.mono (Tryd.strconv_Itoa n h0 h1 w hg.2.1) ?_
  rintro e w' ⟨rfl, kk, os, rfl⟩
  exact k _ (chGrow w kk os)
theorem cuth_v {s : List UInt8} {n : Int} (h0 : 0 ≤ n) (h1 : n ≤ s.length) : S.v Tryd.prog (Instr.sliceAt 9 (strV s) none (some (I64 n)) none) K w = K (strV (s.take n.toNat)) w := v_eq (by
  unfold strV
  rw [run_sliceAt_string _ _ _ _ _ _ Tryd.underlying9, run_slice_string_h w 9 ⟨s.toArray⟩ Tryd.underlying9 .i64 n h0 (by rw [size_str]; omega)]
  congr 2
  apply ByteArray.ext
  apply Array.ext'
  simp)
/-! ### upper -/
def up1 (c : UInt8) : UInt8 := if 97 ≤ c.toNat ∧ c.toNat ≤ 122 then c - 32 else c
theorem st_fr {t : TypeId} {b off : Nat} {v : Value} {cs : Array Value} {e : TypeId} {f0 f1 : Nat} {K : World → Prop} (h : scal Tryd.prog t = true) (hb : w.heap[b]? = some (.cells cs e (f0, f1))) (ho : off < cs.size) (hf : off < f0) (hv : v.oneCell' = true)
    (k : ∀ w' : World, w'.heap[b]? = some (.cells (cs.setIfInBounds off v) e (f0, f1)) → Ch [b] w w' → w'.heap.size = w.heap.size → K w') : S.u Tryd.prog (Instr.storeAt t (.pointer (some ⟨b, off, none⟩)) v) K w := by
  refine u_ok ?_ (k _ (heap_setCell hb v) (ch_setCell w ⟨b, off, none⟩ v) (by simp [World.setCell]))
  have hc : w.cell? ⟨b, off, none⟩ = some cs[off] := by rw [cell_heap hb]; simp [ho]
  have hfz : w.frozen? ⟨b, off, none⟩ = false := by simp [World.frozen?, hb]; omega
  have hcells : v.cells = #[v] := by cases v <;> first | rfl | (simp [Value.oneCell'] at hv)
  unfold Instr.storeAt storeVar
  simp only [Instr.sureAddr, Sem.run_bind, Sem.run_pure, Result.andThen_ok, run_sizeOf_scal h, hcells]
  have := run_store (P := Tryd.prog) (w := w) ⟨b, off, none⟩ v .plain hv
  simp [storeCells, Addr.add, this, hc, hfz, go_sem]
theorem geC_v {t : TypeId} {x y : Operand} {c : UInt8} {m : Int} : S.v Tryd.prog (S.bin .geq t x y (byteV c) (.int .u8 m)) K w = K (.bool (decide (m ≤ (c.toNat : Int)))) w := ge_v
theorem leC_v {t : TypeId} {x y : Operand} {c : UInt8} {m : Int} : S.v Tryd.prog (S.bin .leq t x y (byteV c) (.int .u8 m)) K w = K (.bool (decide ((c.toNat : Int) ≤ m))) w := le_v
theorem sub32_v {t : TypeId} {x y : Operand} {c : UInt8} (h1 : 97 ≤ c.toNat) : S.v Tryd.prog (S.bin .sub t x y (byteV c) (.int .u8 32)) K w = K (byteV (c - 32)) w := by
  unfold byteV
  rw [sub_v]
  have hlt := c.toNat_lt
  have : (c - 32).toNat = c.toNat - 32 := by
    rw [UInt8.toNat_sub]
    simp
    omega
  rw [this]
  congr 2
  simp [IntKind.wrap, IntKind.signed, IntKind.bits]
  omega
theorem upper_ {s : List UInt8} (hl : s.length ≤ 9223372036854775807) (k : ∀ w', Ch [] w w' → K (strV (s.map up1)) w') : S.call Tryd.prog 97 [strV s] K w := by
  refine F97_link ?_
  unfold F97
  have hr := run_bytes_of_string (P := Tryd.prog) w 9 71 5 ⟨s.toArray⟩ Tryd.underlying9 Tryd.underlying71 Tryd.underlying5
  rw [size_str] at hr
  have hge := grownCap_ge w s.length 0 5
  have hcm := grownCap_le_maxLen w s.length 0 5 (by simp only [maxLen]; omega)
  refine v_ok hr ?_
  have hrow : (bytesRow ⟨s.toArray⟩ (grownCap w s.length 0 5)).toList.take s.length = bytesV s := by
    unfold bytesRow
    simp [bytesV]
    intro a _
    rfl
  have hsz : (bytesRow ⟨s.toArray⟩ (grownCap w s.length 0 5)).size = grownCap w s.length 0 5 := by
    unfold bytesRow
    have : (⟨s.toArray⟩ : ByteArray).size = s.length := size_str s
    rw [this]
    simp
    omega
  rw [hsz]
  have hh := heap_alloc_new w.drew (.cells (bytesRow ⟨s.toArray⟩ (grownCap w s.length 0 5)) 5 (grownCap w s.length 0 5, grownCap w s.length 0 5 + 1))
  have hc0 : Ch [] w (w.drew.alloc (.cells (bytesRow ⟨s.toArray⟩ (grownCap w s.length 0 5)) 5 (grownCap w s.length 0 5, grownCap w s.length 0 5 + 1))) := (Ch.drew w).trans (ch_alloc w.drew _) (by simp)
  generalize w.drew.alloc (.cells (bytesRow ⟨s.toArray⟩ (grownCap w s.length 0 5)) 5 (grownCap w s.length 0 5, grownCap w s.length 0 5 + 1)) = w1 at *
  generalize bytesRow ⟨s.toArray⟩ (grownCap w s.length 0 5) = cs0 at *
  generalize grownCap w s.length 0 5 = cap at *
  have hh' : w1.heap[w.heap.size]? = some (.cells cs0 5 (cap, cap + 1)) := hh
  clear hh hr
  generalize hgb : w.heap.size = g at *
  rw [len_v el71]
  intro I hC
  have key : ∀ (d i : Nat) (x4 x5 x11 x20 : Value) (cs : Array Value) (w' : World), i + d = s.length → w'.heap[g]? = some (.cells cs 5 (cap, cap + 1)) → cs.size = cap → cs.toList.take s.length = bytesV ((s.take i).map up1 ++ s.drop i) → Ch [g] w1 w' → I [x4, x5, I64 i, x11, x20] w' := by
    intro d
    induction d with
    | zero =>
      intro i x4 x5 x11 x20 cs w' hi hb hz ht hch
      refine hC _ _ _ _ _ _ ?_
      rw [lt_v, decide_eq_false (by omega), br_false]
      have hL : (s.map up1).length = s.length := by simp
      have ht' : cs.toList.take s.length = bytesV (s.map up1) := by rw [ht, List.take_of_length_le (by omega), List.drop_of_length_le (by omega), List.append_nil]
      have hrd : Rd w' w'.heap.size 1 (.slice (some ⟨g, 0, none⟩) s.length cap) (s.map up1).length (bytesV (s.map up1)) := by
        rw [hL]
        refine ⟨by rw [length_bytesV, hL]; omega, _, _, rfl, hge, hcm, fun _ => ⟨g, 0, rfl, lt_of_heap hb⟩, fun b' off hA j x hx => ?_⟩
        simp only [Option.some.injEq, Addr.mk.injEq] at hA
        obtain ⟨rfl, rfl, _⟩ := hA
        have hj := (List.getElem?_eq_some_iff.1 hx).1
        rw [length_bytesV, hL] at hj
        rw [cell_heap hb, ← hx, ← ht', List.getElem?_take_of_lt hj, Array.getElem?_toList, Nat.zero_add]
      rw [cvbs_v by71 Tryd.underlying9 hrd]
      exact k w' (hc0.trans hch (by simp; omega))
    | succ d ih =>
      intro i x4 x5 x11 x20 cs w' hi hb hz ht hch
      refine hC _ _ _ _ _ _ ?_
      rw [lt_v, decide_eq_true (by omega), br_true]
      have hil : i < s.length := by omega
      obtain ⟨c, hc⟩ : ∃ c, s[i]? = some c := ⟨s[i], List.getElem?_eq_getElem hil⟩
      have hdr : s.drop i = c :: s.drop (i + 1) := by
        rw [← List.getElem_cons_drop hil, (List.getElem?_eq_some_iff.1 hc).2]
      have htk : s.take (i + 1) = s.take i ++ [c] := by
        rw [List.take_succ_eq_append_getElem hil, (List.getElem?_eq_some_iff.1 hc).2]
      have hcell : cs[i]? = some (byteV c) := by
        have h1 : (cs.toList.take s.length)[i]? = some (byteV c) := by
          rw [ht, hdr]
          simp [bytesV, List.length_take, Nat.min_eq_left (by omega : i ≤ s.length)]
        rw [List.getElem?_take_of_lt hil, Array.getElem?_toList] at h1
        exact h1
      refine seq_ok fun J hJ => ?_
      have hJ' : ∀ (x y : Value) (cs' : Array Value) (w2 : World), w2.heap[g]? = some (.cells cs' 5 (cap, cap + 1)) → cs'.size = cap → cs'.toList.take s.length = bytesV ((s.take (i + 1)).map up1 ++ s.drop (i + 1)) → Ch [g] w1 w2 → J [I64 i, x, y] w2 := by
        intro x y cs' w2 hb2 hz2 ht2 hch2
        refine hJ _ _ ?_
        rw [add_v, wrap_i64 (by omega) (by omega), show (i : Int) + 1 = ((i + 1 : Nat) : Int) from by omega]
        exact ih (i + 1) _ _ _ _ cs' w2 (by omega) hb2 hz2 ht2 hch2
      have hsame : up1 c = c → cs.toList.take s.length = bytesV ((s.take (i + 1)).map up1 ++ s.drop (i + 1)) := by
        intro e
        rw [ht, hdr, htk]
        simp [e]
      rw [ia_v el71 (by omega) (by omega), show 0 + (i : Int).toNat * 1 = i from by omega, ldb_v sc5 hb hcell, geC_v]
      refine br_dec _ _ _ (fun h1 => ?_) (fun h1 => ?_)
      · rw [leC_v]
        refine br_dec _ _ _ (fun h2 => ?_) (fun h2 => ?_)
        · rw [sub32_v (by omega), ia_v el71 (by omega) (by omega), show 0 + (i : Int).toNat * 1 = i from by omega]
          refine st_fr sc5 hb (by omega) (by omega) rfl fun w2 hb2 hc2 hs2 => ?_
          refine hJ' _ _ _ w2 hb2 (by simpa using hz) ?_ (hch.trans hc2 (fun x hx => .inl hx))
          rw [Array.toList_setIfInBounds, List.take_set, ht, hdr, htk]
          have hu : up1 c = c - 32 := by unfold up1; rw [if_pos (by omega)]
          rw [List.map_append, List.map_singleton, hu, bytesV_append, bytesV_append, bytesV_append, List.set_append_right _ _ (by simp [bytesV]; omega)]
          have : i - (bytesV (List.map up1 (s.take i))).length = 0 := by simp [bytesV]; omega
          rw [this]
          simp [bytesV]
        · exact hJ' _ _ cs w' hb hz (hsame (by unfold up1; rw [if_neg (by omega)])) hch
      · exact hJ' _ _ cs w' hb hz (hsame (by unfold up1; rw [if_neg (by omega)])) hch
  exact key s.length 0 _ _ _ _ cs0 w1 (by omega) hh' hsz (by simpa using hrow) (Ch.refl _ _)
end
end Go.Proofs.YtjaoeipfiodnfaaDoor
