import Derived.Test.YthpbiliajcameaaDoorG4
import Derived.Laws.Cover4
import Derived.Laws.Concat
set_option linter.unusedVariables false
set_option maxRecDepth 4000
namespace Go.Proofs.YthpbiliajcameaaDoor
open Go Go.Fw Go.Proofs Go.RowKit
/-! ### A paste of letters -/
def letter (b : UInt8) : UInt8 := UInt8.ofNat (32 + b.toNat % 95)
theorem letter_nat (b : UInt8) : (letter b).toNat = 32 + b.toNat % 95 := by
  unfold letter
  have := Nat.mod_lt b.toNat (show 0 < 95 by omega)
  simp
  omega
theorem no_suffix {x : List UInt8} (h : ∀ y ∈ x, 32 ≤ y.toNat) : Lib.hasSuffix x endT = false := by
  cases hs : Lib.hasSuffix x endT with
  | false => rfl
  | true =>
    exfalso
    unfold Lib.hasSuffix at hs
    have hm := (List.isSuffixOf_iff_suffix.1 hs).subset (show (27 : UInt8) ∈ endT by simp [endT])
    have := h 27 hm
    simp at this
theorem put_plain {bs : List UInt8} {c : UInt8} (h : ∀ y ∈ bs, 32 ≤ y.toNat) (hc : 32 ≤ c.toNat) (hl : bs.length < 16384) : putF bs false c = (false, 0, bs ++ [c], false) := by
  have hs : Lib.hasSuffix (bs ++ [c]) endT = false := no_suffix (fun y hy => by
    rcases List.mem_append.1 hy with h1 | h1
    · exact h y h1
    · simp at h1; subst h1; exact hc)
  unfold putF
  rw [if_neg (by simp), if_neg (by rw [hs]; simp), if_neg (by simp; omega)]
theorem last_suffix {x : List UInt8} {c : UInt8} (h : c ≠ 126) : Lib.hasSuffix (x ++ [c]) endT = false := by
  cases hs : Lib.hasSuffix (x ++ [c]) endT with
  | false => rfl
  | true =>
    exfalso
    unfold Lib.hasSuffix at hs
    obtain ⟨p, hp⟩ := List.isSuffixOf_iff_suffix.1 hs
    have := congrArg List.getLast? hp
    simp [endT, List.getLast?_append] at this
    exact h this.symm
theorem put_end {cs : List UInt8} (hl : cs.length ≤ 16378) (i : Nat) (c : UInt8) (hi : endT[i]? = some c) : putF (cs ++ endT.take i) false c = if i = 5 then (true, 0, cs, true) else (false, 0, cs ++ endT.take (i + 1), false) := by
  have h6 : i < 6 := (List.getElem?_eq_some_iff.1 hi).1
  have ht : cs ++ endT.take i ++ [c] = cs ++ endT.take (i + 1) := by
    rw [List.append_assoc, List.take_succ_eq_append_getElem (show i < endT.length from h6)]
    have := (List.getElem?_eq_some_iff.1 hi).2
    rw [this]
  have hln : (cs ++ endT.take i ++ [c]).length = cs.length + i + 1 := by
    simp only [List.length_append, List.length_take, List.length_singleton]
    have : endT.length = 6 := rfl
    omega
  unfold putF
  rw [if_neg (by simp)]
  by_cases h5 : i = 5
  · subst h5
    have hs : Lib.hasSuffix (cs ++ endT.take 5 ++ [c]) endT = true := by
      rw [ht]
      unfold Lib.hasSuffix
      exact List.isSuffixOf_iff_suffix.2 ⟨cs, rfl⟩
    rw [if_pos hs, if_pos rfl, hln, ht]
    congr 3
    rw [show cs.length + 5 + 1 - 6 = cs.length from by omega]
    simp
  · have hc : c ≠ 126 := by
      match i, h6, hi, h5 with
      | 0, _, hi, _ => simp [endT] at hi; subst hi; decide
      | 1, _, hi, _ => simp [endT] at hi; subst hi; decide
      | 2, _, hi, _ => simp [endT] at hi; subst hi; decide
      | 3, _, hi, _ => simp [endT] at hi; subst hi; decide
      | 4, _, hi, _ => simp [endT] at hi; subst hi; decide
      | n + 5, h6, _, h5 => exfalso; omega
    rw [if_neg (by rw [last_suffix hc]; simp), if_neg (by omega), if_neg h5, ht]
theorem count_none {x : List UInt8} {a : UInt8} {r : List UInt8} (h : a ∉ x) : Lib.count x (a :: r) = 0 := by
  apply Lib.count_miss
  rcases Lib.index_spec x (a :: r) with ⟨h1, _⟩ | ⟨i, h1, h2, h3, _⟩
  · exact h1
  · exfalso
    unfold Lib.occAt at h3
    have := (List.isPrefixOf_iff_prefix.1 h3).subset (show a ∈ a :: r by simp)
    exact h (List.mem_of_mem_drop this)
theorem nlB_plain {x : List UInt8} (h : (13 : UInt8) ∉ x) : nlB x = x := by
  unfold nlB
  rw [count_none h]
  simp only [Lib.replaceK]
  rw [count_none h]
  rfl
theorem runes_ascii : ∀ {x : List UInt8}, (∀ y ∈ x, y.toNat < 128) → runes x = x.map fun y => (y.toNat : Int)
  | [], _ => rfl
  | a :: r, h => by
    have ha := h a (by simp)
    have hd : dgo (a :: r) = (a.toNat, 1) := by
      rw [dgo_eq (by simp)]
      unfold Lib.decodeN atN
      simp [ha]
    rw [runes_cons (by simp), hd]
    simp only [List.drop_succ_cons, List.drop_zero, List.map_cons]
    rw [runes_ascii (fun y hy => h y (by simp [hy]))]
theorem enc_ascii {b : UInt8} (h : b.toNat < 128) : Utf8.encode (b.toNat : Int) = ⟨#[b]⟩ := by
  unfold Utf8.encode
  have hv : Utf8.valid (b.toNat : Int) = true := by simp [Utf8.valid]; omega
  simp only [hv, if_true, Int.toNat_natCast, h]
  simp
section
variable {w : World} {K : Value → World → Prop}
theorem addS_v {x y : Operand} {a b : List UInt8} (h : a.length + b.length ≤ 9223372036854775807) : S.v Tryd.prog (S.bin .add 9 x y (strV a) (strV b)) K w = K (strV (a ++ b)) w := v_eq (by
  unfold S.bin strV
  have hs := run_string_add_sum (P := Tryd.prog) (w := w) ⟨a.toArray⟩ ⟨b.toArray⟩ (by rw [size_str, size_str]; exact h)
  simp [eqGuard, binOp, go_sem, hs]
  apply ByteArray.ext
  simp)
theorem rb_ascii : ∀ (x : List UInt8) (acc : List UInt8), (∀ y ∈ x, y.toNat < 128) → (x.map fun y => (y.toNat : Int)).foldl (fun r n => r ++ Utf8.encode n) (⟨acc.toArray⟩ : ByteArray) = ⟨(acc ++ x).toArray⟩
  | [], acc, _ => by simp
  | a :: r, acc, h => by
    rw [List.map_cons, List.foldl_cons, enc_ascii (h a (by simp))]
    have e : (⟨acc.toArray⟩ : ByteArray) ++ ⟨#[a]⟩ = ⟨(acc ++ [a]).toArray⟩ := by
      apply ByteArray.ext
      simp
    rw [e, rb_ascii r (acc ++ [a]) (fun y hy => h y (by simp [hy]))]
    simp
theorem cvrs {v : Value} {x : List UInt8} {L : List Nat} (h : RS w v (x.map fun y => (y.toNat : Int)) L) (ha : ∀ y ∈ x, y.toNat < 128) : (Go.convert 32 9 v).run Tryd.prog w = .ok (strV x) w := by
  rcases h.form with ⟨rfl, h0, _⟩ | ⟨g, off, cap, cur, rfl, _, _, _, _, _, _⟩
  · have : x = [] := by simpa using h0
    subst this
    exact run_convert_runes_nil w 32 9 21 0 0 Tryd.underlying32 Tryd.underlying21 Tryd.underlying9
  · rw [run_convert_runes w 32 9 21 ⟨g, off, none⟩ _ cap (x.map fun y => (y.toNat : Int)) (Nat.le_refl _) Tryd.underlying32 Tryd.underlying21 Tryd.underlying9 (fun j hj => by
      rw [add_mk]
      refine h.cell ?_
      simp only [i32s, List.getElem?_map]
      simp at hj
      simp [hj])]
    rw [List.take_of_length_le (Nat.le_refl _)]
    have := rb_ascii x [] ha
    unfold runesBytes
    show Result.ok (Value.string ((x.map fun y => (y.toNat : Int)).foldl (fun r n => r ++ Utf8.encode n) ⟨([] : List UInt8).toArray⟩)) w = _
    rw [this]
    rfl
theorem cv5 (n : Nat) (h : n < 256) : (Go.convert 5 21 (.int .u8 n)).run Tryd.prog w = .ok (.int .i32 n) w := by
  rw [run_convert_int w 5 21 .u8 n (by kernel_rfl) (by kernel_rfl)]
  have e : Tryd.prog.intKind 21 = .i32 := by kernel_rfl
  rw [e]
  congr 2
  simp [IntKind.wrap, IntKind.signed, IntKind.bits]
  omega
theorem cvi (b : UInt8) (h : b.toNat < 128) : (Go.convert 21 9 (.int .i32 (b.toNat : Int))).run Tryd.prog w = .ok (strV [b]) w := by
  rw [run_convert_int_string w 21 9 .i32 _ (by kernel_rfl) Tryd.underlying9, enc_ascii h]
  rfl
set_option maxHeartbeats 1000000
theorem plain_ {B : Nat} {v : Value} {bs : List UInt8} {m0 : Int} (hr : RB w B v bs) (hB : B ≤ w.heap.size) (hT : Lib.Utf8Tabs 1 2 w) (hm : w.cell? ⟨0, 0, none⟩ = some (.int .i64 m0)) (k : ∀ w', Ch [] w w' → K (.bool true) w') : S.call Tryd.prog 4 [v] K w := by
  refine F4_link ?_
  unfold F4
  refine newp_ fun w1 hp1 hc1 hs1 => ?_
  refine begun_ fun w2 hc2 => ?_
  have hc02 : Ch [] w w2 := hc1.trans hc2 (by simp)
  obtain ⟨A, c, rfl, hcc1, hcc2, _⟩ := hr.form
  have hbl : bs.length ≤ 9223372036854775807 := by simp only [maxLen] at hcc2; omega
  rw [not_v, show (!true) = false from rfl, br_false, eqn_v pt23, Option.isNone_some, br_false, len_v el22, gt_v]
  refine br_dec _ _ _ (fun _ => k w2 hc02) (fun hle => ?_)
  rw [len_v el22]
  intro I hC
  have hp2 := hp1.ch hc2 (by simp)
  have hltT := Tabs.lt hT
  have hr' : RB w B (.slice A bs.length c) bs := hr
  have key : ∀ (d i : Nat) (x2 x6 x7 x8 x9 x29 x50 : Value) (L : List Nat) (w' : World), i + d = bs.length → PAt w' w.heap.size ((bs.map letter).take i) false L → Ch [] w w' → (∀ x, x ∈ L → w.heap.size ≤ x) → I [x2, strV ((bs.map letter).take i), x6, x7, x8, x9, I64 i, x29, x50] w' := by
    intro d
    induction d with
    | succ d ih =>
      intro i x2 x6 x7 x8 x9 x29 x50 L w' hi hp hc hf
      refine hC _ _ _ _ _ _ _ _ _ _ ?_
      have hlt : i < bs.length := by omega
      have hrw : Rd w' B 1 (.slice A bs.length c) bs.length (bytesV bs) := Rd.ch hr' hc (by simp)
      have hget : (bytesV bs)[i]? = some (byteV bs[i]) := by simp [bytesV, hlt]
      have hb := bs[i].toNat_lt
      have hmod : bs[i].toNat % 95 < 95 := Nat.mod_lt _ (by omega)
      have e1 : ((bs[i].toNat : Int)).tmod 95 = ((bs[i].toNat % 95 : Nat) : Int) := by
        rw [Int.tmod_eq_emod_of_nonneg (by omega)]; omega
      have e2 : IntKind.u8.wrap (32 + ((bs[i].toNat % 95 : Nat) : Int)) = ((letter bs[i]).toNat : Int) := by
        rw [letter_nat]
        simp [IntKind.wrap, IntKind.signed, IntKind.bits]
        omega
      rw [lt_v, decide_eq_true (by omega), br_true, ixr_v (j := i) el22 sc5 hrw rfl hget]
      unfold byteV
      have hl128 : (letter bs[i]).toNat < 128 := by rw [letter_nat]; omega
      rw [rem_v (by omega), e1, add_v, e2, v_eq (cv5 (letter bs[i]).toNat (by omega)), v_eq (cvi (letter bs[i]) hl128), addS_v (by simp; omega)]
      have hcs : ∀ y ∈ (bs.map letter).take i, 32 ≤ y.toNat := fun y hy => by
        obtain ⟨z, _, rfl⟩ := List.mem_map.1 (List.mem_of_mem_take hy)
        rw [letter_nat]; omega
      have hlen : ((bs.map letter).take i).length = i := by simp; omega
      have hpp := put_plain (bs := (bs.map letter).take i) (c := letter bs[i]) hcs (by rw [letter_nat]; omega) (by omega)
      have hnx : (bs.map letter).take i ++ [letter bs[i]] = (bs.map letter).take (i + 1) := by
        rw [List.take_succ_eq_append_getElem (by simpa using hlt)]
        simp
      refine put_p (c := letter bs[i]) hp (by omega) fun w3 L3 hp3 hc3 hl3 => ?_
      rw [hpp] at hp3 ⊢
      simp only at hp3 ⊢
      rw [hnx] at hp3 ⊢
      rw [x20, x21, br_false, ne_same, br_false, add_v, wrap_i64 (by omega) (by omega)]
      have := ih (i + 1) x2 (byteV bs[i]) (byteV (letter bs[i])) (.bool false) (I64 0) (.bool true) (.bool false) L3 w3 (by omega) hp3 (hc.trans hc3 (fun z hz => .inr (hf z hz))) (fun z hz => by
        rcases hl3 z hz with h | h
        · exact hf z h
        · have := hc.size; omega)
      rw [show ((i + 1 : Nat) : Int) = (i : Int) + 1 from by omega] at this
      exact this
    | zero =>
      intro i x2 x6 x7 x8 x9 x29 x50 L w' hi hp hc hf
      refine hC _ _ _ _ _ _ _ _ _ _ ?_
      have hmap : (bs.map letter).take i = bs.map letter := List.take_of_length_le (by simp; omega)
      rw [hmap] at hp ⊢
      rw [lt_v, decide_eq_false (by omega), br_false]
      have hlen : (bs.map letter).length = bs.length := by simp
      generalize hcsg : bs.map letter = cs at *
      have hcs : ∀ y ∈ cs, 32 ≤ y.toNat ∧ y.toNat < 128 := fun y hy => by
        rw [← hcsg] at hy
        obtain ⟨z, _, rfl⟩ := List.mem_map.1 hy
        have hmod : z.toNat % 95 < 95 := Nat.mod_lt _ (by omega)
        rw [letter_nat]; omega
      refine lit_ (bs := endT) (bs6 w') rfl (by decide) fun w3 hE hc3 hs3 => ?_
      have hc03 : Ch [] w w3 := hc.trans hc3 (by simp)
      rw [len_v el22]
      intro I1 hC1
      have hge : w'.heap.size < w3.heap.size := by omega
      obtain ⟨_, _, he, _, _, _, h5⟩ := hE.form
      injection he with he1 he2 he3
      subst he1
      have hcell3 := h5 w'.heap.size 0 rfl
      clear h5 hE he2 he3
      have hp3 := hp.ch hc3 (by simp)
      have hfge : ∀ x, x ∈ L → w.heap.size ≤ x ∧ x ≠ w'.heap.size := fun x hx => ⟨hf x hx, by have := hp.lt x hx; omega⟩
      generalize w'.heap.size = ge at *
      have key1 : ∀ (d j : Nat) (y2 y10 y11 y12 y13 y56 y73 : Value) (L : List Nat) (w4 : World), j + d = 6 → PAt w4 w.heap.size (if j = 6 then cs else cs ++ endT.take j) (decide (j = 6)) L → Ch [] w w4 → (∀ x, x ∈ L → w.heap.size ≤ x ∧ x ≠ ge) → ge < w4.heap.size →
          (∀ (j : Nat) (u : Value), (bytesV endT)[j]? = some u → w4.cell? ⟨ge, 0 + j, none⟩ = some u) → I1 [y2, y10, y11, y12, y13, I64 j, y56, y73] w4 := by
        intro d
        induction d with
        | succ d ih =>
          intro j y2 y10 y11 y12 y13 y56 y73 L w4 hj hp4 hc4 hf4 hg4 hcell
          refine hC1 _ _ _ _ _ _ _ _ _ ?_
          have h6 : endT.length = 6 := rfl
          have hlt : j < endT.length := by omega
          have hE4 : Rd w4 (ge + 1) 1 (.slice (some ⟨ge, 0, none⟩) endT.length endT.length) endT.length (bytesV endT) :=
            ⟨by rw [length_bytesV, Nat.mul_one], _, _, rfl, Nat.le_refl _, by simp only [maxLen]; omega, fun _ => ⟨_, _, rfl, by omega⟩, fun b off hA j u hu => by
              injection hA with hA
              injection hA with a1 a2 _
              subst a1 a2
              exact hcell j u hu⟩
          have hget : (bytesV endT)[j]? = some (byteV endT[j]) := by simp [bytesV, hlt]
          rw [lt_v, decide_eq_true (by omega), br_true, ixr_v (j := j) el22 sc5 hE4 rfl hget]
          rw [if_neg (by omega), decide_eq_false (by omega)] at hp4
          have hpe := put_end (cs := cs) (by omega) j endT[j] (List.getElem?_eq_getElem hlt)
          refine put_p hp4 (by simp only [List.length_append, List.length_take]; omega) fun w5 L5 hp5 hc5 hl5 => ?_
          rw [hpe] at hp5 ⊢
          have hres : (if j = 5 then ((true, 0, cs, true) : Bool × Int × List UInt8 × Bool) else (false, 0, cs ++ endT.take (j + 1), false)) = (decide (j = 5), 0, if j + 1 = 6 then cs else cs ++ endT.take (j + 1), decide (j + 1 = 6)) := by
            by_cases h : j = 5
            · subst h; rfl
            · rw [if_neg h, if_neg (by omega), decide_eq_false h, decide_eq_false (by omega)]
          rw [hres] at hp5 ⊢
          simp only at hp5 ⊢
          have he5 : decide ((j : Int) = 5) = decide (j = 5) := decide_eq_decide.2 (by omega)
          rw [x20, x21, eq_v, he5, neb_v bt4, beq_self_eq_true, Bool.not_true, br_false, ne_same, br_false, add_v, wrap_i64 (by omega) (by omega)]
          have hs5 := hc5.size
          have hs4 := hc4.size
          have := ih (j + 1) y2 (I64 j) (byteV endT[j]) (.bool (decide (j = 5))) (I64 0) (.bool true) (.bool false) L5 w5 (by omega) hp5 (hc4.trans hc5 (fun z hz => .inr (hf4 z hz).1)) (fun z hz => by
            rcases hl5 z hz with h | h
            · exact hf4 z h
            · omega) (by omega) (fun j u hu => hc5.cell (hcell j u hu) (fun hm => (hf4 _ hm).2 rfl))
          rw [show ((j + 1 : Nat) : Int) = (j : Int) + 1 from by omega] at this
          exact this
        | zero =>
          intro j y2 y10 y11 y12 y13 y56 y73 L w4 hj hp4 hc4 hf4 hg4 hcell
          refine hC1 _ _ _ _ _ _ _ _ _ ?_
          have h6 : endT.length = 6 := rfl
          obtain rfl : j = 6 := by omega
          rw [if_pos rfl, decide_eq_true rfl] at hp4
          rw [lt_v, decide_eq_false (by omega), br_false]
          refine put_p (c := 120) hp4 (by omega) fun w5 L5 hp5 hc5 hl5 => ?_
          have hpd : putF cs true 120 = (false, 6, cs, true) := rfl
          rw [hpd] at hp5 ⊢
          simp only at hp5 ⊢
          have hc05 : Ch [] w w5 := hc4.trans hc5 (fun z hz => .inr (hf4 z hz).1)
          rw [x20, x21, eq_v, decide_eq_true rfl, br_true]
          refine text_p hp5 (by omega) (Tabs.ch hT hc05 (by simp) (by simp)) (hc05.cell hm (by simp)) fun v6 w6 L6 ho6 hc6 hl6 => ?_
          have h13 : (13 : UInt8) ∉ cs := fun hx => by have := (hcs 13 hx).1; simp at this
          rw [nlB_plain h13, runes_ascii (fun y hy => (hcs y hy).2)] at ho6
          rw [v_eq (cvrs ho6 (fun y hy => (hcs y hy).2)), eqs_v, decide_eq_true rfl]
          exact k w6 (hc05.trans hc6 (by simp))
      have hst := key1 6 0 x2 undef undef undef undef undef undef L w3 (by omega) (by simpa using hp3) hc03 hfge hge hcell3
      exact hst
  exact key bs.length 0 _ undef undef undef undef undef undef [w.heap.size] w2 (by omega) (by simpa using hp2) hc02 (by simp)
end
end Go.Proofs.YthpbiliajcameaaDoor
