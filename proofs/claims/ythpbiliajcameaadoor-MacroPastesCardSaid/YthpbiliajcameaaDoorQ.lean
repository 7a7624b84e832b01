import Derived.Test.YthpbiliajcameaaDoorT
import Derived.Test.YthpbiliajcameaaDoorFwStr
set_option linter.unusedVariables false
namespace Go.Proofs.YthpbiliajcameaaDoor
open Go Go.Fw Go.Proofs Go.RowKit

/-- A byte slice of one's own. -/
def BS (w : World) (v : Value) (bs : List UInt8) (L : List Nat) : Prop := Own w 5 1 v bs.length (bytesV bs) L
/-- A byte slice that is only read. -/
def RB (w : World) (B : Nat) (v : Value) (bs : List UInt8) : Prop := Rd w B 1 v bs.length (bytesV bs)
def Hdrs (w : World) : List Value → List (List UInt8) → List Nat → Prop
  | [], [], L => L = []
  | h :: hs, m :: ms, L => ∃ L1 L2, L = L1 ++ L2 ∧ BS w h m L1 ∧ m ≠ [] ∧ Hdrs w hs ms L2
  | _, _, _ => False
theorem Hdrs.ch {w w' : World} {M : List Nat} (hc : Ch M w w') : ∀ {hs : List Value} {ms : List (List UInt8)} {L : List Nat}, Hdrs w hs ms L → (∀ x, x ∈ L → x ∉ M) → Hdrs w' hs ms L
  | [], [], L, h, _ => h
  | _ :: _, _ :: _, L, ⟨L1, L2, h1, h2, h3, h4⟩, hd => ⟨L1, L2, h1, h2.ch hc (fun x hx => hd x (by simp [h1, hx])), h3, Hdrs.ch hc h4 (fun x hx => hd x (by simp [h1, hx]))⟩
  | [], _ :: _, _, h, _ => h.elim
  | _ :: _, [], _, h, _ => h.elim
theorem Hdrs.lt {w : World} : ∀ {hs : List Value} {ms : List (List UInt8)} {L : List Nat}, Hdrs w hs ms L → ∀ x, x ∈ L → x < w.heap.size
  | [], [], L, h, x, hx => by
    have : L = [] := h
    subst this; cases hx
  | _ :: _, _ :: _, L, ⟨L1, L2, h1, h2, h3, h4⟩, x, hx => by
    subst h1
    rcases List.mem_append.1 hx with hx | hx
    · exact Own.lt h2 x hx
    · exact Hdrs.lt h4 x hx
  | [], _ :: _, _, h, _, _ => h.elim
  | _ :: _, [], _, h, _, _ => h.elim

structure QAt (w : World) (b : Nat) (ty : List UInt8) (ms : List (List UInt8)) (run : Nat) (L : List Nat) : Prop where
  ex : ∃ tv mv hs Lt Lm Lh, w.heap[b]? = some (.cells #[tv, mv, .int .i64 run, .bool true] 38 (0, 0)) ∧ BS w tv ty Lt ∧ Own w 22 1 mv ms.length hs Lm ∧ Hdrs w hs ms Lh ∧ L = b :: (Lt ++ (Lm ++ Lh))
  nodup : L.Nodup
theorem QAt.ch {w w' : World} {b : Nat} {ty : List UInt8} {ms : List (List UInt8)} {run : Nat} {L M : List Nat} (h : QAt w b ty ms run L) (hc : Ch M w w') (hd : ∀ x, x ∈ L → x ∉ M) : QAt w' b ty ms run L := by
  obtain ⟨tv, mv, hs, Lt, Lm, Lh, h1, h2, h3, h4, h5⟩ := h.ex
  subst h5
  exact ⟨⟨tv, mv, hs, Lt, Lm, Lh, hc.at_ h1 (hd b (by simp)), h2.ch hc (fun x hx => hd x (by simp [hx])), h3.ch hc (fun x hx => hd x (by simp [hx])), h4.ch hc (fun x hx => hd x (by simp [hx])), rfl⟩, h.nodup⟩
theorem QAt.lt {w : World} {b : Nat} {ty : List UInt8} {ms : List (List UInt8)} {run : Nat} {L : List Nat} (h : QAt w b ty ms run L) : ∀ x, x ∈ L → x < w.heap.size := by
  obtain ⟨tv, mv, hs, Lt, Lm, Lh, h1, h2, h3, h4, h5⟩ := h.ex
  subst h5
  intro x hx
  simp only [List.mem_cons, List.mem_append] at hx
  rcases hx with rfl | hx | hx | hx
  · exact lt_of_heap h1
  · exact Own.lt h2 x hx
  · exact Own.lt h3 x hx
  · exact h4.lt x hx

abbrev PT (b : Nat) : Value := .pointer (some ⟨b, 0, none⟩)
abbrev I64 (n : Int) : Value := .int .i64 n
section
variable {w : World} {K : Value → World → Prop}
theorem qnone {b : Nat} {cs : Array Value} {e : TypeId} (h : w.heap[b]? = some (.cells cs e (0, 0))) (h3 : cs[3]? = some (.bool true)) (k : K (.bool false) w) : S.call Tryd.prog 32 [PT b] K w := by
  refine F32_link ?_
  unfold F32
  rw [eqn_v pt35, Option.isNone_some, br_false, nilC_v, fa_v fo38_3, ldb_v sc4 h h3, not_v]
  exact k
theorem room_ {b l c n : Nat} {A : Option Addr} {cs : Array Value} {e : TypeId} (h : w.heap[b]? = some (.cells cs e (0, 0))) (h0 : cs[0]? = some (.slice A l c)) (h3 : cs[3]? = some (.bool true)) (hl : l ≤ 140737488355328) (k1 : n + l ≤ 65536 → K (I64 0) w) (k2 : 65536 < n + l → K (I64 3) w) :
    S.call Tryd.prog 33 [PT b, I64 n] K w := by
  refine F33_link ?_
  unfold F33
  refine qnone h h3 ?_
  rw [br_false, nilC_v, fa_v fo38_0, ldb_v sc22 h h0, len_v el22, sub_v, gt_v, wrap_i64 (by omega) (by omega)]
  exact br_dec _ _ _ (fun hh => k2 (by omega)) (fun hh => k1 (by omega))
theorem put_ {b B : Nat} {ty bs : List UInt8} {ms : List (List UInt8)} {run : Nat} {L : List Nat} {src : Value} (hq : QAt w b ty ms run L) (hs : RB w B src bs) (hl : ty.length ≤ 65536) (hb : bs.length ≤ 9223372036854775807)
    (k1 : ∀ w' L', QAt w' b (ty ++ bs) ms run L' → Ch L w w' → (∀ x, x ∈ L' → x ∈ L ∨ w.heap.size ≤ x) → bs.length + ty.length ≤ 65536 → K (I64 0) w') (k2 : 65536 < bs.length + ty.length → K (I64 3) w) :
    S.call Tryd.prog 13 [PT b, src] K w := by
  obtain ⟨tv, mv, hs', Lt, Lm, Lh, h1, h2, h3, h4, h5⟩ := hq.ex
  obtain ⟨A, c, rfl, _⟩ := hs.form
  obtain ⟨A', c', rfl, _⟩ := Own.shape h2
  refine F13_link ?_
  unfold F13
  rw [len_v el22]
  refine room_ h1 rfl rfl (by omega) (fun hle => ?_) (fun hgt => ?_)
  · rw [ne_v, decide_eq_false (by omega), br_false, nilC_v, fa_v fo38_0, ld_v sc22 (cells4 h1).1]
    refine ap sl22 h2 hs one_bytesV (by omega) (by omega) fun v' w1 L1 ho hc hl1 => ?_
    subst h5
    have hnd := hq.nodup
    have hlt := hq.lt
    have hbL : b ∉ Lt := fun hm => (List.nodup_cons.1 hnd).1 (by simp [hm])
    have hb1 := hc.at_ h1 hbL
    rw [nilC_v, fa_v fo38_0]
    obtain ⟨A1, c1, rfl, _⟩ := ho.shape
    refine st sc22 hb1 (by simp) rfl fun w2 hb2 hc2 hsz => ?_
    have hnd1 : L1.Nodup := ho.nodup
    have hlt1 := ho.lt
    refine k1 w2 (b :: (L1 ++ (Lm ++ Lh))) ⟨⟨_, mv, hs', L1, Lm, Lh, hb2, ?_, ?_, ?_, rfl⟩, ?_⟩ ?_ ?_ hle
    · have := ho.ch hc2 (by grind)
      simpa [BS, bytesV] using this
    · exact (h3.ch hc (by grind)).ch hc2 (by grind)
    · exact (h4.ch hc (by grind)).ch hc2 (by grind)
    · exact nodup_swap (A := [b]) hnd hlt hnd1 hl1
    · exact (hc.mono (L' := b :: (Lt ++ (Lm ++ Lh))) (by grind)).trans hc2 (by grind)
    · grind
  · rw [ne_v, decide_eq_true (by omega), br_true]
    exact k2 hgt

theorem Hdrs.len {w : World} : ∀ {hs : List Value} {ms : List (List UInt8)} {L : List Nat}, Hdrs w hs ms L → hs.length = ms.length
  | [], [], _, _ => rfl
  | _ :: _, _ :: _, _, ⟨_, _, _, _, _, h⟩ => by simp [Hdrs.len h]
  | [], _ :: _, _, h => h.elim
  | _ :: _, [], _, h => h.elim
theorem depth_ {b : Nat} {ty : List UInt8} {ms : List (List UInt8)} {run : Nat} {L : List Nat} (hq : QAt w b ty ms run L) (k : K (I64 ms.length) w) : S.call Tryd.prog 17 [PT b] K w := by
  obtain ⟨tv, mv, hs, Lt, Lm, Lh, h1, h2, h3, h4, h5⟩ := hq.ex
  obtain ⟨A, c, rfl, _⟩ := h3.shape
  refine F17_link ?_
  unfold F17
  refine qnone h1 rfl ?_
  rw [br_false, nilC_v, fa_v fo38_1, ld_v sc36 (cells4 h1).2.1, len_v el36]
  exact k
def total : List (List UInt8) → Nat
  | [] => 0
  | m :: r => m.length + total r
theorem total_append (a b : List (List UInt8)) : total (a ++ b) = total a + total b := by
  induction a with
  | nil => simp [total]
  | cons m r ih => simp [total, ih, Nat.add_assoc]
theorem Hdrs.get {w : World} : ∀ {hs : List Value} {ms : List (List UInt8)} {L : List Nat}, Hdrs w hs ms L → ∀ {i : Nat} {m : List UInt8}, ms[i]? = some m → ∃ h L1, hs[i]? = some h ∧ BS w h m L1 ∧ m ≠ []
  | _ :: _, _ :: _, _, ⟨L1, L2, h1, h2, h3, h4⟩, 0, m, hm => by
    simp at hm; subst hm
    exact ⟨_, L1, rfl, h2, h3⟩
  | _ :: _, _ :: _, _, ⟨L1, L2, h1, h2, h3, h4⟩, i + 1, m, hm => by
    simpa using Hdrs.get h4 (i := i) (by simpa using hm)
  | [], [], _, _, _, _, hm => by simp at hm
  | [], _ :: _, _, h, _, _, _ => h.elim
  | _ :: _, [], _, h, _, _, _ => h.elim
theorem total_take_succ {ms : List (List UInt8)} {i : Nat} {m : List UInt8} (h : ms[i]? = some m) : total (ms.take (i + 1)) = total (ms.take i) + m.length := by
  obtain ⟨hi, rfl⟩ := List.getElem?_eq_some_iff.1 h
  rw [List.take_succ_eq_append_getElem hi, total_append]; simp [total]
theorem total_take_le (ms : List (List UInt8)) (i : Nat) : total (ms.take i) ≤ total ms := by
  have : total ms = total (ms.take i) + total (ms.drop i) := by
    have h := total_append (ms.take i) (ms.drop i)
    rw [List.take_append_drop] at h
    exact h
  omega
theorem len_ {b : Nat} {ty : List UInt8} {ms : List (List UInt8)} {run : Nat} {L : List Nat} (hq : QAt w b ty ms run L) (hb : ty.length + total ms ≤ 4611686018427387904) (k : K (I64 ((ty.length + total ms : Nat) : Int)) w) : S.call Tryd.prog 16 [PT b] K w := by
  obtain ⟨tv, mv, hs, Lt, Lm, Lh, h1, h2, h3, h4, h5⟩ := hq.ex
  obtain ⟨A, c, rfl, hc1, hc2⟩ := h3.shape
  obtain ⟨A', c', rfl, _⟩ := Own.shape h2
  have hml : ms.length ≤ 9223372036854775807 := by have := hc2; simp only [maxLen] at this; omega
  refine F16_link ?_
  unfold F16
  refine qnone h1 rfl ?_
  rw [br_false, nilC_v, fa_v fo38_0, ld_v sc22 (cells4 h1).1, len_v el22, nilC_v, fa_v fo38_1, ld_v sc36 (cells4 h1).2.1, len_v el36]
  intro I hC
  have key : ∀ (d i : Nat) (x5 x19 : Value), i + d = ms.length → I [I64 ((ty.length + total (ms.take i) : Nat) : Int), x5, I64 (i : Int), x19] w := by
    intro d
    induction d with
    | zero =>
      intro i x5 x19 hi
      refine hC _ _ _ _ _ ?_
      rw [lt_v, decide_eq_false (by omega), br_false]
      have : ms.take i = ms := List.take_of_length_le (by omega)
      rw [this]
      exact k
    | succ d ih =>
      intro i x5 x19 hi
      refine hC _ _ _ _ _ ?_
      have hlt : i < ms.length := by omega
      obtain ⟨h, L1, hh, hbs, hne⟩ := h4.get (List.getElem?_eq_getElem hlt)
      obtain ⟨g, off, c1, hA, _, _⟩ := h3.some_ (by omega)
      injection hA with hA _ hA2
      subst hA
      obtain ⟨Ah, ch, rfl, _⟩ := Own.shape hbs
      have ht := total_take_succ (List.getElem?_eq_getElem hlt)
      have hle := total_take_le ms (i + 1)
      rw [lt_v, decide_eq_true (by omega), br_true, ia_v el36 (by omega) (by omega), Int.toNat_natCast, Nat.mul_one, ldo_v sc22 h3 hh, len_v el22, add_v, add_v, wrap_i64 (by omega) (by omega), wrap_i64 (by omega) (by omega)]
      have := ih (i + 1) (.slice Ah ms[i].length ch) (.bool true) (by omega)
      rw [ht] at this
      have e1 : ((ty.length + (total (ms.take i) + ms[i].length) : Nat) : Int) = ((ty.length + total (ms.take i) : Nat) : Int) + (ms[i].length : Int) := by omega
      have e2 : ((i + 1 : Nat) : Int) = (i : Int) + 1 := by omega
      rw [e1, e2] at this
      exact this
  have := key ms.length 0 undef undef (by omega)
  simpa [total] using this

theorem Hdrs.snoc {w : World} {h : Value} {m : List UInt8} {L1 : List Nat} (hb : BS w h m L1) (hm : m ≠ []) : ∀ {hs : List Value} {ms : List (List UInt8)} {L : List Nat}, Hdrs w hs ms L → Hdrs w (hs ++ [h]) (ms ++ [m]) (L ++ L1)
  | [], [], L, hl => by
    have : L = [] := hl
    subst this
    exact ⟨L1, [], by simp, hb, hm, rfl⟩
  | _ :: _, _ :: _, L, ⟨L2, L3, h1, h2, h3, h4⟩ => ⟨L2, L3 ++ L1, by rw [h1, List.append_assoc], h2, h3, Hdrs.snoc hb hm h4⟩
  | [], _ :: _, _, h => h.elim
  | _ :: _, [], _, h => h.elim
theorem Hdrs.unsnoc {w : World} {m : List UInt8} : ∀ {ms : List (List UInt8)} {hs : List Value} {L : List Nat}, Hdrs w hs (ms ++ [m]) L → ∃ hs0 h L0 L1, hs = hs0 ++ [h] ∧ L = L0 ++ L1 ∧ Hdrs w hs0 ms L0 ∧ BS w h m L1 ∧ m ≠ []
  | [], [h], L, ⟨L1, L2, h1, h2, h3, h4⟩ => ⟨[], h, [], L1, rfl, by
      have : L2 = [] := h4
      subst this
      simpa using h1, rfl, h2, h3⟩
  | [], _ :: _ :: _, _, ⟨_, _, _, _, _, h⟩ => h.elim
  | [], [], _, h => h.elim
  | _ :: _, [], _, h => h.elim
  | x :: ms, y :: hs, L, ⟨L1, L2, h1, h2, h3, h4⟩ => by
    obtain ⟨hs0, h, L0, L3, e1, e2, e3, e4, e5⟩ := Hdrs.unsnoc (ms := ms) h4
    exact ⟨y :: hs0, h, L1 ++ L0, L3, by rw [e1]; rfl, by rw [h1, e2, List.append_assoc], ⟨L1, L0, rfl, h2, h3, e3⟩, e4, e5⟩
theorem build55 (w : World) : (Instr.build 38 #[(3, .bool true)]).run Tryd.prog w = .ok (.agg #[.slice none 0 0, .slice none 0 0, .int .i64 0, .bool true]) w := by kernel_rfl
theorem newq_ (k : ∀ w', QAt w' w.heap.size [] [] 0 [w.heap.size] → Ch [] w w' → w'.heap.size = w.heap.size + 1 → K (PT w.heap.size) w') : S.call Tryd.prog 27 [] K w := by
  refine F27_link ?_
  unfold F27
  rw [v_eq (build55 w)]
  refine bx fun w' h hc hsz => k w' ⟨⟨_, _, [], [], [], [], h, Own.nil _ _ _, Own.nil _ _ _, rfl, rfl⟩, by simp⟩ hc hsz
theorem push_ {b B : Nat} {ty bs : List UInt8} {ms : List (List UInt8)} {run : Nat} {L : List Nat} {src : Value} (hq : QAt w b ty ms run L) (hs : RB w B src bs) (hms : ms.length ≤ 16)
    (k1 : ∀ w' L', QAt w' b ty (if bs = [] then ms else ms ++ [bs]) run L' → Ch L w w' → (∀ x, x ∈ L' → x ∈ L ∨ w.heap.size ≤ x) → bs.length ≤ 128 → ms.length < 16 → K (I64 0) w') (k2 : 128 < bs.length → K (I64 3) w)
    (k3 : bs.length ≤ 128 → ms.length = 16 → K (I64 6) w) :
    S.call Tryd.prog 14 [PT b, src] K w := by
  obtain ⟨tv, mv, hs', Lt, Lm, Lh, h1, h2, h3, h4, h5⟩ := hq.ex
  have hs0 := hs
  obtain ⟨A, c, rfl, hc1, hc2, _⟩ := hs.form
  obtain ⟨A', c', rfl, _⟩ := h3.shape
  refine F14_link ?_
  unfold F14
  refine qnone h1 rfl ?_
  rw [br_false, len_v el22, gt_v]
  refine br_dec _ _ _ (fun hh => k2 (by omega)) (fun hh => ?_)
  rw [nilC_v, fa_v fo38_1, ld_v sc36 (cells4 h1).2.1, len_v el36, ge_v]
  refine br_dec _ _ _ (fun hh2 => k3 (by omega) (by omega)) (fun hh2 => ?_)
  rw [seq_def, len_v el22, gt_v]
  refine br_dec _ _ _ (fun hh3 => ?_) (fun hh3 => ?_)
  · have hne : bs ≠ [] := fun e => by subst e; simp at hh3
    rw [len_v el22]
    refine mk sl22 rfl (by omega) (by omega) fun w1 ho1 hc1 hsz1 => ?_
    refine cp (ats := #[22, 22]) (m := bs.length) (B := B) (news := bytesV bs) sl22 rfl ho1 (hs0.ch hc1 (by simp)) one_bytesV (Nat.le_refl _) fun w2 ho2 hc2 hsz2 => ?_
    have ho2' : BS w2 (.slice (some ⟨w.heap.size, 0, none⟩) bs.length bs.length) bs [w.heap.size] := by
      have e : bytesV bs ++ List.drop (bs.length * 1) (List.replicate bs.length (Value.int .u8 0)) = bytesV bs := by simp
      rw [e] at ho2
      exact ho2
    have hc02 : Ch [] w w2 := hc1.trans hc2 (by grind)
    rw [nilC_v, fa_v fo38_1, ld_v sc36 (cells4 (hc02.at_ h1 (by simp))).2.1]
    refine bs1 sl36 rfl rfl fun w3 ho3 hc3 hsz3 => ?_
    have hc03 : Ch [] w w3 := hc02.trans hc3 (by simp)
    refine ap sl36 (h3.ch hc03 (by simp)) ho3.rd (by simp; rfl) (by omega) (by omega) fun v4 w4 L4 ho4 hc4 hl4 => ?_
    subst h5
    have hnd := hq.nodup
    have hlt := hq.lt
    have hbL : b ∉ Lm := fun hm => (List.nodup_cons.1 hnd).1 (by simp [hm])
    have hb4 := hc4.at_ (hc03.at_ h1 (by simp)) hbL
    rw [nilC_v, fa_v fo38_1]
    obtain ⟨A4, c4, rfl, _⟩ := ho4.shape
    refine st sc36 hb4 (by simp) rfl fun w5 hb5 hc5 hsz5 => ?_
    have hndA : (b :: (Lt ++ (Lm ++ (Lh ++ [w.heap.size])))).Nodup := by
      have := nodup_snoc hnd hlt (Nat.le_refl _)
      simpa using this
    have hlt4 : ∀ x, x ∈ b :: (Lt ++ (Lm ++ (Lh ++ [w.heap.size]))) → x < w3.heap.size := fun x hx => by
      have : x ∈ b :: (Lt ++ (Lm ++ Lh)) ∨ x = w.heap.size := by grind
      rcases this with h | h
      · have := hlt x h; omega
      · omega
    have hnd5 : (b :: (Lt ++ (L4 ++ (Lh ++ [w.heap.size])))).Nodup := by
      have := nodup_swap (A := b :: Lt) (X := Lm) (Y := L4) (B := Lh ++ [w.heap.size]) (n := w3.heap.size) (by simpa using hndA) (by simpa using hlt4) ho4.nodup hl4
      simpa using this
    have hnb : ∀ x, x ∈ Lt ++ (Lm ++ Lh) → x ≠ b := fun x hx e => (List.nodup_cons.1 hnd).1 (e ▸ hx)
    have hndt := (List.nodup_cons.1 hnd).2
    have hdm : ∀ x, x ∈ Lt ++ Lh → x ∉ Lm := by grind
    have hltS : ∀ x, x ∈ Lt ++ (Lm ++ Lh) → x ≠ w.heap.size := fun x hx e => by have := hlt x (by simp [hx]); omega
    have hbS : b < w.heap.size := hlt b (by simp)
    refine k1 w5 (b :: (Lt ++ (L4 ++ (Lh ++ [w.heap.size])))) ⟨⟨tv, _, hs' ++ [.slice (some ⟨w.heap.size, 0, none⟩) bs.length bs.length], Lt, L4, Lh ++ [w.heap.size], hb5, ?_, ?_, ?_, rfl⟩, hnd5⟩ ?_ ?_ (by omega) (by omega)
    · exact ((h2.ch hc03 (by simp)).ch hc4 (by grind)).ch hc5 (by grind)
    · rw [if_neg hne, List.length_append]
      exact ho4.ch hc5 (by grind)
    · rw [if_neg hne]
      refine Hdrs.snoc ?_ hne (((h4.ch hc03 (by simp)).ch hc4 (by grind)).ch hc5 (by grind))
      exact ((ho2'.ch hc3 (by simp)).ch hc4 (by grind)).ch hc5 (by grind)
    · exact ((hc03.nil (L := b :: (Lt ++ (Lm ++ Lh)))).trans hc4 (by grind)).trans hc5 (by grind)
    · grind
  · have hne : bs = [] := List.eq_nil_of_length_eq_zero (by omega)
    exact k1 w L (by rw [if_pos hne]; exact hq) (Ch.refl _ _) (fun x hx => .inl hx) (by omega) (by omega)
end
end Go.Proofs.YthpbiliajcameaaDoor
