import Derived.Test.YthpbiliajcameaaD1
set_option linter.unusedVariables false
set_option maxRecDepth 4000
namespace Go.Proofs.Ythpbiliajcameaa
open Go Go.Fw Go.Proofs Go.RowKit
abbrev Bs := List UInt8
/-! ### What a queue does -/
def putM (ty bs : Bs) : Int × Bs := if 65536 < bs.length + ty.length then (3, ty) else (0, ty ++ bs)
def pushM (ms : List Bs) (bs : Bs) : Int × List Bs := if 128 < bs.length then (3, ms) else if 16 ≤ ms.length then (6, ms) else (0, if bs = [] then ms else ms ++ [bs])
def backM (ty : Bs) (ms : List Bs) (run : Nat) (bs : Bs) : Int × Bs × List Bs :=
  match ms.getLast? with
  | some m => (0, ty, ms.dropLast ++ [bs ++ m])
  | none => if 0 < run ∧ bs ≠ [] then (0, ty, [bs]) else if 65536 < bs.length + ty.length then (3, ty, []) else (0, bs ++ ty, [])
def nextM (ty : Bs) (ms : List Bs) (run : Nat) : (UInt8 × Bool × Bool) × Bs × List Bs × Nat :=
  match (if 256 ≤ run then [] else ms).getLast? with
  | some (c :: m) => ((c, true, false), ty, (if m = [] then ms.dropLast else ms.dropLast ++ [m]), run + 1)
  | _ => match ty with
    | c :: t => ((c, true, true), t, [], 0)
    | [] => ((0, false, false), [], [], run)
theorem backM_snoc (ty : Bs) (ms : List Bs) (m : Bs) (run : Nat) (bs : Bs) : backM ty (ms ++ [m]) run bs = (0, ty, ms ++ [bs ++ m]) := by simp [backM]
theorem backM_none (ty : Bs) (run : Nat) (bs : Bs) : backM ty [] run bs = if 0 < run ∧ bs ≠ [] then (0, ty, [bs]) else if 65536 < bs.length + ty.length then (3, ty, []) else (0, bs ++ ty, []) := rfl
theorem snoc_cases {α : Type} (l : List α) : l = [] ∨ ∃ r x, l = r ++ [x] := by
  rcases List.eq_nil_or_concat l with h | ⟨r, x, h⟩
  · exact .inl h
  · exact .inr ⟨r, x, by simpa using h⟩
theorem backM_nil {ty : Bs} {ms : List Bs} {run : Nat} (h : ty.length ≤ 65536) : backM ty ms run [] = (0, ty, ms) := by
  rcases snoc_cases ms with rfl | ⟨r, x, rfl⟩
  · rw [backM_none, if_neg (by simp), if_neg (by simp; omega)]; rfl
  · rw [backM_snoc]; rfl
theorem nextM_mac (ty : Bs) (ms : List Bs) (c : UInt8) (m : Bs) {run : Nat} (h : run < 256) : nextM ty (ms ++ [c :: m]) run = ((c, true, false), ty, (if m = [] then ms else ms ++ [m]), run + 1) := by
  unfold nextM
  rw [if_neg (by omega)]
  simp
theorem nextM_rest {ty : Bs} {ms : List Bs} {run : Nat} (h : 256 ≤ run ∨ ms = []) : nextM ty ms run = match ty with
    | c :: t => ((c, true, true), t, [], 0)
    | [] => ((0, false, false), [], [], run) := by
  have : (if 256 ≤ run then [] else ms) = [] := by
    rcases h with h | h
    · rw [if_pos h]
    · rw [h]; split <;> rfl
  unfold nextM
  rw [this]
  rfl
/-- Byte slices whose blocks lie apart. -/
def HE (w : World) : List Value → List Bs → List Nat → Prop
  | [], [], L => L = []
  | h :: hs, m :: ms, L => ∃ L1 L2, L = L1 ++ L2 ∧ BS w h m L1 ∧ HE w hs ms L2
  | _, _, _ => False
theorem HE.ch {w w' : World} {M : List Nat} (hc : Ch M w w') : ∀ {hs : List Value} {ms : List Bs} {L : List Nat}, HE w hs ms L → (∀ x, x ∈ L → x ∉ M) → HE w' hs ms L
  | [], [], L, h, _ => h
  | _ :: _, _ :: _, L, ⟨L1, L2, h1, h2, h4⟩, hd => ⟨L1, L2, h1, h2.ch hc (fun x hx => hd x (by simp [h1, hx])), HE.ch hc h4 (fun x hx => hd x (by simp [h1, hx]))⟩
  | [], _ :: _, _, h, _ => h.elim
  | _ :: _, [], _, h, _ => h.elim
theorem HE.lt {w : World} : ∀ {hs : List Value} {ms : List Bs} {L : List Nat}, HE w hs ms L → ∀ x, x ∈ L → x < w.heap.size
  | [], [], L, h, x, hx => by
    have : L = [] := h
    subst this; cases hx
  | _ :: _, _ :: _, L, ⟨L1, L2, h1, h2, h4⟩, x, hx => by
    subst h1
    rcases List.mem_append.1 hx with hx | hx
    · exact Own.lt h2 x hx
    · exact HE.lt h4 x hx
  | [], _ :: _, _, h, _, _ => h.elim
  | _ :: _, [], _, h, _, _ => h.elim
theorem HE.len {w : World} : ∀ {hs : List Value} {ms : List Bs} {L : List Nat}, HE w hs ms L → hs.length = ms.length
  | [], [], _, _ => rfl
  | _ :: _, _ :: _, _, ⟨_, _, _, _, h⟩ => by simp [HE.len h]
  | [], _ :: _, _, h => h.elim
  | _ :: _, [], _, h => h.elim
theorem HE.get {w : World} : ∀ {hs : List Value} {ms : List Bs} {L : List Nat}, HE w hs ms L → ∀ {i : Nat} {m : Bs}, ms[i]? = some m → ∃ h L1, hs[i]? = some h ∧ BS w h m L1 ∧ ∀ x, x ∈ L1 → x ∈ L
  | _ :: _, _ :: _, _, ⟨L1, L2, h1, h2, h4⟩, 0, m, hm => by
    simp at hm; subst hm
    exact ⟨_, L1, rfl, h2, fun x hx => by simp [h1, hx]⟩
  | _ :: _, _ :: _, _, ⟨L1, L2, h1, h2, h4⟩, i + 1, m, hm => by
    obtain ⟨h, L3, a1, a2, a3⟩ := HE.get h4 (i := i) (by simpa using hm)
    exact ⟨h, L3, by simpa using a1, a2, fun x hx => by simp [h1, a3 x hx]⟩
  | [], [], _, _, _, _, hm => by simp at hm
  | [], _ :: _, _, h, _, _, _ => h.elim
  | _ :: _, [], _, h, _, _, _ => h.elim
theorem HE.snoc {w : World} {h : Value} {m : Bs} {L1 : List Nat} (hb : BS w h m L1) : ∀ {hs : List Value} {ms : List Bs} {L : List Nat}, HE w hs ms L → HE w (hs ++ [h]) (ms ++ [m]) (L ++ L1)
  | [], [], L, hl => by
    have : L = [] := hl
    subst this
    exact ⟨L1, [], by simp, hb, rfl⟩
  | _ :: _, _ :: _, L, ⟨L2, L3, h1, h2, h4⟩ => ⟨L2, L3 ++ L1, by rw [h1, List.append_assoc], h2, HE.snoc hb h4⟩
  | [], _ :: _, _, h => h.elim
  | _ :: _, [], _, h => h.elim
theorem HE.unsnoc {w : World} {m : Bs} : ∀ {ms : List Bs} {hs : List Value} {L : List Nat}, HE w hs (ms ++ [m]) L → ∃ hs0 h L0 L1, hs = hs0 ++ [h] ∧ L = L0 ++ L1 ∧ HE w hs0 ms L0 ∧ BS w h m L1
  | [], [h], L, ⟨L1, L2, h1, h2, h4⟩ => ⟨[], h, [], L1, rfl, by
      have : L2 = [] := h4
      subst this
      simpa using h1, rfl, h2⟩
  | [], _ :: _ :: _, _, ⟨_, _, _, _, h⟩ => h.elim
  | [], [], _, h => h.elim
  | _ :: _, [], _, h => h.elim
  | x :: ms, y :: hs, L, ⟨L1, L2, h1, h2, h4⟩ => by
    obtain ⟨hs0, h, L0, L3, e1, e2, e3, e4⟩ := HE.unsnoc (ms := ms) h4
    exact ⟨y :: hs0, h, L1 ++ L0, L3, by rw [e1]; rfl, by rw [h1, e2, List.append_assoc], ⟨L1, L0, rfl, h2, e3⟩, e4⟩
theorem Hdrs.he {w : World} : ∀ {hs : List Value} {ms : List Bs} {L : List Nat}, Hdrs w hs ms L → HE w hs ms L ∧ ∀ m, m ∈ ms → m ≠ []
  | [], [], L, h => ⟨h, by simp⟩
  | _ :: _, _ :: _, L, ⟨L1, L2, h1, h2, h3, h4⟩ => ⟨⟨L1, L2, h1, h2, (Hdrs.he h4).1⟩, fun m hm => by
      rcases List.mem_cons.1 hm with rfl | hm
      · exact h3
      · exact (Hdrs.he h4).2 m hm⟩
  | [], _ :: _, _, h => h.elim
  | _ :: _, [], _, h => h.elim
theorem HE.hdrs {w : World} : ∀ {hs : List Value} {ms : List Bs} {L : List Nat}, HE w hs ms L → (∀ m, m ∈ ms → m ≠ []) → Hdrs w hs ms L
  | [], [], L, h, _ => h
  | _ :: _, _ :: _, L, ⟨L1, L2, h1, h2, h4⟩, hn => ⟨L1, L2, h1, h2, hn _ (by simp), HE.hdrs h4 (fun m hm => hn m (by simp [hm]))⟩
  | [], _ :: _, _, h, _ => h.elim
  | _ :: _, [], _, h, _ => h.elim
theorem bs2 (w : World) (A A' : Option Addr) (n c n' c' : Nat) : (Instr.buildSlice 32 2 #[(0, .slice A n c), (1, .slice A' n' c')]).run Try.prog w = .ok (.slice (some ⟨w.heap.size, 0, none⟩) 2 2) (w.alloc (.cells #[.slice A n c, .slice A' n' c'] 22)) := by kernel_rfl
section
variable {w : World} {K : Value → World → Prop}
/-- Concat of two. -/
theorem concat2_ {B1 B2 : Nat} {a b : Value} {xs ys : Bs} (ha : RB w B1 a xs) (hb : RB w B2 b ys) (h1 : B1 ≤ w.heap.size) (h2 : B2 ≤ w.heap.size) (hl : xs.length + ys.length ≤ 140737488355328)
    (H : World → Prop) (hH : ∀ w', Ch [] w w' → H w') (k : ∀ r w' L, BS w' r (xs ++ ys) L → Ch [] w w' → (∀ x, x ∈ L → w.heap.size ≤ x) → K r w') :
    S.v Try.prog (Instr.buildSlice 32 2 #[(0, a), (1, b)]) (fun t w => H w ∧ S.call Try.prog 44 [t] K w) w := by
  have ha0 := ha
  have hb0 := hb
  obtain ⟨A, c, rfl, _⟩ := ha.form
  obtain ⟨A', c', rfl, _⟩ := hb.form
  rw [v_eq (bs2 w _ _ _ _ _ _)]
  have hc := ch_alloc w (.cells #[.slice A xs.length c, .slice A' ys.length c'] 22)
  refine ⟨hH _ hc, ?_⟩
  have ho : Own (w.alloc (.cells #[.slice A xs.length c, .slice A' ys.length c'] 22)) 22 1 (.slice (some ⟨w.heap.size, 0, none⟩) 2 2) 2 [.slice A xs.length c, .slice A' ys.length c'] [w.heap.size] :=
    Own.fresh (n := 2) (sz := 1) (heap_alloc_new w _) rfl (by simp [maxLen])
  have hp : Parts (w.alloc (.cells #[.slice A xs.length c, .slice A' ys.length c'] 22)) (w.alloc (.cells #[.slice A xs.length c, .slice A' ys.length c'] 22)).heap.size (.slice (some ⟨w.heap.size, 0, none⟩) 2 2) [xs, ys] [.slice A xs.length c, .slice A' ys.length c'] := by
    refine ⟨ho.rd, fun i p hp => ?_⟩
    match i with
    | 0 =>
      simp at hp; subst hp
      exact ⟨_, rfl, Rd.mono (Rd.ch ha0 hc (by simp)) (Nat.le_trans h1 hc.size)⟩
    | 1 =>
      simp at hp; subst hp
      exact ⟨_, rfl, Rd.mono (Rd.ch hb0 hc (by simp)) (Nat.le_trans h2 hc.size)⟩
    | i + 2 => simp at hp
  refine concat_ hp (by simpa using hl) (Nat.le_refl _) fun r w2 L2 ho2 hc2 hl2 => ?_
  have hf : [xs, ys].flatten = xs ++ ys := by simp
  rw [hf] at ho2
  exact k r w2 L2 ho2 (hc.trans hc2 (by simp)) (fun x hx => Nat.le_trans hc.size (hl2 x hx))
theorem put2_ {b B : Nat} {ty bs : Bs} {ms : List Bs} {run : Nat} {L : List Nat} {src : Value} (hq : QAt w b ty ms run L) (hs : RB w B src bs) (hl : ty.length ≤ 65536) (hb : bs.length ≤ 9223372036854775807)
    (k : ∀ w' L', QAt w' b (putM ty bs).2 ms run L' → Ch L w w' → (∀ x, x ∈ L' → x ∈ L ∨ w.heap.size ≤ x) → K (I64 (putM ty bs).1) w') : S.call Try.prog 8 [PT b, src] K w := by
  refine put_ hq hs hl hb (fun w' L' h1 h2 h3 h4 => ?_) (fun h => ?_)
  · have e : putM ty bs = (0, ty ++ bs) := by unfold putM; rw [if_neg (by omega)]
    rw [e] at k
    exact k w' L' h1 h2 h3
  · have e : putM ty bs = (3, ty) := by unfold putM; rw [if_pos h]
    rw [e] at k
    exact k w L hq (Ch.refl _ _) (fun x hx => .inl hx)
theorem push2_ {b B : Nat} {ty bs : Bs} {ms : List Bs} {run : Nat} {L : List Nat} {src : Value} (hq : QAt w b ty ms run L) (hs : RB w B src bs) (hms : ms.length ≤ 16)
    (k : ∀ w' L', QAt w' b ty (pushM ms bs).2 run L' → Ch L w w' → (∀ x, x ∈ L' → x ∈ L ∨ w.heap.size ≤ x) → K (I64 (pushM ms bs).1) w') : S.call Try.prog 10 [PT b, src] K w := by
  refine push_ hq hs hms (fun w' L' h1 h2 h3 h4 h5 => ?_) (fun h => ?_) (fun h1 h2 => ?_)
  · have e : pushM ms bs = (0, if bs = [] then ms else ms ++ [bs]) := by unfold pushM; rw [if_neg (by omega), if_neg (by omega)]
    rw [e] at k
    exact k w' L' h1 h2 h3
  · have e : pushM ms bs = (3, ms) := by unfold pushM; rw [if_pos h]
    rw [e] at k
    exact k w L hq (Ch.refl _ _) (fun x hx => .inl hx)
  · have e : pushM ms bs = (6, ms) := by unfold pushM; rw [if_neg (by omega), if_pos (by omega)]
    rw [e] at k
    exact k w L hq (Ch.refl _ _) (fun x hx => .inl hx)
theorem next2_ {b : Nat} {ty : Bs} {ms : List Bs} {run : Nat} {L : List Nat} (hq : QAt w b ty ms run L)
    (k : ∀ w' L', QAt w' b (nextM ty ms run).2.1 (nextM ty ms run).2.2.1 (nextM ty ms run).2.2.2 L' → Ch L w w' → (∀ x, x ∈ L' → x ∈ L) → K (B3 (nextM ty ms run).1.1 (nextM ty ms run).1.2.1 (nextM ty ms run).1.2.2) w') : S.call Try.prog 9 [PT b] K w := by
  by_cases hr : 256 ≤ run ∨ ms = []
  · rw [nextM_rest hr] at k
    refine next_rest hq hr (fun w' L' c t ht h1 h2 h3 => ?_) (fun w' L' ht h1 h2 h3 => ?_)
    · subst ht; exact k w' L' h1 h2 h3
    · subst ht; exact k w' L' h1 h2 h3
  · have hr1 : run < 256 := by
      rcases Nat.lt_or_ge run 256 with h | h
      · exact h
      · exact absurd (.inl h) hr
    have hr2 : ms ≠ [] := fun e => hr (.inr e)
    rcases snoc_cases ms with rfl | ⟨r, x, rfl⟩
    · exact absurd rfl hr2
    · obtain ⟨tv, mv, hs, Lt, Lm, Lh, h1, h2, h3, h4, h5⟩ := hq.ex
      have hx := (Hdrs.he h4).2 x (by simp)
      match x, hx with
      | c :: m, _ =>
        rw [nextM_mac ty r c m hr1] at k
        exact next_mac hq hr1 k
theorem back_ {b B : Nat} {ty bs : Bs} {ms : List Bs} {run : Nat} {L : List Nat} {src : Value} (hq : QAt w b ty ms run L) (hs : RB w B src bs) (hB : B ≤ w.heap.size) (hl : ty.length ≤ 65536) (ht : total ms + bs.length ≤ 1099511627776)
    (k : ∀ w' L', QAt w' b (backM ty ms run bs).2.1 (backM ty ms run bs).2.2 run L' → Ch L w w' → (∀ x, x ∈ L' → x ∈ L ∨ w.heap.size ≤ x) → K (I64 (backM ty ms run bs).1) w') : S.call Try.prog 30 [PT b, src] K w := by
  obtain ⟨tv, mv, hs', Lt, Lm, Lh, h1, h2, h3, h4, h5⟩ := hq.ex
  subst h5
  have hs0 := hs
  have h2' := h2
  have h3' := h3
  obtain ⟨he, hne⟩ := Hdrs.he h4
  have hnd := hq.nodup
  have hlt := hq.lt
  obtain ⟨A, c, rfl, _⟩ := hs.form
  obtain ⟨Am, cm, rfl, hcm1, hcm2⟩ := h3.shape
  have hml : ms.length ≤ 9223372036854775807 := by simp only [maxLen] at hcm2; omega
  refine F30_link ?_
  unfold F30
  refine qnone h1 rfl ?_
  rw [br_false, nilC_v, fa_v fo55_1, ld_v sc32 (cells4 h1).2.1, len_v el32, sub_v, wrap_i64 (by omega) (by omega), len_v el22, eq_v]
  refine br_dec _ _ _ (fun h0 => ?_) (fun h0 => ?_)
  · have hb0 : bs = [] := List.eq_nil_of_length_eq_zero (by omega)
    subst hb0
    rw [backM_nil hl] at k
    exact k w _ hq (Ch.refl _ _) (fun x hx => .inl hx)
  have hbn : bs ≠ [] := fun e => h0 (by rw [e]; rfl)
  rw [ge_v]
  refine br_dec _ _ _ (fun hge => ?_) (fun hge => ?_)
  · rcases snoc_cases ms with rfl | ⟨r, m, rfl⟩
    · simp at hge
    rw [backM_snoc] at k
    obtain ⟨hs1, hh, L0, L1, rfl, rfl, he0, hbm⟩ := HE.unsnoc he
    have hrl : hs1.length = r.length := he0.len
    have hlen : (r ++ [m]).length = r.length + 1 := by simp
    rw [hlen] at h1 h3 h3'
    have htot : total (r ++ [m]) = total r + m.length := by rw [total_append]; simp [total]
    rw [htot] at ht
    refine drawn_ok fun w1 hc1 hs1' => ?_
    have h11 := hc1.at_ h1 (by simp)
    have h31 := h3'.ch hc1 (by simp)
    have h21 := Own.ch h2' hc1 (by simp)
    have hbm1 : BS w1 hh m L1 := Own.ch hbm hc1 (by simp)
    have he01 := he0.ch hc1 (by simp)
    obtain ⟨g, off, c1, hA, hLm, _⟩ := h31.some_ (by omega)
    injection hA with hA _ hA2
    subst hA hA2 hLm
    have hget : (hs1 ++ [hh])[r.length]? = some hh := by rw [← hrl]; simp
    have hgs : g < w.heap.size := hlt g (by simp)
    refine ⟨fun w' => Ch [] w1 w', Ch.refl _ _, ?_⟩
    have hi : ((r ++ [m]).length : Int) - 1 = r.length := by rw [hlen]; omega
    rw [hi]
    refine h_ok (x := PT b) (fun w' hw => run_nilC _) ?_
    refine h_ok (x := .pointer (some ⟨b, 1, none⟩)) (fun w' hw => run_fa fo55_1) ?_
    refine h_ok (x := .slice (some ⟨g, off, none⟩) (r.length + 1) cm) (fun w' hw => run_ld sc32 (cells4 (hw.at_ h11 (by simp))).2.1) ?_
    refine h_ok (x := PT b) (fun w' hw => run_nilC _) ?_
    refine h_ok (x := .pointer (some ⟨b, 1, none⟩)) (fun w' hw => run_fa fo55_1) ?_
    refine h_ok (x := .slice (some ⟨g, off, none⟩) (r.length + 1) cm) (fun w' hw => run_ld sc32 (cells4 (hw.at_ h11 (by simp))).2.1) ?_
    refine h_ok (x := .pointer (some ⟨g, off + r.length, none⟩)) (fun w' hw => by
      have := run_ia (P := Try.prog) (w := w') (g := g) (off := off) (c := cm) el32 .i64 (r.length : Int) (n := r.length + 1) (by omega) (by omega)
      rwa [Int.toNat_natCast, Nat.mul_one] at this) ?_
    refine h_ok (x := hh) (fun w' hw => run_ld sc22 (hw.cell (Own.cell h31 hget) (by simp))) ?_
    refine concat2_ (Rd.ch hs0 hc1 (by simp)) (Own.rd hbm1) (Nat.le_trans hB hc1.size) (Nat.le_refl _) (by omega) _ (fun w' h => h) fun v2 w2 L2 ho2 hc2 hl2 => ⟨hc2, ?_⟩
    refine h_ok (x := .pointer (some ⟨g, off + r.length, none⟩)) (fun w' hw => by
      have := run_ia (P := Try.prog) (w := w') (g := g) (off := off) (c := cm) el32 .i64 (r.length : Int) (n := r.length + 1) (by omega) (by omega)
      rwa [Int.toNat_natCast, Nat.mul_one] at this) ?_
    have ho2' := ho2
    obtain ⟨A2, c2, rfl, _⟩ := Own.shape ho2
    refine sto sc22 (h31.ch hc2 (by simp)) (by omega) rfl fun w3 ho3 hc3 hs3 => ?_
    have hset : (hs1 ++ [hh]).set r.length (.slice A2 (bs ++ m).length c2) = hs1 ++ [.slice A2 (bs ++ m).length c2] := by rw [← hrl]; simp
    rw [hset] at ho3
    have hc01 : Ch [] w w2 := hc1.trans hc2 (by simp)
    have hsz2 := hc01.size
    have hl2' : ∀ x, x ∈ L2 → w.heap.size ≤ x := fun x hx => by have := hl2 x hx; omega
    have hgb : b ≠ g := fun e => by subst e; simp at hnd
    have hdg : ∀ x, x ∈ Lt ++ L0 → x ≠ g := by
      intro x hx e
      subst e
      simp only [List.nodup_cons, List.mem_append, List.mem_cons, List.nodup_append, not_or] at hnd
      grind
    refine k w3 (b :: (Lt ++ ([g] ++ (L0 ++ L2)))) ⟨⟨tv, .slice (some ⟨g, off, none⟩) (r.length + 1) cm, hs1 ++ [.slice A2 (bs ++ m).length c2], Lt, [g], L0 ++ L2, ?_, ?_, ?_, ?_, rfl⟩, ?_⟩ ?_ ?_
    · exact hc3.at_ (hc2.at_ h11 (by simp)) (by simpa using hgb)
    · exact Own.ch (Own.ch h21 hc2 (by simp)) hc3 (fun x hx => by simpa using hdg x (by simp [hx]))
    · rw [show (r ++ [bs ++ m]).length = r.length + 1 from by simp]
      exact ho3
    · refine HE.hdrs (HE.snoc (Own.ch ho2' hc3 (fun x hx hm => by simp at hm; have := hl2' x hx; omega)) ((he01.ch hc2 (by simp)).ch hc3 (fun x hx => by simpa using hdg x (by simp [hx])))) ?_
      intro y hy
      rcases List.mem_append.1 hy with hy | hy
      · exact hne y (by simp [hy])
      · simp at hy; subst hy; simp [hbn]
    · have := nodup_swap (A := b :: (Lt ++ ([g] ++ L0))) (X := L1) (Y := L2) (B := []) (n := w.heap.size) (by simpa using hnd) (by simpa using hlt) ho2.nodup (fun x hx => .inr (hl2' x hx))
      simpa using this
    · exact (hc01.nil).trans hc3 (by simp)
    · intro x hx
      simp only [List.mem_cons, List.mem_append] at hx ⊢
      grind
  · rcases snoc_cases ms with rfl | ⟨r, m, rfl⟩
    · rw [backM_none] at k
      have hhs : hs' = [] := List.eq_nil_of_length_eq_zero (by rw [he.len]; rfl)
      subst hhs
      have hLh : Lh = [] := he
      subst hLh
      rw [nilC_v, fa_v fo55_2, ld_v sc3 (cells4 h1).2.2.1, gt_v]
      refine br_dec _ _ _ (fun hr => ?_) (fun hr => ?_)
      · rw [if_pos ⟨by omega, hbn⟩] at k
        refine bclone_ hs0 hB (by omega) fun v1 w1 L1 ho1 hc1 hl1 => ?_
        have ho1' := ho1
        obtain ⟨A1, c1, rfl, _⟩ := Own.shape ho1
        refine bs1 sl32 rfl rfl fun w2 ho2 hc2 hs2 => ?_
        have hc02 : Ch [] w w2 := hc1.trans hc2 (by simp)
        have h12 := hc02.at_ h1 (by simp)
        rw [nilC_v, fa_v fo55_1]
        refine st sc32 h12 (by simp) rfl fun w3 hb3 hc3 hs3 => ?_
        have hsz1 := hc1.size
        have hbw : b < w.heap.size := hlt b (by simp)
        have l1 := Own.lt ho1'
        refine k w3 (b :: (Lt ++ ([w1.heap.size] ++ L1))) ⟨⟨tv, _, [.slice A1 bs.length c1], Lt, [w1.heap.size], L1, hb3, ?_, ?_, ?_, rfl⟩, ?_⟩ ((hc02.nil).trans hc3 (by simp)) ?_
        · exact Own.ch (Own.ch h2' hc02 (by simp)) hc3 (fun x hx hm => by simp at hm; subst hm; simp at hnd; exact hnd.1.1 hx)
        · exact ho2.ch hc3 (by simp; omega)
        · exact ⟨L1, [], by simp, Own.ch (Own.ch ho1' hc2 (by simp)) hc3 (fun x hx hm => by simp at hm; have := hl1 x hx; omega), hbn, rfl⟩
        · have hn1 : ([w1.heap.size] ++ L1).Nodup := by
            simp only [List.singleton_append, List.nodup_cons]
            exact ⟨fun hm => by have := l1 _ hm; omega, ho1'.nodup⟩
          have := nodup_swap (A := b :: Lt) (X := Lm) (Y := [w1.heap.size] ++ L1) (B := []) (n := w.heap.size) (by simpa using hnd) (by simpa using hlt) hn1 (fun x hx => .inr (by
            simp only [List.singleton_append, List.mem_cons] at hx
            rcases hx with rfl | hx
            · omega
            · exact hl1 x hx))
          simpa using this
        · intro x hx
          simp only [List.mem_cons, List.mem_append, List.not_mem_nil, or_false] at hx ⊢
          rcases hx with rfl | hx | rfl | hx
          · exact .inl (.inl rfl)
          · exact .inl (.inr (.inl hx))
          · right; omega
          · right; exact hl1 x hx
      · rw [if_neg (by omega)] at k
        obtain ⟨At, ct, rfl, _⟩ := Own.shape h2
        rw [len_v el22]
        refine room_ h1 rfl rfl (by omega) (fun hle => ?_) (fun hgt => ?_)
        · rw [if_neg (by omega)] at k
          rw [ne_v, decide_eq_false (by simp), br_false, nilC_v, fa_v fo55_0, ld_v sc22 (cells4 h1).1]
          have hcc := concat2_ (K := fun t64 w => S.v Try.prog (S.nilC (PT b)) (fun t65 w => S.v Try.prog (Instr.fieldAt 55 t65 0) (fun t66 w => S.u Try.prog (Instr.storeAt 22 t66 t64) (fun w => K (I64 0) w) w) w) w) hs0 (Own.rd h2') hB (Nat.le_refl _) (by omega) (fun _ => True) (fun _ _ => trivial) fun v1 w1 L1 ho1 hc1 hl1 => by
            have h11 := hc1.at_ h1 (by simp)
            have ho1' := ho1
            obtain ⟨A1, c1, rfl, _⟩ := Own.shape ho1
            rw [nilC_v, fa_v fo55_0]
            refine st sc22 h11 (by simp) rfl fun w2 hb2 hc2 hs2 => ?_
            have hbw : b < w.heap.size := hlt b (by simp)
            refine k w2 (b :: (L1 ++ (Lm ++ []))) ⟨⟨_, _, [], L1, Lm, [], hb2, ?_, ?_, rfl, rfl⟩, ?_⟩ ((hc1.nil).trans hc2 (by simp)) ?_
            · exact Own.ch ho1' hc2 (fun x hx hm => by simp at hm; have := hl1 x hx; omega)
            · exact (h3'.ch hc1 (by simp)).ch hc2 (fun x hx hm => by simp at hm; subst hm; simp at hnd; exact hnd.1.2 hx)
            · exact nodup_swap (A := [b]) (X := Lt) (Y := L1) (B := Lm ++ []) (n := w.heap.size) hnd hlt ho1'.nodup (fun x hx => .inr (hl1 x hx))
            · intro x hx
              simp only [List.mem_cons, List.mem_append, List.not_mem_nil, or_false] at hx ⊢
              rcases hx with rfl | hx | hx
              · exact .inl (.inl rfl)
              · right; exact hl1 x hx
              · exact .inl (.inr (.inr hx))
          have hmono : ∀ {s : Sem Value} {K1 K2 : Value → World → Prop} {w : World}, S.v Try.prog s K1 w → (∀ x w', K1 x w' → K2 x w') → S.v Try.prog s K2 w := fun {s K1 K2 w} h hk => by
            unfold S.v at *
            generalize s.run Try.prog w = r at h ⊢
            cases r with
            | halt x w' => exact h
            | ok n w' => exact hk _ _ h
          exact hmono hcc (fun x w' h => h.2)
        · rw [if_pos hgt] at k
          rw [ne_v, decide_eq_true (by simp), br_true]
          exact k w _ hq (Ch.refl _ _) (fun x hx => .inl hx)
    · simp at hge
end
end Go.Proofs.Ythpbiliajcameaa
