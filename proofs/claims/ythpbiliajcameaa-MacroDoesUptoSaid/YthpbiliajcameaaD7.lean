import Derived.Test.YthpbiliajcameaaD6
set_option linter.unusedVariables false
set_option maxRecDepth 4000
namespace Go.Proofs.Ythpbiliajcameaa
open Go Go.Fw Go.Proofs Go.RowKit
def Good (w0 w : World) (xb p s T : Nat) : Prop := ∃ q r ty ms run now on last is sn Lq Lr Lp Ls, PSt w0 w xb q r p s ty ms run now on last is ty ms run sn on last is Lq Lr Lp Ls ∧ Inv ty ms now on sn T
theorem RAt.mem {w : World} {b : Nat} {now : Bs} {on : Bool} {last : Bs} {is : Bool} {L : List Nat} (h : RAt w b now on last is L) : b ∈ L := by
  obtain ⟨nv, Ln, h1, h2, h5⟩ := h.ex
  rw [h5]; simp
theorem RR.mem {w : World} {b : Nat} {now : Bs} {on : Bool} {last : Bs} {is : Bool} {L : List Nat} (h : RR w b now on last is L) : b ∈ L := by
  obtain ⟨nv, Ln, h1, h2, h5⟩ := h.ex
  rw [h5]; simp
set_option maxHeartbeats 1000000
section
variable {w0 w : World} {K : Value → World → Prop}
theorem step_ {B xb p s T : Nat} {v : Value} {bs : Bs} {n : Int} (hG : Good w0 w xb p s T) (hT : T + bs.length ≤ 1048576) (hs : RB w B v bs) (hB : B ≤ w0.heap.size)
    (k : ∀ w', Good w0 w' xb p s (T + bs.length) → K (.bool true) w') : S.call Try.prog 20 [PT xb, .agg #[I64 n, v]] K w := by
  obtain ⟨q, r, ty, ms, run, now, on, last, is, sn, Lq, Lr, Lp, Ls, hP, hI⟩ := hG
  have hs0 := hs
  obtain ⟨A, c, rfl, hAc1, hAc2, _⟩ := hs.form
  have hplt := hP.lt
  have hfr := hP.fr
  have hsz0 := hP.frs
  have a1 := hI.ty_
  have a2 := hI.ms_
  have a3 := hI.tot
  have a4 := hI.now_
  have hne := hI.ne
  generalize hLL : xb :: (Lq ++ (Lr ++ (Lp ++ Ls))) = LL at *
  have hqx : ∀ x, x ∈ Lq → x ∈ LL := fun x hx => by rw [← hLL]; simp [hx]
  have hrx : ∀ x, x ∈ Lr → x ∈ LL := fun x hx => by rw [← hLL]; simp [hx]
  have hpx : ∀ x, x ∈ Lp → x ∈ LL := fun x hx => by rw [← hLL]; simp [hx]
  have hsx : ∀ x, x ∈ Ls → x ∈ LL := fun x hx => by rw [← hLL]; simp [hx]
  have hno : ∀ x, x ∈ LL → x ≠ w.heap.size := fun x hx e => by have := hplt x hx; omega
  have hrb : ∀ w', Ch LL w w' → RB w' B (.slice A bs.length c) bs := fun w' hc => Rd.ch hs0 hc (fun x hx => Nat.le_trans hB (hfr x hx))
  refine F20_link ?_
  unfold F20
  refine Go.Fw.bx fun w1 hb1 hc1 hs1 => ?_
  have ob : w1.heap[w.heap.size]? = some (.cells #[I64 n, .slice A bs.length c] 51 (0, 0)) := hb1
  have P1 := hP.to0 hc1
  rw [fa_v fo51_0, ld_v sc3 (cells2 ob).1]
  rw [eq_v]
  refine br_dec _ _ _ (fun hdo => ?_) (fun hdo => ?_)
  · refine drawn_ok fun w2 hc2 hs2 => ?_
    have P2 := P1.to0 hc2
    have o2 := hc2.at_ ob (by simp)
    have hc02 : Ch [] w w2 := hc1.trans hc2 (by simp)
    refine ⟨fun w' => w'.heap[xb]? = some (.cells #[PT q, PT r, PT p, PT s] 49 (0, 0)) ∧ w'.heap[w.heap.size]? = some (.cells #[I64 n, .slice A bs.length c] 51 (0, 0)), ⟨P2.x, o2⟩, ?_⟩
    refine h_ok (x := PT xb) (fun w' hw => run_nilC _) ?_
    refine h_ok (x := PT xb) (fun w' hw => run_fa fo49_0) ?_
    refine h_ok (x := PT q) (fun w' hw => run_ld sc23 (cells4 hw.1).1) ?_
    refine h_ok (x := .pointer (some ⟨w.heap.size, 1, none⟩)) (fun w' hw => run_fa fo51_1) ?_
    refine h_ok (x := .slice A bs.length c) (fun w' hw => run_ld sc22 (cells2 hw.2).2) ?_
    refine h_ok (x := PT xb) (fun w' hw => run_nilC _) ?_
    refine h_ok (x := .pointer (some ⟨xb, 2, none⟩)) (fun w' hw => run_fa fo49_2) ?_
    refine h_ok (x := PT p) (fun w' hw => run_ld sc42 (cells4 hw.1).2.2.1) ?_
    refine h_ok (x := .pointer (some ⟨w.heap.size, 1, none⟩)) (fun w' hw => run_fa fo51_1) ?_
    refine h_ok (x := .slice A bs.length c) (fun w' hw => run_ld sc22 (cells2 hw.2).2) ?_
    refine put2_ P2.hq (hrb w2 hc02.nil) a1 (by omega) fun w3 L3 hq3 hc3 hl3 => ?_
    have P3 := P2.setQ hc3 hq3 hl3
    have o3 := hc3.at_ o2 (fun hm => hno _ (hqx _ hm) rfl)
    have hc03 : Ch LL w w3 := (hc02.nil).trans hc3 (fun x hx => .inl (hqx x hx))
    refine ⟨⟨P3.x, o3⟩, ?_⟩
    refine pput_ P3.hp (hrb w3 hc03) a1 (by omega) fun w4 L4 hp4 hc4 hl4 => ?_
    have P4 := P3.setP hc4 hp4 hl4
    refine ⟨⟨P4.x, hc4.at_ o3 (fun hm => hno _ (hpx _ hm) rfl)⟩, ?_⟩
    refine h_ok (x := .bool true) (fun w' hw => by rw [run_eq, decide_eq_true rfl]) ?_
    exact k w4 ⟨_, _, _, _, _, _, _, _, _, _, _, _, _, _, P4, (hI.put bs).mono (Nat.le_add_right _ _)⟩
  rw [eq_v]
  refine br_dec _ _ _ (fun hdo => ?_) (fun hdo => ?_)
  · refine drawn_ok fun w2 hc2 hs2 => ?_
    have P2 := P1.to0 hc2
    have o2 := hc2.at_ ob (by simp)
    have hc02 : Ch [] w w2 := hc1.trans hc2 (by simp)
    refine ⟨fun w' => w'.heap[xb]? = some (.cells #[PT q, PT r, PT p, PT s] 49 (0, 0)) ∧ w'.heap[w.heap.size]? = some (.cells #[I64 n, .slice A bs.length c] 51 (0, 0)), ⟨P2.x, o2⟩, ?_⟩
    refine h_ok (x := PT xb) (fun w' hw => run_nilC _) ?_
    refine h_ok (x := PT xb) (fun w' hw => run_fa fo49_0) ?_
    refine h_ok (x := PT q) (fun w' hw => run_ld sc23 (cells4 hw.1).1) ?_
    refine h_ok (x := .pointer (some ⟨w.heap.size, 1, none⟩)) (fun w' hw => run_fa fo51_1) ?_
    refine h_ok (x := .slice A bs.length c) (fun w' hw => run_ld sc22 (cells2 hw.2).2) ?_
    refine h_ok (x := PT xb) (fun w' hw => run_nilC _) ?_
    refine h_ok (x := .pointer (some ⟨xb, 2, none⟩)) (fun w' hw => run_fa fo49_2) ?_
    refine h_ok (x := PT p) (fun w' hw => run_ld sc42 (cells4 hw.1).2.2.1) ?_
    refine h_ok (x := .pointer (some ⟨w.heap.size, 1, none⟩)) (fun w' hw => run_fa fo51_1) ?_
    refine h_ok (x := .slice A bs.length c) (fun w' hw => run_ld sc22 (cells2 hw.2).2) ?_
    refine push2_ P2.hq (hrb w2 hc02.nil) a2 fun w3 L3 hq3 hc3 hl3 => ?_
    have P3 := P2.setQ hc3 hq3 hl3
    have o3 := hc3.at_ o2 (fun hm => hno _ (hqx _ hm) rfl)
    have hc03 : Ch LL w w3 := (hc02.nil).trans hc3 (fun x hx => .inl (hqx x hx))
    refine ⟨⟨P3.x, o3⟩, ?_⟩
    refine ppush_ P3.hp (hrb w3 hc03) (Nat.le_trans hB P3.frs) a2 hne (by omega) fun w4 L4 hp4 hc4 hl4 => ?_
    have P4 := P3.setP hc4 hp4 hl4
    refine ⟨⟨P4.x, hc4.at_ o3 (fun hm => hno _ (hpx _ hm) rfl)⟩, ?_⟩
    refine h_ok (x := .bool true) (fun w' hw => by rw [run_eq, decide_eq_true rfl]) ?_
    exact k w4 ⟨_, _, _, _, _, _, _, _, _, _, _, _, _, _, P4, hI.push bs⟩
  rw [eq_v]
  refine br_dec _ _ _ (fun hdo => ?_) (fun hdo => ?_)
  · refine drawn_ok fun w2 hc2 hs2 => ?_
    have P2 := P1.to0 hc2
    have o2 := hc2.at_ ob (by simp)
    have hc02 : Ch [] w w2 := hc1.trans hc2 (by simp)
    refine ⟨fun w' => w'.heap[xb]? = some (.cells #[PT q, PT r, PT p, PT s] 49 (0, 0)) ∧ w'.heap[w.heap.size]? = some (.cells #[I64 n, .slice A bs.length c] 51 (0, 0)), ⟨P2.x, o2⟩, ?_⟩
    refine h_ok (x := PT xb) (fun w' hw => run_nilC _) ?_
    refine h_ok (x := PT xb) (fun w' hw => run_fa fo49_0) ?_
    refine h_ok (x := PT q) (fun w' hw => run_ld sc23 (cells4 hw.1).1) ?_
    refine h_ok (x := .pointer (some ⟨w.heap.size, 1, none⟩)) (fun w' hw => run_fa fo51_1) ?_
    refine h_ok (x := .slice A bs.length c) (fun w' hw => run_ld sc22 (cells2 hw.2).2) ?_
    refine h_ok (x := PT xb) (fun w' hw => run_nilC _) ?_
    refine h_ok (x := .pointer (some ⟨xb, 2, none⟩)) (fun w' hw => run_fa fo49_2) ?_
    refine h_ok (x := PT p) (fun w' hw => run_ld sc42 (cells4 hw.1).2.2.1) ?_
    refine h_ok (x := .pointer (some ⟨w.heap.size, 1, none⟩)) (fun w' hw => run_fa fo51_1) ?_
    refine h_ok (x := .slice A bs.length c) (fun w' hw => run_ld sc22 (cells2 hw.2).2) ?_
    refine back_ P2.hq (hrb w2 hc02.nil) (Nat.le_trans hB P2.frs) a1 (by omega) fun w3 L3 hq3 hc3 hl3 => ?_
    have P3 := P2.setQ hc3 hq3 hl3
    have o3 := hc3.at_ o2 (fun hm => hno _ (hqx _ hm) rfl)
    have hc03 : Ch LL w w3 := (hc02.nil).trans hc3 (fun x hx => .inl (hqx x hx))
    refine ⟨⟨P3.x, o3⟩, ?_⟩
    refine pback_ P3.hp (hrb w3 hc03) a1 (by omega) (by omega) fun w4 L4 hp4 hc4 hl4 => ?_
    have P4 := P3.setP hc4 hp4 hl4
    refine ⟨⟨P4.x, hc4.at_ o3 (fun hm => hno _ (hpx _ hm) rfl)⟩, ?_⟩
    refine h_ok (x := .bool true) (fun w' hw => by rw [run_eq, decide_eq_true rfl]) ?_
    exact k w4 ⟨_, _, _, _, _, _, _, _, _, _, _, _, _, _, P4, hI.back run bs⟩
  rw [eq_v]
  refine br_dec _ _ _ (fun hdo => ?_) (fun hdo => ?_)
  · rw [nilC_v, fa_v fo49_0, ld_v sc23 (cells4 P1.x).1]
    refine next2_ P1.hq fun w2 L2 hq2 hc2 hl2 => ?_
    have P2 := P1.setQ hc2 hq2 (fun x hx => .inl (hl2 x hx))
    rw [x30, x31, x32, nilC_v, fa_v fo49_2, ld_v sc42 (cells4 P2.x).2.2.1]
    refine pnext_ P2.hp (by omega) hne fun w3 L3 hp3 hc3 hl3 => ?_
    have P3 := P2.setP hc3 hp3 hl3
    rw [x30, x31, x32, eqB, decide_eq_true rfl, br_true, eqb_v bt4, show ((nextM ty ms run).1.2.1 == (nextM ty ms run).1.2.1) = true from by simp, br_true, eqb_v bt4, show ((nextM ty ms run).1.2.2 == (nextM ty ms run).1.2.2) = true from by simp]
    exact k w3 ⟨_, _, _, _, _, _, _, _, _, _, _, _, _, _, P3, (hI.next run).mono (Nat.le_add_right _ _)⟩
  rw [eq_v]
  refine br_dec _ _ _ (fun hdo => ?_) (fun hdo => ?_)
  · refine drawn_ok fun w2 hc2 hs2 => ?_
    have P2 := P1.to0 hc2
    have o2 := hc2.at_ ob (by simp)
    have hc02 : Ch [] w w2 := hc1.trans hc2 (by simp)
    refine ⟨fun w' => w'.heap[xb]? = some (.cells #[PT q, PT r, PT p, PT s] 49 (0, 0)) ∧ w'.heap[w.heap.size]? = some (.cells #[I64 n, .slice A bs.length c] 51 (0, 0)), ⟨P2.x, o2⟩, ?_⟩
    refine h_ok (x := PT xb) (fun w' hw => run_nilC _) ?_
    refine h_ok (x := PT xb) (fun w' hw => run_fa fo49_0) ?_
    refine h_ok (x := PT q) (fun w' hw => run_ld sc23 (cells4 hw.1).1) ?_
    refine h_ok (x := PT xb) (fun w' hw => run_nilC _) ?_
    refine h_ok (x := .pointer (some ⟨xb, 2, none⟩)) (fun w' hw => run_fa fo49_2) ?_
    refine h_ok (x := PT p) (fun w' hw => run_ld sc42 (cells4 hw.1).2.2.1) ?_
    refine drop_ P2.hq (by omega) fun w3 L3 hq3 hc3 hl3 => ?_
    have P3 := P2.setQ hc3 hq3 (fun x hx => .inl (hl3 x hx))
    have o3 := hc3.at_ o2 (fun hm => hno _ (hqx _ hm) rfl)
    refine ⟨⟨P3.x, o3⟩, ?_⟩
    refine pdrop_ P3.hp (by omega) fun w4 L4 hp4 hc4 hl4 => ?_
    have P4 := P3.setP hc4 hp4 (fun x hx => .inl (hl4 x hx))
    refine ⟨⟨P4.x, hc4.at_ o3 (fun hm => hno _ (hpx _ hm) rfl)⟩, ?_⟩
    refine h_ok (x := .bool true) (fun w' hw => by rw [run_eq, decide_eq_true rfl]) ?_
    exact k w4 ⟨_, _, _, _, _, _, _, _, _, _, _, _, _, _, P4, hI.drop.mono (Nat.le_add_right _ _)⟩
  rw [eq_v]
  refine br_dec _ _ _ (fun hdo => ?_) (fun hdo => ?_)
  · refine drawn_ok fun w2 hc2 hs2 => ?_
    have P2 := P1.to0 hc2
    have o2 := hc2.at_ ob (by simp)
    have hc02 : Ch [] w w2 := hc1.trans hc2 (by simp)
    refine ⟨fun w' => w'.heap[xb]? = some (.cells #[PT q, PT r, PT p, PT s] 49 (0, 0)) ∧ w'.heap[w.heap.size]? = some (.cells #[I64 n, .slice A bs.length c] 51 (0, 0)), ⟨P2.x, o2⟩, ?_⟩
    refine h_ok (x := PT xb) (fun w' hw => run_nilC _) ?_
    refine h_ok (x := PT xb) (fun w' hw => run_fa fo49_0) ?_
    refine h_ok (x := PT q) (fun w' hw => run_ld sc23 (cells4 hw.1).1) ?_
    refine h_ok (x := PT xb) (fun w' hw => run_nilC _) ?_
    refine h_ok (x := .pointer (some ⟨xb, 1, none⟩)) (fun w' hw => run_fa fo49_1) ?_
    refine h_ok (x := PT r) (fun w' hw => run_ld sc33 (cells4 hw.1).2.1) ?_
    refine qclone_ P2.hq a1 a2 (by omega) fun w3 q' Lq' hq3 hc3 hl3 => ?_
    have P3 := P2.to0 hc3
    have o3 := hc3.at_ o2 (by simp)
    refine ⟨⟨P3.x, o3⟩, ?_⟩
    refine rclone_ P3.hr a4 fun w4 r' Lr' hr4 hc4 hl4 => ?_
    have P4 := P3.to0 hc4
    have o4 := hc4.at_ o3 (by simp)
    refine ⟨⟨P4.x, o4⟩, ?_⟩
    refine drawn_ok fun w5 hc5 hs5 => ?_
    have P5 := P4.to0 hc5
    have o5 := hc5.at_ o4 (by simp)
    have hc05 : Ch [] w w5 := ((hc02.trans hc3 (by simp)).trans hc4 (by simp)).trans hc5 (by simp)
    refine ⟨fun w' => w'.heap[xb]? = some (.cells #[PT q, PT r, PT p, PT s] 49 (0, 0)) ∧ w'.heap[w.heap.size]? = some (.cells #[I64 n, .slice A bs.length c] 51 (0, 0)), ⟨P5.x, o5⟩, ?_⟩
    refine h_ok (x := PT xb) (fun w' hw => run_nilC _) ?_
    refine h_ok (x := PT xb) (fun w' hw => run_fa fo49_0) ?_
    refine h_ok (x := PT q) (fun w' hw => run_ld sc23 (cells4 hw.1).1) ?_
    refine h_ok (x := .pointer (some ⟨w.heap.size, 1, none⟩)) (fun w' hw => run_fa fo51_1) ?_
    refine h_ok (x := .slice A bs.length c) (fun w' hw => run_ld sc22 (cells2 hw.2).2) ?_
    refine put2_ P5.hq (hrb w5 hc05.nil) a1 (by omega) fun w6 L6 hq6 hc6 hl6 => ?_
    have P6 := P5.setQ hc6 hq6 hl6
    have o6 := hc6.at_ o5 (fun hm => hno _ (hqx _ hm) rfl)
    refine ⟨⟨P6.x, o6⟩, ?_⟩
    rw [nilC_v, fa_v fo49_0, ld_v sc23 (cells4 P6.x).1]
    have hput := (hI.put bs).ty_
    refine drop_ P6.hq (by omega) fun w7 L7 hq7 hc7 hl7 => ?_
    have P7 := P6.setQ hc7 hq7 (fun x hx => .inl (hl7 x hx))
    have sz5 := hc05.size
    have ho1 : w.heap.size < w1.heap.size := by omega
    have hs15 : w1.heap.size ≤ w5.heap.size := by have := hc2.size; have := hc3.size; have := hc4.size; have := hc5.size; omega
    have o7 := hc7.at_ o6 (fun hm => by
      rcases hl6 _ hm with h | h
      · exact hno _ (hqx _ h) rfl
      · omega)
    refine drawn_ok fun w8 hc8 hs8 => ?_
    have P8 := P7.to0 hc8
    have o8 := hc8.at_ o7 (by simp)
    have hc58 : Ch Lq w5 w8 := ((hc6.trans hc7 (fun x hx => hl6 x hx)).trans hc8 (by simp))
    have hc08 : Ch LL w w8 := (hc05.nil).trans hc58 (fun x hx => .inl (hqx x hx))
    refine ⟨fun w' => w'.heap[xb]? = some (.cells #[PT q, PT r, PT p, PT s] 49 (0, 0)) ∧ w'.heap[w.heap.size]? = some (.cells #[I64 n, .slice A bs.length c] 51 (0, 0)), ⟨P8.x, o8⟩, ?_⟩
    refine h_ok (x := PT xb) (fun w' hw => run_nilC _) ?_
    refine h_ok (x := .pointer (some ⟨xb, 1, none⟩)) (fun w' hw => run_fa fo49_1) ?_
    refine h_ok (x := PT r) (fun w' hw => run_ld sc33 (cells4 hw.1).2.1) ?_
    refine h_ok (x := .pointer (some ⟨w.heap.size, 1, none⟩)) (fun w' hw => run_fa fo51_1) ?_
    refine h_ok (x := .slice A bs.length c) (fun w' hw => run_ld sc22 (cells2 hw.2).2) ?_
    have fin : ∀ w9, Ch Lr w8 w9 → w9.heap[xb]? = some (.cells #[PT q, PT r, PT p, PT s] 49 (0, 0)) → S.v Try.prog (S.nilC (PT xb)) (fun t147 w => S.v Try.prog (Instr.fieldAt 49 t147 0) (fun t148 w => S.u Try.prog (Instr.storeAt 23 t148 (PT q')) (fun w => S.v Try.prog (S.nilC (PT xb)) (fun t149 w => S.v Try.prog (Instr.fieldAt 49 t149 1) (fun t150 w => S.u Try.prog (Instr.storeAt 33 t150 (PT r')) (fun w => S.v Try.prog (S.bin .neq 23 (.tmp 151) (.const (.pointer none)) (PT q') (.pointer none))
        (fun t152 w => br t152 (S.v Try.prog (S.bin .neq 33 (.tmp 154) (.const (.pointer none)) (PT r') (.pointer none)) (fun t155 w => K t155 w) w) (K (.bool false) w)) w) w) w) w) w) w) w9 := by
      intro w9 hc9 hx9
      rw [nilC_v, fa_v fo49_0]
      refine st sc23 hx9 (by simp) rfl fun w10 hb10 hc10 hs10 => ?_
      rw [nilC_v, fa_v fo49_1]
      refine st sc33 hb10 (by simp) rfl fun w11 hb11 hc11 hs11 => ?_
      rw [nen_v pt23, Option.isSome_some, br_true, nen_v pt33, Option.isSome_some]
      have hxx : xb ∈ LL := by rw [← hLL]; simp
      have hc811 : Ch (xb :: Lr) w8 w11 := ((hc9.mono (L' := xb :: Lr) (fun x hx => .inl (by simp [hx]))).trans hc10 (by simp)).trans hc11 (by simp)
      have hc511 : Ch (xb :: (Lq ++ Lr)) w5 w11 := (hc58.mono (L' := xb :: (Lq ++ Lr)) (fun x hx => .inl (by simp [hx]))).trans hc811 (fun x hx => .inl (by simp only [List.mem_cons, List.mem_append] at hx ⊢; grind))
      have hbelow : ∀ x, x ∈ xb :: (Lq ++ Lr) → x ∈ LL := fun x hx => by
        rw [← hLL]
        simp only [List.mem_cons, List.mem_append] at hx ⊢
        grind
      have hc411 : Ch (xb :: (Lq ++ Lr)) w4 w11 := (hc5.nil).trans hc511 (fun x hx => .inl hx)
      have hc311 : Ch (xb :: (Lq ++ Lr)) w3 w11 := (hc4.nil).trans hc411 (fun x hx => .inl hx)
      have hc011 : Ch (xb :: (Lq ++ Lr)) w w11 := (hc05.nil).trans hc511 (fun x hx => .inl hx)
      have sz2 := hc02.size
      have sz3 := hc3.size
      have hd := hP.dis
      have hq11 := hq3.ch hc311 (fun x hx hm => by have := hl3 x hx; have := hplt x (hbelow x hm); omega)
      have hr11 := hr4.ch hc411 (fun x hx hm => by have := hl4 x hx; have := hplt x (hbelow x hm); omega)
      have hp11 := hP.hp.ch hc011 (fun x hx hm => by
        simp only [List.mem_cons, List.mem_append] at hm
        rcases hm with rfl | hm | hm
        · exact hd.1.2.2.1 hx
        · exact (hd.2.2.2.1 x hx).1 hm
        · exact (hd.2.2.2.1 x hx).2.1 hm)
      have hs11' := hP.hs.ch hc011 (fun x hx hm => by
        simp only [List.mem_cons, List.mem_append] at hm
        rcases hm with rfl | hm | hm
        · exact hd.1.2.2.2 hx
        · exact (hd.2.2.2.2 x hx).1 hm
        · exact (hd.2.2.2.2 x hx).2.1 hm)
      have l3 := hq3.lt
      have l4 := hr4.lt
      refine k w11 ⟨q', r', ty, ms, run, now, on, last, is, sn, Lq', Lr', Lp, Ls, ⟨hb11, hq11, hr11, hp11, hs11', ?_, ?_, hP.ch.trans hc011 (fun x hx => .inr (hfr x (hbelow x hx)))⟩, hI.mono (Nat.le_add_right _ _)⟩
      · have n0 := hP.nd
        have n1 := nodup_swap (A := [xb]) (X := Lq) (Y := Lq') (B := Lr ++ (Lp ++ Ls)) (n := w2.heap.size) n0 (fun x hx => by
          have := hplt x (by rw [← hLL]; exact hx)
          omega) hq3.nodup (fun x hx => .inr (hl3 x hx))
        have n2 := nodup_swap (A := xb :: Lq') (X := Lr) (Y := Lr') (B := Lp ++ Ls) (n := w3.heap.size) (by simpa using n1) (fun x hx => by
          simp only [List.cons_append, List.mem_cons, List.mem_append] at hx
          have hl : x ∈ Lq' ∨ x ∈ LL := by
            rw [← hLL]
            simp only [List.mem_cons, List.mem_append]
            grind
          rcases hl with h | h
          · exact l3 x h
          · have := hplt x h; omega) hr4.nodup (fun x hx => .inr (hl4 x hx))
        simpa using n2
      · intro x hx
        have hl : x ∈ Lq' ∨ x ∈ Lr' ∨ x ∈ LL := by
          rw [← hLL]
          simp only [List.mem_cons, List.mem_append] at hx ⊢
          grind
        rcases hl with h | h | h
        · have := hl3 x h; omega
        · have := hl4 x h; omega
        · exact hfr x h
    have hxr : ∀ w9, Ch Lr w8 w9 → w9.heap[xb]? = some (.cells #[PT q, PT r, PT p, PT s] 49 (0, 0)) ∧ w9.heap[w.heap.size]? = some (.cells #[I64 n, .slice A bs.length c] 51 (0, 0)) := fun w9 hc9 =>
      ⟨hc9.at_ P8.x P8.dis.1.2.1, hc9.at_ o8 (fun hm => hno _ (hrx _ hm) rfl)⟩
    refine rput_ P8.hr (hrb w8 hc08) a4 (by omega) (fun _ => ?_) (fun _ w9 L9 _ hc9 _ _ => ?_) (fun _ w9 L9 _ hc9 _ _ => ?_)
    · exact ⟨hxr w8 (Ch.refl _ _), fin w8 (Ch.refl _ _) P8.x⟩
    · exact ⟨hxr w9 hc9, fin w9 hc9 (hxr w9 hc9).1⟩
    · exact ⟨hxr w9 hc9, fin w9 hc9 (hxr w9 hc9).1⟩
  rw [eq_v]
  refine br_dec _ _ _ (fun hdo => ?_) (fun hdo => ?_)
  · refine drawn_ok fun w2 hc2 hs2 => ?_
    have P2 := P1.to0 hc2
    have o2 := hc2.at_ ob (by simp)
    have hc02 : Ch [] w w2 := hc1.trans hc2 (by simp)
    refine ⟨fun w' => w'.heap[xb]? = some (.cells #[PT q, PT r, PT p, PT s] 49 (0, 0)) ∧ w'.heap[w.heap.size]? = some (.cells #[I64 n, .slice A bs.length c] 51 (0, 0)), ⟨P2.x, o2⟩, ?_⟩
    refine h_ok (x := PT xb) (fun w' hw => run_nilC _) ?_
    refine h_ok (x := .pointer (some ⟨xb, 1, none⟩)) (fun w' hw => run_fa fo49_1) ?_
    refine h_ok (x := PT r) (fun w' hw => run_ld sc33 (cells4 hw.1).2.1) ?_
    refine h_ok (x := PT xb) (fun w' hw => run_nilC _) ?_
    refine h_ok (x := .pointer (some ⟨xb, 3, none⟩)) (fun w' hw => run_fa fo49_3) ?_
    refine h_ok (x := PT s) (fun w' hw => run_ld sc45 (cells4 hw.1).2.2.2) ?_
    refine start_ P2.hr (fun ho w3 hr3 hc3 => ?_) (fun ho => ?_)
    · have P3 := P2.setR hc3 hr3 (fun x hx => .inl (by simp at hx; subst hx; exact P2.hr.mem))
      have o3 := hc3.at_ o2 (fun hm => hno _ (hrx _ hm) rfl)
      refine ⟨⟨P3.x, o3⟩, ?_⟩
      refine sstart_ P3.hs (fun _ w4 hs4 hc4 => ?_) (fun h => by rw [ho] at h; cases h)
      have P4 := P3.setS hc4 hs4 (fun x hx => .inl (by simp at hx; subst hx; exact P3.hs.mem))
      refine ⟨⟨P4.x, hc4.at_ o3 (fun hm => hno _ (hsx _ hm) rfl)⟩, ?_⟩
      refine h_ok (x := .bool true) (fun w' hw => by rw [run_eq, decide_eq_true rfl]) ?_
      exact k w4 ⟨_, _, _, _, _, _, _, _, _, _, _, _, _, _, P4, ⟨a1, a2, hne, Nat.le_trans a3 (Nat.le_add_right _ _), (by simp), (fun _ => rfl)⟩⟩
    · refine ⟨⟨P2.x, o2⟩, ?_⟩
      refine sstart_ P2.hs (fun h => by rw [ho] at h; cases h) (fun _ => ?_)
      refine ⟨⟨P2.x, o2⟩, ?_⟩
      refine h_ok (x := .bool true) (fun w' hw => by rw [run_eq, decide_eq_true rfl]) ?_
      exact k w2 ⟨_, _, _, _, _, _, _, _, _, _, _, _, _, _, P2, hI.mono (Nat.le_add_right _ _)⟩
  rw [eq_v]
  refine br_dec _ _ _ (fun hdo => ?_) (fun hdo => ?_)
  · refine drawn_ok fun w2 hc2 hs2 => ?_
    have P2 := P1.to0 hc2
    have o2 := hc2.at_ ob (by simp)
    have hc02 : Ch [] w w2 := hc1.trans hc2 (by simp)
    refine ⟨fun w' => w'.heap[xb]? = some (.cells #[PT q, PT r, PT p, PT s] 49 (0, 0)) ∧ w'.heap[w.heap.size]? = some (.cells #[I64 n, .slice A bs.length c] 51 (0, 0)), ⟨P2.x, o2⟩, ?_⟩
    refine h_ok (x := PT xb) (fun w' hw => run_nilC _) ?_
    refine h_ok (x := .pointer (some ⟨xb, 1, none⟩)) (fun w' hw => run_fa fo49_1) ?_
    refine h_ok (x := PT r) (fun w' hw => run_ld sc33 (cells4 hw.1).2.1) ?_
    refine h_ok (x := PT xb) (fun w' hw => run_nilC _) ?_
    refine h_ok (x := .pointer (some ⟨xb, 3, none⟩)) (fun w' hw => run_fa fo49_3) ?_
    refine h_ok (x := PT s) (fun w' hw => run_ld sc45 (cells4 hw.1).2.2.2) ?_
    refine end_ P2.hr (fun ho => ?_) (fun ho w3 hr3 hc3 => ?_)
    · refine ⟨⟨P2.x, o2⟩, ?_⟩
      refine send_ P2.hs (fun _ => ?_) (fun h => by rw [ho] at h; cases h)
      refine ⟨⟨P2.x, o2⟩, ?_⟩
      refine h_ok (x := .bool true) (fun w' hw => by rw [run_eq, decide_eq_true rfl]) ?_
      exact k w2 ⟨_, _, _, _, _, _, _, _, _, _, _, _, _, _, P2, hI.mono (Nat.le_add_right _ _)⟩
    · have P3 := P2.setR hc3 hr3 (fun x hx => .inl (by simp at hx; subst hx; exact P2.hr.mem))
      have o3 := hc3.at_ o2 (fun hm => hno _ (hrx _ hm) rfl)
      refine ⟨⟨P3.x, o3⟩, ?_⟩
      refine send_ P3.hs (fun h => by rw [ho] at h; cases h) (fun _ w4 hs4 hc4 => ?_)
      rw [hI.eq ho] at hs4
      have P4 := P3.setS hc4 hs4 (fun x hx => .inl hx)
      refine ⟨⟨P4.x, hc4.at_ o3 (fun hm => hno _ (hsx _ hm) rfl)⟩, ?_⟩
      refine h_ok (x := .bool true) (fun w' hw => by rw [run_eq, decide_eq_true rfl]) ?_
      exact k w4 ⟨_, _, _, _, _, _, _, _, _, _, _, _, _, _, P4, ⟨a1, a2, hne, Nat.le_trans a3 (Nat.le_add_right _ _), (by simp), (fun h => by cases h)⟩⟩
  rw [eq_v]
  refine br_dec _ _ _ (fun hdo => ?_) (fun hdo => ?_)
  · refine drawn_ok fun w2 hc2 hs2 => ?_
    have P2 := P1.to0 hc2
    have o2 := hc2.at_ ob (by simp)
    have hc02 : Ch [] w w2 := hc1.trans hc2 (by simp)
    refine ⟨fun w' => w'.heap[xb]? = some (.cells #[PT q, PT r, PT p, PT s] 49 (0, 0)) ∧ w'.heap[w.heap.size]? = some (.cells #[I64 n, .slice A bs.length c] 51 (0, 0)), ⟨P2.x, o2⟩, ?_⟩
    refine h_ok (x := PT xb) (fun w' hw => run_nilC _) ?_
    refine h_ok (x := .pointer (some ⟨xb, 1, none⟩)) (fun w' hw => run_fa fo49_1) ?_
    refine h_ok (x := PT r) (fun w' hw => run_ld sc33 (cells4 hw.1).2.1) ?_
    refine h_ok (x := .pointer (some ⟨w.heap.size, 1, none⟩)) (fun w' hw => run_fa fo51_1) ?_
    refine h_ok (x := .slice A bs.length c) (fun w' hw => run_ld sc22 (cells2 hw.2).2) ?_
    refine h_ok (x := PT xb) (fun w' hw => run_nilC _) ?_
    refine h_ok (x := .pointer (some ⟨xb, 3, none⟩)) (fun w' hw => run_fa fo49_3) ?_
    refine h_ok (x := PT s) (fun w' hw => run_ld sc45 (cells4 hw.1).2.2.2) ?_
    refine h_ok (x := .pointer (some ⟨w.heap.size, 1, none⟩)) (fun w' hw => run_fa fo51_1) ?_
    refine h_ok (x := .slice A bs.length c) (fun w' hw => run_ld sc22 (cells2 hw.2).2) ?_
    refine rput_ P2.hr (hrb w2 hc02.nil) a4 (by omega) (fun ho => ?_) (fun ho w3 L3 hr3 hc3 hl3 hle => ?_) (fun ho w3 L3 hr3 hc3 hl3 hgt => ?_)
    · refine ⟨⟨P2.x, o2⟩, ?_⟩
      refine sput_ P2.hs (hrb w2 hc02.nil) (Nat.le_trans hB P2.frs) (fun h => by rw [ho] at h; cases h) (by omega) (fun _ => ?_) (fun h => by rw [ho] at h; cases h) (fun h => by rw [ho] at h; cases h)
      refine ⟨⟨P2.x, o2⟩, ?_⟩
      refine h_ok (x := .bool true) (fun w' hw => by rw [run_eq, decide_eq_true rfl]) ?_
      exact k w2 ⟨_, _, _, _, _, _, _, _, _, _, _, _, _, _, P2, hI.mono (Nat.le_add_right _ _)⟩
    · have P3 := P2.setR hc3 hr3 hl3
      have o3 := hc3.at_ o2 (fun hm => hno _ (hrx _ hm) rfl)
      have hc03 : Ch LL w w3 := (hc02.nil).trans hc3 (fun x hx => .inl (hrx x hx))
      have hsn := hI.eq ho
      refine ⟨⟨P3.x, o3⟩, ?_⟩
      refine sput_ P3.hs (hrb w3 hc03) (Nat.le_trans hB P3.frs) (fun _ => by rw [hsn]; exact a4) (by omega) (fun h => by rw [ho] at h; cases h) (fun _ w4 L4 hs4 hc4 hl4 _ => ?_) (fun _ w4 _ _ hgt => by rw [hsn] at hgt; omega)
      rw [hsn] at hs4
      have P4 := P3.setS hc4 hs4 hl4
      refine ⟨⟨P4.x, hc4.at_ o3 (fun hm => hno _ (hsx _ hm) rfl)⟩, ?_⟩
      refine h_ok (x := .bool true) (fun w' hw => by rw [run_eq, decide_eq_true rfl]) ?_
      exact k w4 ⟨_, _, _, _, _, _, _, _, _, _, _, _, _, _, P4, ⟨a1, a2, hne, Nat.le_trans a3 (Nat.le_add_right _ _), (by simp; omega), (fun _ => rfl)⟩⟩
    · have P3 := P2.setR hc3 hr3 hl3
      have o3 := hc3.at_ o2 (fun hm => hno _ (hrx _ hm) rfl)
      have hc03 : Ch LL w w3 := (hc02.nil).trans hc3 (fun x hx => .inl (hrx x hx))
      have hsn := hI.eq ho
      refine ⟨⟨P3.x, o3⟩, ?_⟩
      refine sput_ P3.hs (hrb w3 hc03) (Nat.le_trans hB P3.frs) (fun _ => by rw [hsn]; exact a4) (by omega) (fun h => by rw [ho] at h; cases h) (fun _ w4 _ _ _ _ hle => by rw [hsn] at hle; omega) (fun _ w4 hs4 hc4 _ => ?_)
      have P4 := P3.setS hc4 hs4 (fun x hx => .inl hx)
      refine ⟨⟨P4.x, hc4.at_ o3 (fun hm => hno _ (hsx _ hm) rfl)⟩, ?_⟩
      refine h_ok (x := .bool true) (fun w' hw => by rw [run_eq, decide_eq_true rfl]) ?_
      exact k w4 ⟨_, _, _, _, _, _, _, _, _, _, _, _, _, _, P4, ⟨a1, a2, hne, Nat.le_trans a3 (Nat.le_add_right _ _), (by simp), (fun h => by cases h)⟩⟩
  rw [eq_v]
  refine br_dec _ _ _ (fun hdo => ?_) (fun hdo => ?_)
  · refine drawn_ok fun w2 hc2 hs2 => ?_
    have P2 := P1.to0 hc2
    have o2 := hc2.at_ ob (by simp)
    have hc02 : Ch [] w w2 := hc1.trans hc2 (by simp)
    refine ⟨fun w' => w'.heap[xb]? = some (.cells #[PT q, PT r, PT p, PT s] 49 (0, 0)) ∧ w'.heap[w.heap.size]? = some (.cells #[I64 n, .slice A bs.length c] 51 (0, 0)), ⟨P2.x, o2⟩, ?_⟩
    refine h_ok (x := PT xb) (fun w' hw => run_nilC _) ?_
    refine h_ok (x := .pointer (some ⟨xb, 1, none⟩)) (fun w' hw => run_fa fo49_1) ?_
    refine h_ok (x := PT r) (fun w' hw => run_ld sc33 (cells4 hw.1).2.1) ?_
    refine h_ok (x := PT xb) (fun w' hw => run_nilC _) ?_
    refine h_ok (x := .pointer (some ⟨xb, 3, none⟩)) (fun w' hw => run_fa fo49_3) ?_
    refine h_ok (x := PT s) (fun w' hw => run_ld sc45 (cells4 hw.1).2.2.2) ?_
    refine cancel_ P2.hr (fun ho => ?_) (fun ho w3 hr3 hc3 => ?_)
    · refine ⟨⟨P2.x, o2⟩, ?_⟩
      refine scancel_ P2.hs (fun _ => ?_) (fun h => by rw [ho] at h; cases h)
      refine ⟨⟨P2.x, o2⟩, ?_⟩
      refine h_ok (x := .bool true) (fun w' hw => by rw [run_eq, decide_eq_true rfl]) ?_
      exact k w2 ⟨_, _, _, _, _, _, _, _, _, _, _, _, _, _, P2, hI.mono (Nat.le_add_right _ _)⟩
    · have P3 := P2.setR hc3 hr3 (fun x hx => .inl (by simp at hx; subst hx; exact P2.hr.mem))
      have o3 := hc3.at_ o2 (fun hm => hno _ (hrx _ hm) rfl)
      refine ⟨⟨P3.x, o3⟩, ?_⟩
      refine scancel_ P3.hs (fun h => by rw [ho] at h; cases h) (fun _ w4 hs4 hc4 => ?_)
      have P4 := P3.setS hc4 hs4 (fun x hx => .inl hx)
      refine ⟨⟨P4.x, hc4.at_ o3 (fun hm => hno _ (hsx _ hm) rfl)⟩, ?_⟩
      refine h_ok (x := .bool true) (fun w' hw => by rw [run_eq, decide_eq_true rfl]) ?_
      exact k w4 ⟨_, _, _, _, _, _, _, _, _, _, _, _, _, _, P4, ⟨a1, a2, hne, Nat.le_trans a3 (Nat.le_add_right _ _), (by simp), (fun h => by cases h)⟩⟩
  exact k w1 ⟨_, _, _, _, _, _, _, _, _, _, _, _, _, _, P1, hI.mono (Nat.le_add_right _ _)⟩
end
end Go.Proofs.Ythpbiliajcameaa
