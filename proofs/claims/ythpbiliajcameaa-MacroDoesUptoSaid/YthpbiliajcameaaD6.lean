import Derived.Test.YthpbiliajcameaaD5
set_option linter.unusedVariables false
set_option maxRecDepth 4000
namespace Go.Proofs.Ythpbiliajcameaa
open Go Go.Fw Go.Proofs Go.RowKit
/-! ### The pair -/
structure PSt (w0 w : World) (bx q r p s : Nat) (ty : Bs) (ms : List Bs) (run : Nat) (now : Bs) (on : Bool) (last : Bs) (is : Bool) (ty2 : Bs) (ms2 : List Bs) (run2 : Nat) (sn : Bs) (on2 : Bool) (last2 : Bs) (is2 : Bool) (Lq Lr Lp Ls : List Nat) : Prop where
  x : w.heap[bx]? = some (.cells #[PT q, PT r, PT p, PT s] 49 (0, 0))
  hq : QAt w q ty ms run Lq
  hr : RAt w r now on last is Lr
  hp : RQ w p ty2 ms2 run2 Lp
  hs : RR w s sn on2 last2 is2 Ls
  nd : (bx :: (Lq ++ (Lr ++ (Lp ++ Ls)))).Nodup
  fr : ∀ x, x ∈ bx :: (Lq ++ (Lr ++ (Lp ++ Ls))) → w0.heap.size ≤ x
  ch : Ch [] w0 w
section
variable {w0 w w' : World} {bx q r p s : Nat} {ty ty2 now last sn last2 ty' now' last' : Bs} {ms ms2 ms' : List Bs} {run run2 run' : Nat} {on is on2 is2 on' is' : Bool} {Lq Lr Lp Ls L' : List Nat}
theorem PSt.lt (h : PSt w0 w bx q r p s ty ms run now on last is ty2 ms2 run2 sn on2 last2 is2 Lq Lr Lp Ls) : ∀ x, x ∈ bx :: (Lq ++ (Lr ++ (Lp ++ Ls))) → x < w.heap.size := by
  intro x hx
  simp only [List.mem_cons, List.mem_append] at hx
  rcases hx with rfl | hx | hx | hx | hx
  · exact lt_of_heap h.x
  · exact h.hq.lt x hx
  · exact h.hr.lt x hx
  · exact h.hp.lt x hx
  · exact h.hs.lt x hx
theorem PSt.to0 (h : PSt w0 w bx q r p s ty ms run now on last is ty2 ms2 run2 sn on2 last2 is2 Lq Lr Lp Ls) (hc : Ch [] w w') : PSt w0 w' bx q r p s ty ms run now on last is ty2 ms2 run2 sn on2 last2 is2 Lq Lr Lp Ls :=
  ⟨hc.at_ h.x (by simp), h.hq.ch hc (by simp), h.hr.ch hc (by simp), h.hp.ch hc (by simp), h.hs.ch hc (by simp), h.nd, h.fr, h.ch.trans hc (by simp)⟩
theorem PSt.dis (h : PSt w0 w bx q r p s ty ms run now on last is ty2 ms2 run2 sn on2 last2 is2 Lq Lr Lp Ls) : (bx ∉ Lq ∧ bx ∉ Lr ∧ bx ∉ Lp ∧ bx ∉ Ls) ∧ (∀ x, x ∈ Lq → x ∉ Lr ∧ x ∉ Lp ∧ x ∉ Ls) ∧ (∀ x, x ∈ Lr → x ∉ Lq ∧ x ∉ Lp ∧ x ∉ Ls) ∧ (∀ x, x ∈ Lp → x ∉ Lq ∧ x ∉ Lr ∧ x ∉ Ls) ∧ (∀ x, x ∈ Ls → x ∉ Lq ∧ x ∉ Lr ∧ x ∉ Lp) := by
  have nd := h.nd
  simp only [List.nodup_cons, List.mem_append, List.nodup_append, not_or] at nd
  obtain ⟨⟨a1, a2, a3, a4⟩, b1, ⟨c1, ⟨d1, d2, d3⟩, c3⟩, b3⟩ := nd
  refine ⟨⟨a1, a2, a3, a4⟩, fun x hx => ⟨fun hm => b3 x hx x (.inl hm) rfl, fun hm => b3 x hx x (.inr (.inl hm)) rfl, fun hm => b3 x hx x (.inr (.inr hm)) rfl⟩, fun x hx => ⟨fun hm => b3 x hm x (.inl hx) rfl, fun hm => c3 x hx x (.inl hm) rfl, fun hm => c3 x hx x (.inr hm) rfl⟩,
    fun x hx => ⟨fun hm => b3 x hm x (.inr (.inl hx)) rfl, fun hm => c3 x hm x (.inl hx) rfl, fun hm => d3 x hx x hm rfl⟩, fun x hx => ⟨fun hm => b3 x hm x (.inr (.inr hx)) rfl, fun hm => c3 x hm x (.inr hx) rfl, fun hm => d3 x hm x hx rfl⟩⟩
theorem PSt.frs (h : PSt w0 w bx q r p s ty ms run now on last is ty2 ms2 run2 sn on2 last2 is2 Lq Lr Lp Ls) : w0.heap.size ≤ w.heap.size := h.ch.size
theorem PSt.setQ (h : PSt w0 w bx q r p s ty ms run now on last is ty2 ms2 run2 sn on2 last2 is2 Lq Lr Lp Ls) (hc : Ch Lq w w') (hq' : QAt w' q ty' ms' run' L') (hl : ∀ x, x ∈ L' → x ∈ Lq ∨ w.heap.size ≤ x) : PSt w0 w' bx q r p s ty' ms' run' now on last is ty2 ms2 run2 sn on2 last2 is2 L' Lr Lp Ls := by
  obtain ⟨d0, d1, d2, d3, d4⟩ := h.dis
  have hsz := h.frs
  refine ⟨hc.at_ h.x d0.1, hq', h.hr.ch hc (fun x hx => (d2 x hx).1), h.hp.ch hc (fun x hx => (d3 x hx).1), h.hs.ch hc (fun x hx => (d4 x hx).1), ?_, ?_, h.ch.trans hc (fun x hx => .inr (h.fr x (by simp [hx])))⟩
  · exact nodup_swap (A := [bx]) (X := Lq) (Y := L') (B := Lr ++ (Lp ++ Ls)) (n := w.heap.size) h.nd h.lt hq'.nodup hl
  · intro x hx
    simp only [List.mem_cons, List.mem_append] at hx
    rcases hx with rfl | hx | hx
    · exact h.fr _ (by simp)
    · rcases hl x hx with h1 | h1
      · exact h.fr x (by simp [h1])
      · omega
    · exact h.fr x (by simp only [List.mem_cons, List.mem_append]; exact .inr (.inr hx))
theorem PSt.setR (h : PSt w0 w bx q r p s ty ms run now on last is ty2 ms2 run2 sn on2 last2 is2 Lq Lr Lp Ls) (hc : Ch Lr w w') (hr' : RAt w' r now' on' last' is' L') (hl : ∀ x, x ∈ L' → x ∈ Lr ∨ w.heap.size ≤ x) : PSt w0 w' bx q r p s ty ms run now' on' last' is' ty2 ms2 run2 sn on2 last2 is2 Lq L' Lp Ls := by
  obtain ⟨d0, d1, d2, d3, d4⟩ := h.dis
  have hsz := h.frs
  refine ⟨hc.at_ h.x d0.2.1, h.hq.ch hc (fun x hx => (d1 x hx).1), hr', h.hp.ch hc (fun x hx => (d3 x hx).2.1), h.hs.ch hc (fun x hx => (d4 x hx).2.1), ?_, ?_, h.ch.trans hc (fun x hx => .inr (h.fr x (by simp [hx])))⟩
  · have := nodup_swap (A := bx :: Lq) (X := Lr) (Y := L') (B := Lp ++ Ls) (n := w.heap.size) (by simpa using h.nd) (by simpa using h.lt) hr'.nodup hl
    simpa using this
  · intro x hx
    simp only [List.mem_cons, List.mem_append] at hx
    rcases hx with rfl | hx | hx | hx
    · exact h.fr _ (by simp)
    · exact h.fr x (by simp [hx])
    · rcases hl x hx with h1 | h1
      · exact h.fr x (by simp [h1])
      · omega
    · exact h.fr x (by simp only [List.mem_cons, List.mem_append]; exact .inr (.inr (.inr hx)))
theorem PSt.setP (h : PSt w0 w bx q r p s ty ms run now on last is ty2 ms2 run2 sn on2 last2 is2 Lq Lr Lp Ls) (hc : Ch Lp w w') (hp' : RQ w' p ty' ms' run' L') (hl : ∀ x, x ∈ L' → x ∈ Lp ∨ w.heap.size ≤ x) : PSt w0 w' bx q r p s ty ms run now on last is ty' ms' run' sn on2 last2 is2 Lq Lr L' Ls := by
  obtain ⟨d0, d1, d2, d3, d4⟩ := h.dis
  have hsz := h.frs
  refine ⟨hc.at_ h.x d0.2.2.1, h.hq.ch hc (fun x hx => (d1 x hx).2.1), h.hr.ch hc (fun x hx => (d2 x hx).2.1), hp', h.hs.ch hc (fun x hx => (d4 x hx).2.2), ?_, ?_, h.ch.trans hc (fun x hx => .inr (h.fr x (by simp [hx])))⟩
  · have := nodup_swap (A := bx :: (Lq ++ Lr)) (X := Lp) (Y := L') (B := Ls) (n := w.heap.size) (by simpa using h.nd) (by simpa using h.lt) hp'.nodup hl
    simpa using this
  · intro x hx
    simp only [List.mem_cons, List.mem_append] at hx
    rcases hx with rfl | hx | hx | hx | hx
    · exact h.fr _ (by simp)
    · exact h.fr x (by simp [hx])
    · exact h.fr x (by simp [hx])
    · rcases hl x hx with h1 | h1
      · exact h.fr x (by simp [h1])
      · omega
    · exact h.fr x (by simp [hx])
theorem PSt.setS (h : PSt w0 w bx q r p s ty ms run now on last is ty2 ms2 run2 sn on2 last2 is2 Lq Lr Lp Ls) (hc : Ch Ls w w') (hs' : RR w' s now' on' last' is' L') (hl : ∀ x, x ∈ L' → x ∈ Ls ∨ w.heap.size ≤ x) : PSt w0 w' bx q r p s ty ms run now on last is ty2 ms2 run2 now' on' last' is' Lq Lr Lp L' := by
  obtain ⟨d0, d1, d2, d3, d4⟩ := h.dis
  have hsz := h.frs
  refine ⟨hc.at_ h.x d0.2.2.2, h.hq.ch hc (fun x hx => (d1 x hx).2.2), h.hr.ch hc (fun x hx => (d2 x hx).2.2), h.hp.ch hc (fun x hx => (d3 x hx).2.2), hs', ?_, ?_, h.ch.trans hc (fun x hx => .inr (h.fr x (by simp [hx])))⟩
  · have := nodup_swap (A := bx :: (Lq ++ (Lr ++ Lp))) (X := Ls) (Y := L') (B := []) (n := w.heap.size) (by simpa using h.nd) (by simpa using h.lt) hs'.nodup hl
    simpa using this
  · intro x hx
    simp only [List.mem_cons, List.mem_append] at hx
    rcases hx with rfl | hx | hx | hx | hx
    · exact h.fr _ (by simp)
    · exact h.fr x (by simp [hx])
    · exact h.fr x (by simp [hx])
    · exact h.fr x (by simp [hx])
    · rcases hl x hx with h1 | h1
      · exact h.fr x (by simp [h1])
      · omega
end
/-! ### What stays true -/
structure Inv (ty : Bs) (ms : List Bs) (now : Bs) (on : Bool) (sn : Bs) (T : Nat) : Prop where
  ty_ : ty.length ≤ 65536
  ms_ : ms.length ≤ 16
  ne : ∀ m, m ∈ ms → m ≠ []
  tot : total ms ≤ T
  now_ : now.length ≤ 128
  eq : on = true → sn = now
theorem Inv.mono {ty : Bs} {ms : List Bs} {now : Bs} {on : Bool} {sn : Bs} {T T' : Nat} (h : Inv ty ms now on sn T) (hT : T ≤ T') : Inv ty ms now on sn T' := ⟨h.ty_, h.ms_, h.ne, Nat.le_trans h.tot hT, h.now_, h.eq⟩
theorem Inv.put {ty : Bs} {ms : List Bs} {now : Bs} {on : Bool} {sn : Bs} {T : Nat} (h : Inv ty ms now on sn T) (bs : Bs) : Inv (putM ty bs).2 ms now on sn T := by
  refine ⟨?_, h.ms_, h.ne, h.tot, h.now_, h.eq⟩
  have := h.ty_
  unfold putM
  split
  · exact this
  · simp; omega
theorem total_snoc (ms : List Bs) (m : Bs) : total (ms ++ [m]) = total ms + m.length := by rw [total_append]; simp [total]
theorem Inv.push {ty : Bs} {ms : List Bs} {now : Bs} {on : Bool} {sn : Bs} {T : Nat} (h : Inv ty ms now on sn T) (bs : Bs) : Inv ty (pushM ms bs).2 now on sn (T + bs.length) := by
  have h0 := h.mono (Nat.le_add_right T bs.length)
  have := h.ms_
  have := h.tot
  unfold pushM
  split
  · exact h0
  · split
    · exact h0
    · simp only
      split
      · exact h0
      · rename_i hne
        refine ⟨h.ty_, by simp; omega, fun m hm => ?_, by rw [total_snoc]; omega, h.now_, h.eq⟩
        rcases List.mem_append.1 hm with hm | hm
        · exact h.ne m hm
        · simp at hm; subst hm; exact hne
theorem Inv.back {ty : Bs} {ms : List Bs} {now : Bs} {on : Bool} {sn : Bs} {T : Nat} (h : Inv ty ms now on sn T) (run : Nat) (bs : Bs) : Inv (backM ty ms run bs).2.1 (backM ty ms run bs).2.2 now on sn (T + bs.length) := by
  have h0 := h.mono (Nat.le_add_right T bs.length)
  have a1 := h.ms_
  have a2 := h.tot
  have a3 := h.ty_
  rcases snoc_cases ms with rfl | ⟨r, m, rfl⟩
  · rw [backM_none]
    split
    · rename_i hc
      refine ⟨a3, by simp, fun m hm => ?_, by simp [total], h.now_, h.eq⟩
      simp at hm; subst hm; exact hc.2
    · split
      · exact h0
      · exact ⟨by simp; omega, by simp, by simp, by simp [total], h.now_, h.eq⟩
  · rw [backM_snoc]
    rw [total_snoc] at a2
    refine ⟨a3, by simpa using a1, fun y hy => ?_, by rw [total_snoc]; simp; omega, h.now_, h.eq⟩
    rcases List.mem_append.1 hy with hy | hy
    · exact h.ne y (by simp [hy])
    · simp at hy; subst hy
      have := h.ne m (by simp)
      simp [this]
theorem Inv.next {ty : Bs} {ms : List Bs} {now : Bs} {on : Bool} {sn : Bs} {T : Nat} (h : Inv ty ms now on sn T) (run : Nat) : Inv (nextM ty ms run).2.1 (nextM ty ms run).2.2.1 now on sn T := by
  have a1 := h.ms_
  have a2 := h.tot
  have a3 := h.ty_
  have rest : (256 ≤ run ∨ ms = []) → Inv (nextM ty ms run).2.1 (nextM ty ms run).2.2.1 now on sn T := fun hr => by
    rw [nextM_rest hr]
    cases ty with
    | nil => exact ⟨by simp, by simp, by simp, by simp [total], h.now_, h.eq⟩
    | cons c t => exact ⟨by simp at a3; simp; omega, by simp, by simp, by simp [total], h.now_, h.eq⟩
  by_cases hr : 256 ≤ run ∨ ms = []
  · exact rest hr
  · have hr1 : run < 256 := by
      rcases Nat.lt_or_ge run 256 with h | h
      · exact h
      · exact absurd (.inl h) hr
    rcases snoc_cases ms with rfl | ⟨r, x, rfl⟩
    · exact absurd (.inr rfl) hr
    · have hx := h.ne x (by simp)
      match x, hx with
      | c :: m, _ =>
        rw [nextM_mac ty r c m hr1]
        rw [total_snoc] at a2
        simp only
        split
        · exact ⟨a3, by simp at a1; omega, fun y hy => h.ne y (by simp [hy]), by simp at a2; omega, h.now_, h.eq⟩
        · rename_i hm
          refine ⟨a3, by simpa using a1, fun y hy => ?_, by rw [total_snoc]; simp at a2; omega, h.now_, h.eq⟩
          rcases List.mem_append.1 hy with hy | hy
          · exact h.ne y (by simp [hy])
          · simp at hy; subst hy; exact hm
theorem Inv.drop {ty : Bs} {ms : List Bs} {now : Bs} {on : Bool} {sn : Bs} {T : Nat} (h : Inv ty ms now on sn T) : Inv ty [] now on sn T := ⟨h.ty_, by simp, by simp, by simp [total], h.now_, h.eq⟩
end Go.Proofs.Ythpbiliajcameaa
