import Derived.Test.YthpbiliajcameaaDoorQ
set_option linter.unusedVariables false
namespace Go.Proofs.YthpbiliajcameaaDoor
open Go Go.Fw Go.Proofs Go.RowKit
section
variable {w : World} {K : Value → World → Prop}
abbrev B3 (c : UInt8) (x y : Bool) : Value := .tuple #[byteV c, .bool x, .bool y]
theorem next_mac {b : Nat} {ty m : List UInt8} {c : UInt8} {ms : List (List UInt8)} {run : Nat} {L : List Nat} (hq : QAt w b ty (ms ++ [c :: m]) run L) (hrun : run < 256)
    (k : ∀ w' L', QAt w' b ty (if m = [] then ms else ms ++ [m]) (run + 1) L' → Ch L w w' → (∀ x, x ∈ L' → x ∈ L) → K (B3 c true false) w') :
    S.call Tryd.prog 12 [PT b] K w := by
  obtain ⟨tv, mv, hs', Lt, Lm, Lh, h1, h2, h3, h4, h5⟩ := hq.ex
  obtain ⟨A', c', rfl, hc1, hc2⟩ := h3.shape
  obtain ⟨hs0, hh, L0, L1, rfl, rfl, h6, h7, h8⟩ := h4.unsnoc
  have hml : (ms ++ [c :: m]).length = ms.length + 1 := by simp
  rw [hml] at h1 h3
  have hml : ms.length + 1 ≤ 9223372036854775807 := by have := hc2; rw [hml] at hc1; simp only [maxLen] at this; omega
  obtain ⟨g, off, c1, hA, hLm, _⟩ := h3.some_ (by omega)
  injection hA with hA _ hA2
  subst hA
  have hhs : hs0.length = ms.length := h6.len
  have hget : (hs0 ++ [hh])[ms.length]? = some hh := by rw [← hhs]; simp
  obtain ⟨g2, off2, c2, rfl, hL1, hc3⟩ := Own.some_ h7 (by simp)
  have hcell : (bytesV (c :: m))[0]? = some (byteV c) := rfl
  refine F12_link ?_
  unfold F12
  refine qnone h1 rfl ?_
  rw [br_false]
  refine seq_ok fun J hJ => ?_
  rw [nilC_v, fa_v fo38_2, ld_v sc3 (cells4 h1).2.2.1, ge_v, decide_eq_false (by omega), br_false]
  refine hJ _ _ ?_
  clear hJ
  clear J
  rw [nilC_v, fa_v fo38_1, ld_v sc36 (cells4 h1).2.1, len_v el36, sub_v]
  have e1 : IntKind.i64.wrap (((ms.length + 1 : Nat) : Int) - 1) = (ms.length : Int) := by rw [wrap_i64 (by omega) (by omega)]; omega
  rw [e1, ge_v, decide_eq_true (by omega), br_true, nilC_v, fa_v fo38_1, ld_v sc36 (cells4 h1).2.1, ia_v el36 (by omega) (by omega), Int.toNat_natCast, Nat.mul_one, ldo_v sc22 h3 hget,
    ia_v el22 (by omega) (by simp)]
  rw [show off2 + (0 : Int).toNat * 1 = off2 + 0 from rfl, ldo_v sc5 h7 hcell]
  refine seq_ok fun J hJ => ?_
  refine drawn_ok fun w1 hcd hszd => ?_
  have h1d := hcd.at_ h1 (by simp)
  have h3d := h3.ch hcd (by simp)
  have h6d := h6.ch hcd (by simp)
  have h7d := h7.ch hcd (by simp)
  have h2d := h2.ch hcd (by simp)
  rw [nilC_p, fa_p fo38_1, ld_p sc36 (cells4 h1d).2.1, cutl_p (i := 1) el22 1 rfl (by simp) hc3, ia_p el36 (by omega) (by omega), Int.toNat_natCast, Nat.mul_one]
  subst h5
  have hnd := hq.nodup
  have hlt := hq.lt
  have hcut := Own.cut h7d (l := 1) (u := (c :: m).length) (by simp) (Nat.le_refl _)
  have hb0 : b ∉ Lm := fun hm => (List.nodup_cons.1 hnd).1 (by simp [hm])
  have hndt := (List.nodup_cons.1 hnd).2
  have hnb : ∀ x, x ∈ Lt ++ (Lm ++ (L0 ++ L1)) → x ≠ b := fun x hx e => (List.nodup_cons.1 hnd).1 (e ▸ hx)
  have hdm : ∀ x, x ∈ Lt ++ (L0 ++ L1) → x ∉ Lm := by grind
  refine sto sc22 h3d (by omega) rfl fun w2 ho2 hc2 hsz2 => ?_
  have h1e := hc2.at_ h1d hb0
  have hset : (hs0 ++ [Value.slice (some ⟨g2, off2, none⟩) (c :: m).length c2]).set ms.length (cutS 1 (some ⟨g2, off2, none⟩) c2 1 (c :: m).length) =
      hs0 ++ [cutS 1 (some ⟨g2, off2, none⟩) c2 1 (c :: m).length] := by
    rw [← hhs]; simp
  rw [hset] at ho2
  have hbs2 : BS w2 (cutS 1 (some ⟨g2, off2, none⟩) c2 1 (c :: m).length) m L1 := by
    have := Own.ch hcut hc2 (by grind)
    have e : ((bytesV (c :: m)).drop (1 * 1)).take (((c :: m).length - 1) * 1) = bytesV m := by simp [bytesV, List.take_of_length_le]
    rw [e] at this
    exact this
  have h6e := h6d.ch hc2 (by grind)
  have h2e : BS w2 tv ty Lt := Own.ch h2d hc2 (by grind)
  have hcw2 : Ch (b :: (Lt ++ (Lm ++ (L0 ++ L1)))) w w2 := (hcd.nil).trans hc2 (by grind)
  -- what stands behind both arms
  have fin : ∀ w3 mv' ms' hs' Lm' Lh', w3.heap[b]? = some (.cells #[tv, mv', .int .i64 run, .bool true] 38 (0, 0)) → BS w3 tv ty Lt → Own w3 22 1 mv' ms'.length hs' Lm' → Hdrs w3 hs' ms' Lh' → ms' = (if m = [] then ms else ms ++ [m]) →
      (b :: (Lt ++ (Lm' ++ Lh'))).Nodup → (∀ x, x ∈ Lm' ++ Lh' → x ∈ Lm ++ (L0 ++ L1)) → Ch (b :: (Lt ++ (Lm ++ (L0 ++ L1)))) w w3 → ∀ t47, J [t47] w3 := by
    intro w3 mv' ms' hs' Lm' Lh' a1 a2 a3 a4 a5 a6 a7 a8 t47
    refine hJ _ _ ?_
    rw [nilC_v, fa_v fo38_2, ld_v sc3 (cells4 a1).2.2.1, add_v, wrap_i64 (by omega) (by omega), nilC_v, fa_v fo38_2]
    refine st sc3 a1 (by simp) rfl fun w4 hb4 hc4 hsz4 => ?_
    refine k w4 (b :: (Lt ++ (Lm' ++ Lh'))) ⟨⟨tv, mv', hs', Lt, Lm', Lh', hb4, ?_, ?_, ?_, rfl⟩, a6⟩ (a8.trans hc4 (by grind)) (by grind)
    · exact Own.ch a2 hc4 (by grind)
    · rw [← a5]; exact a3.ch hc4 (by grind)
    · rw [← a5]; exact a4.ch hc4 (by grind)
  rw [len_v el22, eq_v]
  refine br_dec _ _ _ (fun hm1 => ?_) (fun hm1 => ?_)
  · have hm : m = [] := List.eq_nil_of_length_eq_zero (by simp at hm1; omega)
    rw [nilC_v, fa_v fo38_1, ld_v sc36 (cells4 h1e).2.1, cutu_v (i := (ms.length : Int)) el36 ms.length rfl (by omega), nilC_v, fa_v fo38_1]
    refine st sc36 h1e (by simp) rfl fun w3 hb3 hc3 hsz3 => ?_
    have hcut2 := ho2.cut (l := 0) (u := ms.length) (by omega) (by omega)
    refine fin w3 _ ms hs0 Lm L0 hb3 (Own.ch h2e hc3 (by grind)) ?_ (h6e.ch hc3 (by grind)) (by rw [if_pos hm]) ?_ (by grind) (hcw2.trans hc3 (by grind)) _
    · have := hcut2.ch hc3 (by grind)
      have e : List.take ((ms.length - 0) * 1) (List.drop (0 * 1) (hs0 ++ [cutS 1 (some ⟨g2, off2, none⟩) c2 1 (c :: m).length])) = hs0 := by
        rw [← hhs]; simp
      rw [e] at this
      exact this
    · have : (b :: (Lt ++ (Lm ++ (L0 ++ L1)))) = (b :: (Lt ++ (Lm ++ L0))) ++ L1 := by simp
      rw [this] at hnd
      exact (List.nodup_append.1 hnd).1
  · have hm : m ≠ [] := fun e => hm1 (by rw [e]; rfl)
    refine fin w2 _ (ms ++ [m]) _ Lm (L0 ++ L1) h1e h2e (by rw [List.length_append]; exact ho2) (h6e.snoc hbs2 hm) (by rw [if_neg hm]) hnd (fun x hx => hx) hcw2 _
theorem next_rest {b : Nat} {ty : List UInt8} {ms : List (List UInt8)} {run : Nat} {L : List Nat} (hq : QAt w b ty ms run L) (hrun : 256 ≤ run ∨ ms = [])
    (k1 : ∀ w' L' c t, ty = c :: t → QAt w' b t [] 0 L' → Ch L w w' → (∀ x, x ∈ L' → x ∈ L) → K (B3 c true true) w')
    (k2 : ∀ w' L', ty = [] → QAt w' b [] [] run L' → Ch L w w' → (∀ x, x ∈ L' → x ∈ L) → K (.tuple #[.int .u8 0, .bool false, .bool false]) w') :
    S.call Tryd.prog 12 [PT b] K w := by
  obtain ⟨tv, mv, hs', Lt, Lm, Lh, h1, h2, h3, h4, h5⟩ := hq.ex
  subst h5
  have hnd := hq.nodup
  have hlt := hq.lt
  have hndt := (List.nodup_cons.1 hnd).2
  have hnb : ∀ x, x ∈ Lt ++ (Lm ++ Lh) → x ≠ b := fun x hx e => (List.nodup_cons.1 hnd).1 (e ▸ hx)
  refine F12_link ?_
  unfold F12
  refine qnone h1 rfl ?_
  rw [br_false]
  refine seq_ok fun J hJ => ?_
  have fin : ∀ w' mv' Lm', w'.heap[b]? = some (.cells #[tv, mv', .int .i64 run, .bool true] 38 (0, 0)) → BS w' tv ty Lt → Own w' 22 1 mv' 0 [] Lm' → (∀ x, x ∈ Lm' → x ∈ Lm) → Lm'.Nodup → Ch (b :: (Lt ++ (Lm ++ Lh))) w w' → ∀ t15, J [t15] w' := by
    intro w' mv' Lm' a1 a2 a3 a4 a5 a6 t15
    refine hJ _ _ ?_
    obtain ⟨A', c', rfl, hc1, hc2⟩ := a3.shape
    have a2' := a2
    obtain ⟨A, c, rfl, hd1, hd2⟩ := Own.shape a2
    have hndL : (b :: (Lt ++ (Lm' ++ []))).Nodup := by
      rw [List.append_nil]
      refine List.nodup_cons.2 ⟨?_, List.nodup_append.2 ⟨?_, a5, ?_⟩⟩
      · grind
      · exact (List.nodup_append.1 hndt).1
      · grind
    rw [nilC_v, fa_v fo38_1, ld_v sc36 (cells4 a1).2.1, len_v el36, sub_v, wrap_i64 (by omega) (by omega), ge_v, decide_eq_false (by omega), br_false, nilC_v, fa_v fo38_0, ld_v sc22 (cells4 a1).1, len_v el22, eq_v]
    cases ty with
    | nil =>
      rw [decide_eq_true (by simp), br_true]
      exact k2 w' _ rfl ⟨⟨_, _, [], Lt, Lm', [], a1, a2, a3, rfl, rfl⟩, hndL⟩ a6 (by grind)
    | cons x t =>
      obtain ⟨g, off, cc, hA, hL, hcc⟩ := Own.some_ a2 (by simp)
      injection hA with hA _ hA2
      subst hA
      have hcell : (bytesV (x :: t))[0]? = some (byteV x) := rfl
      rw [decide_eq_false (by simp; omega), br_false, nilC_v, fa_v fo38_0, ld_v sc22 (cells4 a1).1, ia_v el22 (by omega) (by simp)]
      rw [show off + (0 : Int).toNat * 1 = off + 0 from rfl, ldo_v sc5 a2 hcell, nilC_v, fa_v fo38_0, ld_v sc22 (cells4 a1).1, cutl_v (i := 1) el22 1 rfl (by simp) hd1, nilC_v, fa_v fo38_0]
      have hcut := Own.cut a2 (l := 1) (u := (x :: t).length) (by simp) (Nat.le_refl _)
      have e : ((bytesV (x :: t)).drop (1 * 1)).take (((x :: t).length - 1) * 1) = bytesV t := by simp [bytesV, List.take_of_length_le]
      rw [e] at hcut
      refine st sc22 a1 (by simp) rfl fun w2 hb2 hc2 hsz2 => ?_
      rw [nilC_v, fa_v fo38_2]
      refine st sc3 hb2 (by simp) rfl fun w3 hb3 hc3 hsz3 => ?_
      have hb : b ∉ Lt ++ (Lm ++ Lh) := (List.nodup_cons.1 hnd).1
      refine k1 w3 (b :: (Lt ++ (Lm' ++ []))) x t rfl ⟨⟨_, _, [], Lt, Lm', [], hb3, ?_, ?_, rfl, rfl⟩, hndL⟩ ((a6.trans hc2 (by grind)).trans hc3 (by grind)) (by grind)
      · exact (hcut.ch hc2 (by grind)).ch hc3 (by grind)
      · exact (a3.ch hc2 (by grind)).ch hc3 (by grind)
  rw [nilC_v, fa_v fo38_2, ld_v sc3 (cells4 h1).2.2.1, ge_v]
  refine br_dec _ _ _ (fun hr => ?_) (fun hr => ?_)
  · rw [nilC_v, fa_v fo38_1]
    refine st sc36 h1 (by simp) rfl fun w2 hb2 hc2 hsz2 => ?_
    exact fin w2 _ [] hb2 (Own.ch h2 hc2 (by grind)) (Own.nil _ _ _) (by simp) (by simp) (hc2.mono (by grind)) _
  · have hms : ms = [] := hrun.resolve_left (by omega)
    subst hms
    have := h4.len
    have hs0 : hs' = [] := List.eq_nil_of_length_eq_zero this
    subst hs0
    exact fin w mv Lm h1 h2 h3 (fun x hx => hx) (List.nodup_append.1 (List.nodup_append.1 hndt).2.1).1 (Ch.refl _ _) _
end
end Go.Proofs.YthpbiliajcameaaDoor
