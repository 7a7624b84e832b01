import Derived.Test.YthpbiliajcameaaDoorG4
set_option linter.unusedVariables false
set_option maxRecDepth 4000
namespace Go.Proofs.YthpbiliajcameaaDoor
open Go Go.Fw Go.Proofs Go.RowKit
/-! ### Line ends, of bytes and of runes -/
def rall (old new x : List UInt8) : List UInt8 := Lib.replaceK old new (Lib.count x old) x
theorem rall_nil {old new : List UInt8} (h : old ≠ []) : rall old new [] = [] := by
  unfold rall
  rw [count_nil (by cases old with
    | nil => exact absurd rfl h
    | cons a r => simp)]
  rfl
theorem rall_hit {old new r : List UInt8} (h : old ≠ []) : rall old new (old ++ r) = new ++ rall old new r := by
  have hi : Lib.index (old ++ r) old = ((0 : Nat) : Int) := Lib.index_first (Nat.zero_le _) (by unfold Lib.occAt; rw [List.drop_zero, List.isPrefixOf_iff_prefix]; exact List.prefix_append _ _) (fun j hj => by omega)
  unfold rall
  rw [Lib.count_hit h hi, Nat.add_comm, Lib.replaceK_hit _ _ _ _ _ hi, Nat.zero_add, List.drop_left]
  simp
theorem rall_miss {old new r : List UInt8} {c : UInt8} (h : old ≠ []) (hm : ¬ old <+: c :: r) : rall old new (c :: r) = c :: rall old new r := by
  have hp : old.isPrefixOf (c :: r) = false := by
    cases hh : old.isPrefixOf (c :: r) with
    | false => rfl
    | true => exact absurd (List.isPrefixOf_iff_prefix.1 hh) hm
  have hidx : Lib.index (c :: r) old = if Lib.index r old == -1 then -1 else Lib.index r old + 1 := by
    rw [Lib.index, hp]; simp
  unfold rall
  by_cases hi : Lib.index r old = -1
  · rw [hi] at hidx
    have h0 : Lib.index (c :: r) old = -1 := by simpa using hidx
    rw [Lib.count_miss h0, Lib.count_miss hi]
    rfl
  · have hge := Lib.index_ge r old
    obtain ⟨i, hi2⟩ : ∃ i : Nat, Lib.index r old = i := ⟨(Lib.index r old).toNat, by omega⟩
    have h1 : Lib.index (c :: r) old = ((i + 1 : Nat) : Int) := by
      rw [hidx, hi2, if_neg (by simp)]
      omega
    rw [Lib.count_hit h h1, Lib.count_hit h hi2, Nat.add_comm 1, Nat.add_comm 1, Lib.replaceK_hit _ _ _ _ _ h1, Lib.replaceK_hit _ _ _ _ _ hi2]
    rw [show i + 1 + old.length = (i + old.length) + 1 from by omega, List.drop_succ_cons, List.take_succ_cons]
    simp
def crlf : List UInt8 → List UInt8 := rall [13, 10] [10]
def cr : List UInt8 → List UInt8 := rall [13] [10]
theorem nlB_eq (x : List UInt8) : nlB x = cr (crlf x) := rfl
theorem nl_nil : nlB [] = [] := by rw [nlB_eq]; unfold crlf cr; rw [rall_nil (by simp), rall_nil (by simp)]
theorem cr_hit (r : List UInt8) : cr (13 :: r) = 10 :: cr r := rall_hit (old := [13]) (by simp)
theorem cr_miss {c : UInt8} (r : List UInt8) (h : c ≠ 13) : cr (c :: r) = c :: cr r := rall_miss (by simp) (fun hp => by
  rw [List.cons_prefix_cons] at hp
  exact h hp.1.symm)
theorem nl_crlf (r : List UInt8) : nlB (13 :: 10 :: r) = 10 :: nlB r := by
  rw [nlB_eq, nlB_eq]
  have : crlf (13 :: 10 :: r) = 10 :: crlf r := rall_hit (old := [13, 10]) (by simp)
  rw [this, cr_miss _ (by decide)]
theorem nl_cr {r : List UInt8} (h : ∀ r', r ≠ 10 :: r') : nlB (13 :: r) = 10 :: nlB r := by
  rw [nlB_eq, nlB_eq]
  have : crlf (13 :: r) = 13 :: crlf r := rall_miss (by simp) (fun hp => by
    rw [List.cons_prefix_cons] at hp
    obtain ⟨t, ht⟩ := hp.2
    exact h t ht.symm)
  rw [this, cr_hit]
theorem nl_miss {c : UInt8} (r : List UInt8) (h : c ≠ 13) : nlB (c :: r) = c :: nlB r := by
  rw [nlB_eq, nlB_eq]
  have : crlf (c :: r) = c :: crlf r := rall_miss (by simp) (fun hp => by
    rw [List.cons_prefix_cons] at hp
    exact h hp.1.symm)
  rw [this, cr_miss _ h]
/-- The reference's: on runes. -/
def nlR : List Int → List Int
  | [] => []
  | a :: r => if a = 13 then (match r with
    | [] => [10]
    | b :: r' => if b = 10 then 10 :: nlR r' else 10 :: nlR (b :: r')) else a :: nlR r
theorem nlR_crlf (r : List Int) : nlR (13 :: 10 :: r) = 10 :: nlR r := by rw [nlR.eq_def]; simp
theorem nlR_cr {r : List Int} (h : ∀ r', r ≠ 10 :: r') : nlR (13 :: r) = 10 :: nlR r := by
  rw [nlR.eq_def]
  dsimp only
  cases r with
  | nil => simp [nlR]
  | cons b r' =>
    have hb : b ≠ 10 := fun e => h r' (by rw [e])
    simp [hb]
theorem nlR_miss {a : Int} (r : List Int) (h : a ≠ 13) : nlR (a :: r) = a :: nlR r := by rw [nlR.eq_def]; simp [h]
theorem dec1 {n c b1 b2 b3 : Nat} (hc : 128 ≤ c) (h : ¬ (1 < n ∧ b1 / 64 = 2)) : Lib.decodeN n c b1 b2 b3 = (65533, 1) := by
  unfold Lib.decodeN
  refine (if_neg (by omega)).trans ?_
  refine (if_neg (fun hh => h hh.2)).trans ?_
  refine (if_neg (fun hh => h hh.2.1)).trans ?_
  exact if_neg (fun hh => h hh.2.1)
theorem dec2 {n c b1 b2 b3 : Nat} (hc : 128 ≤ c) (h1 : 1 < n) (h : ¬ (2 < n ∧ b2 / 64 = 2)) : Lib.decodeN n c b1 b2 b3 = Lib.decodeN 2 c b1 0 0 := by
  unfold Lib.decodeN
  refine (if_neg (by omega)).trans (Eq.trans ?_ (if_neg (by omega)).symm)
  by_cases c2 : c / 32 = 6 ∧ b1 / 64 = 2
  · exact (if_pos ⟨c2.1, h1, c2.2⟩).trans (if_pos ⟨c2.1, by omega, c2.2⟩).symm
  · refine (if_neg (fun hh => c2 ⟨hh.1, hh.2.2⟩)).trans (Eq.trans ?_ (if_neg (fun hh => c2 ⟨hh.1, hh.2.2⟩)).symm)
    refine (if_neg (fun hh => h hh.2.2)).trans (Eq.trans ?_ (if_neg (fun hh => absurd hh.2.2.1 (by omega))).symm)
    exact (if_neg (fun hh => h hh.2.2.1)).trans (if_neg (fun hh => absurd hh.2.2.1.1 (by omega))).symm
theorem dec3 {n c b1 b2 b3 : Nat} (hc : 128 ≤ c) (h1 : 2 < n) (h : ¬ (3 < n ∧ b3 / 64 = 2)) : Lib.decodeN n c b1 b2 b3 = Lib.decodeN 3 c b1 b2 0 := by
  unfold Lib.decodeN
  refine (if_neg (by omega)).trans (Eq.trans ?_ (if_neg (by omega)).symm)
  by_cases c2 : c / 32 = 6 ∧ b1 / 64 = 2
  · exact (if_pos ⟨c2.1, by omega, c2.2⟩).trans (if_pos ⟨c2.1, by omega, c2.2⟩).symm
  · refine (if_neg (fun hh => c2 ⟨hh.1, hh.2.2⟩)).trans (Eq.trans ?_ (if_neg (fun hh => c2 ⟨hh.1, hh.2.2⟩)).symm)
    by_cases c3 : c / 16 = 14 ∧ b1 / 64 = 2 ∧ b2 / 64 = 2
    · exact (if_pos ⟨c3.1, ⟨by omega, c3.2.1⟩, h1, c3.2.2⟩).trans (if_pos ⟨c3.1, ⟨by omega, c3.2.1⟩, by omega, c3.2.2⟩).symm
    · refine (if_neg (fun hh => c3 ⟨hh.1, hh.2.1.2, hh.2.2.2⟩)).trans (Eq.trans ?_ (if_neg (fun hh => c3 ⟨hh.1, hh.2.1.2, hh.2.2.2⟩)).symm)
      exact (if_neg (fun hh => h hh.2.2.2)).trans (if_neg (fun hh => absurd hh.2.2.2.1 (by omega))).symm
theorem dec4 {n c b1 b2 b3 : Nat} (hc : 128 ≤ c) (h1 : 3 < n) : Lib.decodeN n c b1 b2 b3 = Lib.decodeN 4 c b1 b2 b3 := by
  unfold Lib.decodeN
  simp only [show (1 < n) = (1 < 4) from propext ⟨fun _ => by omega, fun _ => by omega⟩, show (2 < n) = (2 < 4) from propext ⟨fun _ => by omega, fun _ => by omega⟩, show (3 < n) = (3 < 4) from propext ⟨fun _ => by omega, fun _ => by omega⟩]
theorem dec_ge {n c b1 b2 b3 : Nat} (hc : 128 ≤ c) : 128 ≤ (Lib.decodeN n c b1 b2 b3).1 := by
  unfold Lib.decodeN
  repeat' split
  all_goals (simp only; omega)
/-- Does a byte that goes on stand at the head? -/
def cont0 (x : List UInt8) : Prop := 0 < x.length ∧ atN x 0 / 64 = 2
theorem cont_head {x : List UInt8} (h : cont0 x) : ∃ d r, x = d :: r ∧ d.toNat / 64 = 2 ∧ d ≠ 13 := by
  cases x with
  | nil => exact absurd h.1 (by simp)
  | cons d r =>
    refine ⟨d, r, rfl, h.2, fun e => ?_⟩
    have := h.2
    subst e
    simp [atN] at this
theorem cont_nl {x : List UInt8} (h : ¬ cont0 x) : ¬ cont0 (nlB x) := by
  cases x with
  | nil => rw [nl_nil]; exact h
  | cons d r =>
    by_cases h13 : d = 13
    · subst h13
      intro hc
      have : ∃ t, nlB (13 :: r) = 10 :: t := by
        by_cases hr : ∃ r', r = 10 :: r'
        · obtain ⟨r', rfl⟩ := hr
          exact ⟨_, nl_crlf r'⟩
        · exact ⟨_, nl_cr (fun r' e => hr ⟨r', e⟩)⟩
      obtain ⟨t, ht⟩ := this
      rw [ht] at hc
      have := hc.2
      simp [atN] at this
    · rw [nl_miss _ h13]
      intro hc
      exact h ⟨by simp, hc.2⟩
theorem at_cons (c : UInt8) (r : List UInt8) (k : Nat) : atN (c :: r) (k + 1) = atN r k := rfl
theorem not_cont {r : List UInt8} {c k : Nat} (h : ¬ cont0 r) (hc : c = r.length + k) (hk : 1 ≤ k) : ¬ (k < c ∧ atN r 0 / 64 = 2) := fun hh => h ⟨by omega, hh.2⟩
theorem runes_nl : ∀ (d : Nat) (x : List UInt8), x.length ≤ d → runes (nlB x) = nlR (runes x)
  | _, [], _ => by rw [nl_nil]; rfl
  | 0, c :: r, h => absurd h (by simp)
  | d + 1, c :: r, h => by
    have hrl : r.length ≤ d := by simpa using h
    by_cases hasc : c.toNat < 128
    · have one : ∀ (e : UInt8) (t : List UInt8), e.toNat < 128 → runes (e :: t) = (e.toNat : Int) :: runes t := fun e t he => by
        have hd : dgo (e :: t) = (e.toNat, 1) := by
          rw [dgo_eq (by simp)]
          unfold Lib.decodeN atN
          simp [he]
        rw [runes_cons (by simp), hd]
        rfl
      by_cases h13 : c = 13
      · subst h13
        rw [one 13 r (by decide)]
        by_cases hr : ∃ r', r = 10 :: r'
        · obtain ⟨r', rfl⟩ := hr
          rw [nl_crlf, one 10 _ (by decide), one 10 r' (by decide), runes_nl d r' (by simp at hrl; omega)]
          exact (nlR_crlf _).symm
        · rw [nl_cr (fun r' e => hr ⟨r', e⟩), one 10 _ (by decide), runes_nl d r hrl]
          refine (nlR_cr (fun r' e => ?_)).symm
          cases r with
          | nil => cases e
          | cons b t =>
            rw [runes_cons (by simp)] at e
            injection e with e _
            by_cases hb : b.toNat < 128
            · have hd : dgo (b :: t) = (b.toNat, 1) := by
                rw [dgo_eq (by simp)]
                unfold Lib.decodeN atN
                simp [hb]
              rw [hd] at e
              have : b = 10 := UInt8.toNat_inj.1 (by simp at e ⊢; omega)
              exact hr ⟨t, by rw [this]⟩
            · rw [dgo_eq (by simp)] at e
              have := dec_ge (n := (b :: t).length) (c := atN (b :: t) 0) (b1 := atN (b :: t) 1) (b2 := atN (b :: t) 2) (b3 := atN (b :: t) 3) (by simp [atN]; omega)
              omega
      · rw [nl_miss _ h13, one c _ hasc, one c r hasc, runes_nl d r hrl]
        refine (nlR_miss _ (fun e => h13 ?_)).symm
        exact UInt8.toNat_inj.1 (by simp; omega)
    · have hc : 128 ≤ c.toNat := by omega
      have h13 : c ≠ 13 := fun e => by subst e; simp at hc
      have hnl := nl_miss r h13
      have hdg : dgo (c :: r) = Lib.decodeN (r.length + 1) c.toNat (atN r 0) (atN r 1) (atN r 2) := by rw [dgo_eq (by simp)]; rfl
      have hdn : dgo (nlB (c :: r)) = Lib.decodeN ((nlB r).length + 1) c.toNat (atN (nlB r) 0) (atN (nlB r) 1) (atN (nlB r) 2) := by rw [hnl, dgo_eq (by simp)]; rfl
      -- what the heads come to, and how far the two go alike
      have main : dgo (nlB (c :: r)) = dgo (c :: r) ∧ (nlB (c :: r)).drop (dgo (c :: r)).2 = nlB ((c :: r).drop (dgo (c :: r)).2) := by
        have hw := dgo_spec (x := c :: r) (by simp)
        by_cases h1 : cont0 r
        · obtain ⟨d1, r1, rfl, hd1, h131⟩ := cont_head h1
          have hn1 := nl_miss r1 h131
          have k1 : 1 < (d1 :: r1).length + 1 := by simp
          by_cases h2 : cont0 r1
          · obtain ⟨d2, r2, rfl, hd2, h132⟩ := cont_head h2
            have hn2 := nl_miss r2 h132
            by_cases h3 : cont0 r2
            · obtain ⟨d3, r3, rfl, hd3, h133⟩ := cont_head h3
              have hn3 := nl_miss r3 h133
              have e1 : dgo (c :: d1 :: d2 :: d3 :: r3) = Lib.decodeN 4 c.toNat d1.toNat d2.toNat d3.toNat := by rw [hdg, dec4 hc (by simp)]; rfl
              have e2 : dgo (nlB (c :: d1 :: d2 :: d3 :: r3)) = Lib.decodeN 4 c.toNat d1.toNat d2.toNat d3.toNat := by rw [hdn, hn1, hn2, hn3, dec4 hc (by simp)]; rfl
              refine ⟨e2.trans e1.symm, ?_⟩
              have hsp := decodeN_spec 4 c.toNat d1.toNat d2.toNat d3.toNat (by omega)
              rw [← e1] at hsp
              generalize (dgo (c :: d1 :: d2 :: d3 :: r3)).2 = k at *
              rw [hnl, hn1, hn2, hn3]
              match k, hsp.1, hsp.2.1 with
              | 1, _, _ => simp only [List.drop_succ_cons, List.drop_zero]; rw [hn1, hn2, hn3]
              | 2, _, _ => simp only [List.drop_succ_cons, List.drop_zero]; rw [hn2, hn3]
              | 3, _, _ => simp only [List.drop_succ_cons, List.drop_zero]; rw [hn3]
              | 4, _, _ => simp only [List.drop_succ_cons, List.drop_zero]
            · have h3' := cont_nl h3
              have e1 : dgo (c :: d1 :: d2 :: r2) = Lib.decodeN 3 c.toNat d1.toNat d2.toNat 0 := hdg.trans ((dec3 hc (by simp) (fun hh => h3 ⟨by have := hh.1; simp only [List.length_cons] at this; omega, hh.2⟩)).trans rfl)
              have e2 : dgo (nlB (c :: d1 :: d2 :: r2)) = Lib.decodeN 3 c.toNat d1.toNat d2.toNat 0 := by
                rw [hdn, hn1, hn2]
                exact (dec3 hc (by simp) (fun hh => h3' ⟨by have := hh.1; simp only [List.length_cons] at this; omega, hh.2⟩)).trans rfl
              refine ⟨e2.trans e1.symm, ?_⟩
              have hsp := decodeN_spec 3 c.toNat d1.toNat d2.toNat 0 (by omega)
              rw [← e1] at hsp
              generalize (dgo (c :: d1 :: d2 :: r2)).2 = k at *
              rw [hnl, hn1, hn2]
              match k, hsp.1, hsp.2.1 with
              | 1, _, _ => simp only [List.drop_succ_cons, List.drop_zero]; rw [hn1, hn2]
              | 2, _, _ => simp only [List.drop_succ_cons, List.drop_zero]; rw [hn2]
              | 3, _, _ => simp only [List.drop_succ_cons, List.drop_zero]
          · have h2' := cont_nl h2
            have e1 : dgo (c :: d1 :: r1) = Lib.decodeN 2 c.toNat d1.toNat 0 0 := hdg.trans ((dec2 hc (by simp) (fun hh => h2 ⟨by have := hh.1; simp only [List.length_cons] at this; omega, hh.2⟩)).trans rfl)
            have e2 : dgo (nlB (c :: d1 :: r1)) = Lib.decodeN 2 c.toNat d1.toNat 0 0 := by
              rw [hdn, hn1]
              exact (dec2 hc (by simp) (fun hh => h2' ⟨by have := hh.1; simp only [List.length_cons] at this; omega, hh.2⟩)).trans rfl
            refine ⟨e2.trans e1.symm, ?_⟩
            have hsp := decodeN_spec 2 c.toNat d1.toNat 0 0 (by omega)
            rw [← e1] at hsp
            generalize (dgo (c :: d1 :: r1)).2 = k at *
            rw [hnl, hn1]
            match k, hsp.1, hsp.2.1 with
            | 1, _, _ => simp only [List.drop_succ_cons, List.drop_zero]; rw [hn1]
            | 2, _, _ => simp only [List.drop_succ_cons, List.drop_zero]
        · have h1' := cont_nl h1
          have e1 : dgo (c :: r) = (65533, 1) := hdg.trans (dec1 hc (fun hh => h1 ⟨by have := hh.1; omega, hh.2⟩))
          have e2 : dgo (nlB (c :: r)) = (65533, 1) := hdn.trans (dec1 hc (fun hh => h1' ⟨by have := hh.1; omega, hh.2⟩))
          refine ⟨e2.trans e1.symm, ?_⟩
          rw [e1, hnl]
          rfl
      have hv : 128 ≤ (dgo (c :: r)).1 := by rw [hdg]; exact dec_ge hc
      have hw := dgo_spec (x := c :: r) (by simp)
      have hne : nlB (c :: r) ≠ [] := by rw [hnl]; simp
      rw [runes_cons hne, main.1, main.2, runes_cons (x := c :: r) (by simp), runes_nl d _ (by rw [List.length_drop]; simp only [List.length_cons] at *; omega)]
      exact (nlR_miss _ (by omega)).symm
theorem runes_nl' (x : List UInt8) : runes (nlB x) = nlR (runes x) := runes_nl x.length x (Nat.le_refl _)
end Go.Proofs.YthpbiliajcameaaDoor
