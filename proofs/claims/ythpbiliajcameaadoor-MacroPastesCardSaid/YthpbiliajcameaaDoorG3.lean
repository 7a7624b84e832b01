import Derived.Test.YthpbiliajcameaaDoorG2
set_option linter.unusedVariables false
set_option maxRecDepth 4000
namespace Go.Proofs.YthpbiliajcameaaDoor
open Go Go.Fw Go.Proofs Go.RowKit
/-! ### The runes of bytes -/
def atN (x : List UInt8) (i : Nat) : Nat := (x.getD i 0).toNat
theorem dgo_eq {x : List UInt8} (h : x ≠ []) : dgo x = Lib.decodeN x.length (atN x 0) (atN x 1) (atN x 2) (atN x 3) := by
  have hs : (⟨x.toArray⟩ : ByteArray).size = x.length := size_str x
  have hl : x.length ≠ 0 := fun e => h (List.eq_nil_of_length_eq_zero e)
  have hg : ∀ i, ((⟨x.toArray⟩ : ByteArray).get! i).toNat = atN x i := by
    intro i
    unfold atN
    show (x.toArray[i]!).toNat = _
    by_cases hi : i < x.length
    · rw [getElem!_pos _ _ (by simpa using hi)]
      simp [hi]
    · rw [getElem!_neg _ _ (by simpa using hi)]
      simp only [List.getD_eq_getElem?_getD]
      rw [List.getElem?_eq_none (by omega)]
      rfl
  unfold dgo Lib.decodeGo
  rw [if_neg (by rw [hs]; exact hl), Lib.decode_at, hg, hg, hg, hg, hs]
  rfl
theorem decodeN_spec (n b0 b1 b2 b3 : Nat) (hn : 1 ≤ n) : 1 ≤ (Lib.decodeN n b0 b1 b2 b3).2 ∧ (Lib.decodeN n b0 b1 b2 b3).2 ≤ n ∧ (Lib.decodeN n b0 b1 b2 b3).1 ≤ 1114111 := by
  unfold Lib.decodeN
  repeat' split
  all_goals (simp only; omega)
theorem dgo_spec {x : List UInt8} (h : x ≠ []) : 1 ≤ (dgo x).2 ∧ (dgo x).2 ≤ x.length ∧ (dgo x).1 ≤ 1114111 := by
  rw [dgo_eq h]
  have hl : x.length ≠ 0 := fun e => h (List.eq_nil_of_length_eq_zero e)
  exact decodeN_spec _ _ _ _ _ (by omega)
def runesF : Nat → List UInt8 → List Int
  | 0, _ => []
  | d + 1, x => match x with
    | [] => []
    | _ :: _ => ((dgo x).1 : Int) :: runesF d (x.drop (dgo x).2)
def runes (x : List UInt8) : List Int := runesF x.length x
theorem runesF_more : ∀ (d e : Nat) (x : List UInt8), x.length ≤ d → x.length ≤ e → runesF d x = runesF e x
  | 0, e, x, h1, h2 => by
    have : x = [] := List.eq_nil_of_length_eq_zero (by omega)
    subst this
    cases e <;> rfl
  | d + 1, 0, x, h1, h2 => by
    have : x = [] := List.eq_nil_of_length_eq_zero (by omega)
    subst this
    rfl
  | d + 1, e + 1, [], _, _ => rfl
  | d + 1, e + 1, a :: r, h1, h2 => by
    have hs := dgo_spec (x := a :: r) (by simp)
    simp only [runesF]
    rw [runesF_more d e _ (by rw [List.length_drop]; simp only [List.length_cons] at *; omega) (by rw [List.length_drop]; simp only [List.length_cons] at *; omega)]
theorem runes_cons {x : List UInt8} (h : x ≠ []) : runes x = ((dgo x).1 : Int) :: runes (x.drop (dgo x).2) := by
  have hs := dgo_spec h
  cases x with
  | nil => exact absurd rfl h
  | cons a r =>
    unfold runes
    rw [show (a :: r).length = r.length + 1 from rfl]
    simp only [runesF]
    rw [runesF_more _ _ _ (by rw [List.length_drop]; simp only [List.length_cons] at *; omega) (Nat.le_refl _)]
theorem runes_nil : runes [] = [] := rfl
def i32s (xs : List Int) : List Value := xs.map fun n => Value.int .i32 n
theorem i32s_length (xs : List Int) : (i32s xs).length = xs.length := by simp [i32s]
theorem i32s_append (a b : List Int) : i32s (a ++ b) = i32s a ++ i32s b := by simp [i32s]
theorem one_i32s {xs : List Int} : ∀ u ∈ i32s xs, u.oneCell' = true := by
  intro u hu
  obtain ⟨x, _, rfl⟩ := List.mem_map.1 hu
  rfl
/-- A slice of runes of one's own. -/
def RS (w : World) (v : Value) (xs : List Int) (L : List Nat) : Prop := Own w 21 1 v xs.length (i32s xs) L
theorem Tabs.ch {w w' : World} {M : List Nat} (h : Lib.Utf8Tabs 1 2 w) (hc : Ch M w w') (h1 : 1 ∉ M) (h2 : 2 ∉ M) : Lib.Utf8Tabs 1 2 w' :=
  ⟨fun c hc' => hc.cell (h.1 c hc') h1, fun i hi => ⟨hc.cell (h.2 i hi).1 h2, hc.cell (h.2 i hi).2 h2⟩⟩
theorem Tabs.lt {w : World} (h : Lib.Utf8Tabs 1 2 w) : 2 < w.heap.size := World.block_lt_of_cell? w ⟨2, 0, none⟩ (h.2 0 (by omega)).1
section
variable {w : World} {K : Value → World → Prop}
theorem push32 {v : Value} {xs : List Int} {L : List Nat} {n : Int} (hx : RS w v xs L) (hl : xs.length ≤ 1048576)
    (k : ∀ v' w' L', RS w' v' (xs ++ [n]) L' → Ch L w w' → (∀ z, z ∈ L' → z ∈ L ∨ w.heap.size ≤ z) → K v' w') : S.v Tryd.prog (Instr.buildSlice 32 1 #[(0, .int .i32 n)]) (fun t w => S.v Tryd.prog (Builtin.append_ #[32, 32] 32 #[v, t]) K w) w := by
  refine bs1 sl32 rfl rfl fun w1 ho1 hc1 hs1 => ?_
  refine ap (m := 1) (news := i32s [n]) sl32 (Own.ch hx hc1 (by simp)) ho1.rd one_i32s (by omega) (by omega) fun v2 w2 L2 ho2 hc2 hl2 => ?_
  refine k v2 w2 L2 ?_ ((hc1.nil (L := L)).trans hc2 (fun x hx => .inl hx)) (fun z hz => ?_)
  · unfold RS
    rw [List.length_append, i32s_append]
    exact ho2
  · rcases hl2 z hz with h | h
    · exact .inl h
    · right; omega
theorem runes_ {v : Value} {B : Nat} {x : List UInt8} (hx : RB w B v x) (hB : B ≤ w.heap.size) (hl : x.length ≤ 1048576) (hT : Lib.Utf8Tabs 1 2 w)
    (k : ∀ v' w' L', RS w' v' (runes x) L' → Ch [] w w' → (∀ z, z ∈ L' → w.heap.size ≤ z) → K v' w') : S.call Tryd.prog 30 [v] K w := by
  refine F30_link ?_
  unfold F30
  intro I hC
  have hlt := Tabs.lt hT
  have key : ∀ (d : Nat) (rest : List UInt8) (out : List Int) (v0 v3 x4 x5 x8 : Value) (L3 : List Nat) (w' : World), rest.length ≤ d → RB w' w.heap.size v0 rest → RS w' v3 out L3 → Ch [] w w' → (∀ z, z ∈ L3 → w.heap.size ≤ z) → out.length + rest.length ≤ x.length → runes x = out ++ runes rest → I [v0, v3, x4, x5, x8] w' := by
    intro d
    induction d with
    | zero =>
      intro rest out v0 v3 x4 x5 x8 L3 w' hd hr ho hc hf hlen he
      refine hC _ _ _ _ _ _ ?_
      obtain ⟨A, c, rfl, _⟩ := hr.form
      have : rest = [] := List.eq_nil_of_length_eq_zero (by omega)
      subst this
      rw [len_v el22, gt_v, decide_eq_false (by simp), br_false]
      rw [runes_nil, List.append_nil] at he
      rw [he] at k
      exact k v3 w' L3 ho hc hf
    | succ d ih =>
      intro rest out v0 v3 x4 x5 x8 L3 w' hd hr ho hc hf hlen he
      refine hC _ _ _ _ _ _ ?_
      obtain ⟨A, c, rfl, hcc1, hcc2, _⟩ := hr.form
      have hr' : RB w' w.heap.size (.slice A rest.length c) rest := hr
      rw [len_v el22, gt_v]
      refine br_dec _ _ _ (fun hn => ?_) (fun hn => ?_)
      · have hne : rest ≠ [] := fun e => by rw [e] at hn; simp at hn
        have hs := dgo_spec hne
        refine decode_ hr' (by omega) (Tabs.ch hT hc (by simp) (by simp)) fun w1 hc1 => ?_
        rw [x20, x21]
        have ho1 : RS w1 v3 out L3 := Own.ch ho hc1 (by simp)
        refine push32 ho1 (by omega) fun v4 w2 L4 ho2 hc2 hl2 => ?_
        rw [cutl_v el22 (dgo rest).2 rfl hs.2.1 hcc1]
        have hcw1 : Ch [] w w1 := hc.trans hc1 (by simp)
        have hr2 : RB w2 w.heap.size (.slice A rest.length c) rest := Rd.ch (RB.ch hr' hc1) hc2 hf
        have hcut := hr2.cut' (l := (dgo rest).2) (u := rest.length) hs.2.1 (Nat.le_refl _)
        rw [List.take_of_length_le (by rw [List.length_drop]; omega)] at hcut
        have hsz := hcw1.size
        rw [runes_cons hne] at he
        exact ih (rest.drop (dgo rest).2) (out ++ [((dgo rest).1 : Int)]) _ v4 _ _ _ L4 w2 (by rw [List.length_drop]; omega) hcut ho2 (hcw1.trans hc2 (fun z hz => .inr (hf z hz))) (fun z hz => by
          rcases hl2 z hz with h | h
          · exact hf z h
          · omega) (by rw [List.length_append, List.length_drop]; simp; omega) (by rw [he]; simp)
      · have : rest = [] := List.eq_nil_of_length_eq_zero (by omega)
        subst this
        rw [runes_nil, List.append_nil] at he
        rw [he] at k
        exact k v3 w' L3 ho hc hf
  exact key x.length x [] v _ undef undef undef [] w (Nat.le_refl _) (by
    have := Rd.mono hx hB
    exact this) (Own.nil _ _ _) (Ch.refl _ _) (by simp) (by simp) (by simp)
end
end Go.Proofs.YthpbiliajcameaaDoor
