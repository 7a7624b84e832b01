import Derived.Test.YthpbiliajcameaaDoorShelf
import Derived.Test.YthpbiliajcameaaDoorN1
import Derived.Lib.Replace
set_option linter.unusedVariables false
set_option maxRecDepth 4000
namespace Go.Proofs.YthpbiliajcameaaDoor
open Go Go.Fw Go.Proofs Go.RowKit
/-! ### The library's calls -/
def numsOf (bs : List UInt8) : List Int := bs.map fun b => (b.toNat : Int)
theorem bytesOf_nums (bs : List UInt8) : Lib.bytesOf (numsOf bs) = bs := by
  unfold Lib.bytesOf numsOf
  rw [List.map_map]
  conv => rhs; rw [← List.map_id bs]
  refine List.map_congr_left fun b _ => ?_
  simp
theorem nums_len (bs : List UInt8) : (numsOf bs).length = bs.length := by simp [numsOf]
theorem nums_range (bs : List UInt8) : ∀ x ∈ numsOf bs, 0 ≤ x ∧ x < 256 := by
  intro x hx
  obtain ⟨b, _, rfl⟩ := List.mem_map.1 hx
  have := b.toNat_lt
  omega
theorem RB.bin {w : World} {B n c : Nat} {A : Option Addr} {bs : List UInt8} (h : RB w B (.slice A n c) bs) : n = bs.length ∧ n ≤ c ∧ c ≤ maxLen ∧ Lib.BytesIn w A n (numsOf bs) := by
  obtain ⟨A', c', he, h2, h3, h4, h5⟩ := h.form
  injection he with e1 e2 e3
  subst e1 e2 e3
  refine ⟨rfl, h2, h3, fun hn => ?_⟩
  obtain ⟨b, off, rfl, _⟩ := h4 hn
  refine ⟨b, off, rfl, fun i hi => ?_⟩
  refine h5 b off rfl i _ ?_
  have : (bytesV bs)[i]? = some (byteV bs[i]) := by simp [bytesV, hi]
  rw [this]
  simp [numsOf, byteV, hi]
theorem ch_drewN (w : World) (q : Nat) : Ch [] w (w.drewN q) := ⟨rfl, rfl, rfl, Nat.le_refl _, fun _ _ _ => rfl⟩
theorem ch_of_below {w w' : World} (h : Below w.heap.size w w') : Ch [] w w' := ⟨h.os, h.tape, h.output, h.size, fun k hk _ => h.block k hk⟩
section
variable {w : World} {K : Value → World → Prop}
theorem hasSuffix_ {B B' : Nat} {A A' : Option Addr} {c c' : Nat} {x t : List UInt8} (hx : RB w B (.slice A x.length c) x) (ht : RB w B' (.slice A' t.length c') t) (k : K (.bool (Lib.hasSuffix x t)) w) : S.call Tryd.prog 28 [.slice A x.length c, .slice A' t.length c'] K w := by
  obtain ⟨_, h2, h3, h4⟩ := hx.bin
  obtain ⟨_, g2, g3, g4⟩ := ht.bin
  refine Calls.mono (Tryd.bytes_HasSuffix_all A A' x.length c t.length c' (numsOf x) (numsOf t) w (nums_len _) (nums_len _) h2 (by simp only [maxLen] at h3; omega) h4 g4) ?_
  rintro e w' ⟨rfl, rfl⟩
  rw [bytesOf_nums, bytesOf_nums]
  exact k
theorem RB.ne {w : World} {B n c : Nat} {A : Option Addr} {bs : List UInt8} (h : RB w B (.slice A n c) bs) (hn : 0 < bs.length) : ∃ b o, A = some ⟨b, o, none⟩ ∧ ∀ i, i < bs.length → w.cell? ((⟨b, o, none⟩ : Addr).add i) = some (.int .u8 ((numsOf bs).getD i 0)) := by
  obtain ⟨h1, _, _, h4⟩ := h.bin
  obtain ⟨b, o, hA, hc⟩ := h4 (by omega)
  exact ⟨b, o, hA, fun i hi => by rw [add_mk]; exact hc i (by omega)⟩
theorem count_nil {t : List UInt8} (h : 1 ≤ t.length) : Lib.count [] t = 0 := by
  cases t with
  | nil => simp at h
  | cons a r => exact Lib.count_miss (by simp [Lib.index])
theorem count_ {B' : Nat} {v : Value} {A' : Option Addr} {c' : Nat} {x t : List UInt8} {L : List Nat} {m : Int} (hx : BS w v x L) (ht : RB w B' (.slice A' t.length c') t) (hl : x.length ≤ 1048576) (ht1 : 1 ≤ t.length) (htl : t.length ≤ 100) (hm : w.cell? ⟨0, 0, none⟩ = some (.int .i64 m))
    (k : ∀ w', Ch [] w w' → K (I64 (Lib.count x t : Nat)) w') : S.call Tryd.prog 44 [v, .slice A' t.length c'] K w := by
  obtain ⟨b', o', rfl, g5⟩ := ht.ne (by omega)
  rcases hx.form with ⟨rfl, hx0, _⟩ | ⟨g, off, cap, cur, rfl, rfl, _, h2, h3, _, _⟩
  · have : x = [] := List.eq_nil_of_length_eq_zero hx0
    subst this
    refine Calls.mono (Tryd.bytes_Count_nil_any (some ⟨b', o', none⟩) t.length c' w ht1 (by omega) (fun h1 => ⟨b', o', _, rfl, by have := g5 0 (by omega); simpa [Addr.add] using this⟩)) ?_
    rintro e w' ⟨rfl, rfl⟩
    rw [count_nil ht1] at k
    exact k _ (Ch.refl _ _)
  · have hr : RB w w.heap.size (.slice (some ⟨g, off, none⟩) x.length cap) x := Own.rd hx
    have h5 : ∀ i, i < x.length → w.cell? ((⟨g, off, none⟩ : Addr).add i) = some (.int .u8 ((numsOf x).getD i 0)) := fun i hi => by
      obtain ⟨b, o, hA, h5⟩ := hr.ne (by omega)
      injection hA with hA
      rw [hA]
      exact h5 i hi
    refine Calls.mono (Tryd.bytes_Count_any _ _ x.length cap t.length c' (numsOf x) (numsOf t) m w (nums_len _) (nums_len _) (nums_range _) (nums_range _) h5 g5 h2 (by omega) (by omega) ht1 hm) ?_
    rintro e w' ⟨rfl, q, rfl⟩
    rw [bytesOf_nums, bytesOf_nums]
    exact k _ (ch_drewN w q)
theorem index_ {B B' n : Nat} {A A' : Option Addr} {c c' : Nat} {x t : List UInt8} {m : Int} (hx : RB w B (.slice A n c) x) (ht : RB w B' (.slice A' t.length c') t) (hx1 : 1 ≤ x.length) (hl : x.length ≤ 1048576) (ht1 : 1 ≤ t.length) (htl : t.length ≤ 100) (hm : w.cell? ⟨0, 0, none⟩ = some (.int .i64 m))
    (k : ∀ w', Ch [] w w' → K (I64 (Lib.index x t)) w') : S.call Tryd.prog 45 [.slice A n c, .slice A' t.length c'] K w := by
  obtain ⟨rfl, h2, h3, h4⟩ := hx.bin
  obtain ⟨b', o', rfl, g5⟩ := ht.ne (by omega)
  obtain ⟨b, o, rfl, h5⟩ := hx.ne hx1
  refine Calls.mono (Tryd.bytes_Index_at _ _ x.length c t.length c' (numsOf x) (numsOf t) m w (nums_len _) (nums_len _) (nums_range _) (nums_range _) h5 g5 h2 (by omega) (by omega) hm) ?_
  rintro e w' ⟨rfl, q, rfl⟩
  rw [bytesOf_nums, bytesOf_nums]
  exact k _ (ch_drewN w q)
/-- What Go's decoder makes of the head of a list of bytes. -/
def dgo (x : List UInt8) : Nat × Nat := Lib.decodeGo ⟨x.toArray⟩
theorem decode_ {B n : Nat} {A : Option Addr} {c : Nat} {x : List UInt8} (hx : RB w B (.slice A n c) x) (hx1 : 1 ≤ x.length) (hT : Lib.Utf8Tabs 1 2 w)
    (k : ∀ w', Ch [] w w' → K (.tuple #[.int .i32 (dgo x).1, I64 (dgo x).2]) w') : S.call Tryd.prog 40 [.slice A n c] K w := by
  obtain ⟨rfl, h2, h3, h4⟩ := hx.bin
  obtain ⟨b, o, rfl, h5⟩ := hx.ne hx1
  have hs : (⟨x.toArray⟩ : ByteArray).size = x.length := size_str x
  have hc := Tryd.utf8_DecodeRune ⟨x.toArray⟩ b o c w hT (fun j hj => by
    rw [hs] at hj
    have := h5 j hj
    rw [add_mk] at this
    rw [this]
    have e : (⟨x.toArray⟩ : ByteArray).get! j = x[j] := by
      show x.toArray[j]! = x[j]
      rw [getElem!_pos _ _ (by simpa using hj)]
      simp
    rw [e]
    simp [numsOf, hj])
  rw [hs] at hc
  refine Calls.mono hc ?_
  rintro e w' ⟨rfl, hb⟩
  exact k _ (ch_of_below hb)
end
end Go.Proofs.YthpbiliajcameaaDoor
