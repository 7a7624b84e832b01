import Derived.Test.YtbhgindbdojmmaaH3
set_option linter.unusedVariables false
set_option maxRecDepth 4000
namespace Go.Proofs.Ytbhgindbdojmmaa
open Go Go.Fw Go.Proofs Go.RowKit
theorem guard36 : Try.prog.eqGuardType Try.prog.depth 36 = false := by kernel_rfl
theorem sc9' : scal Try.prog 9 = true := by kernel_rfl
theorem und2 : Try.prog.underlying 2 = some (.int .i64) := by kernel_rfl
theorem isAgg9 (w : World) : (isAgg 9).run Try.prog w = .ok false w := run_isAgg_scal sc9 w
theorem isAgg2 (w : World) : (isAgg 2).run Try.prog w = .ok false w := run_isAgg_scal sc2 w
theorem run_eq36 (w : World) (d : Nat) (a b : HL) : (Op.equalIn (d + 2) 36 (hlV a) (hlV b)).run Try.prog w = .ok (decide (a = b)) w := by
  unfold hlV
  rw [run_equalIn_struct (P := Try.prog) w (d + 1) 36 _ _ (by kernel_rfl) (by kernel_rfl)]
  have hu := Try.underlying36
  unfold Program.fieldsOf
  rw [hu]
  have e9 : (Op.equalIn (d + 1) 9 (strV a.1) (strV b.1)).run Try.prog w = .ok (decide (a.1 = b.1)) w := by
    unfold Op.equalIn strV
    rw [Sem.run_bind, run_underlying und9]
    have : ((⟨a.1.toArray⟩ : ByteArray) == ⟨b.1.toArray⟩) = decide (a.1 = b.1) := by
      by_cases h : a.1 = b.1 <;> simp [h, beq_toListBytes, ByteArray.toList_mk]
    simp [this]
  have e2 : (Op.equalIn (d + 1) 2 (.int .i64 a.2) (.int .i64 b.2)).run Try.prog w = .ok (decide (a.2 = b.2)) w := by
    unfold Op.equalIn
    rw [Sem.run_bind, run_underlying und2]
    have : (a.2 == b.2) = decide (a.2 = b.2) := by by_cases h : a.2 = b.2 <;> simp [h]
    simp [this]
  have hx : decide (a = b) = (decide (a.1 = b.1) && decide (a.2 = b.2)) := by
    by_cases h1 : a.1 = b.1 <;> by_cases h2 : a.2 = b.2 <;> simp [Prod.ext_iff, h1, h2]
  rw [hx]
  generalize decide (a.1 = b.1) = r1 at e9 ⊢
  generalize decide (a.2 = b.2) = r2 at e2 ⊢
  cases r1 <;> cases r2 <;> simp [Op.eqFields, part, isAgg9, isAgg2, e9, e2]
theorem run_ne36 (w : World) (x y : Operand) (a b : HL) : (S.bin .neq 36 x y (hlV a) (hlV b)).run Try.prog w = .ok (.bool (decide (a ≠ b))) w := by
  have h := run_eq36 w 9998 a b
  have hd : decide (a ≠ b) = !decide (a = b) := by by_cases h : a = b <;> simp [h]
  have hg : (eqGuard .neq 36 x y (hlV a) (hlV b)).run Try.prog w = .ok () w := by
    unfold eqGuard hlV
    simp [run_program, guard36]
  unfold S.bin
  rw [Sem.run_bind, hg, Result.andThen_ok, hd]
  have hb : binOp .neq 36 (hlV a) (hlV b) = (do pure (.bool (!(← Op.equal 36 (hlV a) (hlV b))))) := rfl
  have he : (Op.equal 36 (hlV a) (hlV b)).run Try.prog w = .ok (decide (a = b)) w := h
  rw [hb, Sem.run_bind, he]; rfl
theorem run_eql36 (w : World) (x y : Operand) (a b : HL) : (S.bin .eql 36 x y (hlV a) (hlV b)).run Try.prog w = .ok (.bool (decide (a = b))) w := by
  have h := run_eq36 w 9998 a b
  have hg : (eqGuard .eql 36 x y (hlV a) (hlV b)).run Try.prog w = .ok () w := by
    unfold eqGuard hlV
    simp [run_program, guard36]
  unfold S.bin
  rw [Sem.run_bind, hg, Result.andThen_ok]
  have hb : binOp .eql 36 (hlV a) (hlV b) = (do pure (.bool (← Op.equal 36 (hlV a) (hlV b)))) := rfl
  have he : (Op.equal 36 (hlV a) (hlV b)).run Try.prog w = .ok (decide (a = b)) w := h
  rw [hb, Sem.run_bind, he]; rfl
theorem run_min (w : World) (ats : Array TypeId) (ty : TypeId) (k : IntKind) (a b : Int) : (Builtin.min_ ats ty #[.int k a, .int k b]).run Try.prog w = .ok (.int k (min a b)) w := by
  have : (if b < a then b else a) = min a b := by omega
  show (Builtin.min2 _ _ >>= fun x => pure x : Sem Value).run Try.prog w = _
  simp [Builtin.min2, this]
theorem run_max (w : World) (ats : Array TypeId) (ty : TypeId) (k : IntKind) (a b : Int) : (Builtin.max_ ats ty #[.int k a, .int k b]).run Try.prog w = .ok (.int k (max a b)) w := by
  have : (if b > a then b else a) = max a b := by omega
  show (Builtin.max2 _ _ >>= fun x => pure x : Sem Value).run Try.prog w = _
  simp [Builtin.max2, this]
/-- A word that is held in one world alone: as at that world. -/
theorem h_p {P : Program} {s : Sem Value} {K : Value → World → Prop} {w : World} : S.h P (fun w' => w' = w) s K w = S.p P s K w := by
  unfold S.h S.p
  exact propext ⟨fun ⟨x, h, k⟩ => ⟨x, h w rfl, k⟩, fun ⟨x, h, k⟩ => ⟨x, fun w' e => by rw [e]; exact h, k⟩⟩
end Go.Proofs.Ytbhgindbdojmmaa
