import Derived.Test.YtipgdmaagiijmaaF18
set_option maxRecDepth 100000
set_option linter.unusedVariables false
set_option linter.unusedSectionVars false
namespace Go.SX
open Go.Proofs
variable {u w : World} {L B : List Hp} {b : Nat} {M : Hp}
theorem eq_int {w : World} {d : Nat} (x : Int) : (Op.equalIn (d + 1) 3 (.int .i64 x) (.int .i64 x)).run Try.prog w = .ok true w := by
  have hu := (hT.ok 3 _ rfl).und
  simp only [Op.equalIn, Sem.run_bind, run_underlying hu, Result.andThen_ok]
  simp
theorem eq_f32 {w : World} {d : Nat} {x : Nat} (h : fcmp .eql .f32 x x = true) : (Op.equalIn (d + 1) 23 (.float .f32 x) (.float .f32 x)).run Try.prog w = .ok true w := by
  have hu := (hT.ok 23 _ rfl).und
  simp only [Op.equalIn, Sem.run_bind, run_underlying hu, Result.andThen_ok]
  have h' : Op.floatEq .f32 x x = true := h
  simp [h']
theorem stood31 : Try.prog.stoodInHeld 31 = false := by kernel_rfl
theorem run_part1 {w : World} {t : TypeId} {i : TInfo} (ht : tk TB t = some i) (hi : i.agg = false) {xs : Array Value} {off : Nat} {v : Value} (h : xs[off]? = some v) : (part t xs off).run Try.prog w = .ok v w := by
  have hok := hT.ok t _ ht
  unfold part
  simp only [Sem.run_bind, hok.run_agg, Result.andThen_ok, hi, Bool.false_eq_true, if_false, h, Sem.run_pure]
theorem eq_ev {w : World} {d : Nat} {e : Ev} (h : fcmp .eql .f32 e.force e.force = true) : (Op.equalIn (d + 2) 31 (.agg e.cells.toArray) (.agg e.cells.toArray)).run Try.prog w = .ok true w := by
  have hu := (hT.ok 31 _ rfl).und
  unfold Op.equalIn
  simp only [Sem.run_bind, run_underlying hu, Result.andThen_ok, run_program, stood31]
  rw [if_neg Bool.false_ne_true]
  simp only [List.forIn_toArray, List.forIn_cons, List.forIn_nil]
  have p0 : (part 3 e.cells.toArray 0).run Try.prog w = .ok (.int .i64 e.at_) w := run_part1 rfl rfl rfl
  have p1 : (part 3 e.cells.toArray 1).run Try.prog w = .ok (.int .i64 e.kind) w := run_part1 rfl rfl rfl
  have p2 : (part 3 e.cells.toArray 2).run Try.prog w = .ok (.int .i64 e.body) w := run_part1 rfl rfl rfl
  have p3 : (part 3 e.cells.toArray 3).run Try.prog w = .ok (.int .i64 e.shape) w := run_part1 rfl rfl rfl
  have p4 : (part 3 e.cells.toArray 4).run Try.prog w = .ok (.int .i64 e.count) w := run_part1 rfl rfl rfl
  have p5 : (part 23 e.cells.toArray 5).run Try.prog w = .ok (.float .f32 e.force) w := run_part1 rfl rfl rfl
  have q1 : ("At" : String) ≠ "_" := by decide
  have q2 : ("Kind" : String) ≠ "_" := by decide
  have q3 : ("Body" : String) ≠ "_" := by decide
  have q4 : ("Shape" : String) ≠ "_" := by decide
  have q5 : ("Count" : String) ≠ "_" := by decide
  have q6 : ("Force" : String) ≠ "_" := by decide
  simp only [if_pos q1, if_pos q2, if_pos q3, if_pos q4, if_pos q5, if_pos q6, Sem.run_bind, p0, p1, p2, p3, p4, p5, eq_int, eq_f32 h, Result.andThen_ok, Bool.not_true, Bool.false_eq_true, if_false, Sem.run_pure]
theorem equal_ev {w : World} {e : Ev} (h : fcmp .eql .f32 e.force e.force = true) : (Op.equal 31 (.agg e.cells.toArray) (.agg e.cells.toArray)).run Try.prog w = .ok true w := by
  have := @eq_ev w 9998 e h
  exact this
theorem guard31 : Try.prog.eqGuardType Try.prog.depth 31 = false := by kernel_rfl
theorem neq_ev {w : World} {e : Ev} (h : fcmp .eql .f32 e.force e.force = true) (ox oy : Operand) : (do eqGuard .neq 31 ox oy (.agg e.cells.toArray) (.agg e.cells.toArray); binOp .neq 31 (.agg e.cells.toArray) (.agg e.cells.toArray)).run Try.prog w = .ok (.bool false) w := by
  have e1 : (eqGuard .neq 31 ox oy (.agg e.cells.toArray) (.agg e.cells.toArray)).run Try.prog w = .ok () w := by
    unfold eqGuard
    simp only [Bool.not_true, Bool.false_eq_true, if_false, Sem.run_bind, run_program, Result.andThen_ok, guard31, Bool.not_false, if_true, Sem.run_pure]
  rw [Sem.run_bind, e1]
  simp only [Result.andThen_ok, binOp, Sem.run_bind, equal_ev h, Sem.run_pure, Bool.not_true]
end Go.SX
