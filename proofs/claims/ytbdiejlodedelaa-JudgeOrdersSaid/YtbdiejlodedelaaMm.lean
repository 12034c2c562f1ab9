/- max and min of two ints, without parting the ways. -/
import Derived.Test.YtbdiejlodedelaaOps
namespace Go.Proofs.Ytbdiejlodedelaa
set_option linter.unusedSimpArgs false
set_option linter.unusedVariables false
set_option linter.unnecessarySimpa false
open Go.RowKit
section
variable {P : Program}

theorem wpList_max {ops : Array Oper} {rest : List Oper} {o : Oper} {a : Act} {w : World} {Q : Exit → Act → World → Prop} (hgd : o.guard = none) (x y : Operand) (ts : Array TypeId)
    (ho : o.op = .call { callee := .builtin .max, args := #[x, y], argTypes := ts }) (u v : Int) (hx : a.eval x = .int .i64 u) (hy : a.eval y = .int .i64 v)
    (h : wpList P ops Q rest (a.put o.dst (.int .i64 (max u v))) w) : wpList P ops Q (o :: rest) a w := by
  refine wpList_plain hgd fun K hK => ?_
  have hr : (Builtin.max_ ts o.type #[.int .i64 u, .int .i64 v]).run P w = .ok (.int .i64 (max u v)) w := by
    by_cases hc : v ≤ u
    · have h1 : max u v = u := by omega
      have h2 : ¬ u < v := by omega
      simp [Builtin.max_, Builtin.max2, h1]
      intro h3; omega
    · have h1 : max u v = v := by omega
      have h2 : u < v := by omega
      simp [Builtin.max_, Builtin.max2, h1]
      intro h3; omega
  unfold Oper.wp execOp
  simp only [ho, resolve, invoke, builtin, Sem.run_bind, Sem.run_pure, Result.andThen_ok, List.map_toArray, List.map_cons, List.map_nil, hx, hy, hr]
  exact hK _ _ h

theorem wpList_min {ops : Array Oper} {rest : List Oper} {o : Oper} {a : Act} {w : World} {Q : Exit → Act → World → Prop} (hgd : o.guard = none) (x y : Operand) (ts : Array TypeId)
    (ho : o.op = .call { callee := .builtin .min, args := #[x, y], argTypes := ts }) (u v : Int) (hx : a.eval x = .int .i64 u) (hy : a.eval y = .int .i64 v)
    (h : wpList P ops Q rest (a.put o.dst (.int .i64 (min u v))) w) : wpList P ops Q (o :: rest) a w := by
  refine wpList_plain hgd fun K hK => ?_
  have hr : (Builtin.min_ ts o.type #[.int .i64 u, .int .i64 v]).run P w = .ok (.int .i64 (min u v)) w := by
    by_cases hc : u ≤ v
    · have h1 : min u v = u := by omega
      simp [Builtin.min_, Builtin.min2, h1]
      intro h3; omega
    · have h1 : min u v = v := by omega
      simp [Builtin.min_, Builtin.min2, h1]
      intro h3; omega
  unfold Oper.wp execOp
  simp only [ho, resolve, invoke, builtin, Sem.run_bind, Sem.run_pure, Result.andThen_ok, List.map_toArray, List.map_cons, List.map_nil, hx, hy, hr]
  exact hK _ _ h
end
end Go.Proofs.Ytbdiejlodedelaa
