/-
  Two arrays of two ints compared by '=='. Conditions: none.
-/
import Derived.Test.YthgabapegpndnaaPM
import Derived.Laws.StructEq
namespace Go.Proofs.Ythgabapegpndnaa
open Go.RowKit Go
set_option maxRecDepth 100000
set_option maxHeartbeats 1000000

theorem equalIn_pr (d : Nat) (x y a b : Int) (w : World) : (Op.equalIn (d + 1 + 1) 55 (.agg #[.int .i64 x, .int .i64 y]) (.agg #[.int .i64 a, .int .i64 b])).run Try.prog w = .ok (x == a && y == b) w := by
  have hu := Try.underlying55
  have h3 := Try.underlying3
  have hs := Try.sizeOf3
  have ha := Try.isAgg3
  rw [Op.equalIn]
  simp only [Sem.run_bind, run_underlying hu, Result.andThen_ok, hs, Std.Legacy.Range.forIn_eq_forIn_range', Std.Legacy.Range.size]
  simp only [Nat.sub_zero, Nat.add_sub_cancel, Nat.div_one, List.range', List.forIn_cons, List.forIn_nil, Sem.run_bind, part, ha, Result.andThen_ok]
  have he := fun (a b : Int) (w : World) => run_equalIn_int (P := Try.prog) w d 3 .i64 .i64 a b h3
  rcases hx : (x == a) with _ | _ <;> rcases hy : (y == b) with _ | _ <;> simp [he, hx, hy, ha]
theorem eqlPr (x y a b : Int) (v : Bool) (hv : (x == a && y == b) = v) (w : World) : (binOp .eql 55 (.agg #[.int .i64 x, .int .i64 y]) (.agg #[.int .i64 a, .int .i64 b])).run Try.prog w = .ok (.bool v) w := by
  rw [run_eql_struct, show (10000 : Nat) = 9998 + 1 + 1 from rfl, equalIn_pr, hv]
  rfl
theorem guardPr (x y : Operand) (xs ys : Array Value) (w : World) : (eqGuard .eql 55 x y (.agg xs) (.agg ys)).run Try.prog w = .ok () w := run_eqGuard_agg w .eql 55 x y xs ys (by kernel_rfl)
end Go.Proofs.Ythgabapegpndnaa
