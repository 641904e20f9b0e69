/-
  What ParseSituation hands back. Conditions: none.
-/
import Derived.Test.YtcebbmikgpipeaaGreatDoorQO
import Derived.Test.YtcebbmikgpipeaaGreatDoorQT
namespace Go.Proofs.YtcebbmikgpipeaaGreatDoor
open Go Go.RowKit
set_option maxRecDepth 100000
set_option maxHeartbeats 8000000
theorem l18One_q {a b c d e f : Int} {q : Bool} (hq : sitB a b c d e f = q) (w : World) : Calls Tryz.prog 19 #[.agg #[.int .i64 a, .int .i64 b, .int .i64 c, .int .i64 d, .int .i64 e, .int .i64 f]] w fun e w' => e = .returned (.bool q) ∧ Below w.heap.size w w' := by
  rw [← hq]; exact l18One_any a b c d e f w
theorem sitOf_no {s : ByteArray} (h : ∀ a b c d e f, sitB a b c d e f = true → ¬ sitTextI a b c d e f = s) : SitOf s 0 0 0 0 0 0 false := .inr ⟨rfl, rfl, rfl, rfl, rfl, rfl, rfl, h⟩
/-- what ParseSituation hands back -/
def PS (s : ByteArray) (w : World) (r : Ending) (w' : World) : Prop := ∃ a b c d e f q, SitOf s a b c d e f q ∧ r = .returned (.tuple #[.agg #[.int .i64 a, .int .i64 b, .int .i64 c, .int .i64 d, .int .i64 e, .int .i64 f], .bool q]) ∧ Below w.heap.size w w'
theorem PS.mk {s : ByteArray} {w w' : World} {a b c d e f : Int} {q : Bool} (h : SitOf s a b c d e f q) (hb : Below w.heap.size w w') : PS s w (.returned (.tuple #[.agg #[.int .i64 a, .int .i64 b, .int .i64 c, .int .i64 d, .int .i64 e, .int .i64 f], .bool q])) w' := ⟨a, b, c, d, e, f, q, h, rfl, hb⟩
theorem rd_word {w : World} {b off : Nat} {L : List ByteArray} {n j : Nat} {x : ByteArray} (h : Rd w 1 (some ⟨b, off, none⟩) n (strs L)) (hj : j < L.length) (hx : L.getD j ⟨#[]⟩ = x) : w.cell? ⟨b, off + j, none⟩ = some (.string x) := by
  have hn : n = L.length := by have := h.1; simp [strs] at this; exact this.symm
  subst hn
  obtain ⟨b', off', e, hlt, hc⟩ := h.2 (by omega)
  simp only [Option.some.injEq, Addr.mk.injEq, and_true] at e
  obtain ⟨rfl, rfl⟩ := e
  exact hc j _ (by rw [strs_at hj, hx])
end Go.Proofs.YtcebbmikgpipeaaGreatDoor
