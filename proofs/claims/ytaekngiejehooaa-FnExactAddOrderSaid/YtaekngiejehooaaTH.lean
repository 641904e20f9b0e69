/-
  The comparing function of the program's inserted, at orders: what it lays. Conditions: the box holds the number's function.
-/
import Derived.Test.YtaekngiejehooaaTG
import Derived.Test.YtaekngiejehooaaZC
namespace Go.Proofs.Ytaekngiejehooaa
open Go.RowKit Go.Lib Go.Sort
set_option maxRecDepth 100000
set_option maxHeartbeats 4000000

theorem orderId_gr (x0 : Int) (x1 : ByteArray) (x2 x3 x4 : Int) (w : World) : Calls Try.prog 48 #[.agg #[.int .i64 x0, .string x1, .int .i64 x2, .int .i64 x3, .int .i64 x4]] w fun e w' => e = .returned (.int .i64 x0) ∧ ∃ q os', w' = grow (w.drewN q) os' := by
  go_enter Try.func48, Try.ntmps48
  go_wp2
  all_goals (go_returns; exact ⟨rfl, 0, _, alloc_eq_grow _ _⟩)
theorem compare_gr (a b : Int) (w : World) : Calls Try.prog 66 #[.int .i64 a, .int .i64 b] w fun e w' => e = .returned (.int .i64 (cmpv a b)) ∧ ∃ q os', w' = grow (w.drewN q) os' :=
  (Compare_any a b w).mono fun _ _ ⟨h1, h2⟩ => ⟨h1, 0, #[], by rw [grow_empty, ← h2]; rfl⟩
theorem inserted1_gr (x0 : Int) (x1 : ByteArray) (x2 x3 x4 : Int) (y0 : Int) (y1 : ByteArray) (y2 y3 y4 : Int) (bx : Nat) (w : World) (hb : w.cell? ⟨bx, 0, none⟩ = some (.func (.func 48) #[] #[])) :
    Calls Try.prog 65 #[.agg #[.int .i64 x0, .string x1, .int .i64 x2, .int .i64 x3, .int .i64 x4], .agg #[.int .i64 y0, .string y1, .int .i64 y2, .int .i64 y3, .int .i64 y4], .pointer (some ⟨bx, 0, none⟩)] w fun e w' => e = .returned (.int .i64 (cmpv x0 y0)) ∧ ∃ q os', w' = grow (w.drewN q) os' := by
  have hx := orderId_gr x0 x1 x2 x3 x4
  have hy := orderId_gr y0 y1 y2 y3 y4
  have hc := compare_gr x0 y0
  have hlt : bx < w.heap.size := World.block_lt_of_cell? _ _ hb
  go_enter Try.func65, Try.ntmps65
  go_wp2_with fail
  have hX : Bk ((w.alloc (.cells #[.int .i64 x0, .string x1, .int .i64 x2, .int .i64 x3, .int .i64 x4] 46)).alloc (.cells #[.int .i64 y0, .string y1, .int .i64 y2, .int .i64 y3, .int .i64 y4] 46)) w.heap.size 46 [.int .i64 x0, .string x1, .int .i64 x2, .int .i64 x3, .int .i64 x4] := (Bk.new w 46 [.int .i64 x0, .string x1, .int .i64 x2, .int .i64 x3, .int .i64 x4]).alloc _
  have hY : Bk ((w.alloc (.cells #[.int .i64 x0, .string x1, .int .i64 x2, .int .i64 x3, .int .i64 x4] 46)).alloc (.cells #[.int .i64 y0, .string y1, .int .i64 y2, .int .i64 y3, .int .i64 y4] 46)) (w.heap.size + 1) 46 [.int .i64 y0, .string y1, .int .i64 y2, .int .i64 y3, .int .i64 y4] := Bk.new' (by simp)
  have hQ : ((w.alloc (.cells #[.int .i64 x0, .string x1, .int .i64 x2, .int .i64 x3, .int .i64 x4] 46)).alloc (.cells #[.int .i64 y0, .string y1, .int .i64 y2, .int .i64 y3, .int .i64 y4] 46)).cell? ⟨bx, 0, none⟩ = some (.func (.func 48) #[] #[]) := by
    rw [alloc_eq_grow, alloc_eq_grow, grow_grow, cell?_grow _ _ _ hlt]; exact hb
  have hW : ((w.alloc (.cells #[.int .i64 x0, .string x1, .int .i64 x2, .int .i64 x3, .int .i64 x4] 46)).alloc (.cells #[.int .i64 y0, .string y1, .int .i64 y2, .int .i64 y3, .int .i64 y4] 46)) = grow (w.drewN 0) #[.cells #[.int .i64 x0, .string x1, .int .i64 x2, .int .i64 x3, .int .i64 x4] 46, .cells #[.int .i64 y0, .string y1, .int .i64 y2, .int .i64 y3, .int .i64 y4] 46] := by
    rw [alloc_eq_grow, alloc_eq_grow, grow_grow]; rfl
  have hz : ((w.alloc (.cells #[.int .i64 x0, .string x1, .int .i64 x2, .int .i64 x3, .int .i64 x4] 46)).alloc (.cells #[.int .i64 y0, .string y1, .int .i64 y2, .int .i64 y3, .int .i64 y4] 46)).heap.size = w.heap.size + 2 := by simp
  generalize ((w.alloc (.cells #[.int .i64 x0, .string x1, .int .i64 x2, .int .i64 x3, .int .i64 x4] 46)).alloc (.cells #[.int .i64 y0, .string y1, .int .i64 y2, .int .i64 y3, .int .i64 y4] 46)) = W at hX hY hQ hW hz ⊢
  have HW := Lib.hid hW
  clear hW
  have cq : ∀ n os, (grow (W.drewN n) os).cell? ⟨bx, 0, none⟩ = some (.func (.func 48) #[] #[]) := fun n os => cell_grown (by show bx < _; omega) hQ n os
  have cx0 : ∀ n os, (grow (W.drewN n) os).cell? ⟨w.heap.size, 0, none⟩ = some (.int .i64 x0) := fun n os => cell_grown (by show w.heap.size < _; omega) (by rw [hX.cell]; rfl) n os
  have cx1 : ∀ n os, (grow (W.drewN n) os).cell? ⟨w.heap.size, 1, none⟩ = some (.string x1) := fun n os => cell_grown (by show w.heap.size < _; omega) (by rw [hX.cell]; rfl) n os
  have cx2 : ∀ n os, (grow (W.drewN n) os).cell? ⟨w.heap.size, 2, none⟩ = some (.int .i64 x2) := fun n os => cell_grown (by show w.heap.size < _; omega) (by rw [hX.cell]; rfl) n os
  have cx3 : ∀ n os, (grow (W.drewN n) os).cell? ⟨w.heap.size, 3, none⟩ = some (.int .i64 x3) := fun n os => cell_grown (by show w.heap.size < _; omega) (by rw [hX.cell]; rfl) n os
  have cx4 : ∀ n os, (grow (W.drewN n) os).cell? ⟨w.heap.size, 4, none⟩ = some (.int .i64 x4) := fun n os => cell_grown (by show w.heap.size < _; omega) (by rw [hX.cell]; rfl) n os
  have cy0 : ∀ n os, (grow (W.drewN n) os).cell? ⟨w.heap.size + 1, 0, none⟩ = some (.int .i64 y0) := fun n os => cell_grown (by show w.heap.size + 1 < _; omega) (by rw [hY.cell]; rfl) n os
  have cy1 : ∀ n os, (grow (W.drewN n) os).cell? ⟨w.heap.size + 1, 1, none⟩ = some (.string y1) := fun n os => cell_grown (by show w.heap.size + 1 < _; omega) (by rw [hY.cell]; rfl) n os
  have cy2 : ∀ n os, (grow (W.drewN n) os).cell? ⟨w.heap.size + 1, 2, none⟩ = some (.int .i64 y2) := fun n os => cell_grown (by show w.heap.size + 1 < _; omega) (by rw [hY.cell]; rfl) n os
  have cy3 : ∀ n os, (grow (W.drewN n) os).cell? ⟨w.heap.size + 1, 3, none⟩ = some (.int .i64 y3) := fun n os => cell_grown (by show w.heap.size + 1 < _; omega) (by rw [hY.cell]; rfl) n os
  have cy4 : ∀ n os, (grow (W.drewN n) os).cell? ⟨w.heap.size + 1, 4, none⟩ = some (.int .i64 y4) := fun n os => cell_grown (by show w.heap.size + 1 < _; omega) (by rw [hY.cell]; rfl) n os
  clear hX hY hQ
  have e48 : ∀ args w, (callFunc 48 args).run Try.prog w = .ok (.enter 48 args) w := enters_of Try.func48 (by kernel_rfl) rfl
  have e66 : ∀ args w, (callFunc 66 args).run Try.prog w = .ok (.enter 66 args) w := enters_of Try.func66 (by kernel_rfl) rfl
  have mixed : Try.prog.follows .mixedOrders = true := by kernel_rfl
  go_quiet_grown (first | (go_at_fn 48; first | exact Calls.grown_of (hx _) | exact Calls.grown_of (hy _)) | (go_at_fn 66; exact Calls.grown_of (hc _)))
  go_wp2
  go_ret
  refine ⟨rfl, 0 + nq, #[.cells #[.int .i64 x0, .string x1, .int .i64 x2, .int .i64 x3, .int .i64 x4] 46, .cells #[.int .i64 y0, .string y1, .int .i64 y2, .int .i64 y3, .int .i64 y4] 46] ++ osq, ?_⟩
  rw [HW.out]
  show grow (grow ((w.drewN 0).drewN nq) _) _ = _
  rw [grow_grow, World.drewN_drewN]
theorem cmpLaysO (g size bx : Nat) (w : World) (hb : w.cell? ⟨bx, 0, none⟩ = some (.func (.func 48) #[] #[])) (hne : bx ≠ g) :
    CmpLays Try.prog 65 #[.pointer (some ⟨bx, 0, none⟩)] encS 5 (fun x y => cmpv x.1.1 y.1.1) g 0 size w := by
  intro m os dk hs x y
  obtain ⟨⟨x0, x1, x2, x3, x4⟩, hx⟩ := x
  obtain ⟨⟨y0, y1, y2, y3, y4⟩, hy⟩ := y
  refine inserted1_gr x0 x1 x2 x3 x4 y0 y1 y2 y3 y4 bx _ ?_
  have hlt : bx < w.heap.size := World.block_lt_of_cell? _ _ hb
  unfold sortWorldK
  rw [cell?_grow _ _ _ (by rw [size_putRowK]; exact hlt), cell?_putRowK_other encS 5 _ g 0 dk _ (by exact hne)]
  exact hb
end Go.Proofs.Ytaekngiejehooaa
