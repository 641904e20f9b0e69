/-
  The law over the order of a text, walked. Conditions: what the library's variables hold.
-/
import Derived.Test.YthblodglmmaocaaDoorPX
namespace Go.Proofs.YthblodglmmaocaaDoor
open Go Go.RowKit
set_option maxRecDepth 100000
set_option maxHeartbeats 8000000

theorem eqOrder_same (i : Int) (k : ByteArray) (c u t : Int) (w : World) : Calls Tryd.prog 6 #[.agg #[.int .i64 i, .string k, .int .i64 c, .int .i64 u, .int .i64 t], .agg #[.int .i64 i, .string k, .int .i64 c, .int .i64 u, .int .i64 t]] w fun e w' => e = .returned (.bool true) ∧ Below w.heap.size w w' := by
  have f1 := str_yes (rfl : k = k)
  go_enter Tryd.func6, Tryd.ntmps6
  go_upto_region 1 with fail
  refine wp_gen (fun W => Below w.heap.size w W ∧ Bk W w.heap.size 23 [.int .i64 i, .string k, .int .i64 c, .int .i64 u, .int .i64 t] ∧ Bk W (w.heap.size + 1) 23 [.int .i64 i, .string k, .int .i64 c, .int .i64 u, .int .i64 t]) ⟨by (repeat' (first | (with_reducible exact Below.refl _ _) | (with_reducible assumption) | (with_reducible refine balloc ?_ _) | (with_reducible refine bdrew ?_) | (with_reducible refine bdrewN ?_ _) | (with_reducible refine bstep ?_ (by assumption)) | (with_reducible refine bset ?_ ?_ _) | (exact Below.size (by assumption)) | go_size)), (Bk.new _ _ _).alloc _, Bk.new' (by simp)⟩ ?_
  intro W ⟨bW, kA, kB⟩
  have a0 := kA.cell 0
  have a1 := kA.cell 1
  have a2 := kA.cell 2
  have a3 := kA.cell 3
  have a4 := kA.cell 4
  have fa0 := kA.frozen 0
  have fa1 := kA.frozen 1
  have fa2 := kA.frozen 2
  have fa3 := kA.frozen 3
  have fa4 := kA.frozen 4
  have la := kA.lt
  simp only [List.getElem?_cons_zero, List.getElem?_cons_succ] at a0 a1 a2 a3 a4
  have b0 := kB.cell 0
  have b1 := kB.cell 1
  have b2 := kB.cell 2
  have b3 := kB.cell 3
  have b4 := kB.cell 4
  have fb0 := kB.frozen 0
  have fb1 := kB.frozen 1
  have fb2 := kB.frozen 2
  have fb3 := kB.frozen 3
  have fb4 := kB.frozen 4
  have lb := kB.lt
  simp only [List.getElem?_cons_zero, List.getElem?_cons_succ] at b0 b1 b2 b3 b4
  clear kA kB
  go_wp2
  all_goals first
    | (go_returns; exact ⟨rfl, bW⟩)
    | (exfalso; rename_i h9; rw [f1] at h9; simp at h9; done)
theorem fnExactParseOrder_walk (s : ByteArray) (w : World) (_ : s.size ≤ maxLen) (hE : Ev w) : Calls Tryd.prog 3 #[.string s] w fun e w' => e = .returned (.bool true) ∧ Below w.heap.size w w' := by
  by_cases hs : s.size ≤ 1048576
  case neg =>
    have i1 : (1048576 : Int) < (s.size : Int) := by omega
    go_enter Tryd.func3, Tryd.ntmps3
    go_wp2
    go_returns
    exact ⟨rfl, Below.refl _ _⟩
  have i1 : ¬ (1048576 : Int) < (s.size : Int) := by omega
  have H1 := Lib.hid (fun W => sParseOrder_is hs W)
  have H2 := Lib.hid (fun W (h : Ev W) => ParseOrder_is hs W h)
  have HE := Lib.hid hE
  clear hE
  go_enter Tryd.func3, Tryd.ntmps3
  go_upto_region 4 with (go_at_call 4; refine (H1.out _).mono ?_; rintro e w1 ⟨i, k, c, u, t, q, hO, rfl, b1⟩)
  obtain ⟨g3, hg3⟩ : ∃ g, w1.heap.size = g := ⟨_, rfl⟩
  refine wp_gen (fun W => Below w.heap.size w W ∧ Bk W g3 23 [.int .i64 i, .string k, .int .i64 c, .int .i64 u, .int .i64 t]) ⟨by (repeat' (first | (with_reducible exact Below.refl _ _) | (with_reducible assumption) | (with_reducible refine balloc ?_ _) | (with_reducible refine bdrew ?_) | (with_reducible refine bdrewN ?_ _) | (with_reducible refine bstep ?_ (by assumption)) | (with_reducible refine bset ?_ ?_ _) | (exact Below.size (by assumption)) | go_size)), Bk.new' hg3⟩ ?_
  (try rw [hg3])
  clear hg3
  intro W1 ⟨bW, kA⟩
  go_upto_region 5 with (go_at_call 5; refine (H2.out _ (HE.out.below bW)).mono ?_; rintro e w2 ⟨i', k', c', u', t', q', hO', rfl, b2⟩)
  obtain ⟨rfl, rfl, rfl, rfl, rfl, rfl⟩ := hO.one hO'
  obtain ⟨g5, hg5⟩ : ∃ g, w2.heap.size = g := ⟨_, rfl⟩
  refine wp_gen (fun W => Below w.heap.size w W ∧ Bk W g3 23 [.int .i64 i, .string k, .int .i64 c, .int .i64 u, .int .i64 t] ∧ Bk W g5 23 [.int .i64 i, .string k, .int .i64 c, .int .i64 u, .int .i64 t]) ⟨balloc (bstep bW b2) _, (kA.below b2 kA.lt).alloc _, Bk.new' hg5⟩ ?_
  (try rw [hg5])
  clear hg5 bW kA b2 hO hO'
  intro W2 ⟨bW, kA, kB⟩
  have a0 := kA.cell 0
  have a1 := kA.cell 1
  have a2 := kA.cell 2
  have a3 := kA.cell 3
  have a4 := kA.cell 4
  have fa0 := kA.frozen 0
  have fa1 := kA.frozen 1
  have fa2 := kA.frozen 2
  have fa3 := kA.frozen 3
  have fa4 := kA.frozen 4
  have la := kA.lt
  simp only [List.getElem?_cons_zero, List.getElem?_cons_succ] at a0 a1 a2 a3 a4
  have b0 := kB.cell 0
  have b1 := kB.cell 1
  have b2 := kB.cell 2
  have b3 := kB.cell 3
  have b4 := kB.cell 4
  have fb0 := kB.frozen 0
  have fb1 := kB.frozen 1
  have fb2 := kB.frozen 2
  have fb3 := kB.frozen 3
  have fb4 := kB.frozen 4
  have lb := kB.lt
  simp only [List.getElem?_cons_zero, List.getElem?_cons_succ] at b0 b1 b2 b3 b4
  have hqq : (q == q) = true := beq_self_eq_true q
  have hqn : (q != q) = false := by cases q <;> rfl
  go_wp2_with fail
  refine (eqOrder_same i k c u t W2).mono ?_
  rintro e w3 ⟨rfl, b3⟩
  go_wp2
  all_goals (go_returns; exact ⟨rfl, bstep bW b3⟩)
end Go.Proofs.YthblodglmmaocaaDoor
