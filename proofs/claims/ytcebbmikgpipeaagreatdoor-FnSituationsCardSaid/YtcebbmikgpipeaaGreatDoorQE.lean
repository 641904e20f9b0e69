/-
  The law over the situation of a text, walked. Conditions: what the library's variables hold.
-/
import Derived.Test.YtcebbmikgpipeaaGreatDoorQX
import Derived.Test.YtcebbmikgpipeaaGreatDoorQW
namespace Go.Proofs.YtcebbmikgpipeaaGreatDoor
open Go Go.RowKit
set_option maxRecDepth 100000
set_option maxHeartbeats 8000000
theorem eqSituation_same (a b c d e f : Int) (w : World) : Calls Tryz.prog 7 #[.agg #[.int .i64 a, .int .i64 b, .int .i64 c, .int .i64 d, .int .i64 e, .int .i64 f], .agg #[.int .i64 a, .int .i64 b, .int .i64 c, .int .i64 d, .int .i64 e, .int .i64 f]] w fun r w' => r = .returned (.bool true) ∧ Below w.heap.size w w' := by
  go_enter Tryz.func7, Tryz.ntmps7
  go_upto_region 1 with fail
  refine wp_gen (fun W => Below w.heap.size w W ∧ Bk W w.heap.size 23 [.int .i64 a, .int .i64 b, .int .i64 c, .int .i64 d, .int .i64 e, .int .i64 f] ∧ Bk W (w.heap.size + 1) 23 [.int .i64 a, .int .i64 b, .int .i64 c, .int .i64 d, .int .i64 e, .int .i64 f]) ⟨by (repeat' (first | (with_reducible exact Below.refl _ _) | (with_reducible assumption) | (with_reducible refine balloc ?_ _) | (with_reducible refine bdrew ?_) | (with_reducible refine bdrewN ?_ _) | (with_reducible refine bstep ?_ (by assumption)) | (with_reducible refine bset ?_ ?_ _) | (exact Below.size (by assumption)) | go_size)), (Bk.new _ _ _).alloc _, Bk.new' (by simp)⟩ ?_
  intro W ⟨bW, kA, kB⟩
  have a0 := kA.cell 0
  have a1 := kA.cell 1
  have a2 := kA.cell 2
  have a3 := kA.cell 3
  have a4 := kA.cell 4
  have a5 := kA.cell 5
  have fa0 := kA.frozen 0
  have fa1 := kA.frozen 1
  have fa2 := kA.frozen 2
  have fa3 := kA.frozen 3
  have fa4 := kA.frozen 4
  have fa5 := kA.frozen 5
  have la := kA.lt
  simp only [List.getElem?_cons_zero, List.getElem?_cons_succ] at a0 a1 a2 a3 a4 a5
  have b0 := kB.cell 0
  have b1 := kB.cell 1
  have b2 := kB.cell 2
  have b3 := kB.cell 3
  have b4 := kB.cell 4
  have b5 := kB.cell 5
  have fb0 := kB.frozen 0
  have fb1 := kB.frozen 1
  have fb2 := kB.frozen 2
  have fb3 := kB.frozen 3
  have fb4 := kB.frozen 4
  have fb5 := kB.frozen 5
  have lb := kB.lt
  simp only [List.getElem?_cons_zero, List.getElem?_cons_succ] at b0 b1 b2 b3 b4 b5
  clear kA kB
  go_wp2
  go_returns
  exact ⟨rfl, bW⟩
theorem fnExactParseSituation_walk (s : ByteArray) (w : World) (_ : s.size ≤ maxLen) (hE : Ev w) : Calls Tryz.prog 3 #[.string s] w fun e w' => e = .returned (.bool true) ∧ Below w.heap.size w w' := by
  by_cases hs : s.size ≤ 1048576
  case neg =>
    have i1 : (1048576 : Int) < (s.size : Int) := by omega
    go_enter Tryz.func3, Tryz.ntmps3
    go_wp2
    go_returns
    exact ⟨rfl, Below.refl _ _⟩
  have i1 : ¬ (1048576 : Int) < (s.size : Int) := by omega
  have H1 := Lib.hid (fun W => sParseSituation_is hs W)
  have H2 := Lib.hid (fun W (h : Ev W) => ParseSituation_is hs W h)
  have HE := Lib.hid hE
  clear hE
  go_enter Tryz.func3, Tryz.ntmps3
  go_upto_region 4 with (go_at_call 5; refine (H1.out _).mono ?_; rintro r w1 ⟨a, b, c, d, e, f, q, hO, rfl, b1⟩)
  obtain ⟨g3, hg3⟩ : ∃ g, w1.heap.size = g := ⟨_, rfl⟩
  refine wp_gen (fun W => Below w.heap.size w W ∧ Bk W g3 23 [.int .i64 a, .int .i64 b, .int .i64 c, .int .i64 d, .int .i64 e, .int .i64 f]) ⟨by (repeat' (first | (with_reducible exact Below.refl _ _) | (with_reducible assumption) | (with_reducible refine balloc ?_ _) | (with_reducible refine bdrew ?_) | (with_reducible refine bdrewN ?_ _) | (with_reducible refine bstep ?_ (by assumption)) | (with_reducible refine bset ?_ ?_ _) | (exact Below.size (by assumption)) | go_size)), Bk.new' hg3⟩ ?_
  (try rw [hg3])
  clear hg3
  intro W1 ⟨bW, kA⟩
  go_upto_region 5 with (go_at_call 6; refine (H2.out _ (HE.out.below bW)).mono ?_; rintro r w2 ⟨a', b', c', d', e', f', q', hO', rfl, b2⟩)
  obtain ⟨rfl, rfl, rfl, rfl, rfl, rfl, rfl⟩ := hO.one hO'
  obtain ⟨g5, hg5⟩ : ∃ g, w2.heap.size = g := ⟨_, rfl⟩
  refine wp_gen (fun W => Below w.heap.size w W ∧ Bk W g3 23 [.int .i64 a, .int .i64 b, .int .i64 c, .int .i64 d, .int .i64 e, .int .i64 f] ∧ Bk W g5 23 [.int .i64 a, .int .i64 b, .int .i64 c, .int .i64 d, .int .i64 e, .int .i64 f]) ⟨balloc (bstep bW b2) _, (kA.below b2 kA.lt).alloc _, Bk.new' hg5⟩ ?_
  (try rw [hg5])
  clear hg5 bW kA b2 hO hO'
  intro W2 ⟨bW, kA, kB⟩
  have a0 := kA.cell 0
  have a1 := kA.cell 1
  have a2 := kA.cell 2
  have a3 := kA.cell 3
  have a4 := kA.cell 4
  have a5 := kA.cell 5
  have fa0 := kA.frozen 0
  have fa1 := kA.frozen 1
  have fa2 := kA.frozen 2
  have fa3 := kA.frozen 3
  have fa4 := kA.frozen 4
  have fa5 := kA.frozen 5
  have la := kA.lt
  simp only [List.getElem?_cons_zero, List.getElem?_cons_succ] at a0 a1 a2 a3 a4 a5
  have b0 := kB.cell 0
  have b1 := kB.cell 1
  have b2 := kB.cell 2
  have b3 := kB.cell 3
  have b4 := kB.cell 4
  have b5 := kB.cell 5
  have fb0 := kB.frozen 0
  have fb1 := kB.frozen 1
  have fb2 := kB.frozen 2
  have fb3 := kB.frozen 3
  have fb4 := kB.frozen 4
  have fb5 := kB.frozen 5
  have lb := kB.lt
  simp only [List.getElem?_cons_zero, List.getElem?_cons_succ] at b0 b1 b2 b3 b4 b5
  have hqq : (q == q) = true := beq_self_eq_true q
  have hqn : (q != q) = false := by cases q <;> rfl
  go_wp2_with (go_at_call 7; refine (eqSituation_same _ _ _ _ _ _ _).mono ?_; rintro e w3 ⟨rfl, b3⟩)
  all_goals (go_returns; exact ⟨rfl, bstep bW b3⟩)
end Go.Proofs.YtcebbmikgpipeaaGreatDoor
