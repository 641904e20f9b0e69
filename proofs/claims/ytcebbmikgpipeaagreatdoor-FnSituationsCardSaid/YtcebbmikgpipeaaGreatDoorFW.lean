/-
  FnSituations, walked. Conditions: what the library's variables hold.
-/
import Derived.Test.YtcebbmikgpipeaaGreatDoorQS
namespace Go.Proofs.YtcebbmikgpipeaaGreatDoor
open Go Go.RowKit
set_option maxRecDepth 100000
set_option maxHeartbeats 8000000

theorem state_out {d : Int} : ((stateS d).toList == ({ data := #[111, 117, 116] } : ByteArray).toList) = (d == 100) := by
  unfold stateS
  by_cases h : (d == 100) = true
  · rw [if_pos h, h]; exact str_yes rfl
  · rw [if_neg h]
    have h2 : (d == 100) = false := by simpa using h
    rw [h2]
    split <;> exact str_no (by decide)
theorem state_free {d : Int} : ((stateS d).toList == ({ data := #[102, 114, 101, 101] } : ByteArray).toList) = decide (d < 60) := by
  unfold stateS
  by_cases h : (d == 100) = true
  · have h1 : d = 100 := by simpa using h
    rw [if_pos h, decide_eq_false (by omega)]; exact str_no (by decide)
  · rw [if_neg h]
    by_cases h6 : 60 ≤ d
    · rw [if_pos h6, decide_eq_false (by omega)]; exact str_no (by decide)
    · rw [if_neg h6, decide_eq_true (by omega)]; exact str_yes rfl
theorem fnSituations_walk (A : Option Addr) (n c : Nat) (bs : List Int) (w : World) (hr : Rd w 1 A n (bs.flatMap (fun n => [Value.int .u8 n]))) (hl : bs.length = n) (hn : n ≤ 9223372036854775807) (ok : ∀ z ∈ bs, 0 ≤ z ∧ z ≤ 255) (hE : Ev w) :
    Calls Tryz.prog 4 #[.slice A n c] w fun e w' => e = .returned (.bool true) ∧ Below w.heap.size w w' := by
  by_cases hbig : 65536 < n
  · have d1 : decide ((65536 : Int) < (n : Int)) = true := decide_eq_true (by omega)
    go_enter Tryz.func4, Tryz.ntmps4
    go_wp2_with (go_at_call 8; refine (rBig_is _ d1 _).mono ?_; rintro e w' ⟨rfl, rfl⟩)
    go_returns
    exact ⟨rfl, Below.refl _ _⟩
  have hc := code_of hr hl (by omega) ok
  have d1 : decide ((65536 : Int) < (n : Int)) = false := decide_eq_false (by omega)
  have HC := Lib.hid hc
  have HE := Lib.hid hE
  clear hr hl hn ok hE hc hbig
  go_enter Tryz.func4, Tryz.ntmps4
  go_upto_region 4 with (first | (go_at_call 8; refine (rBig_is _ d1 _).mono ?_; rintro e w' ⟨rfl, rfl⟩) | (go_at_call 9; refine (DrawSituationText_any A n c _ _ HC.out).mono ?_; rintro r w1 ⟨a, b, c', d, e, f, rfl, b1⟩))
  obtain ⟨g3, hg3⟩ : ∃ g, w1.heap.size = g := ⟨_, rfl⟩
  refine wp_genC (fun W => Below w.heap.size w W ∧ Bk W g3 23 [.int .i64 a, .int .i64 b, .int .i64 c', .int .i64 d, .int .i64 e, .int .i64 f]) ⟨balloc b1 _, Bk.new' hg3⟩ ?_
  (try rw [hg3])
  clear hg3 b1
  intro W1 ⟨bW, kA⟩
  obtain ⟨q, hq⟩ : ∃ q, sitB a b c' d e f = q := ⟨_, rfl⟩
  obtain ⟨s, hs⟩ : ∃ s, stS a b c' d e f = s := ⟨_, rfl⟩
  have zs := st_size hs
  have P1 := Lib.hid (fun W (h : Tb W) => SituationText_st hq hs W h)
  have P2 := Lib.hid (fun W => sSituationText_st hq hs W)
  have P3 := Lib.hid (fun W => IsSituation_q hq W)
  have P4 := Lib.hid (fun W (h : Ev W) => ParseSituation_is (s := s) (by omega) W h)
  have hqq : (q == q) = true := beq_self_eq_true q
  have hqn : (q != q) = false := by cases q <;> rfl
  have ka0 := kA.cell 0
  have ka1 := kA.cell 1
  have ka2 := kA.cell 2
  have ka3 := kA.cell 3
  have ka4 := kA.cell 4
  have ka5 := kA.cell 5
  have fka0 := kA.frozen 0
  have fka1 := kA.frozen 1
  have fka2 := kA.frozen 2
  have fka3 := kA.frozen 3
  have fka4 := kA.frozen 4
  have fka5 := kA.frozen 5
  have lka := kA.lt
  simp only [List.getElem?_cons_zero, List.getElem?_cons_succ] at ka0 ka1 ka2 ka3 ka4 ka5
  go_upto_region 8 with (first | (go_at_call 10; refine (P1.out _ (HE.out.below bW).tb).mono ?_; rintro r w2 ⟨rfl, b2⟩; have bW := bstep bW b2; have kA := kA.below b2 kA.lt; have ka0 := kA.cell 0; have ka1 := kA.cell 1; have ka2 := kA.cell 2; have ka3 := kA.cell 3; have ka4 := kA.cell 4; have ka5 := kA.cell 5; have fka0 := kA.frozen 0; have fka1 := kA.frozen 1; have fka2 := kA.frozen 2; have fka3 := kA.frozen 3; have fka4 := kA.frozen 4; have fka5 := kA.frozen 5; have lka := kA.lt; simp only [List.getElem?_cons_zero, List.getElem?_cons_succ] at ka0 ka1 ka2 ka3 ka4 ka5) | (go_at_call 11; refine (P2.out _).mono ?_; rintro r w2 ⟨rfl, b2⟩; have bW := bstep bW b2; have kA := kA.below b2 kA.lt; have ka0 := kA.cell 0; have ka1 := kA.cell 1; have ka2 := kA.cell 2; have ka3 := kA.cell 3; have ka4 := kA.cell 4; have ka5 := kA.cell 5; have fka0 := kA.frozen 0; have fka1 := kA.frozen 1; have fka2 := kA.frozen 2; have fka3 := kA.frozen 3; have fka4 := kA.frozen 4; have fka5 := kA.frozen 5; have lka := kA.lt; simp only [List.getElem?_cons_zero, List.getElem?_cons_succ] at ka0 ka1 ka2 ka3 ka4 ka5) | (go_at_call 12; refine (P3.out _).mono ?_; rintro r w2 ⟨rfl, b2⟩; have bW := bstep bW b2; have kA := kA.below b2 kA.lt; have ka0 := kA.cell 0; have ka1 := kA.cell 1; have ka2 := kA.cell 2; have ka3 := kA.cell 3; have ka4 := kA.cell 4; have ka5 := kA.cell 5; have fka0 := kA.frozen 0; have fka1 := kA.frozen 1; have fka2 := kA.frozen 2; have fka3 := kA.frozen 3; have fka4 := kA.frozen 4; have fka5 := kA.frozen 5; have lka := kA.lt; simp only [List.getElem?_cons_zero, List.getElem?_cons_succ] at ka0 ka1 ka2 ka3 ka4 ka5))
  refine wp_genC (fun W => Below w.heap.size w W ∧ Bk W g3 23 [.int .i64 a, .int .i64 b, .int .i64 c', .int .i64 d, .int .i64 e, .int .i64 f]) ⟨bW, kA⟩ ?_
  clear bW kA ka0 ka1 ka2 ka3 ka4 ka5 fka0 fka1 fka2 fka3 fka4 fka5 lka P1 P2 P3 hqq hqn
  intro W2 ⟨bW, kA⟩
  go_upto_region 9 with (go_at_call 6; refine (P4.out _ (HE.out.below bW)).mono ?_; rintro r w2 ⟨a2, b2, c2, d2, e2, f2, q2, hO, rfl, hb2⟩; have bW := bstep bW hb2; have kA := kA.below hb2 kA.lt)
  obtain ⟨g8, hg8⟩ : ∃ g, w2.heap.size = g := ⟨_, rfl⟩
  refine wp_genC (fun W => Below w.heap.size w W ∧ Bk W g3 23 [.int .i64 a, .int .i64 b, .int .i64 c', .int .i64 d, .int .i64 e, .int .i64 f] ∧ Bk W g8 23 [.int .i64 a2, .int .i64 b2, .int .i64 c2, .int .i64 d2, .int .i64 e2, .int .i64 f2]) ⟨balloc bW _, kA.alloc _, Bk.new' hg8⟩ ?_
  (try rw [hg8])
  clear bW kA P4 hg8
  intro W3 ⟨bW, kA, kB⟩
  go_cut [53, 54, 55, 56, 57, 58, 59, 60, 61, 62] (fun s53 s54 s55 s56 s57 s58 s59 s60 s61 s62 wx => s62 = .bool false ∧ wx = W3)
  case first =>
    rcases q with _ | _
    · go_wp2_with fail
      go_meet
      exact ⟨rfl, rfl⟩
    · have hs2 : sitTextI a b c' d e f = s := by rw [← hs, stS, if_pos hq]
      obtain ⟨rfl, rfl, rfl, rfl, rfl, rfl, rfl⟩ := hO.one (.inl ⟨rfl, hq, hs2⟩)
      have h1 := fun (W : World) => neqSit a2 b2 c2 d2 e2 f2 W
      have h2 := fun (W : World) => guardSit (.tmp 58) (.tmp 59) #[.int .i64 a2, .int .i64 b2, .int .i64 c2, .int .i64 d2, .int .i64 e2, .int .i64 f2] #[.int .i64 a2, .int .i64 b2, .int .i64 c2, .int .i64 d2, .int .i64 e2, .int .i64 f2] W
      have ka0 := kA.cell 0
      have ka1 := kA.cell 1
      have ka2 := kA.cell 2
      have ka3 := kA.cell 3
      have ka4 := kA.cell 4
      have ka5 := kA.cell 5
      have fka0 := kA.frozen 0
      have fka1 := kA.frozen 1
      have fka2 := kA.frozen 2
      have fka3 := kA.frozen 3
      have fka4 := kA.frozen 4
      have fka5 := kA.frozen 5
      have lka := kA.lt
      simp only [List.getElem?_cons_zero, List.getElem?_cons_succ] at ka0 ka1 ka2 ka3 ka4 ka5
      have kb0 := kB.cell 0
      have kb1 := kB.cell 1
      have kb2 := kB.cell 2
      have kb3 := kB.cell 3
      have kb4 := kB.cell 4
      have kb5 := kB.cell 5
      have fkb0 := kB.frozen 0
      have fkb1 := kB.frozen 1
      have fkb2 := kB.frozen 2
      have fkb3 := kB.frozen 3
      have fkb4 := kB.frozen 4
      have fkb5 := kB.frozen 5
      have lkb := kB.lt
      simp only [List.getElem?_cons_zero, List.getElem?_cons_succ] at kb0 kb1 kb2 kb3 kb4 kb5
      go_wp2_with fail
      go_meet
      exact ⟨rfl, rfl⟩
  case rest =>
  obtain ⟨rfl, rfl⟩ := hcut
  clear hO hq hs zs kA kB
  go_upto_region 12 with (go_at_call 13; refine (DrawParseSituation_any A n c _ _ (HC.out.below bW)).mono ?_; rintro r w2 ⟨t, rfl, hz, hb2⟩; have bW := bstep bW hb2)
  have P5 := Lib.hid (fun W (h : Ev W) => ParseSituation_is (s := t) (by omega) W h)
  have P6 := Lib.hid (fun W => sParseSituation_is (s := t) (by omega) W)
  refine wp_genC (fun W => Below w.heap.size w W) bW ?_
  clear bW hz
  intro W4 bW
  go_upto_region 13 with (go_at_call 6; refine (P5.out _ (HE.out.below bW)).mono ?_; rintro r w3 ⟨a3, b3, c3, d3, e3, f3, q3, hO3, rfl, hb3⟩; have bW := bstep bW hb3)
  obtain ⟨g11, hg11⟩ : ∃ g, w3.heap.size = g := ⟨_, rfl⟩
  refine wp_genC (fun W => Below w.heap.size w W ∧ Bk W g11 23 [.int .i64 a3, .int .i64 b3, .int .i64 c3, .int .i64 d3, .int .i64 e3, .int .i64 f3]) ⟨balloc bW _, Bk.new' hg11⟩ ?_
  (try rw [hg11])
  clear bW P5 hg11
  intro W5 ⟨bW, kA⟩
  go_upto_region 14 with (go_at_call 5; refine (P6.out _).mono ?_; rintro r w3 ⟨a4, b4, c4, d4, e4, f4, q4, hO4, rfl, hb3⟩; have bW := bstep bW hb3; have kA := kA.below hb3 kA.lt)
  obtain ⟨rfl, rfl, rfl, rfl, rfl, rfl, rfl⟩ := hO3.one hO4
  obtain ⟨g13, hg13⟩ : ∃ g, w3.heap.size = g := ⟨_, rfl⟩
  refine wp_genC (fun W => Below w.heap.size w W ∧ Bk W g11 23 [.int .i64 a3, .int .i64 b3, .int .i64 c3, .int .i64 d3, .int .i64 e3, .int .i64 f3] ∧ Bk W g13 23 [.int .i64 a3, .int .i64 b3, .int .i64 c3, .int .i64 d3, .int .i64 e3, .int .i64 f3]) ⟨balloc bW _, kA.alloc _, Bk.new' hg13⟩ ?_
  (try rw [hg13])
  clear bW kA P6 hg13 hO3 hO4
  intro W6 ⟨bW, kA, kB⟩
  have h1 := fun (W : World) => neqSit a3 b3 c3 d3 e3 f3 W
  have h2 := fun (W : World) => guardSit (.tmp 75) (.tmp 76) #[.int .i64 a3, .int .i64 b3, .int .i64 c3, .int .i64 d3, .int .i64 e3, .int .i64 f3] #[.int .i64 a3, .int .i64 b3, .int .i64 c3, .int .i64 d3, .int .i64 e3, .int .i64 f3] W
  have hqq : (q3 == q3) = true := beq_self_eq_true q3
  have hqn : (q3 != q3) = false := by cases q3 <;> rfl
  have ka0 := kA.cell 0
  have ka1 := kA.cell 1
  have ka2 := kA.cell 2
  have ka3 := kA.cell 3
  have ka4 := kA.cell 4
  have ka5 := kA.cell 5
  have fka0 := kA.frozen 0
  have fka1 := kA.frozen 1
  have fka2 := kA.frozen 2
  have fka3 := kA.frozen 3
  have fka4 := kA.frozen 4
  have fka5 := kA.frozen 5
  have lka := kA.lt
  simp only [List.getElem?_cons_zero, List.getElem?_cons_succ] at ka0 ka1 ka2 ka3 ka4 ka5
  have kb0 := kB.cell 0
  have kb1 := kB.cell 1
  have kb2 := kB.cell 2
  have kb3 := kB.cell 3
  have kb4 := kB.cell 4
  have kb5 := kB.cell 5
  have fkb0 := kB.frozen 0
  have fkb1 := kB.frozen 1
  have fkb2 := kB.frozen 2
  have fkb3 := kB.frozen 3
  have fkb4 := kB.frozen 4
  have fkb5 := kB.frozen 5
  have lkb := kB.lt
  simp only [List.getElem?_cons_zero, List.getElem?_cons_succ] at kb0 kb1 kb2 kb3 kb4 kb5
  go_upto_region 17 with (go_at_call 14; refine (DrawSituationState_any A n c _ _ (HC.out.below bW)).mono ?_; rintro r w3 ⟨a5, b5, c5, d5, e5, f5, rfl, hb3⟩; have bW := bstep bW hb3)
  obtain ⟨g15, hg15⟩ : ∃ g, w3.heap.size = g := ⟨_, rfl⟩
  refine wp_genC (fun W => Below w.heap.size w W ∧ Bk W g15 23 [.int .i64 a5, .int .i64 b5, .int .i64 c5, .int .i64 d5, .int .i64 e5, .int .i64 f5]) ⟨balloc bW _, Bk.new' hg15⟩ ?_
  (try rw [hg15])
  clear bW kA kB ka0 ka1 ka2 ka3 ka4 ka5 fka0 fka1 fka2 fka3 fka4 fka5 lka kb0 kb1 kb2 kb3 kb4 kb5 fkb0 fkb1 fkb2 fkb3 fkb4 fkb5 lkb hg15 h1 h2 hqq hqn
  intro W7 ⟨bW, kA⟩
  obtain ⟨q5, hq5⟩ : ∃ q, sitB a5 b5 c5 d5 e5 f5 = q := ⟨_, rfl⟩
  obtain ⟨s5, hs5⟩ : ∃ s, stateOfS a5 b5 c5 d5 e5 f5 = s := ⟨_, rfl⟩
  have P7 := Lib.hid (fun W => SituationState_q hq5 hs5 W)
  have P8 := Lib.hid (fun W => sSituationState_q hq5 hs5 W)
  have hqq : (q5 == q5) = true := beq_self_eq_true q5
  have hqn : (q5 != q5) = false := by cases q5 <;> rfl
  have ka0 := kA.cell 0
  have ka1 := kA.cell 1
  have ka2 := kA.cell 2
  have ka3 := kA.cell 3
  have ka4 := kA.cell 4
  have ka5 := kA.cell 5
  have fka0 := kA.frozen 0
  have fka1 := kA.frozen 1
  have fka2 := kA.frozen 2
  have fka3 := kA.frozen 3
  have fka4 := kA.frozen 4
  have fka5 := kA.frozen 5
  have lka := kA.lt
  simp only [List.getElem?_cons_zero, List.getElem?_cons_succ] at ka0 ka1 ka2 ka3 ka4 ka5
  go_upto_region 21 with (first | (go_at_call 15; refine (P7.out _).mono ?_; rintro r w2 ⟨rfl, b2⟩; have bW := bstep bW b2; have kA := kA.below b2 kA.lt; have ka0 := kA.cell 0; have ka1 := kA.cell 1; have ka2 := kA.cell 2; have ka3 := kA.cell 3; have ka4 := kA.cell 4; have ka5 := kA.cell 5; have fka0 := kA.frozen 0; have fka1 := kA.frozen 1; have fka2 := kA.frozen 2; have fka3 := kA.frozen 3; have fka4 := kA.frozen 4; have fka5 := kA.frozen 5; have lka := kA.lt; simp only [List.getElem?_cons_zero, List.getElem?_cons_succ] at ka0 ka1 ka2 ka3 ka4 ka5) | (go_at_call 16; refine (P8.out _).mono ?_; rintro r w2 ⟨rfl, b2⟩; have bW := bstep bW b2; have kA := kA.below b2 kA.lt; have ka0 := kA.cell 0; have ka1 := kA.cell 1; have ka2 := kA.cell 2; have ka3 := kA.cell 3; have ka4 := kA.cell 4; have ka5 := kA.cell 5; have fka0 := kA.frozen 0; have fka1 := kA.frozen 1; have fka2 := kA.frozen 2; have fka3 := kA.frozen 3; have fka4 := kA.frozen 4; have fka5 := kA.frozen 5; have lka := kA.lt; simp only [List.getElem?_cons_zero, List.getElem?_cons_succ] at ka0 ka1 ka2 ka3 ka4 ka5))
  rcases q5 with _ | _
  · go_wp2
    go_returns
    exact ⟨rfl, bW⟩
  · have hs6 : stateS d5 = s5 := by rw [← hs5, stateOfS, if_pos hq5]
    have t1 : ((stateS d5).toList == [111, 117, 116]) = (d5 == 100) := by
      rw [show ([111, 117, 116] : List UInt8) = ({ data := #[111, 117, 116] } : ByteArray).toList by rw [ByteArray.toList_eq]]; exact state_out
    have t2 : ((stateS d5).toList == [102, 114, 101, 101]) = decide (d5 < 60) := by
      rw [show ([102, 114, 101, 101] : List UInt8) = ({ data := #[102, 114, 101, 101] } : ByteArray).toList by rw [ByteArray.toList_eq]]; exact state_free
    rw [hs6] at t1 t2
    have u1 : ((d5 == 100) == (d5 == 100)) = true := beq_self_eq_true _
    have u2 : (decide (d5 < 60) == decide (d5 < 60)) = true := beq_self_eq_true _
    clear hq5 hs5 hs6 P7 P8
    go_wp2
    all_goals (go_returns; exact ⟨rfl, bW⟩)
end Go.Proofs.YtcebbmikgpipeaaGreatDoor
