/-
  The program's situation of a text. Conditions: the text's length; what the library's variables hold.
-/
import Derived.Test.YtcebbmikgpipeaaGreatDoorQWP
import Derived.Test.YtcebbmikgpipeaaGreatDoorRQ
import Derived.Test.YtcebbmikgpipeaaGreatDoorPC
namespace Go.Proofs.YtcebbmikgpipeaaGreatDoor
open Go Go.RowKit
set_option maxRecDepth 100000
set_option maxHeartbeats 8000000
theorem below_gr {w W w' : World} {g : Nat} (h : Below w.heap.size w W) (hg : W.grownBy w' (some g)) (hb : w.heap.size ≤ g) : Below w.heap.size w w' :=
  ⟨hg.os.trans h.os, hg.tape.trans h.tape, hg.output.trans h.output, Nat.le_trans h.size hg.size, fun k hk => (hg.block k (Nat.lt_of_lt_of_le hk h.size) (by simp; omega)).trans (h.block k hk)⟩
theorem numbers6_is {L : List ByteArray} {n : Nat} {A : Option Addr} {c g : Nat} {T : TypeId} (hL : L.length ≤ 2000000) (hn : L.length = n) (hsz : ∀ x ∈ L, x.size ≤ 1048576) (w : World) (hE : Ev w)
    (hR : Rd w 1 A n (strs L)) (hP : Bk w g T [.int .i64 1, .int .i64 3, .int .i64 4, .int .i64 6, .int .i64 9, .int .i64 11]) :
    Calls Tryz.prog 24 #[.slice A n c, .slice (some ⟨g, 0, none⟩) 6 6] w fun e w' => ∃ b o c', e = .returned (.slice (some ⟨b, o, none⟩) 6 c') ∧ (w'.cell? ⟨b, o, none⟩ = some (.int .i64 (piG L 1)) ∧ w'.cell? ⟨b, o + 1, none⟩ = some (.int .i64 (piG L 3)) ∧ w'.cell? ⟨b, o + 2, none⟩ = some (.int .i64 (piG L 4)) ∧ w'.cell? ⟨b, o + 3, none⟩ = some (.int .i64 (piG L 6)) ∧ w'.cell? ⟨b, o + 4, none⟩ = some (.int .i64 (piG L 9)) ∧ w'.cell? ⟨b, o + 5, none⟩ = some (.int .i64 (piG L 11))) ∧ b < w'.heap.size ∧ Below w.heap.size w w' := by
  subst hn
  have h := numbersIn_is (L := L) (ps := [1, 3, 4, 6, 9, 11]) (A := A) (Ap := some ⟨g, 0, none⟩) (c := c) (cp := 6) hL hsz (by decide) (by decide) w hE hR (hP.rd (by rfl))
  refine h.mono ?_
  rintro e w' ⟨v, rfl, hO, hb⟩
  obtain ⟨A', c', rfl, hR', _⟩ := own_rd hO
  obtain ⟨b, o, rfl, hlt, hc⟩ := hR'.2 (by decide)
  exact ⟨b, o, c', rfl, ⟨hc 0 _ rfl, hc 1 _ rfl, hc 2 _ rfl, hc 3 _ rfl, hc 4 _ rfl, hc 5 _ rfl⟩, hlt, hb⟩
theorem ParseSituation_is {s : ByteArray} (hs : s.size ≤ 1048576) (w : World) (hE : Ev w) : Calls Tryz.prog 6 #[.string s] w (PS s w) := by
  obtain ⟨r, hr⟩ : ∃ r, drB3 s = r := ⟨_, rfl⟩
  have zr : r.size ≤ 1048576 := by have := drB3_size s; rw [hr] at this; omega
  obtain ⟨L, hL⟩ : ∃ L, spB 32 r = L := ⟨_, rfl⟩
  obtain ⟨n, hn⟩ : ∃ n, L.length = n := ⟨_, rfl⟩
  have HNw := Lib.hid (fun gs T W k => new_is gs T W k)
  have HRp := Lib.hid (fun gR ga ca W hne h6 kR => (by
    have h := replace3_is (s := s) gR ga ca hs W hne h6 kR
    rw [show mkB (dr3 s.data.toList) = r from hr] at h
    exact h : Calls Tryz.prog 23 #[.pointer (some ⟨gR, 0, none⟩), .string s] W fun e w' => e = .returned (.string r) ∧ W.grownBy w' (some gR)))
  have HSp := Lib.hid (fun W (h : Ev W) => by
    have h2 := split_is hL zr W h
    rw [hn] at h2
    exact h2)
  have HE := Lib.hid hE
  clear hE
  go_enter Tryz.func6, Tryz.ntmps6
  go_upto_region 1 with fail
  obtain ⟨g2, hg2⟩ : ∃ g, w.heap.size = g := ⟨_, rfl⟩
  refine wp_gen (fun W => Below w.heap.size w W ∧ Bk W g2 23 [.int .i64 0, .int .i64 0, .int .i64 0, .int .i64 0, .int .i64 0, .int .i64 0]) ⟨by (repeat' (first | (with_reducible exact Below.refl _ _) | (with_reducible assumption) | (with_reducible refine balloc ?_ _) | (with_reducible refine bdrew ?_) | (with_reducible refine bdrewN ?_ _) | (with_reducible refine bstep ?_ (by assumption)) | (with_reducible refine bset ?_ ?_ _) | (exact Below.size (by assumption)) | go_size)), by rw [← hg2]; exact Bk.new _ _ _⟩ ?_
  intro W1 ⟨bW, kA⟩
  (try rw [hg2])
  have hA : w.heap.size ≤ g2 := by omega
  clear hg2
  by_cases h200 : 200 < s.size
  · have hno := sitOf_no (s := s) (fun a b c d e f hq h => by have := (sit_readP rfl hq h).1; omega)
    have i200 : (200 : Int) < (s.size : Int) := by omega
    have HNO := Lib.hid hno
    clear hno
    have a0 := kA.cell 0
    have a1 := kA.cell 1
    have a2 := kA.cell 2
    have a3 := kA.cell 3
    have a4 := kA.cell 4
    have a5 := kA.cell 5
    have fa0 := kA.frozen 0
    have fa1 := kA.frozen 1
    have fa2 := kA.frozen 2
    have fa3 := kA.frozen 3
    have fa4 := kA.frozen 4
    have fa5 := kA.frozen 5
    have la := kA.lt
    simp only [List.getElem?_cons_zero, List.getElem?_cons_succ] at a0 a1 a2 a3 a4 a5
    clear kA
    go_wp2
    (refine bodyPost_ret (by simp (maxDischargeDepth := 4) [results, Tryz.results6, go_sem, *]; try rfl) rfl ?_)
    exact PS.mk HNO.out (by (repeat' (first | (with_reducible exact Below.refl _ _) | (with_reducible assumption) | (with_reducible refine balloc ?_ _) | (with_reducible refine bdrew ?_) | (with_reducible refine bdrewN ?_ _) | (with_reducible refine bstep ?_ (by assumption)) | (with_reducible refine bset ?_ ?_ _) | (exact Below.size (by assumption)) | go_size)))
  have i200 : ¬ (200 : Int) < (s.size : Int) := by omega
  obtain ⟨gs, hgs⟩ : ∃ g, W1.heap.size = g := ⟨_, rfl⟩
  have bx : Below w.heap.size w (W1.alloc (.cells #[.string ⟨#[58]⟩, .string ⟨#[]⟩, .string ⟨#[44]⟩, .string ⟨#[]⟩, .string ⟨#[46]⟩, .string ⟨#[]⟩] 9)) := balloc bW _
  go_upto_region 4 with (first | (go_at_call 22; refine (HNw.out gs _ _ (by rw [← hgs]; exact Bk.new _ _ _)).mono ?_; rintro e w1 ⟨gR, ga, ca, rfl, hne, h6, kR, hgR, b1⟩) | (go_at_call 23; refine (HRp.out gR ga ca _ hne h6 kR).mono ?_; rintro e w2 ⟨rfl, hg2⟩; have b2 := below_gr b1 hg2 hgR; have b3 := bstep bx b2) | (go_at_call 21; refine (HSp.out _ (HE.out.below b3)).mono ?_; rintro e w3 ⟨A, cp, rfl, hR, b4⟩))
  refine wp_gen (fun W => Below w.heap.size w W ∧ Bk W g2 23 [.int .i64 0, .int .i64 0, .int .i64 0, .int .i64 0, .int .i64 0, .int .i64 0] ∧ Rd W 1 A n (strs L)) ⟨bstep b3 b4, (((kA.alloc _).below b2 (kA.alloc _).lt)).below b4 ((kA.alloc _).below b2 (kA.alloc _).lt).lt, hR⟩ ?_
  clear bW bx kA hR b1 b2 b3 b4 hg2 hgR kR h6 hne hgs HNw HRp HSp
  intro W3 ⟨bW, kA, hR⟩
  have z : ∀ x ∈ L, x.size ≤ 1048576 := fun x hx => by
    have := spB_mem (c := 32) (s := r) (by rw [hL]; exact hx)
    omega
  have hLL : L.length ≤ 2000000 := by
    have h1 : L.length = Lib.countB r (mkB [32]) + 1 := by rw [← hL]; exact spB_length 32 r
    have h2 : Lib.countB r (mkB [32]) = r.data.toList.count 32 := Lib.count_one 32 _
    have h3 := List.count_le_length (a := (32 : UInt8)) (l := r.data.toList)
    rw [Array.length_toList] at h3
    have h4 : r.data.size = r.size := rfl
    omega
  have HN := Lib.hid (fun (W : World) (g : Nat) (hW : Ev W) (hr : Rd W 1 A n (strs L)) (hp : Bk W g 3 [.int .i64 1, .int .i64 3, .int .i64 4, .int .i64 6, .int .i64 9, .int .i64 11]) => numbers6_is (c := cp) hLL hn z W hW hr hp)
  have hreadP := fun {a b c d e f : Int} (h1 : sitB a b c d e f = true) (h2 : sitTextI a b c d e f = s) => (sit_readP (L := L) (by rw [hr]; exact hL) h1 h2).2
  obtain ⟨a, ha⟩ : ∃ i, piG L 1 = i := ⟨_, rfl⟩
  obtain ⟨b, hb⟩ : ∃ i, piG L 3 = i := ⟨_, rfl⟩
  obtain ⟨c, hc⟩ : ∃ i, piG L 4 = i := ⟨_, rfl⟩
  obtain ⟨d, hd⟩ : ∃ i, piG L 6 = i := ⟨_, rfl⟩
  obtain ⟨e, he⟩ : ∃ i, piG L 9 = i := ⟨_, rfl⟩
  obtain ⟨f, hf⟩ : ∃ i, piG L 11 = i := ⟨_, rfl⟩
  rw [ha, hb, hc, hd, he, hf] at HN
  obtain ⟨q, hq⟩ : ∃ q, sitB a b c d e f = q := ⟨_, rfl⟩
  have HUN := Lib.hid (show ∀ a' b' c' d' e' f', sitB a' b' c' d' e' f' = true → sitTextI a' b' c' d' e' f' = s → a' = a ∧ b' = b ∧ c' = c ∧ d' = d ∧ e' = e ∧ f' = f from fun a' b' c' d' e' f' h1 h2 => by
    obtain ⟨r1, r2, r3, r4, r5, r6⟩ := hreadP h1 h2
    exact ⟨r1.symm.trans ha, r2.symm.trans hb, r3.symm.trans hc, r4.symm.trans hd, r5.symm.trans he, r6.symm.trans hf⟩)
  have HEW := Lib.hid (HE.out.below bW)
  clear hreadP ha hb hc hd he hf hL hr zr z hLL hn
  obtain ⟨g17, hg17⟩ : ∃ g, W3.heap.size = g := ⟨_, rfl⟩
  have bx : Below W3.heap.size W3 (W3.alloc (.cells #[.int .i64 1, .int .i64 3, .int .i64 4, .int .i64 6, .int .i64 9, .int .i64 11] 3)) := balloc (Below.refl _ _) _
  go_upto_region 5 with (go_at_call 24; refine (HN.out _ g17 (HEW.out.below bx) (hR.below bx) (by rw [← hg17]; exact Bk.new _ _ _)).mono ?_; rintro e w1 ⟨bn, on, cn, rfl, hcn, hbn, b1⟩)
  refine wp_gen (fun W => Below W3.heap.size W3 W ∧ (W.cell? ⟨bn, on, none⟩ = some (.int .i64 a) ∧ W.cell? ⟨bn, on + 1, none⟩ = some (.int .i64 b) ∧ W.cell? ⟨bn, on + 2, none⟩ = some (.int .i64 c) ∧ W.cell? ⟨bn, on + 3, none⟩ = some (.int .i64 d) ∧ W.cell? ⟨bn, on + 4, none⟩ = some (.int .i64 e) ∧ W.cell? ⟨bn, on + 5, none⟩ = some (.int .i64 f)) ∧ bn < W.heap.size) ⟨bstep bx b1, hcn, hbn⟩ ?_
  clear hcn hbn b1 hg17 bx
  intro W4 ⟨bV, hcn, hbn⟩
  obtain ⟨n0, n1, n2, n3, n4, n5⟩ := hcn
  go_cut [6, 21, 22, 23, 24, 25, 26, 27, 28, 29, 30, 31, 32, 33, 34, 35, 36, 37, 38, 39] (fun s6 s21 s22 s23 s24 s25 s26 s27 s28 s29 s30 s31 s32 s33 s34 s35 s36 s37 s38 s39 wx => ∃ g6, s6 = .pointer (some ⟨g6, 0, none⟩) ∧ W4.heap.size ≤ g6 ∧ Below W4.heap.size W4 wx ∧ Bk wx g6 23 [.int .i64 a, .int .i64 b, .int .i64 c, .int .i64 d, .int .i64 e, .int .i64 f])
  case first =>
    go_region_held3 (fun W => W.cell? ⟨bn, on, none⟩ = some (.int .i64 a) ∧ W.cell? ⟨bn, on + 1, none⟩ = some (.int .i64 b) ∧ W.cell? ⟨bn, on + 2, none⟩ = some (.int .i64 c) ∧ W.cell? ⟨bn, on + 3, none⟩ = some (.int .i64 d) ∧ W.cell? ⟨bn, on + 4, none⟩ = some (.int .i64 e) ∧ W.cell? ⟨bn, on + 5, none⟩ = some (.int .i64 f)) (first | ((try dsimp only); (repeat' apply And.intro); all_goals (first | assumption | (simp [go_sem, *]; done))) | go_keep) (fail)
    all_goals
      go_wp2_with fail
      go_meet
      exact ⟨_, rfl, Nat.le_refl _, by (repeat' (first | (with_reducible exact Below.refl _ _) | (with_reducible assumption) | (with_reducible refine balloc ?_ _) | (with_reducible refine bdrew ?_) | (with_reducible refine bdrewN ?_ _) | (with_reducible refine bstep ?_ (by assumption)) | (with_reducible refine bset ?_ ?_ _) | (exact Below.size (by assumption)) | go_size)), Bk.new' rfl⟩
  case rest =>
  obtain ⟨g6, rfl, h46, b4, kO⟩ := hcut
  have h26 : w.heap.size ≤ g6 := by have := bW.size; have := bV.size; omega
  have kA := (kA.below bV kA.lt).below b4 (kA.below bV kA.lt).lt
  have bW := bstep bW (bstep bV b4)
  have HEW := Lib.hid (HE.out.below bW)
  clear bV b4 n0 n1 n2 n3 n4 n5 hbn h46 HN hR HE
  go_upto_region 6 with fail
  rcases q with _ | _
  · have hno := sitOf_no (s := s) (fun a' b' c' d' e' f' h1 h2 => by
      obtain ⟨rfl, rfl, rfl, rfl, rfl, rfl⟩ := HUN.out a' b' c' d' e' f' h1 h2
      rw [hq] at h1; cases h1)
    have HNO := Lib.hid hno
    have HQ := Lib.hid (fun (W : World) (_ : Ev W) => SituationText_no hq W)
    clear hno hq HUN
    have a0 := kA.cell 0
    have a1 := kA.cell 1
    have a2 := kA.cell 2
    have a3 := kA.cell 3
    have a4 := kA.cell 4
    have a5 := kA.cell 5
    have fa0 := kA.frozen 0
    have fa1 := kA.frozen 1
    have fa2 := kA.frozen 2
    have fa3 := kA.frozen 3
    have fa4 := kA.frozen 4
    have fa5 := kA.frozen 5
    have la := kA.lt
    simp only [List.getElem?_cons_zero, List.getElem?_cons_succ] at a0 a1 a2 a3 a4 a5
    have o0 := kO.cell 0
    have o1 := kO.cell 1
    have o2 := kO.cell 2
    have o3 := kO.cell 3
    have o4 := kO.cell 4
    have o5 := kO.cell 5
    have fo0 := kO.frozen 0
    have fo1 := kO.frozen 1
    have fo2 := kO.frozen 2
    have fo3 := kO.frozen 3
    have fo4 := kO.frozen 4
    have fo5 := kO.frozen 5
    have lo := kO.lt
    simp only [List.getElem?_cons_zero, List.getElem?_cons_succ] at o0 o1 o2 o3 o4 o5
    go_wp2_with (first | (go_at_call 10; refine (HQ.out _ HEW.out).mono ?_; rintro e w2 ⟨rfl, b2⟩; have kA := kA.below b2 kA.lt; have kO := kO.below b2 kO.lt; have bW := bstep bW b2; have a0 := kA.cell 0; have a1 := kA.cell 1; have a2 := kA.cell 2; have a3 := kA.cell 3; have a4 := kA.cell 4; have a5 := kA.cell 5; have fa0 := kA.frozen 0; have fa1 := kA.frozen 1; have fa2 := kA.frozen 2; have fa3 := kA.frozen 3; have fa4 := kA.frozen 4; have fa5 := kA.frozen 5; have la := kA.lt; simp only [List.getElem?_cons_zero, List.getElem?_cons_succ] at a0 a1 a2 a3 a4 a5; have o0 := kO.cell 0; have o1 := kO.cell 1; have o2 := kO.cell 2; have o3 := kO.cell 3; have o4 := kO.cell 4; have o5 := kO.cell 5; have fo0 := kO.frozen 0; have fo1 := kO.frozen 1; have fo2 := kO.frozen 2; have fo3 := kO.frozen 3; have fo4 := kO.frozen 4; have fo5 := kO.frozen 5; have lo := kO.lt; simp only [List.getElem?_cons_zero, List.getElem?_cons_succ] at o0 o1 o2 o3 o4 o5))
    (refine bodyPost_ret (by simp (maxDischargeDepth := 4) [results, Tryz.results6, go_sem, *]; try rfl) rfl ?_)
    exact PS.mk HNO.out (by (repeat' (first | (with_reducible exact Below.refl _ _) | (with_reducible assumption) | (with_reducible refine balloc ?_ _) | (with_reducible refine bdrew ?_) | (with_reducible refine bdrewN ?_ _) | (with_reducible refine bstep ?_ (by assumption)) | (with_reducible refine bset ?_ ?_ _) | (exact Below.size (by assumption)) | go_size)))
  · obtain ⟨e1, e2, e3, e4, e5, e6⟩ := sit_nat hq
    have hq2 : sitB a.toNat b.toNat c.toNat d.toNat e.toNat f.toNat = true := by rw [e1, e2, e3, e4, e5, e6]; exact hq
    have hp := sit_parts hq2
    obtain ⟨x, hx⟩ : ∃ x, sitTextI a b c d e f = x := ⟨_, rfl⟩
    have HQ := Lib.hid (fun W (h : Ev W) => (by
      have h := SituationText_yes hq2 (show sitText a.toNat b.toNat c.toNat d.toNat e.toNat f.toNat = x from hx) (by omega) (by omega) (by omega) (by omega) (by omega) (by omega) W h.tb
      rw [e1, e2, e3, e4, e5, e6] at h
      exact h : Calls Tryz.prog 10 #[.agg #[.int .i64 a, .int .i64 b, .int .i64 c, .int .i64 d, .int .i64 e, .int .i64 f]] W fun r w' => r = .returned (.tuple #[.string x, .bool true]) ∧ Below W.heap.size W w'))
    by_cases he : x = s
    · have hok : SitOf s a b c d e f true := .inl ⟨rfl, hq, hx.trans he⟩
      have HOK := Lib.hid hok
      have f1 := str_yes he
      clear hok hq hq2 HUN hx he hp e1 e2 e3 e4 e5 e6
      have a0 := kA.cell 0
      have a1 := kA.cell 1
      have a2 := kA.cell 2
      have a3 := kA.cell 3
      have a4 := kA.cell 4
      have a5 := kA.cell 5
      have fa0 := kA.frozen 0
      have fa1 := kA.frozen 1
      have fa2 := kA.frozen 2
      have fa3 := kA.frozen 3
      have fa4 := kA.frozen 4
      have fa5 := kA.frozen 5
      have la := kA.lt
      simp only [List.getElem?_cons_zero, List.getElem?_cons_succ] at a0 a1 a2 a3 a4 a5
      have o0 := kO.cell 0
      have o1 := kO.cell 1
      have o2 := kO.cell 2
      have o3 := kO.cell 3
      have o4 := kO.cell 4
      have o5 := kO.cell 5
      have fo0 := kO.frozen 0
      have fo1 := kO.frozen 1
      have fo2 := kO.frozen 2
      have fo3 := kO.frozen 3
      have fo4 := kO.frozen 4
      have fo5 := kO.frozen 5
      have lo := kO.lt
      simp only [List.getElem?_cons_zero, List.getElem?_cons_succ] at o0 o1 o2 o3 o4 o5
      go_wp2_with (first | (go_at_call 10; refine (HQ.out _ HEW.out).mono ?_; rintro e w2 ⟨rfl, b2⟩; have kA := kA.below b2 kA.lt; have kO := kO.below b2 kO.lt; have bW := bstep bW b2; have a0 := kA.cell 0; have a1 := kA.cell 1; have a2 := kA.cell 2; have a3 := kA.cell 3; have a4 := kA.cell 4; have a5 := kA.cell 5; have fa0 := kA.frozen 0; have fa1 := kA.frozen 1; have fa2 := kA.frozen 2; have fa3 := kA.frozen 3; have fa4 := kA.frozen 4; have fa5 := kA.frozen 5; have la := kA.lt; simp only [List.getElem?_cons_zero, List.getElem?_cons_succ] at a0 a1 a2 a3 a4 a5; have o0 := kO.cell 0; have o1 := kO.cell 1; have o2 := kO.cell 2; have o3 := kO.cell 3; have o4 := kO.cell 4; have o5 := kO.cell 5; have fo0 := kO.frozen 0; have fo1 := kO.frozen 1; have fo2 := kO.frozen 2; have fo3 := kO.frozen 3; have fo4 := kO.frozen 4; have fo5 := kO.frozen 5; have lo := kO.lt; simp only [List.getElem?_cons_zero, List.getElem?_cons_succ] at o0 o1 o2 o3 o4 o5))
      all_goals first
        | ((refine bodyPost_ret (by simp (maxDischargeDepth := 4) [results, Tryz.results6, go_sem, *]; try rfl) rfl ?_); exact PS.mk HOK.out (by (repeat' (first | (with_reducible exact Below.refl _ _) | (with_reducible assumption) | (with_reducible refine balloc ?_ _) | (with_reducible refine bdrew ?_) | (with_reducible refine bdrewN ?_ _) | (with_reducible refine bstep ?_ (by assumption)) | (with_reducible refine bset ?_ ?_ _) | (exact Below.size (by assumption)) | go_size))))
        | (exfalso; rename_i h9; rw [f1] at h9; simp at h9; done)
    · have hno := sitOf_no (s := s) (fun a' b' c' d' e' f' h1 h2 => by
        obtain ⟨rfl, rfl, rfl, rfl, rfl, rfl⟩ := HUN.out a' b' c' d' e' f' h1 h2
        exact he (hx.symm.trans h2))
      have HNO := Lib.hid hno
      have f1 := str_no he
      clear hno hq hq2 HUN hx he hp e1 e2 e3 e4 e5 e6
      have a0 := kA.cell 0
      have a1 := kA.cell 1
      have a2 := kA.cell 2
      have a3 := kA.cell 3
      have a4 := kA.cell 4
      have a5 := kA.cell 5
      have fa0 := kA.frozen 0
      have fa1 := kA.frozen 1
      have fa2 := kA.frozen 2
      have fa3 := kA.frozen 3
      have fa4 := kA.frozen 4
      have fa5 := kA.frozen 5
      have la := kA.lt
      simp only [List.getElem?_cons_zero, List.getElem?_cons_succ] at a0 a1 a2 a3 a4 a5
      have o0 := kO.cell 0
      have o1 := kO.cell 1
      have o2 := kO.cell 2
      have o3 := kO.cell 3
      have o4 := kO.cell 4
      have o5 := kO.cell 5
      have fo0 := kO.frozen 0
      have fo1 := kO.frozen 1
      have fo2 := kO.frozen 2
      have fo3 := kO.frozen 3
      have fo4 := kO.frozen 4
      have fo5 := kO.frozen 5
      have lo := kO.lt
      simp only [List.getElem?_cons_zero, List.getElem?_cons_succ] at o0 o1 o2 o3 o4 o5
      go_wp2_with (first | (go_at_call 10; refine (HQ.out _ HEW.out).mono ?_; rintro e w2 ⟨rfl, b2⟩; have kA := kA.below b2 kA.lt; have kO := kO.below b2 kO.lt; have bW := bstep bW b2; have a0 := kA.cell 0; have a1 := kA.cell 1; have a2 := kA.cell 2; have a3 := kA.cell 3; have a4 := kA.cell 4; have a5 := kA.cell 5; have fa0 := kA.frozen 0; have fa1 := kA.frozen 1; have fa2 := kA.frozen 2; have fa3 := kA.frozen 3; have fa4 := kA.frozen 4; have fa5 := kA.frozen 5; have la := kA.lt; simp only [List.getElem?_cons_zero, List.getElem?_cons_succ] at a0 a1 a2 a3 a4 a5; have o0 := kO.cell 0; have o1 := kO.cell 1; have o2 := kO.cell 2; have o3 := kO.cell 3; have o4 := kO.cell 4; have o5 := kO.cell 5; have fo0 := kO.frozen 0; have fo1 := kO.frozen 1; have fo2 := kO.frozen 2; have fo3 := kO.frozen 3; have fo4 := kO.frozen 4; have fo5 := kO.frozen 5; have lo := kO.lt; simp only [List.getElem?_cons_zero, List.getElem?_cons_succ] at o0 o1 o2 o3 o4 o5))
      all_goals first
        | ((refine bodyPost_ret (by simp (maxDischargeDepth := 4) [results, Tryz.results6, go_sem, *]; try rfl) rfl ?_); exact PS.mk HNO.out (by (repeat' (first | (with_reducible exact Below.refl _ _) | (with_reducible assumption) | (with_reducible refine balloc ?_ _) | (with_reducible refine bdrew ?_) | (with_reducible refine bdrewN ?_ _) | (with_reducible refine bstep ?_ (by assumption)) | (with_reducible refine bset ?_ ?_ _) | (exact Below.size (by assumption)) | go_size))))
        | (exfalso; rename_i h9; rw [f1] at h9; simp at h9; done)
end Go.Proofs.YtcebbmikgpipeaaGreatDoor
