/-
  IsBefore of the program and of the reference; FnExactIsBefore, walked. Conditions: none beyond the layout of its arguments.
-/
import Derived.Test.YthgabapegpndnaaF
namespace Go.Proofs.Ythgabapegpndnaa
open Go.RowKit
set_option maxRecDepth 100000
set_option maxHeartbeats 4000000

def ibR (units : Int) (a b : NoteV) : Bool := inB units 2 4 && (nP units a && (nP units b && !(decide (a.1 = b.1 ∧ a.2.1 = b.2.1))))
def ibV (units : Int) (a b : NoteV) : Bool := ibR units a b && befB a b
theorem ib_no {units : Int} {a b : NoteV} (h : ibR units a b = false) : ibV units a b = false := by unfold ibV; rw [h]; rfl
theorem cmpn_eq {u u2 s s2 : Int} : orv (cmpv u u2) (cmpv s s2) = 0 ↔ (u = u2 ∧ s = s2) := by
  unfold orv cmpv
  (repeat' split) <;> omega
theorem IsBefore_is {q fv : Bool} {units : Int} {u s u2 s2 : Int} {A A2 : Option Addr} {n c n2 c2 : Nat} {xs ys : List Int} {wd wd2 : ByteArray} (hq : ibR units (u, s, xs, wd) (u2, s2, ys, wd2) = q) (hf : ibV units (u, s, xs, wd) (u2, s2, ys, wd2) = fv) (w : World)
    (hx : Rd w 1 A n (ints xs)) (hlx : xs.length = n) (hn : n ≤ 1048576) (hs : wd.size ≤ maxLen) (hy : Rd w 1 A2 n2 (ints ys)) (hly : ys.length = n2) (hn2 : n2 ≤ 1048576) (hs2 : wd2.size ≤ maxLen) :
    Calls Try.prog 18 #[.int .i64 units, .agg #[.int .i64 u, .int .i64 s, .slice A n c, .string wd], .agg #[.int .i64 u2, .int .i64 s2, .slice A2 n2 c2, .string wd2]] w fun e w' => e = .returned (.tuple #[.bool fv, .bool q]) ∧ Below w.heap.size w w' := by
  have HQ := Lib.hid hq
  have HF := Lib.hid hf
  clear hq hf
  go_enter Try.func18, Try.ntmps18
  go_upto_region 1 with fail
  refine wp_gen (fun w0 => Bk w0 w.heap.size 35 [.int .i64 u, .int .i64 s, .slice A n c, .string wd] ∧ Bk w0 (w.heap.size + 1) 35 [.int .i64 u2, .int .i64 s2, .slice A2 n2 c2, .string wd2] ∧ Below w.heap.size w w0) ⟨Bk.alloc (Bk.new' rfl) _, Bk.new' (by simp), by (repeat' (first | (with_reducible exact Below.refl _ _) | (with_reducible assumption) | (with_reducible refine balloc ?_ _) | (with_reducible refine bdrew ?_) | (with_reducible refine bdrewN ?_ _) | (with_reducible refine bstep ?_ (by assumption)) | (with_reducible refine bset ?_ ?_ _) | (exact Below.size (by assumption)) | go_size))⟩ ?_
  intro w0 ⟨hX, hY, b0⟩
  obtain ⟨x0, x1, x2, x3, xl⟩ := four_cells hX
  obtain ⟨y0, y1, y2, y3, yl⟩ := four_cells hY
  rcases hu : inB units 2 4 with _ | _
  · obtain rfl : q = false := by rw [← HQ.out]; simp [ibR, hu]
    obtain rfl := (ib_no HQ.out).symm.trans HF.out
    go_wp2_with fail
    refine (in_of false hu _).mono ?_
    rintro e v ⟨rfl, rfl⟩
    go_wp2
    go_returns
    exact ⟨rfl, b0⟩
  rcases ha : notB units u s xs wd with _ | _
  · obtain rfl : q = false := by rw [← HQ.out]; simp [ibR, nP, ha]
    obtain rfl := (ib_no HQ.out).symm.trans HF.out
    go_wp2_with fail
    refine (in_of true hu _).mono ?_
    rintro e v ⟨rfl, rfl⟩
    go_wp2_with fail
    refine (isNote_is ha _ (hx.below b0) hlx hn hs).mono ?_
    rintro e w1 ⟨rfl, hb1⟩
    go_wp2
    go_returns
    exact ⟨rfl, bstep b0 hb1⟩
  have hX1 := fun w1 (hb1 : Below w0.heap.size w0 w1) => hX.below hb1 hX.lt
  have hY1 := fun w1 (hb1 : Below w0.heap.size w0 w1) => hY.below hb1 hY.lt
  rcases hb : notB units u2 s2 ys wd2 with _ | _
  · obtain rfl : q = false := by rw [← HQ.out]; simp [ibR, nP, hb]
    obtain rfl := (ib_no HQ.out).symm.trans HF.out
    go_wp2_with fail
    refine (in_of true hu _).mono ?_
    rintro e v ⟨rfl, rfl⟩
    go_wp2_with fail
    refine (isNote_is ha _ (hx.below b0) hlx hn hs).mono ?_
    rintro e w1 ⟨rfl, hb1⟩
    have b1 := bstep b0 hb1
    clear x0 x1 x2 x3 xl y0 y1 y2 y3 yl
    obtain ⟨y0, y1, y2, y3, yl⟩ := four_cells (hY1 _ hb1)
    go_wp2_with fail
    refine (isNote_is hb _ (hy.below b1) hly hn2 hs2).mono ?_
    rintro e w2 ⟨rfl, hb2⟩
    go_wp2
    go_returns
    exact ⟨rfl, bstep b1 hb2⟩
  obtain ⟨cv, hcv⟩ : ∃ cv, orv (cmpv u u2) (cmpv s s2) = cv := ⟨_, rfl⟩
  have hce := cmpn_eq (u := u) (u2 := u2) (s := s) (s2 := s2)
  rw [hcv] at hce
  have HC := fun W => compareNotes_of (A := A) (n := n) (c := c) (wd := wd) (A2 := A2) (n2 := n2) (c2 := c2) (wd2 := wd2) hcv W
  clear hcv
  by_cases h0 : cv = 0
  · have hd : (cv == 0) = true := by simp [h0]
    obtain rfl : q = false := by rw [← HQ.out]; have := hce.1 h0; simp [ibR, this]
    obtain rfl := (ib_no HQ.out).symm.trans HF.out
    clear hce h0
    go_wp2_with fail
    refine (in_of true hu _).mono ?_
    rintro e v ⟨rfl, rfl⟩
    go_wp2_with fail
    refine (isNote_is ha _ (hx.below b0) hlx hn hs).mono ?_
    rintro e w1 ⟨rfl, hb1⟩
    have b1 := bstep b0 hb1
    clear x0 x1 x2 x3 xl y0 y1 y2 y3 yl
    obtain ⟨y0, y1, y2, y3, yl⟩ := four_cells (hY1 _ hb1)
    go_wp2_with fail
    refine (isNote_is hb _ (hy.below b1) hly hn2 hs2).mono ?_
    rintro e w2 ⟨rfl, hb2⟩
    clear y0 y1 y2 y3 yl
    obtain ⟨x0, x1, x2, x3, xl⟩ := four_cells (hX1 _ (bstep hb1 hb2))
    obtain ⟨y0, y1, y2, y3, yl⟩ := four_cells (hY1 _ (bstep hb1 hb2))
    go_wp2_with fail
    refine (HC _).mono ?_
    rintro e w3 ⟨rfl, hb3⟩
    go_wp2
    go_returns
    exact ⟨rfl, bstep (bstep b1 hb2) hb3⟩
  · have hd : (cv == 0) = false := by simp [h0]
    have hne : ¬ (u = u2 ∧ s = s2) := fun h => h0 (hce.2 h)
    obtain rfl : q = true := by rw [← HQ.out]; simp [ibR, nP, ha, hb, hu, hne]
    have hv : decide (s ≤ ys.getD u.toNat 0) = fv := by rw [← HF.out]; unfold ibV; rw [HQ.out]; rfl
    obtain ⟨e1, _, ⟨p0, p1⟩, _, _, _⟩ := nP_bd (wd := wd) (show nP units (u, s, xs, wd) = true from ha)
    obtain ⟨e2, _, _, _, _, _⟩ := nP_bd (wd := wd2) (show nP units (u2, s2, ys, wd2) = true from hb)
    have p2 : 0 ≤ u ∧ u < (n2 : Int) := by omega
    have HV := Lib.hid hv
    have HP := Lib.hid p2
    clear hce h0 hv p2 hne e1 e2 p0 p1
    go_wp2_with fail
    refine (in_of true hu _).mono ?_
    rintro e v ⟨rfl, rfl⟩
    go_wp2_with fail
    refine (isNote_is ha _ (hx.below b0) hlx hn hs).mono ?_
    rintro e w1 ⟨rfl, hb1⟩
    have b1 := bstep b0 hb1
    clear x0 x1 x2 x3 xl y0 y1 y2 y3 yl
    obtain ⟨y0, y1, y2, y3, yl⟩ := four_cells (hY1 _ hb1)
    go_wp2_with fail
    refine (isNote_is hb _ (hy.below b1) hly hn2 hs2).mono ?_
    rintro e w2 ⟨rfl, hb2⟩
    clear y0 y1 y2 y3 yl
    obtain ⟨x0, x1, x2, x3, xl⟩ := four_cells (hX1 _ (bstep hb1 hb2))
    obtain ⟨y0, y1, y2, y3, yl⟩ := four_cells (hY1 _ (bstep hb1 hb2))
    go_wp2_with fail
    refine (HC _).mono ?_
    rintro e w3 ⟨rfl, hb3⟩
    clear x0 x1 x2 x3 xl y0 y1 y2 y3 yl
    obtain ⟨x0, x1, x2, x3, xl⟩ := four_cells (hX1 _ (bstep (bstep hb1 hb2) hb3))
    obtain ⟨y0, y1, y2, y3, yl⟩ := four_cells (hY1 _ (bstep (bstep hb1 hb2) hb3))
    have b3 := bstep (bstep b1 hb2) hb3
    go_wp2_with fail
    refine (before_is HV.out _ (hy.below b3) hly HP.out).mono ?_
    rintro e w4 ⟨rfl, hb4⟩
    go_wp2
    go_returns
    exact ⟨rfl, bstep b3 hb4⟩
theorem sIsBefore_is {q fv : Bool} {units : Int} {u s u2 s2 : Int} {A A2 : Option Addr} {n c n2 c2 : Nat} {xs ys : List Int} {wd wd2 : ByteArray} (hq : ibR units (u, s, xs, wd) (u2, s2, ys, wd2) = q) (hf : ibV units (u, s, xs, wd) (u2, s2, ys, wd2) = fv) (w : World)
    (hx : Rd w 1 A n (ints xs)) (hlx : xs.length = n) (hn : n ≤ 1048576) (hs : wd.size ≤ maxLen) (hy : Rd w 1 A2 n2 (ints ys)) (hly : ys.length = n2) (hn2 : n2 ≤ 1048576) (hs2 : wd2.size ≤ maxLen) :
    Calls Try.prog 16 #[.int .i64 units, .agg #[.int .i64 u, .int .i64 s, .slice A n c, .string wd], .agg #[.int .i64 u2, .int .i64 s2, .slice A2 n2 c2, .string wd2]] w fun e w' => e = .returned (.tuple #[.bool fv, .bool q]) ∧ Below w.heap.size w w' := by
  have HQ := Lib.hid hq
  have HF := Lib.hid hf
  clear hq hf
  go_enter Try.func16, Try.ntmps16
  go_upto_region 1 with fail
  refine wp_gen (fun w0 => Bk w0 w.heap.size 35 [.int .i64 u, .int .i64 s, .slice A n c, .string wd] ∧ Bk w0 (w.heap.size + 1) 35 [.int .i64 u2, .int .i64 s2, .slice A2 n2 c2, .string wd2] ∧ Below w.heap.size w w0) ⟨Bk.alloc (Bk.new' rfl) _, Bk.new' (by simp), by (repeat' (first | (with_reducible exact Below.refl _ _) | (with_reducible assumption) | (with_reducible refine balloc ?_ _) | (with_reducible refine bdrew ?_) | (with_reducible refine bdrewN ?_ _) | (with_reducible refine bstep ?_ (by assumption)) | (with_reducible refine bset ?_ ?_ _) | (exact Below.size (by assumption)) | go_size))⟩ ?_
  intro w0 ⟨hX, hY, b0⟩
  obtain ⟨x0, x1, x2, x3, xl⟩ := four_cells hX
  obtain ⟨y0, y1, y2, y3, yl⟩ := four_cells hY
  rcases ha : (inB units 2 4 && notB units u s xs wd) with _ | _
  · obtain rfl : q = false := by
      rw [← HQ.out]
      rcases hu : inB units 2 4 with _ | _
      · simp [ibR, hu]
      · rw [hu] at ha
        simp only [Bool.true_and] at ha
        simp [ibR, nP, ha]
    obtain rfl := (ib_no HQ.out).symm.trans HF.out
    go_wp2_with fail
    refine (l17Single_is ha _ (hx.below b0) hlx hn hs).mono ?_
    rintro e w1 ⟨rfl, hb1⟩
    go_wp2
    go_returns
    exact ⟨rfl, bstep b0 hb1⟩
  have hX1 := fun w1 (hb1 : Below w0.heap.size w0 w1) => hX.below hb1 hX.lt
  have hY1 := fun w1 (hb1 : Below w0.heap.size w0 w1) => hY.below hb1 hY.lt
  have ha2 : inB units 2 4 = true ∧ notB units u s xs wd = true := by simpa using ha
  obtain ⟨hu, hna⟩ := ha2
  rcases hb : (inB units 2 4 && notB units u2 s2 ys wd2) with _ | _
  · obtain rfl : q = false := by
      rw [← HQ.out]
      rw [hu] at hb
      simp only [Bool.true_and] at hb
      simp [ibR, nP, hb]
    obtain rfl := (ib_no HQ.out).symm.trans HF.out
    clear hu hna
    go_wp2_with fail
    refine (l17Single_is ha _ (hx.below b0) hlx hn hs).mono ?_
    rintro e w1 ⟨rfl, hb1⟩
    have b1 := bstep b0 hb1
    clear x0 x1 x2 x3 xl y0 y1 y2 y3 yl
    obtain ⟨y0, y1, y2, y3, yl⟩ := four_cells (hY1 _ hb1)
    go_wp2_with fail
    refine (l17Single_is hb _ (hy.below b1) hly hn2 hs2).mono ?_
    rintro e w2 ⟨rfl, hb2⟩
    go_wp2
    go_returns
    exact ⟨rfl, bstep b1 hb2⟩
  have hnb : notB units u2 s2 ys wd2 = true := by rw [hu] at hb; simpa using hb
  obtain ⟨n0, n1⟩ := inB_iff.1 hu
  obtain ⟨e1, _, ⟨p0, p1⟩, ⟨r0, r1⟩, _, _⟩ := nP_bd (wd := wd) (show nP units (u, s, xs, wd) = true from hna)
  obtain ⟨e2, _, ⟨p0', p1'⟩, ⟨r0', r1'⟩, _, _⟩ := nP_bd (wd := wd2) (show nP units (u2, s2, ys, wd2) = true from hnb)
  have o1 : 0 ≤ u ∧ u ≤ 1000 := by omega
  have o2 : 0 ≤ u2 ∧ u2 ≤ 1000 := by omega
  have o3 : 0 ≤ s ∧ s ≤ 1000 := by omega
  have o4 : 0 ≤ s2 ∧ s2 ≤ 1000 := by omega
  obtain ⟨cv, hcv⟩ : ∃ cv, (u - u2) * 100 + s - s2 = cv := ⟨_, rfl⟩
  have hce : cv = 0 ↔ (u = u2 ∧ s = s2) := by omega
  have HC := fun W => l17Order_of (A := A) (n := n) (c := c) (wd := wd) (A2 := A2) (n2 := n2) (c2 := c2) (wd2 := wd2) hcv W o1 o2 o3 o4
  have p2 : 0 ≤ u ∧ u < (n2 : Int) := by omega
  by_cases h0 : cv = 0
  · have hd : (cv == 0) = true := by simp [h0]
    obtain rfl : q = false := by rw [← HQ.out]; have := hce.1 h0; simp [ibR, this]
    obtain rfl := (ib_no HQ.out).symm.trans HF.out
    clear hce h0 hcv e1 e2 hu hna hnb o1 o2 o3 o4 p2
    go_wp2_with fail
    refine (l17Single_is ha _ (hx.below b0) hlx hn hs).mono ?_
    rintro e w1 ⟨rfl, hb1⟩
    have b1 := bstep b0 hb1
    clear x0 x1 x2 x3 xl y0 y1 y2 y3 yl
    obtain ⟨y0, y1, y2, y3, yl⟩ := four_cells (hY1 _ hb1)
    go_wp2_with fail
    refine (l17Single_is hb _ (hy.below b1) hly hn2 hs2).mono ?_
    rintro e w2 ⟨rfl, hb2⟩
    clear y0 y1 y2 y3 yl
    obtain ⟨x0, x1, x2, x3, xl⟩ := four_cells (hX1 _ (bstep hb1 hb2))
    obtain ⟨y0, y1, y2, y3, yl⟩ := four_cells (hY1 _ (bstep hb1 hb2))
    go_wp2_with fail
    refine (HC _).mono ?_
    rintro e w3 ⟨rfl, hb3⟩
    go_wp2
    go_returns
    exact ⟨rfl, bstep (bstep b1 hb2) hb3⟩
  · have hd : (cv == 0) = false := by simp [h0]
    have hne : ¬ (u = u2 ∧ s = s2) := fun h => h0 (hce.2 h)
    obtain rfl : q = true := by rw [← HQ.out]; simp [ibR, nP, hna, hnb, hu, hne]
    have hv : decide (s ≤ ys.getD u.toNat 0) = fv := by rw [← HF.out]; unfold ibV; rw [HQ.out]; rfl
    have hq2 : decide ((u - u2) * 100 + s - s2 = 0) = false := by rw [hcv]; simp [h0]
    have HB := fun (W : World) (hr : Rd W 1 A2 n2 (ints ys)) => l17Before_is (A := A) (n := n) (c := c) (c2 := c2) (wd := wd) (wd2 := wd2) hv hq2 W hr hly p2 o1 o2 o3 o4
    rw [show (fv && !false) = fv from by simp] at HB
    clear hce h0 hv hne e1 e2 hcv hu hna hnb o1 o2 o3 o4 p2 hq2
    go_wp2_with fail
    refine (l17Single_is ha _ (hx.below b0) hlx hn hs).mono ?_
    rintro e w1 ⟨rfl, hb1⟩
    have b1 := bstep b0 hb1
    clear x0 x1 x2 x3 xl y0 y1 y2 y3 yl
    obtain ⟨y0, y1, y2, y3, yl⟩ := four_cells (hY1 _ hb1)
    go_wp2_with fail
    refine (l17Single_is hb _ (hy.below b1) hly hn2 hs2).mono ?_
    rintro e w2 ⟨rfl, hb2⟩
    clear y0 y1 y2 y3 yl
    obtain ⟨x0, x1, x2, x3, xl⟩ := four_cells (hX1 _ (bstep hb1 hb2))
    obtain ⟨y0, y1, y2, y3, yl⟩ := four_cells (hY1 _ (bstep hb1 hb2))
    go_wp2_with fail
    refine (HC _).mono ?_
    rintro e w3 ⟨rfl, hb3⟩
    clear x0 x1 x2 x3 xl y0 y1 y2 y3 yl
    obtain ⟨x0, x1, x2, x3, xl⟩ := four_cells (hX1 _ (bstep (bstep hb1 hb2) hb3))
    obtain ⟨y0, y1, y2, y3, yl⟩ := four_cells (hY1 _ (bstep (bstep hb1 hb2) hb3))
    have b3 := bstep (bstep b1 hb2) hb3
    go_wp2_with fail
    refine (HB _ (hy.below b3)).mono ?_
    rintro e w4 ⟨rfl, hb4⟩
    go_wp2
    go_returns
    exact ⟨rfl, bstep b3 hb4⟩
end Go.Proofs.Ythgabapegpndnaa
