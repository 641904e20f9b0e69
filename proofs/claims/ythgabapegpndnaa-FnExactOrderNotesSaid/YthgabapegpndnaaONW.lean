/-
  FnExactOrderNotes, walked. Conditions: none beyond the layout of its arguments.
-/
import Derived.Test.YthgabapegpndnaaOW
import Derived.Test.YthgabapegpndnaaM
namespace Go.Proofs.Ythgabapegpndnaa
open Go.RowKit
set_option maxRecDepth 100000
set_option maxHeartbeats 4000000

theorem fnExactOrderNotes_walk (units : Int) (A : Option Addr) (n c : Nat) (z : List NoteR) (w : World) (_hu : I64 units) (hr' : Rd w 4 A n (z.flatMap (fun a : NoteR => [Value.int .i64 a.1, .int .i64 a.2.1, .slice a.2.2.1.1 a.2.2.1.2.1 a.2.2.1.2.2, .string a.2.2.2]))) (hl : z.length = n) (hn : n ≤ 9223372036854775807)
    (ok : ∀ r ∈ z, I64 r.1 ∧ I64 r.2.1 ∧ (r.2.2.1.2.1 ≤ r.2.2.1.2.2 ∧ r.2.2.1.2.2 ≤ maxLen ∧ ∃ zs : List Int, zs.length = r.2.2.1.2.1 ∧ Rd w 1 r.2.2.1.1 r.2.2.1.2.1 (zs.flatMap (fun n => [Value.int .i64 n])) ∧ ∀ y ∈ zs, I64 y) ∧ r.2.2.2.size ≤ maxLen) :
    Calls Try.prog 9 #[.int .i64 units, .slice A n c] w fun e w' => e = .returned (.bool true) ∧ Below w.heap.size w w' := by
  obtain ⟨Z, hr, hm9⟩ := book_of hr' hl ok
  clear hr' ok hl
  have hl := hr.1
  have hz := fun W (hW : Below w.heap.size w W) => szNoteS_any A n c Z W (hr.below hW) hn hm9
  obtain ⟨q, hq⟩ : ∃ val, onQ units Z = val := ⟨_, rfl⟩
  have Hq := Lib.hid hq
  obtain ⟨L, hL⟩ : ∃ val, onL units Z = val := ⟨_, rfl⟩
  have HL := Lib.hid hL
  have hm5 : L.length ≤ n := by rw [← hL]; exact (hl ▸ onL_len units Z)
  obtain ⟨m, hmL⟩ : ∃ m, L.length = m := ⟨_, rfl⟩
  rw [hmL] at hm5
  have HM := Lib.hid hmL
  have H9 := Lib.hid hm9
  clear hm9 hL hmL hq
  go_enter Try.func9, Try.ntmps9
  go_wp2_with fail
  refine (hz _ (Below.refl _ _)).mono ?_
  rintro e w1 ⟨v, rfl, hv, b1⟩
  clear hz
  by_cases hneg : v < 0
  · clear hv
    go_wp2
    go_returns
    exact ⟨rfl, b1⟩
  obtain ⟨hbig, hm⟩ := hv (by omega)
  clear hv
  have Hm := Lib.hid hm
  have Hm2 : Hid (∀ i, i < n → (nAt Z i).2.2.1.length ≤ 1048576 ∧ (nAt Z i).2.2.2.size ≤ maxLen) := Lib.hid fun i hi => ⟨hm i hi, (H9.out i hi).2⟩
  clear hm
  go_wp2_with fail
  refine (toNoteS_any A n c Z _ (hr.below b1) hbig Hm.out).mono ?_
  rintro e w2 ⟨g2, f2, rfl, _, hB2, hb2⟩
  have b2 := bstep b1 hb2
  have HB2 := Lib.hid hB2
  clear hB2
  go_wp2_with fail
  refine (sOrderNotes_is Hq.out HL.out _ (HB2.out.rd hl) hbig Hm2.out).mono ?_
  rintro e w3 ⟨v3, rfl, ho3, hb3⟩
  have b3 := bstep b2 hb3
  rw [HM.out] at ho3
  obtain ⟨A2, c2, rfl, r20, _⟩ := own_rd ho3
  have R20 := Lib.hid r20
  clear ho3 r20
  go_wp2_with fail
  refine (toNoteS_any A n c Z _ (hr.below b3) hbig Hm.out).mono ?_
  rintro e w4 ⟨g4, f4, rfl, hg4, hB4, e4⟩
  have b4 := bstep b3 e4
  have h4f : ∀ i, i < n → w3.heap.size ≤ f4 i ∧ f4 i < w4.heap.size := fun i hi => ⟨by have := (hB4.2 i (by omega)).1; omega, (hB4.2 i (by omega)).2.lt⟩
  have h4g : w3.heap.size ≤ g4 ∧ g4 < w4.heap.size := ⟨hg4, hB4.1.lt⟩
  have H4F := Lib.hid h4f
  have H4G := Lib.hid h4g
  have HB4 := Lib.hid hB4
  clear hB4 h4f h4g
  go_wp2_with fail
  refine (OrderNotes_is Hq.out HL.out _ (HB4.out.rd hl) hbig Hm2.out).mono ?_
  rintro e w5 ⟨v5, rfl, ho5, hb5⟩
  have b5 := bstep b4 hb5
  have e5 := bstep e4 hb5
  rw [HM.out] at ho5
  obtain ⟨A4, c4, rfl, r4, _⟩ := own_rd ho5
  have HO5 := Lib.hid ho5
  have HB5 := Lib.hid (HB4.out.below hb5)
  clear ho5
  have i6 : (q != q) = false := by simp
  go_wp2_with fail
  refine (eqIntS_yes _ r4 (R20.out.below e5) (by omega) rfl).mono ?_
  rintro e w6 ⟨rfl, hb6⟩
  have b6 := bstep b5 hb6
  have e6 := bstep e5 hb6
  have HO6 := Lib.hid (own_below HO5.out hb6)
  have HB6 := Lib.hid (HB5.out.below hb6)
  clear r4
  go_wp2_with fail
  refine (toNoteS_any A n c Z _ (hr.below b6) hbig Hm.out).mono ?_
  rintro e w7 ⟨g7, f7, rfl, _, hB7, hb7⟩
  have b7 := bstep b6 hb7
  have e7 := bstep e6 hb7
  have HO7 := Lib.hid (own_below HO6.out hb7)
  have HB7 := Lib.hid (HB6.out.below hb7)
  have HX7 := Lib.hid hB7
  clear hB7
  go_wp2_with fail
  refine (eqNoteS_same _ _ n n n Z _ (HB7.out.rd hl) (HX7.out.rd hl) hbig Hm.out).mono ?_
  rintro e w8 ⟨rfl, hb8⟩
  have b8 := bstep b7 hb8
  have e8 := bstep e7 hb8
  have HO8 := Lib.hid (own_below HO7.out hb8)
  have HB8 := Lib.hid (HB7.out.below hb8)
  go_wp2_with fail
  refine (markNoteS_any g4 n n f4 Z 1 w3.heap.size w4.heap.size _ HB8.out hl hbig Hm.out ⟨by omega, by omega⟩ H4F.out H4G.out).mono ?_
  rintro e w9 ⟨kk, rfl, hkk, hM9⟩
  have b9 := below_mid b8 hM9 b3.size
  have e9 := below_mid e8 hM9 (Nat.le_refl _)
  have HO9 := Lib.hid (own_mid HO8.out hM9 (Nat.le_refl _))
  have r9 := own_r HO9.out
  go_wp2_with fail
  refine (eqIntS_yes _ r9 (R20.out.below e9) (by omega) rfl).mono ?_
  rintro e wA ⟨rfl, hbA⟩
  have bA := bstep b9 hbA
  have eA := bstep e9 hbA
  have hoA := own_below HO9.out hbA
  have HOA := Lib.hid hoA
  clear r9 hoA
  go_wp2_with fail
  refine (markIntS_own HOA.out (by omega) (by omega)).mono ?_
  rintro e wB ⟨rfl, hoB, hGB⟩
  have bB := own_grownBy HOA.out bA hGB b4.size bA.size
  have eB := own_grownBy HOA.out eA hGB e4.size eA.size
  have rB := own_r hoB
  have HOB := Lib.hid hoB
  clear hoB hGB
  go_wp2_with fail
  refine (heldIntS_any _ _ _ 1 _ rB (by omega) (by omega)).mono ?_
  rintro e wC ⟨rfl, rfl⟩
  have bC := bB
  have eC := eB
  have HOC := HOB
  clear rB
  go_wp2_with fail
  refine (toNoteS_any A n c Z _ (hr.below bC) hbig Hm.out).mono ?_
  rintro e wD ⟨gD, fD, rfl, _, hBD, hbD⟩
  have bD := bstep bC hbD
  have eD := bstep eC hbD
  have HBD := Lib.hid hBD
  clear hBD
  go_wp2_with fail
  refine (OrderNotes_is Hq.out HL.out _ (HBD.out.rd hl) hbig Hm2.out).mono ?_
  rintro e wE ⟨vE, rfl, hoE, hbE⟩
  have bE := bstep bD hbE
  have eE := bstep eD hbE
  rw [HM.out] at hoE
  obtain ⟨AE, cE, rfl, rE, _⟩ := own_rd hoE
  clear hoE
  go_wp2_with fail
  refine (eqIntS_yes _ rE (R20.out.below eE) (by omega) rfl).mono ?_
  rintro e wF ⟨rfl, hbF⟩
  have bF := bstep bE hbF
  have rF := own_r (own_below (own_below (own_below HOC.out hbD) hbE) hbF)
  clear rE
  go_wp2_with fail
  refine (heldIntS_any _ _ _ 1 _ rF (by omega) (by omega)).mono ?_
  rintro e wG ⟨rfl, rfl⟩
  go_wp2
  go_returns
  exact ⟨rfl, bF⟩
end Go.Proofs.Ythgabapegpndnaa
