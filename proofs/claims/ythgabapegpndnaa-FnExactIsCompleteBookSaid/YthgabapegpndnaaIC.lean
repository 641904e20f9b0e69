/-
  FnExactIsCompleteBook, walked. Conditions: none beyond the layout of its arguments.
-/
import Derived.Test.YthgabapegpndnaaKS
namespace Go.Proofs.Ythgabapegpndnaa
open Go.RowKit
set_option maxRecDepth 100000
set_option maxHeartbeats 4000000

theorem fnExactIsCompleteBook_walk (units : Int) (A : Option Addr) (n c : Nat) (z : List NoteR) (w : World) (_hu : I64 units) (hr' : Rd w 4 A n (z.flatMap (fun a : NoteR => [Value.int .i64 a.1, .int .i64 a.2.1, .slice a.2.2.1.1 a.2.2.1.2.1 a.2.2.1.2.2, .string a.2.2.2]))) (hl : z.length = n) (hn : n ≤ 9223372036854775807)
    (ok : ∀ r ∈ z, I64 r.1 ∧ I64 r.2.1 ∧ (r.2.2.1.2.1 ≤ r.2.2.1.2.2 ∧ r.2.2.1.2.2 ≤ maxLen ∧ ∃ zs : List Int, zs.length = r.2.2.1.2.1 ∧ Rd w 1 r.2.2.1.1 r.2.2.1.2.1 (zs.flatMap (fun n => [Value.int .i64 n])) ∧ ∀ y ∈ zs, I64 y) ∧ r.2.2.2.size ≤ maxLen) :
    Calls Try.prog 7 #[.int .i64 units, .slice A n c] w fun e w' => e = .returned (.bool true) ∧ Below w.heap.size w w' := by
  obtain ⟨Z, hr, hm9⟩ := book_of hr' hl ok
  clear hr' ok hl
  have hl := hr.1
  have hz := fun W (hW : Below w.heap.size w W) => szNoteS_any A n c Z W (hr.below hW) hn hm9
  obtain ⟨q, hq⟩ : ∃ q, bookB units Z = q := ⟨_, rfl⟩
  have HQ := Lib.hid hq
  obtain ⟨q2, hq2⟩ : ∃ q, icB units Z = q := ⟨_, rfl⟩
  have HQ2 := Lib.hid hq2
  clear hq2
  have H9 := Lib.hid hm9
  clear hq hm9
  go_enter Try.func7, Try.ntmps7
  go_wp2_with fail
  refine (hz _ (Below.refl _ _)).mono ?_
  rintro e w1 ⟨v, rfl, hv, b1⟩
  clear hz
  by_cases hneg : v < 0
  · clear hv
    go_wp2
    go_returns
    exact ⟨rfl, b1⟩
  obtain ⟨hbig, hm⟩ := hv (by omega)
  clear hv
  have Hm := Lib.hid hm
  have Hm2 : Hid (∀ i, i < n → (nAt Z i).2.2.1.length ≤ 1048576 ∧ (nAt Z i).2.2.2.size ≤ maxLen) := Lib.hid fun i hi => ⟨hm i hi, (H9.out i hi).2⟩
  clear hm
  go_wp2_with fail
  refine (toNoteS_any A n c Z _ (hr.below b1) hbig Hm.out).mono ?_
  rintro e w2 ⟨g2, f2, rfl, _, hB2, hb2⟩
  have b2 := bstep b1 hb2
  have HB2 := Lib.hid hB2
  clear hB2
  go_wp2_with fail
  refine (sIsCompleteBook_is HQ.out HQ2.out _ (HB2.out.rd hl) hbig Hm2.out).mono ?_
  rintro e w3 ⟨rfl, hb3⟩
  have b3 := bstep b2 hb3
  go_wp2_with fail
  refine (toNoteS_any A n c Z _ (hr.below b3) hbig Hm.out).mono ?_
  rintro e w4 ⟨g4, f4, rfl, _, hB4, hb4⟩
  have b4 := bstep b3 hb4
  have HB4 := Lib.hid hB4
  clear hB4
  go_wp2_with fail
  refine (IsCompleteBook_is HQ.out HQ2.out _ (HB4.out.rd hl) hbig Hm2.out).mono ?_
  rintro e w5 ⟨rfl, hb5⟩
  have b5 := bstep b4 hb5
  have i6 : (q != q) = false := by simp
  have i7 : (q2 != q2) = false := by simp
  go_wp2_with fail
  refine (toNoteS_any A n c Z _ (hr.below b5) hbig Hm.out).mono ?_
  rintro e w6 ⟨g6, f6, rfl, _, hB6, hb6⟩
  have b6 := bstep b5 hb6
  have HB6 := Lib.hid hB6
  clear hB6
  go_wp2_with fail
  refine (eqNoteS_same _ _ n n n Z _ ((HB4.out.below (bstep hb5 hb6)).rd hl) (HB6.out.rd hl) hbig Hm.out).mono ?_
  rintro e w7 ⟨rfl, hb7⟩
  go_wp2
  go_returns
  exact ⟨rfl, bstep b6 hb7⟩
end Go.Proofs.Ythgabapegpndnaa
