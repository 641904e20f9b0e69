/-
  Notes as a law is handed them; FnExactIsNotebook, walked. Conditions: none beyond the layout of its arguments.
-/
import Derived.Test.YthgabapegpndnaaD
namespace Go.Proofs.Ythgabapegpndnaa
open Go.RowKit
set_option maxRecDepth 100000
set_option maxHeartbeats 2000000

abbrev NoteR := Int × Int × (Option Addr × Nat × Nat) × ByteArray
theorem ints_flat (xs : List Int) : xs.flatMap (fun n => [Value.int .i64 n]) = ints xs := by
  unfold ints
  induction xs with
  | nil => rfl
  | cons x xs ih => rw [List.flatMap_cons, ih]; rfl
theorem book_of {w : World} {A : Option Addr} {n : Nat} {z : List NoteR} (hr : Rd w 4 A n (z.flatMap (fun a : NoteR => [Value.int .i64 a.1, .int .i64 a.2.1, .slice a.2.2.1.1 a.2.2.1.2.1 a.2.2.1.2.2, .string a.2.2.2]))) (hl : z.length = n)
    (ok : ∀ r ∈ z, I64 r.1 ∧ I64 r.2.1 ∧ (r.2.2.1.2.1 ≤ r.2.2.1.2.2 ∧ r.2.2.1.2.2 ≤ maxLen ∧ ∃ zs : List Int, zs.length = r.2.2.1.2.1 ∧ Rd w 1 r.2.2.1.1 r.2.2.1.2.1 (zs.flatMap (fun n => [Value.int .i64 n])) ∧ ∀ y ∈ zs, I64 y) ∧ r.2.2.2.size ≤ maxLen) :
    ∃ Z : List NoteV, RdN w A n Z ∧ ∀ i, i < n → (nAt Z i).2.2.1.length ≤ 9223372036854775807 ∧ (nAt Z i).2.2.2.size ≤ maxLen := by
  obtain ⟨Z, hZl, hZ⟩ := choose_list (fun i (v : NoteV) => ∀ hi : i < z.length, v.1 = (z[i]).1 ∧ v.2.1 = (z[i]).2.1 ∧ v.2.2.1.length = (z[i]).2.2.1.2.1 ∧ Rd w 1 (z[i]).2.2.1.1 (z[i]).2.2.1.2.1 (ints v.2.2.1) ∧ (z[i]).2.2.1.2.1 ≤ 9223372036854775807 ∧ v.2.2.2 = (z[i]).2.2.2 ∧ (z[i]).2.2.2.size ≤ maxLen) n (fun i hi => by
    obtain ⟨_, _, ⟨h1, h2, zs, h3, h4, _⟩, h5⟩ := ok z[i] (List.getElem_mem _)
    refine ⟨((z[i]).1, (z[i]).2.1, zs, (z[i]).2.2.2), fun _ => ⟨rfl, rfl, h3, ?_, ?_, rfl, h5⟩⟩
    · rw [← ints_flat]; exact h4
    · have : (z[i]).2.2.1.2.1 ≤ maxLen := Nat.le_trans h1 h2
      unfold maxLen at this; omega)
  have key : ∀ i (hi : i < n), (nAt Z i).1 = (z[i]).1 ∧ (nAt Z i).2.1 = (z[i]).2.1 ∧ (nAt Z i).2.2.1.length = (z[i]).2.2.1.2.1 ∧ Rd w 1 (z[i]).2.2.1.1 (z[i]).2.2.1.2.1 (ints (nAt Z i).2.2.1) ∧ (z[i]).2.2.1.2.1 ≤ 9223372036854775807 ∧ (nAt Z i).2.2.2 = (z[i]).2.2.2 ∧ (z[i]).2.2.2.size ≤ maxLen := fun i hi => by
    have := hZ i (by omega) (by omega)
    rw [nAt_get (by omega)] at this
    exact this
  refine ⟨Z, ⟨hZl, fun hn => ?_⟩, fun i hi => by obtain ⟨_, _, k3, _, k5, k6, k7⟩ := key i hi; rw [k3, k6]; exact ⟨k5, k7⟩⟩
  obtain ⟨b, off, e, hb, hc⟩ := hr.2 hn
  refine ⟨b, off, e, hb, fun k hk => ?_⟩
  obtain ⟨k1, k2, k3, k4, _, k6, _⟩ := key k hk
  have hg : ∀ j u, j < 4 → ([Value.int .i64 (z[k]).1, .int .i64 (z[k]).2.1, .slice (z[k]).2.2.1.1 (z[k]).2.2.1.2.1 (z[k]).2.2.1.2.2, .string (z[k]).2.2.2])[j]? = some u → w.cell? ⟨b, off + k * 4 + j, none⟩ = some u := fun j u hj hu => by
    rw [Nat.add_assoc]
    refine hc _ _ ?_
    rw [← hu]
    exact flat_get (en := fun a : NoteR => [Value.int .i64 a.1, .int .i64 a.2.1, .slice a.2.2.1.1 a.2.2.1.2.1 a.2.2.1.2.2, .string a.2.2.2]) (k := 4) (fun _ => rfl) z k j (by omega) hj
  refine ⟨(z[k]).2.2.1.1, (z[k]).2.2.1.2.2, ?_, ?_, ?_, ?_, ?_⟩
  · rw [k1]; exact hg 0 _ (by omega) rfl
  · rw [k2]; exact hg 1 _ (by omega) rfl
  · rw [k3]; exact hg 2 _ (by omega) rfl
  · rw [k6]; exact hg 3 _ (by omega) rfl
  · rw [k3]; exact k4
theorem fnExactIsNotebook_walk (units : Int) (A : Option Addr) (n c : Nat) (z : List NoteR) (w : World) (_hu : I64 units) (hr' : Rd w 4 A n (z.flatMap (fun a : NoteR => [Value.int .i64 a.1, .int .i64 a.2.1, .slice a.2.2.1.1 a.2.2.1.2.1 a.2.2.1.2.2, .string a.2.2.2]))) (hl : z.length = n) (hn : n ≤ 9223372036854775807)
    (ok : ∀ r ∈ z, I64 r.1 ∧ I64 r.2.1 ∧ (r.2.2.1.2.1 ≤ r.2.2.1.2.2 ∧ r.2.2.1.2.2 ≤ maxLen ∧ ∃ zs : List Int, zs.length = r.2.2.1.2.1 ∧ Rd w 1 r.2.2.1.1 r.2.2.1.2.1 (zs.flatMap (fun n => [Value.int .i64 n])) ∧ ∀ y ∈ zs, I64 y) ∧ r.2.2.2.size ≤ maxLen) :
    Calls Try.prog 3 #[.int .i64 units, .slice A n c] w fun e w' => e = .returned (.bool true) ∧ Below w.heap.size w w' := by
  obtain ⟨Z, hr, hm9⟩ := book_of hr' hl ok
  clear hr' ok hl
  have hl := hr.1
  have hz := fun W (hW : Below w.heap.size w W) => szNoteS_any A n c Z W (hr.below hW) hn hm9
  obtain ⟨q, hq⟩ : ∃ q, bookB units Z = q := ⟨_, rfl⟩
  have HQ := Lib.hid hq
  have H9 := Lib.hid hm9
  clear hq hm9
  go_enter Try.func3, Try.ntmps3
  go_wp2_with fail
  refine (hz _ (Below.refl _ _)).mono ?_
  rintro e w1 ⟨v, rfl, hv, b1⟩
  clear hz
  by_cases hneg : v < 0
  · clear hv
    go_wp2
    go_returns
    exact ⟨rfl, b1⟩
  obtain ⟨hbig, hm⟩ := hv (by omega)
  clear hv
  have Hm := Lib.hid hm
  have Hm2 : Hid (∀ i, i < n → (nAt Z i).2.2.1.length ≤ 1048576 ∧ (nAt Z i).2.2.2.size ≤ maxLen) := Lib.hid fun i hi => ⟨hm i hi, (H9.out i hi).2⟩
  clear hm
  go_wp2_with fail
  refine (toNoteS_any A n c Z _ (hr.below b1) hbig Hm.out).mono ?_
  rintro e w2 ⟨g2, f2, rfl, _, hB2, hb2⟩
  have b2 := bstep b1 hb2
  have HB2 := Lib.hid hB2
  clear hB2
  go_wp2_with fail
  refine (sIsNotebook_is HQ.out _ (HB2.out.rd hl) hbig Hm2.out).mono ?_
  rintro e w3 ⟨rfl, hb3⟩
  have b3 := bstep b2 hb3
  go_wp2_with fail
  refine (toNoteS_any A n c Z _ (hr.below b3) hbig Hm.out).mono ?_
  rintro e w4 ⟨g4, f4, rfl, _, hB4, hb4⟩
  have b4 := bstep b3 hb4
  have HB4 := Lib.hid hB4
  clear hB4
  go_wp2_with fail
  refine (IsNotebook_is HQ.out _ (HB4.out.rd hl) hbig Hm2.out).mono ?_
  rintro e w5 ⟨rfl, hb5⟩
  have b5 := bstep b4 hb5
  go_wp2_with fail
  refine (toNoteS_any A n c Z _ (hr.below b5) hbig Hm.out).mono ?_
  rintro e w6 ⟨g6, f6, rfl, _, hB6, hb6⟩
  have b6 := bstep b5 hb6
  have HB6 := Lib.hid hB6
  clear hB6
  go_wp2_with fail
  refine (eqNoteS_same _ _ n n n Z _ ((HB4.out.below (bstep hb5 hb6)).rd hl) (HB6.out.rd hl) hbig Hm.out).mono ?_
  rintro e w7 ⟨rfl, hb7⟩
  go_wp2
  go_returns
  exact ⟨rfl, bstep b6 hb7⟩
end Go.Proofs.Ythgabapegpndnaa
