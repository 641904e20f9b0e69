/-
  FnExactIsCostTable, walked. Conditions: none beyond the layout of its arguments.
-/
import Derived.Test.YtdibkgacplbaeaaA
namespace Go.Proofs.Ytdibkgacplbaeaa
open Go.RowKit
set_option maxRecDepth 100000
set_option maxHeartbeats 1000000

theorem flat_one {α : Type} (f : α → Value) (z : List α) : z.flatMap (fun r => [f r]) = z.map f := by
  induction z with
  | nil => rfl
  | cons a z ih => rw [List.flatMap_cons, ih]; rfl
theorem ints_flat (zs : List Int) : zs.flatMap (fun n => [Value.int .i64 n]) = ints zs := flat_one _ zs
abbrev Row3 := Option Addr × Nat × Nat
theorem table_of {w : World} {A : Option Addr} {n : Nat} {z : List Row3} (hr : Rd w 1 A n (z.flatMap (fun r : Row3 => [Value.slice r.1 r.2.1 r.2.2]))) (hl : z.length = n)
    (ok : ∀ r ∈ z, r.2.1 ≤ r.2.2 ∧ r.2.2 ≤ maxLen ∧ ∃ zs : List Int, zs.length = r.2.1 ∧ Rd w 1 r.1 r.2.1 (zs.flatMap (fun n => [Value.int .i64 n])) ∧ ∀ y ∈ zs, I64 y) :
    ∃ T : List (List Int), RdT w A n T ∧ ∀ i, i < n → (row T i).length ≤ 9223372036854775807 := by
  obtain ⟨T, hTl, hT⟩ := choose_list (fun i (zs : List Int) => ∀ hi : i < z.length, zs.length = (z[i]).2.1 ∧ Rd w 1 (z[i]).1 (z[i]).2.1 (ints zs) ∧ (z[i]).2.1 ≤ 9223372036854775807) n (fun i hi => by
    obtain ⟨h1, h2, zs, h3, h4, _⟩ := ok z[i] (List.getElem_mem _)
    refine ⟨zs, fun _ => ⟨h3, ?_, ?_⟩⟩
    · rw [← ints_flat]; exact h4
    · have : (z[i]).2.1 ≤ maxLen := Nat.le_trans h1 h2
      unfold maxLen at this; omega)
  have key : ∀ i (hi : i < n), (row T i).length = (z[i]).2.1 ∧ Rd w 1 (z[i]).1 (z[i]).2.1 (ints (row T i)) ∧ (z[i]).2.1 ≤ 9223372036854775807 := fun i hi => by
    have := hT i (by omega) (by omega)
    rw [row_get (by omega)] at this
    exact this
  refine ⟨T, ⟨hTl, fun hn => ?_⟩, fun i hi => by rw [(key i hi).1]; exact (key i hi).2.2⟩
  obtain ⟨b, off, e, hb, hc⟩ := hr.2 hn
  refine ⟨b, off, e, hb, fun k hk => ⟨(z[k]).1, (z[k]).2.2, ?_, ?_⟩⟩
  · rw [(key k hk).1]
    refine hc k _ ?_
    rw [flat_one (fun r : Row3 => Value.slice r.1 r.2.1 r.2.2), List.getElem?_map, List.getElem?_eq_getElem (by omega)]
    rfl
  · have := (key k hk).2.1
    rw [← (key k hk).1] at this
    exact this
theorem fnExactIsCostTable_walk (A : Option Addr) (n c : Nat) (z : List Row3) (w : World) (hr' : Rd w 1 A n (z.flatMap (fun r : Row3 => [Value.slice r.1 r.2.1 r.2.2]))) (hl : z.length = n) (hn : n ≤ 9223372036854775807)
    (ok : ∀ r ∈ z, r.2.1 ≤ r.2.2 ∧ r.2.2 ≤ maxLen ∧ ∃ zs : List Int, zs.length = r.2.1 ∧ Rd w 1 r.1 r.2.1 (zs.flatMap (fun n => [Value.int .i64 n])) ∧ ∀ y ∈ zs, I64 y) :
    Calls Try.prog 3 #[.slice A n c] w fun e w' => e = .returned (.bool true) ∧ Below w.heap.size w w' := by
  obtain ⟨T, hr, hm9⟩ := table_of hr' hl ok
  clear hr' ok hl
  have hz := fun W (hW : Below w.heap.size w W) => szIntSS_any A n c T W (hr.below hW) hn hm9
  obtain ⟨q, hq⟩ : ∃ q, ctB T = q := ⟨_, rfl⟩
  have HQ := Lib.hid hq
  clear hq hm9
  go_enter Try.func3, Try.ntmps3
  go_wp2_with fail
  refine (hz _ (Below.refl _ _)).mono ?_
  rintro e w1 ⟨v, rfl, hv, b1⟩
  clear hz
  by_cases hneg : v < 0
  · clear hv
    go_wp2
    go_returns
    exact ⟨rfl, b1⟩
  · obtain ⟨hbig, hm⟩ := hv (by omega)
    clear hv
    have Hm := Lib.hid hm
    clear hm
    go_wp2_with fail
    refine (toIntSS_any A n c T _ (hr.below b1) hbig Hm.out).mono ?_
    rintro e w2 ⟨g2, f2, rfl, hg2, hB2, hb2⟩
    have b2 := bstep b1 hb2
    have HB2 := Lib.hid hB2
    clear hB2
    go_wp2_with fail
    refine (sIsCostTable_is HQ.out _ (HB2.out.rd hr.1) hbig).mono ?_
    rintro e w3 ⟨rfl, hb3⟩
    have b3 := bstep b2 hb3
    go_wp2_with fail
    refine (toIntSS_any A n c T _ (hr.below b3) hbig Hm.out).mono ?_
    rintro e w4 ⟨g4, f4, rfl, hg4, hB4, hb4⟩
    have b4 := bstep b3 hb4
    have HB4 := Lib.hid hB4
    clear hB4
    go_wp2_with fail
    refine (IsCostTable_is HQ.out _ (HB4.out.rd hr.1) hbig Hm.out).mono ?_
    rintro e w5 ⟨rfl, hb5⟩
    have b5 := bstep b4 hb5
    go_wp2_with fail
    refine (toIntSS_any A n c T _ (hr.below b5) hbig Hm.out).mono ?_
    rintro e w6 ⟨g6, f6, rfl, hg6, hB6, hb6⟩
    have b6 := bstep b5 hb6
    have HB6 := Lib.hid hB6
    clear hB6
    go_wp2_with fail
    refine (eqIntSS_same _ _ n n n T _ ((HB4.out.below (bstep hb5 hb6)).rd hr.1) (HB6.out.rd hr.1) hbig Hm.out).mono ?_
    rintro e w7 ⟨rfl, hb7⟩
    go_wp2
    go_returns
    exact ⟨rfl, bstep b6 hb7⟩
end Go.Proofs.Ytdibkgacplbaeaa
