/-
  FnExactCheapestAssignment, walked. Conditions: none beyond the layout of its arguments.
-/
import Derived.Test.YtallgjobljkgnaaCJ
import Derived.Test.YtallgjobljkgnaaKC
import Derived.Test.YtallgjobljkgnaaB
namespace Go.Proofs.Ytallgjobljkgnaa
open Go.RowKit
set_option maxRecDepth 100000
set_option maxHeartbeats 2000000

theorem fnExactCheapestAssignment_walk (A : Option Addr) (n c : Nat) (z : List Row3) (w : World) (hr' : Rd w 1 A n (z.flatMap (fun r : Row3 => [Value.slice r.1 r.2.1 r.2.2]))) (hl : z.length = n) (hn : n ≤ 9223372036854775807)
    (ok : ∀ r ∈ z, r.2.1 ≤ r.2.2 ∧ r.2.2 ≤ maxLen ∧ ∃ zs : List Int, zs.length = r.2.1 ∧ Rd w 1 r.1 r.2.1 (zs.flatMap (fun n => [Value.int .i64 n])) ∧ ∀ y ∈ zs, I64 y) :
    Calls Try.prog 3 #[.slice A n c] w fun e w' => e = .returned (.bool true) ∧ Below w.heap.size w w' := by
  obtain ⟨T, hr, hm9⟩ := table_of hr' hl ok
  clear hr' ok hl
  have hl := hr.1
  have hz := fun W (hW : Below w.heap.size w W) => szIntSS_any A n c T W (hr.below hW) hn hm9
  obtain ⟨q, hq⟩ : ∃ val, ctB T = val := ⟨_, rfl⟩
  have Hq := Lib.hid hq
  obtain ⟨mo, hmo⟩ : ∃ val, (caR T).2 = val := ⟨_, rfl⟩
  have Hmo := Lib.hid hmo
  obtain ⟨L, hL⟩ : ∃ val, (caR T).1 = val := ⟨_, rfl⟩
  have HL := Lib.hid hL
  have hm5 : L.length ≤ 5 := by rw [← hL]; exact caR_len _
  obtain ⟨m, hmL⟩ : ∃ m, L.length = m := ⟨_, rfl⟩
  rw [hmL] at hm5
  have HM := Lib.hid hmL
  clear hm9 hL hmL hq hmo
  go_enter Try.func3, Try.ntmps3
  go_wp2_with fail
  refine (hz _ (Below.refl _ _)).mono ?_
  rintro e w1 ⟨v, rfl, hv, b1⟩
  clear hz
  by_cases hneg : v < 0
  case pos =>
    clear hv
    go_wp2
    go_returns
    exact ⟨rfl, b1⟩
  obtain ⟨hbig, hm⟩ := hv (by omega)
  clear hv
  have Hm := Lib.hid hm
  clear hm
  go_wp2_with fail
  refine (toIntSS_any A n c T _ (hr.below b1) hbig Hm.out).mono ?_
  rintro e w2 ⟨g2, f2, rfl, _, hB2, hc2⟩
  have b2 := bstep b1 hc2
  have HB2 := Lib.hid hB2
  clear hB2
  go_wp2_with fail
  refine (sCheapest_is Hq.out (Prod.ext HL.out Hmo.out) _ (HB2.out.rd hl) hbig).mono ?_
  rintro e wS ⟨v4, rfl, ho4, hc4⟩
  have bS := bstep b2 hc4
  rw [HM.out] at ho4
  obtain ⟨A2, c2, rfl, r20, _⟩ := own_rd ho4
  have R20 := Lib.hid r20
  have hrA := hr.below bS
  clear ho4 r20
  go_wp2_with fail
  refine (toIntSS_any A n c T _ hrA hbig Hm.out).mono ?_
  rintro e w5 ⟨gx, fx, rfl, hgx, hBx, e5⟩
  have HBx := Lib.hid hBx
  clear hBx
  go_wp2_with fail
  refine (Cheapest_is Hq.out (Prod.ext HL.out Hmo.out) _ (HBx.out.rd hl) hbig Hm.out).mono ?_
  rintro e w7 ⟨v7, rfl, ho7, hc7⟩
  rw [HM.out] at ho7
  obtain ⟨A7, c7, rfl, _, _⟩ := own_rd ho7
  have e7 := bstep e5 hc7
  have HO7 := Lib.hid ho7
  clear ho7
  go_wp2_with fail
  refine (eqIntS_yes _ (own_r HO7.out) (R20.out.below e7) (by omega) rfl).mono ?_
  rintro e w8 ⟨rfl, hc8⟩
  have e8 := bstep e7 hc8
  go_wp2_with fail
  refine (toIntSS_any A n c T _ (hrA.below e8) hbig Hm.out).mono ?_
  rintro e w9 ⟨g9, f9, rfl, _, hB9, hc9⟩
  have e9 := bstep e8 hc9
  have HB9 := Lib.hid hB9
  clear hB9
  go_wp2_with fail
  refine (eqIntSS_same _ _ n n n T _ ((HBx.out.below (bstep (bstep hc7 hc8) hc9)).rd hl) (HB9.out.rd hl) hbig Hm.out).mono ?_
  rintro e w10 ⟨rfl, hc10⟩
  have e10 := bstep e9 hc10
  have x10 := bstep (bstep (bstep hc7 hc8) hc9) hc10
  have y10 := bstep (bstep (bstep hc7 hc8) hc9) hc10
  have o10 := bstep (bstep hc8 hc9) hc10
  have hbl : ∀ i, i < n → wS.heap.size ≤ fx i ∧ fx i < w5.heap.size := fun i hi => by
    have h1 := HBx.out.2 i (by omega)
    have h2 := h1.2.lt
    omega
  go_wp2_with fail
  refine (markIntSS_any gx n n fx T 1 wS.heap.size w5.heap.size _ (HBx.out.below x10) hl hbig Hm.out (by omega) hbl).mono ?_
  rintro e w13 ⟨s13, rfl, hs13, M13⟩
  have e13 := below_mid e10 M13 (Nat.le_refl _)
  have ho13 := own_mid (own_below HO7.out o10) M13 (by have := Nat.le_refl w5.heap.size; omega)
  have e14 := e13
  have HO14 := Lib.hid ho13
  clear ho13
  go_wp2_with fail
  refine (eqIntS_yes _ (own_r HO14.out) (R20.out.below e14) (by omega) rfl).mono ?_
  rintro e w15 ⟨rfl, hc15⟩
  have e15 := bstep e14 hc15
  have ho15 := own_below HO14.out hc15
  go_wp2_with fail
  refine (markIntS_own ho15 (by omega) (by omega)).mono ?_
  rintro e w16 ⟨rfl, ho16, G16⟩
  have e16 := own_grownBy ho15 e15 G16 (by have := e5.size; omega) e15.size
  have HO16 := Lib.hid ho16
  clear ho15 ho16
  go_wp2_with fail
  refine (heldIntS_any _ _ _ 1 _ (own_r HO16.out) (by omega) (by omega)).mono ?_
  rintro e w17 ⟨rfl, rfl⟩
  go_wp2_with fail
  refine (toIntSS_any A n c T _ (hrA.below e16) hbig Hm.out).mono ?_
  rintro e w18 ⟨g18, f18, rfl, _, hB18, hc18⟩
  have e18 := bstep e16 hc18
  have HB18 := Lib.hid hB18
  clear hB18
  go_wp2_with fail
  refine (Cheapest_is Hq.out (Prod.ext HL.out Hmo.out) _ (HB18.out.rd hl) hbig Hm.out).mono ?_
  rintro e w20 ⟨v20, rfl, ho20, hc20⟩
  rw [HM.out] at ho20
  obtain ⟨A20, c20, rfl, r20, _⟩ := own_rd ho20
  have e20 := bstep e18 hc20
  have o20 := bstep hc18 hc20
  have HR20 := Lib.hid r20
  clear ho20 r20
  go_wp2_with fail
  refine (eqIntS_yes _ HR20.out (R20.out.below e20) (by omega) rfl).mono ?_
  rintro e w21 ⟨rfl, hc21⟩
  go_wp2_with fail
  refine (heldIntS_any _ _ _ 1 _ (own_r (own_below HO16.out (bstep o20 hc21))) (by omega) (by omega)).mono ?_
  rintro e w22 ⟨rfl, rfl⟩
  go_wp2
  go_returns
  exact ⟨rfl, bstep bS (bstep e20 hc21)⟩
end Go.Proofs.Ytallgjobljkgnaa
