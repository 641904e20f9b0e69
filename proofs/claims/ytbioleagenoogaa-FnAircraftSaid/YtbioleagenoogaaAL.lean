/-
  The aircraft chapter's draw of a list of aircraft. Conditions: a cursor that has drawn less than 2^48 times.
-/
import Derived.Test.YtbioleagenoogaaCD
import Derived.Test.YtbioleagenoogaaTZ
import Derived.Test.YtbioleagenoogaaR
namespace Go.Proofs.Ytbioleagenoogaa
open Go.RowKit
set_option maxRecDepth 100000
set_option maxHeartbeats 4000000

theorem wrap64_bdA (n : Int) : -9223372036854775808 ≤ wrap64 n ∧ wrap64 n ≤ 9223372036854775807 := by simp only [wrap64]; omega
def slN : Value → Nat
  | .slice _ n _ => n
  | _ => 0
def acrI (z : AircraftT) : Prop := I64 z.1 ∧ I64 z.2.1 ∧ I64 z.2.2.1 ∧ I64 z.2.2.2.1 ∧ I64 z.2.2.2.2
theorem acrF_add (zs : List AircraftT) (a : AircraftT) : acrF (zs ++ [a]) = acrF zs ++ [.int .i64 a.1, .int .i64 a.2.1, .int .i64 a.2.2.1, .int .i64 a.2.2.2.1, .int .i64 a.2.2.2.2] := by simp [acrF, acrE]
theorem acr_snoc {zs : List AircraftT} {a : AircraftT} (h : ∀ z ∈ zs, acrI z) (ha : acrI a) : ∀ z ∈ zs ++ [a], acrI z := by
  intro z hz
  rcases List.mem_append.1 hz with h1 | h1
  · exact h z h1
  · rw [List.mem_singleton.1 h1]; exact ha
theorem airfleet_ty (X : DX) (B : Int) (w : World) (hX : X.base = w.heap.size) (hC : Cur w X B) (hB : B ≤ 281474976710656) :
    Calls Try.prog 62 #[.pointer (some ⟨X.g, 0, none⟩)] w fun e w' => ∃ v n zs, e = .returned v ∧ w.grownBy w' (some X.g) ∧ Cur w' X (B + 4096) ∧ w'.ownsRow X.base 41 5 v n (acrF zs) ∧ zs.length = n ∧ n ≤ 64 ∧ ∀ z ∈ zs, acrI z := by
  obtain ⟨i0, hi0, hz0, hz1, hz2⟩ := info_parts (show (Try.prog.info? 41).map (fun i => (i.zero, i.size, i.bytes)) = some (some (.agg #[.int .i64 0, .int .i64 0, .int .i64 0, .int .i64 0, .int .i64 0]), 5, 40) from by kernel_rfl)
  have hgl := cur_lt hC hX
  have hgw : X.g < w.heap.size := hC.lt
  have hG : w.grownBy w (some X.g) := gb_refl _ _
  go_enter Try.func62, Try.ntmps62
  go_upto_region 4 with (go_at_call 61; refine (pick_ty X B _ 6 _ (hC.alloc _) (by omega) (by omega) (by omega) (by omega)).mono ?_; rintro e w' ⟨v, rfl, hg, hC, x, rfl, x0, x1⟩; have hG := (gb_alloc hG _).trans hg; have hO := own_grown (own_lit' (k := 5) (t := 41) (base := w.heap.size) (w := w) rfl (Nat.le_refl _)) hg (by omega))
  go_loopw [3, 4, 5] (fun v d i wr => ∃ (j id : Int) (zs : List AircraftT), i = .int .i64 j ∧ d = .int .i64 id ∧ I64 id ∧ 0 ≤ j ∧ j ≤ 6 ∧ (zs.length : Int) + j ≤ 6 ∧ w.grownBy wr (some X.g) ∧ Cur wr X (B + 2 + 68 * (6 - j)) ∧ wr.ownsRow w.heap.size 41 5 v zs.length (acrF zs) ∧ Hid (∀ z ∈ zs, acrI z)) (fun _ _ i _ => (intOf i).toNat)
  case atStart => exact ⟨x, 0, [], rfl, rfl, ⟨by decide, by decide⟩, x0, x1, by simpa using x1, hG, hC.le (by omega), by simpa [acrF] using hO, Lib.hid (by simp)⟩
  case round =>
    obtain ⟨j, id, zs, rfl, rfl, ⟨d0, d1⟩, j0, j1, jl, hG, hC, hO, HZ⟩ := hrel
    have hlt2 := hG.size
    by_cases hj : 0 < j
    · have i1 : decide (0 < j) = true := decide_eq_true hj
      go_upto_region 7 with (first
        | (go_at_call 61; refine (pick_ty X _ _ 3 _ hC (by omega) (by omega) (by omega) (by omega)).mono ?_; rintro e w' ⟨v, rfl, hg, hC, x, rfl, x0, x1⟩; have hG := hG.trans hg; have hO := own_grown hO hg hgw; have hlt2 := hG.size)
        | (go_at_call 61; refine (pick_ty X _ _ 60 _ hC (by omega) (by omega) (by omega) (by omega)).mono ?_; rintro e w' ⟨v, rfl, hg, hC, y, rfl, y0, y1⟩; have hG := hG.trans hg; have hO := own_grown hO hg hgw; have hlt2 := hG.size))
      obtain ⟨id2, hid2⟩ : ∃ d, wrap64 (wrap64 (wrap64 (id + 1) + x) - y / 59) = d := ⟨_, rfl⟩
      have hI2 : I64 id2 := by rw [← hid2]; exact wrap64_bdA _
      rw [hid2]
      clear hid2
      go_wp2_with (first
        | (go_at_call 50; refine (aircraft_ats X _ _ _ (by omega) hC (by omega) hI2).mono ?_; rintro e w' ⟨i, l, s, f, fi, rfl, hg, hC, ha⟩; have hG := hG.trans hg; have hO := own_grown hO hg hgw; have hlt2 := hG.size)
        | (at_builtin; refine wpList_append_own _ rfl (.tmp 22) (.tmp 26) 29 rfl w.heap.size 41 i0 _ 5 40 Try.underlying29 hi0 hz0 hz1 hz2 rfl (by decide) _ _ _ rfl (own_alloc hO _) ⟨_, 0, none⟩ 1 1 [.int .i64 i, .int .i64 l, .int .i64 s, .int .i64 f, .int .i64 fi] rfl rfl ?c1 ?c2 ?c3 ?c4 ?c5 ?_))
      case c1 => exact ((Bk.new' (t := 41) (cs := [.int .i64 i, .int .i64 l, .int .i64 s, .int .i64 f, .int .i64 fi]) (g := w'.heap.size) (by simp)).rd (k := 5) (n := 1) rfl).news
      case c2 => (intro u hu; simp at hu; rcases hu with rfl | rfl | rfl | rfl | rfl <;> rfl)
      case c3 => (unfold maxLen; omega)
      case c4 => omega
      case c5 => (simp; omega)
      intro v' w1 hown' hgrow _
      have hC1 := cur_own (hC.alloc _) (own_alloc hO _) hgw (Nat.le_of_eq hX) hgrow
      have hG1 := gb_own (gb_alloc hG _) (own_alloc hO _) hgrow
      have HZ1 : Hid (∀ z ∈ zs ++ [(i, l, s, f, fi)], acrI z) := Lib.hid (acr_snoc HZ.out ha)
      go_wp2
      go_roundw
      case rel => exact ⟨j - 1, id2, zs ++ [(i, l, s, f, fi)], by go_num, rfl, hI2, by omega, by omega, by simp; omega, hG1, hC1.le (by omega), by rw [acrF_add, List.length_append]; exact hown', HZ1⟩
      case measure => simp [intOf]; omega
    · have i1 : decide (0 < j) = false := decide_eq_false hj
      go_wp2_with (first | (go_at_call 71; refine (one_ty X _ _ _ hC (by omega) (by omega)).mono ?_; rintro e w' ⟨v, rfl, hg, hC, yes, rfl⟩; have hG := hG.trans hg; have hO := own_grown hO hg hgw))
      any_goals (go_returns; exact ⟨_, _, zs, rfl, hG, hC.le (by omega), by rw [hX]; exact hO, rfl, by omega, HZ.out⟩)
      obtain rfl : yes = true := by assumption
      go_loopw [3, 4] (fun v d wr => ∃ (id : Int) (zs : List AircraftT), slN v = zs.length ∧ d = .int .i64 id ∧ I64 id ∧ zs.length ≤ 9 ∧ w.grownBy wr (some X.g) ∧ Cur wr X (B + 1024 + 2 * zs.length) ∧ wr.ownsRow w.heap.size 41 5 v zs.length (acrF zs) ∧ Hid (∀ z ∈ zs, acrI z)) (fun v _ _ => 64 - slN v)
      case atStart => obtain ⟨A, c, rfl, _⟩ := own_rd hO; exact ⟨_, zs, rfl, rfl, ⟨d0, d1⟩, by omega, hG, hC.le (by omega), hO, HZ⟩
      case round =>
        obtain ⟨id, zs, hsl, rfl, hId, hl, hG, hC, hO, HZ⟩ := hrel
        obtain ⟨A, c, rfl, hr⟩ := own_rd hO
        clear hsl
        go_upto_region 10 with (first | (go_at_call 61; refine (pick_ty X _ _ 2 _ hC (by omega) (by omega) (by omega) (by omega)).mono ?_; rintro e w' ⟨v, rfl, hg, hC, x, rfl, x0, x1⟩; have hG := hG.trans hg; have hO := own_grown hO hg hgw; have hlt2 := hG.size))
        any_goals (go_returns; exact ⟨_, _, zs, rfl, hG, hC.le (by omega), by rw [hX]; exact hO, rfl, by omega, HZ.out⟩)
        go_upto_region 11 with fail
        obtain ⟨id2, hid2⟩ : ∃ d, wrap64 (id + 1) = d := ⟨_, rfl⟩
        have hI2 : I64 id2 := by rw [← hid2]; exact wrap64_bdA _
        rw [hid2]
        clear hid2
        go_wp2_with (at_builtin; refine wpList_append_own _ rfl (.tmp 38) (.tmp 41) 29 rfl w.heap.size 41 i0 _ 5 40 Try.underlying29 hi0 hz0 hz1 hz2 rfl (by decide) _ _ _ rfl (own_alloc hO _) ⟨_, 0, none⟩ 1 1 [.int .i64 id2, .int .i64 500, .int .i64 5, .int .i64 100, .int .i64 1] rfl rfl ?c1 ?c2 ?c3 ?c4 ?c5 ?_)
        case c1 => exact ((Bk.new' (t := 41) (cs := [.int .i64 id2, .int .i64 500, .int .i64 5, .int .i64 100, .int .i64 1]) (g := w'.heap.size) (by simp)).rd (k := 5) (n := 1) rfl).news
        case c2 => (intro u hu; simp at hu; rcases hu with rfl | rfl | rfl | rfl | rfl <;> rfl)
        case c3 => (unfold maxLen; omega)
        case c4 => omega
        case c5 => (simp; omega)
        intro v' w1 hown' hgrow _
        have hC1 := cur_own (hC.alloc _) (own_alloc hO _) hgw (Nat.le_of_eq hX) hgrow
        have hG1 := gb_own (gb_alloc hG _) (own_alloc hO _) hgrow
        have HZ1 : Hid (∀ z ∈ zs ++ [(id2, (500 : Int), (5 : Int), (100 : Int), (1 : Int))], acrI z) := Lib.hid (acr_snoc HZ.out ⟨hI2, (show I64 500 from ⟨by decide, by decide⟩), (show I64 5 from ⟨by decide, by decide⟩), (show I64 100 from ⟨by decide, by decide⟩), (show I64 1 from ⟨by decide, by decide⟩)⟩)
        obtain ⟨A', c', rfl, _⟩ := own_rd hown'
        go_wp2
        go_roundw
        case rel => exact ⟨id2, zs ++ [(id2, 500, 5, 100, 1)], by simp [slN], rfl, hI2, by simp; omega, hG1, hC1.le (by simp; omega), by rw [acrF_add, List.length_append]; exact hown', HZ1⟩
        case measure => simp [slN]; omega
end Go.Proofs.Ytbioleagenoogaa
