/-
  The moisture chapter's draw of a list of air. Conditions: a cursor that has drawn less than 2^48 times.
-/
import Derived.Test.YtlnfccncbfpoiaaCA
import Derived.Test.YtlnfccncbfpoiaaTZ
import Derived.Test.YtlnfccncbfpoiaaR
import Derived.Test.YtlnfccncbfpoiaaJ
namespace Go.Proofs.Ytlnfccncbfpoiaa
open Go.RowKit
set_option maxRecDepth 100000
set_option maxHeartbeats 4000000

def slN : Value → Nat
  | .slice _ n _ => n
  | _ => 0
def airI (z : AirT) : Prop := I64 z.1 ∧ I64 z.2.1 ∧ I64 z.2.2
theorem airF_add (zs : List AirT) (a : AirT) : airF (zs ++ [a]) = airF zs ++ [.int .i64 a.1, .int .i64 a.2.1, .int .i64 a.2.2] := by simp [airF, airE]
theorem air_ats (X : DX) (B : Int) (w : World) (hX : X.base ≤ w.heap.size) (hC : Cur w X B) (hB : B ≤ 562949953421312) :
    Calls Try.prog 33 #[.pointer (some ⟨X.g, 0, none⟩)] w fun e w' => ∃ x y z, e = .returned (.agg #[.int .i64 x, .int .i64 y, .int .i64 z]) ∧ w.grownBy w' (some X.g) ∧ Cur w' X (B + 64) ∧ airI (x, y, z) := by
  refine (air_ty { X with base := w.heap.size } B w rfl (hC.rebase hX) hB).mono ?_
  rintro e w' ⟨v, rfl, hg, hC', zs, rfl, hl, hz⟩
  match zs, hl with
  | [x, y, z], _ => exact ⟨x, y, z, rfl, hg, hC'.unbase hC.ne, hz x (by simp), hz y (by simp), hz z (by simp)⟩
theorem airs_ty (X : DX) (B : Int) (w : World) (hX : X.base = w.heap.size) (hC : Cur w X B) (hB : B ≤ 281474976710656) :
    Calls Try.prog 43 #[.pointer (some ⟨X.g, 0, none⟩)] w fun e w' => ∃ v n zs, e = .returned v ∧ w.grownBy w' (some X.g) ∧ Cur w' X (B + 4096) ∧ w'.ownsRow X.base 27 3 v n (airF zs) ∧ zs.length = n ∧ n ≤ 64 ∧ ∀ z ∈ zs, airI z := by
  obtain ⟨i0, hi0, hz0, hz1, hz2⟩ := info_parts (show (Try.prog.info? 27).map (fun i => (i.zero, i.size, i.bytes)) = some (some (.agg #[.int .i64 0, .int .i64 0, .int .i64 0]), 3, 24) from by kernel_rfl)
  have hgl := cur_lt hC hX
  have hgw : X.g < w.heap.size := hC.lt
  have hG : w.grownBy w (some X.g) := gb_refl _ _
  go_enter Try.func43, Try.ntmps43
  go_upto_region 3 with (go_at_call 49; refine (pick_ty X B _ 9 _ (hC.alloc _) (by omega) (by omega) (by omega) (by omega)).mono ?_; rintro e w' ⟨v, rfl, hg, hC, x, rfl, x0, x1⟩; have hG := (gb_alloc hG _).trans hg; have hO := own_grown (own_lit' (k := 3) (t := 27) (base := w.heap.size) (w := w) rfl (Nat.le_refl _)) hg (by omega))
  go_loopw [3, 4] (fun v i wr => ∃ (j : Int) (zs : List AirT), i = .int .i64 j ∧ 0 ≤ j ∧ j ≤ 9 ∧ (zs.length : Int) + j ≤ 9 ∧ w.grownBy wr (some X.g) ∧ Cur wr X (B + 2 + 64 * (9 - j)) ∧ wr.ownsRow w.heap.size 27 3 v zs.length (airF zs) ∧ ∀ z ∈ zs, airI z) (fun _ i _ => (intOf i).toNat)
  case atStart => exact ⟨x, [], rfl, x0, x1, by simpa using x1, hG, hC.le (by omega), by simpa [airF] using hO, by simp⟩
  case round =>
    obtain ⟨j, zs, rfl, j0, j1, jl, hG, hC, hO, hz⟩ := hrel
    by_cases hj : 0 < j
    · have i1 : decide (0 < j) = true := decide_eq_true hj
      go_wp2_with (first
        | (go_at_call 33; refine (air_ats X _ _ (by have := hG.size; omega) hC (by omega)).mono ?_; rintro e w' ⟨a, b, c, rfl, hg, hC, ha⟩; have hG := hG.trans hg; have hO := own_grown hO hg hgw; have hlt2 := hG.size)
        | (at_builtin; refine wpList_append_own _ rfl (.tmp 12) (.tmp 15) 35 rfl w.heap.size 27 i0 _ 3 24 Try.underlying35 hi0 hz0 hz1 hz2 rfl (by decide) _ _ _ rfl (own_alloc hO _) ⟨_, 0, none⟩ 1 1 [.int .i64 a, .int .i64 b, .int .i64 c] rfl rfl ?c1 ?c2 ?c3 ?c4 ?c5 ?_))
      case c1 => exact ((Bk.new' (t := 27) (cs := [.int .i64 a, .int .i64 b, .int .i64 c]) (g := w'.heap.size) (by simp)).rd (k := 3) (n := 1) rfl).news
      case c2 => (intro u hu; simp at hu; rcases hu with rfl | rfl | rfl <;> rfl)
      case c3 => (unfold maxLen; omega)
      case c4 => omega
      case c5 => (simp; omega)
      intro v' w1 hown' hgrow _
      have hC1 := cur_own (hC.alloc _) (own_alloc hO _) hgw (Nat.le_of_eq hX) hgrow
      have hG1 := gb_own (gb_alloc hG _) (own_alloc hO _) hgrow
      have hz1 : ∀ z ∈ zs ++ [(a, b, c)], airI z := by
        intro z hz'
        rcases List.mem_append.1 hz' with h | h
        · exact hz z h
        · rw [List.mem_singleton.1 h]; exact ha
      go_wp2
      go_roundw
      case rel => exact ⟨j - 1, zs ++ [(a, b, c)], by go_num, by omega, by omega, by simp; omega, hG1, hC1.le (by omega), by rw [airF_add, List.length_append]; exact hown', hz1⟩
      case measure => simp [intOf]; omega
    · have i1 : decide (0 < j) = false := decide_eq_false hj
      go_wp2_with (first | (go_at_call 60; refine (one_ty X _ _ _ hC (by omega) (by omega)).mono ?_; rintro e w' ⟨v, rfl, hg, hC, yes, rfl⟩; have hG := hG.trans hg; have hO := own_grown hO hg hgw))
      any_goals (go_returns; exact ⟨_, _, zs, rfl, hG, hC.le (by omega), by rw [hX]; exact hO, rfl, by omega, hz⟩)
      obtain rfl : yes = true := by assumption
      go_loopw [3] (fun v wr => ∃ (zs : List AirT), slN v = zs.length ∧ zs.length ≤ 49 ∧ w.grownBy wr (some X.g) ∧ Cur wr X (B + 1024 + 2 * zs.length) ∧ wr.ownsRow w.heap.size 27 3 v zs.length (airF zs) ∧ ∀ z ∈ zs, airI z) (fun v _ => 64 - slN v)
      case atStart => obtain ⟨A, c, rfl, _⟩ := own_rd hO; exact ⟨zs, rfl, by omega, hG, hC.le (by omega), hO, hz⟩
      case round =>
        obtain ⟨zs, hsl, hl, hG, hC, hO, hz⟩ := hrel
        obtain ⟨A, c, rfl, hr⟩ := own_rd hO
        clear hsl
        go_upto_region 8 with (first | (go_at_call 49; refine (pick_ty X _ _ 1 _ hC (by omega) (by omega) (by omega) (by omega)).mono ?_; rintro e w' ⟨v, rfl, hg, hC, x, rfl, x0, x1⟩; have hG := hG.trans hg; have hO := own_grown hO hg hgw; have hlt2 := hG.size))
        any_goals (go_returns; exact ⟨_, _, zs, rfl, hG, hC.le (by omega), by rw [hX]; exact hO, rfl, by omega, hz⟩)
        go_wp2_with (first
          | (at_builtin; refine wpList_append_own _ rfl (.tmp 25) (.tmp 27) 35 rfl w.heap.size 27 i0 _ 3 24 Try.underlying35 hi0 hz0 hz1 hz2 rfl (by decide) _ _ _ rfl (own_alloc hO _) ⟨_, 0, none⟩ 1 1 [.int .i64 40, .int .i64 20, .int .i64 0] rfl rfl ?c1 ?c2 ?c3 ?c4 ?c5 ?_))
        case c1 => exact ((Bk.new' (t := 27) (cs := [.int .i64 40, .int .i64 20, .int .i64 0]) (g := w'.heap.size) (by simp)).rd (k := 3) (n := 1) rfl).news
        case c2 => (intro u hu; simp at hu; rcases hu with rfl | rfl | rfl <;> rfl)
        case c3 => (unfold maxLen; omega)
        case c4 => omega
        case c5 => (simp; omega)
        intro v' w1 hown' hgrow _
        have hC1 := cur_own (hC.alloc _) (own_alloc hO _) hgw (Nat.le_of_eq hX) hgrow
        have hG1 := gb_own (gb_alloc hG _) (own_alloc hO _) hgrow
        have hz1 : ∀ z ∈ zs ++ [((40 : Int), (20 : Int), (0 : Int))], airI z := by
          intro z hz'
          rcases List.mem_append.1 hz' with h | h
          · exact hz z h
          · rw [List.mem_singleton.1 h]; simp [airI, I64]
        obtain ⟨A', c', rfl, _⟩ := own_rd hown'
        go_wp2
        go_roundw
        case rel => exact ⟨zs ++ [(40, 20, 0)], by simp [slN], by simp; omega, hG1, hC1.le (by simp; omega), by rw [airF_add, List.length_append]; exact hown', hz1⟩
        case measure => simp [slN]; omega
end Go.Proofs.Ytlnfccncbfpoiaa
