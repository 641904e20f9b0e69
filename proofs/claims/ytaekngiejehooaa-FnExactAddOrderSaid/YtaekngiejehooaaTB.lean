/-
  slices.rotateCmpFunc at structs: it ends, and some row of the same length is there. Conditions: a < m < b.
-/
import Derived.Test.YtaekngiejehooaaTA
import Derived.Lib.Hide
namespace Go.Proofs.Ytaekngiejehooaa
open Go Go.Shelf Go.RowKit Go.Lib Go.Sort
set_option maxRecDepth 1000000
set_option maxHeartbeats 8000000
section
variable {P : Program} {k : Nat} {α : Type} [Inhabited α]
theorem rotate_fr (L : StF P k) (enc : α → List Value) (g : Nat) (cb : Array Value) (blk cap a m b : Nat) (d0 : Array α) (w0 w : World)
    (R : RowK enc k w0 blk 0 d0) (S : SomeR enc k w0 blk d0.size w) (ham : a < m) (hmb : m < b) (hb : b ≤ d0.size) (hsz : d0.size < 4611686018427387904) :
    Calls P 82 #[.slice (some ⟨blk, 0, none⟩) d0.size cap, .int .i64 a, .int .i64 m, .int .i64 b, .func (.func g) #[] cb] w fun e w' => e = .returned (.tuple #[]) ∧ SomeR enc k w0 blk d0.size w' := by
  have HSW : Hid (∀ (a b n : Nat) (x y z : Int) (W : World), SomeR enc k w0 blk d0.size W → x = (a : Int) → y = (b : Int) → z = (n : Int) → a + n ≤ b → b + n ≤ d0.size → Calls P 84 #[.slice (some ⟨blk, 0, none⟩) d0.size cap, .int .i64 x, .int .i64 y, .int .i64 z, .func (.func g) #[] cb] W fun e w' => e = .returned (.tuple #[]) ∧ SomeR enc k w0 blk d0.size w') := Go.Lib.hid (fun a b n x y z W h1 hx hy hz h2 h3 => by subst hx hy hz; exact swapRange_fr L enc g cb blk cap a b n d0 w0 W R h1 h2 h3 hsz)
  have mixed := L.mixed; have t0 := L.t0; have a0 := L.a0; have z0 := L.z0; have v0 := L.v0; have t3 := L.t3; have a3 := L.a3; have z3 := L.z3; have v3 := L.v3; have t4 := L.t4; have a4 := L.a4; have z4 := L.z4; have v4 := L.v4; have t22 := L.t22; have a22 := L.a22; have z22 := L.z22; have v22 := L.v22; have t25 := L.t25; have a25 := L.a25; have z25 := L.z25; have v25 := L.v25
  have esw : ∀ args w, (callFunc 84 args).run P w = .ok (.enter 84 args) w := enters_of L.fswap (by kernel_rfl) rfl
  have FG := L.frot
  have S0 : Aside (SomeR enc k w0 blk d0.size w) := S
  have wi : IntKind.i64.wrap ((m : Int) - (a : Int)) = ((m - a : Nat) : Int) := by rw [IntKind.wrap_i64]; omega
  have wj : IntKind.i64.wrap ((b : Int) - (m : Int)) = ((b - m : Nat) : Int) := by rw [IntKind.wrap_i64]; omega
  clear S R
  go_enter FG, Try.ntmps82
  go_wp2
  go_loopg [10, 11] (b - a) (fun kx s10 s11 wr => ∃ i j : Nat, s10 = .int .i64 i ∧ s11 = .int .i64 j ∧ 1 ≤ i ∧ 1 ≤ j ∧ i ≤ m - a ∧ j ≤ b - m ∧ i + j ≤ kx ∧ Aside (SomeR enc k w0 blk d0.size wr))
  case atStart => exact ⟨m - a, b - m, rfl, rfl, by omega, by omega, Nat.le_refl _, Nat.le_refl _, by omega, S0⟩
  case round =>
    clear S0 wi wj
    obtain ⟨i, j, rfl, rfl, hi, hj, him, hjb, hkx, S1⟩ := hrel
    have w1 : IntKind.i64.wrap ((m : Int) - (i : Int)) = (m : Int) - (i : Int) := by rw [IntKind.wrap_i64]; omega
    by_cases heq : i = j
    · subst heq
      have q1 : ((i : Int) != (i : Int)) = false := by simp
      go_wp2_with (go_at_fn 84; refine (HSW.out (m - i) m i _ _ _ _ S1.out (by omega) (by omega) (by omega) (by omega) (by omega)).mono ?_; rintro e w2 ⟨rfl, S2⟩)
      go_end0
      exact ⟨rfl, S2⟩
    · have q1 : ((i : Int) != (j : Int)) = true := by simp; omega
      by_cases hgt : j < i
      · have hgz : (j : Int) < (i : Int) := by omega
        have v2 : IntKind.i64.wrap ((i : Int) - (j : Int)) = (i : Int) - (j : Int) := by rw [IntKind.wrap_i64]; omega
        go_wp2_with (go_at_fn 84; refine (HSW.out (m - i) m j _ _ _ _ S1.out (by omega) (by omega) (by omega) (by omega) (by omega)).mono ?_; rintro e w2 ⟨rfl, S2⟩)
        go_roundg (i - j + j)
        case measure => omega
        case rel => exact ⟨i - j, j, by congr 1; omega, rfl, by omega, hj, by omega, hjb, by omega, S2⟩
      · have hgz : ¬ (j : Int) < (i : Int) := by omega
        have v2 : IntKind.i64.wrap ((j : Int) - (i : Int)) = (j : Int) - (i : Int) := by rw [IntKind.wrap_i64]; omega
        have v3 : IntKind.i64.wrap ((m : Int) + (j : Int)) = (m : Int) + (j : Int) := by rw [IntKind.wrap_i64]; omega
        have v4 : IntKind.i64.wrap ((m : Int) + (j : Int) - (i : Int)) = (m : Int) + (j : Int) - (i : Int) := by rw [IntKind.wrap_i64]; omega
        go_wp2_with (go_at_fn 84; refine (HSW.out (m - i) (m + j - i) i _ _ _ _ S1.out (by omega) (by omega) (by omega) (by omega) (by omega)).mono ?_; rintro e w2 ⟨rfl, S2⟩)
        go_roundg (i + (j - i))
        case measure => omega
        case rel => exact ⟨i, j - i, rfl, by congr 1; omega, hi, by omega, him, by omega, by omega, S2⟩
end
end Go.Proofs.Ytaekngiejehooaa
