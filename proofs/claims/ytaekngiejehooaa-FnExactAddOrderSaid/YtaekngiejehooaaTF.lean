/-
  slices.stableCmpFunc: it ends, and some row of the same length is there; at fewer than twenty elements it is the insertion sort. Conditions: those that stand in each statement.
-/
import Derived.Test.YtaekngiejehooaaTE
namespace Go.Proofs.Ytaekngiejehooaa
open Go Go.Shelf Go.RowKit Go.Lib Go.Sort
set_option maxRecDepth 1000000
set_option maxHeartbeats 16000000
section
variable {P : Program} {k : Nat} {α : Type} [Inhabited α]
omit [Inhabited α] in
theorem cmpLays_on [Inhabited α] {enc : α → List Value} {w0 W : World} {blk g : Nat} {cb : Array Value} {cf : α → α → Int} {dk : Array α} {size : Nat} (h : SWK enc k w0 blk 0 dk W) (hblk : blk < w0.heap.size) (hC : CmpLays P g cb enc k cf blk 0 size w0) (hs : dk.size = size) : CmpLays P g cb enc k cf blk 0 size W := fun m os dk' hs' x y => by
  obtain ⟨n, os2, e⟩ := h.on hblk m dk' os (by omega)
  rw [e]
  exact hC n os2 dk' hs' x y
theorem stable_fr (L : StF P k) (enc : α → List Value) (cf : α → α → Int) (g : Nat) (cb : Array Value) (blk cap : Nat) (d0 : Array α) (w0 w : World)
    (eg : ∀ args w, (callFunc g args).run P w = .ok (.enter g args) w) (hcmp : CmpLays P g cb enc k cf blk 0 d0.size w0) (R : RowK enc k w0 blk 0 d0) (hsz : d0.size < 1099511627776)
    (ein : ∀ args w, (callFunc 78 args).run P w = .ok (.enter 78 args) w) (hin : ∀ (a b : Nat) (W : World), SomeR enc k w0 blk d0.size W → a ≤ b → b ≤ d0.size → Calls P 78 #[.slice (some ⟨blk, 0, none⟩) d0.size cap, .int .i64 a, .int .i64 b, .func (.func g) #[] cb] W fun e w' => e = .returned (.tuple #[]) ∧ SomeR enc k w0 blk d0.size w') (S : SomeR enc k w0 blk d0.size w) :
    Calls P 75 #[.slice (some ⟨blk, 0, none⟩) d0.size cap, .int .i64 d0.size, .func (.func g) #[] cb] w fun e w' => e = .returned (.tuple #[]) ∧ SomeR enc k w0 blk d0.size w' := by
  have HIN : Hid (∀ (a b : Nat) (x y : Int) (W : World), SomeR enc k w0 blk d0.size W → x = (a : Int) → y = (b : Int) → a ≤ b → b ≤ d0.size → Calls P 78 #[.slice (some ⟨blk, 0, none⟩) d0.size cap, .int .i64 x, .int .i64 y, .func (.func g) #[] cb] W fun e w' => e = .returned (.tuple #[]) ∧ SomeR enc k w0 blk d0.size w') := Go.Lib.hid (fun a b x y W h1 hx hy h2 h3 => by subst hx hy; exact hin a b W h1 h2 h3)
  have HSY : Hid (∀ (a m b : Nat) (x y z : Int) (W : World), SomeR enc k w0 blk d0.size W → x = (a : Int) → y = (m : Int) → z = (b : Int) → a < m → m < b → b ≤ d0.size → Calls P 79 #[.slice (some ⟨blk, 0, none⟩) d0.size cap, .int .i64 x, .int .i64 y, .int .i64 z, .func (.func g) #[] cb] W fun e w' => e = .returned (.tuple #[]) ∧ SomeR enc k w0 blk d0.size w') := Go.Lib.hid (fun a m b x y z W h1 hx hy hz h2 h3 h4 => by subst hx hy hz; exact symMerge_fr L enc cf g cb blk cap d0 w0 eg hcmp R (by omega) _ a m b W (Nat.le_refl _) h1 h2 h3 h4)
  clear hin hcmp R eg
  have mixed := L.mixed; have t0 := L.t0; have a0 := L.a0; have z0 := L.z0; have v0 := L.v0; have t3 := L.t3; have a3 := L.a3; have z3 := L.z3; have v3 := L.v3; have t4 := L.t4; have a4 := L.a4; have z4 := L.z4; have v4 := L.v4; have t22 := L.t22; have a22 := L.a22; have z22 := L.z22; have v22 := L.v22; have t25 := L.t25; have a25 := L.a25; have z25 := L.z25; have v25 := L.v25; have aE := L.aE; have zE := L.zE;
  have u3 := run_underlying L.t3
  have esy : ∀ args w, (callFunc 79 args).run P w = .ok (.enter 79 args) w := enters_of L.fsym (by kernel_rfl) rfl
  have FG := L.fsta
  generalize d0.size = n at *
  have S1 : Aside (SomeR enc k w0 blk n w) := S
  clear S
  go_enter FG, Try.ntmps75
  go_wp2
  go_loopg [7, 8] n (fun kx s7 s8 wr => ∃ q : Nat, s7 = .int .i64 q ∧ s8 = .int .i64 ((q : Int) + 20) ∧ q ≤ n ∧ n - q ≤ kx ∧ Aside (SomeR enc k w0 blk n wr))
  case atStart => exact ⟨0, rfl, rfl, Nat.zero_le _, by omega, S1⟩
  case round =>
    clear S1
    obtain ⟨q, rfl, rfl, hq, hkx, S1⟩ := hrel
    by_cases hlt : q + 20 ≤ n
    · have hltz : (q : Int) + 20 ≤ (n : Int) := by omega
      go_wp2_with (go_at_fn 78; refine (HIN.out q (q + 20) _ _ _ S1.out (by omega) (by omega) (by omega) (by omega)).mono ?_; clear S1; rintro e w2 ⟨rfl, S9⟩; have S1 : Aside (SomeR enc k w0 blk n w2) := S9; clear S9)
      go_roundg (n - (q + 20))
      case measure => omega
      case rel => exact ⟨q + 20, by first | go_num | (congr 1; omega), by first | (congr 1; done) | (congr 1; omega), by omega, Nat.le_refl _, S1⟩
    · have hltz : ¬ ((q : Int) + 20 ≤ (n : Int)) := by omega
      go_wp2_with (go_at_fn 78; refine (HIN.out q n _ _ _ S1.out (by omega) (by omega) (by omega) (by omega)).mono ?_; clear S1; rintro e w2 ⟨rfl, S9⟩; have S1 : Aside (SomeR enc k w0 blk n w2) := S9; clear S9)
      clear hltz hlt hkx
      go_loopg [6] n (fun kx s6 wr => ∃ z : Nat, s6 = .int .i64 z ∧ 20 ≤ z ∧ z ≤ 2 * n + 20 ∧ n - z ≤ kx ∧ Aside (SomeR enc k w0 blk n wr))
      case atStart => exact ⟨20, rfl, by omega, by omega, by omega, S1⟩
      case round =>
        clear S1 hq
        obtain ⟨z, rfl, hz, hz2, hkx, S1⟩ := hrel
        by_cases hlt : z < n
        · have hltz : (z : Int) < (n : Int) := by omega
          have wz : IntKind.i64.wrap (2 * (z : Int)) = 2 * (z : Int) := by rw [IntKind.wrap_i64]; omega
          have wz' : IntKind.i64.wrap ((z : Int) * 2) = 2 * (z : Int) := by rw [IntKind.wrap_i64]; omega
          go_wp2
          go_loopg [7, 8] n (fun kx s7 s8 wr => ∃ q : Nat, s7 = .int .i64 q ∧ s8 = .int .i64 ((q : Int) + 2 * (z : Int)) ∧ q ≤ n ∧ n - q ≤ kx ∧ Aside (SomeR enc k w0 blk n wr))
          case atStart => exact ⟨0, rfl, by congr 1; omega, Nat.zero_le _, by omega, S1⟩
          case round =>
            clear S1
            obtain ⟨q, rfl, rfl, hq, hky, S1⟩ := hrel
            have wa : IntKind.i64.wrap ((q : Int) + (z : Int)) = (q : Int) + (z : Int) := by rw [IntKind.wrap_i64]; omega
            by_cases hle : q + 2 * z ≤ n
            · have hlez : (q : Int) + 2 * (z : Int) ≤ (n : Int) := by omega
              have wb : IntKind.i64.wrap ((q : Int) + 2 * (z : Int) + 2 * (z : Int)) = (q : Int) + 2 * (z : Int) + 2 * (z : Int) := by rw [IntKind.wrap_i64]; omega
              go_wp2_with (go_at_fn 79; refine (HSY.out q (q + z) (q + 2 * z) _ _ _ _ S1.out (by omega) (by omega) (by omega) (by omega) (by omega) (by omega)).mono ?_; clear S1; rintro e w2 ⟨rfl, S9⟩; have S1 : Aside (SomeR enc k w0 blk n w2) := S9; clear S9)
              go_roundg (n - (q + 2 * z))
              case measure => omega
              case rel => exact ⟨q + 2 * z, by congr 1, by congr 1, by omega, Nat.le_refl _, S1⟩
            · have hlez : ¬ ((q : Int) + 2 * (z : Int) ≤ (n : Int)) := by omega
              by_cases hm : q + z < n
              · have hmz : (q : Int) + (z : Int) < (n : Int) := by omega
                go_wp2_with (go_at_fn 79; refine (HSY.out q (q + z) n _ _ _ _ S1.out (by omega) (by omega) (by omega) (by omega) (by omega) (by omega)).mono ?_; clear S1; rintro e w2 ⟨rfl, S9⟩; have S1 : Aside (SomeR enc k w0 blk n w2) := S9; clear S9)
                go_roundg (n - 2 * z)
                case measure => omega
                case rel => exact ⟨2 * z, by congr 1, by omega, by omega, Nat.le_refl _, S1⟩
              · have hmz : ¬ ((q : Int) + (z : Int) < (n : Int)) := by omega
                go_wp2
                go_roundg (n - 2 * z)
                case measure => omega
                case rel => exact ⟨2 * z, by congr 1, by omega, by omega, Nat.le_refl _, S1⟩
        · have hltz : ¬ (z : Int) < (n : Int) := by omega
          go_wp2
          go_end0
          exact ⟨rfl, S1.out⟩
theorem stable_small (L : StF P k) (Q : World → Prop) (g : Nat) (cb : Array Value) (blk cap n : Nat) (w : World) (hn : n < 20)
    (ein : ∀ args w, (callFunc 78 args).run P w = .ok (.enter 78 args) w) (hin : Calls P 78 #[.slice (some ⟨blk, 0, none⟩) n cap, .int .i64 0, .int .i64 n, .func (.func g) #[] cb] w fun e w' => e = .returned (.tuple #[]) ∧ Q w') :
    Calls P 75 #[.slice (some ⟨blk, 0, none⟩) n cap, .int .i64 n, .func (.func g) #[] cb] w fun e w' => e = .returned (.tuple #[]) ∧ Q w' := by
  have mixed := L.mixed; have t0 := L.t0; have a0 := L.a0; have z0 := L.z0; have v0 := L.v0; have t3 := L.t3; have a3 := L.a3; have z3 := L.z3; have v3 := L.v3; have t4 := L.t4; have a4 := L.a4; have z4 := L.z4; have v4 := L.v4; have t22 := L.t22; have a22 := L.a22; have z22 := L.z22; have v22 := L.v22; have t25 := L.t25; have a25 := L.a25; have z25 := L.z25; have v25 := L.v25; have aE := L.aE; have zE := L.zE;
  have u3 := run_underlying L.t3
  have FG := L.fsta
  go_enter FG, Try.ntmps75
  go_wp2
  refine wp_loop_rounds 1 ?_
  rw [rounds_succ]
  go_wp2_with (go_at_fn 78; refine hin.mono ?_; rintro e w1 ⟨rfl, hq⟩)
  refine wp_loop_rounds 1 ?_
  rw [rounds_succ]
  go_wp2
  go_end0
  exact ⟨rfl, hq⟩
end
end Go.Proofs.Ytaekngiejehooaa
