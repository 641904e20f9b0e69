/-
  slices.symMergeCmpFunc: it ends, and some row of the same length is there. Conditions: a < m < b.
-/
import Derived.Test.YtaekngiejehooaaTC
import Derived.Test.YtaekngiejehooaaTD
namespace Go.Proofs.Ytaekngiejehooaa
open Go Go.Shelf Go.RowKit Go.Lib Go.Sort
set_option maxRecDepth 1000000
set_option maxHeartbeats 16000000
section
variable {P : Program} {k : Nat} {α : Type} [Inhabited α]
theorem symMerge_fr (L : StF P k) (enc : α → List Value) (cf : α → α → Int) (g : Nat) (cb : Array Value) (blk cap : Nat) (d0 : Array α) (w0 : World)
    (eg : ∀ args w, (callFunc g args).run P w = .ok (.enter g args) w) (hcmp : CmpLays P g cb enc k cf blk 0 d0.size w0) (R : RowK enc k w0 blk 0 d0) (hsz : d0.size < 4611686018427387904) :
    ∀ (N a m b : Nat) (w : World), b - a ≤ N → SomeR enc k w0 blk d0.size w → a < m → m < b → b ≤ d0.size →
    Calls P 79 #[.slice (some ⟨blk, 0, none⟩) d0.size cap, .int .i64 a, .int .i64 m, .int .i64 b, .func (.func g) #[] cb] w fun e w' => e = .returned (.tuple #[]) ∧ SomeR enc k w0 blk d0.size w' := by
  intro N
  induction N with
  | zero => intro a m b w hN _ h1 h2; omega
  | succ N ih =>
  intro a m b w hN S ham hmb hb
  by_cases k1 : a + 1 = m
  · exact symMerge1_fr L enc cf g cb blk cap a m b d0 w0 w eg hcmp R S k1 hmb hb hsz
  by_cases k2 : m + 1 = b
  · exact symMerge2_fr L enc cf g cb blk cap a m b d0 w0 w eg hcmp R S (by omega) k2 hb hsz
  have HRT : Hid (∀ (a m b : Nat) (x y z : Int) (W : World), SomeR enc k w0 blk d0.size W → x = (a : Int) → y = (m : Int) → z = (b : Int) → a < m → m < b → b ≤ d0.size → Calls P 82 #[.slice (some ⟨blk, 0, none⟩) d0.size cap, .int .i64 x, .int .i64 y, .int .i64 z, .func (.func g) #[] cb] W fun e w' => e = .returned (.tuple #[]) ∧ SomeR enc k w0 blk d0.size w') := Go.Lib.hid (fun a m b x y z W h1 hx hy hz h2 h3 h4 => by subst hx hy hz; exact rotate_fr L enc g cb blk cap a m b d0 w0 W R h1 h2 h3 h4 hsz)
  have HSY : Hid (∀ (a m b : Nat) (x y z : Int) (W : World), b - a ≤ N → SomeR enc k w0 blk d0.size W → x = (a : Int) → y = (m : Int) → z = (b : Int) → a < m → m < b → b ≤ d0.size → Calls P 79 #[.slice (some ⟨blk, 0, none⟩) d0.size cap, .int .i64 x, .int .i64 y, .int .i64 z, .func (.func g) #[] cb] W fun e w' => e = .returned (.tuple #[]) ∧ SomeR enc k w0 blk d0.size w') := Go.Lib.hid (fun a m b x y z W h0 h1 hx hy hz h2 h3 h4 => by subst hx hy hz; exact ih a m b W h0 h1 h2 h3 h4)
  clear ih
  have mixed := L.mixed; have t0 := L.t0; have a0 := L.a0; have z0 := L.z0; have v0 := L.v0; have t3 := L.t3; have a3 := L.a3; have z3 := L.z3; have v3 := L.v3; have t4 := L.t4; have a4 := L.a4; have z4 := L.z4; have v4 := L.v4; have t22 := L.t22; have a22 := L.a22; have z22 := L.z22; have v22 := L.v22; have t25 := L.t25; have a25 := L.a25; have z25 := L.z25; have v25 := L.v25; have t93 := L.t93; have a93 := L.a93; have z93 := L.z93; have v93 := L.v93; have aE := L.aE; have zE := L.zE;
  have u3 := run_underlying L.t3; have u93 := run_underlying L.t93
  have esy : ∀ args w, (callFunc 79 args).run P w = .ok (.enter 79 args) w := enters_of L.fsym (by kernel_rfl) rfl
  have ert : ∀ args w, (callFunc 82 args).run P w = .ok (.enter 82 args) w := enters_of L.frot (by kernel_rfl) rfl
  have FG := L.fsym
  have HC : Aside _ := hcmp
  have S0 : Aside (SomeR enc k w0 blk d0.size w) := S
  clear S hcmp
  have wd : IntKind.i64.wrap ((m : Int) - (a : Int)) = ((m - a : Nat) : Int) := by rw [IntKind.wrap_i64]; omega
  have wq : (((m - a : Nat) : Int) == 1) = false := beq_eq_false_iff_ne.2 (by omega)
  have we : IntKind.i64.wrap ((b : Int) - (m : Int)) = ((b - m : Nat) : Int) := by rw [IntKind.wrap_i64]; omega
  have wf : (((b - m : Nat) : Int) == 1) = false := beq_eq_false_iff_ne.2 (by omega)
  obtain ⟨mid, hmid, m1, m2⟩ : ∃ mid : Nat, ((a : Int) + (b : Int)) / 2 = (mid : Int) ∧ 2 * mid ≤ a + b ∧ a + b ≤ 2 * mid + 1 := ⟨(a + b) / 2, by omega, by omega, by omega⟩
  obtain ⟨n, hn⟩ : ∃ n, mid + m = n := ⟨_, rfl⟩
  have wn : IntKind.i64.wrap ((mid : Int) + (m : Int)) = (n : Int) := by rw [IntKind.wrap_i64]; omega
  obtain ⟨p, hp⟩ : ∃ p, p + 1 = n := ⟨n - 1, by omega⟩
  have wp' : IntKind.i64.wrap ((n : Int) - 1) = (p : Int) := by rw [IntKind.wrap_i64]; omega
  by_cases hgm : mid < m
  · have hgz : (mid : Int) < (m : Int) := by omega
    obtain ⟨s0, hs0⟩ : ∃ s0, n - b = s0 := ⟨_, rfl⟩
    have ws : IntKind.i64.wrap ((n : Int) - (b : Int)) = (s0 : Int) := by rw [IntKind.wrap_i64]; omega
    go_enter FG, Try.ntmps79
    go_wp2
    go_loopg [20, 21] (mid - s0) (fun kx s20 s21 wr => ∃ i j : Nat, s20 = .int .i64 i ∧ s21 = .int .i64 j ∧ s0 ≤ i ∧ i ≤ j ∧ j ≤ mid ∧ j - i ≤ kx ∧ Aside (SomeR enc k w0 blk d0.size wr))
    case atStart => exact ⟨s0, mid, rfl, rfl, Nat.le_refl _, by omega, Nat.le_refl _, by omega, S0⟩
    case round =>
      clear S0
      obtain ⟨i, j, rfl, rfl, hsi, hij, hjr, hkx, S1⟩ := hrel
      by_cases hlt : i < j
      · have hltz : (i : Int) < (j : Int) := by omega
        obtain ⟨dk, hds, S1⟩ := S1.out
        obtain ⟨h, hh⟩ : ∃ h : Nat, ((i : Int) + (j : Int)) / 2 = (h : Int) := ⟨(i + j) / 2, by omega⟩
        obtain ⟨ph, hph⟩ : ∃ ph, ph + h = p := ⟨p - h, by omega⟩
        have wh : IntKind.i64.wrap ((p : Int) - (h : Int)) = (ph : Int) := by rw [IntKind.wrap_i64]; omega
        obtain ⟨x, hx⟩ : ∃ x, x = dk[ph]! := ⟨_, rfl⟩
        obtain ⟨y, hy⟩ : ∃ y, y = dk[h]! := ⟨_, rfl⟩
        have la := S1.ld R (by omega) P ph (by omega)
        have lb := S1.ld R (by omega) P h (by omega)
        rw [← hx] at la
        rw [← hy] at lb
        simp only [Nat.zero_add] at la lb
        have hc := S1.cmp HC.out (by omega) x y
        have ea : ((ph : Nat) : Int).toNat = ph := by omega
        have pa : (0 : Int) ≤ ((ph : Nat) : Int) := by omega
        have ba : ((ph : Nat) : Int) < (d0.size : Int) := by omega
        have eb : ((h : Nat) : Int).toNat = h := by omega
        have pb : (0 : Int) ≤ ((h : Nat) : Int) := by omega
        have bb : ((h : Nat) : Int) < (d0.size : Int) := by omega
        clear hx hy
        go_wp2_with fail
        by_cases hv : cf x y < 0
        · have hd : decide (cf x y < 0) = true := decide_eq_true hv
          go_quiet_grown (first | (go_at_fn g; refine Calls.grown_of (hc _ _)))
          have S2 : Aside (SomeR enc k w0 blk d0.size (grow (wr.drewN nq) osq)) := ⟨dk, hds, S1.grown nq osq⟩
          clear la lb hc S1
          generalize grow (wr.drewN nq) osq = w2 at S2 ⊢
          clear nq osq
          go_wp2
          go_roundg (h - i)
          case measure => omega
          case rel => exact ⟨i, h, rfl, rfl, hsi, by omega, by omega, Nat.le_refl _, S2⟩
        · have hd : decide (cf x y < 0) = false := decide_eq_false hv
          go_quiet_grown (first | (go_at_fn g; refine Calls.grown_of (hc _ _)))
          have S2 : Aside (SomeR enc k w0 blk d0.size (grow (wr.drewN nq) osq)) := ⟨dk, hds, S1.grown nq osq⟩
          clear la lb hc S1
          generalize grow (wr.drewN nq) osq = w2 at S2 ⊢
          clear nq osq
          go_wp2
          go_roundg (j - (h + 1))
          case measure => omega
          case rel => exact ⟨h + 1, j, by first | go_num | (congr 1; omega), rfl, by omega, by omega, hjr, Nat.le_refl _, S2⟩
      · have hltz : ¬ (i : Int) < (j : Int) := by omega
        clear FG
        obtain ⟨en, hen⟩ : ∃ en, en + i = n := ⟨n - i, by omega⟩
        have wen : IntKind.i64.wrap ((n : Int) - (i : Int)) = (en : Int) := by rw [IntKind.wrap_i64]; omega
        rcases (by omega : ¬ (i : Int) < (m : Int) ∨ ((i : Int) < (m : Int) ∧ ¬ (m : Int) < (en : Int)) ∨ ((i : Int) < (m : Int) ∧ (m : Int) < (en : Int))) with c1 | ⟨c1, c2⟩ | ⟨c1, c2⟩ <;>
        rcases (by omega : ¬ (a : Int) < (i : Int) ∨ ((a : Int) < (i : Int) ∧ ¬ (i : Int) < (mid : Int)) ∨ ((a : Int) < (i : Int) ∧ (i : Int) < (mid : Int))) with c3 | ⟨c3, c4⟩ | ⟨c3, c4⟩ <;>
        rcases (by omega : ¬ (mid : Int) < (en : Int) ∨ ((mid : Int) < (en : Int) ∧ ¬ (en : Int) < (b : Int)) ∨ ((mid : Int) < (en : Int) ∧ (en : Int) < (b : Int))) with c5 | ⟨c5, c6⟩ | ⟨c5, c6⟩ <;>
        first
        | (exfalso; omega)
        | (go_wp2_with (first
            | (go_at_fn 82; refine (HRT.out i m en _ _ _ _ S1.out (by omega) (by omega) (by omega) (by omega) (by omega) (by omega)).mono ?_; clear S1; rintro e w2 ⟨rfl, S9⟩; have S1 : Aside (SomeR enc k w0 blk d0.size w2) := S9; clear S9)
            | (go_at_fn 79; refine (HSY.out a i mid _ _ _ _ (by omega) S1.out (by omega) (by omega) (by omega) (by omega) (by omega) (by omega)).mono ?_; clear S1; rintro e w2 ⟨rfl, S9⟩; have S1 : Aside (SomeR enc k w0 blk d0.size w2) := S9; clear S9)
            | (go_at_fn 79; refine (HSY.out mid en b _ _ _ _ (by omega) S1.out (by omega) (by omega) (by omega) (by omega) (by omega) (by omega)).mono ?_; clear S1; rintro e w2 ⟨rfl, S9⟩; have S1 : Aside (SomeR enc k w0 blk d0.size w2) := S9; clear S9))
           go_end0
           exact ⟨rfl, S1.out⟩)
  · have hgz : ¬ (mid : Int) < (m : Int) := by omega
    go_enter FG, Try.ntmps79
    go_wp2
    go_loopg [20, 21] (m - a) (fun kx s20 s21 wr => ∃ i j : Nat, s20 = .int .i64 i ∧ s21 = .int .i64 j ∧ a ≤ i ∧ i ≤ j ∧ j ≤ m ∧ j - i ≤ kx ∧ Aside (SomeR enc k w0 blk d0.size wr))
    case atStart => exact ⟨a, m, rfl, rfl, Nat.le_refl _, by omega, Nat.le_refl _, by omega, S0⟩
    case round =>
      clear S0
      obtain ⟨i, j, rfl, rfl, hsi, hij, hjr, hkx, S1⟩ := hrel
      by_cases hlt : i < j
      · have hltz : (i : Int) < (j : Int) := by omega
        obtain ⟨dk, hds, S1⟩ := S1.out
        obtain ⟨h, hh⟩ : ∃ h : Nat, ((i : Int) + (j : Int)) / 2 = (h : Int) := ⟨(i + j) / 2, by omega⟩
        obtain ⟨ph, hph⟩ : ∃ ph, ph + h = p := ⟨p - h, by omega⟩
        have wh : IntKind.i64.wrap ((p : Int) - (h : Int)) = (ph : Int) := by rw [IntKind.wrap_i64]; omega
        obtain ⟨x, hx⟩ : ∃ x, x = dk[ph]! := ⟨_, rfl⟩
        obtain ⟨y, hy⟩ : ∃ y, y = dk[h]! := ⟨_, rfl⟩
        have la := S1.ld R (by omega) P ph (by omega)
        have lb := S1.ld R (by omega) P h (by omega)
        rw [← hx] at la
        rw [← hy] at lb
        simp only [Nat.zero_add] at la lb
        have hc := S1.cmp HC.out (by omega) x y
        have ea : ((ph : Nat) : Int).toNat = ph := by omega
        have pa : (0 : Int) ≤ ((ph : Nat) : Int) := by omega
        have ba : ((ph : Nat) : Int) < (d0.size : Int) := by omega
        have eb : ((h : Nat) : Int).toNat = h := by omega
        have pb : (0 : Int) ≤ ((h : Nat) : Int) := by omega
        have bb : ((h : Nat) : Int) < (d0.size : Int) := by omega
        clear hx hy
        go_wp2_with fail
        by_cases hv : cf x y < 0
        · have hd : decide (cf x y < 0) = true := decide_eq_true hv
          go_quiet_grown (first | (go_at_fn g; refine Calls.grown_of (hc _ _)))
          have S2 : Aside (SomeR enc k w0 blk d0.size (grow (wr.drewN nq) osq)) := ⟨dk, hds, S1.grown nq osq⟩
          clear la lb hc S1
          generalize grow (wr.drewN nq) osq = w2 at S2 ⊢
          clear nq osq
          go_wp2
          go_roundg (h - i)
          case measure => omega
          case rel => exact ⟨i, h, rfl, rfl, hsi, by omega, by omega, Nat.le_refl _, S2⟩
        · have hd : decide (cf x y < 0) = false := decide_eq_false hv
          go_quiet_grown (first | (go_at_fn g; refine Calls.grown_of (hc _ _)))
          have S2 : Aside (SomeR enc k w0 blk d0.size (grow (wr.drewN nq) osq)) := ⟨dk, hds, S1.grown nq osq⟩
          clear la lb hc S1
          generalize grow (wr.drewN nq) osq = w2 at S2 ⊢
          clear nq osq
          go_wp2
          go_roundg (j - (h + 1))
          case measure => omega
          case rel => exact ⟨h + 1, j, by first | go_num | (congr 1; omega), rfl, by omega, by omega, hjr, Nat.le_refl _, S2⟩
      · have hltz : ¬ (i : Int) < (j : Int) := by omega
        clear FG
        obtain ⟨en, hen⟩ : ∃ en, en + i = n := ⟨n - i, by omega⟩
        have wen : IntKind.i64.wrap ((n : Int) - (i : Int)) = (en : Int) := by rw [IntKind.wrap_i64]; omega
        rcases (by omega : ¬ (i : Int) < (m : Int) ∨ ((i : Int) < (m : Int) ∧ ¬ (m : Int) < (en : Int)) ∨ ((i : Int) < (m : Int) ∧ (m : Int) < (en : Int))) with c1 | ⟨c1, c2⟩ | ⟨c1, c2⟩ <;>
        rcases (by omega : ¬ (a : Int) < (i : Int) ∨ ((a : Int) < (i : Int) ∧ ¬ (i : Int) < (mid : Int)) ∨ ((a : Int) < (i : Int) ∧ (i : Int) < (mid : Int))) with c3 | ⟨c3, c4⟩ | ⟨c3, c4⟩ <;>
        rcases (by omega : ¬ (mid : Int) < (en : Int) ∨ ((mid : Int) < (en : Int) ∧ ¬ (en : Int) < (b : Int)) ∨ ((mid : Int) < (en : Int) ∧ (en : Int) < (b : Int))) with c5 | ⟨c5, c6⟩ | ⟨c5, c6⟩ <;>
        first
        | (exfalso; omega)
        | (go_wp2_with (first
            | (go_at_fn 82; refine (HRT.out i m en _ _ _ _ S1.out (by omega) (by omega) (by omega) (by omega) (by omega) (by omega)).mono ?_; clear S1; rintro e w2 ⟨rfl, S9⟩; have S1 : Aside (SomeR enc k w0 blk d0.size w2) := S9; clear S9)
            | (go_at_fn 79; refine (HSY.out a i mid _ _ _ _ (by omega) S1.out (by omega) (by omega) (by omega) (by omega) (by omega) (by omega)).mono ?_; clear S1; rintro e w2 ⟨rfl, S9⟩; have S1 : Aside (SomeR enc k w0 blk d0.size w2) := S9; clear S9)
            | (go_at_fn 79; refine (HSY.out mid en b _ _ _ _ (by omega) S1.out (by omega) (by omega) (by omega) (by omega) (by omega) (by omega)).mono ?_; clear S1; rintro e w2 ⟨rfl, S9⟩; have S1 : Aside (SomeR enc k w0 blk d0.size w2) := S9; clear S9))
           go_end0
           exact ⟨rfl, S1.out⟩)
end
end Go.Proofs.Ytaekngiejehooaa
