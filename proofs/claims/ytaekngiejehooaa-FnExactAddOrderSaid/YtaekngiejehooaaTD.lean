/-
  slices.symMergeCmpFunc with a second row of one element. Conditions: those that stand in the statement.
-/
import Derived.Test.YtaekngiejehooaaTB
import Derived.Lib.Hide
namespace Go.Proofs.Ytaekngiejehooaa
open Go Go.Shelf Go.RowKit Go.Lib Go.Sort
set_option maxRecDepth 1000000
set_option maxHeartbeats 8000000
section
variable {P : Program} {k : Nat} {α : Type} [Inhabited α]
theorem symMerge2_fr (L : StF P k) (enc : α → List Value) (cf : α → α → Int) (g : Nat) (cb : Array Value) (blk cap a m b : Nat) (d0 : Array α) (w0 w : World)
    (eg : ∀ args w, (callFunc g args).run P w = .ok (.enter g args) w) (hcmp : CmpLays P g cb enc k cf blk 0 d0.size w0) (R : RowK enc k w0 blk 0 d0) (S : SomeR enc k w0 blk d0.size w) (ham : a + 1 < m) (hmb : m + 1 = b) (hb : b ≤ d0.size) (hsz : d0.size < 4611686018427387904) :
    Calls P 79 #[.slice (some ⟨blk, 0, none⟩) d0.size cap, .int .i64 a, .int .i64 m, .int .i64 b, .func (.func g) #[] cb] w fun e w' => e = .returned (.tuple #[]) ∧ SomeR enc k w0 blk d0.size w' := by
  have mixed := L.mixed; have t0 := L.t0; have a0 := L.a0; have z0 := L.z0; have v0 := L.v0; have t3 := L.t3; have a3 := L.a3; have z3 := L.z3; have v3 := L.v3; have t4 := L.t4; have a4 := L.a4; have z4 := L.z4; have v4 := L.v4; have t22 := L.t22; have a22 := L.a22; have z22 := L.z22; have v22 := L.v22; have t25 := L.t25; have a25 := L.a25; have z25 := L.z25; have v25 := L.v25; have t93 := L.t93; have a93 := L.a93; have z93 := L.z93; have v93 := L.v93; have aE := L.aE; have zE := L.zE;
  have u3 := run_underlying L.t3; have u93 := run_underlying L.t93
  have FG := L.fsym
  have HC : Aside _ := hcmp
  have S0 : Aside (SomeR enc k w0 blk d0.size w) := S
  clear S hcmp
  have wd : IntKind.i64.wrap ((m : Int) - (a : Int)) = ((m - a : Nat) : Int) := by rw [IntKind.wrap_i64]; omega
  have wq : (((m - a : Nat) : Int) == 1) = false := beq_eq_false_iff_ne.2 (by omega)
  have we : IntKind.i64.wrap ((b : Int) - (m : Int)) = 1 := by rw [IntKind.wrap_i64]; omega
  go_enter FG, Try.ntmps79
  go_wp2
  go_loopg [14, 15] (m - a) (fun kx s14 s15 wr => ∃ i j : Nat, s14 = .int .i64 i ∧ s15 = .int .i64 j ∧ a ≤ i ∧ i ≤ j ∧ j ≤ m ∧ j - i ≤ kx ∧ Aside (SomeR enc k w0 blk d0.size wr))
  case atStart => exact ⟨a, m, rfl, rfl, Nat.le_refl _, by omega, Nat.le_refl _, by omega, S0⟩
  case round =>
    clear S0 wd wq we
    obtain ⟨i, j, rfl, rfl, hmi, hij, hjb, hkx, S1⟩ := hrel
    by_cases hlt : i < j
    · have hltz : (i : Int) < (j : Int) := by omega
      obtain ⟨dk, hds, S1⟩ := S1.out
      obtain ⟨h, hh⟩ : ∃ h : Nat, ((i : Int) + (j : Int)) / 2 = (h : Int) := ⟨(i + j) / 2, by omega⟩
      go_wp2_with fail
      obtain ⟨x, hx⟩ : ∃ x, x = dk[m]! := ⟨_, rfl⟩
      obtain ⟨y, hy⟩ : ∃ y, y = dk[h]! := ⟨_, rfl⟩
      have la := S1.ld R (by omega) P m (by omega)
      have lb := S1.ld R (by omega) P h (by omega)
      rw [← hx] at la
      rw [← hy] at lb
      simp only [Nat.zero_add] at la lb
      have hc := S1.cmp HC.out (by omega) x y
      have ea : ((m : Nat) : Int).toNat = m := by omega
      have pa : (0 : Int) ≤ ((m : Nat) : Int) := by omega
      have ba : ((m : Nat) : Int) < (d0.size : Int) := by omega
      have eb : ((h : Nat) : Int).toNat = h := by omega
      have pb : (0 : Int) ≤ ((h : Nat) : Int) := by omega
      have bb : ((h : Nat) : Int) < (d0.size : Int) := by omega
      clear hx hy
      by_cases hv : cf x y < 0
      · have hd : decide (cf x y < 0) = true := decide_eq_true hv
        go_quiet_grown (first | (go_at_fn g; refine Calls.grown_of (hc _ _)))
        have S2 : Aside (SomeR enc k w0 blk d0.size (grow (wr.drewN nq) osq)) := ⟨dk, hds, S1.grown nq osq⟩
        clear la lb hc S1
        generalize grow (wr.drewN nq) osq = w2 at S2 ⊢
        clear nq osq
        go_wp2
        go_roundg (h - i)
        case measure => omega
        case rel => exact ⟨i, h, rfl, rfl, hmi, by omega, by omega, Nat.le_refl _, S2⟩
      · have hd : decide (cf x y < 0) = false := decide_eq_false hv
        go_quiet_grown (first | (go_at_fn g; refine Calls.grown_of (hc _ _)))
        have S2 : Aside (SomeR enc k w0 blk d0.size (grow (wr.drewN nq) osq)) := ⟨dk, hds, S1.grown nq osq⟩
        clear la lb hc S1
        generalize grow (wr.drewN nq) osq = w2 at S2 ⊢
        clear nq osq
        go_wp2
        go_roundg (j - (h + 1))
        case measure => omega
        case rel => exact ⟨h + 1, j, by first | go_num | (congr 1; omega), rfl, by omega, by omega, hjb, Nat.le_refl _, S2⟩
    · have hltz : ¬ (i : Int) < (j : Int) := by omega
      go_wp2
      go_loopg [17] m (fun kx s17 wr => ∃ q : Nat, s17 = .int .i64 q ∧ i ≤ q ∧ q ≤ m ∧ q ≤ kx ∧ Aside (SomeR enc k w0 blk d0.size wr))
      case atStart => exact ⟨m, rfl, by omega, Nat.le_refl _, Nat.le_refl _, S1⟩
      case round =>
        clear S1
        obtain ⟨q, rfl, haq, hqi, hkx, S1⟩ := hrel
        by_cases hlq : i < q
        · have hlz : (i : Int) < (q : Int) := by omega
          obtain ⟨dk, hds, S1⟩ := S1.out
          go_wp2_with fail
          have w2 : IntKind.i64.wrap ((q : Int) - 1) = ((q - 1 : Nat) : Int) := by rw [IntKind.wrap_i64]; omega
          obtain ⟨r, hr⟩ : ∃ r, q - 1 = r := ⟨_, rfl⟩
          rw [hr] at w2
          have HR : Hid (q - 1 = r) := hr
          have ea : ((q : Nat) : Int).toNat = q := by omega
          have pa : (0 : Int) ≤ ((q : Nat) : Int) := by omega
          have ba : ((q : Nat) : Int) < (d0.size : Int) := by omega
          have eb : ((r : Nat) : Int).toNat = r := by omega
          have pb : (0 : Int) ≤ ((r : Nat) : Int) := by omega
          have bb : ((r : Nat) : Int) < (d0.size : Int) := by omega
          have S2 : Aside (SWK enc k w0 blk 0 (swp dk q r) ((wr.drew.setCells blk (0 + q * k) (enc dk[r]!)).setCells blk (0 + r * k) (enc dk[q]!))) := S1.swapped R q r (by omega) (by omega)
          have la := S1.ld1 R (by omega) P q (by omega)
          have lb := S1.ld1 R (by omega) P r (by omega)
          have sa := S1.st1 R (by omega) P q (by omega) dk[r]!
          have sb := S1.st2 R (by omega) P q r (by omega) (by omega) dk[r]! dk[q]!
          have na : (enc dk[q]!).length = k := R.hk _
          have nb : (enc dk[r]!).length = k := R.hk _
          generalize enc dk[q]! = cI at S2 la sb na
          generalize enc dk[r]! = cJ at S2 lb sa sb nb
          simp only [Nat.zero_add] at la lb sa sb S2
          clear S1 hr
          go_big_region_o
          clear la lb sa sb
          generalize (wr.drew.setCells blk (q * k) cJ).setCells blk (r * k) cI = w2 at S2 ⊢
          have S2 : Aside (SomeR enc k w0 blk d0.size w2) := ⟨_, by rw [size_swp]; exact hds, S2.out⟩
          go_wp2
          go_roundg (q - 1)
          case measure => omega
          case rel => exact ⟨q - 1, by have hr := HR.out; congr 1; omega, by omega, by omega, by omega, S2⟩
        · have hlz : ¬ (i : Int) < (q : Int) := by omega
          go_wp2
          (try simp only [Exit.inBlock, Exit.then]); refine bodyPost_ret (results_none rfl _ _ _) rfl ?_
          exact ⟨rfl, S1.out⟩
end
end Go.Proofs.Ytaekngiejehooaa
