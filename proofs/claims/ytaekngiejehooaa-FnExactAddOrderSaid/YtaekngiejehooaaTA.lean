/-
  What slices.SortStableFunc's family asks of a program; the exchange of two ranges. Conditions: those that stand in each statement.
-/
import Derived.Test.YtaekngiejehooaaProg
import Derived.Shelf.SlSortCmp.KitK
import Derived.Sort.WalkB2
import Derived.Sort.WalkB12
import Derived.Deep.LoopGhost
namespace Go.Proofs.Ytaekngiejehooaa
open Go Go.Shelf Go.RowKit Go.Lib Go.Sort
set_option maxRecDepth 1000000
set_option maxHeartbeats 8000000

/-- the family's functions and their types, at elements of k cells -/
structure StF (P : Program) (k : Nat) : Prop where
  mixed : P.follows .mixedOrders = true
  fswap : P.funcs[84]? = some Try.f84
  frot : P.funcs[82]? = some Try.f82
  fsym : P.funcs[79]? = some Try.f79
  fsta : P.funcs[75]? = some Try.f75
  t0 : P.underlying 0 = some (TypeDesc.tuple #[])
  a0 : ∀ w, (isAgg 0).run P w = .ok false w
  z0 : ∀ w, (Go.sizeOf 0).run P w = .ok 1 w
  v0 : ∀ w, (zeroValue 0).run P w = .ok (Value.tuple #[]) w
  t3 : P.underlying 3 = some (TypeDesc.int IntKind.i64)
  a3 : ∀ w, (isAgg 3).run P w = .ok false w
  z3 : ∀ w, (Go.sizeOf 3).run P w = .ok 1 w
  v3 : ∀ w, (zeroValue 3).run P w = .ok (Value.int IntKind.i64 0) w
  t4 : P.underlying 4 = some (TypeDesc.bool)
  a4 : ∀ w, (isAgg 4).run P w = .ok false w
  z4 : ∀ w, (Go.sizeOf 4).run P w = .ok 1 w
  v4 : ∀ w, (zeroValue 4).run P w = .ok (Value.bool false) w
  t22 : P.underlying 32 = some (TypeDesc.slice 46)
  a22 : ∀ w, (isAgg 32).run P w = .ok false w
  z22 : ∀ w, (Go.sizeOf 32).run P w = .ok 1 w
  v22 : ∀ w, (zeroValue 32).run P w = .ok (Value.slice none 0 0) w
  t25 : P.underlying 81 = some (TypeDesc.func #[46, 46] #[3] false)
  a25 : ∀ w, (isAgg 81).run P w = .ok false w
  z25 : ∀ w, (Go.sizeOf 81).run P w = .ok 1 w
  v25 : ∀ w, (zeroValue 81).run P w = .ok (Value.nilFunc) w
  t93 : P.underlying 93 = some (TypeDesc.int IntKind.u64)
  a93 : ∀ w, (isAgg 93).run P w = .ok false w
  z93 : ∀ w, (Go.sizeOf 93).run P w = .ok 1 w
  v93 : ∀ w, (zeroValue 93).run P w = .ok (Value.int IntKind.u64 0) w
  aE : ∀ w, (isAgg 46).run P w = .ok true w
  zE : ∀ w, (Go.sizeOf 46).run P w = .ok k w
theorem stF : StF Try.prog 5 where
  mixed := by kernel_rfl
  fswap := Try.func84
  frot := Try.func82
  fsym := Try.func79
  fsta := Try.func75
  t0 := Try.underlying0
  a0 := Try.isAgg0
  z0 := Try.sizeOf0
  v0 := Try.zeroValue0
  t3 := Try.underlying3
  a3 := Try.isAgg3
  z3 := Try.sizeOf3
  v3 := Try.zeroValue3
  t4 := Try.underlying4
  a4 := Try.isAgg4
  z4 := Try.sizeOf4
  v4 := Try.zeroValue4
  t22 := Try.underlying32
  a22 := Try.isAgg32
  z22 := Try.sizeOf32
  v22 := Try.zeroValue32
  t25 := Try.underlying81
  a25 := Try.isAgg81
  z25 := Try.sizeOf81
  v25 := Try.zeroValue81
  t93 := Try.underlying93
  a93 := Try.isAgg93
  z93 := Try.sizeOf93
  v93 := Try.zeroValue93
  aE := Try.isAgg46
  zE := Try.sizeOf46
section
variable {P : Program} {k : Nat} {α : Type} [Inhabited α]
/-- some row of the same length -/
def SomeR (enc : α → List Value) (k : Nat) (w0 : World) (blk : Nat) (m : Nat) (W : World) : Prop := ∃ dk : Array α, dk.size = m ∧ SWK enc k w0 blk 0 dk W
theorem swapRange_fr (L : StF P k) (enc : α → List Value) (g : Nat) (cb : Array Value) (blk cap a b n : Nat) (d0 : Array α) (w0 w : World)
    (R : RowK enc k w0 blk 0 d0) (S : SomeR enc k w0 blk d0.size w) (hab : a + n ≤ b) (hb : b + n ≤ d0.size) (hsz : d0.size < 4611686018427387904) :
    Calls P 84 #[.slice (some ⟨blk, 0, none⟩) d0.size cap, .int .i64 a, .int .i64 b, .int .i64 n, .func (.func g) #[] cb] w fun e w' => e = .returned (.tuple #[]) ∧ SomeR enc k w0 blk d0.size w' := by
  have mixed := L.mixed; have t0 := L.t0; have a0 := L.a0; have z0 := L.z0; have v0 := L.v0; have t3 := L.t3; have a3 := L.a3; have z3 := L.z3; have v3 := L.v3; have t4 := L.t4; have a4 := L.a4; have z4 := L.z4; have v4 := L.v4; have t22 := L.t22; have a22 := L.a22; have z22 := L.z22; have v22 := L.v22; have t25 := L.t25; have a25 := L.a25; have z25 := L.z25; have v25 := L.v25; have aE := L.aE; have zE := L.zE
  have FG := L.fswap
  have S0 : Aside (SomeR enc k w0 blk d0.size w) := S
  clear S
  go_enter FG, Try.ntmps84
  go_wp2
  go_loopg [10] n (fun kx s8 wr => ∃ i : Nat, s8 = .int .i64 i ∧ i ≤ n ∧ n - i ≤ kx ∧ Aside (SomeR enc k w0 blk d0.size wr))
  case atStart => exact ⟨0, rfl, Nat.zero_le _, by omega, S0⟩
  case round =>
    clear S0
    obtain ⟨i, rfl, hi, hkx, S1⟩ := hrel
    by_cases hlt : i < n
    · have hltz : (i : Int) < (n : Int) := by omega
      obtain ⟨dk, hds, S1⟩ := S1.out
      go_wp2_with fail
      have w1 : IntKind.i64.wrap ((a : Int) + (i : Int)) = ((a + i : Nat) : Int) := by rw [IntKind.wrap_i64]; omega
      have w2 : IntKind.i64.wrap ((b : Int) + (i : Int)) = ((b + i : Nat) : Int) := by rw [IntKind.wrap_i64]; omega
      obtain ⟨ai, hai⟩ : ∃ ai, a + i = ai := ⟨_, rfl⟩
      obtain ⟨bi, hbi⟩ : ∃ bi, b + i = bi := ⟨_, rfl⟩
      rw [hai] at w1
      rw [hbi] at w2
      have ea : ((ai : Int)).toNat = ai := by omega
      have pa : (0 : Int) ≤ (ai : Int) := by omega
      have ba : (ai : Int) < (d0.size : Int) := by omega
      have eb : ((bi : Int)).toNat = bi := by omega
      have pb : (0 : Int) ≤ (bi : Int) := by omega
      have bb : (bi : Int) < (d0.size : Int) := by omega
      have S2 : Aside (SWK enc k w0 blk 0 (swp dk ai bi) ((wr.drew.setCells blk (0 + ai * k) (enc dk[bi]!)).setCells blk (0 + bi * k) (enc dk[ai]!))) := S1.swapped R ai bi (by omega) (by omega)
      have la := S1.ld1 R (by omega) P ai (by omega)
      have lb := S1.ld1 R (by omega) P bi (by omega)
      have sa := S1.st1 R (by omega) P ai (by omega) dk[bi]!
      have sb := S1.st2 R (by omega) P ai bi (by omega) (by omega) dk[bi]! dk[ai]!
      have na : (enc dk[ai]!).length = k := R.hk _
      have nb : (enc dk[bi]!).length = k := R.hk _
      generalize enc dk[ai]! = cI at S2 la sb na
      generalize enc dk[bi]! = cJ at S2 lb sa sb nb
      simp only [Nat.zero_add] at la lb sa sb S2
      clear S1 hai hbi
      go_big_region_o
      clear la lb sa sb
      generalize (wr.drew.setCells blk (ai * k) cJ).setCells blk (bi * k) cI = w2 at S2 ⊢
      go_wp2
      go_roundg (n - (i + 1))
      case measure => omega
      case rel => exact ⟨i + 1, by go_num, by omega, by omega, ⟨_, by rw [size_swp]; exact hds, S2.out⟩⟩
    · have hltz : ¬ (i : Int) < (n : Int) := by omega
      go_wp2
      go_end0
      exact ⟨rfl, S1.out⟩
end
end Go.Proofs.Ytaekngiejehooaa
