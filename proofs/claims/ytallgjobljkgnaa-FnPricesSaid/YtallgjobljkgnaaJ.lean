/-
  Lists in which no number stands twice: the program's test by a map. Conditions: lengths within the bound of a slice, the numbers bounded.
-/
import Derived.Test.YtallgjobljkgnaaH
import Derived.Maps.Own
import Derived.Maps.Views
namespace Go.Proofs.Ytallgjobljkgnaa
open Go.RowKit Go.Maps
set_option maxRecDepth 100000
set_option maxHeartbeats 1000000

theorem plain_bool_inv {H : Type} {P : Program} {e : TypeId} (he : P.underlying e = some .bool) {v : Value} {z : DataW H × List MemPlace} (h : plainElem P e v = some z) : ∃ x, v = .bool x ∧ z = (.lit (.bool x), []) := by
  unfold plainElem at h
  rw [he] at h
  cases v <;> simp at h
  exact ⟨_, rfl, h.symm⟩
theorem look_bool {H : Type} {P : Program} {w : World} {k t e : TypeId} {b n : Nat} {D : DataW H} (h : w.ownsMap P k (plainElem P e) b n D) (K : Keyed P k) (ht : P.underlying t = some (.map k e)) (he : P.underlying e = some .bool) (hz : (zeroValue e).run P w = .ok (.bool false) w)
    {key : Value} {kl : Lit} (hkey : keyOf P k key = some kl) : ∃ c, (Instr.lookup t (.map (some b)) key false).run P w = .ok (.bool c) w ∧ D.atKey kl (.lit (.bool false)) = .lit (.bool c) := by
  obtain ⟨v, ps, hrun, hv⟩ := h.lookup K ht hz (plainElem_bool he false) hkey
  obtain ⟨c, rfl, hc⟩ := plain_bool_inv he hv
  simp only [Prod.mk.injEq] at hc
  exact ⟨c, hrun, hc.1⟩
theorem law_int : Keyed Try.prog 3 := int_keyed Try.underlying3
theorem zero_bool (w : World) : (zeroValue 4).run Try.prog w = .ok (.bool false) w := by kernel_rfl
/-- no number of the first k stands twice -/
def difB (zs : List Int) (k : Nat) : Bool := (List.range k).all fun i => !(zs.take i).contains (zs.getD i 0)
theorem difB_step {zs : List Int} {k : Nat} {x : Int} (hk : k < zs.length) (hx : zs[k] = x) (h : difB zs k = true) (hc : (zs.take k).contains x = false) : difB zs (k + 1) = true := by
  unfold difB at h ⊢
  rw [List.range_succ, List.all_append, h]
  simp only [List.all_cons, List.all_nil, Bool.and_true, Bool.true_and]
  rw [getD_of hk hx, hc]; rfl
theorem difB_no {zs : List Int} {n k : Nat} {x : Int} (hn : k < n) (hk : k < zs.length) (hx : zs[k] = x) (hc : (zs.take k).contains x = true) : difB zs n = false := by
  unfold difB
  rw [List.all_eq_false]
  exact ⟨k, by simp [hn], by rw [getD_of hk hx, hc]; simp⟩
theorem key2_any (x : Int) (w : World) : Calls Try.prog 80 #[.int .i64 x] w fun e w' => e = .returned (.int .i64 x) ∧ w = w' := by
  go_enter Try.func80, Try.ntmps80
  go_wp2
  go_returns
  exact ⟨rfl, rfl⟩
theorem contains_step {zs : List Int} {k : Nat} {x : Int} (hk : k < zs.length) (hx : zs[k] = x) (y : Int) : (zs.take (k + 1)).contains y = ((zs.take k).contains y || decide (y = x)) := by
  rw [List.take_succ_eq_append_getElem hk, hx]
  simp
theorem differ_is {q : Bool} {A : Option Addr} {n c : Nat} {zs : List Int} (hq : difB zs n = q) (w : World) (hr : Rd w 1 A n (ints zs)) (hl : zs.length = n) (hn : n ≤ 1048576) (hb : ∀ x ∈ zs, 0 ≤ x ∧ x ≤ 1048576) :
    Calls Try.prog 79 #[.slice A n c, .func (.func 80) #[] #[]] w fun e w' => e = .returned (.bool q) ∧ Below w.heap.size w w' := by
  have hmm := @run_makeMap Try.prog
  go_enter Try.func79, Try.ntmps79
  go_wp2_with fail
  clear hmm
  go_loopw [11] (fun i wr => ∃ k : Nat, ∃ D : DataW Unit, k ≤ n ∧ i = .int .i64 k ∧ difB zs k = true ∧ wr.ownsMap Try.prog 3 (plainElem Try.prog 4) w.heap.size k D ∧ (IsMap D ∧ ∀ y : Int, D.atKey (.int .i64 y) (.lit (.bool false)) = .lit (.bool ((zs.take k).contains y))) ∧ Below w.heap.size w wr) (fun i _ => n - (intOf i).toNat)
  case atStart => exact ⟨0, .map [], Nat.zero_le _, rfl, rfl, World.ownsMap_made _ _ _ _, ⟨isMap_empty, fun y => by simp [DataW.atKey]⟩, balloc (Below.refl _ _) _⟩
  case round =>
    obtain ⟨k, D, hk, rfl, ho, hown, hD, hW⟩ := hrel
    have HO := Lib.hid ho
    have HD := Lib.hid hD
    clear ho hD
    by_cases hlt : k < n
    · obtain ⟨b, off, x, rfl, hbl, hz, c0⟩ := ints_at hr hW hl hlt
      have hk2 : k < zs.length := by omega
      have hbx := hb x (hz ▸ List.getElem_mem hk2)
      have hkey : keyOf Try.prog 3 (.int .i64 x) = some (.int .i64 x) := keyOf_int_mk Try.underlying3 (WalkArith.wf_i64 (by omega))
      obtain ⟨cc, hrun, hat⟩ := look_bool hown law_int Try.underlying83 Try.underlying4 (zero_bool _) hkey
      have hcc : (zs.take k).contains x = cc := by
        have := HD.out.2 x
        rw [hat] at this
        simpa using this.symm
      have s1 : b < wr.heap.size := Nat.lt_of_lt_of_le hbl hW.size
      have i1 : (0 : Int) ≤ (k : Int) := by omega
      have i2 : (k : Int) < (n : Int) := by omega
      have HZ := Lib.hid hz
      have HC := Lib.hid hcc
      have HOW := Lib.hid hown
      clear hz hat hcc hown
      cases cc
      · go_wp2_with fail
        refine (key2_any x _).mono ?_
        rintro e w1 ⟨rfl, rfl⟩
        go_wp2_with fail
        refine (key2_any x _).mono ?_
        rintro e w1 ⟨rfl, rfl⟩
        go_wp2_with (first | (at_mapUpdate; refine wpList_mapUpdate_own _ rfl _ _ _ 83 rfl 3 4 law_int Try.underlying83 _ w.heap.size k _ rfl HOW.out (by unfold maxLen; omega) _ _ _ rfl rfl hkey _ [] (plainElem_bool Try.underlying4 true) ?_; intro w1 hown1 hgrow1))
        go_roundw
        case rel =>
          refine ⟨k + 1, _, by omega, by go_num, difB_step hk2 HZ.out HO.out HC.out, hown1, ⟨HD.out.1.put _ _, fun y => ?_⟩, hW.grown hgrow1 hW.size (fun j hj => by cases hj; exact Nat.le_refl _)⟩
          rw [contains_step hk2 HZ.out]
          by_cases hy : y = x
          · subst hy
            rw [atKey_put_same HD.out.1 (by trivial)]
            simp
          · rw [atKey_put_other (by simpa using hy), HD.out.2 y]
            simp [hy]
        case measure => simp [intOf]; omega
      · obtain rfl : q = false := by rw [← hq]; exact difB_no hlt hk2 HZ.out HC.out
        clear hq
        go_wp2_with fail
        refine (key2_any x _).mono ?_
        rintro e w1 ⟨rfl, rfl⟩
        go_wp2
        go_returns
        exact ⟨rfl, hW⟩
    · have hkn : k = n := by omega
      obtain rfl : q = true := by rw [← hq, ← hkn]; exact HO.out
      clear hq
      go_wp2
      go_returns
      exact ⟨rfl, hW⟩
end Go.Proofs.Ytallgjobljkgnaa
