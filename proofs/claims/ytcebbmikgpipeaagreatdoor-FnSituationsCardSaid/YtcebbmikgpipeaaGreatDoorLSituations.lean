/-
  FnSituations returns true for all arguments, and its arguments read afterwards as before. Conditions: none but the card's: the library's variables are as the program's text lays them.
-/
import Derived.Test.YtcebbmikgpipeaaGreatDoorRows
import Derived.Test.YtcebbmikgpipeaaGreatDoorTie
import Derived.Test.YtcebbmikgpipeaaGreatDoorCards
import Derived.Test.YtcebbmikgpipeaaGreatDoorFW
import Derived.Test.YtcebbmikgpipeaaGreatDoorFH
import Derived.OpenShut
import Derived.ShutString
import Derived.ChangeOld
import Derived.ChangeSame
import Derived.ChangeVars
import Derived.ChangeMaps5
import Derived.JoinedOf
import Derived.JoinedAt
import Derived.SevenTiedAt
namespace Go.Proofs.YtcebbmikgpipeaaGreatDoor
open Go Go.ChangeShapes Go.WideShapes Go.ChangeAt Go.RowKit
set_option maxHeartbeats 2000000
set_option maxRecDepth 100000 in
theorem fnSituations_lifted (os : Os) (started : os.Started) (H : Type) (enc : TypeId × Value → H) :
    ReturnsInHanded {} Tryz.checked os 4 .any (fun w args => (Rows.fnSituationsSpec.pre enc Tryz.prog Tryz.f4 Rows.fnSituationsRow.domain false w args ∧ laidMet Tryz.prog Rows.fnSituationsRow.laid w) ∧ sizedMet enc Tryz.prog Tryz.f4 (OpenSpec.ofChange Rows.fnSituationsSpec) false w args) (Rows.fnSituationsSpec.post enc Tryz.prog Tryz.f4 false true false false) := by
  refine handed_env (C := Tryz.checked) (X := fun w => laidMet Tryz.prog Rows.fnSituationsRow.laid w) (fun _ _ hh h => h.of_heap hh) (by kernel_rfl) started (by kernel_rfl) Tryz.func4
    (ChangeSpec.witness_shaped (enc := enc) (C := Tryz.checked) (os := os) (X := fun w _ => laidMet Tryz.prog Rows.fnSituationsRow.laid w) false (World.laidAll Tryz.prog os Rows.fnSituationsRow.laid) #[.slice none 0 0] 8 (World.laidAll_os _ _ _)
      (World.shaped_of_ZipB (by kernel_rfl) (by kernel_rfl)) (by kernel_rfl) (by kernel_rfl) (by kernel_rfl) (laidMet_laidAll _ (by kernel_rfl) (by kernel_rfl))) ?_
  intro W base args ds gs before hval0 hW hL hSh
  have hval : ∀ (j : Nat) t v, Tryz.f4.params[j]? = some t → args[j]? = some v → Value.okWide Tryz.prog W .any base t v := hval0
  have hW' := hW
  obtain ⟨p, q, hA0, hV, rfl, hfz, hnd⟩ := hW
  have hA : DataW.TrodAll enc Tryz.prog W 0 (fun _ => true) true Tryz.f4.params.toList args.toList ds p := hA0
  rw [Tryz.params4] at hA hval
  obtain ⟨v0, vs0, d0, ds0, p0, q0, hargs, rfl, rfl, h0, r0⟩ := trodAll_cons hA
  obtain ⟨rfl, rfl, rfl⟩ := trodAll_nil r0
  obtain rfl : args = #[v0] := by cases args; simp_all
  obtain ⟨rfl, rfl⟩ := trodVars_none hV
  have k0 := h0
  have lt0 : ∀ x ∈ p0, x.block < W.heap.size := by obtain ⟨m, hm⟩ := k0; exact DataW.trod_lt m _ _ _ hm
  obtain ⟨A0, n0, c0, z0, rfl, hnc0, hcm0, hl0, hr0, ok0⟩ := open_slice_by Tryz.underlying28 (k := 1) (by kernel_rfl) (by omega) (fun _ => rfl) (opens_u8 Tryz.underlying5) (hval 0 28 v0 rfl rfl) h0
  have hn0 : n0 ≤ 9223372036854775807 := by unfold maxLen at hcm0; omega
  clear hA0 hval0
  have hT : Tb W := Tb.of (Lib.tabIs_of_head (k := .u64) (zs := Lib.pow10Tab) (rest := Rows.fnSituationsRow.laid.drop 3) (show Tryz.prog.globalNamed "internal/strconv.uint64pow10" = some 5 by kernel_rfl) (show (Tryz.prog.globals[5]?).map (·.type) = some 157 by kernel_rfl) Tryz.underlying157 Tryz.underlying51 (by kernel_rfl) (by kernel_rfl) (show laidMet Tryz.prog (("internal/strconv.uint64pow10", Lib.tabData .u64 Lib.pow10Tab) :: Rows.fnSituationsRow.laid.drop 3) W from hL.tail.tail))
  have h1 := sent_cell (show laidMet Tryz.prog (("strconv.ErrSyntax", .iface "*errors.errorString" (.ptr (.agg [.lit (.string [105, 110, 118, 97, 108, 105, 100, 32, 115, 121, 110, 116, 97, 120])]))) :: Rows.fnSituationsRow.laid.drop 6) W from hL.tail.tail.tail.tail.tail) (show Tryz.prog.globalNamed "strconv.ErrSyntax" = some 3 by kernel_rfl) (by kernel_rfl)
  have h2 := sent_cell (show laidMet Tryz.prog (("strconv.ErrRange", .iface "*errors.errorString" (.ptr (.agg [.lit (.string [118, 97, 108, 117, 101, 32, 111, 117, 116, 32, 111, 102, 32, 114, 97, 110, 103, 101])]))) :: Rows.fnSituationsRow.laid.drop 5) W from hL.tail.tail.tail.tail) (show Tryz.prog.globalNamed "strconv.ErrRange" = some 4 by kernel_rfl) (by kernel_rfl)
  refine (fnSituations_walk A0 n0 c0 z0 W hr0 hl0 hn0 ok0 (Ev.of hT hSh h1 h2)).mono fun e W' ⟨he, bel⟩ => ?_
  subst he
  exact ⟨_, rfl, _, _, _, [], _, [], hW', trodAll_mk1 (shut_bool Tryz.underlying4 _), (trodAll_cons_mk (Below.trod (by kernel_rfl) (by kernel_rfl) (of_decide_eq_true (by kernel_rfl)) k0 bel lt0) trodAll_mk0), rfl, bel.frame _, fun h => by cases h⟩
theorem fnSituations_said : Rows.FnSituationsSaid :=
  OpenClaim.holds_of_wide 4 Tryz.f4 rfl rfl rfl rfl rfl rfl rfl ⟨rfl, rfl, rfl, rfl, rfl⟩ rfl rfl rfl rfl rfl (by kernel_rfl) Tryz.func4 (by kernel_rfl)
    (of_decide_eq_true (by kernel_rfl)) (by unfold Func.isWrapper; first | (rw [if_pos (by decide +kernel)]; kernel_rfl) | (rw [if_neg (by decide +kernel)]; exact ⟨rfl, rfl⟩))
    (fun os started H enc _ => fnSituations_lifted os started H enc)
/-- the statement: FnSituations returns true for all arguments, the library's variables tied to the program's text -/
theorem fnSituations_holds : Rows.FnSituationsCardSaid :=
  Claim7.holds_tied_plain_at .later [] [.data, .data, .data, .data, .sentinel, .sentinel, .pinned] true (true, "2d0bb7469f8b0f0e19a0442c40c9bfac90e9ecac4fef03ae495c33c4c8b89a28") true
    fnSituations_said (fun _ h => by cases h) (by kernel_rfl) (fun _ h => by cases h) fnSituations_row_tie rfl ⟨rfl, rfl⟩ (by kernel_rfl) rfl
    (fun f fn hf hfn => by
      obtain rfl : f = 4 := Option.some.inj ((show Tryz.prog.funcNamed "loop.example/g00917/laws.FnSituations" = some 4 by kernel_rfl).symm.trans hf) |>.symm
      obtain rfl : fn = Tryz.f4 := (Option.some.inj (Tryz.func4.symm.trans hfn)).symm
      exact ⟨by kernel_rfl, fun j t ht => by
        rw [Tryz.params4] at ht
        rcases j with _ | j
        · obtain rfl : t = 28 := by simpa using ht.symm
          exact (show Tryz.prog.wantsStandIn 28 = false by kernel_rfl)
        · simp at ht⟩)
    (by kernel_rfl)
#print axioms fnSituations_holds
end Go.Proofs.YtcebbmikgpipeaaGreatDoor
