/-
  FnExactProvesCheapest returns true for all arguments, and its arguments read afterwards as before. Conditions: none.
-/
import Derived.Test.YtdibkgacplbaeaaRows
import Derived.Test.YtdibkgacplbaeaaK7
import Derived.ProofKit
import Derived.OpenShut
import Derived.ShutString
import Derived.ChangeOld
namespace Go.Proofs.Ytdibkgacplbaeaa
open Go.ChangeShapes Go.WideShapes Go.ChangeAt Go.RowKit
set_option maxHeartbeats 1000000
set_option maxRecDepth 100000 in
theorem fnExactProvesCheapest_lifted (os : Os) (started : os.Started) (H : Type) (enc : TypeId × Value → H) :
    ReturnsInHanded {} Try.checked os 11 .any (Rows.fnExactProvesCheapestSpec.pre6 enc Try.prog Try.f11 Rows.fnExactProvesCheapestRow.domain false) (Rows.fnExactProvesCheapestSpec.post enc Try.prog Try.f11 false true false false) := by
  refine returnsInHanded_of_change (C := Try.checked) (by kernel_rfl) started (by kernel_rfl) Try.func11
    (ChangeSpec.witness6 (enc := enc) (C := Try.checked) false ⟨#[], #[.slice none 0 0, .slice none 0 0, .slice none 0 0, .slice none 0 0], []⟩ 8 (by kernel_rfl) (by kernel_rfl) (by kernel_rfl) (by kernel_rfl)) ?_
  intro W base args ds gs before hval0 hW hcnd _
  have hval : ∀ (j : Nat) t v, Try.f11.params[j]? = some t → args[j]? = some v → Value.okWide Try.prog W .any base t v := hval0
  have hW' := hW
  obtain ⟨p, q, hA0, hV, rfl, hfz, hnd⟩ := hW
  have hA : DataW.TrodAll enc Try.prog W 0 (fun _ => true) true Try.f11.params.toList args.toList ds p := hA0
  rw [Try.params11] at hA hval
  obtain ⟨v0, vs0, d0, ds0, p0, q0, hargs, rfl, rfl, h0, r0⟩ := trodAll_cons hA
  obtain ⟨v1, vs1, d1, ds1, p1, q1, rfl, rfl, rfl, h1, r1⟩ := trodAll_cons r0
  obtain ⟨v2, vs2, d2, ds2, p2, q2, rfl, rfl, rfl, h2, r2⟩ := trodAll_cons r1
  obtain ⟨v3, vs3, d3, ds3, p3, q3, rfl, rfl, rfl, h3, r3⟩ := trodAll_cons r2
  obtain ⟨rfl, rfl, rfl⟩ := trodAll_nil r3
  obtain rfl : args = #[v0, v1, v2, v3] := by cases args; simp_all
  obtain ⟨rfl, rfl⟩ := trodVars_none hV
  have k0 := h0
  have lt0 : ∀ x ∈ p0, x.block < W.heap.size := by obtain ⟨m, hm⟩ := k0; exact DataW.trod_lt m _ _ _ hm
  obtain ⟨A0, n0, c0, z0, rfl, hnc0, hcm0, hl0, hr0, ok0⟩ := open_slice_by Try.underlying22 (k := 1) (by kernel_rfl) (by omega) (fun _ => rfl) (opens_slice (k := 1) Try.underlying27 (by kernel_rfl) (by omega) (fun _ => rfl) (opens_int Try.underlying3)) (hval 0 22 v0 rfl rfl) h0
  have hn0 : n0 ≤ 9223372036854775807 := by unfold maxLen at hcm0; omega
  have k1 := h1
  have lt1 : ∀ x ∈ p1, x.block < W.heap.size := by obtain ⟨m, hm⟩ := k1; exact DataW.trod_lt m _ _ _ hm
  obtain ⟨A1, n1, c1, z1, rfl, hnc1, hcm1, hl1, hr1, ok1⟩ := open_slice_by Try.underlying27 (k := 1) (by kernel_rfl) (by omega) (fun _ => rfl) (opens_int Try.underlying3) (hval 1 27 v1 rfl rfl) h1
  have hn1 : n1 ≤ 9223372036854775807 := by unfold maxLen at hcm1; omega
  have k2 := h2
  have lt2 : ∀ x ∈ p2, x.block < W.heap.size := by obtain ⟨m, hm⟩ := k2; exact DataW.trod_lt m _ _ _ hm
  obtain ⟨A2, n2, c2, z2, rfl, hnc2, hcm2, hl2, hr2, ok2⟩ := open_slice_by Try.underlying27 (k := 1) (by kernel_rfl) (by omega) (fun _ => rfl) (opens_int Try.underlying3) (hval 2 27 v2 rfl rfl) h2
  have hn2 : n2 ≤ 9223372036854775807 := by unfold maxLen at hcm2; omega
  have k3 := h3
  have lt3 : ∀ x ∈ p3, x.block < W.heap.size := by obtain ⟨m, hm⟩ := k3; exact DataW.trod_lt m _ _ _ hm
  obtain ⟨A3, n3, c3, z3, rfl, hnc3, hcm3, hl3, hr3, ok3⟩ := open_slice_by Try.underlying27 (k := 1) (by kernel_rfl) (by omega) (fun _ => rfl) (opens_int Try.underlying3) (hval 3 27 v3 rfl rfl) h3
  have hn3 : n3 ≤ 9223372036854775807 := by unfold maxLen at hcm3; omega
  clear hA0 hval0
  refine (fnExactProvesCheapest_walk A0 n0 c0 z0 A1 n1 c1 z1 A2 n2 c2 z2 A3 n3 c3 z3 W hr0 hl0 hn0 ok0 hr1 hl1 hn1 ok1 hr2 hl2 hn2 ok2 hr3 hl3 hn3 ok3).mono fun e W' ⟨he, bel⟩ => ?_
  subst he
  exact ⟨_, rfl, _, _, _, [], _, [], hW', trodAll_mk1 (shut_bool Try.underlying4 _), (trodAll_cons_mk (Below.trod (by kernel_rfl) (by kernel_rfl) (of_decide_eq_true (by kernel_rfl)) k0 bel lt0) (trodAll_cons_mk (Below.trod (by kernel_rfl) (by kernel_rfl) (of_decide_eq_true (by kernel_rfl)) k1 bel lt1) (trodAll_cons_mk (Below.trod (by kernel_rfl) (by kernel_rfl) (of_decide_eq_true (by kernel_rfl)) k2 bel lt2) (trodAll_cons_mk (Below.trod (by kernel_rfl) (by kernel_rfl) (of_decide_eq_true (by kernel_rfl)) k3 bel lt3) trodAll_mk0)))), rfl, bel.frame _, fun h => by cases h⟩

/-- the statement: FnExactProvesCheapest returns true for all arguments -/
theorem fnExactProvesCheapest_holds : Rows.FnExactProvesCheapestSaid :=
  OpenClaim.holds_of_wide 11 Try.f11 rfl rfl rfl rfl rfl rfl rfl ⟨rfl, rfl, rfl, rfl, rfl⟩ rfl rfl rfl rfl rfl (by kernel_rfl) Try.func11 (by kernel_rfl)
    (of_decide_eq_true (by kernel_rfl)) (by unfold Func.isWrapper; first | (rw [if_pos (by decide +kernel)]; kernel_rfl) | (rw [if_neg (by decide +kernel)]; exact ⟨rfl, rfl⟩))
    (fun os started H enc _ => fnExactProvesCheapest_lifted os started H enc)
#print axioms fnExactProvesCheapest_holds
end Go.Proofs.Ytdibkgacplbaeaa
