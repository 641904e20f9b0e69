/-
  FnExactIsBefore returns true for all arguments, and its arguments read afterwards as before. Conditions: none.
-/
import Derived.Test.YthgabapegpndnaaRows
import Derived.Test.YthgabapegpndnaaI
import Derived.ProofKit
import Derived.OpenShut
import Derived.ShutString
import Derived.ChangeOld
namespace Go.Proofs.Ythgabapegpndnaa
open Go.ChangeShapes Go.WideShapes Go.ChangeAt Go.RowKit
set_option maxHeartbeats 1000000
set_option maxRecDepth 100000 in
theorem fnExactIsBefore_lifted (os : Os) (started : os.Started) (H : Type) (enc : TypeId × Value → H) :
    ReturnsInHanded {} Try.checked os 4 .any (Rows.fnExactIsBeforeSpec.pre6 enc Try.prog Try.f4 Rows.fnExactIsBeforeRow.domain false) (Rows.fnExactIsBeforeSpec.post enc Try.prog Try.f4 false true false false) := by
  refine returnsInHanded_of_change (C := Try.checked) (by kernel_rfl) started (by kernel_rfl) Try.func4
    (ChangeSpec.witness6 (enc := enc) (C := Try.checked) false ⟨#[], #[.int .i64 0, .agg #[.int .i64 0, .int .i64 0, .slice none 0 0, .string ByteArray.empty], .agg #[.int .i64 0, .int .i64 0, .slice none 0 0, .string ByteArray.empty]], []⟩ 8 (by kernel_rfl) (by kernel_rfl) (by kernel_rfl) (by kernel_rfl)) ?_
  intro W base args ds gs before hval0 hW hcnd _
  have hval : ∀ (j : Nat) t v, Try.f4.params[j]? = some t → args[j]? = some v → Value.okWide Try.prog W .any base t v := hval0
  have hW' := hW
  obtain ⟨p, q, hA0, hV, rfl, hfz, hnd⟩ := hW
  have hA : DataW.TrodAll enc Try.prog W 0 (fun _ => true) true Try.f4.params.toList args.toList ds p := hA0
  rw [Try.params4] at hA hval
  obtain ⟨v0, vs0, d0, ds0, p0, q0, hargs, rfl, rfl, h0, r0⟩ := trodAll_cons hA
  obtain ⟨v1, vs1, d1, ds1, p1, q1, rfl, rfl, rfl, h1, r1⟩ := trodAll_cons r0
  obtain ⟨v2, vs2, d2, ds2, p2, q2, rfl, rfl, rfl, h2, r2⟩ := trodAll_cons r1
  obtain ⟨rfl, rfl, rfl⟩ := trodAll_nil r2
  obtain rfl : args = #[v0, v1, v2] := by cases args; simp_all
  obtain ⟨rfl, rfl⟩ := trodVars_none hV
  have k0 := h0
  have lt0 : ∀ x ∈ p0, x.block < W.heap.size := by obtain ⟨m, hm⟩ := k0; exact DataW.trod_lt m _ _ _ hm
  obtain ⟨a0, rfl, rfl, rfl, w00⟩ := open_int Try.underlying3 (hval 0 3 v0 rfl rfl) h0
  have w0 := i64_of_wf w00
  have k1 := h1
  have lt1 : ∀ x ∈ p1, x.block < W.heap.size := by obtain ⟨m, hm⟩ := k1; exact DataW.trod_lt m _ _ _ hm
  obtain ⟨⟨u1, s1, ⟨A1, n1, c1⟩, wd1⟩, rfl, wu1, ws1, ⟨hnc1, hcm1, z1, hl1, hr1, ok1⟩, hw1⟩ := open_agg_by Try.underlying31 (opens_struct4 Try.underlying31 (by kernel_rfl) (by kernel_rfl) (opens_int Try.underlying3) (opens_int Try.underlying3) (opens_slice (k := 1) Try.underlying29 (by kernel_rfl) (by omega) (fun _ => rfl) (opens_int Try.underlying3)) (opens_string Try.underlying9)) (hval 1 31 v1 rfl rfl) h1
  dsimp only at *
  have hn1 : n1 ≤ 9223372036854775807 := by unfold maxLen at hcm1; omega
  have k2 := h2
  have lt2 : ∀ x ∈ p2, x.block < W.heap.size := by obtain ⟨m, hm⟩ := k2; exact DataW.trod_lt m _ _ _ hm
  obtain ⟨⟨u2, s2, ⟨A2, n2, c2⟩, wd2⟩, rfl, wu2, ws2, ⟨hnc2, hcm2, z2, hl2, hr2, ok2⟩, hw2⟩ := open_agg_by Try.underlying31 (opens_struct4 Try.underlying31 (by kernel_rfl) (by kernel_rfl) (opens_int Try.underlying3) (opens_int Try.underlying3) (opens_slice (k := 1) Try.underlying29 (by kernel_rfl) (by omega) (fun _ => rfl) (opens_int Try.underlying3)) (opens_string Try.underlying9)) (hval 2 31 v2 rfl rfl) h2
  dsimp only at *
  have hn2 : n2 ≤ 9223372036854775807 := by unfold maxLen at hcm2; omega
  clear hA0 hval0
  refine (fnExactIsBefore_walk a0 u1 s1 A1 n1 c1 z1 wd1 u2 s2 A2 n2 c2 z2 wd2 W w0 hr1 hl1 hn1 hw1 hr2 hl2 hn2 hw2).mono fun e W' ⟨he, bel⟩ => ?_
  subst he
  exact ⟨_, rfl, _, _, _, [], _, [], hW', trodAll_mk1 (shut_bool Try.underlying4 _), (trodAll_cons_mk (Below.trod (by kernel_rfl) (by kernel_rfl) (of_decide_eq_true (by kernel_rfl)) k0 bel lt0) (trodAll_cons_mk (Below.trod (by kernel_rfl) (by kernel_rfl) (of_decide_eq_true (by kernel_rfl)) k1 bel lt1) (trodAll_cons_mk (Below.trod (by kernel_rfl) (by kernel_rfl) (of_decide_eq_true (by kernel_rfl)) k2 bel lt2) trodAll_mk0))), rfl, bel.frame _, fun h => by cases h⟩

/-- the statement: FnExactIsBefore returns true for all arguments -/
theorem fnExactIsBefore_holds : Rows.FnExactIsBeforeSaid :=
  OpenClaim.holds_of_wide 4 Try.f4 rfl rfl rfl rfl rfl rfl rfl ⟨rfl, rfl, rfl, rfl, rfl⟩ rfl rfl rfl rfl rfl (by kernel_rfl) Try.func4 (by kernel_rfl)
    (of_decide_eq_true (by kernel_rfl)) (by unfold Func.isWrapper; first | (rw [if_pos (by decide +kernel)]; kernel_rfl) | (rw [if_neg (by decide +kernel)]; exact ⟨rfl, rfl⟩))
    (fun os started H enc _ => fnExactIsBefore_lifted os started H enc)
#print axioms fnExactIsBefore_holds
end Go.Proofs.Ythgabapegpndnaa
