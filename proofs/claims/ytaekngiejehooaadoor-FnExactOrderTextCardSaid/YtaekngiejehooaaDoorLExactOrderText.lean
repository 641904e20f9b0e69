/-
  FnExactOrderText returns true for all arguments, and its arguments read afterwards as before. Conditions: none but the card's: the library's tables are as the program's text lays them.
-/
import Derived.Test.YtaekngiejehooaaDoorRows
import Derived.Test.YtaekngiejehooaaDoorTie
import Derived.Test.YtaekngiejehooaaDoorCards
import Derived.Test.YtaekngiejehooaaDoorOT
import Derived.ProofKit
import Derived.OpenShut
import Derived.ShutString
import Derived.ChangeOld
import Derived.ChangeSame
import Derived.ChangeVars
import Derived.JoinedOf
import Derived.JoinedAt
import Derived.LaidLaws
import Derived.SizedLaws
import Derived.SevenTiedAt
import Derived.Lib.LaidTab
import Derived.Stop.LaidErr
namespace Go.Proofs.YtaekngiejehooaaDoor
open Go Go.ChangeShapes Go.WideShapes Go.ChangeAt Go.RowKit
set_option maxHeartbeats 1000000
/-- one start that fits: the library's tables as their initialisers lay them -/
noncomputable def laidWorld (os : Os) : World :=
  let w0 := World.holding Tryd.prog os ⟨#[], #[], []⟩
  let put (h : Array Obj) (g : Nat) (cs : Array Value) : Array Obj := h.modify g fun
    | .cells _ t frozen => .cells cs t frozen
    | o => o
  { w0 with heap := (put (put (put w0.heap 1 #[(.int .u8 0 : Value), (.int .u8 1 : Value), (.int .u8 28 : Value), (.int .u8 2 : Value), (.int .u8 29 : Value), (.int .u8 14 : Value), (.int .u8 24 : Value), (.int .u8 3 : Value), (.int .u8 30 : Value), (.int .u8 22 : Value), (.int .u8 20 : Value), (.int .u8 15 : Value), (.int .u8 25 : Value), (.int .u8 17 : Value), (.int .u8 4 : Value), (.int .u8 8 : Value), (.int .u8 31 : Value), (.int .u8 27 : Value), (.int .u8 13 : Value), (.int .u8 23 : Value), (.int .u8 21 : Value), (.int .u8 19 : Value), (.int .u8 16 : Value), (.int .u8 7 : Value), (.int .u8 26 : Value), (.int .u8 12 : Value), (.int .u8 18 : Value), (.int .u8 6 : Value), (.int .u8 11 : Value), (.int .u8 5 : Value), (.int .u8 10 : Value), (.int .u8 9 : Value)]) 2 #[(.int .u8 0 : Value), (.int .u8 1 : Value), (.int .u8 56 : Value), (.int .u8 2 : Value), (.int .u8 57 : Value), (.int .u8 49 : Value), (.int .u8 28 : Value), (.int .u8 3 : Value), (.int .u8 61 : Value), (.int .u8 58 : Value), (.int .u8 42 : Value), (.int .u8 50 : Value), (.int .u8 38 : Value), (.int .u8 29 : Value), (.int .u8 17 : Value), (.int .u8 4 : Value), (.int .u8 62 : Value), (.int .u8 47 : Value), (.int .u8 59 : Value), (.int .u8 36 : Value), (.int .u8 45 : Value), (.int .u8 43 : Value), (.int .u8 51 : Value), (.int .u8 22 : Value), (.int .u8 53 : Value), (.int .u8 39 : Value), (.int .u8 33 : Value), (.int .u8 30 : Value), (.int .u8 24 : Value), (.int .u8 18 : Value), (.int .u8 12 : Value), (.int .u8 5 : Value), (.int .u8 63 : Value), (.int .u8 55 : Value), (.int .u8 48 : Value), (.int .u8 27 : Value), (.int .u8 60 : Value), (.int .u8 41 : Value), (.int .u8 37 : Value), (.int .u8 16 : Value), (.int .u8 46 : Value), (.int .u8 35 : Value), (.int .u8 44 : Value), (.int .u8 21 : Value), (.int .u8 52 : Value), (.int .u8 32 : Value), (.int .u8 23 : Value), (.int .u8 11 : Value), (.int .u8 54 : Value), (.int .u8 26 : Value), (.int .u8 40 : Value), (.int .u8 15 : Value), (.int .u8 34 : Value), (.int .u8 20 : Value), (.int .u8 31 : Value), (.int .u8 10 : Value), (.int .u8 25 : Value), (.int .u8 14 : Value), (.int .u8 19 : Value), (.int .u8 9 : Value), (.int .u8 13 : Value), (.int .u8 8 : Value), (.int .u8 7 : Value), (.int .u8 6 : Value)]) 0 #[(.int .u64 1 : Value), (.int .u64 10 : Value), (.int .u64 100 : Value), (.int .u64 1000 : Value), (.int .u64 10000 : Value), (.int .u64 100000 : Value), (.int .u64 1000000 : Value), (.int .u64 10000000 : Value), (.int .u64 100000000 : Value), (.int .u64 1000000000 : Value), (.int .u64 10000000000 : Value), (.int .u64 100000000000 : Value), (.int .u64 1000000000000 : Value), (.int .u64 10000000000000 : Value), (.int .u64 100000000000000 : Value), (.int .u64 1000000000000000 : Value), (.int .u64 10000000000000000 : Value), (.int .u64 100000000000000000 : Value), (.int .u64 1000000000000000000 : Value), (.int .u64 10000000000000000000 : Value)]) }
theorem laidWorld_met (os : Os) (args : Array Value) : laidMet Tryd.prog Rows.fnExactOrderTextRow.laid ((laidWorld os).forCall (fun _ _ => 0) ⟨#[], args, []⟩).memory :=
  laidMet_of_run' 8 (by kernel_rfl) (by kernel_rfl)
set_option maxRecDepth 100000 in
theorem fnExactOrderText_lifted (os : Os) (started : os.Started) (H : Type) (enc : TypeId × Value → H) :
    ReturnsInHanded {} Tryd.checked os 3 .any (fun w args => (Rows.fnExactOrderTextSpec.pre enc Tryd.prog Tryd.f3 Rows.fnExactOrderTextRow.domain false w args ∧ laidMet Tryd.prog Rows.fnExactOrderTextRow.laid w) ∧ sizedMet enc Tryd.prog Tryd.f3 (OpenSpec.ofChange Rows.fnExactOrderTextSpec) false w args) (Rows.fnExactOrderTextSpec.post enc Tryd.prog Tryd.f3 false true false false) := by
  refine returnsInHanded_of_change_and (C := Tryd.checked) (X := fun w _ => laidMet Tryd.prog Rows.fnExactOrderTextRow.laid w) (fun _ _ _ hh h => h.of_heap hh) (by kernel_rfl) started (by kernel_rfl) Tryd.func3
    (ChangeSpec.witness_at (enc := enc) (C := Tryd.checked) (os := os) (X := fun w _ => laidMet Tryd.prog Rows.fnExactOrderTextRow.laid w) false (laidWorld os) #[.agg #[.int .i64 0, .string ByteArray.empty, .int .i64 0, .int .i64 0, .int .i64 0]] 8 rfl (by kernel_rfl) (by kernel_rfl) (by kernel_rfl) (by kernel_rfl) (by kernel_rfl) (laidWorld_met os _)) ?_
  intro W base args ds gs before hval0 hW _ _ hL _
  have hval : ∀ (j : Nat) t v, Tryd.f3.params[j]? = some t → args[j]? = some v → Value.okWide Tryd.prog W .any base t v := hval0
  have hW' := hW
  obtain ⟨p, q, hA0, hV, rfl, hfz, hnd⟩ := hW
  have hA : DataW.TrodAll enc Tryd.prog W 0 (fun _ => true) true Tryd.f3.params.toList args.toList ds p := hA0
  rw [Tryd.params3] at hA hval
  obtain ⟨v0, vs0, d0, ds0, p0, q0, hargs, rfl, rfl, h0, r0⟩ := trodAll_cons hA
  obtain ⟨rfl, rfl, rfl⟩ := trodAll_nil r0
  obtain rfl : args = #[v0] := by cases args; simp_all
  obtain ⟨rfl, rfl⟩ := trodVars_none hV
  have k0 := h0
  have lt0 : ∀ x ∈ p0, x.block < W.heap.size := by obtain ⟨m, hm⟩ := k0; exact DataW.trod_lt m _ _ _ hm
  obtain ⟨a0, rfl, w0⟩ := open_agg_by Tryd.underlying23 (opens_struct5 Tryd.underlying23 (by kernel_rfl) (by kernel_rfl) (opens_int Tryd.underlying3) (opens_string Tryd.underlying9) (opens_int Tryd.underlying3) (opens_int Tryd.underlying3) (opens_int Tryd.underlying3)) (hval 0 23 v0 rfl rfl) h0
  clear hA0 hval0
  have hT : Tb W := Tb.of (Lib.tabIs_of_head (k := .u64) (zs := Lib.pow10Tab) (rest := Rows.fnExactOrderTextRow.laid.drop 3) (show Tryd.prog.globalNamed "internal/strconv.uint64pow10" = some 0 by kernel_rfl) (show (Tryd.prog.globals[0]?).map (·.type) = some 46 by kernel_rfl) Tryd.underlying46 Tryd.underlying38 (by kernel_rfl) (by kernel_rfl) (show laidMet Tryd.prog (("internal/strconv.uint64pow10", Lib.tabData .u64 Lib.pow10Tab) :: Rows.fnExactOrderTextRow.laid.drop 3) W from hL.tail.tail))
  refine (fnExactOrderText_walk a0 W w0 hT).mono fun e W' ⟨he, bel⟩ => ?_
  subst he
  exact ⟨_, rfl, _, _, _, [], _, [], hW', trodAll_mk1 (shut_bool Tryd.underlying4 _), (trodAll_cons_mk (Below.trod (by kernel_rfl) (by kernel_rfl) (of_decide_eq_true (by kernel_rfl)) k0 bel lt0) trodAll_mk0), rfl, bel.frame _, fun h => by cases h⟩
theorem fnExactOrderText_said : Rows.FnExactOrderTextSaid :=
  OpenClaim.holds_of_wide 3 Tryd.f3 rfl rfl rfl rfl rfl rfl rfl ⟨rfl, rfl, rfl, rfl, rfl⟩ rfl rfl rfl rfl rfl (by kernel_rfl) Tryd.func3 (by kernel_rfl)
    (of_decide_eq_true (by kernel_rfl)) (by unfold Func.isWrapper; first | (rw [if_pos (by decide +kernel)]; kernel_rfl) | (rw [if_neg (by decide +kernel)]; exact ⟨rfl, rfl⟩))
    (fun os started H enc _ => fnExactOrderText_lifted os started H enc)
/-- the statement: FnExactOrderText returns true for all arguments, the library's tables tied to the program's text -/
theorem fnExactOrderText_holds : Rows.FnExactOrderTextCardSaid :=
  Claim7.holds_tied_plain_at .later [] [.data, .data, .data] true (true, "0882a1e3420a4243a741080c76bdac7deba833c5977984304727616361507f1a") false
    fnExactOrderText_said (fun _ h => by cases h) (by kernel_rfl) (fun _ h => by cases h) fnExactOrderText_row_tie rfl ⟨rfl, rfl⟩ (by kernel_rfl) rfl
    (fun f fn hf hfn => by
      obtain rfl : f = 3 := Option.some.inj ((show Tryd.prog.funcNamed "loop.example/g00917/laws.FnExactOrderText" = some 3 by kernel_rfl).symm.trans hf) |>.symm
      obtain rfl : fn = Tryd.f3 := (Option.some.inj (Tryd.func3.symm.trans hfn)).symm
      exact ⟨by kernel_rfl, fun j t ht => by
        rw [Tryd.params3] at ht
        rcases j with _ | j
        · obtain rfl : t = 23 := by simpa using ht.symm
          exact (show Tryd.prog.wantsStandIn 23 = false by kernel_rfl)
        · simp at ht⟩)
    (by kernel_rfl)
#print axioms fnExactOrderText_holds
end Go.Proofs.YtaekngiejehooaaDoor
