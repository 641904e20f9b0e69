/-
  No cell of these rows narrows 'for every input' (looked for: loops, veiled, ifaces, maps, wideKeys, modest, calm, conditions, laid).
  DERIVED. THE GIVEN ROWS OF THIS SEAT. 7 by the template 'for every input the law returns true; each argument reads behind the call as it read before'; 0 by the template 'total and deterministic' (their statements: YtaekngiejehooaaTotals.lean).
  GIVEN WITH THE SEED: the statements are not yours to turn. If you find one false, say at which input.
  Laid BY PROGRAM, IN A SANDBOX (cutbox-rows.mjs): the forced cells as the released guide's own fill.sh prints them over the translation 1b4b6eaa8ebd2eec… (all of the seat's roots in one cut). By AI agents, Wed Nov 11 2026. No macro, syntax, notation, axiom, sorry.
-/
import Derived.Test.YtaekngiejehooaaChecked
import GoSem.Claim
import GoSem.ClaimJoined
import GoSem.ClaimMapViews
import Derived.JoinedTies
import Derived.KernelRfl
namespace Go.Proofs.Ytaekngiejehooaa
/- THE CELL 'sum', in the pinned program and in every row, IS THE sha256 OF THE DUMP (.gsa) THAT YtaekngiejehooaaProg.lean LOADS. Nothing in Lean hashes anything: it is a label: what it is worth is what the hold of that sum in a sandbox is worth. -/
noncomputable def Try.pinned : Pinned := { name := "ytaekngiejehooaa", sum := "1b4b6eaa8ebd2eecb3a3fa1bed70296921f37fd9d933b24d64cc80115a1cd25b", checked := Try.checked }
namespace Rows
def none {H : Type} : Left H := { results := [], args := [] }

/-- 'laws.FnExactIsStore': WHATEVER THE INPUT: true; the input reads as it did. -/
def fnExactIsStoreSpec : ChangeSpec := { name := "fnExactIsStore", fn := fun _ => fun
  | [d] => { results := [.lit (.bool true)], args := [d] }
  | _ => none }
def fnExactIsStoreRow : OpenClaim := { program := "ytaekngiejehooaa", sum := "1b4b6eaa8ebd2eecb3a3fa1bed70296921f37fd9d933b24d64cc80115a1cd25b", func := "loop.example/g00917/laws.FnExactIsStore", spec := "fnExactIsStore", apart := false }
def FnExactIsStoreSaid : Prop := fnExactIsStoreRow.holds Try.pinned (OpenSpec.ofChange fnExactIsStoreSpec)

/-- ITS FALSE NEIGHBOUR: 'it returns false'. Refute it at one input. -/
def fnExactIsStoreWrong : ChangeSpec := { name := "fnExactIsStore", fn := fun _ => fun
  | [d] => { results := [.lit (.bool false)], args := [d] }
  | _ => none }
def FnExactIsStoreWrongFalsely : Prop := fnExactIsStoreRow.holds Try.pinned (OpenSpec.ofChange fnExactIsStoreWrong)

/-- 'laws.FnExactAreOrders': WHATEVER THE INPUT: true; the input reads as it did. -/
def fnExactAreOrdersSpec : ChangeSpec := { name := "fnExactAreOrders", fn := fun _ => fun
  | [d] => { results := [.lit (.bool true)], args := [d] }
  | _ => none }
def fnExactAreOrdersRow : OpenClaim := { program := "ytaekngiejehooaa", sum := "1b4b6eaa8ebd2eecb3a3fa1bed70296921f37fd9d933b24d64cc80115a1cd25b", func := "loop.example/g00917/laws.FnExactAreOrders", spec := "fnExactAreOrders", unfollowed := true, recurses := true, apart := false }
def FnExactAreOrdersSaid : Prop := fnExactAreOrdersRow.holds Try.pinned (OpenSpec.ofChange fnExactAreOrdersSpec)

/-- ITS FALSE NEIGHBOUR: 'it returns false'. Refute it at one input. -/
def fnExactAreOrdersWrong : ChangeSpec := { name := "fnExactAreOrders", fn := fun _ => fun
  | [d] => { results := [.lit (.bool false)], args := [d] }
  | _ => none }
def FnExactAreOrdersWrongFalsely : Prop := fnExactAreOrdersRow.holds Try.pinned (OpenSpec.ofChange fnExactAreOrdersWrong)

/-- 'laws.FnExactCancelOrder': WHATEVER THE INPUT: true; the input reads as it did. -/
def fnExactCancelOrderSpec : ChangeSpec := { name := "fnExactCancelOrder", fn := fun _ => fun
  | [d1, d2] => { results := [.lit (.bool true)], args := [d1, d2] }
  | _ => none }
def fnExactCancelOrderRow : OpenClaim := { program := "ytaekngiejehooaa", sum := "1b4b6eaa8ebd2eecb3a3fa1bed70296921f37fd9d933b24d64cc80115a1cd25b", func := "loop.example/g00917/laws.FnExactCancelOrder", spec := "fnExactCancelOrder", unfollowed := true, recurses := true, apart := false }
def FnExactCancelOrderSaid : Prop := fnExactCancelOrderRow.holds Try.pinned (OpenSpec.ofChange fnExactCancelOrderSpec)

/-- ITS FALSE NEIGHBOUR: 'it returns false'. Refute it at one input. -/
def fnExactCancelOrderWrong : ChangeSpec := { name := "fnExactCancelOrder", fn := fun _ => fun
  | [d1, d2] => { results := [.lit (.bool false)], args := [d1, d2] }
  | _ => none }
def FnExactCancelOrderWrongFalsely : Prop := fnExactCancelOrderRow.holds Try.pinned (OpenSpec.ofChange fnExactCancelOrderWrong)

/-- 'laws.FnExactRaiseOrders': WHATEVER THE INPUT: true; the input reads as it did. -/
def fnExactRaiseOrdersSpec : ChangeSpec := { name := "fnExactRaiseOrders", fn := fun _ => fun
  | [d1, d2, d3] => { results := [.lit (.bool true)], args := [d1, d2, d3] }
  | _ => none }
def fnExactRaiseOrdersRow : OpenClaim := { program := "ytaekngiejehooaa", sum := "1b4b6eaa8ebd2eecb3a3fa1bed70296921f37fd9d933b24d64cc80115a1cd25b", func := "loop.example/g00917/laws.FnExactRaiseOrders", spec := "fnExactRaiseOrders", unfollowed := true, recurses := true, apart := false }
def FnExactRaiseOrdersSaid : Prop := fnExactRaiseOrdersRow.holds Try.pinned (OpenSpec.ofChange fnExactRaiseOrdersSpec)

/-- ITS FALSE NEIGHBOUR: 'it returns false'. Refute it at one input. -/
def fnExactRaiseOrdersWrong : ChangeSpec := { name := "fnExactRaiseOrders", fn := fun _ => fun
  | [d1, d2, d3] => { results := [.lit (.bool false)], args := [d1, d2, d3] }
  | _ => none }
def FnExactRaiseOrdersWrongFalsely : Prop := fnExactRaiseOrdersRow.holds Try.pinned (OpenSpec.ofChange fnExactRaiseOrdersWrong)

/-- 'laws.FnExactAddOrder': WHATEVER THE INPUT: true; the input reads as it did. -/
def fnExactAddOrderSpec : ChangeSpec := { name := "fnExactAddOrder", fn := fun _ => fun
  | [d1, d2] => { results := [.lit (.bool true)], args := [d1, d2] }
  | _ => none }
def fnExactAddOrderRow : OpenClaim := { program := "ytaekngiejehooaa", sum := "1b4b6eaa8ebd2eecb3a3fa1bed70296921f37fd9d933b24d64cc80115a1cd25b", func := "loop.example/g00917/laws.FnExactAddOrder", spec := "fnExactAddOrder", unfollowed := true, recurses := true, apart := false }
def FnExactAddOrderSaid : Prop := fnExactAddOrderRow.holds Try.pinned (OpenSpec.ofChange fnExactAddOrderSpec)

/-- ITS FALSE NEIGHBOUR: 'it returns false'. Refute it at one input. -/
def fnExactAddOrderWrong : ChangeSpec := { name := "fnExactAddOrder", fn := fun _ => fun
  | [d1, d2] => { results := [.lit (.bool false)], args := [d1, d2] }
  | _ => none }
def FnExactAddOrderWrongFalsely : Prop := fnExactAddOrderRow.holds Try.pinned (OpenSpec.ofChange fnExactAddOrderWrong)

/-- 'laws.FnExactServingOrder': WHATEVER THE INPUT: true; the input reads as it did. -/
def fnExactServingOrderSpec : ChangeSpec := { name := "fnExactServingOrder", fn := fun _ => fun
  | [d] => { results := [.lit (.bool true)], args := [d] }
  | _ => none }
def fnExactServingOrderRow : OpenClaim := { program := "ytaekngiejehooaa", sum := "1b4b6eaa8ebd2eecb3a3fa1bed70296921f37fd9d933b24d64cc80115a1cd25b", func := "loop.example/g00917/laws.FnExactServingOrder", spec := "fnExactServingOrder", unfollowed := true, recurses := true, apart := false }
def FnExactServingOrderSaid : Prop := fnExactServingOrderRow.holds Try.pinned (OpenSpec.ofChange fnExactServingOrderSpec)

/-- ITS FALSE NEIGHBOUR: 'it returns false'. Refute it at one input. -/
def fnExactServingOrderWrong : ChangeSpec := { name := "fnExactServingOrder", fn := fun _ => fun
  | [d] => { results := [.lit (.bool false)], args := [d] }
  | _ => none }
def FnExactServingOrderWrongFalsely : Prop := fnExactServingOrderRow.holds Try.pinned (OpenSpec.ofChange fnExactServingOrderWrong)

/-- 'laws.FnExactServeOrders': WHATEVER THE INPUT: true; the input reads as it did. -/
def fnExactServeOrdersSpec : ChangeSpec := { name := "fnExactServeOrders", fn := fun _ => fun
  | [d1, d2] => { results := [.lit (.bool true)], args := [d1, d2] }
  | _ => none }
def fnExactServeOrdersRow : OpenClaim := { program := "ytaekngiejehooaa", sum := "1b4b6eaa8ebd2eecb3a3fa1bed70296921f37fd9d933b24d64cc80115a1cd25b", func := "loop.example/g00917/laws.FnExactServeOrders", spec := "fnExactServeOrders", unfollowed := true, recurses := true, apart := false }
def FnExactServeOrdersSaid : Prop := fnExactServeOrdersRow.holds Try.pinned (OpenSpec.ofChange fnExactServeOrdersSpec)

/-- ITS FALSE NEIGHBOUR: 'it returns false'. Refute it at one input. -/
def fnExactServeOrdersWrong : ChangeSpec := { name := "fnExactServeOrders", fn := fun _ => fun
  | [d1, d2] => { results := [.lit (.bool false)], args := [d1, d2] }
  | _ => none }
def FnExactServeOrdersWrongFalsely : Prop := fnExactServeOrdersRow.holds Try.pinned (OpenSpec.ofChange fnExactServeOrdersWrong)

/- THE SECOND FORM. 'bulk': how many values and letters a reading holds, each counted each time it is reached (what is shared counts as often as it is met; a slice's spare places count too). A statement '..UptoSaid' is the law's where the arguments, and the package variables that the reading takes, are together of bulk at most 1048576: NARROWER than '..Said'. Prove '..Said' where nothing that the law and all that it calls make is longer than what came in: it says more and counts as full. Else prove '..UptoSaid'. A law counts once. -/
mutual
def uptoBulk {H : Type} : DataW H → Nat
  | .lit (.string bytes) => bytes.length + 1
  | .lit _ => 1
  | .nil => 1
  | .ptr d => uptoBulk d + 1
  | .slice elems spare => uptoBulkAll elems + uptoBulkAll spare + 1
  | .agg parts => uptoBulkAll parts + 1
  | .iface _ d => uptoBulk d + 1
  | .map entries => uptoBulkEntries entries + 1
  | .held _ => 1
def uptoBulkAll {H : Type} : List (DataW H) → Nat
  | [] => 0
  | d :: r => uptoBulk d + uptoBulkAll r
def uptoBulkEntries {H : Type} : List (Lit × DataW H) → Nat
  | [] => 0
  | x :: r => uptoBulkEntry x + uptoBulkEntries r
def uptoBulkEntry {H : Type} : Lit × DataW H → Nat
  | (.string bytes, d) => bytes.length + uptoBulk d + 1
  | (_, d) => uptoBulk d + 1
 end
def uptoSmall : (H : Type) → List (DataW H) → Bool := fun _ ds => decide (uptoBulkAll ds ≤ 1048576)
def OpenSpec.upto (s : _root_.Go.ChangeSpec) : _root_.Go.OpenSpec := { _root_.Go.OpenSpec.ofChange s with cond := some uptoSmall }

/-- 'laws.FnExactIsStore', WHERE WHAT IT READS IS OF BULK AT MOST 1048576: true; the input reads as it did. -/
def fnExactIsStoreUptoRow : OpenClaim := { program := "ytaekngiejehooaa", sum := "1b4b6eaa8ebd2eecb3a3fa1bed70296921f37fd9d933b24d64cc80115a1cd25b", func := "loop.example/g00917/laws.FnExactIsStore", spec := "fnExactIsStore", apart := false, narrowed := true }
def FnExactIsStoreUptoSaid : Prop := fnExactIsStoreUptoRow.holds Try.pinned (OpenSpec.upto fnExactIsStoreSpec)

/-- 'laws.FnExactAreOrders', WHERE WHAT IT READS IS OF BULK AT MOST 1048576: true; the input reads as it did. -/
def fnExactAreOrdersUptoRow : OpenClaim := { program := "ytaekngiejehooaa", sum := "1b4b6eaa8ebd2eecb3a3fa1bed70296921f37fd9d933b24d64cc80115a1cd25b", func := "loop.example/g00917/laws.FnExactAreOrders", spec := "fnExactAreOrders", unfollowed := true, recurses := true, apart := false, narrowed := true }
def FnExactAreOrdersUptoSaid : Prop := fnExactAreOrdersUptoRow.holds Try.pinned (OpenSpec.upto fnExactAreOrdersSpec)

/-- 'laws.FnExactCancelOrder', WHERE WHAT IT READS IS OF BULK AT MOST 1048576: true; the input reads as it did. -/
def fnExactCancelOrderUptoRow : OpenClaim := { program := "ytaekngiejehooaa", sum := "1b4b6eaa8ebd2eecb3a3fa1bed70296921f37fd9d933b24d64cc80115a1cd25b", func := "loop.example/g00917/laws.FnExactCancelOrder", spec := "fnExactCancelOrder", unfollowed := true, recurses := true, apart := false, narrowed := true }
def FnExactCancelOrderUptoSaid : Prop := fnExactCancelOrderUptoRow.holds Try.pinned (OpenSpec.upto fnExactCancelOrderSpec)

/-- 'laws.FnExactRaiseOrders', WHERE WHAT IT READS IS OF BULK AT MOST 1048576: true; the input reads as it did. -/
def fnExactRaiseOrdersUptoRow : OpenClaim := { program := "ytaekngiejehooaa", sum := "1b4b6eaa8ebd2eecb3a3fa1bed70296921f37fd9d933b24d64cc80115a1cd25b", func := "loop.example/g00917/laws.FnExactRaiseOrders", spec := "fnExactRaiseOrders", unfollowed := true, recurses := true, apart := false, narrowed := true }
def FnExactRaiseOrdersUptoSaid : Prop := fnExactRaiseOrdersUptoRow.holds Try.pinned (OpenSpec.upto fnExactRaiseOrdersSpec)

/-- 'laws.FnExactAddOrder', WHERE WHAT IT READS IS OF BULK AT MOST 1048576: true; the input reads as it did. -/
def fnExactAddOrderUptoRow : OpenClaim := { program := "ytaekngiejehooaa", sum := "1b4b6eaa8ebd2eecb3a3fa1bed70296921f37fd9d933b24d64cc80115a1cd25b", func := "loop.example/g00917/laws.FnExactAddOrder", spec := "fnExactAddOrder", unfollowed := true, recurses := true, apart := false, narrowed := true }
def FnExactAddOrderUptoSaid : Prop := fnExactAddOrderUptoRow.holds Try.pinned (OpenSpec.upto fnExactAddOrderSpec)

/-- 'laws.FnExactServingOrder', WHERE WHAT IT READS IS OF BULK AT MOST 1048576: true; the input reads as it did. -/
def fnExactServingOrderUptoRow : OpenClaim := { program := "ytaekngiejehooaa", sum := "1b4b6eaa8ebd2eecb3a3fa1bed70296921f37fd9d933b24d64cc80115a1cd25b", func := "loop.example/g00917/laws.FnExactServingOrder", spec := "fnExactServingOrder", unfollowed := true, recurses := true, apart := false, narrowed := true }
def FnExactServingOrderUptoSaid : Prop := fnExactServingOrderUptoRow.holds Try.pinned (OpenSpec.upto fnExactServingOrderSpec)

/-- 'laws.FnExactServeOrders', WHERE WHAT IT READS IS OF BULK AT MOST 1048576: true; the input reads as it did. -/
def fnExactServeOrdersUptoRow : OpenClaim := { program := "ytaekngiejehooaa", sum := "1b4b6eaa8ebd2eecb3a3fa1bed70296921f37fd9d933b24d64cc80115a1cd25b", func := "loop.example/g00917/laws.FnExactServeOrders", spec := "fnExactServeOrders", unfollowed := true, recurses := true, apart := false, narrowed := true }
def FnExactServeOrdersUptoSaid : Prop := fnExactServeOrdersUptoRow.holds Try.pinned (OpenSpec.upto fnExactServeOrdersSpec)

end Rows
end Go.Proofs.Ytaekngiejehooaa
