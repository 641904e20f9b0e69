/-
  sync.Once over the Replacer: the lock, the two calls that doSlow defers. Conditions: the lock is free; the call has not been made.
-/
import Derived.Test.YtcebbmikgpipeaaGreatDoorRD
import Derived.Defers
import Derived.Laws.Pointers
import Derived.Laws.LoneSync
import Derived.RegionTactic
import Derived.RegionCalls
import Derived.ChangeAlike
namespace Go.Proofs.YtcebbmikgpipeaaGreatDoor
open Go Go.RowKit
set_option maxRecDepth 100000
set_option maxHeartbeats 8000000

theorem disable (w : World) : (callFunc 91 #[]).run Tryz.prog w = .ok (.value (.tuple #[])) w := run_call_mark0 Tryz.func91 (by kernel_rfl) (by kernel_rfl) (by kernel_rfl) .disable (by kernel_rfl) w
theorem enable (w : World) : (callFunc 93 #[]).run Tryz.prog w = .ok (.value (.tuple #[])) w := run_call_mark0 Tryz.func93 (by kernel_rfl) (by kernel_rfl) (by kernel_rfl) .enable (by kernel_rfl) w
theorem acquire (a : Addr) (w : World) : (callFunc 94 #[.pointer (some a)]).run Tryz.prog w = .ok (.value (.tuple #[])) w := run_call_marked Tryz.func94 (by kernel_rfl) (by kernel_rfl) (by kernel_rfl) .acquire (by kernel_rfl) a w
theorem releaseMerge (a : Addr) (w : World) : (callFunc 96 #[.pointer (some a)]).run Tryz.prog w = .ok (.value (.tuple #[])) w := run_call_marked Tryz.func96 (by kernel_rfl) (by kernel_rfl) (by kernel_rfl) .releaseMerge (by kernel_rfl) a w
theorem store_deferred (a : Addr) (x : Value) (u : FrameMode) (w : World) (hc : w.cell? a = some x) (hz : w.frozen? a = false) :
    CallsD Tryz.prog 63 #[.pointer (some a), .bool true] u w fun e u' w' => u' = u ∧ (e = .returned (.tuple #[]) ∧ w' = w.drew.setCell a (.int .u32 1)) := by
  have hc' : w.drew.cell? a = some x := by go_simp
  have hz' : w.drew.frozen? a = false := by go_simp
  have hst := run_call_store (P := Tryz.prog) Tryz.func76 (by kernel_rfl) (by kernel_rfl) (by kernel_rfl) (by kernel_rfl) (k := .u32) (y := 1) hc' hz'
  go_enter_d Tryz.func63, Tryz.ntmps63
  go_wp2
  go_region_calls
  all_goals (go_end0; exact ⟨rfl, rfl⟩)
theorem unlock_deferred (a : Addr) (u : FrameMode) (w : World) (hc : w.cell? a = some (.int .i32 1)) (hz : w.frozen? a = false) :
    CallsD Tryz.prog 62 #[.pointer (some a)] u w fun e u' w' => u' = u ∧ (e = .returned (.tuple #[]) ∧ w' = w.setCell a (.int .i32 0)) := by
  have hd := disable
  have he := enable
  have hr := releaseMerge
  have hadd := run_call_add (P := Tryz.prog) Tryz.func97 (by kernel_rfl) (by kernel_rfl) (by kernel_rfl) .i32 (by kernel_rfl) (y := -1) (s := 0) hc hz (by simp [go_sem]; rfl)
  have hcv := run_convert_to_unsafe (P := Tryz.prog) (src := 140) (dst := 144) Tryz.underlying140 Tryz.underlying144 (by kernel_rfl) hc
  go_enter_d Tryz.func62, Tryz.ntmps62
  go_wp2
  go_end0
  go_wp2
theorem lock_free (a : Addr) (w : World) (hc : w.cell? a = some (.int .i32 0)) (hz : w.frozen? a = false) :
    Calls Tryz.prog 61 #[.pointer (some a)] w fun e w' => e = .returned (.tuple #[]) ∧ w' = w.setCell a (.int .i32 1) := by
  have hd := disable
  have he := enable
  have ha := acquire
  have hcas := run_call_cas_hit (P := Tryz.prog) Tryz.func92 (by kernel_rfl) (by kernel_rfl) (by kernel_rfl) .i32 (by kernel_rfl) (y := 1) hc hz
  have hc' : (w.setCell a (.int .i32 1)).cell? a = some (.int .i32 1) := World.cell?_setCell_same w a _ hc
  have hcv := run_convert_to_unsafe (P := Tryz.prog) (src := 140) (dst := 144) Tryz.underlying140 Tryz.underlying144 (by kernel_rfl) hc'
  go_enter Tryz.func61, Tryz.ntmps61
  go_wp2
  first | go_end0 | (simp only [Exit.inBlock, Exit.then]; refine bodyPost_ret (results_none rfl _ _ _) rfl ?_) | refine bodyPost_ret (results_none rfl _ _ _) rfl ?_
  go_wp2
theorem gr_set {w W : World} {g o : Nat} {u : Value} (h : w.grownBy W (some g)) : w.grownBy (W.setCell ⟨g, o, none⟩ u) (some g) :=
  ⟨h.os, h.tape, h.output, by simpa using h.size, fun i hi hne => (Below.heap_setCell W ⟨g, o, none⟩ u i (fun e => hne (by rw [e]))).trans (h.block i hi hne)⟩
theorem grown_drew2 {w W : World} {row : Option Nat} (h : w.grownBy W row) : w.grownBy W.drew row := ⟨h.os, h.tape, h.output, h.size, h.block⟩
theorem grown_below {w w' : World} {row : Option Nat} (h : Below w.heap.size w w') : w.grownBy w' row := ⟨h.os, h.tape, h.output, h.size, fun i hi _ => h.block i hi⟩
/-- what the Replacer holds: once's word, the lock, the algorithm, the pairs -/
def RpC (d m : Int) (r o : Value) : List Value := [.int .u32 d, .int .i32 m, .int .u32 0, r, o]
theorem buildOnce_is (gR ga ca : Nat) (d m : Int) (w : World) (hga : ga < w.heap.size) (kR : Bk w gR 74 (RpC d m .nilIface (.slice (some ⟨ga, 0, none⟩) 6 ca)))
  (c0 : w.cell? ⟨ga, 0, none⟩ = some (.string ⟨#[58]⟩)) (c1 : w.cell? ⟨ga, 1, none⟩ = some (.string ⟨#[]⟩)) (c2 : w.cell? ⟨ga, 2, none⟩ = some (.string ⟨#[44]⟩)) (c3 : w.cell? ⟨ga, 3, none⟩ = some (.string ⟨#[]⟩)) (c4 : w.cell? ⟨ga, 4, none⟩ = some (.string ⟨#[46]⟩)) (c5 : w.cell? ⟨ga, 5, none⟩ = some (.string ⟨#[]⟩)) :
  Calls Tryz.prog 42 #[.pointer (some ⟨gR, 0, none⟩)] w fun e w' => e = .returned (.tuple #[]) ∧ ∃ gb, RepB w' gb w.heap.size ∧ Bk w' gR 74 (RpC d m (.iface 106 (.pointer (some ⟨gb, 0, none⟩))) (.slice none 0 0)) ∧ w.grownBy w' (some gR) := by
  have h0 : w.cell? ⟨gR, 4, none⟩ = some (.slice (some ⟨ga, 0, none⟩) 6 ca) := kR.cell 4
  have HB := Lib.hid (build_is gR ga w hga ca h0 c0 c1 c2 c3 c4 c5)
  clear h0 c0 c1 c2 c3 c4 c5
  go_enter Tryz.func42, Tryz.ntmps42
  go_wp2_with (go_at_call 51; refine HB.out.mono ?_; rintro e w1 ⟨gb, rfl, hRB, b1⟩; have k1 := kR.below b1 kR.lt; have r3 : w1.cell? ⟨gR, 3, none⟩ = some .nilIface := k1.cell 3; have r4 : w1.cell? ⟨gR, 4, none⟩ = some (.slice (some ⟨ga, 0, none⟩) 6 ca) := k1.cell 4; have f3 := k1.frozen 3; have f4 := k1.frozen 4; have l1 := k1.lt)
  go_end0
  exact ⟨rfl, gb, (hRB.far kR.lt _).far kR.lt _, (k1.set_ 3 _).set_ 4 _, gr_set (gr_set (grown_below b1))⟩
/-- what the row of pairs holds -/
structure Six (w : World) (ga : Nat) : Prop where
  lt : ga < w.heap.size
  c0 : w.cell? ⟨ga, 0, none⟩ = some (.string ⟨#[58]⟩)
  c1 : w.cell? ⟨ga, 1, none⟩ = some (.string ⟨#[]⟩)
  c2 : w.cell? ⟨ga, 2, none⟩ = some (.string ⟨#[44]⟩)
  c3 : w.cell? ⟨ga, 3, none⟩ = some (.string ⟨#[]⟩)
  c4 : w.cell? ⟨ga, 4, none⟩ = some (.string ⟨#[46]⟩)
  c5 : w.cell? ⟨ga, 5, none⟩ = some (.string ⟨#[]⟩)
theorem Six.keep {w w' : World} {ga : Nat} (h : Six w ga) (hs : w.heap.size ≤ w'.heap.size) (hk : w'.heap[ga]? = w.heap[ga]?) : Six w' ga :=
  have e := fun o => World.cell?_of_block (w := w) (w' := w') (a := ⟨ga, o, none⟩) hk
  ⟨Nat.lt_of_lt_of_le h.lt hs, (e 0).trans h.c0, (e 1).trans h.c1, (e 2).trans h.c2, (e 3).trans h.c3, (e 4).trans h.c4, (e 5).trans h.c5⟩
theorem slow_is (gR ga ca : Nat) (w : World) (hne : ga ≠ gR) (h6 : Six w ga) (kR : Bk w gR 74 (RpC 0 0 .nilIface (.slice (some ⟨ga, 0, none⟩) 6 ca))) :
  Calls Tryz.prog 50 #[.pointer (some ⟨gR, 0, none⟩), .func (.func 42) #[.pointer (some ⟨gR, 0, none⟩)] #[]] w fun e w' => e = .returned (.tuple #[]) ∧ ∃ gb, RepB w' gb w.heap.size ∧ Bk w' gR 74 (RpC 1 0 (.iface 106 (.pointer (some ⟨gb, 0, none⟩))) (.slice none 0 0)) ∧ w.grownBy w' (some gR) := by
  have w0 : w.cell? ⟨gR, 0, none⟩ = some (.int .u32 0) := kR.cell 0
  have w1 : w.cell? ⟨gR, 1, none⟩ = some (.int .i32 0) := kR.cell 1
  have z1 := kR.frozen 1
  have k1 := kR.set_ 1 (.int .i32 1)
  have k1 : Bk (w.setCell ⟨gR, 1, none⟩ (.int .i32 1)) gR 74 (RpC 0 1 .nilIface (.slice (some ⟨ga, 0, none⟩) 6 ca)) := k1
  have h61 : Six (w.setCell ⟨gR, 1, none⟩ (.int .i32 1)) ga := h6.keep (by simp) (Below.heap_setCell w _ _ ga hne)
  have kRl := kR.lt
  have hg1 : w.grownBy (w.setCell ⟨gR, 1, none⟩ (.int .i32 1)) (some gR) := gr_set (World.grownBy.refl w _)
  have hs1 : (w.setCell ⟨gR, 1, none⟩ (.int .i32 1)).heap.size = w.heap.size := by simp
  obtain ⟨W, hW⟩ : ∃ W, w.setCell ⟨gR, 1, none⟩ (.int .i32 1) = W := ⟨_, rfl⟩
  have hlk := lock_free ⟨gR, 1, none⟩ w w1 z1
  rw [hW] at k1 h61 hg1 hs1 hlk
  have hl := run_call_load (P := Tryz.prog) Tryz.func60 (by kernel_rfl) (by kernel_rfl) (by kernel_rfl) .u32 (by kernel_rfl) (w := W) (a := ⟨gR, 0, none⟩) (x := 0) (k1.cell 0)
  have hbo := buildOnce_is gR ga ca 0 1 W h61.lt k1 h61.c0 h61.c1 h61.c2 h61.c3 h61.c4 h61.c5
  have hnot : ∀ (x : Bool) (w : World), (Op.unary .not (.bool x)).run Tryz.prog w = .ok (.bool (!x)) w := fun _ _ => rfl
  clear hW h6 h61 k1 kR w0 w1 z1
  go_enter_defers Tryz.func50, Tryz.ntmps50
  go_wp2_with (go_at_call 61; refine hlk.mono ?_; rintro e w' ⟨rfl, rfl⟩)
  go_wp2_with (first | (go_at_call 42; refine hbo.mono ?_; rintro e w2 ⟨rfl, gb, hRB, k2, hg2⟩) | (go_at_call 49; go_in))
  have d0 : w2.cell? ⟨gR, 0, none⟩ = some (.int .u32 0) := k2.cell 0
  have z0 := k2.frozen 0
  have d1 : w2.cell? ⟨gR, 1, none⟩ = some (.int .i32 1) := k2.cell 1
  have z1 := k2.frozen 1
  go_wp2
  refine leaves_cons (f := 63) (args := #[.pointer (some ⟨gR, 0, none⟩), .bool true]) (by simp) (by simp [go_sem]) ?_
  refine (store_deferred ⟨gR, 0, none⟩ (.int .u32 0) .returning _ d0 z0).mono ?_
  rintro e u' w'' ⟨rfl, rfl, rfl⟩
  refine leaves_cons (f := 62) (args := #[.pointer (some ⟨gR, 1, none⟩)]) (by simp [settle]) (by simp [go_sem]) ?_
  refine (unlock_deferred ⟨gR, 1, none⟩ _ _ ?_ (by simp [z1])).mono ?_
  · refine (World.cell?_setCell_other _ ⟨gR, 0, none⟩ ⟨gR, 1, none⟩ _ (by simp)).trans ?_
    rw [World.cell?_drew]
    exact d1
  rintro e u' w'' ⟨rfl, rfl, rfl⟩
  have hR9 : RepB ((w2.drew.setCell ⟨gR, 0, none⟩ (.int .u32 1)).setCell ⟨gR, 1, none⟩ (.int .i32 0)) gb w.heap.size := by
    rw [hs1] at hRB
    have hRd : RepB w2.drew gb w.heap.size := hRB.keep (Nat.le_refl _) (fun _ _ _ => rfl)
    exact (hRd.far kRl _).far kRl _
  have k9 := (k2.drew.set_ 0 (.int .u32 1)).set_ 1 (.int .i32 0)
  have g9 : w.grownBy ((w2.drew.setCell ⟨gR, 0, none⟩ (.int .u32 1)).setCell ⟨gR, 1, none⟩ (.int .i32 0)) (some gR) := gr_set (gr_set (grown_drew2 (hg1.trans hg2)))
  simp [Leaves, settle, results, Tryz.results50]
  exact ⟨gb, hR9, k9, g9⟩
end Go.Proofs.YtcebbmikgpipeaaGreatDoor
