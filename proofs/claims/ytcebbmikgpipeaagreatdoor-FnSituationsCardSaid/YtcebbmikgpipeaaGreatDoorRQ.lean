/-
  strings.NewReplacer of three pairs, and its Replace, in plain words. Conditions: the text's length.
-/
import Derived.Test.YtcebbmikgpipeaaGreatDoorRO
import Derived.Maps.AppendAt
namespace Go.Proofs.YtcebbmikgpipeaaGreatDoor
open Go Go.RowKit
set_option maxRecDepth 100000
set_option maxHeartbeats 8000000

theorem do_first (gR ga ca : Nat) (w : World) (hne : ga ≠ gR) (h6 : Six w ga) (kR : Bk w gR 74 (RpC 0 0 .nilIface (.slice (some ⟨ga, 0, none⟩) 6 ca))) :
  Calls Tryz.prog 41 #[.pointer (some ⟨gR, 0, none⟩), .func (.func 42) #[.pointer (some ⟨gR, 0, none⟩)] #[]] w fun e w' => e = .returned (.tuple #[]) ∧ ∃ gb, RepB w' gb w.heap.size ∧ Bk w' gR 74 (RpC 1 0 (.iface 106 (.pointer (some ⟨gb, 0, none⟩))) (.slice none 0 0)) ∧ w.grownBy w' (some gR) := by
  have hl := run_call_load (P := Tryz.prog) Tryz.func60 (by kernel_rfl) (by kernel_rfl) (by kernel_rfl) .u32 (by kernel_rfl) (w := w) (a := ⟨gR, 0, none⟩) (x := 0) (kR.cell 0)
  have hnot : ∀ (x : Bool) (w : World), (Op.unary .not (.bool x)).run Tryz.prog w = .ok (.bool (!x)) w := fun _ _ => rfl
  have HS := Lib.hid (slow_is gR ga ca w hne h6 kR)
  clear h6 kR
  go_enter Tryz.func41, Tryz.ntmps41
  go_wp2_with (first | (go_at_call 50; refine HS.out.mono ?_; rintro e w2 ⟨rfl, hH⟩) | (go_at_call 49; go_in))
  go_end0
  exact ⟨rfl, hH⟩
theorem new_is (gs : Nat) (T : TypeId) (w : World) (kS : Bk w gs T [.string ⟨#[58]⟩, .string ⟨#[]⟩, .string ⟨#[44]⟩, .string ⟨#[]⟩, .string ⟨#[46]⟩, .string ⟨#[]⟩]) :
  Calls Tryz.prog 22 #[.slice (some ⟨gs, 0, none⟩) 6 6] w fun e w' => ∃ gR ga ca, e = .returned (.pointer (some ⟨gR, 0, none⟩)) ∧ ga ≠ gR ∧ Six w' ga ∧ Bk w' gR 74 (RpC 0 0 .nilIface (.slice (some ⟨ga, 0, none⟩) 6 ca)) ∧ w.heap.size ≤ gR ∧ Below w.heap.size w w' := by
  obtain ⟨i0, hi0, hz0, hz1, hz2⟩ := info_parts (show (Tryz.prog.info? 9).map (fun i => (i.zero, i.size, i.bytes)) = some (some (.string ByteArray.empty), 1, 16) from by kernel_rfl)
  go_enter Tryz.func22, Tryz.ntmps22
  go_upto_region 3 with fail
  go_wp2_with (at_builtin; refine wpList_append_own _ rfl (.const (.slice none 0 0)) (.tmp 8) 35 rfl w.heap.size 9 i0 (.string ByteArray.empty) 1 16 Tryz.underlying35 hi0 hz0 hz1 hz2 rfl (by decide) _ _ _ rfl (World.ownsRow_nil w w.heap.size 9 1) ⟨gs, 0, none⟩ 6 6 [.string ⟨#[58]⟩, .string ⟨#[]⟩, .string ⟨#[44]⟩, .string ⟨#[]⟩, .string ⟨#[46]⟩, .string ⟨#[]⟩] rfl rfl ?c1 ?c2 ?c3 ?c4 ?c5 ?_)
  case c1 => (intro j u hu; rw [← hu, show (⟨gs, 0, none⟩ : Addr).add j = ⟨gs, j, none⟩ by unfold Addr.add; split <;> simp_all]; exact kS.cell j)
  case c2 => (intro u hu; simp only [List.mem_cons, List.not_mem_nil, or_false] at hu; rcases hu with rfl | rfl | rfl | rfl | rfl | rfl <;> rfl)
  case c3 => (unfold maxLen; omega)
  case c4 => omega
  case c5 => exact Nat.le_refl _
  intro v' w9 hown hgr hnn
  have b9 : Below w.heap.size w w9 := own_grownBy (World.ownsRow_nil w w.heap.size 9 1) (Below.refl _ _) hgr (Nat.le_refl _) (Nat.le_refl _)
  rcases own_bk hown with ⟨hv, h0⟩ | ⟨ga, ca, cs, rfl, hga, kA, hnc, hcm, hcl, hct⟩
  · omega
  have hcell : ∀ j, j < 6 → w9.cell? ⟨ga, j, none⟩ = [Value.string ⟨#[58]⟩, .string ⟨#[]⟩, .string ⟨#[44]⟩, .string ⟨#[]⟩, .string ⟨#[46]⟩, .string ⟨#[]⟩][j]? := fun j hj => by
    have e : cs.take 6 = [Value.string ⟨#[58]⟩, .string ⟨#[]⟩, .string ⟨#[44]⟩, .string ⟨#[]⟩, .string ⟨#[46]⟩, .string ⟨#[]⟩] := hct
    rw [kA.cell, ← e, List.getElem?_take, if_pos hj]
  have h6 : Six w9 ga := ⟨kA.lt, hcell 0 (by omega), hcell 1 (by omega), hcell 2 (by omega), hcell 3 (by omega), hcell 4 (by omega), hcell 5 (by omega)⟩
  clear hcell hown hgr hnn hcl hct
  go_wp2
  go_returns
  have hl := kA.lt
  exact ⟨w9.heap.size, ga, ca, rfl, by omega, h6.keep (by simp) (Below.heap_alloc w9 _ ga hl), Bk.new _ _ _, b9.size, balloc b9 _⟩
theorem replace3_is {s : ByteArray} (gR ga ca : Nat) (hs : s.size ≤ 1048576) (w : World) (hne : ga ≠ gR) (h6 : Six w ga) (kR : Bk w gR 74 (RpC 0 0 .nilIface (.slice (some ⟨ga, 0, none⟩) 6 ca))) :
  Calls Tryz.prog 23 #[.pointer (some ⟨gR, 0, none⟩), .string s] w fun e w' => e = .returned (.string (mkB (dr3 s.data.toList))) ∧ w.grownBy w' (some gR) := by
  have HD := Lib.hid (do_first gR ga ca w hne h6 kR)
  have HP := Lib.hid (fun W gb lo (h : RepB W gb lo) => bsReplace_is (s := s) hs W h)
  have hmf : ∀ (fn : Fn) (first cap : Array Value) (w : World), (Instr.makeFunc fn first cap).run Tryz.prog w = .ok (.func fn first cap) w := fun _ _ _ _ => rfl
  clear h6 kR
  go_enter Tryz.func23, Tryz.ntmps23
  go_upto_region 2 with (go_at_call 41; refine HD.out.mono ?_; rintro e w2 ⟨rfl, gb, hRB, k2, hg2⟩)
  have r3 : w2.cell? ⟨gR, 3, none⟩ = some (.iface 106 (.pointer (some ⟨gb, 0, none⟩))) := k2.cell 3
  go_wp2_with (go_at_call 153; refine (HP.out _ _ _ hRB).mono ?_; rintro e w3 ⟨rfl, b3⟩)
  go_returns
  exact ⟨rfl, hg2.trans (grown_below b3)⟩
end Go.Proofs.YtcebbmikgpipeaaGreatDoor
