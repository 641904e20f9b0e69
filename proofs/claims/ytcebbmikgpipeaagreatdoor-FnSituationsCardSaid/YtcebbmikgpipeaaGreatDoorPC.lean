/-
  strings.Split at one byte, in plain words. Conditions: the text's length; what the library's variables hold.
-/
import Derived.Test.YtcebbmikgpipeaaGreatDoorPN
import Derived.Test.YtcebbmikgpipeaaGreatDoorSI
namespace Go.Proofs.YtcebbmikgpipeaaGreatDoor
open Go Go.RowKit
set_option maxRecDepth 100000
set_option maxHeartbeats 4000000

theorem split_is {s : ByteArray} {L : List ByteArray} (hL : spB 32 s = L) (hs : s.size ≤ 1048576) (w : World) (hE : Ev w) : Calls Tryz.prog 21 #[.string s, .string ⟨#[32]⟩] w fun e w' => ∃ A c, e = .returned (.slice A L.length c) ∧ Rd w' 1 A L.length (strs L) ∧ Below w.heap.size w w' := by
  obtain ⟨m, hm⟩ := hE.mx
  have h := Any.strings_Split { splitLays with } splitLays.i9 s (mkB [32]) m w (by omega) hm (by decide)
  have hl := spB_length 32 s
  rw [hL] at hl
  rw [splitB_one, hL] at h
  refine h.mono ?_
  rintro e w' ⟨rfl, rfl⟩
  rw [← hl]
  refine ⟨_, _, rfl, ?_, by (repeat' (first | (with_reducible exact Below.refl _ _) | (with_reducible assumption) | (with_reducible refine balloc ?_ _) | (with_reducible refine bdrew ?_) | (with_reducible refine bdrewN ?_ _) | (with_reducible refine bstep ?_ (by assumption)) | (with_reducible refine bset ?_ ?_ _) | (exact Below.size (by assumption)) | go_size))⟩
  refine ⟨by simp [strs], fun _ => ⟨w.heap.size, 0, rfl, by simp, fun j u hu => ?_⟩⟩
  rw [Nat.zero_add]
  have hB := Bk.new w (splitLays_ren.t 9) (strs L)
  exact (hB.cell j).trans hu
end Go.Proofs.YtcebbmikgpipeaaGreatDoor
