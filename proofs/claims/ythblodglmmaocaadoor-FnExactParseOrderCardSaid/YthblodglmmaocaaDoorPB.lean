/-
  strings.ReplaceAll of one byte by nothing, in plain words; four numbers of eight words. Conditions: the text's length; what the library's variables hold.
-/
import Derived.Test.YthblodglmmaocaaDoorPC
import Derived.Test.YthblodglmmaocaaDoorSJ
import Derived.Test.YthblodglmmaocaaDoorPO
namespace Go.Proofs.YthblodglmmaocaaDoor
open Go Go.RowKit
set_option maxRecDepth 100000
set_option maxHeartbeats 4000000

theorem replX : Builder.Extra Tryd.prog replLays_ren where
  sizeBuilder := by kernel_rfl
  liesBuilder := by kernel_rfl
  t5 := by kernel_rfl
  a5 := fun _ => by kernel_rfl
  z5 := fun _ => by kernel_rfl
  v5 := fun _ => by kernel_rfl
  infoByte := by kernel_rfl
  cellsByte := by kernel_rfl
  sizeByte := by kernel_rfl
  neB5 := by decide
theorem repl_is {s r : ByteArray} (hr : drB 58 s = r) (hs : s.size ≤ 1048576) (w : World) (hE : Ev w) : Calls Tryd.prog 12 #[.string s, .string ⟨#[58]⟩, .string ⟨#[]⟩] w fun e w' => e = .returned (.string r) ∧ Below w.heap.size w w' := by
  obtain ⟨m, hm⟩ := hE.mx
  have h := Any.strings_ReplaceAll { replLays with } replX s (mkB [58]) ⟨#[]⟩ m w (by omega) hm (by decide) (by show s.size + Lib.countB s (mkB [58]) * 0 ≤ _; omega)
  refine h.mono ?_
  rintro e w' ⟨rfl, hb⟩
  exact ⟨by rw [← hr, ← replaceAll_one]; rfl, hb⟩
theorem numbers4_is {x0 x1 x2 x3 x4 x5 x6 x7 : ByteArray} {v1 v2 v5 v7 : Int} {A : Option Addr} {c g : Nat} {T : TypeId} (h1 : piV x1 = v1) (h2 : piV x2 = v2) (h5 : piV x5 = v5) (h7 : piV x7 = v7) (hsz : ∀ x ∈ [x0, x1, x2, x3, x4, x5, x6, x7], x.size ≤ 1048576) (w : World) (hE : Ev w)
    (hR : Rd w 1 A 8 (strs [x0, x1, x2, x3, x4, x5, x6, x7])) (hP : Bk w g T [.int .i64 1, .int .i64 2, .int .i64 5, .int .i64 7]) :
    Calls Tryd.prog 13 #[.slice A 8 c, .slice (some ⟨g, 0, none⟩) 4 4] w fun e w' => ∃ b o c', e = .returned (.slice (some ⟨b, o, none⟩) 4 c') ∧ (w'.cell? ⟨b, o, none⟩ = some (.int .i64 v1) ∧ w'.cell? ⟨b, o + 1, none⟩ = some (.int .i64 v2) ∧ w'.cell? ⟨b, o + 2, none⟩ = some (.int .i64 v5) ∧ w'.cell? ⟨b, o + 3, none⟩ = some (.int .i64 v7)) ∧ b < w'.heap.size ∧ Below w.heap.size w w' := by
  have h := numbersIn_is (L := [x0, x1, x2, x3, x4, x5, x6, x7]) (ps := [1, 2, 5, 7]) (A := A) (Ap := some ⟨g, 0, none⟩) (c := c) (cp := 4) (by simp) hsz (by decide) (by decide) w hE hR (hP.rd (by rfl))
  refine h.mono ?_
  rintro e w' ⟨v, rfl, hO, hb⟩
  obtain ⟨A', c', rfl, hR', _⟩ := own_rd hO
  obtain ⟨b, o, rfl, hlt, hc⟩ := hR'.2 (by decide)
  have e1 : piG [x0, x1, x2, x3, x4, x5, x6, x7] 1 = v1 := h1
  have e2 : piG [x0, x1, x2, x3, x4, x5, x6, x7] 2 = v2 := h2
  have e5 : piG [x0, x1, x2, x3, x4, x5, x6, x7] 5 = v5 := h5
  have e7 : piG [x0, x1, x2, x3, x4, x5, x6, x7] 7 = v7 := h7
  simp only [List.map_cons, List.map_nil, e1, e2, e5, e7] at hc
  exact ⟨b, o, c', rfl, ⟨hc 0 _ rfl, hc 1 _ rfl, hc 2 _ rfl, hc 3 _ rfl⟩, hlt, hb⟩
end Go.Proofs.YthblodglmmaocaaDoor
