/-
  AddReport of the program and of the reference. Conditions: lengths within the bound of a slice.
-/
import Derived.Test.YtjffhacoijmgiaaX
import Derived.Test.YtjffhacoijmgiaaY
import Derived.Test.YtjffhacoijmgiaaP
namespace Go.Proofs.Ytjffhacoijmgiaa
open Go.RowKit
set_option maxHeartbeats 1000000

theorem sit_one (zs : List SituationT) : ∀ u ∈ sitF zs, u.oneCell' = true := by
  intro u hu
  simp only [sitF, List.mem_flatMap, sitE] at hu
  obtain ⟨a, _, h⟩ := hu
  simp at h
  rcases h with h | h | h | h | h | h <;> subst h <;> rfl
/-- the series with the report, where it is one -/
noncomputable def addR (zs : List SituationT) (a : SituationT) : Bool := seriesB zs && seriesB (zs ++ [a])
noncomputable def addL (zs : List SituationT) (a : SituationT) : List SituationT := if addR zs a = true then zs ++ [a] else []
theorem sitF_add (zs : List SituationT) (a : SituationT) : sitF (zs ++ [a]) = sitF zs ++ sitE a := by simp [sitF]

theorem six_cells {w : World} {g : Nat} {t : TypeId} {v0 v1 v2 v3 v4 v5 : Value} (h : Bk w g t [v0, v1, v2, v3, v4, v5]) : w.cell? ⟨g, 0, none⟩ = some v0 ∧ w.cell? ⟨g, 1, none⟩ = some v1 ∧ w.cell? ⟨g, 2, none⟩ = some v2 ∧ w.cell? ⟨g, 3, none⟩ = some v3 ∧ w.cell? ⟨g, 4, none⟩ = some v4 ∧ w.cell? ⟨g, 5, none⟩ = some v5 :=
  ⟨h.cell 0, h.cell 1, h.cell 2, h.cell 3, h.cell 4, h.cell 5⟩

theorem sAddReport_is_rd {q : Bool} {L : List SituationT} {g n c : Nat} {zs : List SituationT} {a0 a1 a2 a3 a4 a5 : Int} (hq : addR zs (a0, a1, a2, a3, a4, a5) = q) (hL : addL zs (a0, a1, a2, a3, a4, a5) = L) (w : World) (hr : Rd w 6 (some ⟨g, 0, none⟩) n (sitF zs)) (_hlt : g < w.heap.size) (hl : zs.length = n) (hn : n ≤ 1048577) :
    Calls Try.prog 7 #[.slice (some ⟨g, 0, none⟩) n c, .agg #[.int .i64 a0, .int .i64 a1, .int .i64 a2, .int .i64 a3, .int .i64 a4, .int .i64 a5]] w fun e w' => ∃ v, e = .returned (.tuple #[v, .bool q]) ∧ w'.ownsRow w.heap.size 26 6 v L.length (sitF L) ∧ Below w.heap.size w w' := by
  obtain ⟨i0, hi0, hz0, hz1, hz2⟩ := info_parts (show (Try.prog.info? 26).map (fun i => (i.zero, i.size, i.bytes)) = some (some (.agg #[.int .i64 0, .int .i64 0, .int .i64 0, .int .i64 0, .int .i64 0, .int .i64 0]), 6, 48) from by kernel_rfl)
  go_enter Try.func7, Try.ntmps7
  go_upto_region 1 with fail
  go_cut [6] (fun s6 wx => wx.ownsRow w.heap.size 26 6 s6 (n + 1) (sitF (zs ++ [(a0, a1, a2, a3, a4, a5)])) ∧ Below w.heap.size w wx)
  case first =>
    go_region_law (first
      | (refine step_append_lit (by rfl) (.tmp 7) (.tmp 8) 24 (by rfl) w.heap.size 26 i0 _ 6 48 Try.underlying24 hi0 hz0 hz1 hz2 (by rfl) (by decide) (by rfl) (by first | exact own_drew (own_lit' (by first | (simp; done) | (simp; omega)) (by first | (simp; done) | (simp; omega))) | exact own_drew (own_alloc (own_lit' (by first | (simp; done) | (simp; omega)) (by first | (simp; done) | (simp; omega))) _) | exact own_lit' (by first | (simp; done) | (simp; omega)) (by first | (simp; done) | (simp; omega))) ⟨g, 0, none⟩ n c (sitF zs) (by rfl) (hr.below (by (repeat' (first | (with_reducible exact Below.refl _ _) | (with_reducible assumption) | (with_reducible refine balloc ?_ _) | (with_reducible refine bdrew ?_) | (with_reducible refine bdrewN ?_ _) | (with_reducible refine bstep ?_ (by assumption)) | (with_reducible refine bset ?_ ?_ _) | (exact Below.size (by assumption)) | go_size)))) (sit_one zs) (by unfold maxLen; omega) (by omega) (by simp; omega) ?_; intro v1 w1 hown1 hgr1; have b1 : Below w.heap.size w w1 := Below.grown (by (repeat' (first | (with_reducible exact Below.refl _ _) | (with_reducible assumption) | (with_reducible refine balloc ?_ _) | (with_reducible refine bdrew ?_) | (with_reducible refine bdrewN ?_ _) | (with_reducible refine bstep ?_ (by assumption)) | (with_reducible refine bset ?_ ?_ _) | (exact Below.size (by assumption)) | go_size))) hgr1 (by simp; omega) (fun k e => by cases e; first | omega | (simp; omega) | (simp; done)); obtain ⟨k0, k1, k2, k3, k4, k5⟩ := six_cells (show Bk w1 w.heap.size 26 [.int .i64 a0, .int .i64 a1, .int .i64 a2, .int .i64 a3, .int .i64 a4, .int .i64 a5] from (by first | exact Bk.grown (Bk.drew (Bk.alloc (Bk.new' rfl) _)) hgr1 (by first | (simp; done) | (simp; omega)) | exact Bk.grown (Bk.drew (Bk.alloc (Bk.alloc (Bk.new' rfl) _) _)) hgr1 (by first | (simp; done) | (simp; omega)))))
      | (refine step_append_rd (by rfl) (.tmp 9) (.tmp 11) 24 (by rfl) w.heap.size 26 i0 _ 6 48 Try.underlying24 hi0 hz0 hz1 hz2 (by rfl) (by decide) v1 n (sitF zs) (by rfl) (by first | exact hown1 | exact own_drew hown1 | exact own_alloc hown1 _ | exact own_drew (own_alloc hown1 _)) ⟨_, 0, none⟩ 1 1 (sitE (a0, a1, a2, a3, a4, a5)) (by rfl) (by first | exact Bk.rd (Bk.drew (Bk.new' (by first | (simp; done) | (simp; omega)))) rfl | exact Bk.rd (Bk.new' (by first | (simp; done) | (simp; omega))) rfl | exact Bk.rd (Bk.grown (Bk.drew (Bk.new' (by first | (simp; done) | (simp; omega)))) hgr1 (by first | (simp; done) | (simp; omega))) rfl | exact Bk.rd (Bk.grown (Bk.drew (Bk.alloc (Bk.new' (by first | (simp; done) | (simp; omega))) _)) hgr1 (by first | (simp; done) | (simp; omega))) rfl) (by intro u hu; exact sit_one [_] u (by simpa [sitF] using hu)) (by unfold maxLen; omega) (by omega) (by have := hgr1.size; simp at this ⊢; omega) ?_; intro v2 w2 hown2 hgr2; have b2 : Below w.heap.size w w2 := own_grownBy (by first | exact hown1 | exact own_drew hown1 | exact own_alloc hown1 _ | exact own_drew (own_alloc hown1 _)) (by (repeat' (first | (with_reducible exact Below.refl _ _) | (with_reducible assumption) | (with_reducible refine balloc ?_ _) | (with_reducible refine bdrew ?_) | (with_reducible refine bdrewN ?_ _) | (with_reducible refine bstep ?_ (by assumption)) | (with_reducible refine bset ?_ ?_ _) | (exact Below.size (by assumption)) | go_size))) hgr2 (Nat.le_refl _) (by have := b1.size; simp; omega)))
    all_goals (go_wp2_with fail; go_meet; exact ⟨by rw [sitF_add]; exact hown2, b2⟩)
  case rest =>
    obtain ⟨hown, hW⟩ := hcut
    obtain ⟨A', c', rfl, hr', _⟩ := own_rd hown
    rcases hv : seriesB zs with _ | _
    · have e1 : addR zs (a0, a1, a2, a3, a4, a5) = false := by simp [addR, hv]
      have e2 : addL zs (a0, a1, a2, a3, a4, a5) = [] := by simp [addL, e1]
      obtain rfl := e1.symm.trans hq
      obtain rfl := e2.symm.trans hL
      clear e1 e2 hq hL
      go_wp2_with fail
      refine (l18Good_is false hv _ (hr.below hW) hl (by omega)).mono ?_
      rintro e w1 ⟨rfl, b1⟩
      have b1 := bstep hW b1
      go_wp2
      go_returns
      exact ⟨_, rfl, own_lit' rfl b1.size, by (repeat' (first | (with_reducible exact Below.refl _ _) | (with_reducible assumption) | (with_reducible refine balloc ?_ _) | (with_reducible refine bdrew ?_) | (with_reducible refine bdrewN ?_ _) | (with_reducible refine bstep ?_ (by assumption)) | (with_reducible refine bset ?_ ?_ _) | (exact Below.size (by assumption)) | go_size))⟩
    · go_wp2_with fail
      refine (l18Good_is true hv _ (hr.below hW) hl (by omega)).mono ?_
      rintro e w1 ⟨rfl, b1⟩
      have hr1 := hr'.below b1
      have hown1 := own_below hown b1
      have b1 := bstep hW b1
      rcases hv2 : seriesB (zs ++ [(a0, a1, a2, a3, a4, a5)]) with _ | _
      · have e1 : addR zs (a0, a1, a2, a3, a4, a5) = false := by simp [addR, hv, hv2]
        have e2 : addL zs (a0, a1, a2, a3, a4, a5) = [] := by simp [addL, e1]
        obtain rfl := e1.symm.trans hq
        obtain rfl := e2.symm.trans hL
        clear e1 e2 hq hL
        go_wp2_with fail
        refine (l18Good_is false hv2 _ hr1 (by simp [hl]) (by omega)).mono ?_
        rintro e w2 ⟨rfl, b2⟩
        have b2 := bstep b1 b2
        go_wp2
        go_returns
        exact ⟨_, rfl, own_lit' rfl b2.size, by (repeat' (first | (with_reducible exact Below.refl _ _) | (with_reducible assumption) | (with_reducible refine balloc ?_ _) | (with_reducible refine bdrew ?_) | (with_reducible refine bdrewN ?_ _) | (with_reducible refine bstep ?_ (by assumption)) | (with_reducible refine bset ?_ ?_ _) | (exact Below.size (by assumption)) | go_size))⟩
      · have e1 : addR zs (a0, a1, a2, a3, a4, a5) = true := by simp [addR, hv, hv2]
        have e2 : addL zs (a0, a1, a2, a3, a4, a5) = zs ++ [(a0, a1, a2, a3, a4, a5)] := by simp [addL, e1]
        obtain rfl := e1.symm.trans hq
        obtain rfl := e2.symm.trans hL
        clear e1 e2 hq hL
        go_wp2_with fail
        refine (l18Good_is true hv2 _ hr1 (by simp [hl]) (by omega)).mono ?_
        rintro e w2 ⟨rfl, b2⟩
        have hown2 := own_below hown1 b2
        have b2 := bstep b1 b2
        go_wp2
        go_returns
        exact ⟨_, rfl, by rw [List.length_append, hl]; exact hown2, b2⟩
theorem sAddReport_is {q : Bool} {L : List SituationT} {g n c : Nat} {t : TypeId} {zs : List SituationT} {a0 a1 a2 a3 a4 a5 : Int} (hq : addR zs (a0, a1, a2, a3, a4, a5) = q) (hL : addL zs (a0, a1, a2, a3, a4, a5) = L) (w : World) (hB : Bk w g t (sitF zs)) (hl : zs.length = n) (hn : n ≤ 1048577) :
    Calls Try.prog 7 #[.slice (some ⟨g, 0, none⟩) n c, .agg #[.int .i64 a0, .int .i64 a1, .int .i64 a2, .int .i64 a3, .int .i64 a4, .int .i64 a5]] w fun e w' => ∃ v, e = .returned (.tuple #[v, .bool q]) ∧ w'.ownsRow w.heap.size 26 6 v L.length (sitF L) ∧ Below w.heap.size w w' :=
  sAddReport_is_rd hq hL w (sit_rd hB hl) hB.lt hl hn
end Go.Proofs.Ytjffhacoijmgiaa
