/-
  The program's inserted, at orders. Conditions: lengths within the bound of a slice.
-/
import Derived.Test.YtaekngiejehooaaTI
import Derived.Test.YtaekngiejehooaaZ
namespace Go.Proofs.Ytaekngiejehooaa
open Go.RowKit Go.Sort
set_option maxRecDepth 100000
set_option maxHeartbeats 4000000

theorem ordF_add (zs : List OrderT) (a : OrderT) : ordF (zs ++ [a]) = ordF zs ++ ordE a := by simp [ordF]
theorem inserted_any (g n c : Nat) (t : TypeId) (zs : List OrderT) (x0 : Int) (x1 : ByteArray) (x2 x3 x4 : Int) (w : World) (hB : Bk w g t (ordF zs)) (hl : zs.length = n) (hn : n ≤ 1048576) (hz9 : ∀ z ∈ zs, z.2.1.size ≤ maxLen) (hx9 : x1.size ≤ maxLen) :
    Calls Try.prog 57 #[.slice (some ⟨g, 0, none⟩) n c, .agg #[.int .i64 x0, .string x1, .int .i64 x2, .int .i64 x3, .int .i64 x4], .func (.func 48) #[] #[]] w fun e w' => ∃ v ys, e = .returned v ∧ w'.ownsRow w.heap.size 46 5 v (n + 1) (ordF ys) ∧ ys.length = n + 1 ∧ (∀ z ∈ ys, z.2.1.size ≤ maxLen) ∧
      (n < 19 → ys.Perm (zs ++ [(x0, x1, x2, x3, x4)]) ∧ ys.Pairwise (fun x y => x.1 ≤ y.1)) ∧ Below w.heap.size w w' := by
  obtain ⟨i0, hi0, hz0, hz1, hz2⟩ := infoO
  have hgl := hB.lt
  go_enter Try.func57, Try.ntmps57
  go_upto_region 1 with fail
  refine wp_gen (fun w0 => Bk w0 w.heap.size 46 [.int .i64 x0, .string x1, .int .i64 x2, .int .i64 x3, .int .i64 x4] ∧ w0.cell? ⟨w.heap.size + 1, 0, none⟩ = some (.func (.func 48) #[] #[]) ∧ w0.heap.size = w.heap.size + 2 ∧ Below w.heap.size w w0) ⟨Bk.alloc (Bk.new w _ _) _, (by rw [World.cell?_alloc_at _ _ _ _ (by simp)]; rfl), by simp, by (repeat' (first | (with_reducible exact Below.refl _ _) | (with_reducible assumption) | (with_reducible refine balloc ?_ _) | (with_reducible refine bdrew ?_) | (with_reducible refine bdrewN ?_ _) | (with_reducible refine bstep ?_ (by assumption)) | (with_reducible refine bset ?_ ?_ _) | (exact Below.size (by assumption)) | go_size))⟩ ?_
  intro w0 ⟨hbox, hfn, hsz, hW⟩
  obtain ⟨k0, k1, k2, k3, k4⟩ := five_cells hbox
  go_cut [7] (fun s7 wx => wx.ownsRow (w.heap.size + 2) 46 5 s7 (n + 1) (ordF (zs ++ [(x0, x1, x2, x3, x4)])) ∧ Below w.heap.size w wx ∧ wx.cell? ⟨w.heap.size + 1, 0, none⟩ = some (.func (.func 48) #[] #[]))
  case first =>
    go_region_law (first
      | (refine step_append_rd (by rfl) (.tmp 9) (.tmp 11) 32 (by rfl) w0.heap.size 46 i0 _ 5 48 Try.underlying32 hi0 hz0 hz1 hz2 (by rfl) (by decide) v1 n (ordF zs) (by rfl) (by first | exact hown1 | exact own_drew hown1 | exact own_alloc hown1 _ | exact own_drew (own_alloc hown1 _)) ⟨_, 0, none⟩ 1 1 (ordE (x0, x1, x2, x3, x4)) (by rfl) (by first | exact Bk.rd (Bk.drew (Bk.new' (by first | (simp; done) | omega | (simp; omega)))) rfl | exact Bk.rd (Bk.new' (by first | (simp; done) | omega | (simp; omega))) rfl | exact Bk.rd (Bk.below (Bk.drew (Bk.new' (by first | (simp; done) | omega | (simp; omega)))) hb1 (by first | (simp; done) | omega | (simp; omega))) rfl | exact Bk.rd (Bk.below (Bk.new' (by first | (simp; done) | omega | (simp; omega))) hb1 (by first | (simp; done) | omega | (simp; omega))) rfl) (by intro u hu; exact ord_one [_] u (by simpa [ordF] using hu)) (by unfold maxLen; omega) (by omega) (by have := b1.size; first | omega | (simp; omega)) ?_; intro v2 w2 hown2 hgr2; have b2 : Below w0.heap.size w0 w2 := own_grownBy (by first | exact hown1 | exact own_drew hown1 | exact own_alloc hown1 _ | exact own_drew (own_alloc hown1 _)) (by first | exact b1 | exact bdrew b1 | exact balloc b1 _ | exact bdrew (balloc b1 _)) hgr2 (Nat.le_refl _) (by have := b1.size; first | omega | (simp; omega)))
      | (go_simp; go_wp2_with (go_at_call 56; refine (copyOrd_any g n c t zs _ (hB.below (show Below w.heap.size w _ from (by first | exact bdrew hW | exact balloc (bdrew hW) _ | exact bdrew (balloc hW _))) hgl) hl (by omega)).mono ?_; rintro e w1 ⟨v1, rfl, hown1, hb1⟩; have b1 : Below w0.heap.size w0 w1 := bstep (by first | exact bdrew (Below.refl _ _) | exact balloc (bdrew (Below.refl _ _)) _ | exact bdrew (balloc (Below.refl _ _) _)) hb1; have hown1 := own_weaken (base' := w0.heap.size) hown1 (by simp; try omega); obtain ⟨k0, k1, k2, k3, k4⟩ := five_cells (show Bk w1 w.heap.size 46 [.int .i64 x0, .string x1, .int .i64 x2, .int .i64 x3, .int .i64 x4] from (by first | exact Bk.below (Bk.drew hbox) hb1 (by simp; omega) | exact Bk.below (Bk.alloc (Bk.drew hbox) _) hb1 (by simp; omega) | exact Bk.below (Bk.drew (Bk.alloc hbox _)) hb1 (by simp; omega))))))
    all_goals (go_wp2_with fail; go_meet; exact ⟨by rw [ordF_add, ← hsz]; exact hown2, bstep hW b2, (by rw [(bcell b2).1 _ _ (by omega)]; exact hfn)⟩)
  case rest =>
    obtain ⟨hown, hW2, hfn2⟩ := hcut
    rcases own_bk hown with ⟨_, h0⟩ | ⟨g2, cap, cs, rfl, hg2, hB2, h1, h2, h3, h4⟩
    · omega
    have hcs : cs = ordF (zs ++ [(x0, x1, x2, x3, x4)]) ++ cs.drop ((n + 1) * 5) := by rw [← h4, List.take_append_drop]
    rw [hcs] at hB2
    have hS := sortO g2 (n + 1) cap (w.heap.size + 1) _ (zs ++ [(x0, x1, x2, x3, x4)]) _ _ hB2 (by simp [hl]) (fun z hz => by
      rcases List.mem_append.1 hz with h | h
      · exact hz9 z h
      · rw [List.mem_singleton.1 h]; exact hx9) (by omega) hfn2 (by omega)
    go_wp2_with fail
    refine hS.mono ?_
    rintro e w3 ⟨rfl, ys, hyl, hy9, hyp, hB3, hG3⟩
    have h5 : ((ordF ys) ++ cs.drop ((n + 1) * 5)).length = cap * 5 := by
      rw [List.length_append, ordF_len, hyl, List.length_drop, h3]
      omega
    go_wp2
    go_returns
    refine ⟨_, ys, rfl, row_own hB3 (by omega) hyl h1 h2 h5, hyl, hy9, fun h => hyp (by omega), ?_⟩
    exact Below.grown hW2 hG3 (by have := hW2.size; omega) (fun k e => by cases e; omega)
end Go.Proofs.Ytaekngiejehooaa
