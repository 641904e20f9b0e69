/-
  AddOrder of the reference. Conditions: lengths within the bound of a slice.
-/
import Derived.Test.YtaekngiejehooaaTL
namespace Go.Proofs.Ytaekngiejehooaa
open Go.RowKit
set_option maxRecDepth 100000
set_option maxHeartbeats 8000000

theorem sAddOrder_is {q : Bool} {L : List OrderT} {g n : Nat} {t : TypeId} {zs : List OrderT} {x0 : Int} {x1 : ByteArray} {x2 x3 x4 : Int} (hq : addR zs (x0, x1, x2, x3, x4) = q) (hL : addL zs (x0, x1, x2, x3, x4) = L) (w : World) (hB : Bk w g t (ordF zs)) (hl : zs.length = n) (hn : n ≤ 1048576) (hz9 : ∀ z ∈ zs, z.2.1.size ≤ maxLen) (hx9 : x1.size ≤ maxLen) :
    Calls Try.prog 27 #[.slice (some ⟨g, 0, none⟩) n n, .agg #[.int .i64 x0, .string x1, .int .i64 x2, .int .i64 x3, .int .i64 x4]] w fun e w' => ∃ v, e = .returned (.tuple #[v, .bool q]) ∧ w'.ownsRow w.heap.size 46 5 v L.length (ordF L) ∧ Below w.heap.size w w' := by
  have HQ := Lib.hid hq
  have HL := Lib.hid hL
  clear hq hL
  have hr := ord_rd hB hl
  obtain ⟨i0, hi0, hz0, hz1, hz2⟩ := infoO
  go_enter Try.func27, Try.ntmps27
  go_upto_region 1 with fail
  refine wp_gen (fun w0 => Bk w0 w.heap.size 46 [.int .i64 x0, .string x1, .int .i64 x2, .int .i64 x3, .int .i64 x4] ∧ w0.heap.size = w.heap.size + 1 ∧ Below w.heap.size w w0) ⟨Bk.new w _ _, by simp, by (repeat' (first | (with_reducible exact Below.refl _ _) | (with_reducible assumption) | (with_reducible refine balloc ?_ _) | (with_reducible refine bdrew ?_) | (with_reducible refine bdrewN ?_ _) | (with_reducible refine bstep ?_ (by assumption)) | (with_reducible refine bset ?_ ?_ _) | (exact Below.size (by assumption)) | go_size))⟩ ?_
  intro w0 ⟨hbox, hsz, hW⟩
  rcases hv : listedB zs 10 with _ | _
  · have e1 : addR zs (x0, x1, x2, x3, x4) = false := by simp [addR, hv]
    have e2 : addL zs (x0, x1, x2, x3, x4) = [] := by simp [addL, e1]
    obtain rfl := e1.symm.trans HQ.out
    obtain rfl := e2.symm.trans HL.out
    clear e1 e2
    go_wp2_with fail
    refine (l15Good_of hv _ (hr.below hW) hl (by omega) hz9).mono ?_
    rintro e w2 ⟨rfl, hb2⟩
    have h3 := bstep hW hb2
    go_wp2
    go_returns
    exact ⟨_, rfl, own_lit' rfl h3.size, balloc h3 _⟩
  · go_wp2_with fail
    refine (l15Good_of hv _ (hr.below hW) hl (by omega) hz9).mono ?_
    rintro e w2 ⟨rfl, hb2⟩
    have HV := Lib.hid hv
    have Hb2 := Lib.hid hb2
    clear hv hb2
    go_wp2_with fail
    go_loopw [6] (fun i wr => ∃ k : Nat, k ≤ n ∧ i = .int .i64 k ∧ Hid (∀ j (hj : j < zs.length), j < k → zs[j].1 < x0) ∧ Below w0.heap.size w0 wr) (fun i _ => n - (intOf i).toNat)
    case atStart => exact ⟨0, Nat.zero_le _, rfl, fun j _ hj => absurd hj (Nat.not_lt_zero _), Hb2.out⟩
    case round =>
      obtain ⟨k, hk, rfl, hO, hW3⟩ := hrel
      have hbr := hbox.below hW3 hbox.lt
      have d0 := hbr.cell 0
      simp only [List.getElem?_cons_zero] at d0
      have s0 : w.heap.size < wr.heap.size := hbr.lt
      by_cases hlt : k < n
      · obtain ⟨b, off, hbe, hbl, y0, y1, y2, y3, y4, hz, c0, c1, c2, c3, c4⟩ := ord_at hr (bstep hW hW3) hl hlt
        simp only [Option.some.injEq, Addr.mk.injEq, and_true] at hbe
        obtain ⟨rfl, rfl⟩ := hbe
        simp only [Nat.zero_add] at c0 c1 c2 c3 c4
        have hk2 : k < zs.length := by omega
        have s1 : g < wr.heap.size := (hB.below (bstep hW hW3) hB.lt).lt
        have i3 : (k : Int) < (n : Int) := by omega
        have i4 : (0 : Int) ≤ (k : Int) := by omega
        clear c1 c2 c3 c4 hbr
        by_cases he : y0 < x0
        · have hN : Hid (∀ j (hj : j < zs.length), j < k + 1 → zs[j].1 < x0) := by
            intro j hj hjk
            by_cases h2 : j < k
            · exact hO.out j hj h2
            · have h3 : j = k := by omega
              subst h3
              rw [hz]; exact he
          clear hz
          go_wp2
          (refine wp_region_bel (by kernel_rfl) (by kernel_rfl) ?_; (repeat (go_big_quiet_step ((first | fail)))); refine wpQuiet_nil ?_; intro w' hw'; have hb := below_of hw'; clear hw'; (try clear cW fW zW); (first | (have bW := bstep bW hb) | (have bW := bstep (bdrew bW) hb) | (have bW := bstep (balloc bW _) hb) | (have bW := bstep (bdrewN bW _) hb) | (have bW := hb)); clear hb; obtain ⟨cW, fW⟩ := bcell bW; have zW := bsize bW)
          go_wp2
          go_roundw
          case rel => exact ⟨k + 1, by omega, by go_num, hN, bstep hW3 bW⟩
          case measure => simp [intOf]; omega
        · have e9 : zs.take k ++ (x0, x1, x2, x3, x4) :: zs.drop k = insO zs (x0, x1, x2, x3, x4) := insO_at zs _ k (by omega) (fun j hj hjk => hO.out j hj hjk) (fun h => by rw [hz]; exact he)
          have E9 := Lib.hid e9
          clear e9 hz hO
          go_wp2
          (refine wp_region_bel (by kernel_rfl) (by kernel_rfl) ?_; (repeat (go_big_quiet_step ((first | fail)))); refine wpQuiet_nil ?_; intro w' hw'; have hb := below_of hw'; clear hw'; (try clear cW fW zW); (first | (have bW := bstep bW hb) | (have bW := bstep (bdrew bW) hb) | (have bW := bstep (balloc bW _) hb) | (have bW := bstep (bdrewN bW _) hb) | (have bW := hb)); clear hb; obtain ⟨cW, fW⟩ := bcell bW; have zW := bsize bW)
          go_wp2_with fail
          have r1 : Rd w 5 (some ⟨g, 0, none⟩) k (ordF (zs.take k)) := hB.rd_take hl (by omega)
          have hnk : ¬ n = k := by omega
          have r2 := hB.rd_drop hl (k := k) (by omega) (k * 5) (fun _ => rfl)
          have e8 : ordF (zs.take k ++ (x0, x1, x2, x3, x4) :: zs.drop k) = ordF (zs.take k) ++ ordE (x0, x1, x2, x3, x4) ++ ordF (zs.drop k) := by simp [ordF]
          have E8 := Lib.hid e8
          clear e8
          have hb4 : Bk w' w.heap.size 46 [.int .i64 x0, .string x1, .int .i64 x2, .int .i64 x3, .int .i64 x4] := hbox.below (bstep hW3 bW) hbox.lt
          have b4 : Below w.heap.size w w' := bstep hW (bstep hW3 bW)
          have HZ := Lib.hid hz9
          have HR := Lib.hid hr
          have HB := Lib.hid hB
          clear hz9 hr hB hbox cW fW zW
          obtain ⟨k0, k1, k2, k3, k4⟩ := five_cells hb4
          generalize w' = w4 at *
          go_upto_region 6 with fail
          go_cut [7] (fun s7 wx => wx.ownsRow w.heap.size 46 5 s7 (n + 1) (ordF (insO zs (x0, x1, x2, x3, x4))) ∧ Below w.heap.size w wx)
          case first =>
            go_region_law (first
              | (refine step_append_lit (by rfl) (.tmp 28) (.tmp 31) 32 (by rfl) w4.heap.size 46 i0 _ 5 48 Try.underlying32 hi0 hz0 hz1 hz2 (by rfl) (by decide) (by rfl) (by first | exact own_lit' (by first | (simp; done) | omega | (simp; omega)) (by first | (simp; done) | omega | (simp; omega)) | exact own_drew (own_lit' (by first | (simp; done) | omega | (simp; omega)) (by first | (simp; done) | omega | (simp; omega))) | exact own_alloc (own_lit' (by first | (simp; done) | omega | (simp; omega)) (by first | (simp; done) | omega | (simp; omega))) _ | exact own_drew (own_alloc (own_lit' (by first | (simp; done) | omega | (simp; omega)) (by first | (simp; done) | omega | (simp; omega))) _) | exact own_alloc (own_drew (own_lit' (by first | (simp; done) | omega | (simp; omega)) (by first | (simp; done) | omega | (simp; omega)))) _) ⟨g, 0, none⟩ k n (ordF (zs.take k)) (by rfl) (r1.below (by first | exact b4 | exact bdrew b4 | exact balloc b4 _ | exact balloc (bdrew b4) _ | exact bdrew (balloc b4 _) | exact balloc (balloc b4 _) _ | exact balloc (balloc (bdrew b4) _) _ | exact balloc (bdrew (balloc b4 _)) _ | exact bdrew (balloc (balloc b4 _) _))) (ord_one _) (by unfold maxLen; omega) (by omega) (by first | (simp; done) | omega | (simp; omega)) ?_; intro v1 w5 hown1 hgr1; have b5 : Below w4.heap.size w4 w5 := Below.grown (by first | exact (Below.refl w4.heap.size w4) | exact bdrew (Below.refl w4.heap.size w4) | exact balloc (Below.refl w4.heap.size w4) _ | exact balloc (bdrew (Below.refl w4.heap.size w4)) _ | exact bdrew (balloc (Below.refl w4.heap.size w4) _) | exact balloc (balloc (Below.refl w4.heap.size w4) _) _ | exact balloc (balloc (bdrew (Below.refl w4.heap.size w4)) _) _ | exact balloc (bdrew (balloc (Below.refl w4.heap.size w4) _)) _ | exact bdrew (balloc (balloc (Below.refl w4.heap.size w4) _) _)) hgr1 (by first | (simp; done) | omega | (simp; omega)) (fun k e => by cases e; first | omega | (simp; omega) | (simp; done)); obtain ⟨k0, k1, k2, k3, k4⟩ := five_cells (show Bk w5 w.heap.size 46 [.int .i64 x0, .string x1, .int .i64 x2, .int .i64 x3, .int .i64 x4] from (by first | exact Bk.grown (Bk.alloc hb4 _) hgr1 (by first | (simp; done) | omega | (simp; omega)) | exact Bk.grown (Bk.drew (Bk.alloc hb4 _)) hgr1 (by first | (simp; done) | omega | (simp; omega)) | exact Bk.grown (Bk.alloc (Bk.drew hb4) _) hgr1 (by first | (simp; done) | omega | (simp; omega)) | exact Bk.grown (Bk.alloc (Bk.alloc (Bk.drew hb4) _) _) hgr1 (by first | (simp; done) | omega | (simp; omega)) | exact Bk.grown (Bk.alloc (Bk.drew (Bk.alloc hb4 _)) _) hgr1 (by first | (simp; done) | omega | (simp; omega)) | exact Bk.grown (Bk.drew (Bk.alloc (Bk.alloc hb4 _) _)) hgr1 (by first | (simp; done) | omega | (simp; omega)))))
              | (refine step_append_rd (by rfl) (.tmp 32) (.tmp 34) 32 (by rfl) w4.heap.size 46 i0 _ 5 48 Try.underlying32 hi0 hz0 hz1 hz2 (by rfl) (by decide) v1 k (ordF (zs.take k)) (by rfl) (by first | exact hown1 | exact own_drew hown1 | exact own_alloc hown1 _ | exact own_drew (own_alloc hown1 _)) ⟨_, 0, none⟩ 1 1 (ordE (x0, x1, x2, x3, x4)) (by rfl) (by first | exact Bk.rd (Bk.new' (by first | (simp; done) | omega | (simp; omega))) rfl | exact Bk.rd (Bk.drew (Bk.new' (by first | (simp; done) | omega | (simp; omega)))) rfl | exact Bk.rd (Bk.grown (Bk.new' (by first | (simp; done) | omega | (simp; omega))) hgr1 (by first | (simp; done) | omega | (simp; omega))) rfl | exact Bk.rd (Bk.grown (Bk.drew (Bk.new' (by first | (simp; done) | omega | (simp; omega)))) hgr1 (by first | (simp; done) | omega | (simp; omega))) rfl | exact Bk.rd (Bk.grown (Bk.alloc (Bk.new' (by first | (simp; done) | omega | (simp; omega))) _) hgr1 (by first | (simp; done) | omega | (simp; omega))) rfl | exact Bk.rd (Bk.grown (Bk.drew (Bk.alloc (Bk.new' (by first | (simp; done) | omega | (simp; omega))) _)) hgr1 (by first | (simp; done) | omega | (simp; omega))) rfl | exact Bk.rd (Bk.grown (Bk.alloc (Bk.drew (Bk.new' (by first | (simp; done) | omega | (simp; omega)))) _) hgr1 (by first | (simp; done) | omega | (simp; omega))) rfl) (by intro u hu; exact ord_one [_] u (by simpa [ordF] using hu)) (by unfold maxLen; omega) (by omega) (by have := b5.size; first | omega | (simp; omega)) ?_; intro v2 w6 hown2 hgr2; have b6 : Below w4.heap.size w4 w6 := own_grownBy (by first | exact hown1 | exact own_drew hown1 | exact own_alloc hown1 _ | exact own_drew (own_alloc hown1 _)) (by first | exact b5 | exact bdrew b5 | exact balloc b5 _ | exact balloc (bdrew b5) _ | exact bdrew (balloc b5 _) | exact balloc (balloc b5 _) _ | exact balloc (balloc (bdrew b5) _) _ | exact balloc (bdrew (balloc b5 _)) _ | exact bdrew (balloc (balloc b5 _) _)) hgr2 (Nat.le_refl _) (by have := b5.size; first | omega | (simp; omega)))
              | (refine step_append_rd (by rfl) (.tmp 35) (.tmp 38) 32 (by rfl) w4.heap.size 46 i0 _ 5 48 Try.underlying32 hi0 hz0 hz1 hz2 (by rfl) (by decide) v2 (k + 1) _ (by rfl) (by first | exact hown2 | exact own_drew hown2 | exact own_alloc hown2 _ | exact own_drew (own_alloc hown2 _)) _ (n - k) (n - k) (ordF (zs.drop k)) (by rfl) (r2.below (show Below w.heap.size w _ from by have := bstep b4 b6; exact (by first | exact this | exact bdrew this))) (ord_one _) (by unfold maxLen; omega) (by omega) (by have := b6.size; first | omega | (simp; omega)) ?_; intro v3 w7 hown3 hgr3; have b7 : Below w4.heap.size w4 w7 := own_grownBy (by first | exact hown2 | exact own_drew hown2 | exact own_alloc hown2 _ | exact own_drew (own_alloc hown2 _)) (by first | exact b6 | exact bdrew b6 | exact balloc b6 _ | exact balloc (bdrew b6) _ | exact bdrew (balloc b6 _) | exact balloc (balloc b6 _) _ | exact balloc (balloc (bdrew b6) _) _ | exact balloc (bdrew (balloc b6 _)) _ | exact bdrew (balloc (balloc b6 _) _)) hgr3 (Nat.le_refl _) (by have := b6.size; first | omega | (simp; omega))))
            all_goals (go_wp2_with fail; go_meet; exact ⟨by rw [← E9.out, E8.out]; exact own_weaken (by rw [show n + 1 = k + 1 + (n - k) from by omega]; exact hown3) b4.size, bstep b4 b7⟩)
          case rest =>
            obtain ⟨hown, hW7⟩ := hcut
            obtain ⟨A', c', rfl, hr', _⟩ := own_rd hown
            have hlen := insO_len zs (x0, x1, x2, x3, x4)
            have hy9 : ∀ z ∈ insO zs (x0, x1, x2, x3, x4), z.2.1.size ≤ maxLen := fun z hz => by
              rcases List.mem_cons.1 ((insO_perm zs _).mem_iff.1 hz) with rfl | h
              · exact hx9
              · exact HZ.out z h
            rcases h2 : listedB (insO zs (x0, x1, x2, x3, x4)) 10 with _ | _
            · have e1 : addR zs (x0, x1, x2, x3, x4) = false := by simp [addR, h2]
              have e2 : addL zs (x0, x1, x2, x3, x4) = [] := by simp [addL, e1]
              obtain rfl := e1.symm.trans HQ.out
              obtain rfl := e2.symm.trans HL.out
              clear e1 e2
              go_wp2_with fail
              refine (l15Good_of h2 _ hr' (by omega) (by omega) hy9).mono ?_
              rintro e w8 ⟨rfl, hb8⟩
              go_wp2
              go_returns
              exact ⟨_, rfl, own_lit' rfl (bstep hW7 hb8).size, by have h := bstep hW7 hb8; exact balloc h _⟩
            · have e1 : addR zs (x0, x1, x2, x3, x4) = true := by simp [addR, HV.out, h2]
              have e2 : addL zs (x0, x1, x2, x3, x4) = insO zs (x0, x1, x2, x3, x4) := by simp [addL, e1]
              obtain rfl := e1.symm.trans HQ.out
              obtain rfl := e2.symm.trans HL.out
              clear e1 e2
              go_wp2_with fail
              refine (l15Good_of h2 _ hr' (by omega) (by omega) hy9).mono ?_
              rintro e w8 ⟨rfl, hb8⟩
              go_wp2
              go_returns
              exact ⟨_, rfl, by rw [hlen, hl]; exact own_below hown hb8, bstep hW7 hb8⟩
      · have hkn : k = n := by omega
        subst hkn
        have e9 : zs.take k ++ (x0, x1, x2, x3, x4) :: zs.drop k = insO zs (x0, x1, x2, x3, x4) := insO_at zs _ k (by omega) (fun j hj hjk => hO.out j hj hjk) (fun h => by omega)
        have E9 := Lib.hid e9
        clear e9 hO hbr
        go_wp2
        (refine wp_region_bel (by kernel_rfl) (by kernel_rfl) ?_; (repeat (go_big_quiet_step ((first | fail)))); refine wpQuiet_nil ?_; intro w' hw'; have hb := below_of hw'; clear hw'; (try clear cW fW zW); (first | (have bW := bstep bW hb) | (have bW := bstep (bdrew bW) hb) | (have bW := bstep (balloc bW _) hb) | (have bW := bstep (bdrewN bW _) hb) | (have bW := hb)); clear hb; obtain ⟨cW, fW⟩ := bcell bW; have zW := bsize bW)
        go_wp2_with fail
        have r1 : Rd w 5 (some ⟨g, 0, none⟩) k (ordF (zs.take k)) := hB.rd_take hl (by omega)
        have e7 : zs.drop k = [] := List.drop_of_length_le (by omega)
        have E7 := Lib.hid e7
        clear e7
        have e8 : ordF (zs.take k ++ (x0, x1, x2, x3, x4) :: zs.drop k) = ordF (zs.take k) ++ ordE (x0, x1, x2, x3, x4) ++ ordF (zs.drop k) := by simp [ordF]
        have E8 := Lib.hid e8
        clear e8
        have hb4 : Bk w' w.heap.size 46 [.int .i64 x0, .string x1, .int .i64 x2, .int .i64 x3, .int .i64 x4] := hbox.below (bstep hW3 bW) hbox.lt
        have b4 : Below w.heap.size w w' := bstep hW (bstep hW3 bW)
        have HZ := Lib.hid hz9
        have HR := Lib.hid hr
        have HB := Lib.hid hB
        clear hz9 hr hB hbox cW fW zW
        obtain ⟨k0, k1, k2, k3, k4⟩ := five_cells hb4
        generalize w' = w4 at *
        go_upto_region 6 with fail
        go_cut [7] (fun s7 wx => wx.ownsRow w.heap.size 46 5 s7 (k + 1) (ordF (insO zs (x0, x1, x2, x3, x4))) ∧ Below w.heap.size w wx)
        case first =>
          go_region_law (first
            | (refine step_append_lit (by rfl) (.tmp 28) (.tmp 31) 32 (by rfl) w4.heap.size 46 i0 _ 5 48 Try.underlying32 hi0 hz0 hz1 hz2 (by rfl) (by decide) (by rfl) (by first | exact own_lit' (by first | (simp; done) | omega | (simp; omega)) (by first | (simp; done) | omega | (simp; omega)) | exact own_drew (own_lit' (by first | (simp; done) | omega | (simp; omega)) (by first | (simp; done) | omega | (simp; omega))) | exact own_alloc (own_lit' (by first | (simp; done) | omega | (simp; omega)) (by first | (simp; done) | omega | (simp; omega))) _ | exact own_drew (own_alloc (own_lit' (by first | (simp; done) | omega | (simp; omega)) (by first | (simp; done) | omega | (simp; omega))) _) | exact own_alloc (own_drew (own_lit' (by first | (simp; done) | omega | (simp; omega)) (by first | (simp; done) | omega | (simp; omega)))) _) ⟨g, 0, none⟩ k k (ordF (zs.take k)) (by rfl) (r1.below (by first | exact b4 | exact bdrew b4 | exact balloc b4 _ | exact balloc (bdrew b4) _ | exact bdrew (balloc b4 _) | exact balloc (balloc b4 _) _ | exact balloc (balloc (bdrew b4) _) _ | exact balloc (bdrew (balloc b4 _)) _ | exact bdrew (balloc (balloc b4 _) _))) (ord_one _) (by unfold maxLen; omega) (by omega) (by first | (simp; done) | omega | (simp; omega)) ?_; intro v1 w5 hown1 hgr1; have b5 : Below w4.heap.size w4 w5 := Below.grown (by first | exact (Below.refl w4.heap.size w4) | exact bdrew (Below.refl w4.heap.size w4) | exact balloc (Below.refl w4.heap.size w4) _ | exact balloc (bdrew (Below.refl w4.heap.size w4)) _ | exact bdrew (balloc (Below.refl w4.heap.size w4) _) | exact balloc (balloc (Below.refl w4.heap.size w4) _) _ | exact balloc (balloc (bdrew (Below.refl w4.heap.size w4)) _) _ | exact balloc (bdrew (balloc (Below.refl w4.heap.size w4) _)) _ | exact bdrew (balloc (balloc (Below.refl w4.heap.size w4) _) _)) hgr1 (by first | (simp; done) | omega | (simp; omega)) (fun k e => by cases e; first | omega | (simp; omega) | (simp; done)); obtain ⟨k0, k1, k2, k3, k4⟩ := five_cells (show Bk w5 w.heap.size 46 [.int .i64 x0, .string x1, .int .i64 x2, .int .i64 x3, .int .i64 x4] from (by first | exact Bk.grown (Bk.alloc hb4 _) hgr1 (by first | (simp; done) | omega | (simp; omega)) | exact Bk.grown (Bk.drew (Bk.alloc hb4 _)) hgr1 (by first | (simp; done) | omega | (simp; omega)) | exact Bk.grown (Bk.alloc (Bk.drew hb4) _) hgr1 (by first | (simp; done) | omega | (simp; omega)) | exact Bk.grown (Bk.alloc (Bk.alloc (Bk.drew hb4) _) _) hgr1 (by first | (simp; done) | omega | (simp; omega)) | exact Bk.grown (Bk.alloc (Bk.drew (Bk.alloc hb4 _)) _) hgr1 (by first | (simp; done) | omega | (simp; omega)) | exact Bk.grown (Bk.drew (Bk.alloc (Bk.alloc hb4 _) _)) hgr1 (by first | (simp; done) | omega | (simp; omega)))))
            | (refine step_append_rd (by rfl) (.tmp 32) (.tmp 34) 32 (by rfl) w4.heap.size 46 i0 _ 5 48 Try.underlying32 hi0 hz0 hz1 hz2 (by rfl) (by decide) v1 k (ordF (zs.take k)) (by rfl) (by first | exact hown1 | exact own_drew hown1 | exact own_alloc hown1 _ | exact own_drew (own_alloc hown1 _)) ⟨_, 0, none⟩ 1 1 (ordE (x0, x1, x2, x3, x4)) (by rfl) (by first | exact Bk.rd (Bk.new' (by first | (simp; done) | omega | (simp; omega))) rfl | exact Bk.rd (Bk.drew (Bk.new' (by first | (simp; done) | omega | (simp; omega)))) rfl | exact Bk.rd (Bk.grown (Bk.new' (by first | (simp; done) | omega | (simp; omega))) hgr1 (by first | (simp; done) | omega | (simp; omega))) rfl | exact Bk.rd (Bk.grown (Bk.drew (Bk.new' (by first | (simp; done) | omega | (simp; omega)))) hgr1 (by first | (simp; done) | omega | (simp; omega))) rfl | exact Bk.rd (Bk.grown (Bk.alloc (Bk.new' (by first | (simp; done) | omega | (simp; omega))) _) hgr1 (by first | (simp; done) | omega | (simp; omega))) rfl | exact Bk.rd (Bk.grown (Bk.drew (Bk.alloc (Bk.new' (by first | (simp; done) | omega | (simp; omega))) _)) hgr1 (by first | (simp; done) | omega | (simp; omega))) rfl | exact Bk.rd (Bk.grown (Bk.alloc (Bk.drew (Bk.new' (by first | (simp; done) | omega | (simp; omega)))) _) hgr1 (by first | (simp; done) | omega | (simp; omega))) rfl) (by intro u hu; exact ord_one [_] u (by simpa [ordF] using hu)) (by unfold maxLen; omega) (by omega) (by have := b5.size; first | omega | (simp; omega)) ?_; intro v2 w6 hown2 hgr2; have b6 : Below w4.heap.size w4 w6 := own_grownBy (by first | exact hown1 | exact own_drew hown1 | exact own_alloc hown1 _ | exact own_drew (own_alloc hown1 _)) (by first | exact b5 | exact bdrew b5 | exact balloc b5 _ | exact balloc (bdrew b5) _ | exact bdrew (balloc b5 _) | exact balloc (balloc b5 _) _ | exact balloc (balloc (bdrew b5) _) _ | exact balloc (bdrew (balloc b5 _)) _ | exact bdrew (balloc (balloc b5 _) _)) hgr2 (Nat.le_refl _) (by have := b5.size; first | omega | (simp; omega)))
            | (refine step_append_rd (by rfl) (.tmp 35) (.tmp 38) 32 (by rfl) w4.heap.size 46 i0 _ 5 48 Try.underlying32 hi0 hz0 hz1 hz2 (by rfl) (by decide) v2 (k + 1) _ (by rfl) (by first | exact hown2 | exact own_drew hown2 | exact own_alloc hown2 _ | exact own_drew (own_alloc hown2 _)) ⟨g, 0, none⟩ 0 0 [] (by rfl) Rd.nil_ (by simp) (by unfold maxLen; omega) (by omega) (by have := b6.size; first | omega | (simp; omega)) ?_; intro v3 w7 hown3 hgr3; have b7 : Below w4.heap.size w4 w7 := own_grownBy (by first | exact hown2 | exact own_drew hown2 | exact own_alloc hown2 _ | exact own_drew (own_alloc hown2 _)) (by first | exact b6 | exact bdrew b6 | exact balloc b6 _ | exact balloc (bdrew b6) _ | exact bdrew (balloc b6 _) | exact balloc (balloc b6 _) _ | exact balloc (balloc (bdrew b6) _) _ | exact balloc (bdrew (balloc b6 _)) _ | exact bdrew (balloc (balloc b6 _) _)) hgr3 (Nat.le_refl _) (by have := b6.size; first | omega | (simp; omega))))
          all_goals (go_wp2_with fail; go_meet; exact ⟨by rw [← E9.out, E8.out, E7.out]; exact own_weaken (by rw [show k + 1 = k + 1 + 0 from by omega]; exact hown3) b4.size, bstep b4 b7⟩)
        case rest =>
          obtain ⟨hown, hW7⟩ := hcut
          obtain ⟨A', c', rfl, hr', _⟩ := own_rd hown
          have hlen := insO_len zs (x0, x1, x2, x3, x4)
          have hy9 : ∀ z ∈ insO zs (x0, x1, x2, x3, x4), z.2.1.size ≤ maxLen := fun z hz => by
            rcases List.mem_cons.1 ((insO_perm zs _).mem_iff.1 hz) with rfl | h
            · exact hx9
            · exact HZ.out z h
          rcases h2 : listedB (insO zs (x0, x1, x2, x3, x4)) 10 with _ | _
          · have e1 : addR zs (x0, x1, x2, x3, x4) = false := by simp [addR, h2]
            have e2 : addL zs (x0, x1, x2, x3, x4) = [] := by simp [addL, e1]
            obtain rfl := e1.symm.trans HQ.out
            obtain rfl := e2.symm.trans HL.out
            clear e1 e2
            go_wp2_with fail
            refine (l15Good_of h2 _ hr' (by omega) (by omega) hy9).mono ?_
            rintro e w8 ⟨rfl, hb8⟩
            go_wp2
            go_returns
            exact ⟨_, rfl, own_lit' rfl (bstep hW7 hb8).size, by have h := bstep hW7 hb8; exact balloc h _⟩
          · have e1 : addR zs (x0, x1, x2, x3, x4) = true := by simp [addR, HV.out, h2]
            have e2 : addL zs (x0, x1, x2, x3, x4) = insO zs (x0, x1, x2, x3, x4) := by simp [addL, e1]
            obtain rfl := e1.symm.trans HQ.out
            obtain rfl := e2.symm.trans HL.out
            clear e1 e2
            go_wp2_with fail
            refine (l15Good_of h2 _ hr' (by omega) (by omega) hy9).mono ?_
            rintro e w8 ⟨rfl, hb8⟩
            go_wp2
            go_returns
            exact ⟨_, rfl, by rw [hlen, hl]; exact own_below hown hb8, bstep hW7 hb8⟩
end Go.Proofs.Ytaekngiejehooaa
