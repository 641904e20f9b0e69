/-
  FnExactAddOrder, walked. Conditions: none beyond the layout of its arguments.
-/
import Derived.Test.YtaekngiejehooaaTM
import Derived.Test.YtaekngiejehooaaY
import Derived.Lib.Hide
namespace Go.Proofs.Ytaekngiejehooaa
open Go.RowKit
set_option maxRecDepth 100000
set_option maxHeartbeats 4000000

theorem addL_len (zs : List OrderT) (a : OrderT) : (addL zs a).length ≤ zs.length + 1 := by
  unfold addL
  split
  · rw [insO_len]; exact Nat.le_refl _
  · exact Nat.zero_le _
theorem szOrder_ok (x0 : Int) (x1 : ByteArray) (x2 x3 x4 l : Int) (hk : x1.size ≤ maxLen) (hl : 0 ≤ l ∧ l ≤ 1048576) (w : World) : Calls Try.prog 26 #[.agg #[.int .i64 x0, .string x1, .int .i64 x2, .int .i64 x3, .int .i64 x4], .int .i64 l] w fun r w' => ∃ v : Int, r = .returned (.int .i64 v) ∧ v ≤ 1048576 ∧ Below w.heap.size w w' := by
  unfold maxLen at hk
  have e1 : IntKind.i64.wrap (l - (x1.size : Int)) = l - (x1.size : Int) := by rw [IntKind.wrap_i64]; omega
  go_enter Try.func26, Try.ntmps26
  go_upto_region 1 with fail
  refine wp_gen (fun W => Below w.heap.size w W ∧ Bk W w.heap.size 43 [.int .i64 x0, .string x1, .int .i64 x2, .int .i64 x3, .int .i64 x4]) ⟨by (repeat' (first | (with_reducible exact Below.refl _ _) | (with_reducible assumption) | (with_reducible refine balloc ?_ _) | (with_reducible refine bdrew ?_) | (with_reducible refine bdrewN ?_ _) | (with_reducible refine bstep ?_ (by assumption)) | (with_reducible refine bset ?_ ?_ _) | (exact Below.size (by assumption)) | go_size)), Bk.new _ _ _⟩ ?_
  intro W ⟨bW, kx⟩
  obtain ⟨k0, k1, k2, k3, k4⟩ := five_cells kx
  by_cases h : l < (x1.size : Int)
  · have i1 : l - (x1.size : Int) < 0 := by omega
    go_wp2
    all_goals (go_returns; exact ⟨_, rfl, by omega, bW⟩)
  · have i1 : ¬ l - (x1.size : Int) < 0 := by omega
    go_wp2
    all_goals (go_returns; exact ⟨_, rfl, by omega, bW⟩)
theorem fnExactAddOrder_walk (A : Option Addr) (n c : Nat) (zs : List OrderT) (a : OrderT) (w : World) (hr : Rd w 5 A n (ordF zs)) (hl : zs.length = n) (hn : n ≤ 9223372036854775807) (ok : ∀ z ∈ zs, I64 z.1 ∧ z.2.1.size ≤ maxLen ∧ I64 z.2.2.1 ∧ I64 z.2.2.2.1 ∧ I64 z.2.2.2.2) (w1 : I64 a.1 ∧ a.2.1.size ≤ maxLen ∧ I64 a.2.2.1 ∧ I64 a.2.2.2.1 ∧ I64 a.2.2.2.2) :
    Calls Try.prog 7 #[.slice A n c, .agg #[.int .i64 a.1, .string a.2.1, .int .i64 a.2.2.1, .int .i64 a.2.2.2.1, .int .i64 a.2.2.2.2]] w fun e w' => e = .returned (.bool true) ∧ Below w.heap.size w w' := by
  obtain ⟨x0, x1, x2, x3, x4⟩ := a
  dsimp only at *
  have hx9 : x1.size ≤ maxLen := w1.2.1
  have hz9 : ∀ z ∈ zs, (z.2.1).size ≤ maxLen := fun z hz => (ok z hz).2.1
  clear ok w1
  obtain ⟨q, hq⟩ : ∃ q, addR zs (x0, x1, x2, x3, x4) = q := ⟨_, rfl⟩
  obtain ⟨L, hL⟩ : ∃ L, addL zs (x0, x1, x2, x3, x4) = L := ⟨_, rfl⟩
  have hmn : L.length ≤ n + 1 := by rw [← hL, ← hl]; exact addL_len zs _
  obtain ⟨m, hm⟩ : ∃ m, L.length = m := ⟨_, rfl⟩
  rw [hm] at hmn
  go_enter Try.func7, Try.ntmps7
  go_upto_region 1 with fail
  have hbox := Bk.new w 43 [.int .i64 x0, .string x1, .int .i64 x2, .int .i64 x3, .int .i64 x4]
  have hW := balloc (Below.refl w.heap.size w) (.cells #[.int .i64 x0, .string x1, .int .i64 x2, .int .i64 x3, .int .i64 x4] 43)
  generalize hw0 : w.alloc (.cells #[.int .i64 x0, .string x1, .int .i64 x2, .int .i64 x3, .int .i64 x4] 43) = w0 at *
  change Bk w0 _ _ _ at hbox
  clear hw0
  have hr := hr.below hW
  go_wp2_with fail
  refine (szOrderS_any A n c zs 1048576 _ hr hl hn hz9 (by omega)).mono ?_
  rintro e wa ⟨v, rfl, hv1, hv, hba⟩
  by_cases hneg : v < 0
  · go_wp2
    go_returns
    exact ⟨rfl, bstep hW hba⟩
  have hbig := hv (by omega)
  clear hv
  have hbox := hbox.below hba hbox.lt
  have hr := hr.below hba
  have hW := bstep hW hba
  obtain ⟨k0, k1, k2, k3, k4⟩ := five_cells hbox
  go_wp2_with fail
  refine (szOrder_ok x0 x1 x2 x3 x4 v hx9 (by omega) _).mono ?_
  rintro e wb ⟨v', rfl, hv2, hbb⟩
  by_cases hneg : v' < 0
  · go_wp2
    go_returns
    exact ⟨rfl, bstep hW hbb⟩
  have hbox := hbox.below hbb hbox.lt
  have hr := hr.below hbb
  have hW := bstep hW hbb
  clear k0 k1 k2 k3 k4
  obtain ⟨k0, k1, k2, k3, k4⟩ := five_cells hbox
  generalize hw1 : wb = w1 at *
  clear hw1
  have HQ := Lib.hid hq
  have HL := Lib.hid hL
  have HM := Lib.hid hm
  have HZ := Lib.hid hl
  clear hq hL hm hl
  go_upto_region 8 with fail
  go_cut [6, 7] (fun s6 s7 wx => ∃ A2 c2, s6 = .slice A2 m c2 ∧ s7 = .bool q ∧ wx.ownsRow w1.heap.size 46 5 (.slice A2 m c2) m (ordF L) ∧ Below w1.heap.size w1 wx)
  case first =>
    go_region_with (first
      | (go_at_call 17; refine (toOrderS_any A n c zs _ (hr.below (show Below w1.heap.size w1 _ from by (repeat' (first | (with_reducible exact Below.refl _ _) | (with_reducible assumption) | (with_reducible refine balloc ?_ _) | (with_reducible refine bdrew ?_) | (with_reducible refine bdrewN ?_ _) | (with_reducible refine bstep ?_ (by assumption)) | (with_reducible refine bset ?_ ?_ _) | (exact Below.size (by assumption)) | go_size)))) HZ.out (by omega)).mono ?_; rintro e wc ⟨g1, rfl, hg1, hB1, hb1⟩; have B1 : Below w1.heap.size w1 wc := bstep (by (repeat' (first | (with_reducible exact Below.refl _ _) | (with_reducible assumption) | (with_reducible refine balloc ?_ _) | (with_reducible refine bdrew ?_) | (with_reducible refine bdrewN ?_ _) | (with_reducible refine bstep ?_ (by assumption)) | (with_reducible refine bset ?_ ?_ _) | (exact Below.size (by assumption)) | go_size))) hb1; clear k0 k1 k2 k3 k4; obtain ⟨k0, k1, k2, k3, k4⟩ := five_cells (hbox.below B1 hbox.lt))
      | (go_at_call 28; refine (toOrder_any _ _ _ _ _ _).mono ?_; rintro e w2 ⟨rfl, hb2⟩; have B2 : Below w1.heap.size w1 w2 := bstep (by (repeat' (first | (with_reducible exact Below.refl _ _) | (with_reducible assumption) | (with_reducible refine balloc ?_ _) | (with_reducible refine bdrew ?_) | (with_reducible refine bdrewN ?_ _) | (with_reducible refine bstep ?_ (by assumption)) | (with_reducible refine bset ?_ ?_ _) | (exact Below.size (by assumption)) | go_size))) hb2; clear k0 k1 k2 k3 k4; obtain ⟨k0, k1, k2, k3, k4⟩ := five_cells (hbox.below B2 hbox.lt))
      | (go_at_call 27; refine (sAddOrder_is HQ.out HL.out _ (by first | exact hB1 | exact hB1.below hb2 hB1.lt) HZ.out (by omega) hz9 hx9).mono ?_; rintro e w3 ⟨v3, rfl, hown3, hb3⟩; have B3 : Below w1.heap.size w1 w3 := bstep (by (repeat' (first | (with_reducible exact Below.refl _ _) | (with_reducible assumption) | (with_reducible refine balloc ?_ _) | (with_reducible refine bdrew ?_) | (with_reducible refine bdrewN ?_ _) | (with_reducible refine bstep ?_ (by assumption)) | (with_reducible refine bset ?_ ?_ _) | (exact Below.size (by assumption)) | go_size))) hb3; have o3 := own_weaken (base' := w1.heap.size) hown3 (Below.size (by (repeat' (first | (with_reducible exact Below.refl _ _) | (with_reducible assumption) | (with_reducible refine balloc ?_ _) | (with_reducible refine bdrew ?_) | (with_reducible refine bdrewN ?_ _) | (with_reducible refine bstep ?_ (by assumption)) | (with_reducible refine bset ?_ ?_ _) | (exact Below.size (by assumption)) | go_size))))))
    all_goals (rw [HM.out] at o3; obtain ⟨A2, c2, rfl, _, _⟩ := own_rd o3; go_wp2_with fail; go_meet; exact ⟨A2, c2, rfl, rfl, o3, B3⟩)
  case rest =>
    obtain ⟨A2, c2, rfl, rfl, o2, b2⟩ := hcut
    have hl := HZ.out
    have hm := HM.out
    clear k0 k1 k2 k3 k4 HZ HM
    obtain ⟨k0, k1, k2, k3, k4⟩ := five_cells (hbox.below b2 hbox.lt)
    have r20 := own_r o2
    go_wp2_with fail
    refine (toOrderS_any A n c zs _ (hr.below b2) hl (by omega)).mono ?_
    rintro e w3 ⟨g3, rfl, hg3, hB3, hb3⟩
    have b3 := bstep b2 hb3
    clear k0 k1 k2 k3 k4
    obtain ⟨k0, k1, k2, k3, k4⟩ := five_cells (hbox.below b3 hbox.lt)
    go_wp2_with fail
    refine (toOrder_any _ _ _ _ _ _).mono ?_
    rintro e w30 ⟨rfl, hb30⟩
    have e3 := bstep hb3 hb30
    have b3 := bstep b3 hb30
    have hB3 := hB3.below hb30 hB3.lt
    go_wp2_with fail
    refine (AddOrder_is HQ.out HL.out _ hB3 hl (by omega) hz9 hx9).mono ?_
    rintro e w4 ⟨v4, rfl, ho4, hb4⟩
    rw [hm] at ho4
    obtain ⟨A4, c4, rfl, r4, hm4⟩ := own_rd ho4
    have b4 := bstep b3 hb4
    have e4 := bstep e3 hb4
    have hB4 := hB3.below hb4 hB3.lt
    go_wp2_with fail
    refine (eqOrderS_same _ _ m c4 c2 L _ r4 (r20.below e4) hm (by omega)).mono ?_
    rintro e w5 ⟨rfl, hb5⟩
    have b5 := bstep b4 hb5
    have e5 := bstep e4 hb5
    have ho5 := own_below ho4 hb5
    have hB5 := hB4.below hb5 hB4.lt
    go_wp2_with fail
    refine (toOrderS_any A n c zs _ (hr.below b5) hl (by omega)).mono ?_
    rintro e w6 ⟨g6, rfl, hg6, hB6, hb6⟩
    have b6 := bstep b5 hb6
    have e6 := bstep e5 hb6
    have ho6 := own_below ho5 hb6
    have hB6' := hB5.below hb6 hB5.lt
    go_wp2_with fail
    refine (eqOrderS_same _ _ n n n zs _ (ord_rd hB6' hl) (ord_rd hB6 hl) hl (by omega)).mono ?_
    rintro e w7 ⟨rfl, hb7⟩
    have b7 := bstep b6 hb7
    have e7 := bstep e6 hb7
    have ho7 := own_below ho6 hb7
    have hB7 := hB6'.below hb7 hB6'.lt
    go_wp2_with fail
    refine (markOrderS_any g3 n n _ _ 1 _ hB7 (by rw [ordF_len, hl]; exact Nat.le_refl _) (by omega)).mono ?_
    rintro e w8 ⟨rfl, hB8, hG8⟩
    have b8 := b7.grown hG8 b7.size (fun k e => by cases e; have := b2.size; omega)
    have e8 := e7.grown hG8 e7.size (fun k e => by cases e; omega)
    have ho8 := own_grown ho7 hG8 (Nat.lt_of_lt_of_le hB3.lt (Nat.le_refl _))
    go_wp2_with fail
    refine (eqOrderS_same _ _ m c4 c2 L _ (own_r ho8) (r20.below e8) hm (by omega)).mono ?_
    rintro e w9 ⟨rfl, hb9⟩
    have b9 := bstep b8 hb9
    have e9 := bstep e8 hb9
    have ho9 := own_below ho8 hb9
    go_wp2_with fail
    refine (markOrderS_own ho9 (by omega)).mono ?_
    rintro e w10 ⟨rfl, ho10, hG10⟩
    have b10 := own_grownBy ho9 b9 hG10 b3.size b9.size
    have e10 := own_grownBy ho9 e9 hG10 e3.size e9.size
    go_wp2_with fail
    refine (heldOrderS_any _ _ _ 1 _ (own_r ho10) (by omega)).mono ?_
    rintro e w11 ⟨rfl, hb11⟩
    have b10 := bstep b10 hb11
    have e10 := bstep e10 hb11
    have ho10 := own_below ho10 hb11
    clear k0 k1 k2 k3 k4
    obtain ⟨k0, k1, k2, k3, k4⟩ := five_cells (hbox.below b10 hbox.lt)
    have HZ := Lib.hid hl
    have HM := Lib.hid hm
    clear hl hm
    go_upto_region 27 with fail
    go_cut [14, 15] (fun s6 s7 wx => ∃ A2 c2, s6 = .slice A2 m c2 ∧ s7 = .bool q ∧ Rd wx 5 A2 m (ordF L) ∧ Below w11.heap.size w11 wx)
    case first =>
      go_region_with (first
        | (go_at_call 17; refine (toOrderS_any A n c zs _ (hr.below (show Below w1.heap.size w1 _ from by (repeat' (first | (with_reducible exact Below.refl _ _) | (with_reducible assumption) | (with_reducible refine balloc ?_ _) | (with_reducible refine bdrew ?_) | (with_reducible refine bdrewN ?_ _) | (with_reducible refine bstep ?_ (by assumption)) | (with_reducible refine bset ?_ ?_ _) | (exact Below.size (by assumption)) | go_size)))) HZ.out (by omega)).mono ?_; rintro e wc ⟨g1, rfl, hg1, hB1, hb1⟩; have B1 : Below w11.heap.size w11 wc := bstep (by (repeat' (first | (with_reducible exact Below.refl _ _) | (with_reducible assumption) | (with_reducible refine balloc ?_ _) | (with_reducible refine bdrew ?_) | (with_reducible refine bdrewN ?_ _) | (with_reducible refine bstep ?_ (by assumption)) | (with_reducible refine bset ?_ ?_ _) | (exact Below.size (by assumption)) | go_size))) hb1; have b1 := bstep b10 B1; clear k0 k1 k2 k3 k4; obtain ⟨k0, k1, k2, k3, k4⟩ := five_cells (hbox.below b1 hbox.lt))
        | (go_at_call 28; refine (toOrder_any _ _ _ _ _ _).mono ?_; rintro e w2 ⟨rfl, hb2⟩; have B2 : Below w11.heap.size w11 w2 := bstep (by (repeat' (first | (with_reducible exact Below.refl _ _) | (with_reducible assumption) | (with_reducible refine balloc ?_ _) | (with_reducible refine bdrew ?_) | (with_reducible refine bdrewN ?_ _) | (with_reducible refine bstep ?_ (by assumption)) | (with_reducible refine bset ?_ ?_ _) | (exact Below.size (by assumption)) | go_size))) hb2; have b2 := bstep b10 B2; clear k0 k1 k2 k3 k4; obtain ⟨k0, k1, k2, k3, k4⟩ := five_cells (hbox.below b2 hbox.lt))
        | (go_at_call 29; refine (AddOrder_is HQ.out HL.out _ (by first | exact hB1 | exact hB1.below hb2 hB1.lt) HZ.out (by omega) hz9 hx9).mono ?_; rintro e w3 ⟨v3, rfl, hown3, hb3⟩; have B3 : Below w11.heap.size w11 w3 := bstep (by (repeat' (first | (with_reducible exact Below.refl _ _) | (with_reducible assumption) | (with_reducible refine balloc ?_ _) | (with_reducible refine bdrew ?_) | (with_reducible refine bdrewN ?_ _) | (with_reducible refine bstep ?_ (by assumption)) | (with_reducible refine bset ?_ ?_ _) | (exact Below.size (by assumption)) | go_size))) hb3))
      all_goals (rw [HM.out] at hown3; obtain ⟨A2, c2, rfl, r3, _⟩ := own_rd hown3; go_wp2_with fail; go_meet; exact ⟨A2, c2, rfl, rfl, r3, B3⟩)
    case rest =>
      obtain ⟨A13, c13, rfl, rfl, r13, b13⟩ := hcut
      have hm := HM.out
      go_wp2_with fail
      refine (eqOrderS_same _ _ m c13 c2 L _ r13 (r20.below (bstep e10 b13)) hm (by omega)).mono ?_
      rintro e w14 ⟨rfl, hb14⟩
      go_wp2_with fail
      refine (heldOrderS_any _ _ _ 1 _ (own_r (own_below (own_below ho10 b13) hb14)) (by omega)).mono ?_
      rintro e w15 ⟨rfl, hb15⟩
      go_wp2
      go_returns
      exact ⟨rfl, bstep hW (bstep (bstep (bstep b10 b13) hb14) hb15)⟩
end Go.Proofs.Ytaekngiejehooaa
