/-
  Two notes compared; one note copied, compared, measured. Conditions: lengths within the bound of a slice.
-/
import Derived.Test.YthgabapegpndnaaA
import Derived.Test.YthgabapegpndnaaCP
import Derived.Test.YthgabapegpndnaaP
import Derived.Test.YthgabapegpndnaaQT
namespace Go.Proofs.Ythgabapegpndnaa
open Go.RowKit
set_option maxRecDepth 100000
set_option maxHeartbeats 2000000

theorem compareNotes_any (u s u2 s2 : Int) (A A2 : Option Addr) (n c n2 c2 : Nat) (wd wd2 : ByteArray) (w : World) :
    Calls Try.prog 39 #[.agg #[.int .i64 u, .int .i64 s, .slice A n c, .string wd], .agg #[.int .i64 u2, .int .i64 s2, .slice A2 n2 c2, .string wd2]] w fun e w' => e = .returned (.int .i64 (orv (cmpv u u2) (cmpv s s2))) ∧ Below w.heap.size w w' := by
  go_enter Try.func39, Try.ntmps39
  go_upto_region 1 with fail
  refine wp_gen (fun w0 => Bk w0 w.heap.size 35 [.int .i64 u, .int .i64 s, .slice A n c, .string wd] ∧ Bk w0 (w.heap.size + 1) 35 [.int .i64 u2, .int .i64 s2, .slice A2 n2 c2, .string wd2] ∧ Below w.heap.size w w0) ⟨Bk.alloc (Bk.new' rfl) _, Bk.new' (by simp), by (repeat' (first | (with_reducible exact Below.refl _ _) | (with_reducible assumption) | (with_reducible refine balloc ?_ _) | (with_reducible refine bdrew ?_) | (with_reducible refine bdrewN ?_ _) | (with_reducible refine bstep ?_ (by assumption)) | (with_reducible refine bset ?_ ?_ _) | (exact Below.size (by assumption)) | go_size))⟩ ?_
  intro w0 ⟨hX, hY, b0⟩
  obtain ⟨x0, x1, x2, x3, xl⟩ := four_cells hX
  obtain ⟨y0, y1, y2, y3, yl⟩ := four_cells hY
  clear x2 x3 y2 y3 hX hY
  go_wp2_with fail
  (refine wp_region_bel_tail 10 (by kernel_rfl) (by kernel_rfl) ?_; (simp only [List.take_succ_cons, List.take_zero, List.drop_succ_cons, List.drop_zero]); (repeat (go_big_quiet_step ((first | (go_at_call 57; exact calls_bel_same (Compare_any _ _ _)))))); refine wpQuiet_nil ?_; intro w' hw'; have hb := below_of hw'; clear hw'; (try clear cW fW zW); (first | (have bW := bstep bW hb) | (have bW := bstep (bdrew bW) hb) | (have bW := bstep (balloc bW _) hb) | (have bW := bstep (bdrewN bW _) hb) | (have bW := hb)); clear hb; obtain ⟨cW, fW⟩ := bcell bW; have zW := bsize bW)
  go_wp2_with fail
  refine (Or2_any (cmpv u u2) (cmpv s s2) w'.heap.size _ (by simp [go_sem]) (by simp [go_sem])).mono ?_
  rintro e v ⟨rfl, rfl⟩
  go_wp2
  go_returns
  exact ⟨rfl, by (repeat' (first | (with_reducible exact Below.refl _ _) | (with_reducible assumption) | (with_reducible refine balloc ?_ _) | (with_reducible refine bdrew ?_) | (with_reducible refine bdrewN ?_ _) | (with_reducible refine bstep ?_ (by assumption)) | (with_reducible refine bset ?_ ?_ _) | (exact Below.size (by assumption)) | go_size))⟩
theorem l17Order_any (u s u2 s2 : Int) (A A2 : Option Addr) (n c n2 c2 : Nat) (wd wd2 : ByteArray) (w : World) (h1 : 0 ≤ u ∧ u ≤ 1000) (h2 : 0 ≤ u2 ∧ u2 ≤ 1000) (h3 : 0 ≤ s ∧ s ≤ 1000) (h4 : 0 ≤ s2 ∧ s2 ≤ 1000) :
    Calls Try.prog 43 #[.agg #[.int .i64 u, .int .i64 s, .slice A n c, .string wd], .agg #[.int .i64 u2, .int .i64 s2, .slice A2 n2 c2, .string wd2]] w fun e w' => e = .returned (.int .i64 ((u - u2) * 100 + s - s2)) ∧ Below w.heap.size w w' := by
  obtain ⟨a1, a2⟩ := h1
  obtain ⟨b1, b2⟩ := h2
  obtain ⟨d1, d2⟩ := h3
  obtain ⟨e1, e2⟩ := h4
  go_enter Try.func43, Try.ntmps43
  go_wp2
  go_returns
  exact ⟨ret_int (by omega), by (repeat' (first | (with_reducible exact Below.refl _ _) | (with_reducible assumption) | (with_reducible refine balloc ?_ _) | (with_reducible refine bdrew ?_) | (with_reducible refine bdrewN ?_ _) | (with_reducible refine bstep ?_ (by assumption)) | (with_reducible refine bset ?_ ?_ _) | (exact Below.size (by assumption)) | go_size))⟩
theorem toNote_any (u s : Int) (A : Option Addr) (n c : Nat) (xs : List Int) (wd : ByteArray) (w : World) (hr : Rd w 1 A n (ints xs)) (hn : n ≤ 1048576) :
    Calls Try.prog 17 #[.agg #[.int .i64 u, .int .i64 s, .slice A n c, .string wd]] w fun e w' => ∃ g, e = .returned (.agg #[.int .i64 u, .int .i64 s, .slice (some ⟨g, 0, none⟩) n n, .string wd]) ∧ w.heap.size ≤ g ∧ Bk w' g 3 (ints xs) ∧ Below w.heap.size w w' := by
  go_enter Try.func17, Try.ntmps17
  go_upto_region 4 with fail
  refine wp_gen (fun w0 => Bk w0 w.heap.size 31 [.int .i64 u, .int .i64 s, .slice A n c, .string wd] ∧ Bk w0 (w.heap.size + 1) 35 [.int .i64 0, .int .i64 0, .slice none 0 0, .string ⟨#[]⟩] ∧ Bk w0 (w.heap.size + 2) 35 [.int .i64 u, .int .i64 s, .slice none 0 0, .string ⟨#[]⟩] ∧ Below w.heap.size w w0) ⟨Bk.alloc (Bk.alloc (Bk.new' rfl) _) _, Bk.alloc (Bk.new' (by simp)) _, Bk.new' (by simp), by (repeat' (first | (with_reducible exact Below.refl _ _) | (with_reducible assumption) | (with_reducible refine balloc ?_ _) | (with_reducible refine bdrew ?_) | (with_reducible refine bdrewN ?_ _) | (with_reducible refine bstep ?_ (by assumption)) | (with_reducible refine bset ?_ ?_ _) | (exact Below.size (by assumption)) | go_size))⟩ ?_
  intro w0 ⟨ha, hb, hc, hW⟩
  obtain ⟨x0, x1, x2, x3, xl⟩ := four_cells ha
  have zl := hc.lt
  have HA := Lib.hid ha
  have HB := Lib.hid hb
  have HC := Lib.hid hc
  clear ha hb hc
  go_wp2_with fail
  refine (toIntS_any A n c xs _ (hr.below hW) (by omega)).mono ?_
  rintro e w1 ⟨g, rfl, hg, hG, hbw⟩
  have hc1 := HC.out.below hbw zl
  have hb1 := HB.out.below hbw HB.out.lt
  have ha1 := HA.out.below hbw HA.out.lt
  have hge : w.heap.size + 3 ≤ g := by have := HC.out.lt; omega
  have hW1 := bstep hW hbw
  clear x0 x1 x2 x3 xl HA HB HC hbw
  obtain ⟨x0, x1, x2, x3, xl⟩ := four_cells ha1
  obtain ⟨y0, y1, y2, y3, yl⟩ := four_cells hb1
  obtain ⟨z0, z1, z2, z3, zl⟩ := four_cells hc1
  have fy0 := hb1.frozen 0
  have fy1 := hb1.frozen 1
  have fy2 := hb1.frozen 2
  have fy3 := hb1.frozen 3
  have fz2 := hc1.frozen 2
  have fz3 := hc1.frozen 3
  have HG := Lib.hid hG
  clear ha1 hb1 hc1 hG
  go_wp2
  (refine bodyPost_ret (by simp (maxDischargeDepth := 4) [results, Try.results17, go_sem, *]; try rfl) rfl ?_)
  exact ⟨g, rfl, by omega, (Bk.far (Bk.far (Bk.far (Bk.far (Bk.far (Bk.far HG.out (by simp <;> omega) _) (by simp <;> omega) _) (by simp <;> omega) _) (by simp <;> omega) _) (by simp <;> omega) _) (by simp <;> omega) _), (bset (bset (bset (bset (bset (bset hW1 (by simp <;> omega) _) (by simp <;> omega) _) (by simp <;> omega) _) (by simp <;> omega) _) (by simp <;> omega) _) (by simp <;> omega) _)⟩
theorem eqNote_same (u s : Int) (A B : Option Addr) (n c d : Nat) (xs : List Int) (wd : ByteArray) (w : World) (hr : Rd w 1 A n (ints xs)) (hs : Rd w 1 B n (ints xs)) (hn : n ≤ 1048576) :
    Calls Try.prog 19 #[.agg #[.int .i64 u, .int .i64 s, .slice A n c, .string wd], .agg #[.int .i64 u, .int .i64 s, .slice B n d, .string wd]] w fun e w' => e = .returned (.bool true) ∧ Below w.heap.size w w' := by
  go_enter Try.func19, Try.ntmps19
  go_upto_region 1 with fail
  refine wp_gen (fun w0 => Bk w0 w.heap.size 35 [.int .i64 u, .int .i64 s, .slice A n c, .string wd] ∧ Bk w0 (w.heap.size + 1) 35 [.int .i64 u, .int .i64 s, .slice B n d, .string wd] ∧ Below w.heap.size w w0) ⟨Bk.alloc (Bk.new' rfl) _, Bk.new' (by simp), by (repeat' (first | (with_reducible exact Below.refl _ _) | (with_reducible assumption) | (with_reducible refine balloc ?_ _) | (with_reducible refine bdrew ?_) | (with_reducible refine bdrewN ?_ _) | (with_reducible refine bstep ?_ (by assumption)) | (with_reducible refine bset ?_ ?_ _) | (exact Below.size (by assumption)) | go_size))⟩ ?_
  intro w0 ⟨hX, hY, b0⟩
  have huu : (u != u) = false := by simp
  have hss : (s != s) = false := by simp
  obtain ⟨x0, x1, x2, x3, xl⟩ := four_cells hX
  obtain ⟨y0, y1, y2, y3, yl⟩ := four_cells hY
  go_wp2_with fail
  refine (eqIntS_yes _ (hr.below b0) (hs.below b0) (by omega) rfl).mono ?_
  rintro e w1 ⟨rfl, hb1⟩
  have b1 := bstep b0 hb1
  have hX := hX.below hb1 hX.lt
  have hY := hY.below hb1 hY.lt
  clear x0 x1 x2 x3 xl y0 y1 y2 y3 yl
  obtain ⟨x0, x1, x2, x3, xl⟩ := four_cells hX
  obtain ⟨y0, y1, y2, y3, yl⟩ := four_cells hY
  go_wp2
  go_returns
  exact ⟨rfl, b1⟩
theorem szNote_any (u s : Int) (A : Option Addr) (n c : Nat) (wd : ByteArray) (l : Int) (w : World) (hn : n ≤ 9223372036854775807) (hs : wd.size ≤ maxLen) (h2 : 0 ≤ l ∧ l ≤ 1048576) :
    Calls Try.prog 15 #[.agg #[.int .i64 u, .int .i64 s, .slice A n c, .string wd], .int .i64 l] w fun e w' => ∃ v : Int, e = .returned (.int .i64 v) ∧ v ≤ 1048576 ∧ (0 ≤ v → n ≤ 1048576) ∧ Below w.heap.size w w' := by
  unfold maxLen at hs
  have hs2 : (wd.size : Int) ≤ 9223372036854775807 := by omega
  obtain ⟨v1, e1⟩ : ∃ v, szI n l = v := ⟨_, rfl⟩
  have k1 : (0 ≤ v1 → n ≤ 1048576) ∧ v1 ≤ 1048576 ∧ -1 ≤ v1 := by unfold szI at e1; split at e1 <;> omega
  have E1 := Lib.hid e1
  obtain ⟨k1, k2, k3⟩ := k1
  have K1 := Lib.hid k1
  clear e1 k1
  go_enter Try.func15, Try.ntmps15
  go_upto_region 1 with fail
  refine wp_gen (fun w0 => Bk w0 w.heap.size 31 [.int .i64 u, .int .i64 s, .slice A n c, .string wd] ∧ Below w.heap.size w w0) ⟨Bk.new' rfl, by (repeat' (first | (with_reducible exact Below.refl _ _) | (with_reducible assumption) | (with_reducible refine balloc ?_ _) | (with_reducible refine bdrew ?_) | (with_reducible refine bdrewN ?_ _) | (with_reducible refine bstep ?_ (by assumption)) | (with_reducible refine bset ?_ ?_ _) | (exact Below.size (by assumption)) | go_size))⟩ ?_
  intro w0 ⟨hX, b0⟩
  obtain ⟨x0, x1, x2, x3, xl⟩ := four_cells hX
  go_wp2_with fail
  refine (szIntS_any A n c l _ hn h2).mono ?_
  rintro e w1 ⟨rfl, rfl⟩
  rw [E1.out]
  by_cases h1 : v1 < 0
  · go_wp2
    go_returns
    exact ⟨_, rfl, by omega, fun h => by omega, b0⟩
  · go_wp2
    all_goals (go_returns; exact ⟨_, rfl, by omega, fun _ => K1.out (by omega), b0⟩)
end Go.Proofs.Ythgabapegpndnaa
