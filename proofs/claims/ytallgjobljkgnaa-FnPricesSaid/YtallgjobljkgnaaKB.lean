/-
  RaisePrices of the reference and of the program. Conditions: lengths within the bound of a slice.
-/
import Derived.Test.YtallgjobljkgnaaE
import Derived.Test.YtallgjobljkgnaaG
namespace Go.Proofs.Ytallgjobljkgnaa
open Go.RowKit
set_option maxRecDepth 100000
set_option maxHeartbeats 2000000

/-- the least of the first k differences, and of the first one -/
def rpm (xs ts : List Int) : Nat → Int
  | 0 => xs.getD 0 0 - ts.getD 0 0
  | k + 1 => min (rpm xs ts k) (xs.getD k 0 - ts.getD k 0)
theorem rpm_step {xs ts : List Int} {k : Nat} {x t : Int} (hk : k < xs.length) (hx : xs[k] = x) (hk' : k < ts.length) (ht : ts[k] = t) : rpm xs ts (k + 1) = min (rpm xs ts k) (x - t) := by
  show min _ (xs.getD k 0 - ts.getD k 0) = _
  rw [getD_of hk hx, getD_of hk' ht]
theorem cell_bd {x : Int} (h : cellP x = true) : 0 ≤ x ∧ x ≤ 100 := inB_iff.1 h
theorem rpm_bd {xs ts : List Int} (hx : xs.all cellP = true) (ht : ts.all prcP = true) (h0 : 0 < xs.length) (h1 : xs.length = ts.length) : ∀ k, k ≤ xs.length → -100 ≤ rpm xs ts k ∧ rpm xs ts k ≤ 200
  | 0, _ => by
    have b1 := cell_bd (List.all_eq_true.1 hx xs[0] (List.getElem_mem _))
    have b2 := prc_bd (List.all_eq_true.1 ht (ts[0]'(by omega)) (List.getElem_mem _))
    show -100 ≤ xs.getD 0 0 - ts.getD 0 0 ∧ xs.getD 0 0 - ts.getD 0 0 ≤ 200
    rw [getD_of h0 rfl, getD_of (show 0 < ts.length by omega) rfl]
    omega
  | k + 1, h => by
    have ih := rpm_bd hx ht h0 h1 k (by omega)
    have b1 := cell_bd (List.all_eq_true.1 hx (xs[k]'(by omega)) (List.getElem_mem _))
    have b2 := prc_bd (List.all_eq_true.1 ht (ts[k]'(by omega)) (List.getElem_mem _))
    rw [rpm_step (show k < xs.length by omega) rfl (show k < ts.length by omega) rfl]
    omega
def rpL (T : List (List Int)) (ts : List Int) (n : Nat) : Nat → List Int
  | 0 => []
  | i + 1 => rpL T ts n i ++ [rpm (row T i) ts n]
theorem rpL_len (T : List (List Int)) (ts : List Int) (n : Nat) : ∀ i, (rpL T ts n i).length = i
  | 0 => rfl
  | i + 1 => by simp [rpL, rpL_len T ts n i]
def rpA (T : List (List Int)) (ts : List Int) : Bool := ctB T && prcRow T.length ts
def rpB (T : List (List Int)) (ts : List Int) : Bool := rpA T ts && prcRow T.length (rpL T ts T.length T.length)
def rpO (T : List (List Int)) (ts : List Int) : List Int := if rpB T ts = true then rpL T ts T.length T.length else []
theorem rpO_len {T : List (List Int)} {ts : List Int} : (rpO T ts).length ≤ 5 := by
  unfold rpO
  split
  · rename_i h
    rw [rpL_len]
    have h2 : ctB T = true := by simp only [rpB, rpA, Bool.and_eq_true] at h; exact h.1.1
    exact (ct_sq h2 rfl).1
  · exact Nat.zero_le _
theorem rpO_no {T : List (List Int)} {ts : List Int} (h : rpB T ts = false) : rpO T ts = [] := by simp [rpO, h]
theorem ct_cells {T : List (List Int)} {n : Nat} (h : ctB T = true) (hl : T.length = n) : ∀ i, i < n → (row T i).length = n ∧ (row T i).all cellP = true := by
  simp only [ctB, Bool.and_eq_true, hl] at h
  intro i hi
  have := List.all_eq_true.1 h.2 _ (row_mem (T := T) (k := i) (by omega))
  simpa [rowP] using this
theorem l1Least_of {a b c : Int} (h : min a b = c) (w : World) : Calls Try.prog 50 #[.int .i64 a, .int .i64 b] w fun e w' => e = .returned (.int .i64 c) ∧ w = w' := by rw [← h]; exact l1Least_any a b w
theorem one_new {W : World} {t : TypeId} {v : Value} {g : Nat} (h : W.heap.size = g) : ∀ j u, [v][j]? = some u → (W.alloc (.cells #[v] t)).cell? ((⟨g, 0, none⟩ : Addr).add j) = some u :=
  ((Bk.new' (t := t) (cs := [v]) h).rd (k := 1) (n := 1) rfl).news
theorem one_row {w : World} {B : Option Addr} {m c' : Nat} {zs : List Int} {t : TypeId} (hx : Rd w 1 B m (ints zs)) (hl : zs.length = m) :
    RdT (w.alloc (.cells #[.slice B m c'] t)) (some ⟨w.heap.size, 0, none⟩) 1 [zs] := by
  have hB := Bk.new w t [.slice B m c']
  have bb := balloc (Below.refl w.heap.size w) (.cells #[.slice B m c'] t)
  refine ⟨rfl, fun _ => ⟨w.heap.size, 0, rfl, hB.lt, fun k hk => ?_⟩⟩
  match k, hk with
  | 0, _ => exact ⟨B, c', by rw [show (row [zs] 0).length = m from hl]; exact hB.cell 0, by rw [show (row [zs] 0).length = m from hl]; exact hx.below bb⟩
theorem one_lens {zs : List Int} (h : zs.length ≤ 1048576) : ∀ i, i < 1 → (row [zs] i).length ≤ 1048576 := fun i hi => by
  match i, hi with
  | 0, _ => exact h
theorem wp_gen {P : Program} {c : Code} {Q : Exit → Act → World → Prop} {a : Act} {w : World} (R : World → Prop) (h1 : R w) (h2 : ∀ w0, R w0 → c.wp P Q a w0) : c.wp P Q a w := h2 w h1
theorem sRaise_is {q : Bool} {L : List Int} {A C : Option Addr} {n m c d : Nat} {T : List (List Int)} {ts : List Int} (hq : rpB T ts = q) (hL : rpO T ts = L) (w : World) (hr : RdT w A n T) (hn : n ≤ 1048576) (hy : Rd w 1 C m (ints ts)) (hl2 : ts.length = m) (hm : m ≤ 1048576) :
    Calls Try.prog 18 #[.slice A n c, .slice C m d] w fun e w' => ∃ v, e = .returned (.tuple #[v, .bool q]) ∧ w'.ownsRow w.heap.size 3 1 v L.length (ints L) ∧ Below w.heap.size w w' := by
  have hl := hr.1
  obtain ⟨i0, hi0, hz0, hz1, hz2⟩ := info_parts (show (Try.prog.info? 3).map (fun i => (i.zero, i.size, i.bytes)) = some (some (.int .i64 0), 1, 8) from by kernel_rfl)
  go_enter Try.func18, Try.ntmps18
  go_upto_region 2 with fail
  refine wp_gen (fun w0 => w0.ownsRow w.heap.size 3 1 (.slice (some ⟨w.heap.size, 0, none⟩) 0 0) 0 [] ∧ Below w.heap.size w w0) ⟨own_lit' rfl (Nat.le_refl _), by (repeat' (first | (with_reducible exact Below.refl _ _) | (with_reducible assumption) | (with_reducible refine balloc ?_ _) | (with_reducible refine bdrew ?_) | (with_reducible refine bdrewN ?_ _) | (with_reducible refine bstep ?_ (by assumption)) | (with_reducible refine bset ?_ ?_ _) | (exact Below.size (by assumption)) | go_size))⟩ ?_
  intro w0 ⟨ho, b0⟩
  have HO := Lib.hid ho
  clear ho
  rcases h1 : ctB T with _ | _
  · skip
    obtain rfl : q = false := by rw [← hq]; simp [rpB, rpA, h1]
    obtain rfl : ([] : List Int) = L := by rw [← hL]; exact (rpO_no hq).symm
    clear hq hL
    go_wp2_with fail
    refine (l16Table_is h1 _ (hr.below b0) hn).mono ?_
    rintro e w1 ⟨rfl, b1⟩
    go_wp2
    go_returns
    exact ⟨_, rfl, own_below HO.out b1, bstep b0 b1⟩
  rcases h2 : prcRow n ts with _ | _
  · have H2 := Lib.hid h2
    obtain rfl : q = false := by rw [← hq]; simp [rpB, rpA, h2, hl]
    obtain rfl : ([] : List Int) = L := by rw [← hL]; exact (rpO_no hq).symm
    clear hq hL
    go_wp2_with fail
    refine (l16Table_is h1 _ (hr.below b0) hn).mono ?_
    rintro e w1 ⟨rfl, b1⟩
    go_wp2_with fail
    refine (l16Prices_is H2.out _ ((hy.below b0).below b1) hl2 hm hn).mono ?_
    rintro e w2 ⟨rfl, hb2⟩
    have b2 := bstep b1 hb2
    go_wp2
    go_returns
    exact ⟨_, rfl, own_below HO.out b2, bstep b0 b2⟩
  have H2 := Lib.hid h2
  obtain ⟨h4, h40, _⟩ := ct_sq h1 hl
  have hcz := ct_cells h1 hl
  obtain ⟨h8, h9⟩ := prcRow_of' h2
  obtain rfl : m = n := by omega
  have hq2 : prcRow m (rpL T ts m m) = q := by rw [← hq]; simp [rpB, rpA, h1, h2, hl]
  have hL2 : (if q = true then rpL T ts m m else []) = L := by rw [← hL]; unfold rpO; rw [hq, hl]
  have HC := Lib.hid hcz
  have H9 := Lib.hid h9
  have HQ := Lib.hid hq2
  have HLL := Lib.hid hL2
  clear hq hL h2 hcz h9 hq2 hL2
  go_wp2_with fail
  refine (l16Table_is h1 _ (hr.below b0) hn).mono ?_
  rintro e w1 ⟨rfl, b1⟩
  go_wp2_with fail
  refine (l16Prices_is H2.out _ ((hy.below b0).below b1) hl2 hm hn).mono ?_
  rintro e w2 ⟨rfl, hb2⟩
  have b2 := bstep b1 hb2
  clear h1 H2
  have ho2 := own_below HO.out b2
  have b2 := bstep b0 b2
  go_wp2_with fail
  go_loopw [6, 7] (fun v i wr => ∃ k : Nat, k ≤ m ∧ i = .int .i64 k ∧ wr.ownsRow w.heap.size 3 1 v k (ints (rpL T ts m k)) ∧ Below w.heap.size w wr) (fun _ i _ => m - (intOf i).toNat)
  case atStart => exact ⟨0, Nat.zero_le _, rfl, ho2, b2⟩
  case round =>
    obtain ⟨k, hk, rfl, hown, hW⟩ := hrel
    have HOW := Lib.hid hown
    clear hown
    by_cases hlt : k < m
    · obtain ⟨b, off, Ar, r, cr, xs, rfl, hbl, hrow, hxm, c0, hRr⟩ := hr.at_ hW hlt
      have hT := HC.out k hlt
      rw [hrow] at hT
      obtain rfl : r = m := by omega
      obtain ⟨b1', off1, x0, rfl, hbl1, hx0, e0⟩ := ints_at hRr (Below.refl _ _) hxm (show 0 < r by omega)
      obtain ⟨b2', off2, t0, rfl, hbl2, ht0, f0⟩ := ints_at hy hW hl2 (show 0 < r by omega)
      have s1 : b < wr.heap.size := Nat.lt_of_lt_of_le hbl hW.size
      have s2 : b2' < wr.heap.size := Nat.lt_of_lt_of_le hbl2 hW.size
      have s3 : b1' < wr.heap.size := hbl1
      have bx0 := cell_bd (List.all_eq_true.1 hT.2 x0 (hx0 ▸ List.getElem_mem (by omega)))
      have bt0 := prc_bd (List.all_eq_true.1 H9.out t0 (ht0 ▸ List.getElem_mem (by omega)))
      have hr0 : rpm xs ts 0 = x0 - t0 := by show xs.getD 0 0 - ts.getD 0 0 = _; rw [getD_of (by omega) hx0, getD_of (by omega) ht0]
      have hr1 : rpm xs ts 1 = x0 - t0 := by rw [rpm_step (show 0 < xs.length by omega) hx0 (show 0 < ts.length by omega) ht0, hr0]; omega
      have i1 : (0 : Int) ≤ (k : Int) := by omega
      have i2 : (k : Int) < (r : Int) := by omega
      have i3 : (0 : Int) < (r : Int) := by omega
      have i4 : 0 < r := by omega
      have hwr : IntKind.i64.wrap (x0 - t0) = x0 - t0 := IntWalk.i64_in _ (by omega)
      have HX := Lib.hid hrow
      have HT := Lib.hid hT.2
      have HR0 := Lib.hid hr0
      have HR1 := Lib.hid hr1
      have HRR := Lib.hid hRr
      clear hrow hT hx0 ht0 hr0 hr1 hRr
      rw [Nat.add_zero] at e0 f0
      obtain ⟨wo, rfl⟩ : ∃ wo, wo = wr := ⟨_, rfl⟩
      go_wp2
      (refine wp_region_bel (by kernel_rfl) (by kernel_rfl) ?_; (repeat (go_big_quiet_step ((first | fail)))); refine wpQuiet_nil ?_; intro w' hw'; have hb := below_of hw'; clear hw'; (try clear cW fW zW); (first | (have bW := bstep bW hb) | (have bW := bstep (bdrew bW) hb) | (have bW := bstep (balloc bW _) hb) | (have bW := bstep (bdrewN bW _) hb) | (have bW := hb)); clear hb; obtain ⟨cW, fW⟩ := bcell bW; have zW := bsize bW)
      go_wp2_with fail
      clear e0 f0
      go_loopw [8, 9] (fun p i wr => ∃ j : Nat, 1 ≤ j ∧ j ≤ r ∧ i = .int .i64 j ∧ p = .int .i64 (rpm xs ts j) ∧ Below wo.heap.size wo wr) (fun _ i _ => r - (intOf i).toNat)
      case atStart => exact ⟨1, by omega, by omega, rfl, by rw [HR1.out], bW⟩
      case round =>
        obtain ⟨j, hj1, hj, rfl, rfl, hV⟩ := hrel
        clear bW cW fW zW
        have c1 := (hV.cell (p := ⟨b, off + k, none⟩) s1).trans c0
        have t1 : b < wr.heap.size := Nat.lt_of_lt_of_le s1 hV.size
        by_cases hjt : j < r
        · obtain ⟨b3, off3, x, e3, hbl3, hxj, e1⟩ := ints_at HRR.out hV hxm hjt
          simp only [Option.some.injEq, Addr.mk.injEq, and_true] at e3
          obtain ⟨rfl, rfl⟩ := e3
          obtain ⟨b4, off4, t, e4, hbl4, htj, f1⟩ := ints_at hy (hW.trans (hV.mono hW.size)) hl2 hjt
          simp only [Option.some.injEq, Addr.mk.injEq, and_true] at e4
          obtain ⟨rfl, rfl⟩ := e4
          have t2 : b1' < wr.heap.size := Nat.lt_of_lt_of_le s3 hV.size
          have t3 : b2' < wr.heap.size := Nat.lt_of_lt_of_le s2 hV.size
          have bx := cell_bd (List.all_eq_true.1 HT.out x (hxj ▸ List.getElem_mem (by omega)))
          have bt := prc_bd (List.all_eq_true.1 H9.out t (htj ▸ List.getElem_mem (by omega)))
          have hst := rpm_step (show j < xs.length by omega) hxj (show j < ts.length by omega) htj
          have hbd := rpm_bd HT.out H9.out (by omega) (by omega) j (by omega)
          obtain ⟨p, hp⟩ : ∃ p, rpm xs ts j = p := ⟨_, rfl⟩
          rw [hp] at hst hbd ⊢
          have j1 : (0 : Int) ≤ (j : Int) := by omega
          have j2 : (j : Int) < (r : Int) := by omega
          have hwr2 : IntKind.i64.wrap (x - t) = x - t := IntWalk.i64_in _ (by omega)
          clear hxj htj hp
          have HS := Lib.hid hst
          have HLe := Lib.hid (fun W => l1Least_of hst.symm W)
          clear hst
          go_wp2
          (refine wp_region_bel (by kernel_rfl) (by kernel_rfl) ?_; (repeat (go_big_quiet_step ((first | (go_at_call 50; exact calls_bel_same (HLe.out _)))))); refine wpQuiet_nil ?_; intro w' hw'; have hb := below_of hw'; clear hw'; (try clear cW fW zW); (first | (have bW := bstep bW hb) | (have bW := bstep (bdrew bW) hb) | (have bW := bstep (balloc bW _) hb) | (have bW := bstep (bdrewN bW _) hb) | (have bW := hb)); clear hb; obtain ⟨cW, fW⟩ := bcell bW; have zW := bsize bW)
          go_wp2
          go_roundw
          case rel => exact ⟨j + 1, by omega, by omega, by go_num, rfl, bstep hV bW⟩
          case measure => simp [intOf]; omega
        · have hjr : j = r := by omega
          subst hjr
          have hst : rpL T ts j (k + 1) = rpL T ts j k ++ [rpm xs ts j] := by show _ ++ [rpm (row T k) ts j] = _; rw [HX.out]
          have HS := Lib.hid hst
          have ho3 := own_below HOW.out hV
          clear hst c1
          obtain ⟨p, hp⟩ : ∃ p, rpm xs ts j = p := ⟨_, rfl⟩
          rw [hp] at HS ⊢
          clear hp
          have b3 := bstep hW hV
          have z3 := b3.size
          go_wp2_with (first | (at_builtin; refine wpList_append_own _ rfl (.tmp 58) (.tmp 60) 24 rfl w.heap.size 3 i0 (.int .i64 0) 1 8 Try.underlying24 hi0 hz0 hz1 hz2 rfl (by decide) _ _ _ rfl (own_alloc ho3 _) ⟨_, 0, none⟩ 1 1 [.int .i64 p] rfl rfl ?c1 ?c2 ?c3 ?c4 ?c5 ?_))
          case c1 => exact one_new rfl
          case c2 => (first | rfl | (intro u hu; simp at hu; subst hu; rfl))
          case c3 => (unfold maxLen; omega)
          case c4 => omega
          case c5 => (simp; omega)
          intro v' w6 hown' hgrow _
          have b6 : Below w.heap.size w w6 := (balloc b3 (.cells #[.int .i64 p] 3)).grown hgrow (by simp; omega) (fun g hg => by have := (ho3.lt g hg).1; omega)
          go_wp2
          go_roundw
          case rel => exact ⟨k + 1, by omega, by go_num, by rw [HS.out]; simpa [ints] using hown', b6⟩
          case measure => simp [intOf]; omega
    · have hkn : k = m := by omega
      subst hkn
      obtain ⟨A3, c3, rfl, r3, _⟩ := own_rd HOW.out
      have hll := rpL_len T ts k k
      go_wp2_with fail
      refine (l16Prices_is HQ.out _ r3 hll (by omega) hn).mono ?_
      rintro e w7 ⟨rfl, hb7⟩
      have b7 := bstep hW hb7
      cases q
      · obtain rfl : ([] : List Int) = L := by rw [← HLL.out]; rfl
        have := b7.size
        go_wp2
        go_returns
        exact ⟨_, rfl, own_lit' rfl (by omega), by (repeat' (first | (with_reducible exact Below.refl _ _) | (with_reducible assumption) | (with_reducible refine balloc ?_ _) | (with_reducible refine bdrew ?_) | (with_reducible refine bdrewN ?_ _) | (with_reducible refine bstep ?_ (by assumption)) | (with_reducible refine bset ?_ ?_ _) | (exact Below.size (by assumption)) | go_size))⟩
      · obtain rfl : rpL T ts k k = L := by rw [← HLL.out]; rfl
        have ho8 := own_below HOW.out hb7
        have HO8 := Lib.hid ho8
        clear ho8
        go_wp2
        go_returns
        exact ⟨_, rfl, by rw [hll]; exact HO8.out, b7⟩
theorem Raise_is {q : Bool} {L : List Int} {A C : Option Addr} {n m c d : Nat} {T : List (List Int)} {ts : List Int} (hq : rpB T ts = q) (hL : rpO T ts = L) (w : World) (hr : RdT w A n T) (hn : n ≤ 1048576) (hM : ∀ i, i < n → (row T i).length ≤ 1048576) (hy : Rd w 1 C m (ints ts)) (hl2 : ts.length = m) (hm : m ≤ 1048576) :
    Calls Try.prog 17 #[.slice A n c, .slice C m d] w fun e w' => ∃ v, e = .returned (.tuple #[v, .bool q]) ∧ w'.ownsRow w.heap.size 3 1 v L.length (ints L) ∧ Below w.heap.size w w' := by
  have hl := hr.1
  have HM := Lib.hid hM
  clear hM
  obtain ⟨i0, hi0, hz0, hz1, hz2⟩ := info_parts (show (Try.prog.info? 3).map (fun i => (i.zero, i.size, i.bytes)) = some (some (.int .i64 0), 1, 8) from by kernel_rfl)
  go_enter Try.func17, Try.ntmps17
  have b0 := Below.refl w.heap.size w
  rcases h1 : ctB T with _ | _
  · skip
    obtain rfl : q = false := by rw [← hq]; simp [rpB, rpA, h1]
    obtain rfl : ([] : List Int) = L := by rw [← hL]; exact (rpO_no hq).symm
    clear hq hL
    go_wp2_with fail
    refine (IsCostTable_is h1 _ (hr.below b0) hn HM.out).mono ?_
    rintro e w1 ⟨rfl, b1⟩
    go_wp2
    go_returns
    exact ⟨_, rfl, World.ownsRow_nil _ _ _ _, bstep b0 b1⟩
  rcases h2 : prcRow n ts with _ | _
  · have H2 := Lib.hid (show [ts].all (prcRow n) = false by simp [h2])
    obtain rfl : q = false := by rw [← hq]; simp [rpB, rpA, h2, hl]
    obtain rfl : ([] : List Int) = L := by rw [← hL]; exact (rpO_no hq).symm
    clear hq hL
    go_wp2_with fail
    refine (IsCostTable_is h1 _ (hr.below b0) hn HM.out).mono ?_
    rintro e w1 ⟨rfl, b1⟩
    have hR := one_row (c' := d) (t := 24) ((hy.below b0).below b1) hl2
    have HR := Lib.hid hR
    clear hR
    go_wp2_with fail
    refine (arePrices_of H2.out _ HR.out hn (by omega) (one_lens (by omega))).mono ?_
    rintro e w2 ⟨rfl, hb2⟩
    have b2 := bstep (balloc b1 _) hb2
    go_wp2
    go_returns
    exact ⟨_, rfl, World.ownsRow_nil _ _ _ _, bstep b0 b2⟩
  have H2 := Lib.hid (show [ts].all (prcRow n) = true by simp [h2])
  obtain ⟨h4, h40, _⟩ := ct_sq h1 hl
  have hcz := ct_cells h1 hl
  obtain ⟨h8, h9⟩ := prcRow_of' h2
  obtain rfl : m = n := by omega
  have hq2 : prcRow m (rpL T ts m m) = q := by rw [← hq]; simp [rpB, rpA, h1, h2, hl]
  have hL2 : (if q = true then rpL T ts m m else []) = L := by rw [← hL]; unfold rpO; rw [hq, hl]
  have HC := Lib.hid hcz
  have H9 := Lib.hid h9
  have HQ := Lib.hid hq2
  have HLL := Lib.hid hL2
  clear hq hL h2 hcz h9 hq2 hL2
  go_wp2_with fail
  refine (IsCostTable_is h1 _ (hr.below b0) hn HM.out).mono ?_
  rintro e w1 ⟨rfl, b1⟩
  have hR := one_row (c' := d) (t := 24) ((hy.below b0).below b1) hl2
  have HR := Lib.hid hR
  clear hR
  go_wp2_with fail
  refine (arePrices_of H2.out _ HR.out hn (by omega) (one_lens (by omega))).mono ?_
  rintro e w2 ⟨rfl, hb2⟩
  have b2 := bstep (balloc b1 _) hb2
  clear h1 H2
  have ho2 : (w2.alloc (.cells #[] 3)).ownsRow w.heap.size 3 1 (.slice (some ⟨w2.heap.size, 0, none⟩) 0 0) 0 [] := own_lit' rfl (by have := b2.size; omega)
  have b2 := balloc b2 (.cells #[] 3)
  go_wp2_with fail
  go_loopw [6, 25] (fun v i wr => ∃ k : Nat, k ≤ m ∧ i = .int .i64 k ∧ wr.ownsRow w.heap.size 3 1 v k (ints (rpL T ts m k)) ∧ Below w.heap.size w wr) (fun _ i _ => m - (intOf i).toNat)
  case atStart => exact ⟨0, Nat.zero_le _, rfl, ho2, b2⟩
  case round =>
    obtain ⟨k, hk, rfl, hown, hW⟩ := hrel
    have HOW := Lib.hid hown
    clear hown
    by_cases hlt : k < m
    · obtain ⟨b, off, Ar, r, cr, xs, rfl, hbl, hrow, hxm, c0, hRr⟩ := hr.at_ hW hlt
      have hT := HC.out k hlt
      rw [hrow] at hT
      obtain rfl : r = m := by omega
      obtain ⟨b1', off1, x0, rfl, hbl1, hx0, e0⟩ := ints_at hRr (Below.refl _ _) hxm (show 0 < r by omega)
      obtain ⟨b2', off2, t0, rfl, hbl2, ht0, f0⟩ := ints_at hy hW hl2 (show 0 < r by omega)
      have s1 : b < wr.heap.size := Nat.lt_of_lt_of_le hbl hW.size
      have s2 : b2' < wr.heap.size := Nat.lt_of_lt_of_le hbl2 hW.size
      have s3 : b1' < wr.heap.size := hbl1
      have bx0 := cell_bd (List.all_eq_true.1 hT.2 x0 (hx0 ▸ List.getElem_mem (by omega)))
      have bt0 := prc_bd (List.all_eq_true.1 H9.out t0 (ht0 ▸ List.getElem_mem (by omega)))
      have hr0 : rpm xs ts 0 = x0 - t0 := by show xs.getD 0 0 - ts.getD 0 0 = _; rw [getD_of (by omega) hx0, getD_of (by omega) ht0]
      have hr1 : rpm xs ts 1 = x0 - t0 := by rw [rpm_step (show 0 < xs.length by omega) hx0 (show 0 < ts.length by omega) ht0, hr0]; omega
      have i1 : (0 : Int) ≤ (k : Int) := by omega
      have i2 : (k : Int) < (r : Int) := by omega
      have i3 : (0 : Int) < (r : Int) := by omega
      have i4 : 0 < r := by omega
      have hwr : IntKind.i64.wrap (x0 - t0) = x0 - t0 := IntWalk.i64_in _ (by omega)
      have HX := Lib.hid hrow
      have HT := Lib.hid hT.2
      have HR0 := Lib.hid hr0
      have HR1 := Lib.hid hr1
      have HRR := Lib.hid hRr
      clear hrow hT hx0 ht0 hr0 hr1 hRr
      rw [Nat.add_zero] at e0 f0
      obtain ⟨wo, rfl⟩ : ∃ wo, wo = wr := ⟨_, rfl⟩
      go_wp2
      (refine wp_region_bel (by kernel_rfl) (by kernel_rfl) ?_; (repeat (go_big_quiet_step ((first | fail)))); refine wpQuiet_nil ?_; intro w' hw'; have hb := below_of hw'; clear hw'; (try clear cW fW zW); (first | (have bW := bstep bW hb) | (have bW := bstep (bdrew bW) hb) | (have bW := bstep (balloc bW _) hb) | (have bW := bstep (bdrewN bW _) hb) | (have bW := hb)); clear hb; obtain ⟨cW, fW⟩ := bcell bW; have zW := bsize bW)
      go_wp2_with fail
      clear e0 f0
      go_loopw [9, 38] (fun p i wr => ∃ j : Nat, 0 ≤ j ∧ j ≤ r ∧ i = .int .i64 j ∧ p = .int .i64 (rpm xs ts j) ∧ Below wo.heap.size wo wr) (fun _ i _ => r - (intOf i).toNat)
      case atStart => exact ⟨0, by omega, by omega, rfl, by rw [HR0.out], bW⟩
      case round =>
        obtain ⟨j, hj1, hj, rfl, rfl, hV⟩ := hrel
        clear bW cW fW zW
        have c1 := (hV.cell (p := ⟨b, off + k, none⟩) s1).trans c0
        have t1 : b < wr.heap.size := Nat.lt_of_lt_of_le s1 hV.size
        by_cases hjt : j < r
        · obtain ⟨b3, off3, x, e3, hbl3, hxj, e1⟩ := ints_at HRR.out hV hxm hjt
          simp only [Option.some.injEq, Addr.mk.injEq, and_true] at e3
          obtain ⟨rfl, rfl⟩ := e3
          obtain ⟨b4, off4, t, e4, hbl4, htj, f1⟩ := ints_at hy (hW.trans (hV.mono hW.size)) hl2 hjt
          simp only [Option.some.injEq, Addr.mk.injEq, and_true] at e4
          obtain ⟨rfl, rfl⟩ := e4
          have t2 : b1' < wr.heap.size := Nat.lt_of_lt_of_le s3 hV.size
          have t3 : b2' < wr.heap.size := Nat.lt_of_lt_of_le s2 hV.size
          have bx := cell_bd (List.all_eq_true.1 HT.out x (hxj ▸ List.getElem_mem (by omega)))
          have bt := prc_bd (List.all_eq_true.1 H9.out t (htj ▸ List.getElem_mem (by omega)))
          have hst := rpm_step (show j < xs.length by omega) hxj (show j < ts.length by omega) htj
          have hbd := rpm_bd HT.out H9.out (by omega) (by omega) j (by omega)
          obtain ⟨p, hp⟩ : ∃ p, rpm xs ts j = p := ⟨_, rfl⟩
          rw [hp] at hst hbd ⊢
          have j1 : (0 : Int) ≤ (j : Int) := by omega
          have j2 : (j : Int) < (r : Int) := by omega
          have hwr2 : IntKind.i64.wrap (x - t) = x - t := IntWalk.i64_in _ (by omega)
          clear hxj htj hp
          rcases Int.lt_trichotomy p (x - t) with hc | hc | hc
          · have hS : rpm xs ts (j + 1) = p := by rw [hst]; omega
            have HS := Lib.hid hS
            clear hst hS
            go_wp2
            (try (refine wp_region_bel (by kernel_rfl) (by kernel_rfl) ?_; (repeat (go_big_quiet_step ((first | fail)))); refine wpQuiet_nil ?_; intro w' hw'; have hb := below_of hw'; clear hw'; (try clear cW fW zW); (first | (have bW := bstep bW hb) | (have bW := bstep (bdrew bW) hb) | (have bW := bstep (balloc bW _) hb) | (have bW := bstep (bdrewN bW _) hb) | (have bW := hb)); clear hb; obtain ⟨cW, fW⟩ := bcell bW; have zW := bsize bW))
            (try go_wp2)
            go_roundw
            case rel => exact ⟨j + 1, by omega, by omega, by go_num, by rw [HS.out] <;> (first | rfl | (congr 1; omega)), by first | exact hV | exact bstep hV bW⟩
            case measure => simp [intOf]; omega
          · have hS : rpm xs ts (j + 1) = p := by rw [hst]; omega
            have HS := Lib.hid hS
            clear hst hS
            go_wp2
            (try (refine wp_region_bel (by kernel_rfl) (by kernel_rfl) ?_; (repeat (go_big_quiet_step ((first | fail)))); refine wpQuiet_nil ?_; intro w' hw'; have hb := below_of hw'; clear hw'; (try clear cW fW zW); (first | (have bW := bstep bW hb) | (have bW := bstep (bdrew bW) hb) | (have bW := bstep (balloc bW _) hb) | (have bW := bstep (bdrewN bW _) hb) | (have bW := hb)); clear hb; obtain ⟨cW, fW⟩ := bcell bW; have zW := bsize bW))
            (try go_wp2)
            go_roundw
            case rel => exact ⟨j + 1, by omega, by omega, by go_num, by rw [HS.out] <;> (first | rfl | (congr 1; omega)), by first | exact hV | exact bstep hV bW⟩
            case measure => simp [intOf]; omega
          · have hS : rpm xs ts (j + 1) = x - t := by rw [hst]; omega
            have HS := Lib.hid hS
            clear hst hS
            go_wp2
            (try (refine wp_region_bel (by kernel_rfl) (by kernel_rfl) ?_; (repeat (go_big_quiet_step ((first | fail)))); refine wpQuiet_nil ?_; intro w' hw'; have hb := below_of hw'; clear hw'; (try clear cW fW zW); (first | (have bW := bstep bW hb) | (have bW := bstep (bdrew bW) hb) | (have bW := bstep (balloc bW _) hb) | (have bW := bstep (bdrewN bW _) hb) | (have bW := hb)); clear hb; obtain ⟨cW, fW⟩ := bcell bW; have zW := bsize bW))
            (try go_wp2)
            go_roundw
            case rel => exact ⟨j + 1, by omega, by omega, by go_num, by rw [HS.out] <;> (first | rfl | (congr 1; omega)), by first | exact hV | exact bstep hV bW⟩
            case measure => simp [intOf]; omega
        · have hjr : j = r := by omega
          subst hjr
          have hst : rpL T ts j (k + 1) = rpL T ts j k ++ [rpm xs ts j] := by show _ ++ [rpm (row T k) ts j] = _; rw [HX.out]
          have HS := Lib.hid hst
          have ho3 := own_below HOW.out hV
          clear hst c1
          obtain ⟨p, hp⟩ : ∃ p, rpm xs ts j = p := ⟨_, rfl⟩
          rw [hp] at HS ⊢
          clear hp
          have b3 := bstep hW hV
          have z3 := b3.size
          go_wp2_with (first | (at_builtin; refine wpList_append_own _ rfl (.tmp 52) (.tmp 54) 24 rfl w.heap.size 3 i0 (.int .i64 0) 1 8 Try.underlying24 hi0 hz0 hz1 hz2 rfl (by decide) _ _ _ rfl (own_alloc ho3 _) ⟨_, 0, none⟩ 1 1 [.int .i64 p] rfl rfl ?c1 ?c2 ?c3 ?c4 ?c5 ?_))
          case c1 => exact one_new rfl
          case c2 => (first | rfl | (intro u hu; simp at hu; subst hu; rfl))
          case c3 => (unfold maxLen; omega)
          case c4 => omega
          case c5 => (simp; omega)
          intro v' w6 hown' hgrow _
          have b6 : Below w.heap.size w w6 := (balloc b3 (.cells #[.int .i64 p] 3)).grown hgrow (by simp; omega) (fun g hg => by have := (ho3.lt g hg).1; omega)
          go_wp2
          go_roundw
          case rel => exact ⟨k + 1, by omega, by go_num, by rw [HS.out]; simpa [ints] using hown', b6⟩
          case measure => simp [intOf]; omega
    · have hkn : k = m := by omega
      subst hkn
      obtain ⟨A3, c3, rfl, r3, _⟩ := own_rd HOW.out
      have hll := rpL_len T ts k k
      have hR := one_row (c' := c3) (t := 24) r3 hll
      have HR := Lib.hid hR
      have HQ2 := Lib.hid (show [rpL T ts k k].all (prcRow k) = q by rw [← HQ.out]; simp)
      clear hR
      go_wp2_with fail
      refine (arePrices_of HQ2.out _ HR.out hn (by omega) (one_lens (by rw [hll]; omega))).mono ?_
      rintro e w7 ⟨rfl, hb7⟩
      have b7 := bstep (balloc hW _) hb7
      cases q
      · obtain rfl : ([] : List Int) = L := by rw [← HLL.out]; rfl
        have := b7.size
        go_wp2
        go_returns
        exact ⟨_, rfl, World.ownsRow_nil _ _ _ _, by (repeat' (first | (with_reducible exact Below.refl _ _) | (with_reducible assumption) | (with_reducible refine balloc ?_ _) | (with_reducible refine bdrew ?_) | (with_reducible refine bdrewN ?_ _) | (with_reducible refine bstep ?_ (by assumption)) | (with_reducible refine bset ?_ ?_ _) | (exact Below.size (by assumption)) | go_size))⟩
      · obtain rfl : rpL T ts k k = L := by rw [← HLL.out]; rfl
        have ho8 := own_below (own_alloc HOW.out _) hb7
        have HO8 := Lib.hid ho8
        clear ho8
        go_wp2
        go_returns
        exact ⟨_, rfl, by rw [hll]; exact HO8.out, b7⟩
end Go.Proofs.Ytallgjobljkgnaa
