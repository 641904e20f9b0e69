/-
  DriestHour of the program and of the reference. Conditions: lengths within the bound of a slice.
-/
import Derived.Test.YtlnfccncbfpoiaaV
namespace Go.Proofs.Ytlnfccncbfpoiaa
open Go.RowKit
set_option maxRecDepth 100000
set_option maxHeartbeats 1000000

/-- the first place of the least of the first k numbers -/
def bst (R : List Int) : Nat → Nat
  | 0 => 0
  | k + 1 => if R.getD k 0 < R.getD (bst R k) 0 then k else bst R k
theorem bst_one (R : List Int) : bst R 1 = 0 := by simp [bst]
theorem bst_lt (R : List Int) : ∀ k, 0 < k → bst R k < k
  | 1, _ => by rw [bst_one]; omega
  | k + 2, _ => by
    have h := bst_lt R (k + 1) (by omega)
    show (if R.getD (k + 1) 0 < R.getD (bst R (k + 1)) 0 then k + 1 else bst R (k + 1)) < k + 2
    split <;> omega
theorem int_at {w wr : World} {A : Option Addr} {n : Nat} {R : List Int} (hr : Rd w 1 A n (ints R)) (hW : Below w.heap.size w wr) (hn : 0 < n) :
    ∃ b off, A = some ⟨b, off, none⟩ ∧ b < w.heap.size ∧ ∀ j, j < n → wr.cell? ⟨b, off + j, none⟩ = some (.int .i64 (R.getD j 0)) := by
  obtain ⟨b, off, e, hb, hc⟩ := hr.2 hn
  have hl := hr.eq_len
  refine ⟨b, off, e, hb, fun j hj => ?_⟩
  refine (hW.cell (p := ⟨b, off + j, none⟩) hb).trans (hc _ _ ?_)
  rw [ints_get R j (by omega), List.getD_eq_getElem?_getD, List.getElem?_eq_getElem (by omega)]; rfl
def dhB (l m : Int) (zs : List AirT) : Bool := mrB l m zs && decide (0 < zs.length)
def dhI (l m : Int) (zs : List AirT) : Int := if dhB l m zs = true then (bst (runA l m zs zs.length) zs.length : Int) else 0
def dhM (l m : Int) (zs : List AirT) : Int := if dhB l m zs = true then (runA l m zs zs.length).getD (bst (runA l m zs zs.length) zs.length) 0 else 0
theorem dh_no {l m : Int} {zs : List AirT} (h : dhB l m zs = false) : dhI l m zs = 0 ∧ dhM l m zs = 0 := by simp [dhI, dhM, h]
theorem sDriestHour_any (l m : Int) (A : Option Addr) (n c : Nat) (zs : List AirT) (w : World) (hr : Rd w 3 A n (airF zs)) (hl : zs.length = n) (hn : n ≤ 140737488355) :
    Calls Try.prog 22 #[.agg #[.int .i64 l, .int .i64 m], .slice A n c] w fun e w' => e = .returned (.tuple #[.int .i64 (dhI l m zs), .int .i64 (dhM l m zs), .bool (dhB l m zs)]) ∧ Below w.heap.size w w' := by
  obtain ⟨q, hq⟩ : ∃ q, dhB l m zs = q := ⟨_, rfl⟩
  obtain ⟨bi, hbi⟩ : ∃ q, dhI l m zs = q := ⟨_, rfl⟩
  obtain ⟨bm, hbm⟩ : ∃ q, dhM l m zs = q := ⟨_, rfl⟩
  rw [hq, hbi, hbm]
  go_enter Try.func22, Try.ntmps22
  rcases hA : bedB l m with _ | _
  · have e1 : dhB l m zs = false := by simp [dhB, mrB, hA]
    obtain ⟨e2, e3⟩ := dh_no e1
    obtain rfl := e1.symm.trans hq
    obtain rfl := e2.symm.trans hbi
    obtain rfl := e3.symm.trans hbm
    clear e1 e2 e3 hq hbi hbm
    have hT := l20Bed_any l m
    rw [hA] at hT
    go_wp2_with fail
    refine (hT _).mono ?_
    rintro e w1 ⟨rfl, b1⟩
    go_wp2
    go_returns
    exact ⟨rfl, by (repeat' (first | (with_reducible exact Below.refl _ _) | (with_reducible assumption) | (with_reducible refine balloc ?_ _) | (with_reducible refine bdrew ?_) | (with_reducible refine bdrewN ?_ _) | (with_reducible refine bstep ?_ (by assumption)) | (with_reducible refine bset ?_ ?_ _) | (exact Below.size (by assumption)) | go_size))⟩
  · have hbd : (1 ≤ l ∧ l ≤ 100) ∧ (0 ≤ m ∧ m ≤ 400) := by simp [bedB, inB] at hA; omega
    have hT := l20Bed_any l m
    rw [hA] at hT
    have HT := Lib.hid hT
    clear hT
    go_wp2_with fail
    refine (HT.out _).mono ?_
    rintro e w1 ⟨rfl, hb1⟩
    have hbox := (Bk.new w 25 [.int .i64 l, .int .i64 m]).below hb1 (by simp)
    have b1 := bstep (balloc (Below.refl w.heap.size w) _) hb1
    rcases hC : airsB zs with _ | _
    · have e1 : dhB l m zs = false := by simp [dhB, mrB, hC]
      obtain ⟨e2, e3⟩ := dh_no e1
      obtain rfl := e1.symm.trans hq
      obtain rfl := e2.symm.trans hbi
      obtain rfl := e3.symm.trans hbm
      clear e1 e2 e3 hq hbi hbm
      have hU := l20List_any A n c zs w1 (hr.below b1) hl (by omega)
      rw [hC] at hU
      go_wp2_with fail
      refine hU.mono ?_
      rintro e w2 ⟨rfl, b2⟩
      have b2 := bstep b1 b2
      go_wp2
      go_returns
      exact ⟨rfl, by (repeat' (first | (with_reducible exact Below.refl _ _) | (with_reducible assumption) | (with_reducible refine balloc ?_ _) | (with_reducible refine bdrew ?_) | (with_reducible refine bdrewN ?_ _) | (with_reducible refine bstep ?_ (by assumption)) | (with_reducible refine bset ?_ ?_ _) | (exact Below.size (by assumption)) | go_size))⟩
    · have hall : zs.all airP = true := by simp only [airsB, Bool.and_eq_true] at hC; exact hC.2
      have hU := l20List_any A n c zs w1 (hr.below b1) hl (by omega)
      rw [hC] at hU
      have HU := Lib.hid hU
      clear hU
      rcases Nat.eq_zero_or_pos n with h0 | h0
      · have e1 : dhB l m zs = false := by simp [dhB, mrB, hl, h0]
        obtain ⟨e2, e3⟩ := dh_no e1
        obtain rfl := e1.symm.trans hq
        obtain rfl := e2.symm.trans hbi
        obtain rfl := e3.symm.trans hbm
        clear e1 e2 e3 hq hbi hbm
        subst h0
        go_wp2_with fail
        refine HU.out.mono ?_
        rintro e w2 ⟨rfl, b2⟩
        have b2 := bstep b1 b2
        go_wp2
        go_returns
        exact ⟨rfl, by (repeat' (first | (with_reducible exact Below.refl _ _) | (with_reducible assumption) | (with_reducible refine balloc ?_ _) | (with_reducible refine bdrew ?_) | (with_reducible refine bdrewN ?_ _) | (with_reducible refine bstep ?_ (by assumption)) | (with_reducible refine bset ?_ ?_ _) | (exact Below.size (by assumption)) | go_size))⟩
      · have e1 : dhB l m zs = true := by simp [dhB, mrB, hA, hC, hl, h0]
        have e2 : dhI l m zs = (bst (runA l m zs n) n : Int) := by simp only [dhI, e1, if_true, hl]
        have e3 : dhM l m zs = (runA l m zs n).getD (bst (runA l m zs n) n) 0 := by simp only [dhM, e1, if_true, hl]
        obtain rfl := e1.symm.trans hq
        have e2 := e2.symm.trans hbi
        have e3 := e3.symm.trans hbm
        have E2 := Lib.hid e2
        have E3 := Lib.hid e3
        clear e1 e2 e3 hq hbi hbm
        have hn0 : ¬ n = 0 := by omega
        have hn1 : ¬ (n : Int) = 0 := by omega
        go_wp2_with fail
        refine HU.out.mono ?_
        rintro e w2 ⟨rfl, hb2⟩
        have hbox := hbox.below hb2 hbox.lt
        have b2 := bstep b1 hb2
        have k0 := hbox.cell 0
        have k1 := hbox.cell 1
        simp only [List.getElem?_cons_zero, List.getElem?_cons_succ] at k0 k1
        go_wp2_with fail
        refine (l20Run_any l m hbd.1 hbd.2 A n c zs _ (hr.below b2) hl hn hall).mono ?_
        rintro e w3 ⟨v3, rfl, ho3, b3⟩
        obtain ⟨A3, c3, rfl, r3, _⟩ := own_rd ho3
        have b3 := bstep b2 b3
        clear k0 k1
        have r4 := r3
        obtain ⟨R, hR⟩ : ∃ R, runA l m zs n = R := ⟨_, rfl⟩
        rw [hR] at r4
        have HR := Lib.hid hR
        clear hR
        go_wp2_with fail
        go_loopw [8, 9] (fun bb i wr => ∃ k : Nat, k ≤ n ∧ (1 ≤ k ∨ False) ∧ i = .int .i64 k ∧ bb = .int .i64 ((bst R k : Nat) : Int) ∧ Below w3.heap.size w3 wr) (fun _ i _ => n - (intOf i).toNat)
        case atStart => exact ⟨1, by omega, .inl (by omega), rfl, by rw [bst_one]; rfl, Below.refl _ _⟩
        case round =>
          obtain ⟨k, hk, hk1, rfl, rfl, hW⟩ := hrel
          have hj : bst R k < n := Nat.lt_of_lt_of_le (bst_lt R k (hk1.elim id False.elim)) hk
          have hstp : bst R (k + 1) = if R.getD k 0 < R.getD (bst R k) 0 then k else bst R k := rfl
          obtain ⟨b, off, rfl, hbl, hc⟩ := int_at r4 hW (by omega)
          have s1 : b < wr.heap.size := Nat.lt_of_lt_of_le hbl hW.size
          obtain ⟨j, hjj⟩ : ∃ j, bst R k = j := ⟨_, rfl⟩
          rw [hjj] at hj hstp
          have cj := hc j hj
          have j1 : (j : Int) < (n : Int) := by omega
          have j0 : (0 : Int) ≤ (j : Int) := by omega
          have i0 : (0 : Int) ≤ (k : Int) := by omega
          rw [hjj]
          have HS := Lib.hid hstp
          have HJ := Lib.hid hjj
          clear hstp hjj
          by_cases hlt : k < n
          · have ck := hc k hlt
            have i1 : (k : Int) < (n : Int) := by omega
            obtain ⟨yk, hyk⟩ : ∃ y, R.getD k 0 = y := ⟨_, rfl⟩
            obtain ⟨yj, hyj⟩ : ∃ y, R.getD j 0 = y := ⟨_, rfl⟩
            have hs := HS.out
            rw [hyk, hyj] at hs
            rw [hyk] at ck
            rw [hyj] at cj
            have HS2 := Lib.hid hs
            clear hs hyk hyj hc HS
            by_cases hx : yk < yj
            · have hs2 : bst R (k + 1) = k := by rw [HS2.out, if_pos hx]
              have H2 := Lib.hid hs2
              clear hs2 HS2
              go_wp2
              (refine wp_region_bel (by kernel_rfl) (by kernel_rfl) ?_; (repeat (go_big_quiet_step ((first | fail)))); refine wpQuiet_nil ?_; intro w' hw'; have hb := below_of hw'; clear hw'; (try clear cW fW zW); (first | (have bW := bstep bW hb) | (have bW := bstep (bdrew bW) hb) | (have bW := bstep (balloc bW _) hb) | (have bW := bstep (bdrewN bW _) hb) | (have bW := hb)); clear hb; obtain ⟨cW, fW⟩ := bcell bW; have zW := bsize bW)
              go_wp2
              go_roundw
              case rel => exact ⟨k + 1, by omega, .inl (by omega), by go_num, by rw [H2.out], by exact bstep hW bW⟩
              case measure => simp [intOf]; omega
            · have hs2 : bst R (k + 1) = j := by rw [HS2.out, if_neg hx]
              have H2 := Lib.hid hs2
              clear hs2 HS2
              go_wp2
              (refine wp_region_bel (by kernel_rfl) (by kernel_rfl) ?_; (repeat (go_big_quiet_step ((first | fail)))); refine wpQuiet_nil ?_; intro w' hw'; have hb := below_of hw'; clear hw'; (try clear cW fW zW); (first | (have bW := bstep bW hb) | (have bW := bstep (bdrew bW) hb) | (have bW := bstep (balloc bW _) hb) | (have bW := bstep (bdrewN bW _) hb) | (have bW := hb)); clear hb; obtain ⟨cW, fW⟩ := bcell bW; have zW := bsize bW)
              go_wp2
              go_roundw
              case rel => exact ⟨k + 1, by omega, .inl (by omega), by go_num, by rw [H2.out], by exact bstep hW bW⟩
              case measure => simp [intOf]; omega
          · have hkn : k = n := by omega
            subst hkn
            have hbi : (j : Int) = bi := by rw [← E2.out, HR.out, HJ.out]
            have hbm : R.getD j 0 = bm := by rw [← E3.out, HR.out, HJ.out]
            subst hbi
            rw [hbm] at cj
            clear hc hbm
            go_wp2
            (refine wp_region_bel (by kernel_rfl) (by kernel_rfl) ?_; (repeat (go_big_quiet_step ((first | fail)))); refine wpQuiet_nil ?_; intro w' hw'; have hb := below_of hw'; clear hw'; (try clear cW fW zW); (first | (have bW := bstep bW hb) | (have bW := bstep (bdrew bW) hb) | (have bW := bstep (balloc bW _) hb) | (have bW := bstep (bdrewN bW _) hb) | (have bW := hb)); clear hb; obtain ⟨cW, fW⟩ := bcell bW; have zW := bsize bW)
            go_wp2
            go_returns
            exact ⟨rfl, bstep b3 (bstep hW bW)⟩
theorem DriestHour_any (l m : Int) (A : Option Addr) (n c : Nat) (zs : List AirT) (w : World) (hr : Rd w 3 A n (airF zs)) (hl : zs.length = n) (hn : n ≤ 140737488355) :
    Calls Try.prog 21 #[.agg #[.int .i64 l, .int .i64 m], .slice A n c] w fun e w' => e = .returned (.tuple #[.int .i64 (dhI l m zs), .int .i64 (dhM l m zs), .bool (dhB l m zs)]) ∧ Below w.heap.size w w' := by
  obtain ⟨q, hq⟩ : ∃ q, dhB l m zs = q := ⟨_, rfl⟩
  obtain ⟨bi, hbi⟩ : ∃ q, dhI l m zs = q := ⟨_, rfl⟩
  obtain ⟨bm, hbm⟩ : ∃ q, dhM l m zs = q := ⟨_, rfl⟩
  rw [hq, hbi, hbm]
  go_enter Try.func21, Try.ntmps21
  rcases hA : bedB l m with _ | _
  · have e1 : dhB l m zs = false := by simp [dhB, mrB, hA]
    obtain ⟨e2, e3⟩ := dh_no e1
    obtain rfl := e1.symm.trans hq
    obtain rfl := e2.symm.trans hbi
    obtain rfl := e3.symm.trans hbm
    clear e1 e2 e3 hq hbi hbm
    have hT := IsFuelbed_any l m
    rw [hA] at hT
    go_wp2_with fail
    refine (hT _).mono ?_
    rintro e w1 ⟨rfl, b1⟩
    go_wp2
    go_returns
    exact ⟨rfl, by (repeat' (first | (with_reducible exact Below.refl _ _) | (with_reducible assumption) | (with_reducible refine balloc ?_ _) | (with_reducible refine bdrew ?_) | (with_reducible refine bdrewN ?_ _) | (with_reducible refine bstep ?_ (by assumption)) | (with_reducible refine bset ?_ ?_ _) | (exact Below.size (by assumption)) | go_size))⟩
  · have hbd : (1 ≤ l ∧ l ≤ 100) ∧ (0 ≤ m ∧ m ≤ 400) := by simp [bedB, inB] at hA; omega
    have hT := IsFuelbed_any l m
    rw [hA] at hT
    have HT := Lib.hid hT
    clear hT
    go_wp2_with fail
    refine (HT.out _).mono ?_
    rintro e w1 ⟨rfl, hb1⟩
    have hbox := (Bk.new w 25 [.int .i64 l, .int .i64 m]).below hb1 (by simp)
    have b1 := bstep (balloc (Below.refl w.heap.size w) _) hb1
    rcases hC : airsB zs with _ | _
    · have e1 : dhB l m zs = false := by simp [dhB, mrB, hC]
      obtain ⟨e2, e3⟩ := dh_no e1
      obtain rfl := e1.symm.trans hq
      obtain rfl := e2.symm.trans hbi
      obtain rfl := e3.symm.trans hbm
      clear e1 e2 e3 hq hbi hbm
      have hU := areAir_any A n c zs w1 (hr.below b1) hl (by omega)
      rw [hC] at hU
      go_wp2_with fail
      refine hU.mono ?_
      rintro e w2 ⟨rfl, b2⟩
      have b2 := bstep b1 b2
      go_wp2
      go_returns
      exact ⟨rfl, by (repeat' (first | (with_reducible exact Below.refl _ _) | (with_reducible assumption) | (with_reducible refine balloc ?_ _) | (with_reducible refine bdrew ?_) | (with_reducible refine bdrewN ?_ _) | (with_reducible refine bstep ?_ (by assumption)) | (with_reducible refine bset ?_ ?_ _) | (exact Below.size (by assumption)) | go_size))⟩
    · have hall : zs.all airP = true := by simp only [airsB, Bool.and_eq_true] at hC; exact hC.2
      have hU := areAir_any A n c zs w1 (hr.below b1) hl (by omega)
      rw [hC] at hU
      have HU := Lib.hid hU
      clear hU
      rcases Nat.eq_zero_or_pos n with h0 | h0
      · have e1 : dhB l m zs = false := by simp [dhB, mrB, hl, h0]
        obtain ⟨e2, e3⟩ := dh_no e1
        obtain rfl := e1.symm.trans hq
        obtain rfl := e2.symm.trans hbi
        obtain rfl := e3.symm.trans hbm
        clear e1 e2 e3 hq hbi hbm
        subst h0
        go_wp2_with fail
        refine HU.out.mono ?_
        rintro e w2 ⟨rfl, b2⟩
        have b2 := bstep b1 b2
        go_wp2
        go_returns
        exact ⟨rfl, by (repeat' (first | (with_reducible exact Below.refl _ _) | (with_reducible assumption) | (with_reducible refine balloc ?_ _) | (with_reducible refine bdrew ?_) | (with_reducible refine bdrewN ?_ _) | (with_reducible refine bstep ?_ (by assumption)) | (with_reducible refine bset ?_ ?_ _) | (exact Below.size (by assumption)) | go_size))⟩
      · have e1 : dhB l m zs = true := by simp [dhB, mrB, hA, hC, hl, h0]
        have e2 : dhI l m zs = (bst (runA l m zs n) n : Int) := by simp only [dhI, e1, if_true, hl]
        have e3 : dhM l m zs = (runA l m zs n).getD (bst (runA l m zs n) n) 0 := by simp only [dhM, e1, if_true, hl]
        obtain rfl := e1.symm.trans hq
        have e2 := e2.symm.trans hbi
        have e3 := e3.symm.trans hbm
        have E2 := Lib.hid e2
        have E3 := Lib.hid e3
        clear e1 e2 e3 hq hbi hbm
        have hn0 : ¬ n = 0 := by omega
        have hn1 : ¬ (n : Int) = 0 := by omega
        go_wp2_with fail
        refine HU.out.mono ?_
        rintro e w2 ⟨rfl, hb2⟩
        have hbox := hbox.below hb2 hbox.lt
        have b2 := bstep b1 hb2
        have k0 := hbox.cell 0
        have k1 := hbox.cell 1
        simp only [List.getElem?_cons_zero, List.getElem?_cons_succ] at k0 k1
        go_wp2_with fail
        refine (run_any l m hbd.1 hbd.2 A n c zs _ (hr.below b2) hl hn hall).mono ?_
        rintro e w3 ⟨v3, rfl, ho3, b3⟩
        obtain ⟨A3, c3, rfl, r3, _⟩ := own_rd ho3
        have b3 := bstep b2 b3
        clear k0 k1
        have r4 := r3
        obtain ⟨R, hR⟩ : ∃ R, runA l m zs n = R := ⟨_, rfl⟩
        rw [hR] at r4
        have HR := Lib.hid hR
        clear hR
        go_wp2_with fail
        go_loopw [8, 29] (fun bb i wr => ∃ k : Nat, k ≤ n ∧ (1 ≤ k ∨ k = 0) ∧ i = .int .i64 k ∧ bb = .int .i64 ((bst R k : Nat) : Int) ∧ Below w3.heap.size w3 wr) (fun _ i _ => n - (intOf i).toNat)
        case atStart => exact ⟨0, Nat.zero_le _, .inr rfl, rfl, rfl, Below.refl _ _⟩
        case round =>
          obtain ⟨k, hk, hk1, rfl, rfl, hW⟩ := hrel
          have hj : bst R k < n := (Nat.eq_zero_or_pos k).elim (fun hz => by subst hz; exact h0) (fun hz => Nat.lt_of_lt_of_le (bst_lt R k hz) hk)
          have hstp : bst R (k + 1) = if R.getD k 0 < R.getD (bst R k) 0 then k else bst R k := rfl
          obtain ⟨b, off, rfl, hbl, hc⟩ := int_at r4 hW (by omega)
          have s1 : b < wr.heap.size := Nat.lt_of_lt_of_le hbl hW.size
          obtain ⟨j, hjj⟩ : ∃ j, bst R k = j := ⟨_, rfl⟩
          rw [hjj] at hj hstp
          have cj := hc j hj
          have j1 : (j : Int) < (n : Int) := by omega
          have j0 : (0 : Int) ≤ (j : Int) := by omega
          have i0 : (0 : Int) ≤ (k : Int) := by omega
          rw [hjj]
          have HS := Lib.hid hstp
          have HJ := Lib.hid hjj
          clear hstp hjj
          by_cases hlt : k < n
          · have ck := hc k hlt
            have i1 : (k : Int) < (n : Int) := by omega
            obtain ⟨yk, hyk⟩ : ∃ y, R.getD k 0 = y := ⟨_, rfl⟩
            obtain ⟨yj, hyj⟩ : ∃ y, R.getD j 0 = y := ⟨_, rfl⟩
            have hs := HS.out
            rw [hyk, hyj] at hs
            rw [hyk] at ck
            rw [hyj] at cj
            have HS2 := Lib.hid hs
            clear hs hyk hyj hc HS
            by_cases hx : yk < yj
            · have hs2 : bst R (k + 1) = k := by rw [HS2.out, if_pos hx]
              have H2 := Lib.hid hs2
              clear hs2 HS2
              go_wp2
              go_roundw
              case rel => exact ⟨k + 1, by omega, .inl (by omega), by go_num, by rw [H2.out], by exact hW⟩
              case measure => simp [intOf]; omega
            · have hs2 : bst R (k + 1) = j := by rw [HS2.out, if_neg hx]
              have H2 := Lib.hid hs2
              clear hs2 HS2
              go_wp2
              go_roundw
              case rel => exact ⟨k + 1, by omega, .inl (by omega), by go_num, by rw [H2.out], by exact hW⟩
              case measure => simp [intOf]; omega
          · have hkn : k = n := by omega
            subst hkn
            have hbi : (j : Int) = bi := by rw [← E2.out, HR.out, HJ.out]
            have hbm : R.getD j 0 = bm := by rw [← E3.out, HR.out, HJ.out]
            subst hbi
            rw [hbm] at cj
            clear hc hbm
            go_wp2
            (refine wp_region_bel (by kernel_rfl) (by kernel_rfl) ?_; (repeat (go_big_quiet_step ((first | fail)))); refine wpQuiet_nil ?_; intro w' hw'; have hb := below_of hw'; clear hw'; (try clear cW fW zW); (first | (have bW := bstep bW hb) | (have bW := bstep (bdrew bW) hb) | (have bW := bstep (balloc bW _) hb) | (have bW := bstep (bdrewN bW _) hb) | (have bW := hb)); clear hb; obtain ⟨cW, fW⟩ := bcell bW; have zW := bsize bW)
            go_wp2
            go_returns
            exact ⟨rfl, bstep b3 (bstep hW bW)⟩
end Go.Proofs.Ytlnfccncbfpoiaa
