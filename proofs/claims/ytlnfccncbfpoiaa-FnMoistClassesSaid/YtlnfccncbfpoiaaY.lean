/-
  HoursInClass of the program and of the reference. Conditions: lengths within the bound of a slice.
-/
import Derived.Test.YtlnfccncbfpoiaaX
import Derived.Test.YtlnfccncbfpoiaaN
namespace Go.Proofs.Ytlnfccncbfpoiaa
open Go.RowKit
set_option maxRecDepth 100000
set_option maxHeartbeats 1000000

def cntA (R : List Int) (j : Int) : Nat → Int
  | 0 => 0
  | k + 1 => if classI (R.getD k 0) = j then cntA R j k + 1 else cntA R j k
theorem cntA_bd (R : List Int) (j : Int) : ∀ k, 0 ≤ cntA R j k ∧ cntA R j k ≤ (k : Int)
  | 0 => by simp [cntA]
  | k + 1 => by
    have h := cntA_bd R j k
    unfold cntA
    split <;> omega
def hcR (R : List Int) (k : Nat) : List Int := [cntA R 0 k, cntA R 1 k, cntA R 2 k, cntA R 3 k]
def hcL (l m : Int) (zs : List AirT) : List Int := if mrB l m zs = true then hcR (runA l m zs zs.length) zs.length else []
theorem hcL_len (l m : Int) (zs : List AirT) : (hcL l m zs).length ≤ 4 := by
  unfold hcL
  split <;> simp [hcR]
theorem hcR_at (R : List Int) (k : Nat) {j : Nat} (hj : j < 4) : (ints (hcR R k))[j]? = some (.int .i64 (cntA R j k)) := by
  match j, hj with
  | 0, _ => rfl
  | 1, _ => rfl
  | 2, _ => rfl
  | 3, _ => rfl
theorem hcR_step {R : List Int} {k j : Nat} {x : Int} (hj : j < 4) (hk : k < R.length) (hx : R[k] = x) (hc : classI x = (j : Int)) : (ints (hcR R k)).set j (.int .i64 (cntA R j k + 1)) = ints (hcR R (k + 1)) := by
  have e : R.getD k 0 = x := by rw [List.getD_eq_getElem?_getD, List.getElem?_eq_getElem hk, hx]; rfl
  match j, hj with
  | 0, _ => simp only [hcR, cntA, e, hc]; simp [ints]
  | 1, _ => simp only [hcR, cntA, e, hc]; simp [ints]
  | 2, _ => simp only [hcR, cntA, e, hc]; simp [ints]
  | 3, _ => simp only [hcR, cntA, e, hc]; simp [ints]
theorem class_nat (x : Int) : ∃ j : Nat, classI x = (j : Int) ∧ j < 4 := by
  have h := classI_bd x
  exact ⟨(classI x).toNat, by omega, by omega⟩
theorem classOf_of {x : Int} {j : Nat} (h : classI x = (j : Int)) (w : World) : Calls Try.prog 51 #[.int .i64 x] w fun e w' => e = .returned (.int .i64 (j : Int)) ∧ w = w' := by rw [← h]; exact classOf_any x w
theorem l20Class_of {x : Int} {j : Nat} (h : classI x = (j : Int)) (w : World) : Calls Try.prog 52 #[.int .i64 x] w fun e w' => e = .returned (.int .i64 (j : Int)) ∧ w = w' := by rw [← h]; exact l20Class_any x w
theorem make_four (W : World) : (Instr.makeSlice 38 (.int .i64 4) (.int .i64 4)).run Try.prog W = .ok (.slice (some ⟨W.heap.size, 0, none⟩) 4 4) (W.alloc (.cells #[.int .i64 0, .int .i64 0, .int .i64 0, .int .i64 0] 3)) := by
  obtain ⟨i0, hi0, hz0, hz1, hz2⟩ := info_parts (show (Try.prog.info? 3).map (fun i => (i.zero, i.size, i.bytes)) = some (some (.int .i64 0), 1, 8) from by kernel_rfl)
  have h := run_make (P := Try.prog) W 38 3 i0 (.int .i64 0) Try.underlying38 hi0 hz0 .i64 .i64 4 4 (by omega) (by omega) (by rw [hz2]; omega) (by omega)
  rw [hz1] at h
  simpa [Value.cells, madeCells_one] using h
theorem sHoursInClass_is {q : Bool} {L : List Int} {l m : Int} {A : Option Addr} {n c : Nat} {zs : List AirT} (hq : mrB l m zs = q) (hL : hcL l m zs = L) (w : World) (hr : Rd w 3 A n (airF zs)) (hl : zs.length = n) (hn : n ≤ 140737488355) :
    Calls Try.prog 24 #[.agg #[.int .i64 l, .int .i64 m], .slice A n c] w fun e w' => ∃ v, e = .returned (.tuple #[v, .bool q]) ∧ w'.ownsRow w.heap.size 3 1 v L.length (ints L) ∧ Below w.heap.size w w' := by
  have hmk := make_four
  have HMK := Lib.hid hmk
  clear hmk
  go_enter Try.func24, Try.ntmps24
  rcases hA : bedB l m with _ | _
  · have e1 : mrB l m zs = false := by simp [mrB, hA]
    have e2 : hcL l m zs = [] := by simp [hcL, e1]
    obtain rfl := e1.symm.trans hq
    obtain rfl := e2.symm.trans hL
    clear e1 e2 hq hL
    have hT := l20Bed_any l m
    rw [hA] at hT
    go_wp2_with fail
    refine (hT _).mono ?_
    rintro e w1 ⟨rfl, b1⟩
    have b1 := bstep (balloc (Below.refl w.heap.size w) _) b1
    have := b1.size
    go_wp2
    go_returns
    exact ⟨_, rfl, own_lit' rfl (by omega), by (repeat' (first | (with_reducible exact Below.refl _ _) | (with_reducible assumption) | (with_reducible refine balloc ?_ _) | (with_reducible refine bdrew ?_) | (with_reducible refine bdrewN ?_ _) | (with_reducible refine bstep ?_ (by assumption)) | (with_reducible refine bset ?_ ?_ _) | (exact Below.size (by assumption)) | go_size))⟩
  · have hbd : (1 ≤ l ∧ l ≤ 100) ∧ (0 ≤ m ∧ m ≤ 400) := by simp [bedB, inB] at hA; omega
    have hT := l20Bed_any l m
    rw [hA] at hT
    have HT := Lib.hid hT
    clear hT
    go_wp2_with fail
    refine (HT.out _).mono ?_
    rintro e w1 ⟨rfl, hb1⟩
    have hbox := (Bk.new w 25 [.int .i64 l, .int .i64 m]).below hb1 (by simp)
    have b1 := bstep (balloc (Below.refl w.heap.size w) _) hb1
    rcases hC : airsB zs with _ | _
    · have e1 : mrB l m zs = false := by simp [mrB, hC]
      have e2 : hcL l m zs = [] := by simp [hcL, e1]
      obtain rfl := e1.symm.trans hq
      obtain rfl := e2.symm.trans hL
      clear e1 e2 hq hL
      have hU := l20List_any A n c zs w1 (hr.below b1) hl (by omega)
      rw [hC] at hU
      go_wp2_with fail
      refine hU.mono ?_
      rintro e w2 ⟨rfl, b2⟩
      have b2 := bstep b1 b2
      have := b2.size
      go_wp2
      go_returns
      exact ⟨_, rfl, own_lit' rfl (by omega), by (repeat' (first | (with_reducible exact Below.refl _ _) | (with_reducible assumption) | (with_reducible refine balloc ?_ _) | (with_reducible refine bdrew ?_) | (with_reducible refine bdrewN ?_ _) | (with_reducible refine bstep ?_ (by assumption)) | (with_reducible refine bset ?_ ?_ _) | (exact Below.size (by assumption)) | go_size))⟩
    · have e1 : mrB l m zs = true := by simp [mrB, hA, hC]
      have e2 : hcL l m zs = hcR (runA l m zs n) n := by simp only [hcL, e1, if_true, hl]
      obtain rfl := e1.symm.trans hq
      have HL := Lib.hid (e2.symm.trans hL)
      have hall : zs.all airP = true := by simp only [airsB, Bool.and_eq_true] at hC; exact hC.2
      clear e1 e2 hq hL
      have hU := l20List_any A n c zs w1 (hr.below b1) hl (by omega)
      rw [hC] at hU
      go_wp2_with fail
      refine hU.mono ?_
      rintro e w2 ⟨rfl, hb2⟩
      have hmk := HMK.out
      have hbox := hbox.below hb2 hbox.lt
      have b2 := bstep b1 hb2
      have hW := b2.size
      have hbx := hbox.alloc (.cells #[.int .i64 0, .int .i64 0, .int .i64 0, .int .i64 0] 3)
      have k0 := hbx.cell 0
      have k1 := hbx.cell 1
      simp only [List.getElem?_cons_zero, List.getElem?_cons_succ] at k0 k1
      go_wp2_with fail
      clear hmk
      refine (l20Run_any l m hbd.1 hbd.2 A n c zs _ (hr.below (balloc b2 _)) hl hn hall).mono ?_
      rintro e w3 ⟨v3, rfl, ho3, hb3⟩
      have b3 := bstep (balloc b2 _) hb3
      have hO := (Bk.new w2 3 [.int .i64 0, .int .i64 0, .int .i64 0, .int .i64 0]).below hb3 (by simp)
      have ho3 := own_weaken (base' := w2.heap.size + 1) ho3 (by simp)
      clear k0 k1 hbx hbox
      obtain ⟨R, hR⟩ : ∃ R, runA l m zs n = R := ⟨_, rfl⟩
      have r3l : R.length = n := by rw [← hR, runA_len]
      have hLR := HL.out
      rw [hR] at ho3 hLR
      have HLR := Lib.hid hLR
      clear hLR HL
      obtain ⟨A3, c3, rfl, _, _⟩ := own_rd ho3
      have hgl := hO.lt
      clear hR
      go_wp2_with fail
      go_loopw [8] (fun i wr => ∃ k : Nat, k ≤ n ∧ i = .int .i64 k ∧ Bk wr w2.heap.size 3 (ints (hcR R k)) ∧ wr.ownsRow (w2.heap.size + 1) 3 1 (.slice A3 n c3) n (ints R) ∧ Below w.heap.size w wr) (fun i _ => n - (intOf i).toNat)
      case atStart => exact ⟨0, Nat.zero_le _, rfl, hO, ho3, b3⟩
      case round =>
        obtain ⟨k, hk, rfl, hB, ho, hV⟩ := hrel
        by_cases hlt : k < n
        · obtain ⟨b, off, x, rfl, hbl, hx, hc0⟩ := ints_at (own_r ho) (Below.refl _ _) r3l hlt
          have hk2 : k < R.length := by rw [r3l]; exact hlt
          obtain ⟨j, hj, hj4⟩ := class_nat x
          have hst := hcR_step hj4 hk2 hx hj
          have hbd := cntA_bd R j k
          have hcj := hcR_at R k hj4
          rw [← hB.cell j] at hcj
          have hfj := hB.frozen j
          obtain ⟨u, hu⟩ : ∃ u, cntA R j k = u := ⟨_, rfl⟩
          rw [hu] at hst hbd hcj
          have HST := Lib.hid hst
          have HBK := Lib.hid hB
          have HO := Lib.hid ho
          have j0 : (0 : Int) ≤ (j : Int) := by omega
          have j4 : (j : Int) < 4 := by omega
          have i0 : (0 : Int) ≤ (k : Int) := by omega
          have i1 : (k : Int) < (n : Int) := by omega
          have gl := hB.lt
          have bl : b < wr.heap.size := hbl
          clear hst hB ho hx hu
          go_wp2_with (first | (go_at_call 52; refine (l20Class_of hj _).mono ?_; rintro e w' ⟨rfl, rfl⟩))
          go_roundw
          case rel => exact ⟨k + 1, by omega, by go_num, (HBK.out.set_ j (.int .i64 (u + 1))).cast HST.out, own_grown HO.out (onlySet _ ⟨w2.heap.size, j, none⟩ _) (Nat.lt_succ_self _), by exact bset hV (by exact hW) _⟩
          case measure => simp [intOf]; omega
        · have hkn : k = n := by omega
          subst hkn
          have HBK := Lib.hid hB
          clear hB ho
          go_wp2
          go_returns
          rw [← HLR.out]
          exact ⟨_, rfl, bk_own hW HBK.out (Nat.le_refl _) (by unfold maxLen; omega) rfl rfl, hV⟩
theorem HoursInClass_is {q : Bool} {L : List Int} {l m : Int} {A : Option Addr} {n c : Nat} {zs : List AirT} (hq : mrB l m zs = q) (hL : hcL l m zs = L) (w : World) (hr : Rd w 3 A n (airF zs)) (hl : zs.length = n) (hn : n ≤ 140737488355) :
    Calls Try.prog 23 #[.agg #[.int .i64 l, .int .i64 m], .slice A n c] w fun e w' => ∃ v, e = .returned (.tuple #[v, .bool q]) ∧ w'.ownsRow w.heap.size 3 1 v L.length (ints L) ∧ Below w.heap.size w w' := by
  have hmk := make_four
  have HMK := Lib.hid hmk
  clear hmk
  go_enter Try.func23, Try.ntmps23
  rcases hA : bedB l m with _ | _
  · have e1 : mrB l m zs = false := by simp [mrB, hA]
    have e2 : hcL l m zs = [] := by simp [hcL, e1]
    obtain rfl := e1.symm.trans hq
    obtain rfl := e2.symm.trans hL
    clear e1 e2 hq hL
    have hT := IsFuelbed_any l m
    rw [hA] at hT
    go_wp2_with fail
    refine (hT _).mono ?_
    rintro e w1 ⟨rfl, b1⟩
    have b1 := bstep (balloc (Below.refl w.heap.size w) _) b1
    have := b1.size
    go_wp2
    go_returns
    exact ⟨_, rfl, World.ownsRow_nil _ _ _ _, by (repeat' (first | (with_reducible exact Below.refl _ _) | (with_reducible assumption) | (with_reducible refine balloc ?_ _) | (with_reducible refine bdrew ?_) | (with_reducible refine bdrewN ?_ _) | (with_reducible refine bstep ?_ (by assumption)) | (with_reducible refine bset ?_ ?_ _) | (exact Below.size (by assumption)) | go_size))⟩
  · have hbd : (1 ≤ l ∧ l ≤ 100) ∧ (0 ≤ m ∧ m ≤ 400) := by simp [bedB, inB] at hA; omega
    have hT := IsFuelbed_any l m
    rw [hA] at hT
    have HT := Lib.hid hT
    clear hT
    go_wp2_with fail
    refine (HT.out _).mono ?_
    rintro e w1 ⟨rfl, hb1⟩
    have hbox := (Bk.new w 25 [.int .i64 l, .int .i64 m]).below hb1 (by simp)
    have b1 := bstep (balloc (Below.refl w.heap.size w) _) hb1
    rcases hC : airsB zs with _ | _
    · have e1 : mrB l m zs = false := by simp [mrB, hC]
      have e2 : hcL l m zs = [] := by simp [hcL, e1]
      obtain rfl := e1.symm.trans hq
      obtain rfl := e2.symm.trans hL
      clear e1 e2 hq hL
      have hU := areAir_any A n c zs w1 (hr.below b1) hl (by omega)
      rw [hC] at hU
      go_wp2_with fail
      refine hU.mono ?_
      rintro e w2 ⟨rfl, b2⟩
      have b2 := bstep b1 b2
      have := b2.size
      go_wp2
      go_returns
      exact ⟨_, rfl, World.ownsRow_nil _ _ _ _, by (repeat' (first | (with_reducible exact Below.refl _ _) | (with_reducible assumption) | (with_reducible refine balloc ?_ _) | (with_reducible refine bdrew ?_) | (with_reducible refine bdrewN ?_ _) | (with_reducible refine bstep ?_ (by assumption)) | (with_reducible refine bset ?_ ?_ _) | (exact Below.size (by assumption)) | go_size))⟩
    · have e1 : mrB l m zs = true := by simp [mrB, hA, hC]
      have e2 : hcL l m zs = hcR (runA l m zs n) n := by simp only [hcL, e1, if_true, hl]
      obtain rfl := e1.symm.trans hq
      have HL := Lib.hid (e2.symm.trans hL)
      have hall : zs.all airP = true := by simp only [airsB, Bool.and_eq_true] at hC; exact hC.2
      clear e1 e2 hq hL
      have hU := areAir_any A n c zs w1 (hr.below b1) hl (by omega)
      rw [hC] at hU
      go_wp2_with fail
      refine hU.mono ?_
      rintro e w2 ⟨rfl, hb2⟩
      have hmk := HMK.out
      have hbox := hbox.below hb2 hbox.lt
      have b2 := bstep b1 hb2
      have hW := b2.size
      have hbx := hbox.alloc (.cells #[.int .i64 0, .int .i64 0, .int .i64 0, .int .i64 0] 3)
      have k0 := hbx.cell 0
      have k1 := hbx.cell 1
      simp only [List.getElem?_cons_zero, List.getElem?_cons_succ] at k0 k1
      go_wp2_with fail
      clear hmk
      refine (run_any l m hbd.1 hbd.2 A n c zs _ (hr.below (balloc b2 _)) hl hn hall).mono ?_
      rintro e w3 ⟨v3, rfl, ho3, hb3⟩
      have b3 := bstep (balloc b2 _) hb3
      have hO := (Bk.new w2 3 [.int .i64 0, .int .i64 0, .int .i64 0, .int .i64 0]).below hb3 (by simp)
      have ho3 := own_weaken (base' := w2.heap.size + 1) ho3 (by simp)
      clear k0 k1 hbx hbox
      obtain ⟨R, hR⟩ : ∃ R, runA l m zs n = R := ⟨_, rfl⟩
      have r3l : R.length = n := by rw [← hR, runA_len]
      have hLR := HL.out
      rw [hR] at ho3 hLR
      have HLR := Lib.hid hLR
      clear hLR HL
      obtain ⟨A3, c3, rfl, _, _⟩ := own_rd ho3
      have hgl := hO.lt
      clear hR
      go_wp2_with fail
      go_loopw [22] (fun i wr => ∃ k : Nat, k ≤ n ∧ i = .int .i64 k ∧ Bk wr w2.heap.size 3 (ints (hcR R k)) ∧ wr.ownsRow (w2.heap.size + 1) 3 1 (.slice A3 n c3) n (ints R) ∧ Below w.heap.size w wr) (fun i _ => n - (intOf i).toNat)
      case atStart => exact ⟨0, Nat.zero_le _, rfl, hO, ho3, b3⟩
      case round =>
        obtain ⟨k, hk, rfl, hB, ho, hV⟩ := hrel
        by_cases hlt : k < n
        · obtain ⟨b, off, x, rfl, hbl, hx, hc0⟩ := ints_at (own_r ho) (Below.refl _ _) r3l hlt
          have hk2 : k < R.length := by rw [r3l]; exact hlt
          obtain ⟨j, hj, hj4⟩ := class_nat x
          have hst := hcR_step hj4 hk2 hx hj
          have hbd := cntA_bd R j k
          have hcj := hcR_at R k hj4
          rw [← hB.cell j] at hcj
          have hfj := hB.frozen j
          obtain ⟨u, hu⟩ : ∃ u, cntA R j k = u := ⟨_, rfl⟩
          rw [hu] at hst hbd hcj
          have HST := Lib.hid hst
          have HBK := Lib.hid hB
          have HO := Lib.hid ho
          have j0 : (0 : Int) ≤ (j : Int) := by omega
          have j4 : (j : Int) < 4 := by omega
          have i0 : (0 : Int) ≤ (k : Int) := by omega
          have i1 : (k : Int) < (n : Int) := by omega
          have gl := hB.lt
          have bl : b < wr.heap.size := hbl
          clear hst hB ho hx hu
          go_wp2_with (first | (go_at_call 51; refine (classOf_of hj _).mono ?_; rintro e w' ⟨rfl, rfl⟩))
          go_roundw
          case rel => exact ⟨k + 1, by omega, by go_num, (HBK.out.set_ j (.int .i64 (u + 1))).cast HST.out, own_grown HO.out (onlySet _ ⟨w2.heap.size, j, none⟩ _) (Nat.lt_succ_self _), by exact bset hV (by exact hW) _⟩
          case measure => simp [intOf]; omega
        · have hkn : k = n := by omega
          subst hkn
          have HBK := Lib.hid hB
          clear hB ho
          go_wp2
          go_returns
          rw [← HLR.out]
          exact ⟨_, rfl, bk_own hW HBK.out (Nat.le_refl _) (by unfold maxLen; omega) rfl rfl, hV⟩
end Go.Proofs.Ytlnfccncbfpoiaa
