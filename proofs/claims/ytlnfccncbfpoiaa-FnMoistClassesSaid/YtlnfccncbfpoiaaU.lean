/-
  MoistureRun of the program and of the reference. Conditions: lengths within the bound of a slice.
-/
import Derived.Test.YtlnfccncbfpoiaaQ
namespace Go.Proofs.Ytlnfccncbfpoiaa
open Go.RowKit
set_option maxRecDepth 100000
set_option maxHeartbeats 1000000

def mrB (l m : Int) (zs : List AirT) : Bool := bedB l m && airsB zs
def mrL (l m : Int) (zs : List AirT) : List Int := if mrB l m zs = true then runA l m zs zs.length else []
theorem sMoistureRun_is {q : Bool} {L : List Int} {l m : Int} {A : Option Addr} {n c : Nat} {zs : List AirT} (hq : mrB l m zs = q) (hL : mrL l m zs = L) (w : World) (hr : Rd w 3 A n (airF zs)) (hl : zs.length = n) (hn : n ≤ 140737488355) :
    Calls Try.prog 15 #[.agg #[.int .i64 l, .int .i64 m], .slice A n c] w fun e w' => ∃ v, e = .returned (.tuple #[v, .bool q]) ∧ w'.ownsRow w.heap.size 3 1 v L.length (ints L) ∧ Below w.heap.size w w' := by
  go_enter Try.func15, Try.ntmps15
  rcases hA : bedB l m with _ | _
  · have e1 : mrB l m zs = false := by simp [mrB, hA]
    have e2 : mrL l m zs = [] := by simp [mrL, e1]
    obtain rfl := e1.symm.trans hq
    obtain rfl := e2.symm.trans hL
    clear e1 e2 hq hL
    have hT := l20Bed_any l m
    rw [hA] at hT
    go_wp2_with fail
    refine (hT _).mono ?_
    rintro e w1 ⟨rfl, b1⟩
    have b1 := bstep (balloc (Below.refl w.heap.size w) _) b1
    have := b1.size
    go_wp2
    go_returns
    exact ⟨_, rfl, own_lit' rfl (by omega), by (repeat' (first | (with_reducible exact Below.refl _ _) | (with_reducible assumption) | (with_reducible refine balloc ?_ _) | (with_reducible refine bdrew ?_) | (with_reducible refine bdrewN ?_ _) | (with_reducible refine bstep ?_ (by assumption)) | (with_reducible refine bset ?_ ?_ _) | (exact Below.size (by assumption)) | go_size))⟩
  · have hbd : (1 ≤ l ∧ l ≤ 100) ∧ (0 ≤ m ∧ m ≤ 400) := by simp [bedB, inB] at hA; omega
    have hT := l20Bed_any l m
    rw [hA] at hT
    have HT := Lib.hid hT
    clear hT
    go_wp2_with fail
    refine (HT.out _).mono ?_
    rintro e w1 ⟨rfl, hb1⟩
    have hbox := (Bk.new w 25 [.int .i64 l, .int .i64 m]).below hb1 (by simp)
    have b1 := bstep (balloc (Below.refl w.heap.size w) _) hb1
    rcases hC : airsB zs with _ | _
    · have e1 : mrB l m zs = false := by simp [mrB, hC]
      have e2 : mrL l m zs = [] := by simp [mrL, e1]
      obtain rfl := e1.symm.trans hq
      obtain rfl := e2.symm.trans hL
      clear e1 e2 hq hL
      have hU := l20List_any A n c zs w1 (hr.below b1) hl (by omega)
      rw [hC] at hU
      go_wp2_with fail
      refine hU.mono ?_
      rintro e w2 ⟨rfl, b2⟩
      have b2 := bstep b1 b2
      have := b2.size
      go_wp2
      go_returns
      exact ⟨_, rfl, own_lit' rfl (by omega), by (repeat' (first | (with_reducible exact Below.refl _ _) | (with_reducible assumption) | (with_reducible refine balloc ?_ _) | (with_reducible refine bdrew ?_) | (with_reducible refine bdrewN ?_ _) | (with_reducible refine bstep ?_ (by assumption)) | (with_reducible refine bset ?_ ?_ _) | (exact Below.size (by assumption)) | go_size))⟩
    · have e1 : mrB l m zs = true := by simp [mrB, hA, hC]
      have e2 : mrL l m zs = runA l m zs zs.length := by simp only [mrL, e1, if_true]
      obtain rfl := e1.symm.trans hq
      obtain rfl := e2.symm.trans hL
      have hall : zs.all airP = true := by simp only [airsB, Bool.and_eq_true] at hC; exact hC.2
      clear e1 e2 hq hL
      have hU := l20List_any A n c zs w1 (hr.below b1) hl (by omega)
      rw [hC] at hU
      go_wp2_with fail
      refine hU.mono ?_
      rintro e w2 ⟨rfl, hb2⟩
      have hbox := hbox.below hb2 hbox.lt
      have b2 := bstep b1 hb2
      have k0 := hbox.cell 0
      have k1 := hbox.cell 1
      simp only [List.getElem?_cons_zero, List.getElem?_cons_succ] at k0 k1
      go_wp2_with fail
      refine (l20Run_any l m hbd.1 hbd.2 A n c zs _ (hr.below b2) hl hn hall).mono ?_
      rintro e w3 ⟨v3, rfl, ho3, b3⟩
      have ho3 := own_weaken (base' := w.heap.size) ho3 b2.size
      have b3 := bstep b2 b3
      have HO := Lib.hid ho3
      clear ho3 k0 k1
      go_wp2
      go_returns
      exact ⟨_, rfl, by rw [runA_len, hl]; exact HO.out, b3⟩
theorem MoistureRun_is {q : Bool} {L : List Int} {l m : Int} {A : Option Addr} {n c : Nat} {zs : List AirT} (hq : mrB l m zs = q) (hL : mrL l m zs = L) (w : World) (hr : Rd w 3 A n (airF zs)) (hl : zs.length = n) (hn : n ≤ 140737488355) :
    Calls Try.prog 14 #[.agg #[.int .i64 l, .int .i64 m], .slice A n c] w fun e w' => ∃ v, e = .returned (.tuple #[v, .bool q]) ∧ w'.ownsRow w.heap.size 3 1 v L.length (ints L) ∧ Below w.heap.size w w' := by
  go_enter Try.func14, Try.ntmps14
  rcases hA : bedB l m with _ | _
  · have e1 : mrB l m zs = false := by simp [mrB, hA]
    have e2 : mrL l m zs = [] := by simp [mrL, e1]
    obtain rfl := e1.symm.trans hq
    obtain rfl := e2.symm.trans hL
    clear e1 e2 hq hL
    have hT := IsFuelbed_any l m
    rw [hA] at hT
    go_wp2_with fail
    refine (hT _).mono ?_
    rintro e w1 ⟨rfl, b1⟩
    have b1 := bstep (balloc (Below.refl w.heap.size w) _) b1
    have := b1.size
    go_wp2
    go_returns
    exact ⟨_, rfl, World.ownsRow_nil _ _ _ _, by (repeat' (first | (with_reducible exact Below.refl _ _) | (with_reducible assumption) | (with_reducible refine balloc ?_ _) | (with_reducible refine bdrew ?_) | (with_reducible refine bdrewN ?_ _) | (with_reducible refine bstep ?_ (by assumption)) | (with_reducible refine bset ?_ ?_ _) | (exact Below.size (by assumption)) | go_size))⟩
  · have hbd : (1 ≤ l ∧ l ≤ 100) ∧ (0 ≤ m ∧ m ≤ 400) := by simp [bedB, inB] at hA; omega
    have hT := IsFuelbed_any l m
    rw [hA] at hT
    have HT := Lib.hid hT
    clear hT
    go_wp2_with fail
    refine (HT.out _).mono ?_
    rintro e w1 ⟨rfl, hb1⟩
    have hbox := (Bk.new w 25 [.int .i64 l, .int .i64 m]).below hb1 (by simp)
    have b1 := bstep (balloc (Below.refl w.heap.size w) _) hb1
    rcases hC : airsB zs with _ | _
    · have e1 : mrB l m zs = false := by simp [mrB, hC]
      have e2 : mrL l m zs = [] := by simp [mrL, e1]
      obtain rfl := e1.symm.trans hq
      obtain rfl := e2.symm.trans hL
      clear e1 e2 hq hL
      have hU := areAir_any A n c zs w1 (hr.below b1) hl (by omega)
      rw [hC] at hU
      go_wp2_with fail
      refine hU.mono ?_
      rintro e w2 ⟨rfl, b2⟩
      have b2 := bstep b1 b2
      have := b2.size
      go_wp2
      go_returns
      exact ⟨_, rfl, World.ownsRow_nil _ _ _ _, by (repeat' (first | (with_reducible exact Below.refl _ _) | (with_reducible assumption) | (with_reducible refine balloc ?_ _) | (with_reducible refine bdrew ?_) | (with_reducible refine bdrewN ?_ _) | (with_reducible refine bstep ?_ (by assumption)) | (with_reducible refine bset ?_ ?_ _) | (exact Below.size (by assumption)) | go_size))⟩
    · have e1 : mrB l m zs = true := by simp [mrB, hA, hC]
      have e2 : mrL l m zs = runA l m zs zs.length := by simp only [mrL, e1, if_true]
      obtain rfl := e1.symm.trans hq
      obtain rfl := e2.symm.trans hL
      have hall : zs.all airP = true := by simp only [airsB, Bool.and_eq_true] at hC; exact hC.2
      clear e1 e2 hq hL
      have hU := areAir_any A n c zs w1 (hr.below b1) hl (by omega)
      rw [hC] at hU
      go_wp2_with fail
      refine hU.mono ?_
      rintro e w2 ⟨rfl, hb2⟩
      have hbox := hbox.below hb2 hbox.lt
      have b2 := bstep b1 hb2
      have k0 := hbox.cell 0
      have k1 := hbox.cell 1
      simp only [List.getElem?_cons_zero, List.getElem?_cons_succ] at k0 k1
      go_wp2_with fail
      refine (run_any l m hbd.1 hbd.2 A n c zs _ (hr.below b2) hl hn hall).mono ?_
      rintro e w3 ⟨v3, rfl, ho3, b3⟩
      have ho3 := own_weaken (base' := w.heap.size) ho3 b2.size
      have b3 := bstep b2 b3
      have HO := Lib.hid ho3
      clear ho3 k0 k1
      go_wp2
      go_returns
      exact ⟨_, rfl, by rw [runA_len, hl]; exact HO.out, b3⟩
end Go.Proofs.Ytlnfccncbfpoiaa
