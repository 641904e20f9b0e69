/-
  FnExactStateChanges, walked. Conditions: none beyond the layout of its arguments.
-/
import Derived.Test.YtgmofnceheapmaaZ
namespace Go.Proofs.Ytgmofnceheapmaa
open Go.RowKit
set_option maxHeartbeats 4000000

theorem chgL_len (zs : List SituationT) : (chgL zs).length ≤ zs.length := by
  unfold chgL
  split
  · exact chg_len zs _
  · exact Nat.zero_le _
theorem own_grown {w w' : World} {base k n : Nat} {t : TypeId} {v : Value} {xs : List Value} {g : Nat} (h : w.ownsRow base t k v n xs) (hg : w.grownBy w' (some g)) (hne : g < base) : w'.ownsRow base t k v n xs :=
  h.kept hg (by
    cases hv : v.ownBlock with
    | none => exact .inl rfl
    | some b => exact .inr (fun e => by cases e; have := (h.lt g hv).1; omega))
theorem eqIntS_yes {A B : Option Addr} {n m c d : Nat} {xs ys : List Int} (w : World) (hx : Rd w 1 A n (ints xs)) (hy : Rd w 1 B m (ints ys)) (hn : n ≤ 9223372036854775807) (h : xs = ys) :
    Calls Try.prog 34 #[.slice A n c, .slice B m d] w fun e w' => e = .returned (.bool true) ∧ Below w.heap.size w w' := by
  have h2 := eqIntS_any A B n m c d xs ys w hx hy hn
  rw [decide_eq_true h] at h2
  exact h2
theorem sStateChanges_is {m : Nat} {q : Bool} {A : Option Addr} {n c : Nat} {zs : List SituationT} (h : seriesB zs = q) (hm : (chgL zs).length = m) (w : World) (hr : Rd w 6 A n (sitF zs)) (hl : zs.length = n) (hn : n ≤ 140737488355) :
    Calls Try.prog 32 #[.slice A n c] w fun e w' => ∃ A' c', e = .returned (.tuple #[.slice A' m c', .bool q]) ∧ w'.ownsRow w.heap.size 3 1 (.slice A' m c') m (ints (chgL zs)) ∧ Below w.heap.size w w' := by
  subst h; subst hm
  refine (sStateChanges_any A n c zs w hr hl hn).mono ?_
  rintro e w' ⟨v, rfl, ho, hb⟩
  obtain ⟨A2, c2, rfl, r2, hm2⟩ := own_rd ho
  exact ⟨A2, c2, rfl, ho, hb⟩
theorem StateChanges_is {m : Nat} {q : Bool} {A : Option Addr} {n c : Nat} {zs : List SituationT} (h : seriesB zs = q) (hm : (chgL zs).length = m) (w : World) (hr : Rd w 6 A n (sitF zs)) (hl : zs.length = n) (hn : n ≤ 140737488355) :
    Calls Try.prog 33 #[.slice A n c] w fun e w' => ∃ A' c', e = .returned (.tuple #[.slice A' m c', .bool q]) ∧ w'.ownsRow w.heap.size 3 1 (.slice A' m c') m (ints (chgL zs)) ∧ Below w.heap.size w w' := by
  subst h; subst hm
  refine (StateChanges_any A n c zs w hr hl hn).mono ?_
  rintro e w' ⟨v, rfl, ho, hb⟩
  obtain ⟨A2, c2, rfl, r2, hm2⟩ := own_rd ho
  exact ⟨A2, c2, rfl, ho, hb⟩
theorem own_r {w : World} {base k n : Nat} {t : TypeId} {A : Option Addr} {c : Nat} {xs : List Value} (h : w.ownsRow base t k (.slice A n c) n xs) : Rd w k A n xs := by
  obtain ⟨A', c', hv, hr, _⟩ := own_rd h
  simp only [Value.slice.injEq] at hv
  obtain ⟨rfl, _, rfl⟩ := hv
  exact hr
theorem own_grownBy {w w' : World} {base k n B : Nat} {t : TypeId} {v : Value} {xs : List Value} {a : World} (h : w.ownsRow base t k v n xs) (hb : Below B a w) (hg : w.grownBy w' v.ownBlock) (hB : B ≤ base) (hB2 : B ≤ w.heap.size) : Below B a w' :=
  hb.grown hg hB2 (fun g e => by have := (h.lt g e).1; omega)
theorem fnExactStateChanges_walk (A : Option Addr) (n c : Nat) (zs : List SituationT) (w : World) (hr : Rd w 6 A n (sitF zs)) (hl : zs.length = n) (hn : n ≤ 9223372036854775807) (_ok : ∀ z ∈ zs, I64 z.1 ∧ I64 z.2.1 ∧ I64 z.2.2.1 ∧ I64 z.2.2.2.1 ∧ I64 z.2.2.2.2.1 ∧ I64 z.2.2.2.2.2) :
    Calls Try.prog 10 #[.slice A n c] w fun e w' => e = .returned (.bool true) ∧ Below w.heap.size w w' := by
  go_enter Try.func10, Try.ntmps10
  go_wp2_with fail
  refine (szSituationS_any A n c 1048576 w (by omega) (by omega)).mono ?_
  rintro e w0 ⟨rfl, rfl⟩
  by_cases hbig : n ≤ 1048576
  · have hs : 0 ≤ szI n 1048576 := by unfold szI; split <;> omega
    obtain ⟨m, hm⟩ : ∃ m, (chgL zs).length = m := ⟨_, rfl⟩
    have hmn := chgL_len zs
    rw [hm, hl] at hmn
    obtain ⟨q, hq⟩ : ∃ q : Bool, seriesB zs = q := ⟨_, rfl⟩
    go_wp2_with fail
    refine (toSituationS_any A n c zs _ hr hl (by omega)).mono ?_
    rintro e w1 ⟨g1, rfl, hg1, hB1, hb1⟩
    go_wp2_with fail
    refine (sStateChanges_is hq hm _ (sit_rd hB1 hl) hl (by omega)).mono ?_
    rintro e w2 ⟨A2, c2, rfl, ho2, hb2⟩
    have r20 := own_r ho2
    have r2 := r20
    have b2 := bstep hb1 hb2
    go_wp2_with fail
    refine (toSituationS_any A n c zs _ (hr.below b2) hl (by omega)).mono ?_
    rintro e w3 ⟨g3, rfl, hg3, hB3, hb3⟩
    have b3 := bstep b2 hb3
    have r2 := r2.below hb3
    go_wp2_with fail
    refine (StateChanges_is hq hm _ (sit_rd hB3 hl) hl (by omega)).mono ?_
    rintro e w4 ⟨A4, c4, rfl, ho4, hb4⟩
    have r4 := own_r ho4
    have b4 := bstep b3 hb4
    have r2 := r2.below hb4
    have hB4 := hB3.below hb4 hB3.lt
    go_wp2_with fail
    refine (eqIntS_yes _ r4 r2 (by omega) rfl).mono ?_
    rintro e w5 ⟨rfl, hb5⟩
    have b5 := bstep b4 hb5
    have r2 := r2.below hb5
    have ho5 := own_below ho4 hb5
    have hB5 := hB4.below hb5 hB4.lt
    go_wp2_with fail
    refine (toSituationS_any A n c zs _ (hr.below b5) hl (by omega)).mono ?_
    rintro e w6 ⟨g6, rfl, hg6, hB6, hb6⟩
    have b6 := bstep b5 hb6
    have r2 := r2.below hb6
    have ho6 := own_below ho5 hb6
    have hB6' := hB5.below hb6 hB5.lt
    go_wp2_with fail
    refine (eqSituationS_same _ _ n n n zs _ (sit_rd hB6' hl) (sit_rd hB6 hl) hl (by omega)).mono ?_
    rintro e w7 ⟨rfl, hb7⟩
    have b7 := bstep b6 hb7
    have r2 := r2.below hb7
    have ho7 := own_below ho6 hb7
    have hB7 := hB6'.below hb7 hB6'.lt
    go_wp2_with fail
    refine (markSituationS_any g3 n n _ _ 1 _ hB7 (by simp [sitF_len, hl]) (by omega) (by omega)).mono ?_
    rintro e w8 ⟨rfl, hB8, hG8⟩
    have b8 := b7.grown hG8 b7.size (fun k e => by cases e; have := b2.size; omega)
    have e8 := (bstep (bstep (bstep (bstep hb3 hb4) hb5) hb6) hb7)
    have e8 := e8.grown hG8 e8.size (fun k e => by cases e; omega)
    have ho8 := own_grown ho7 hG8 hB3.lt
    have r2 := r20.below e8
    have r4 := own_r ho8
    go_wp2_with fail
    refine (eqIntS_yes _ r4 r2 (by omega) rfl).mono ?_
    rintro e w9 ⟨rfl, hb9⟩
    have b9 := bstep b8 hb9
    have e9 := bstep e8 hb9
    have ho9 := own_below ho8 hb9
    go_wp2_with fail
    refine (markIntS_own ho9 (by omega) (by omega)).mono ?_
    rintro e w10 ⟨rfl, ho10, hG10⟩
    have b10 := own_grownBy ho9 b9 hG10 b3.size b9.size
    have e10 := own_grownBy ho9 e9 hG10 hb3.size e9.size
    have r4 := own_r ho10
    go_wp2_with fail
    refine (heldIntS_any _ _ _ 1 _ r4 (by omega) (by omega)).mono ?_
    rintro e w11 ⟨rfl, rfl⟩
    go_wp2_with fail
    refine (toSituationS_any A n c zs _ (hr.below b10) hl (by omega)).mono ?_
    rintro e w12 ⟨g12, rfl, hg12, hB12, hb12⟩
    have b12 := bstep b10 hb12
    have e12 := bstep e10 hb12
    go_wp2_with fail
    refine (StateChanges_is hq hm _ (sit_rd hB12 hl) hl (by omega)).mono ?_
    rintro e w13 ⟨A13, c13, rfl, ho13, hb13⟩
    have b13 := bstep b12 hb13
    have e13 := bstep e12 hb13
    go_wp2_with fail
    refine (eqIntS_yes _ (own_r ho13) (r20.below e13) (by omega) rfl).mono ?_
    rintro e w14 ⟨rfl, hb14⟩
    have b14 := bstep b13 hb14
    have r4 := own_r (own_below (own_below (own_below ho10 hb12) hb13) hb14)
    go_wp2_with fail
    refine (heldIntS_any _ _ _ 1 _ r4 (by omega) (by omega)).mono ?_
    rintro e w15 ⟨rfl, rfl⟩
    go_wp2
    go_returns
    exact ⟨rfl, b14⟩
  · have hs : szI n 1048576 < 0 := by unfold szI; split <;> omega
    go_wp2
    go_returns
    exact ⟨rfl, Below.refl _ _⟩
end Go.Proofs.Ytgmofnceheapmaa
