/-
  CheapestAssignment of the program. Conditions: lengths within the bound of a slice.
-/
import Derived.Test.YtallgjobljkgnaaCI
import Derived.Laws.EntriesVeiled
namespace Go.Proofs.Ytallgjobljkgnaa
open Go Go.RowKit
set_option maxRecDepth 100000
set_option maxHeartbeats 4000000

theorem wp_genJ {P : Program} {c : Code} {Q : Exit → Act → World → Prop} {a : Act} {w : World} (R : World → Prop) (h1 : R w) (h2 : ∀ w0, R w0 → c.wp P Q a w0) : c.wp P Q a w := h2 w h1
theorem Cheapest_is {q : Bool} {L : List Int} {v : Int} {A : Option Addr} {n c : Nat} {T : List (List Int)} (hq : ctB T = q) (hR : caR T = (L, v)) (w : World) (hr : RdT w A n T) (hn : n ≤ 1048576) (hm : ∀ i, i < n → (row T i).length ≤ 1048576) :
    Calls Try.prog 9 #[.slice A n c] w fun e w' => ∃ u, e = .returned (.tuple #[u, .int .i64 v, .bool q]) ∧ w'.ownsRow w.heap.size 3 1 u L.length (ints L) ∧ Below w.heap.size w w' := by
  have hl := hr.1
  have hi := fun (W : World) (hW : Below w.heap.size w W) => IsCostTable_is (c := c) hq W (hr.below hW) hn hm
  have bW := Below.refl w.heap.size w
  rcases q with _ | _
  · have e := caR_no hq
    rw [e] at hR
    cases hR
    clear hq e
    go_enter Try.func9, Try.ntmps9
    go_wp2_with (go_at_call 30; refine (hi _ (by (repeat' (first | (with_reducible exact Below.refl _ _) | (with_reducible assumption) | (with_reducible refine balloc ?_ _) | (with_reducible refine bdrew ?_) | (with_reducible refine bdrewN ?_ _) | (with_reducible refine bstep ?_ (by assumption)) | (with_reducible refine bset ?_ ?_ _) | (exact Below.size (by assumption)) | go_size)))).mono ?_; rintro e w1 ⟨rfl, hb1⟩)
    go_returns
    exact ⟨_, rfl, World.ownsRow_nil _ _ _ _, bstep (balloc bW _) hb1⟩
  · have e := caR_yes hq
    rw [hR, hl] at e
    have hs := ct_sq hq hl
    have hT := ct_cells hq hl
    have hok := bst_ok hT n [] rfl (by simp)
    have hee := ext_eq hT n [] ([], -1) rfl (by simp)
    rw [← e] at hok hee
    have he2 : ext T n n [] ([], -1) = (L, v) := by rw [hee]; simp [mrg]
    have HE := Lib.hid he2
    obtain ⟨hL, -, hv0, -⟩ := hok
    dsimp only at hL hv0
    have HL := Lib.hid hL
    clear hq e hR hee he2 hL hl
    go_enter Try.func9, Try.ntmps9
    go_upto_region 1 with fail
    obtain ⟨bt, ebt⟩ : ∃ g, w.heap.size = g := ⟨_, rfl⟩
    refine wp_genJ (fun W => Below w.heap.size w W ∧ Bk W bt 22 [.slice A n c]) ⟨by (repeat' (first | (with_reducible exact Below.refl _ _) | (with_reducible assumption) | (with_reducible refine balloc ?_ _) | (with_reducible refine bdrew ?_) | (with_reducible refine bdrewN ?_ _) | (with_reducible refine bstep ?_ (by assumption)) | (with_reducible refine bset ?_ ?_ _) | (exact Below.size (by assumption)) | go_size)), Bk.new' ebt⟩ ?_
    have hbt : w.heap.size ≤ bt := by omega
    rw [ebt]
    intro W ⟨bW, kt⟩
    rw [← ebt] at bW
    clear ebt
    have ct := kt.cell 0
    have lt := kt.lt
    simp only [List.getElem?_cons_zero] at ct
    go_upto_region 3 with (go_at_call 30; refine (hi _ bW).mono ?_; rintro e w1 ⟨rfl, hb1⟩; have kt := kt.below hb1 lt; have bW := bstep bW hb1; have lt := kt.lt)
    have sw := bW.size
    go_upto_region 6 with fail
    obtain ⟨N, hN⟩ : ∃ N, w1.heap.size = N := ⟨_, rfl⟩
    have htN : bt < N := by omega
    have hwN : w.heap.size ≤ N := by omega
    rw [hN]
    obtain ⟨bb, ebb⟩ : ∃ g, N + 1 = g := ⟨_, rfl⟩
    rw [ebb]
    obtain ⟨bl, ebl⟩ : ∃ g, bb + 1 = g := ⟨_, rfl⟩
    rw [ebl]
    obtain ⟨be, ebe⟩ : ∃ g, bl + 1 = g := ⟨_, rfl⟩
    rw [ebe]
    refine wp_genJ (fun W => CSt w W A n c bt bl bb be (be + 1) ([], -1)) ?h1 ?_
    case h1 => exact ⟨by (repeat' (first | (with_reducible exact Below.refl _ _) | (with_reducible assumption) | (with_reducible refine balloc ?_ _) | (with_reducible refine bdrew ?_) | (with_reducible refine bdrewN ?_ _) | (with_reducible refine bstep ?_ (by assumption)) | (with_reducible refine bset ?_ ?_ _) | (exact Below.size (by assumption)) | go_size)), by (repeat (first | with_reducible assumption | with_reducible refine Bk.alloc ?_ _)), Bk.new' (by simp [hN]; omega), ⟨.slice (some ⟨N, 0, none⟩) 0 0, (by (repeat (first | exact Bk.new' (by simp [hN]; omega) | with_reducible refine Bk.alloc ?_ _))), fun h => absurd h (by simp)⟩, (by (repeat (first | exact Bk.new' (by simp [hN]; omega) | with_reducible refine Bk.alloc ?_ _))), by simp [hN]; omega⟩
    have n1 : bb ≠ bl := by omega
    have n2 : bt ≠ bb := by omega
    have n3 : bt ≠ bl := by omega
    have n4 : be ≠ bb := by omega
    have n5 : be ≠ bl := by omega
    have m1 : w.heap.size ≤ bb := by omega
    have m2 : w.heap.size ≤ bl := by omega
    have m3 : bt < be + 1 := by omega
    have m4 : bb < be + 1 := by omega
    have m5 : bl < be + 1 := by omega
    have m6 : w.heap.size ≤ be + 1 := by omega
    clear hN bW kt ct lt hb1 ebb ebl ebe sw htN hwN
    intro W hS
    have ce := hS.eb.cell 0
    have le := hS.eb.lt
    have ls := hS.size
    have lw := hS.low.size
    simp only [List.getElem?_cons_zero, extF] at ce
    go_upto_region 7 with (go_at_call 43; refine (ext_is hT hs.1 hs.2.1 w A c bt bl bb be (be + 1) hr hbt m1 m2 n1 n2 n3 n4 n5 m3 m4 m5 (Nat.lt_succ_self _) n [] (by simp) rfl _ 0 0 ([], -1) rfl _ (hS.on (balloc (Below.refl _ _) _) lw) (own_lit' rfl ls)).mono ?_; rintro e w2 ⟨rfl, hS2, hK2⟩)
    rw [HE.out] at hS2
    obtain ⟨u, hbk, hown⟩ := hS2.best
    have hown := hown hv0
    have bW := hS2.low
    dsimp only at hown
    rw [HL.out] at hown
    obtain ⟨b', c', rfl⟩ := own_some1 hown hs.2.1
    have HO := Lib.hid hown
    have cb := hbk.cell 0
    have lb := hbk.lt
    have cl := hS2.least.cell 0
    have ll := hS2.least.lt
    simp only [List.getElem?_cons_zero] at cb cl
    have bV := Below.refl w2.heap.size w2
    clear hown hS hS2 ce le hbk
    (refine wp_region_bel (by kernel_rfl) (by kernel_rfl) ?_; (repeat (go_big_quiet_step (fail))); refine wpQuiet_nil ?_; intro w' hw'; have hb := below_of hw'; clear hw')
    go_wp2
    go_returns
    exact ⟨_, rfl, by rw [HL.out]; exact own_weaken (own_below HO.out hb) m6, bW.trans (hb.mono bW.size)⟩
end Go.Proofs.Ytallgjobljkgnaa
