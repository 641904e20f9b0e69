/-
  The moisture chapter's draws: AfterHour, MoistureRun, DriestHour, ClassOf. Conditions: the text is no longer than 2^16.
-/
import Derived.Test.YtlnfccncbfpoiaaCX
import Derived.Test.YtlnfccncbfpoiaaCF
import Derived.Test.YtlnfccncbfpoiaaCL
namespace Go.Proofs.Ytlnfccncbfpoiaa
open Go.RowKit
set_option maxRecDepth 100000
set_option maxHeartbeats 4000000

theorem fuelbed_ats (X : DX) (B : Int) (w : World) (hX : X.base ≤ w.heap.size) (hC : Cur w X B) (hB : B ≤ 562949953421312) :
    Calls Try.prog 32 #[.pointer (some ⟨X.g, 0, none⟩)] w fun e w' => ∃ x y, e = .returned (.agg #[.int .i64 x, .int .i64 y]) ∧ w.grownBy w' (some X.g) ∧ Cur w' X (B + 64) ∧ I64 x ∧ I64 y := by
  refine (fuelbed_ty { X with base := w.heap.size } B w rfl (hC.rebase hX) hB).mono ?_
  rintro e w' ⟨v, rfl, hg, hC', zs, rfl, hl, hz⟩
  match zs, hl with
  | [x, y], _ => exact ⟨x, y, rfl, hg, hC'.unbase hC.ne, hz x (by simp), hz y (by simp)⟩
theorem airs_ats (X : DX) (B : Int) (w : World) (hX : X.base ≤ w.heap.size) (hC : Cur w X B) (hB : B ≤ 281474976710656) :
    Calls Try.prog 43 #[.pointer (some ⟨X.g, 0, none⟩)] w fun e w' => ∃ v n zs, e = .returned v ∧ w.grownBy w' (some X.g) ∧ Cur w' X (B + 4096) ∧ w'.ownsRow w.heap.size 27 3 v n (airF zs) ∧ zs.length = n ∧ n ≤ 64 ∧ ∀ z ∈ zs, airI z := by
  refine (airs_ty { X with base := w.heap.size } B w rfl (hC.rebase hX) hB).mono ?_
  rintro e w' ⟨v, n, zs, rfl, hg, hC', hO, r⟩
  exact ⟨v, n, zs, rfl, hg, hC'.unbase hC.ne, hO, r⟩
theorem DrawAfterHour_any (A : Option Addr) (n c : Nat) (cs : List Value) (w : World) (hc : Code w A n cs) :
    Calls Try.prog 6 #[.slice A n c] w fun e w' => ∃ l m h t r, e = .returned (.tuple #[.agg #[.int .i64 l, .int .i64 m], .agg #[.int .i64 h, .int .i64 t, .int .i64 r]]) ∧ (I64 l ∧ I64 m ∧ airI (h, t, r)) ∧ Below w.heap.size w w' := by
  go_enter Try.func6, Try.ntmps6
  go_upto_region 2 with fail
  refine wp_genC (fun W => Below w.heap.size w W ∧ Cur W ⟨w.heap.size + 2, A, n, c, cs, w.heap.size + 2 + 1⟩ 0 ∧ Bk W w.heap.size 25 [.int .i64 0, .int .i64 0] ∧ Bk W (w.heap.size + 1) 27 [.int .i64 0, .int .i64 0, .int .i64 0]) ⟨by (repeat' (first | (with_reducible exact Below.refl _ _) | (with_reducible assumption) | (with_reducible refine balloc ?_ _) | (with_reducible refine bdrew ?_) | (with_reducible refine bdrewN ?_ _) | (with_reducible refine bstep ?_ (by assumption)) | (with_reducible refine bset ?_ ?_ _) | (exact Below.size (by assumption)) | go_size)), Cur.made hc (by (repeat' (first | (with_reducible exact Below.refl _ _) | (with_reducible assumption) | (with_reducible refine balloc ?_ _) | (with_reducible refine bdrew ?_) | (with_reducible refine bdrewN ?_ _) | (with_reducible refine bstep ?_ (by assumption)) | (with_reducible refine bset ?_ ?_ _) | (exact Below.size (by assumption)) | go_size))) (by simp), ((Bk.new _ _ _).alloc _).alloc _, (Bk.new' (by simp)).alloc _⟩ ?_
  intro W ⟨bW, hC, k2, k3⟩
  obtain ⟨g, hg⟩ : ∃ g, w.heap.size + 2 = g := ⟨_, rfl⟩
  obtain ⟨d, hd⟩ : ∃ d, w.heap.size + 1 = d := ⟨_, rfl⟩
  rw [show w.heap.size + 1 + 1 = g from hg]
  rw [hg] at hC
  rw [hd] at k3 ⊢
  go_wp2_with (first
    | (go_at_call 32; go_loud (refine (fuelbed_ats ⟨g, A, n, c, cs, g + 1⟩ _ _ hC.lt hC (by omega)).mono ?_; rintro e w' ⟨l, m, rfl, hg1, hC, hl, hm⟩; dsimp only at hg1; have bW := below_gr bW hg1 (by omega); have k2 := k2.grown hg1 (by simp; omega); have k3 := k3.grown hg1 (by simp; omega)))
    | (go_at_call 33; refine (air_ats ⟨g, A, n, c, cs, g + 1⟩ _ _ hC.lt hC (by omega)).mono ?_; rintro e w' ⟨h, t, r, rfl, hg2, hC, ha⟩; dsimp only at hg2; have bW := below_gr bW hg2 (by omega); have k2 := k2.grown hg2 (by simp; omega); have k3 := k3.grown hg2 (by simp; omega); have c0 := k2.cell 0; have c1 := k2.cell 1; have f0 := k2.frozen 0; have f1 := k2.frozen 1; have d0 := k3.cell 0; have d1 := k3.cell 1; have d2 := k3.cell 2; have e0 := k3.frozen 0; have e1 := k3.frozen 1; have e2 := k3.frozen 2; have l2 := k2.lt; have l3 := k3.lt; simp only [List.getElem?_cons_zero, List.getElem?_cons_succ] at c0 c1 d0 d1 d2))
  (refine bodyPost_ret (by simp (maxDischargeDepth := 4) [results, Try.results6, go_sem, *]; try rfl) rfl ?_)
  exact ⟨l, m, h, t, r, rfl, ⟨hl, hm, ha⟩, by (repeat' (first | (with_reducible exact Below.refl _ _) | (with_reducible assumption) | (with_reducible refine balloc ?_ _) | (with_reducible refine bdrew ?_) | (with_reducible refine bdrewN ?_ _) | (with_reducible refine bstep ?_ (by assumption)) | (with_reducible refine bset ?_ ?_ _) | (exact Below.size (by assumption)) | go_size))⟩
theorem DrawMoistureRun_any (A : Option Addr) (n c : Nat) (cs : List Value) (w : World) (hc : Code w A n cs) :
    Calls Try.prog 13 #[.slice A n c] w fun e w' => ∃ l m A' n' c' zs, e = .returned (.tuple #[.agg #[.int .i64 l, .int .i64 m], .slice A' n' c']) ∧ (I64 l ∧ I64 m ∧ n' ≤ 64 ∧ zs.length = n' ∧ Rd w' 3 A' n' (airF zs) ∧ (∀ z ∈ zs, airI z) ∧ ∀ a, A' = some a → w.heap.size ≤ a.block) ∧ Below w.heap.size w w' := by
  go_enter Try.func13, Try.ntmps13
  go_upto_region 2 with fail
  refine wp_genC (fun W => Below w.heap.size w W ∧ Cur W ⟨w.heap.size + 1, A, n, c, cs, w.heap.size + 1 + 1⟩ 0 ∧ Bk W w.heap.size 25 [.int .i64 0, .int .i64 0]) ⟨by (repeat' (first | (with_reducible exact Below.refl _ _) | (with_reducible assumption) | (with_reducible refine balloc ?_ _) | (with_reducible refine bdrew ?_) | (with_reducible refine bdrewN ?_ _) | (with_reducible refine bstep ?_ (by assumption)) | (with_reducible refine bset ?_ ?_ _) | (exact Below.size (by assumption)) | go_size)), Cur.made hc (by (repeat' (first | (with_reducible exact Below.refl _ _) | (with_reducible assumption) | (with_reducible refine balloc ?_ _) | (with_reducible refine bdrew ?_) | (with_reducible refine bdrewN ?_ _) | (with_reducible refine bstep ?_ (by assumption)) | (with_reducible refine bset ?_ ?_ _) | (exact Below.size (by assumption)) | go_size))) (by simp), (Bk.new _ _ _).alloc _⟩ ?_
  intro W ⟨bW, hC, k2⟩
  obtain ⟨g, hg⟩ : ∃ g, w.heap.size + 1 = g := ⟨_, rfl⟩
  rw [hg] at hC ⊢
  go_wp2_with (first
    | (go_at_call 32; refine (fuelbed_ats ⟨g, A, n, c, cs, g + 1⟩ _ _ hC.lt hC (by omega)).mono ?_; rintro e w' ⟨l, m, rfl, hg1, hC, hl, hm⟩; dsimp only at hg1; have bW := below_gr bW hg1 (by omega); have k2 := k2.grown hg1 (by simp; omega); have l2 := k2.lt)
    | (go_at_call 43; refine (airs_ats ⟨g, A, n, c, cs, g + 1⟩ _ _ hC.lt hC (by omega)).mono ?_; rintro e w' ⟨v, n', zs, rfl, hg2, hC, hO, hzl, hn', hz⟩; dsimp only at hg2; have bW := below_gr bW hg2 (by omega); have k2 := k2.grown hg2 (by simp; omega); obtain ⟨A', c', rfl, hr, _⟩ := own_rd hO; have hbe := own_behind hO; have hsz := hg2.size; have c0 := k2.cell 0; have c1 := k2.cell 1; have f0 := k2.frozen 0; have f1 := k2.frozen 1; have l2 := k2.lt; simp only [List.getElem?_cons_zero, List.getElem?_cons_succ] at c0 c1))
  (refine bodyPost_ret (by simp (maxDischargeDepth := 4) [results, Try.results13, go_sem, *]; try rfl) rfl ?_)
  exact ⟨l, m, A', n', c', zs, rfl, ⟨hl, hm, hn', hzl, rd_set (rd_set hr (fun a ha => by have := hbe a ha; omega)) (fun a ha => by have := hbe a ha; omega), hz, fun a ha => by have := hbe a ha; omega⟩, by (repeat' (first | (with_reducible exact Below.refl _ _) | (with_reducible assumption) | (with_reducible refine balloc ?_ _) | (with_reducible refine bdrew ?_) | (with_reducible refine bdrewN ?_ _) | (with_reducible refine bstep ?_ (by assumption)) | (with_reducible refine bset ?_ ?_ _) | (exact Below.size (by assumption)) | go_size))⟩
theorem DrawDriestHour_any (A : Option Addr) (n c : Nat) (cs : List Value) (w : World) (hc : Code w A n cs) :
    Calls Try.prog 20 #[.slice A n c] w fun e w' => ∃ l m A' n' c' zs, e = .returned (.tuple #[.agg #[.int .i64 l, .int .i64 m], .slice A' n' c']) ∧ (I64 l ∧ I64 m ∧ n' ≤ 64 ∧ zs.length = n' ∧ Rd w' 3 A' n' (airF zs) ∧ (∀ z ∈ zs, airI z) ∧ ∀ a, A' = some a → w.heap.size ≤ a.block) ∧ Below w.heap.size w w' := by
  go_enter Try.func20, Try.ntmps20
  go_upto_region 1 with fail
  have k2 : Bk (w.alloc (.cells #[.int .i64 0, .int .i64 0] 25)) w.heap.size 25 [.int .i64 0, .int .i64 0] := Bk.new _ _ _
  have b0 : Below w.heap.size w (w.alloc (.cells #[.int .i64 0, .int .i64 0] 25)) := by (repeat' (first | (with_reducible exact Below.refl _ _) | (with_reducible assumption) | (with_reducible refine balloc ?_ _) | (with_reducible refine bdrew ?_) | (with_reducible refine bdrewN ?_ _) | (with_reducible refine bstep ?_ (by assumption)) | (with_reducible refine bset ?_ ?_ _) | (exact Below.size (by assumption)) | go_size))
  go_wp2_with (go_at_call 13; refine (DrawMoistureRun_any A n c cs _ (hc.below b0)).mono ?_; rintro e w' ⟨l, m, A', n', c', zs, rfl, ⟨hl, hm, hn', hzl, hr, hz, hbe⟩, hb⟩; have k2 := k2.below hb k2.lt; have bW := bstep b0 hb; have c0 := k2.cell 0; have c1 := k2.cell 1; have f0 := k2.frozen 0; have f1 := k2.frozen 1; have l2 := k2.lt; simp only [List.getElem?_cons_zero, List.getElem?_cons_succ] at c0 c1)
  (refine bodyPost_ret (by simp (maxDischargeDepth := 4) [results, Try.results20, go_sem, *]; try rfl) rfl ?_)
  rw [World.size_alloc] at hbe
  exact ⟨l, m, A', n', c', zs, rfl, ⟨hl, hm, hn', hzl, rd_set (rd_set hr (fun a ha => by have := hbe a ha; omega)) (fun a ha => by have := hbe a ha; omega), hz, fun a ha => by have := hbe a ha; omega⟩, by (repeat' (first | (with_reducible exact Below.refl _ _) | (with_reducible assumption) | (with_reducible refine balloc ?_ _) | (with_reducible refine bdrew ?_) | (with_reducible refine bdrewN ?_ _) | (with_reducible refine bstep ?_ (by assumption)) | (with_reducible refine bset ?_ ?_ _) | (exact Below.size (by assumption)) | go_size))⟩
theorem DrawClassOf_any (A : Option Addr) (n c : Nat) (cs : List Value) (w : World) (hc : Code w A n cs) :
    Calls Try.prog 27 #[.slice A n c] w fun e w' => ∃ m, e = .returned (.int .i64 m) ∧ I64 m ∧ Below w.heap.size w w' := by
  go_enter Try.func27, Try.ntmps27
  go_upto_region 2 with fail
  refine wp_genC (fun W => Below w.heap.size w W ∧ Cur W ⟨w.heap.size, A, n, c, cs, w.heap.size + 1⟩ 0) ⟨by (repeat' (first | (with_reducible exact Below.refl _ _) | (with_reducible assumption) | (with_reducible refine balloc ?_ _) | (with_reducible refine bdrew ?_) | (with_reducible refine bdrewN ?_ _) | (with_reducible refine bstep ?_ (by assumption)) | (with_reducible refine bset ?_ ?_ _) | (exact Below.size (by assumption)) | go_size)), Cur.made hc (by (repeat' (first | (with_reducible exact Below.refl _ _) | (with_reducible assumption) | (with_reducible refine balloc ?_ _) | (with_reducible refine bdrew ?_) | (with_reducible refine bdrewN ?_ _) | (with_reducible refine bstep ?_ (by assumption)) | (with_reducible refine bset ?_ ?_ _) | (exact Below.size (by assumption)) | go_size))) rfl⟩ ?_
  intro W ⟨bW, hC⟩
  have hlt := hC.lt
  dsimp only at hlt
  go_wp2_with (go_at_call 48; refine (among_ty ⟨w.heap.size, A, n, c, cs, w.heap.size + 1⟩ _ _ (hC.alloc _) (by omega) (Good.lit' (by simp) (by simp) (by simp [sm_int])) (by simp only; omega) (by omega) (by omega) (by omega)).mono ?_; rintro e w' ⟨v, rfl, hg, hC, x, rfl, x0, x1⟩; dsimp only at hg; have bW := below_gr (balloc bW _) hg (Nat.le_refl _))
  go_returns
  exact ⟨x, rfl, ⟨x0, x1⟩, bW⟩
end Go.Proofs.Ytlnfccncbfpoiaa
