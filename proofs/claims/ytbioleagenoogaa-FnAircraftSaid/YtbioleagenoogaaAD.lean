/-
  The aircraft chapter's draws BestAircraft, LitersIn and FewestFor. Conditions: the text is no longer than 2^16.
-/
import Derived.Test.YtbioleagenoogaaAL
import Derived.Test.YtbioleagenoogaaCX
namespace Go.Proofs.Ytbioleagenoogaa
open Go Go.RowKit
set_option maxRecDepth 100000
set_option maxHeartbeats 8000000

theorem wrap64_bd (n : Int) : -9223372036854775808 ≤ wrap64 n ∧ wrap64 n ≤ 9223372036854775807 := by simp only [wrap64]; omega
theorem own_lx {w1 w2 : World} {g base k n : Nat} {S : List Nat} {t : TypeId} {v : Value} {xs : List Value} (h : w1.ownsRow base t k v n xs) (hl : Lx g S w1.heap.size w1 w2) (hS : ∀ b, v.ownBlock = some b → b ∉ S ∧ b ≠ g) : w2.ownsRow base t k v n xs := by
  have hlt := h.lt
  obtain ⟨h1, h2⟩ := h
  refine ⟨h1, ?_⟩
  rcases h2 with h2 | ⟨g', cap, cur, rfl, hbg, hg, hnc, hcm, hcs, ht⟩
  · exact .inl h2
  · obtain ⟨n1, n2⟩ := hS g' rfl
    have h3 := (hlt g' rfl).2
    exact .inr ⟨g', cap, cur, rfl, hbg, (hl.keep g' h3 h3 n1 n2).trans hg, hnc, hcm, hcs, ht⟩
theorem below_lx {g base : Nat} {S : List Nat} {w w1 w2 : World} (h : Below w.heap.size w w1) (hl : Lx g S base w1 w2) (hS : ∀ b ∈ S, w.heap.size ≤ b) (hg : w.heap.size ≤ g) (hb : w.heap.size ≤ base) : Below w.heap.size w w2 :=
  ⟨hl.os.trans h.os, hl.tape.trans h.tape, hl.output.trans h.output, Nat.le_trans h.size hl.size, fun k hk => (hl.keep k (Nat.lt_of_lt_of_le hk h.size) (by omega) (fun hm => by have := hS k hm; omega) (by omega)).trans (h.block k hk)⟩
theorem own_far {w : World} {base k n b o : Nat} {t : TypeId} {v : Value} {xs : List Value} {u : Value} (h : w.ownsRow base t k v n xs) (hS : ∀ b', v.ownBlock = some b' → b' ≠ b) : (w.setCell ⟨b, o, none⟩ u).ownsRow base t k v n xs := by
  obtain ⟨h1, h2⟩ := h
  refine ⟨h1, ?_⟩
  rcases h2 with h2 | ⟨g', cap, cur, rfl, hbg, hg, hnc, hcm, hcs, ht⟩
  · exact .inl h2
  · exact .inr ⟨g', cap, cur, rfl, hbg, (Below.heap_setCell w ⟨b, o, none⟩ u g' (hS g' rfl)).trans hg, hnc, hcm, hcs, ht⟩
theorem own_ne {w : World} {base k n : Nat} {t : TypeId} {v : Value} {xs : List Value} {g : Nat} (h : w.ownsRow base t k v n xs) (hg : g < base) : ∀ b, v.ownBlock = some b → b ≠ g := fun b e => by have := (h.lt b e).1; omega
theorem airfleet_ats (X : DX) (B : Int) (w : World) (hX : X.base ≤ w.heap.size) (hC : Cur w X B) (hB : B ≤ 281474976710656) :
    Calls Try.prog 62 #[.pointer (some ⟨X.g, 0, none⟩)] w fun e w' => ∃ Ab n c zs, e = .returned (.slice Ab n c) ∧ w.grownBy w' (some X.g) ∧ Cur w' X (B + 4096) ∧ w'.ownsRow w.heap.size 41 5 (.slice Ab n c) n (acrF zs) ∧ zs.length = n ∧ n ≤ 64 ∧ ∀ z ∈ zs, acrI z := by
  refine (airfleet_ty { X with base := w.heap.size } B w rfl (hC.rebase hX) hB).mono ?_
  rintro e w' ⟨v, n, zs, rfl, hg, hC', hO, r⟩
  obtain ⟨Ab, c, rfl, _, _⟩ := own_rd hO
  exact ⟨Ab, n, c, zs, rfl, hg, hC'.unbase hC.ne, hO, r⟩
theorem wpK_consL {P : Program} {Le : World → World → Prop} {G : Nat → World → Prop} {Q : Exit → Act → World → Prop} {ops : List Oper} {a0 : Act} {fm : List Bool} {o : Oper} {r : List Oper} {p : List Nat × List Bool} {ps : List (List Nat × List Bool)} {Fs : List Fact} (R : Fact) (Fs' : List Fact)
    (h2 : ∀ V w k, k < ops.length → G k w → deps ops Fs V w p.1 → wpList P ops.toArray (DP (actT a0 V p.2) o.dst (fun v w' => Le w w' ∧ G (k + 1) w' ∧ R v w')) [o] (actT a0 V p.2) w)
    (h1 : Stable Le R) (hF : Fs ++ [R] = Fs') (h3 : wpK P Le G Q ops a0 fm r ps Fs') : wpK P Le G Q ops a0 fm (o :: r) (p :: ps) Fs := wpK_cons R h2 h1 (by rw [hF]; exact h3)
/-- what the draws of a list say of it -/
abbrev FlD (w' : World) (Ab : Option Addr) (m : Nat) (zs : List AircraftT) : Prop := Rd w' 5 Ab m (acrF zs) ∧ zs.length = m ∧ m ≤ 64 ∧ ∀ z ∈ zs, acrI z
theorem DrawBestAircraft_any (A : Option Addr) (n c : Nat) (cs : List Value) (w : World) (hc : Code w A n cs) :
    Calls Try.prog 30 #[.slice A n c] w fun e w' => ∃ Ab m c' zs wa le ba, e = .returned (.tuple #[.slice Ab m c', .agg #[.int .i64 wa, .int .i64 le, .int .i64 ba]]) ∧ (FlD w' Ab m zs ∧ I64 wa ∧ I64 le ∧ I64 ba) ∧ Below w.heap.size w w' := by
  go_enter Try.func30, Try.ntmps30
  go_upto_region 2 with fail
  obtain ⟨X, hX⟩ : ∃ X : DX, X = ⟨w.heap.size + 1, A, n, c, cs, w.heap.size + 1 + 1⟩ := ⟨_, rfl⟩
  obtain ⟨d3, hd3⟩ : ∃ d, d = w.heap.size := ⟨_, rfl⟩
  refine wp_genC (fun W => Below w.heap.size w W ∧ Cur W X 0 ∧ Good W d3 31 3) ⟨by (repeat' (first | (with_reducible exact Below.refl _ _) | (with_reducible assumption) | (with_reducible refine balloc ?_ _) | (with_reducible refine bdrew ?_) | (with_reducible refine bdrewN ?_ _) | (with_reducible refine bstep ?_ (by assumption)) | (with_reducible refine bset ?_ ?_ _) | (exact Below.size (by assumption)) | go_size)), by rw [hX]; exact Cur.made hc (by (repeat' (first | (with_reducible exact Below.refl _ _) | (with_reducible assumption) | (with_reducible refine balloc ?_ _) | (with_reducible refine bdrew ?_) | (with_reducible refine bdrewN ?_ _) | (with_reducible refine bstep ?_ (by assumption)) | (with_reducible refine bset ?_ ?_ _) | (exact Below.size (by assumption)) | go_size))) (by simp), (Good.lit' (by simp [hd3]) (by simp) (by simp [sm_int])).alloc _⟩ ?_
  have eg : X.g = w.heap.size + 1 := by rw [hX]
  have hA3 : 0 < X.n → ∀ a, X.A = some a → a.block < w.heap.size := by rw [hX]; exact hc.lt
  have xb : X.base ≤ X.g + 1 := by rw [hX]; exact Nat.le_refl _
  have xb2 : X.g < X.base := by rw [hX]; exact Nat.lt_succ_self _
  have hwg : w.heap.size ≤ X.g := by omega
  have nd3 : d3 ≠ X.g := by omega
  have wd3 : w.heap.size ≤ d3 := by omega
  have gd30 : d3 < X.g := by omega
  have ad3 : 0 < X.n → ∀ a, X.A = some a → a.block ≠ d3 := fun h0 a ha => by have := hA3 h0 a ha; omega
  intro W ⟨bW, hC, gd3⟩
  rw [show w.heap.size + 1 = X.g from eg.symm]
  rw [show w.heap.size = d3 from hd3.symm]
  clear eg hX hd3
  have hlt := hC.lt
  obtain ⟨bo, hbo', hbo, hgo⟩ : ∃ bo, bo ≤ W.heap.size ∧ w.heap.size ≤ bo ∧ X.g < bo := ⟨W.heap.size, Nat.le_refl _, by omega, by omega⟩
  go_upto_region 3 with (go_at_call 62; refine (airfleet_ats X _ _ (by omega) hC (by omega)).mono ?_; rintro e w' ⟨Ab, m, c', zs, rfl, hg, hC, hO, hl, hm, hz⟩; have hO := own_weaken (base' := bo) hO hbo'; have bW := below_gr bW hg hwg; have gd3 := good_gr gd3 nd3 hg;  have hlt := hC.lt)
  clear hbo'
  have rd3 : ∀ b', (Value.slice Ab m c').ownBlock = some b' → b' ≠ d3 := fun b' e => by have := (hO.lt b' e).1; omega
  have HL := Lib.hid hl
  clear hl
  go_wp2_with (first | (go_at_call 51; refine (target_ats X _ _ (by omega) hC (by omega)).mono ?_; rintro e w' ⟨wa, le, ba, rfl, hg, hC, ⟨wa0, wa1⟩, ⟨le0, le1⟩, ⟨ba0, ba1⟩⟩; have hO := own_grown hO hg hgo; have gd3 := good_gr gd3 nd3 hg; have bW := below_gr bW hg hwg; have hlt := hC.lt; obtain ⟨yR0, cR0, lR0, hR0⟩ := gd3.cell (j := 0) (by omega); obtain ⟨yR1, cR1, lR1, hR1⟩ := gd3.cell (j := 1) (by omega); obtain ⟨yR2, cR2, lR2, hR2⟩ := gd3.cell (j := 2) (by omega); have fR0 := gd3.frozen 0; have fR1 := gd3.frozen 1; have fR2 := gd3.frozen 2; have bR := gd3.lt))
  refine bp_gen (fun W => Below w.heap.size w W ∧ Good W d3 31 3 ∧ W.ownsRow bo 41 5 (.slice Ab m c') m (acrF zs)) ⟨(bset (bset (bset bW (p := ⟨d3, 0, none⟩) (by simp only; omega) _) (p := ⟨d3, 1, none⟩) (by simp only; omega) _) (p := ⟨d3, 2, none⟩) (by simp only; omega) _), (Good.set (Good.set (Good.set gd3 ⟨wa, rfl, wa0, wa1⟩) ⟨le, rfl, le0, le1⟩) ⟨ba, rfl, ba0, ba1⟩), (own_far (own_far (own_far hO rd3) rd3) rd3)⟩ ?_
  clear gd3 hO bW hC hg cR0 fR0 cR1 fR1 cR2 fR2 bR
  intro W ⟨bW, gd3, hO⟩
  obtain ⟨yS0, cS0, lS0, hS0⟩ := gd3.cell (j := 0) (by omega)
  obtain ⟨yS1, cS1, lS1, hS1⟩ := gd3.cell (j := 1) (by omega)
  obtain ⟨yS2, cS2, lS2, hS2⟩ := gd3.cell (j := 2) (by omega)
  have fS0 := gd3.frozen 0
  have fS1 := gd3.frozen 1
  have fS2 := gd3.frozen 2
  have bS := gd3.lt
  (refine bodyPost_ret (by simp (maxDischargeDepth := 4) [results, Try.results30, go_sem, *]; try rfl) rfl ?_)
  exact ⟨Ab, m, c', zs, yS0, yS1, yS2, rfl, ⟨⟨own_r hO, HL.out, hm, hz⟩, ⟨lS0, hS0⟩, ⟨lS1, hS1⟩, ⟨lS2, hS2⟩⟩, bW⟩
theorem DrawFewestFor_any (A : Option Addr) (n c : Nat) (cs : List Value) (w : World) (hc : Code w A n cs) :
    Calls Try.prog 36 #[.slice A n c] w fun e w' => ∃ Ab m c' zs wa le ba x, e = .returned (.tuple #[.slice Ab m c', .agg #[.int .i64 wa, .int .i64 le, .int .i64 ba], .int .i64 x]) ∧ (FlD w' Ab m zs ∧ I64 wa ∧ I64 le ∧ I64 ba ∧ I64 x) ∧ Below w.heap.size w w' := by
  go_enter Try.func36, Try.ntmps36
  go_upto_region 2 with fail
  obtain ⟨X, hX⟩ : ∃ X : DX, X = ⟨w.heap.size + 1, A, n, c, cs, w.heap.size + 1 + 1⟩ := ⟨_, rfl⟩
  obtain ⟨d3, hd3⟩ : ∃ d, d = w.heap.size := ⟨_, rfl⟩
  refine wp_genC (fun W => Below w.heap.size w W ∧ Cur W X 0 ∧ Good W d3 31 3) ⟨by (repeat' (first | (with_reducible exact Below.refl _ _) | (with_reducible assumption) | (with_reducible refine balloc ?_ _) | (with_reducible refine bdrew ?_) | (with_reducible refine bdrewN ?_ _) | (with_reducible refine bstep ?_ (by assumption)) | (with_reducible refine bset ?_ ?_ _) | (exact Below.size (by assumption)) | go_size)), by rw [hX]; exact Cur.made hc (by (repeat' (first | (with_reducible exact Below.refl _ _) | (with_reducible assumption) | (with_reducible refine balloc ?_ _) | (with_reducible refine bdrew ?_) | (with_reducible refine bdrewN ?_ _) | (with_reducible refine bstep ?_ (by assumption)) | (with_reducible refine bset ?_ ?_ _) | (exact Below.size (by assumption)) | go_size))) (by simp), (Good.lit' (by simp [hd3]) (by simp) (by simp [sm_int])).alloc _⟩ ?_
  have eg : X.g = w.heap.size + 1 := by rw [hX]
  have hA3 : 0 < X.n → ∀ a, X.A = some a → a.block < w.heap.size := by rw [hX]; exact hc.lt
  have xb : X.base ≤ X.g + 1 := by rw [hX]; exact Nat.le_refl _
  have xb2 : X.g < X.base := by rw [hX]; exact Nat.lt_succ_self _
  have hwg : w.heap.size ≤ X.g := by omega
  have nd3 : d3 ≠ X.g := by omega
  have wd3 : w.heap.size ≤ d3 := by omega
  have gd30 : d3 < X.g := by omega
  have ad3 : 0 < X.n → ∀ a, X.A = some a → a.block ≠ d3 := fun h0 a ha => by have := hA3 h0 a ha; omega
  intro W ⟨bW, hC, gd3⟩
  rw [show w.heap.size + 1 = X.g from eg.symm]
  rw [show w.heap.size = d3 from hd3.symm]
  clear eg hX hd3
  have hlt := hC.lt
  obtain ⟨bo, hbo', hbo, hgo⟩ : ∃ bo, bo ≤ W.heap.size ∧ w.heap.size ≤ bo ∧ X.g < bo := ⟨W.heap.size, Nat.le_refl _, by omega, by omega⟩
  go_upto_region 3 with (go_at_call 62; refine (airfleet_ats X _ _ (by omega) hC (by omega)).mono ?_; rintro e w' ⟨Ab, m, c', zs, rfl, hg, hC, hO, hl, hm, hz⟩; have hO := own_weaken (base' := bo) hO hbo'; have bW := below_gr bW hg hwg; have gd3 := good_gr gd3 nd3 hg;  have hlt := hC.lt)
  clear hbo'
  have rd3 : ∀ b', (Value.slice Ab m c').ownBlock = some b' → b' ≠ d3 := fun b' e => by have := (hO.lt b' e).1; omega
  have HL := Lib.hid hl
  clear hl
  go_upto_region 4 with (first | (go_at_call 51; refine (target_ats X _ _ (by omega) hC (by omega)).mono ?_; rintro e w' ⟨wa, le, ba, rfl, hg, hC, ⟨wa0, wa1⟩, ⟨le0, le1⟩, ⟨ba0, ba1⟩⟩; have hO := own_grown hO hg hgo; have gd3 := good_gr gd3 nd3 hg; have bW := below_gr bW hg hwg; have hlt := hC.lt))
  obtain ⟨d7, ed7⟩ : ∃ d, w'.heap.size = d := ⟨_, rfl⟩
  rw [ed7]
  have sd7 : X.g < d7 := by have := hC.lt; omega
  have nd7 : d7 ≠ X.g := by omega
  have wd7 : w.heap.size ≤ d7 := by omega
  have ad7 : 0 < X.n → ∀ a, X.A = some a → a.block ≠ d7 := fun h0 a ha => by have := hA3 h0 a ha; omega
  have rd7 : ∀ b', (Value.slice Ab m c').ownBlock = some b' → b' ≠ d7 := fun b' e => by have := (hO.lt b' e).2; omega
  refine wp_genC (fun W => Below w.heap.size w W ∧ Cur W X _ ∧ Good W d3 31 3 ∧ Good W d7 31 3 ∧ W.ownsRow bo 41 5 (.slice Ab m c') m (acrF zs)) ⟨balloc bW _, hC.alloc _, gd3.alloc _, Good.lit' ed7 (by simp) (by simp [sm_int]; omega), own_alloc hO _⟩ ?_
  clear bW hC hg ed7 gd3 hO
  intro W ⟨bW, hC, gd3, gd7, hO⟩
  have hlt := hC.lt
  have bud : ∀ k : Nat, k < 13 → (0 + 4096 + 64) + 2 * (k : Int) ≤ 562949953421312 := fun k hk => by omega
  refine wp_region_inv (Le := Lx X.g [d7, d3] W.heap.size) (G := GG X [d7, d3] W ((0 + 4096 + 64)) (2)) 25 [([], [true, true, false, true, false, true, true, true, true, true, true, true, true, true, true, true, false, false, false, false, false, false, false, false, false]), ([], [true, true, false, true, false, true, true, true, true, true, true, true, true, true, true, false, true, false, false, false, false, false, false, false, false]), ([], [true, true, false, true, false, true, true, true, true, true, true, true, true, true, true, false, false, true, false, false, false, false, false, false, false]), ([], [true, true, false, true, false, true, true, true, true, true, true, true, true, true, true, false, false, false, true, false, false, false, false, false, false]), ([], [true, true, false, true, false, true, true, true, true, true, true, true, true, true, true, false, false, false, false, true, false, false, false, false, false]), ([4], [true, true, false, true, false, true, true, true, true, true, true, true, true, true, true, false, false, false, false, false, true, false, false, false, false]), ([5], [true, true, false, true, false, true, true, true, true, true, true, true, true, true, true, false, false, false, false, false, false, true, false, false, false]), ([6], [true, true, false, true, false, true, true, true, true, true, true, true, true, true, true, false, false, false, false, false, false, false, true, false, false]), ([3, 7], [true, true, false, true, false, true, true, true, true, true, true, true, true, true, true, false, false, false, false, false, false, false, false, true, false]), ([2, 8], [true, true, false, true, false, true, true, true, true, true, true, true, true, true, true, false, false, false, false, false, false, false, false, false, true]), ([0], [true, true, true, true, false, true, true, true, true, true, true, true, true, true, true, false, false, false, false, false, false, false, false, false, false]), ([1], [true, true, false, true, false, true, true, true, true, true, true, true, true, true, true, false, false, false, false, false, false, false, false, false, false]), ([9], [true, true, false, true, true, true, true, true, true, true, true, true, true, true, true, false, false, false, false, false, false, false, false, false, false])] [true, true, false, true, false, true, true, true, true, true, true, true, true, true, true, false, false, false, false, false, false, false, false, false, false] (by kernel_rfl) (by rfl) (by kernel_rfl) ⟨⟨rfl, rfl, rfl, Nat.le_refl _, fun _ _ _ _ _ => rfl, fun _ _ _ _ _ h => h⟩, hC.drew.le (by omega)⟩ ?_
  refine wpK_consL (isV ((Value.slice Ab m c'))) [isV ((Value.slice Ab m c'))] (fun V w k hk hG hD => ?_) (st_V _) rfl ?_
  · obtain ⟨-⟩ := hD
    simp only [actT, maskT, Nat.reduceAdd, if_true, if_false, Bool.false_eq_true]
    go_wp2_with fail
    exact DP_mk (rv_same (by omega) hG rfl)
  refine wpK_consL (isA 3) [isV ((Value.slice Ab m c')), isA 3] (fun V w k hk hG hD => ?_) (st_A _) rfl ?_
  · obtain ⟨-⟩ := hD
    simp only [actT, maskT, Nat.reduceAdd, if_true, if_false, Bool.false_eq_true]
    have gk := hG.le.good d7 _ _ (.inr (by simp)) nd7 gd7
    obtain ⟨y0, cy0, l0, h0⟩ := gk.cell (j := 0) (by omega)
    obtain ⟨y1, cy1, l1, h1⟩ := gk.cell (j := 1) (by omega)
    obtain ⟨y2, cy2, l2, h2⟩ := gk.cell (j := 2) (by omega)
    have gl := gk.lt
    go_wp2_with fail
    exact DP_mk (rv_same (by omega) hG ⟨[y0, y1, y2], rfl, rfl, by simp; omega⟩)
  refine wpK_consL (isV ((Value.pointer (some ⟨X.g, 0, none⟩)))) [isV ((Value.slice Ab m c')), isA 3, isV ((Value.pointer (some ⟨X.g, 0, none⟩)))] (fun V w k hk hG hD => ?_) (st_V _) rfl ?_
  · obtain ⟨-⟩ := hD
    simp only [actT, maskT, Nat.reduceAdd, if_true, if_false, Bool.false_eq_true]
    go_wp2_with fail
    exact DP_mk (rv_same (by omega) hG rfl)
  refine wpK_consL (isS X.g W.heap.size 8 8) [isV ((Value.slice Ab m c')), isA 3, isV ((Value.pointer (some ⟨X.g, 0, none⟩))), isS X.g W.heap.size 8 8] (fun V w k hk hG hD => ?_) (st_S _ _) rfl ?_
  · obtain ⟨-⟩ := hD
    simp only [actT, maskT, Nat.reduceAdd, if_true, if_false, Bool.false_eq_true]
    go_wp2_with fail
    exact DP_mk (rv_alloc (by omega) hG ⟨_, _, rfl, by omega, by omega, hG.le.size, by have := hG.cur.lt; omega, Good.lit' rfl (by simp) (by simp [sm_int])⟩)
  refine wpK_consL (isV ((Value.pointer (some ⟨X.g, 0, none⟩)))) [isV ((Value.slice Ab m c')), isA 3, isV ((Value.pointer (some ⟨X.g, 0, none⟩))), isS X.g W.heap.size 8 8, isV ((Value.pointer (some ⟨X.g, 0, none⟩)))] (fun V w k hk hG hD => ?_) (st_V _) rfl ?_
  · obtain ⟨-⟩ := hD
    simp only [actT, maskT, Nat.reduceAdd, if_true, if_false, Bool.false_eq_true]
    go_wp2_with fail
    exact DP_mk (rv_same (by omega) hG rfl)
  refine wpK_consL (isI 0 23) [isV ((Value.slice Ab m c')), isA 3, isV ((Value.pointer (some ⟨X.g, 0, none⟩))), isS X.g W.heap.size 8 8, isV ((Value.pointer (some ⟨X.g, 0, none⟩))), isI 0 23] (fun V w k hk hG hD => ?_) (st_I _ _) rfl ?_
  · obtain ⟨f19, -⟩ := hD
    simp only [actT, maskT, Nat.reduceAdd, if_true, if_false, Bool.false_eq_true]
    rw [show V 19 = (Value.pointer (some ⟨X.g, 0, none⟩)) from f19]
    go_wp2_with (go_at_call 61; refine (pick_ty _ _ _ 23 _ hG.cur (by have := bud k hk; omega) (by omega) (by omega) (by omega)).mono ?_; rintro e w' ⟨v, rfl, hg, hC, hd⟩)
    exact DP_mk (rv_call (by omega) hG hg hC hd)
  refine wpK_consL (isI 0 2) [isV ((Value.slice Ab m c')), isA 3, isV ((Value.pointer (some ⟨X.g, 0, none⟩))), isS X.g W.heap.size 8 8, isV ((Value.pointer (some ⟨X.g, 0, none⟩))), isI 0 23, isI 0 2] (fun V w k hk hG hD => ?_) (st_I _ _) rfl ?_
  · obtain ⟨f20, -⟩ := hD
    simp only [actT, maskT, Nat.reduceAdd, if_true, if_false, Bool.false_eq_true]
    obtain ⟨x20, e20, p20, q20⟩ := f20
    rw [e20]
    go_wp2_with fail
    exact DP_mk (rv_same (by omega) hG ⟨_, rfl, by omega, by omega⟩)
  refine wpK_consL (isI 6 8) [isV ((Value.slice Ab m c')), isA 3, isV ((Value.pointer (some ⟨X.g, 0, none⟩))), isS X.g W.heap.size 8 8, isV ((Value.pointer (some ⟨X.g, 0, none⟩))), isI 0 23, isI 0 2, isI 6 8] (fun V w k hk hG hD => ?_) (st_I _ _) rfl ?_
  · obtain ⟨f21, -⟩ := hD
    simp only [actT, maskT, Nat.reduceAdd, if_true, if_false, Bool.false_eq_true]
    obtain ⟨x21, e21, p21, q21⟩ := f21
    rw [e21]
    go_wp2_with fail
    exact DP_mk (rv_same (by omega) hG ⟨_, rfl, by omega, by omega⟩)
  refine wpK_consL (isS X.g W.heap.size 6 8) [isV ((Value.slice Ab m c')), isA 3, isV ((Value.pointer (some ⟨X.g, 0, none⟩))), isS X.g W.heap.size 8 8, isV ((Value.pointer (some ⟨X.g, 0, none⟩))), isI 0 23, isI 0 2, isI 6 8, isS X.g W.heap.size 6 8] (fun V w k hk hG hD => ?_) (st_S _ _) rfl ?_
  · obtain ⟨f18, f22, -⟩ := hD
    simp only [actT, maskT, Nat.reduceAdd, if_true, if_false, Bool.false_eq_true]
    obtain ⟨b18, n18, e18, p18, q18, r18, s18, hS18⟩ := f18
    rw [e18]
    obtain ⟨x22, e22, p22, q22⟩ := f22
    rw [e22]
    obtain ⟨m22, em22⟩ : ∃ m : Nat, x22 = (m : Int) := ⟨x22.toNat, by omega⟩
    subst em22
    go_wp2_with fail
    exact DP_mk (rv_same (by omega) hG ⟨_, _, rfl, by omega, by omega, r18, s18, hS18⟩)
  refine wpK_consL (isI (-9223372036854775808) 9223372036854775807) [isV ((Value.slice Ab m c')), isA 3, isV ((Value.pointer (some ⟨X.g, 0, none⟩))), isS X.g W.heap.size 8 8, isV ((Value.pointer (some ⟨X.g, 0, none⟩))), isI 0 23, isI 0 2, isI 6 8, isS X.g W.heap.size 6 8, isI (-9223372036854775808) 9223372036854775807] (fun V w k hk hG hD => ?_) (st_I _ _) rfl ?_
  · obtain ⟨f17, f23, -⟩ := hD
    simp only [actT, maskT, Nat.reduceAdd, if_true, if_false, Bool.false_eq_true]
    rw [show V 17 = (Value.pointer (some ⟨X.g, 0, none⟩)) from f17]
    obtain ⟨b23, n23, e23, p23, q23, r23, s23, hS23⟩ := f23
    rw [e23]
    go_wp2_with (go_at_call 60; refine (among_ty _ _ _ hG.cur (by have := bud k hk; omega) hS23 (by omega) (by omega) (by omega) (by omega)).mono ?_; rintro e w' ⟨v, rfl, hg, hC, hd⟩)
    exact DP_mk (rv_call (by omega) hG hg hC hd)
  refine wpK_consL (isV ((Value.slice Ab m c'))) [isV ((Value.slice Ab m c')), isA 3, isV ((Value.pointer (some ⟨X.g, 0, none⟩))), isS X.g W.heap.size 8 8, isV ((Value.pointer (some ⟨X.g, 0, none⟩))), isI 0 23, isI 0 2, isI 6 8, isS X.g W.heap.size 6 8, isI (-9223372036854775808) 9223372036854775807, isV ((Value.slice Ab m c'))] (fun V w k hk hG hD => ?_) (st_V _) rfl ?_
  · obtain ⟨f15, -⟩ := hD
    simp only [actT, maskT, Nat.reduceAdd, if_true, if_false, Bool.false_eq_true]
    go_wp2_with fail
    exact DP_mk (rv_same (by omega) hG f15)
  refine wpK_consL (isT) [isV ((Value.slice Ab m c')), isA 3, isV ((Value.pointer (some ⟨X.g, 0, none⟩))), isS X.g W.heap.size 8 8, isV ((Value.pointer (some ⟨X.g, 0, none⟩))), isI 0 23, isI 0 2, isI 6 8, isS X.g W.heap.size 6 8, isI (-9223372036854775808) 9223372036854775807, isV ((Value.slice Ab m c')), isT] (fun V w k hk hG hD => ?_) (st_T) rfl ?_
  · obtain ⟨f16, -⟩ := hD
    simp only [actT, maskT, Nat.reduceAdd, if_true, if_false, Bool.false_eq_true]
    obtain ⟨zs16, ez16, lz16, hz16⟩ := f16
    obtain ⟨z16_0, z16_1, z16_2, ew16⟩ := list3 lz16
    rw [ew16] at ez16 hz16
    simp only [ints, List.map_cons, List.map_nil] at ez16
    rw [ez16]
    have gR := hG.le.good d3 _ _ (.inr (by simp)) nd3 gd3
    obtain ⟨y0, c0, -, -⟩ := gR.cell (j := 0) (by omega)
    obtain ⟨y1, c1, -, -⟩ := gR.cell (j := 1) (by omega)
    obtain ⟨y2, c2, -, -⟩ := gR.cell (j := 2) (by omega)
    have fz0 := gR.frozen 0
    have fz1 := gR.frozen 1
    have fz2 := gR.frozen 2
    have gl := gR.lt
    simp only [List.mem_cons, List.not_mem_nil, or_false, forall_eq_or_imp, forall_eq] at hz16
    obtain ⟨⟨v0, w0⟩, ⟨v1, w1⟩, ⟨v2, w2⟩⟩ := hz16
    go_wp2_with fail
    exact DP_mk (v := undef) (rv_then (((Lx.refl _ _ _ _).trans (Lx.set _ (by simp) (sm_int.2 ⟨v0, w0⟩))).trans (Lx.set _ (by simp) (sm_int.2 ⟨v1, w1⟩))) (rv_set (R := isT) (by omega) (gg_set (gg_set hG (by simp) nd3 ad3 (sm_int.2 ⟨v0, w0⟩)) (by simp) nd3 ad3 (sm_int.2 ⟨v1, w1⟩)) (by simp) nd3 ad3 (sm_int.2 ⟨v2, w2⟩) trivial))
  refine wpK_consL (isI (-9223372036854775808) 9223372036854775807) [isV ((Value.slice Ab m c')), isA 3, isV ((Value.pointer (some ⟨X.g, 0, none⟩))), isS X.g W.heap.size 8 8, isV ((Value.pointer (some ⟨X.g, 0, none⟩))), isI 0 23, isI 0 2, isI 6 8, isS X.g W.heap.size 6 8, isI (-9223372036854775808) 9223372036854775807, isV ((Value.slice Ab m c')), isT, isI (-9223372036854775808) 9223372036854775807] (fun V w k hk hG hD => ?_) (st_I _ _) rfl ?_
  · obtain ⟨f24, -⟩ := hD
    simp only [actT, maskT, Nat.reduceAdd, if_true, if_false, Bool.false_eq_true]
    go_wp2_with fail
    exact DP_mk (rv_same (by omega) hG f24)
  refine wpK_nil (fun V W hG hD => ?_)
  obtain ⟨f15, f16, f17, f18, f19, f20, f21, f22, f23, f24, f2, f_11, f4, -⟩ := hD
  simp only [actT, maskT, Nat.reduceAdd, if_true, if_false, Bool.false_eq_true]
  clear bud
  have bW := below_lx bW hG.le (fun b hb => by simp at hb; omega) hwg (by have := bW.size; omega)
  have hO := own_lx hO hG.le (fun b' e => ⟨by have := rd7 b' e; have := rd3 b' e; simp; omega, own_ne hO hgo b' e⟩)
  have gd7 := hG.le.good d7 _ _ (.inr (by simp)) nd7 gd7
  have gd3 := hG.le.good d3 _ _ (.inr (by simp)) nd3 gd3
  obtain ⟨yS0, cS0, lS0, hS0⟩ := gd3.cell (j := 0) (by omega)
  obtain ⟨yS1, cS1, lS1, hS1⟩ := gd3.cell (j := 1) (by omega)
  obtain ⟨yS2, cS2, lS2, hS2⟩ := gd3.cell (j := 2) (by omega)
  have fS0 := gd3.frozen 0
  have fS1 := gd3.frozen 1
  have fS2 := gd3.frozen 2
  have bS := gd3.lt
  obtain ⟨zx, ex, x0, x1⟩ := f4
  rw [show V 2 = (.slice Ab m c') from f2]
  rw [ex]
  clear hG f2 ex f15 f16 f17 f18 f19 f20 f21 f22 f23 f24 f_11
  go_wp2
  (refine bodyPost_ret (by simp (maxDischargeDepth := 4) [results, Try.results36, go_sem, *]; try rfl) rfl ?_)
  exact ⟨Ab, m, c', zs, yS0, yS1, yS2, zx, rfl, ⟨⟨own_r hO, HL.out, hm, hz⟩, ⟨lS0, hS0⟩, ⟨lS1, hS1⟩, ⟨lS2, hS2⟩, ⟨x0, x1⟩⟩, bW⟩
theorem DrawLitersIn_any (A : Option Addr) (n c : Nat) (cs : List Value) (w : World) (hc : Code w A n cs) :
    Calls Try.prog 33 #[.slice A n c] w fun e w' => ∃ i l s f fi wa le ba x y, e = .returned (.tuple #[.agg #[.int .i64 i, .int .i64 l, .int .i64 s, .int .i64 f, .int .i64 fi], .agg #[.int .i64 wa, .int .i64 le, .int .i64 ba], .int .i64 x, .int .i64 y]) ∧ (I64 i ∧ I64 l ∧ I64 s ∧ I64 f ∧ I64 fi ∧ I64 wa ∧ I64 le ∧ I64 ba ∧ I64 x ∧ I64 y) ∧ Below w.heap.size w w' := by
  go_enter Try.func33, Try.ntmps33
  go_upto_region 2 with fail
  obtain ⟨X, hX⟩ : ∃ X : DX, X = ⟨w.heap.size + 1 + 1, A, n, c, cs, w.heap.size + 1 + 1 + 1⟩ := ⟨_, rfl⟩
  obtain ⟨d2, hd2⟩ : ∃ d, d = w.heap.size := ⟨_, rfl⟩
  obtain ⟨d3, hd3⟩ : ∃ d, d = w.heap.size + 1 := ⟨_, rfl⟩
  refine wp_genC (fun W => Below w.heap.size w W ∧ Cur W X 0 ∧ Good W d2 41 5 ∧ Good W d3 31 3) ⟨by (repeat' (first | (with_reducible exact Below.refl _ _) | (with_reducible assumption) | (with_reducible refine balloc ?_ _) | (with_reducible refine bdrew ?_) | (with_reducible refine bdrewN ?_ _) | (with_reducible refine bstep ?_ (by assumption)) | (with_reducible refine bset ?_ ?_ _) | (exact Below.size (by assumption)) | go_size)), by rw [hX]; exact Cur.made hc (by (repeat' (first | (with_reducible exact Below.refl _ _) | (with_reducible assumption) | (with_reducible refine balloc ?_ _) | (with_reducible refine bdrew ?_) | (with_reducible refine bdrewN ?_ _) | (with_reducible refine bstep ?_ (by assumption)) | (with_reducible refine bset ?_ ?_ _) | (exact Below.size (by assumption)) | go_size))) (by simp), ((Good.lit' (by simp [hd2]) (by simp) (by simp [sm_int])).alloc _).alloc _, (Good.lit' (by simp [hd3]) (by simp) (by simp [sm_int])).alloc _⟩ ?_
  have eg : X.g = w.heap.size + 1 + 1 := by rw [hX]
  have hA3 : 0 < X.n → ∀ a, X.A = some a → a.block < w.heap.size := by rw [hX]; exact hc.lt
  have xb : X.base ≤ X.g + 1 := by rw [hX]; exact Nat.le_refl _
  have xb2 : X.g < X.base := by rw [hX]; exact Nat.lt_succ_self _
  have hwg : w.heap.size ≤ X.g := by omega
  have nd2 : d2 ≠ X.g := by omega
  have wd2 : w.heap.size ≤ d2 := by omega
  have gd20 : d2 < X.g := by omega
  have ad2 : 0 < X.n → ∀ a, X.A = some a → a.block ≠ d2 := fun h0 a ha => by have := hA3 h0 a ha; omega
  have nd3 : d3 ≠ X.g := by omega
  have wd3 : w.heap.size ≤ d3 := by omega
  have gd30 : d3 < X.g := by omega
  have ad3 : 0 < X.n → ∀ a, X.A = some a → a.block ≠ d3 := fun h0 a ha => by have := hA3 h0 a ha; omega
  have nn : d2 ≠ d3 := by omega
  intro W ⟨bW, hC, gd2, gd3⟩
  rw [show w.heap.size + 1 + 1 = X.g from eg.symm]
  rw [show w.heap.size + 1 = d3 from hd3.symm]
  rw [show w.heap.size = d2 from hd2.symm]
  clear eg hX hd2 hd3
  have hlt := hC.lt
  go_upto_region 3 with (first | (go_at_call 50; refine (aircraft_ats X _ _ _ (by omega) hC (by omega) (by omega)).mono ?_; rintro e w' ⟨i, l, s, f, fi, rfl, hg, hC, ⟨i0, i1⟩, ⟨l0, l1⟩, ⟨s0, s1⟩, ⟨f0, f1⟩, ⟨fi0, fi1⟩⟩; have gd2 := good_gr gd2 nd2 hg; have gd3 := good_gr gd3 nd3 hg; have bW := below_gr bW hg hwg; have hlt := hC.lt))
  obtain ⟨d7, ed7⟩ : ∃ d, w'.heap.size = d := ⟨_, rfl⟩
  rw [ed7]
  have sd7 : X.g < d7 := by have := hC.lt; omega
  have nd7 : d7 ≠ X.g := by omega
  have wd7 : w.heap.size ≤ d7 := by omega
  have ad7 : 0 < X.n → ∀ a, X.A = some a → a.block ≠ d7 := fun h0 a ha => by have := hA3 h0 a ha; omega
  refine wp_genC (fun W => Below w.heap.size w W ∧ Cur W X _ ∧ Good W d2 41 5 ∧ Good W d3 31 3 ∧ Good W d7 41 5) ⟨balloc bW _, hC.alloc _, gd2.alloc _, gd3.alloc _, Good.lit' ed7 (by simp) (by simp [sm_int]; omega)⟩ ?_
  clear bW hC hg ed7 gd2 gd3
  intro W ⟨bW, hC, gd2, gd3, gd7⟩
  have hlt := hC.lt
  go_upto_region 4 with (first | (go_at_call 51; refine (target_ats X _ _ (by omega) hC (by omega)).mono ?_; rintro e w' ⟨wa, le, ba, rfl, hg, hC, ⟨wa0, wa1⟩, ⟨le0, le1⟩, ⟨ba0, ba1⟩⟩; have gd2 := good_gr gd2 nd2 hg; have gd3 := good_gr gd3 nd3 hg; have gd7 := good_gr gd7 nd7 hg; have bW := below_gr bW hg hwg; have hlt := hC.lt))
  obtain ⟨d8, ed8⟩ : ∃ d, w'.heap.size = d := ⟨_, rfl⟩
  rw [ed8]
  have sd8 : X.g < d8 := by have := hC.lt; omega
  have nd8 : d8 ≠ X.g := by omega
  have wd8 : w.heap.size ≤ d8 := by omega
  have ad8 : 0 < X.n → ∀ a, X.A = some a → a.block ≠ d8 := fun h0 a ha => by have := hA3 h0 a ha; omega
  refine wp_genC (fun W => Below w.heap.size w W ∧ Cur W X _ ∧ Good W d2 41 5 ∧ Good W d3 31 3 ∧ Good W d7 41 5 ∧ Good W d8 31 3) ⟨balloc bW _, hC.alloc _, gd2.alloc _, gd3.alloc _, gd7.alloc _, Good.lit' ed8 (by simp) (by simp [sm_int]; omega)⟩ ?_
  clear bW hC hg ed8 gd2 gd3 gd7
  intro W ⟨bW, hC, gd2, gd3, gd7, gd8⟩
  have hlt := hC.lt
  have bud : ∀ k : Nat, k < 22 → (0 + 64 + 64) + 2 * (k : Int) ≤ 562949953421312 := fun k hk => by omega
  refine wp_region_inv (Le := Lx X.g [d7, d8, d2, d3] W.heap.size) (G := GG X [d7, d8, d2, d3] W ((0 + 64 + 64)) (2)) 34 [([], [true, true, true, true, false, false, true, true, true, true, true, true, true, true, true, true, true, false, false, false, false, false, false, false, false, false, false, false, false, false, false, false, false, false]), ([], [true, true, true, true, false, false, true, true, true, true, true, true, true, true, true, true, false, true, false, false, false, false, false, false, false, false, false, false, false, false, false, false, false, false]), ([], [true, true, true, true, false, false, true, true, true, true, true, true, true, true, true, true, false, false, true, false, false, false, false, false, false, false, false, false, false, false, false, false, false, false]), ([], [true, true, true, true, false, false, true, true, true, true, true, true, true, true, true, true, false, false, false, true, false, false, false, false, false, false, false, false, false, false, false, false, false, false]), ([], [true, true, true, true, false, false, true, true, true, true, true, true, true, true, true, true, false, false, false, false, true, false, false, false, false, false, false, false, false, false, false, false, false, false]), ([4], [true, true, true, true, false, false, true, true, true, true, true, true, true, true, true, true, false, false, false, false, false, true, false, false, false, false, false, false, false, false, false, false, false, false]), ([5], [true, true, true, true, false, false, true, true, true, true, true, true, true, true, true, true, false, false, false, false, false, false, true, false, false, false, false, false, false, false, false, false, false, false]), ([6], [true, true, true, true, false, false, true, true, true, true, true, true, true, true, true, true, false, false, false, false, false, false, false, true, false, false, false, false, false, false, false, false, false, false]), ([3, 7], [true, true, true, true, false, false, true, true, true, true, true, true, true, true, true, true, false, false, false, false, false, false, false, false, true, false, false, false, false, false, false, false, false, false]), ([2, 8], [true, true, true, true, false, false, true, true, true, true, true, true, true, true, true, true, false, false, false, false, false, false, false, false, false, true, false, false, false, false, false, false, false, false]), ([], [true, true, true, true, false, false, true, true, true, true, true, true, true, true, true, true, false, false, false, false, false, false, false, false, false, false, true, false, false, false, false, false, false, false]), ([], [true, true, true, true, false, false, true, true, true, true, true, true, true, true, true, true, false, false, false, false, false, false, false, false, false, false, false, true, false, false, false, false, false, false]), ([], [true, true, true, true, false, false, true, true, true, true, true, true, true, true, true, true, false, false, false, false, false, false, false, false, false, false, false, false, true, false, false, false, false, false]), ([12], [true, true, true, true, false, false, true, true, true, true, true, true, true, true, true, true, false, false, false, false, false, false, false, false, false, false, false, false, false, true, false, false, false, false]), ([13], [true, true, true, true, false, false, true, true, true, true, true, true, true, true, true, true, false, false, false, false, false, false, false, false, false, false, false, false, false, false, true, false, false, false]), ([14], [true, true, true, true, false, false, true, true, true, true, true, true, true, true, true, true, false, false, false, false, false, false, false, false, false, false, false, false, false, false, false, true, false, false]), ([11, 15], [true, true, true, true, false, false, true, true, true, true, true, true, true, true, true, true, false, false, false, false, false, false, false, false, false, false, false, false, false, false, false, false, true, false]), ([10, 16], [true, true, true, true, false, false, true, true, true, true, true, true, true, true, true, true, false, false, false, false, false, false, false, false, false, false, false, false, false, false, false, false, false, true]), ([0], [true, true, true, true, false, false, true, true, true, true, true, true, true, true, true, true, false, false, false, false, false, false, false, false, false, false, false, false, false, false, false, false, false, false]), ([1], [true, true, true, true, false, false, true, true, true, true, true, true, true, true, true, true, false, false, false, false, false, false, false, false, false, false, false, false, false, false, false, false, false, false]), ([9], [true, true, true, true, true, false, true, true, true, true, true, true, true, true, true, true, false, false, false, false, false, false, false, false, false, false, false, false, false, false, false, false, false, false]), ([17], [true, true, true, true, false, true, true, true, true, true, true, true, true, true, true, true, false, false, false, false, false, false, false, false, false, false, false, false, false, false, false, false, false, false])] [true, true, true, true, false, false, true, true, true, true, true, true, true, true, true, true, false, false, false, false, false, false, false, false, false, false, false, false, false, false, false, false, false, false] (by kernel_rfl) (by rfl) (by kernel_rfl) ⟨⟨rfl, rfl, rfl, Nat.le_refl _, fun _ _ _ _ _ => rfl, fun _ _ _ _ _ h => h⟩, hC.drew.le (by omega)⟩ ?_
  refine wpK_consL (isA 5) [isA 5] (fun V w k hk hG hD => ?_) (st_A _) rfl ?_
  · obtain ⟨-⟩ := hD
    simp only [actT, maskT, Nat.reduceAdd, if_true, if_false, Bool.false_eq_true]
    have gk := hG.le.good d7 _ _ (.inr (by simp)) nd7 gd7
    obtain ⟨y0, cy0, l0, h0⟩ := gk.cell (j := 0) (by omega)
    obtain ⟨y1, cy1, l1, h1⟩ := gk.cell (j := 1) (by omega)
    obtain ⟨y2, cy2, l2, h2⟩ := gk.cell (j := 2) (by omega)
    obtain ⟨y3, cy3, l3, h3⟩ := gk.cell (j := 3) (by omega)
    obtain ⟨y4, cy4, l4, h4⟩ := gk.cell (j := 4) (by omega)
    have gl := gk.lt
    go_wp2_with fail
    exact DP_mk (rv_same (by omega) hG ⟨[y0, y1, y2, y3, y4], rfl, rfl, by simp; omega⟩)
  refine wpK_consL (isA 3) [isA 5, isA 3] (fun V w k hk hG hD => ?_) (st_A _) rfl ?_
  · obtain ⟨-⟩ := hD
    simp only [actT, maskT, Nat.reduceAdd, if_true, if_false, Bool.false_eq_true]
    have gk := hG.le.good d8 _ _ (.inr (by simp)) nd8 gd8
    obtain ⟨y0, cy0, l0, h0⟩ := gk.cell (j := 0) (by omega)
    obtain ⟨y1, cy1, l1, h1⟩ := gk.cell (j := 1) (by omega)
    obtain ⟨y2, cy2, l2, h2⟩ := gk.cell (j := 2) (by omega)
    have gl := gk.lt
    go_wp2_with fail
    exact DP_mk (rv_same (by omega) hG ⟨[y0, y1, y2], rfl, rfl, by simp; omega⟩)
  refine wpK_consL (isV ((Value.pointer (some ⟨X.g, 0, none⟩)))) [isA 5, isA 3, isV ((Value.pointer (some ⟨X.g, 0, none⟩)))] (fun V w k hk hG hD => ?_) (st_V _) rfl ?_
  · obtain ⟨-⟩ := hD
    simp only [actT, maskT, Nat.reduceAdd, if_true, if_false, Bool.false_eq_true]
    go_wp2_with fail
    exact DP_mk (rv_same (by omega) hG rfl)
  refine wpK_consL (isS X.g W.heap.size 7 7) [isA 5, isA 3, isV ((Value.pointer (some ⟨X.g, 0, none⟩))), isS X.g W.heap.size 7 7] (fun V w k hk hG hD => ?_) (st_S _ _) rfl ?_
  · obtain ⟨-⟩ := hD
    simp only [actT, maskT, Nat.reduceAdd, if_true, if_false, Bool.false_eq_true]
    go_wp2_with fail
    exact DP_mk (rv_alloc (by omega) hG ⟨_, _, rfl, by omega, by omega, hG.le.size, by have := hG.cur.lt; omega, Good.lit' rfl (by simp) (by simp [sm_int])⟩)
  refine wpK_consL (isV ((Value.pointer (some ⟨X.g, 0, none⟩)))) [isA 5, isA 3, isV ((Value.pointer (some ⟨X.g, 0, none⟩))), isS X.g W.heap.size 7 7, isV ((Value.pointer (some ⟨X.g, 0, none⟩)))] (fun V w k hk hG hD => ?_) (st_V _) rfl ?_
  · obtain ⟨-⟩ := hD
    simp only [actT, maskT, Nat.reduceAdd, if_true, if_false, Bool.false_eq_true]
    go_wp2_with fail
    exact DP_mk (rv_same (by omega) hG rfl)
  refine wpK_consL (isI 0 23) [isA 5, isA 3, isV ((Value.pointer (some ⟨X.g, 0, none⟩))), isS X.g W.heap.size 7 7, isV ((Value.pointer (some ⟨X.g, 0, none⟩))), isI 0 23] (fun V w k hk hG hD => ?_) (st_I _ _) rfl ?_
  · obtain ⟨f20, -⟩ := hD
    simp only [actT, maskT, Nat.reduceAdd, if_true, if_false, Bool.false_eq_true]
    rw [show V 20 = (Value.pointer (some ⟨X.g, 0, none⟩)) from f20]
    go_wp2_with (go_at_call 61; refine (pick_ty _ _ _ 23 _ hG.cur (by have := bud k hk; omega) (by omega) (by omega) (by omega)).mono ?_; rintro e w' ⟨v, rfl, hg, hC, hd⟩)
    exact DP_mk (rv_call (by omega) hG hg hC hd)
  refine wpK_consL (isI 0 2) [isA 5, isA 3, isV ((Value.pointer (some ⟨X.g, 0, none⟩))), isS X.g W.heap.size 7 7, isV ((Value.pointer (some ⟨X.g, 0, none⟩))), isI 0 23, isI 0 2] (fun V w k hk hG hD => ?_) (st_I _ _) rfl ?_
  · obtain ⟨f21, -⟩ := hD
    simp only [actT, maskT, Nat.reduceAdd, if_true, if_false, Bool.false_eq_true]
    obtain ⟨x21, e21, p21, q21⟩ := f21
    rw [e21]
    go_wp2_with fail
    exact DP_mk (rv_same (by omega) hG ⟨_, rfl, by omega, by omega⟩)
  refine wpK_consL (isI 5 7) [isA 5, isA 3, isV ((Value.pointer (some ⟨X.g, 0, none⟩))), isS X.g W.heap.size 7 7, isV ((Value.pointer (some ⟨X.g, 0, none⟩))), isI 0 23, isI 0 2, isI 5 7] (fun V w k hk hG hD => ?_) (st_I _ _) rfl ?_
  · obtain ⟨f22, -⟩ := hD
    simp only [actT, maskT, Nat.reduceAdd, if_true, if_false, Bool.false_eq_true]
    obtain ⟨x22, e22, p22, q22⟩ := f22
    rw [e22]
    go_wp2_with fail
    exact DP_mk (rv_same (by omega) hG ⟨_, rfl, by omega, by omega⟩)
  refine wpK_consL (isS X.g W.heap.size 5 7) [isA 5, isA 3, isV ((Value.pointer (some ⟨X.g, 0, none⟩))), isS X.g W.heap.size 7 7, isV ((Value.pointer (some ⟨X.g, 0, none⟩))), isI 0 23, isI 0 2, isI 5 7, isS X.g W.heap.size 5 7] (fun V w k hk hG hD => ?_) (st_S _ _) rfl ?_
  · obtain ⟨f19, f23, -⟩ := hD
    simp only [actT, maskT, Nat.reduceAdd, if_true, if_false, Bool.false_eq_true]
    obtain ⟨b19, n19, e19, p19, q19, r19, s19, hS19⟩ := f19
    rw [e19]
    obtain ⟨x23, e23, p23, q23⟩ := f23
    rw [e23]
    obtain ⟨m23, em23⟩ : ∃ m : Nat, x23 = (m : Int) := ⟨x23.toNat, by omega⟩
    subst em23
    go_wp2_with fail
    exact DP_mk (rv_same (by omega) hG ⟨_, _, rfl, by omega, by omega, r19, s19, hS19⟩)
  refine wpK_consL (isI (-9223372036854775808) 9223372036854775807) [isA 5, isA 3, isV ((Value.pointer (some ⟨X.g, 0, none⟩))), isS X.g W.heap.size 7 7, isV ((Value.pointer (some ⟨X.g, 0, none⟩))), isI 0 23, isI 0 2, isI 5 7, isS X.g W.heap.size 5 7, isI (-9223372036854775808) 9223372036854775807] (fun V w k hk hG hD => ?_) (st_I _ _) rfl ?_
  · obtain ⟨f18, f24, -⟩ := hD
    simp only [actT, maskT, Nat.reduceAdd, if_true, if_false, Bool.false_eq_true]
    rw [show V 18 = (Value.pointer (some ⟨X.g, 0, none⟩)) from f18]
    obtain ⟨b24, n24, e24, p24, q24, r24, s24, hS24⟩ := f24
    rw [e24]
    go_wp2_with (go_at_call 60; refine (among_ty _ _ _ hG.cur (by have := bud k hk; omega) hS24 (by omega) (by omega) (by omega) (by omega)).mono ?_; rintro e w' ⟨v, rfl, hg, hC, hd⟩)
    exact DP_mk (rv_call (by omega) hG hg hC hd)
  refine wpK_consL (isV ((Value.pointer (some ⟨X.g, 0, none⟩)))) [isA 5, isA 3, isV ((Value.pointer (some ⟨X.g, 0, none⟩))), isS X.g W.heap.size 7 7, isV ((Value.pointer (some ⟨X.g, 0, none⟩))), isI 0 23, isI 0 2, isI 5 7, isS X.g W.heap.size 5 7, isI (-9223372036854775808) 9223372036854775807, isV ((Value.pointer (some ⟨X.g, 0, none⟩)))] (fun V w k hk hG hD => ?_) (st_V _) rfl ?_
  · obtain ⟨-⟩ := hD
    simp only [actT, maskT, Nat.reduceAdd, if_true, if_false, Bool.false_eq_true]
    go_wp2_with fail
    exact DP_mk (rv_same (by omega) hG rfl)
  refine wpK_consL (isS X.g W.heap.size 5 5) [isA 5, isA 3, isV ((Value.pointer (some ⟨X.g, 0, none⟩))), isS X.g W.heap.size 7 7, isV ((Value.pointer (some ⟨X.g, 0, none⟩))), isI 0 23, isI 0 2, isI 5 7, isS X.g W.heap.size 5 7, isI (-9223372036854775808) 9223372036854775807, isV ((Value.pointer (some ⟨X.g, 0, none⟩))), isS X.g W.heap.size 5 5] (fun V w k hk hG hD => ?_) (st_S _ _) rfl ?_
  · obtain ⟨-⟩ := hD
    simp only [actT, maskT, Nat.reduceAdd, if_true, if_false, Bool.false_eq_true]
    go_wp2_with fail
    exact DP_mk (rv_alloc (by omega) hG ⟨_, _, rfl, by omega, by omega, hG.le.size, by have := hG.cur.lt; omega, Good.lit' rfl (by simp) (by simp [sm_int])⟩)
  refine wpK_consL (isV ((Value.pointer (some ⟨X.g, 0, none⟩)))) [isA 5, isA 3, isV ((Value.pointer (some ⟨X.g, 0, none⟩))), isS X.g W.heap.size 7 7, isV ((Value.pointer (some ⟨X.g, 0, none⟩))), isI 0 23, isI 0 2, isI 5 7, isS X.g W.heap.size 5 7, isI (-9223372036854775808) 9223372036854775807, isV ((Value.pointer (some ⟨X.g, 0, none⟩))), isS X.g W.heap.size 5 5, isV ((Value.pointer (some ⟨X.g, 0, none⟩)))] (fun V w k hk hG hD => ?_) (st_V _) rfl ?_
  · obtain ⟨-⟩ := hD
    simp only [actT, maskT, Nat.reduceAdd, if_true, if_false, Bool.false_eq_true]
    go_wp2_with fail
    exact DP_mk (rv_same (by omega) hG rfl)
  refine wpK_consL (isI 0 23) [isA 5, isA 3, isV ((Value.pointer (some ⟨X.g, 0, none⟩))), isS X.g W.heap.size 7 7, isV ((Value.pointer (some ⟨X.g, 0, none⟩))), isI 0 23, isI 0 2, isI 5 7, isS X.g W.heap.size 5 7, isI (-9223372036854775808) 9223372036854775807, isV ((Value.pointer (some ⟨X.g, 0, none⟩))), isS X.g W.heap.size 5 5, isV ((Value.pointer (some ⟨X.g, 0, none⟩))), isI 0 23] (fun V w k hk hG hD => ?_) (st_I _ _) rfl ?_
  · obtain ⟨f28, -⟩ := hD
    simp only [actT, maskT, Nat.reduceAdd, if_true, if_false, Bool.false_eq_true]
    rw [show V 28 = (Value.pointer (some ⟨X.g, 0, none⟩)) from f28]
    go_wp2_with (go_at_call 61; refine (pick_ty _ _ _ 23 _ hG.cur (by have := bud k hk; omega) (by omega) (by omega) (by omega)).mono ?_; rintro e w' ⟨v, rfl, hg, hC, hd⟩)
    exact DP_mk (rv_call (by omega) hG hg hC hd)
  refine wpK_consL (isI 0 2) [isA 5, isA 3, isV ((Value.pointer (some ⟨X.g, 0, none⟩))), isS X.g W.heap.size 7 7, isV ((Value.pointer (some ⟨X.g, 0, none⟩))), isI 0 23, isI 0 2, isI 5 7, isS X.g W.heap.size 5 7, isI (-9223372036854775808) 9223372036854775807, isV ((Value.pointer (some ⟨X.g, 0, none⟩))), isS X.g W.heap.size 5 5, isV ((Value.pointer (some ⟨X.g, 0, none⟩))), isI 0 23, isI 0 2] (fun V w k hk hG hD => ?_) (st_I _ _) rfl ?_
  · obtain ⟨f29, -⟩ := hD
    simp only [actT, maskT, Nat.reduceAdd, if_true, if_false, Bool.false_eq_true]
    obtain ⟨x29, e29, p29, q29⟩ := f29
    rw [e29]
    go_wp2_with fail
    exact DP_mk (rv_same (by omega) hG ⟨_, rfl, by omega, by omega⟩)
  refine wpK_consL (isI 3 5) [isA 5, isA 3, isV ((Value.pointer (some ⟨X.g, 0, none⟩))), isS X.g W.heap.size 7 7, isV ((Value.pointer (some ⟨X.g, 0, none⟩))), isI 0 23, isI 0 2, isI 5 7, isS X.g W.heap.size 5 7, isI (-9223372036854775808) 9223372036854775807, isV ((Value.pointer (some ⟨X.g, 0, none⟩))), isS X.g W.heap.size 5 5, isV ((Value.pointer (some ⟨X.g, 0, none⟩))), isI 0 23, isI 0 2, isI 3 5] (fun V w k hk hG hD => ?_) (st_I _ _) rfl ?_
  · obtain ⟨f30, -⟩ := hD
    simp only [actT, maskT, Nat.reduceAdd, if_true, if_false, Bool.false_eq_true]
    obtain ⟨x30, e30, p30, q30⟩ := f30
    rw [e30]
    go_wp2_with fail
    exact DP_mk (rv_same (by omega) hG ⟨_, rfl, by omega, by omega⟩)
  refine wpK_consL (isS X.g W.heap.size 3 5) [isA 5, isA 3, isV ((Value.pointer (some ⟨X.g, 0, none⟩))), isS X.g W.heap.size 7 7, isV ((Value.pointer (some ⟨X.g, 0, none⟩))), isI 0 23, isI 0 2, isI 5 7, isS X.g W.heap.size 5 7, isI (-9223372036854775808) 9223372036854775807, isV ((Value.pointer (some ⟨X.g, 0, none⟩))), isS X.g W.heap.size 5 5, isV ((Value.pointer (some ⟨X.g, 0, none⟩))), isI 0 23, isI 0 2, isI 3 5, isS X.g W.heap.size 3 5] (fun V w k hk hG hD => ?_) (st_S _ _) rfl ?_
  · obtain ⟨f27, f31, -⟩ := hD
    simp only [actT, maskT, Nat.reduceAdd, if_true, if_false, Bool.false_eq_true]
    obtain ⟨b27, n27, e27, p27, q27, r27, s27, hS27⟩ := f27
    rw [e27]
    obtain ⟨x31, e31, p31, q31⟩ := f31
    rw [e31]
    obtain ⟨m31, em31⟩ : ∃ m : Nat, x31 = (m : Int) := ⟨x31.toNat, by omega⟩
    subst em31
    go_wp2_with fail
    exact DP_mk (rv_same (by omega) hG ⟨_, _, rfl, by omega, by omega, r27, s27, hS27⟩)
  refine wpK_consL (isI (-9223372036854775808) 9223372036854775807) [isA 5, isA 3, isV ((Value.pointer (some ⟨X.g, 0, none⟩))), isS X.g W.heap.size 7 7, isV ((Value.pointer (some ⟨X.g, 0, none⟩))), isI 0 23, isI 0 2, isI 5 7, isS X.g W.heap.size 5 7, isI (-9223372036854775808) 9223372036854775807, isV ((Value.pointer (some ⟨X.g, 0, none⟩))), isS X.g W.heap.size 5 5, isV ((Value.pointer (some ⟨X.g, 0, none⟩))), isI 0 23, isI 0 2, isI 3 5, isS X.g W.heap.size 3 5, isI (-9223372036854775808) 9223372036854775807] (fun V w k hk hG hD => ?_) (st_I _ _) rfl ?_
  · obtain ⟨f26, f32, -⟩ := hD
    simp only [actT, maskT, Nat.reduceAdd, if_true, if_false, Bool.false_eq_true]
    rw [show V 26 = (Value.pointer (some ⟨X.g, 0, none⟩)) from f26]
    obtain ⟨b32, n32, e32, p32, q32, r32, s32, hS32⟩ := f32
    rw [e32]
    go_wp2_with (go_at_call 60; refine (among_ty _ _ _ hG.cur (by have := bud k hk; omega) hS32 (by omega) (by omega) (by omega) (by omega)).mono ?_; rintro e w' ⟨v, rfl, hg, hC, hd⟩)
    exact DP_mk (rv_call (by omega) hG hg hC hd)
  refine wpK_consL (isT) [isA 5, isA 3, isV ((Value.pointer (some ⟨X.g, 0, none⟩))), isS X.g W.heap.size 7 7, isV ((Value.pointer (some ⟨X.g, 0, none⟩))), isI 0 23, isI 0 2, isI 5 7, isS X.g W.heap.size 5 7, isI (-9223372036854775808) 9223372036854775807, isV ((Value.pointer (some ⟨X.g, 0, none⟩))), isS X.g W.heap.size 5 5, isV ((Value.pointer (some ⟨X.g, 0, none⟩))), isI 0 23, isI 0 2, isI 3 5, isS X.g W.heap.size 3 5, isI (-9223372036854775808) 9223372036854775807, isT] (fun V w k hk hG hD => ?_) (st_T) rfl ?_
  · obtain ⟨f16, -⟩ := hD
    simp only [actT, maskT, Nat.reduceAdd, if_true, if_false, Bool.false_eq_true]
    obtain ⟨zs16, ez16, lz16, hz16⟩ := f16
    obtain ⟨z16_0, z16_1, z16_2, z16_3, z16_4, ew16⟩ := list5 lz16
    rw [ew16] at ez16 hz16
    simp only [ints, List.map_cons, List.map_nil] at ez16
    rw [ez16]
    have gR := hG.le.good d2 _ _ (.inr (by simp)) nd2 gd2
    obtain ⟨y0, c0, -, -⟩ := gR.cell (j := 0) (by omega)
    obtain ⟨y1, c1, -, -⟩ := gR.cell (j := 1) (by omega)
    obtain ⟨y2, c2, -, -⟩ := gR.cell (j := 2) (by omega)
    obtain ⟨y3, c3, -, -⟩ := gR.cell (j := 3) (by omega)
    obtain ⟨y4, c4, -, -⟩ := gR.cell (j := 4) (by omega)
    have fz0 := gR.frozen 0
    have fz1 := gR.frozen 1
    have fz2 := gR.frozen 2
    have fz3 := gR.frozen 3
    have fz4 := gR.frozen 4
    have gl := gR.lt
    simp only [List.mem_cons, List.not_mem_nil, or_false, forall_eq_or_imp, forall_eq] at hz16
    obtain ⟨⟨v0, w0⟩, ⟨v1, w1⟩, ⟨v2, w2⟩, ⟨v3, w3⟩, ⟨v4, w4⟩⟩ := hz16
    go_wp2_with fail
    exact DP_mk (v := undef) (rv_then (((((Lx.refl _ _ _ _).trans (Lx.set _ (by simp) (sm_int.2 ⟨v0, w0⟩))).trans (Lx.set _ (by simp) (sm_int.2 ⟨v1, w1⟩))).trans (Lx.set _ (by simp) (sm_int.2 ⟨v2, w2⟩))).trans (Lx.set _ (by simp) (sm_int.2 ⟨v3, w3⟩))) (rv_set (R := isT) (by omega) (gg_set (gg_set (gg_set (gg_set hG (by simp) nd2 ad2 (sm_int.2 ⟨v0, w0⟩)) (by simp) nd2 ad2 (sm_int.2 ⟨v1, w1⟩)) (by simp) nd2 ad2 (sm_int.2 ⟨v2, w2⟩)) (by simp) nd2 ad2 (sm_int.2 ⟨v3, w3⟩)) (by simp) nd2 ad2 (sm_int.2 ⟨v4, w4⟩) trivial))
  refine wpK_consL (isT) [isA 5, isA 3, isV ((Value.pointer (some ⟨X.g, 0, none⟩))), isS X.g W.heap.size 7 7, isV ((Value.pointer (some ⟨X.g, 0, none⟩))), isI 0 23, isI 0 2, isI 5 7, isS X.g W.heap.size 5 7, isI (-9223372036854775808) 9223372036854775807, isV ((Value.pointer (some ⟨X.g, 0, none⟩))), isS X.g W.heap.size 5 5, isV ((Value.pointer (some ⟨X.g, 0, none⟩))), isI 0 23, isI 0 2, isI 3 5, isS X.g W.heap.size 3 5, isI (-9223372036854775808) 9223372036854775807, isT, isT] (fun V w k hk hG hD => ?_) (st_T) rfl ?_
  · obtain ⟨f17, -⟩ := hD
    simp only [actT, maskT, Nat.reduceAdd, if_true, if_false, Bool.false_eq_true]
    obtain ⟨zs17, ez17, lz17, hz17⟩ := f17
    obtain ⟨z17_0, z17_1, z17_2, ew17⟩ := list3 lz17
    rw [ew17] at ez17 hz17
    simp only [ints, List.map_cons, List.map_nil] at ez17
    rw [ez17]
    have gR := hG.le.good d3 _ _ (.inr (by simp)) nd3 gd3
    obtain ⟨y0, c0, -, -⟩ := gR.cell (j := 0) (by omega)
    obtain ⟨y1, c1, -, -⟩ := gR.cell (j := 1) (by omega)
    obtain ⟨y2, c2, -, -⟩ := gR.cell (j := 2) (by omega)
    have fz0 := gR.frozen 0
    have fz1 := gR.frozen 1
    have fz2 := gR.frozen 2
    have gl := gR.lt
    simp only [List.mem_cons, List.not_mem_nil, or_false, forall_eq_or_imp, forall_eq] at hz17
    obtain ⟨⟨v0, w0⟩, ⟨v1, w1⟩, ⟨v2, w2⟩⟩ := hz17
    go_wp2_with fail
    exact DP_mk (v := undef) (rv_then (((Lx.refl _ _ _ _).trans (Lx.set _ (by simp) (sm_int.2 ⟨v0, w0⟩))).trans (Lx.set _ (by simp) (sm_int.2 ⟨v1, w1⟩))) (rv_set (R := isT) (by omega) (gg_set (gg_set hG (by simp) nd3 ad3 (sm_int.2 ⟨v0, w0⟩)) (by simp) nd3 ad3 (sm_int.2 ⟨v1, w1⟩)) (by simp) nd3 ad3 (sm_int.2 ⟨v2, w2⟩) trivial))
  refine wpK_consL (isI (-9223372036854775808) 9223372036854775807) [isA 5, isA 3, isV ((Value.pointer (some ⟨X.g, 0, none⟩))), isS X.g W.heap.size 7 7, isV ((Value.pointer (some ⟨X.g, 0, none⟩))), isI 0 23, isI 0 2, isI 5 7, isS X.g W.heap.size 5 7, isI (-9223372036854775808) 9223372036854775807, isV ((Value.pointer (some ⟨X.g, 0, none⟩))), isS X.g W.heap.size 5 5, isV ((Value.pointer (some ⟨X.g, 0, none⟩))), isI 0 23, isI 0 2, isI 3 5, isS X.g W.heap.size 3 5, isI (-9223372036854775808) 9223372036854775807, isT, isT, isI (-9223372036854775808) 9223372036854775807] (fun V w k hk hG hD => ?_) (st_I _ _) rfl ?_
  · obtain ⟨f25, -⟩ := hD
    simp only [actT, maskT, Nat.reduceAdd, if_true, if_false, Bool.false_eq_true]
    go_wp2_with fail
    exact DP_mk (rv_same (by omega) hG f25)
  refine wpK_consL (isI (-9223372036854775808) 9223372036854775807) [isA 5, isA 3, isV ((Value.pointer (some ⟨X.g, 0, none⟩))), isS X.g W.heap.size 7 7, isV ((Value.pointer (some ⟨X.g, 0, none⟩))), isI 0 23, isI 0 2, isI 5 7, isS X.g W.heap.size 5 7, isI (-9223372036854775808) 9223372036854775807, isV ((Value.pointer (some ⟨X.g, 0, none⟩))), isS X.g W.heap.size 5 5, isV ((Value.pointer (some ⟨X.g, 0, none⟩))), isI 0 23, isI 0 2, isI 3 5, isS X.g W.heap.size 3 5, isI (-9223372036854775808) 9223372036854775807, isT, isT, isI (-9223372036854775808) 9223372036854775807, isI (-9223372036854775808) 9223372036854775807] (fun V w k hk hG hD => ?_) (st_I _ _) rfl ?_
  · obtain ⟨f33, -⟩ := hD
    simp only [actT, maskT, Nat.reduceAdd, if_true, if_false, Bool.false_eq_true]
    go_wp2_with fail
    exact DP_mk (rv_same (by omega) hG f33)
  refine wpK_nil (fun V W hG hD => ?_)
  obtain ⟨f16, f17, f18, f19, f20, f21, f22, f23, f24, f25, f26, f27, f28, f29, f30, f31, f32, f33, f_18, f_19, f4, f5, -⟩ := hD
  simp only [actT, maskT, Nat.reduceAdd, if_true, if_false, Bool.false_eq_true]
  clear bud
  have bW := below_lx bW hG.le (fun b hb => by simp at hb; omega) hwg (by have := bW.size; omega)
  have gd7 := hG.le.good d7 _ _ (.inr (by simp)) nd7 gd7
  have gd8 := hG.le.good d8 _ _ (.inr (by simp)) nd8 gd8
  have gd2 := hG.le.good d2 _ _ (.inr (by simp)) nd2 gd2
  have gd3 := hG.le.good d3 _ _ (.inr (by simp)) nd3 gd3
  obtain ⟨yT0, cT0, lT0, hT0⟩ := gd2.cell (j := 0) (by omega)
  obtain ⟨yT1, cT1, lT1, hT1⟩ := gd2.cell (j := 1) (by omega)
  obtain ⟨yT2, cT2, lT2, hT2⟩ := gd2.cell (j := 2) (by omega)
  obtain ⟨yT3, cT3, lT3, hT3⟩ := gd2.cell (j := 3) (by omega)
  obtain ⟨yT4, cT4, lT4, hT4⟩ := gd2.cell (j := 4) (by omega)
  have fT0 := gd2.frozen 0
  have fT1 := gd2.frozen 1
  have fT2 := gd2.frozen 2
  have fT3 := gd2.frozen 3
  have fT4 := gd2.frozen 4
  have bT := gd2.lt
  obtain ⟨yS0, cS0, lS0, hS0⟩ := gd3.cell (j := 0) (by omega)
  obtain ⟨yS1, cS1, lS1, hS1⟩ := gd3.cell (j := 1) (by omega)
  obtain ⟨yS2, cS2, lS2, hS2⟩ := gd3.cell (j := 2) (by omega)
  have fS0 := gd3.frozen 0
  have fS1 := gd3.frozen 1
  have fS2 := gd3.frozen 2
  have bS := gd3.lt
  obtain ⟨zx, ex, x0, x1⟩ := f4
  rw [ex]
  obtain ⟨zy, ey, y0, y1⟩ := f5
  rw [ey]
  clear hG ex ey f16 f17 f18 f19 f20 f21 f22 f23 f24 f25 f26 f27 f28 f29 f30 f31 f32 f33 f_18 f_19
  go_wp2
  (refine bodyPost_ret (by simp (maxDischargeDepth := 4) [results, Try.results33, go_sem, *]; try rfl) rfl ?_)
  exact ⟨yT0, yT1, yT2, yT3, yT4, yS0, yS1, yS2, zx, zy, rfl, ⟨⟨lT0, hT0⟩, ⟨lT1, hT1⟩, ⟨lT2, hT2⟩, ⟨lT3, hT3⟩, ⟨lT4, hT4⟩, ⟨lS0, hS0⟩, ⟨lS1, hS1⟩, ⟨lS2, hS2⟩, ⟨x0, x1⟩, ⟨y0, y1⟩⟩, bW⟩
end Go.Proofs.Ytbioleagenoogaa
