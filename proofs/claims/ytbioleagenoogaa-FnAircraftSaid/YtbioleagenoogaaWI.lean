/-
  FewestFor of the program: what it asks of each set. Conditions: lengths within the bound of a slice.
-/
import Derived.Test.YtbioleagenoogaaWT
import Derived.Test.YtbioleagenoogaaAF
import Derived.Test.YtbioleagenoogaaTY
namespace Go.Proofs.Ytbioleagenoogaa
open Go Go.RowKit
set_option maxRecDepth 100000
set_option maxHeartbeats 4000000

/-- all blocks stay but these two -/
structure Kq (bo bz : Nat) (w w' : World) : Prop where
  size : w.heap.size ≤ w'.heap.size
  keep : ∀ i, i < w.heap.size → i ≠ bo → i ≠ bz → w'.heap[i]? = w.heap[i]?
theorem Kq.trans {bo bz : Nat} {a b c : World} (h : Kq bo bz a b) (h' : Kq bo bz b c) : Kq bo bz a c :=
  ⟨Nat.le_trans h.size h'.size, fun i h1 h2 h3 => (h'.keep i (Nat.lt_of_lt_of_le h1 h.size) h2 h3).trans (h.keep i h1 h2 h3)⟩
theorem Kq.of {bo bz : Nat} {w w' : World} (h : Below w.heap.size w w') : Kq bo bz w w' := ⟨h.size, fun i h2 _ _ => h.block i h2⟩
theorem Kq.set {bo bz o : Nat} {w w' : World} (h : Kq bo bz w w') (u : Value) : Kq bo bz w (w'.setCell ⟨bo, o, none⟩ u) :=
  ⟨by simpa using h.size, fun i h1 h2 h3 => (Below.heap_setCell w' ⟨bo, o, none⟩ u i h2).trans (h.keep i h1 h2 h3)⟩
theorem Kq.grow {bo bz : Nat} {w w1 w' : World} {r : Option Nat} (h : Kq bo bz w w1) (hg : w1.grownBy w' r) (hr : ∀ b, r = some b → b = bz ∨ w.heap.size ≤ b) : Kq bo bz w w' :=
  ⟨Nat.le_trans h.size hg.size, fun i h1 h2 h3 => (hg.block i (Nat.lt_of_lt_of_le h1 h.size) (fun e => by have := hr i e.symm; omega)).trans (h.keep i h1 h2 h3)⟩
theorem Bk.kq {bo bz g : Nat} {w w' : World} {t : TypeId} {cs : List Value} (h : Bk w g t cs) (hk : Kq bo bz w w') (h1 : g ≠ bo) (h2 : g ≠ bz) : Bk w' g t cs := (hk.keep g h.lt h1 h2).trans h
theorem Rd.kq {bo bz n k : Nat} {A : Option Addr} {w w' : World} {xs : List Value} (h : Rd w k A n xs) (hk : Kq bo bz w w') (hA : ∀ a, A = some a → a.block ≠ bo ∧ a.block ≠ bz) : Rd w' k A n xs :=
  h.of_blocks hk.size (fun _ a ha hlt => hk.keep _ hlt (hA a ha).1 (hA a ha).2)
theorem own_kq {bo bz base k n : Nat} {w w' : World} {t : TypeId} {v : Value} {xs : List Value} (h : w.ownsRow base t k v n xs) (hk : Kq bo bz w w') (hv : ∀ b, v.ownBlock = some b → b ≠ bo ∧ b ≠ bz) : w'.ownsRow base t k v n xs := by
  have hlt := h.lt
  obtain ⟨h1, h2⟩ := h
  refine ⟨h1, ?_⟩
  rcases h2 with h2 | ⟨g', cap, cur, rfl, hbg, hg, hnc, hcm, hcs, ht⟩
  · exact .inl h2
  · exact .inr ⟨g', cap, cur, rfl, hbg, (hk.keep g' (hlt g' rfl).2 (hv g' rfl).1 (hv g' rfl).2).trans hg, hnc, hcm, hcs, ht⟩
theorem own_set {w : World} {base k n : Nat} {t : TypeId} {v : Value} {xs : List Value} (h : w.ownsRow base t k v n xs) (p : Addr) (u : Value) (hne : ∀ b, v.ownBlock = some b → b ≠ p.block) : (w.setCell p u).ownsRow base t k v n xs :=
  h.kept (onlySet w p u) (by
    cases hv : v.ownBlock with
    | none => exact .inl rfl
    | some b => exact .inr (fun e => hne b hv (by injection e)))
/-- the boxes of FewestFor: the list, the target, the need, what is found so far -/
structure FSt (w0 w : World) (A : Option Addr) (n c bl bt bn bo bz : Nat) (wa le ba need : Int) (o : List Int) : Prop where
  low : Below w0.heap.size w0 w
  lb : Bk w bl 29 [.slice A n c]
  tb : Bk w bt 31 [.int .i64 wa, .int .i64 le, .int .i64 ba]
  nb : Bk w bn 3 [.int .i64 need]
  ob : ∃ u, Bk w bo 26 [u] ∧ w.ownsRow w0.heap.size 3 1 u o.length (ints o) ∧ ∀ b, u.ownBlock = some b → b ≠ bo ∧ (o = [] → b = bz)
  zb : bz < w.heap.size
theorem FSt.on {w0 w w' : World} {A : Option Addr} {n c bl bt bn bo bz : Nat} {wa le ba need : Int} {o : List Int} (h : FSt w0 w A n c bl bt bn bo bz wa le ba need o) (hb : Below w.heap.size w w') : FSt w0 w' A n c bl bt bn bo bz wa le ba need o := by
  obtain ⟨h1, h2, h3, h4, ⟨u, h5, h6, h7⟩, h8⟩ := h
  exact ⟨bstep h1 hb, h2.below hb h2.lt, h3.below hb h3.lt, h4.below hb h4.lt, ⟨u, h5.below hb h5.lt, own_below h6 hb, h7⟩, Nat.lt_of_lt_of_le h8 hb.size⟩
theorem own_len {w : World} {base k n n' : Nat} {t : TypeId} {v : Value} {xs : List Value} (h : w.ownsRow base t k v n xs) (e : n = n') : w.ownsRow base t k v n' xs := e ▸ h
theorem out_step {w0 wo wr W w1 : World} {bl bo bz j : Nat} {t1 t2 te : TypeId} {cs : List Value} {u v1 : Value} {xs ys : List Value} (hlo : bl < wo.heap.size) (hbo : w0.heap.size ≤ bo) (n1 : bl ≠ bo) (n4 : bl ≠ bz) (b1 : Below w0.heap.size w0 wr) (E1 : Bk wr bl t1 cs) (E5 : Bk wr bo t2 [u])
    (HO : wr.ownsRow w0.heap.size te 1 u j xs) (e7 : ∀ b, u.ownBlock = some b → b ≠ bo ∧ (b = bz ∨ wo.heap.size ≤ b) ∧ (j = 0 → b = bz)) (hK : Kq bo bz wo wr) (hW : Below wr.heap.size wr W) (hgr : W.grownBy w1 u.ownBlock) (hown : w1.ownsRow w0.heap.size te 1 v1 (j + 1) ys) (hat : v1.ownBlock = u.ownBlock ∨ v1.ownBlock = some W.heap.size) :
    Below w0.heap.size w0 (w1.setCell ⟨bo, 0, none⟩ v1) ∧ Bk (w1.setCell ⟨bo, 0, none⟩ v1) bl t1 cs ∧ Bk (w1.setCell ⟨bo, 0, none⟩ v1) bo t2 [v1] ∧ (w1.setCell ⟨bo, 0, none⟩ v1).ownsRow w0.heap.size te 1 v1 (j + 1) ys ∧ (∀ b, v1.ownBlock = some b → b ≠ bo ∧ (b = bz ∨ wo.heap.size ≤ b) ∧ (j + 1 = 0 → b = bz)) ∧ Kq bo bz wo (w1.setCell ⟨bo, 0, none⟩ v1) := by
  have lo := E5.lt
  have sK := hK.size
  have sW := hW.size
  have h7 : ∀ b, v1.ownBlock = some b → b ≠ bo ∧ (b = bz ∨ wo.heap.size ≤ b) ∧ (j + 1 = 0 → b = bz) := fun b hb => by
    rcases hat with h | h
    · have := e7 b (h.symm.trans hb)
      exact ⟨this.1, this.2.1, fun h => absurd h (by omega)⟩
    · have e : W.heap.size = b := by rw [hb] at h; injection h with h; exact h.symm
      exact ⟨by omega, .inr (by omega), fun h => absurd h (by omega)⟩
  refine ⟨bset (own_grownBy (own_below HO hW) (bstep b1 hW) hgr (Nat.le_refl _) (by have := b1.size; omega)) (p := ⟨bo, 0, none⟩) hbo _, ?_, ?_, own_set hown _ _ (fun b hb => (h7 b hb).1), h7, ?_⟩
  · exact (Bk.grown (E1.below hW E1.lt) hgr (fun h => by have := (e7 bl h.symm).2.1; omega)).far (p := ⟨bo, 0, none⟩) n1 _
  · exact (Bk.grown (E5.below hW lo) hgr (fun h => (e7 bo h.symm).1 rfl)).set_ 0 v1
  · exact ((hK.trans (Kq.of hW)).grow hgr (fun b hb => (e7 b hb).2.1)).set _
theorem one_i (x : Int) : ∀ u ∈ [Value.int .i64 x], u.oneCell' = true := by
  intro u hu
  rw [List.mem_singleton.1 hu]
  rfl
theorem yld_is {w0 : World} {A : Option Addr} {n c bl bt bn bo bz : Nat} {wa le ba need : Int} {zs : List AircraftT} (hr : Rd w0 5 A n (acrF zs)) (hl : zs.length = n) (hL : listedB zs 6 = true) (hT : tgB wa le ba = true)
    (hbo : w0.heap.size ≤ bo) (n1 : bl ≠ bo) (n2 : bt ≠ bo) (n3 : bn ≠ bo) (n4 : bl ≠ bz) (n5 : bt ≠ bz) (n6 : bn ≠ bz)
    {B : Option Addr} {m cz : Nat} {s : List Nat} (hs : ∀ i ∈ s, i < n) (hm : s.length = m) (hm6 : m ≤ 6) (hB : ∀ a, B = some a → a.block ≠ bo ∧ a.block ≠ bz) (g : Bool) (hg : gdB zs wa le ba need s = g)
    (w : World) (hS : FSt w0 w A n c bl bt bn bo bz wa le ba need []) (hx : Rd w 1 B m (ints (nI s))) :
    Calls Try.prog 47 #[.slice B m cz, .pointer (some ⟨bl, 0, none⟩), .pointer (some ⟨bt, 0, none⟩), .pointer (some ⟨bn, 0, none⟩), .pointer (some ⟨bo, 0, none⟩)] w fun e w' => e = .returned (.bool (!g)) ∧ FSt w0 w' A n c bl bt bn bo bz wa le ba need (if g = true then idL zs s else []) ∧ Kq bo bz w w' := by
  obtain ⟨i0, hi0, hz0, hz1, hz2⟩ := info_parts (show (Try.prog.info? 3).map (fun i => (i.zero, i.size, i.bytes)) = some (some (.int .i64 0), 1, 8) from by kernel_rfl)
  obtain ⟨g6, g7, g8⟩ := tgB_bd hT
  have HS := Lib.hid hS
  have HG := Lib.hid hg
  have HM := Lib.hid hm
  have HL := Lib.hid hL
  clear hS hg hm hT hL
  go_enter Try.func47, Try.ntmps47
  go_wp2
  go_loopw [7, 14] (fun v i wr => ∃ (j : Nat) (S : Int), j ≤ m ∧ i = .int .i64 j ∧ v = .int .i64 S ∧ Hid (tot (lt3 zs wa le ba) (s.take j) = S) ∧ (0 ≤ S ∧ S ≤ 12000000 * (j : Int)) ∧ Below w.heap.size w wr) (fun _ i _ => m - (intOf i).toNat)
  case atStart => exact ⟨0, 0, Nat.zero_le _, rfl, rfl, Lib.hid rfl, by omega, Below.refl _ _⟩
  case round =>
    obtain ⟨j, S, hj, rfl, rfl, HS1, hSb, hW⟩ := hrel
    have hS := HS.out.on hW
    by_cases hlt : j < m
    · obtain ⟨b1, o1, x, rfl, hb1, hxk, g1⟩ := ints_at hx hW ((nI_len s).trans HM.out) hlt
      obtain ⟨p, hp, rfl⟩ := nI_get (by rw [nI_len, HM.out]; exact hlt) hxk
      have hpn : p < n := hs p (by rw [← hp]; exact List.getElem_mem _)
      have ct := hS.lb.cell 0
      have lt1 := hS.lb.lt
      simp only [List.getElem?_cons_zero] at ct
      obtain ⟨y0, y1, y2, yl⟩ := three_cells hS.tb
      obtain ⟨b, off, rfl, hbl, x0, x1, x2, x3, x4, hz, c0, c1, c2, c3, c4⟩ := acr_at hr hS.low hl hpn
      have s1 : b < wr.heap.size := Nat.lt_of_lt_of_le hbl hS.low.size
      have hac := listed_ok HL.out (show p < zs.length by omega) hz
      obtain ⟨g1', g2, g3, g4, g5⟩ := acB_bd hac
      have hmd := mdN_is g3 g4 g5 g6 g7 g8
      obtain ⟨N, hN⟩ : ∃ N, mdN x2 x3 x4 wa le ba = N := ⟨_, rfl⟩
      rw [hN] at hmd
      have hN6 : N ≤ 600 := hmd.1
      obtain ⟨P, hP⟩ : ∃ P, x1 * (N : Int) = P := ⟨_, rfl⟩
      have hPb : 0 ≤ P ∧ P ≤ 12000000 := by
        rw [← hP]
        refine ⟨Int.mul_nonneg (by omega) (by omega), ?_⟩
        have h1 : x1 * (N : Int) ≤ 20000 * (N : Int) := Int.mul_le_mul_of_nonneg_right (by omega) (by omega)
        omega
      have hgd : zs.getD p ac0 = (x0, x1, x2, x3, x4) := getD_of (show p < zs.length by omega) hz
      have hlt3 : lt3 zs wa le ba p = P := by unfold lt3; rw [hgd, ← hP, ← hN]; rfl
      have HLi := Lib.hid (fun W => liters_is (i := x0) g2 g3 g4 g5 g6 g7 g8 hmd hP hPb W)
      have i1 : (j : Int) < (m : Int) := by omega
      have i2 : (0 : Int) ≤ (j : Int) := by omega
      have i3 : (p : Int) < (n : Int) := by omega
      have i4 : (0 : Int) ≤ (p : Int) := by omega
      have hw2 : IntKind.i64.wrap (S + P) = S + P := IntWalk.i64_in _ (by omega)
      have HS5 : Hid (tot (lt3 zs wa le ba) (s.take (j + 1)) = S + P) := Lib.hid (by rw [take_snoc (by rw [HM.out]; exact hlt) hp, tot_snoc, HS1.out, hlt3])
      clear hmd hN hz hac hgd hlt3 hp hP hS hxk
      go_upto_region 5 with fail
      (refine wp_region_bel (by kernel_rfl) (by kernel_rfl) ?_; (repeat (go_big_quiet_step ((first | (go_at_call 48; exact calls_bel (HLi.out _)))))); refine wpQuiet_nil ?_; intro w' hw'; have hb := below_of hw'; clear hw'; (try clear cW fW zW); (first | (have bW := bstep bW hb) | (have bW := bstep (bdrew bW) hb) | (have bW := bstep (balloc bW _) hb) | (have bW := bstep (bdrewN bW _) hb) | (have bW := hb)); clear hb; obtain ⟨cW, fW⟩ := bcell bW; have zW := bsize bW)
      clear c0 c1 c2 c3 c4 y0 y1 y2 yl ct lt1 g1
      go_wp2
      go_roundw
      case rel => exact ⟨j + 1, S + P, by omega, by go_num, by go_num, HS5, by omega, bstep hW bW⟩
      case measure => simp [intOf]; omega
    · have hjm : j = m := by omega
      have hSt : tot (lt3 zs wa le ba) s = S := by
        have := HS1.out
        rw [List.take_of_length_le (by rw [HM.out]; omega)] at this
        exact this
      have hgv : g = !decide (S < need) := by rw [← HG.out]; unfold gdB; rw [hSt]
      have i1 : ¬ (j : Int) < (m : Int) := by omega
      have cn := hS.nb.cell 0
      have ln := hS.nb.lt
      simp only [List.getElem?_cons_zero] at cn
      have HS2 := Lib.hid hS
      clear hSt hS hjm
      by_cases hlt2 : S < need
      · rw [decide_eq_true hlt2] at hgv
        subst hgv
        go_wp2
        go_returns
        exact ⟨rfl, HS2.out, Kq.of hW⟩
      · rw [decide_eq_false hlt2] at hgv
        subst hgv
        have d2 : decide (S < need) = false := decide_eq_false hlt2
        have hS2 := HS2.out
        obtain ⟨k1, k2, k3, k4, ⟨u0, k5, k6, k7⟩, k8⟩ := hS2
        have hx1 := hx.below hW
        have hK0 : Kq bo bz w wr := Kq.of hW
        clear hlt HS1 hSb HS2
        obtain ⟨wo, rfl⟩ : ∃ wo, wo = wr := ⟨_, rfl⟩
        go_upto_region 9 with fail
        go_wp2_with fail
        go_loopw [32] (fun i wr => ∃ (j : Nat) (u : Value), j ≤ m ∧ i = .int .i64 j ∧ Below w0.heap.size w0 wr ∧ Bk wr bl 29 [.slice A n c] ∧ Bk wr bo 26 [u] ∧ wr.ownsRow w0.heap.size 3 1 u j (ints (idL zs (s.take j))) ∧ Hid (∀ b, u.ownBlock = some b → b ≠ bo ∧ (b = bz ∨ wo.heap.size ≤ b) ∧ (j = 0 → b = bz)) ∧ Kq bo bz wo wr) (fun i _ => m - (intOf i).toNat)
        case atStart => exact ⟨0, u0, Nat.zero_le _, rfl, k1, k2, k5, k6, Lib.hid (fun b hb => ⟨(k7 b hb).1, .inl ((k7 b hb).2 (by trivial)), fun _ => (k7 b hb).2 (by trivial)⟩), Kq.of (Below.refl _ _)⟩
        case round =>
          obtain ⟨j, u, hj, rfl, b1, e1, e5, e6, e7, hK⟩ := hrel
          have lo := e5.lt
          have sl := b1.size
          have HO := Lib.hid e6
          have hne : some bo ≠ u.ownBlock := fun h => (e7.out bo h.symm).1 rfl
          have HNE := Lib.hid hne
          clear e6 hne
          by_cases hlt : j < m
          · obtain ⟨b2, o2, x, rfl, hb2, hxk, g1⟩ := ints_at (hx1.kq hK hB) (Below.refl _ _) ((nI_len s).trans HM.out) hlt
            obtain ⟨p, hp, rfl⟩ := nI_get (by rw [nI_len, HM.out]; exact hlt) hxk
            have hpn : p < n := hs p (by rw [← hp]; exact List.getElem_mem _)
            have ct := e1.cell 0
            have lt1 := e1.lt
            have cu := e5.cell 0
            have fu := e5.frozen 0
            simp only [List.getElem?_cons_zero] at ct cu
            obtain ⟨b, off, rfl, hbl, x0, x1, x2, x3, x4, hz, c0, c1, c2, c3, c4⟩ := acr_at hr b1 hl hpn
            have s1 : b < wr.heap.size := Nat.lt_of_lt_of_le hbl b1.size
            have hgd : zs.getD p ac0 = (x0, x1, x2, x3, x4) := getD_of (show p < zs.length by omega) hz
            have i1 : (j : Int) < (m : Int) := by omega
            have i2 : (0 : Int) ≤ (j : Int) := by omega
            have i3 : (p : Int) < (n : Int) := by omega
            have i4 : (0 : Int) ≤ (p : Int) := by omega
            have hst : idL zs (s.take (j + 1)) = idL zs (s.take j) ++ [x0] := by rw [take_snoc (by rw [HM.out]; exact hlt) hp, idL_snoc, hgd]
            have HST := Lib.hid hst
            have E1 := Lib.hid e1
            have E5 := Lib.hid e5
            clear hz hgd hp hxk c1 c2 c3 c4 hst e1 e5
            go_upto_region 12 with fail
            go_region_law (first
              | (refine step_append_at (by rfl) (.tmp 36) (.tmp 42) 26 (by rfl) w0.heap.size 3 i0 _ 1 8 Try.underlying26 hi0 hz0 hz1 hz2 (by rfl) (by decide) u j (ints (idL zs (s.take j))) (by rfl) ?ha ⟨_, 0, none⟩ 1 1 [.int .i64 x0] (by rfl) ?hb (one_i x0) ?hc ?hd ?he ?_
                 go_loud (case ha => exact own_below HO.out (by (repeat' (first | (with_reducible exact Below.refl _ _) | (with_reducible assumption) | (with_reducible refine balloc ?_ _) | (with_reducible refine bdrew ?_) | (with_reducible refine bdrewN ?_ _) | (with_reducible refine bstep ?_ (by assumption)) | (with_reducible refine bset ?_ ?_ _) | (exact Below.size (by assumption)) | go_size))))
                 go_loud (case hb => (first | exact Bk.rd (Bk.drew (Bk.new' (by first | (simp; done) | (simp; omega)))) rfl | exact Bk.rd (Bk.new' (by first | (simp; done) | (simp; omega))) rfl))
                 go_loud (case hc => (unfold maxLen; omega))
                 go_loud (case hd => omega)
                 go_loud (case he => (simp; omega))
                 intro v1 w1 hown1 hgr1 hat1
                 obtain ⟨ub, uc, rfl⟩ := own_some1 hown1 (by omega)
                 have c5 := (Bk.grown (E5.out.below (show Below wr.heap.size wr _ from by (repeat' (first | (with_reducible exact Below.refl _ _) | (with_reducible assumption) | (with_reducible refine balloc ?_ _) | (with_reducible refine bdrew ?_) | (with_reducible refine bdrewN ?_ _) | (with_reducible refine bstep ?_ (by assumption)) | (with_reducible refine bset ?_ ?_ _) | (exact Below.size (by assumption)) | go_size))) lo) hgr1 HNE.out).cell 0
                 have f5 := (Bk.grown (E5.out.below (show Below wr.heap.size wr _ from by (repeat' (first | (with_reducible exact Below.refl _ _) | (with_reducible assumption) | (with_reducible refine balloc ?_ _) | (with_reducible refine bdrew ?_) | (with_reducible refine bdrewN ?_ _) | (with_reducible refine bstep ?_ (by assumption)) | (with_reducible refine bset ?_ ?_ _) | (exact Below.size (by assumption)) | go_size))) lo) hgr1 HNE.out).frozen 0
                 have l5 := (Bk.grown (E5.out.below (show Below wr.heap.size wr _ from by (repeat' (first | (with_reducible exact Below.refl _ _) | (with_reducible assumption) | (with_reducible refine balloc ?_ _) | (with_reducible refine bdrew ?_) | (with_reducible refine bdrewN ?_ _) | (with_reducible refine bstep ?_ (by assumption)) | (with_reducible refine bset ?_ ?_ _) | (exact Below.size (by assumption)) | go_size))) lo) hgr1 HNE.out).lt
                 simp only [List.getElem?_cons_zero] at c5))
            all_goals
              obtain ⟨r1, r2, r3, r4, r5, r6⟩ := out_step (wo := wo) (bz := bz) k2.lt hbo n1 n4 b1 E1.out E5.out HO.out e7.out hK (show Below wr.heap.size wr _ from by (repeat' (first | (with_reducible exact Below.refl _ _) | (with_reducible assumption) | (with_reducible refine balloc ?_ _) | (with_reducible refine bdrew ?_) | (with_reducible refine bdrewN ?_ _) | (with_reducible refine bstep ?_ (by assumption)) | (with_reducible refine bset ?_ ?_ _) | (exact Below.size (by assumption)) | go_size))) hgr1 hown1 hat1
              have H4 := Lib.hid r4
              have H5 := Lib.hid r5
              have H3 := Lib.hid r3
              have H2 := Lib.hid r2
              clear hown1 hgr1 hat1 c5 f5 r2 r3 r4 r5 c0 ct cu fu g1
              go_wp2
              go_roundw
              case rel => exact ⟨j + 1, _, by omega, by go_num, r1, H2.out, H3.out, by rw [HST.out, ints_snoc]; exact H4.out, H5, r6⟩
              case measure => simp [intOf]; omega
          · have hjm : j = m := by omega
            have hst : s.take j = s := List.take_of_length_le (by rw [HM.out]; omega)
            have hO := HO.out
            rw [hst] at hO
            have HO2 := Lib.hid (own_len (n' := (idL zs s).length) hO (by rw [idL_len, HM.out]; exact hjm))
            have H0 : Hid (idL zs s = [] → j = 0) := Lib.hid fun h => by
              have := congrArg List.length h
              rw [idL_len, HM.out] at this
              simpa [hjm] using this
            have E1 := Lib.hid e1
            have E5 := Lib.hid e5
            have i1 : ¬ (j : Int) < (m : Int) := by omega
            clear hst hO hjm e1 e5
            go_wp2
            go_returns
            exact ⟨rfl, ⟨b1, E1.out, k3.kq hK n2 n5, k4.kq hK n3 n6, ⟨u, E5.out, HO2.out, fun b hb => ⟨(e7.out b hb).1, fun h => (e7.out b hb).2.2 (H0.out h)⟩⟩, Nat.lt_of_lt_of_le k8 hK.size⟩, hK0.trans hK⟩
end Go.Proofs.Ytbioleagenoogaa
