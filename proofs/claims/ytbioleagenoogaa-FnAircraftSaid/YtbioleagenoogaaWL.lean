/-
  FewestFor of the program. Conditions: lengths within the bound of a slice.
-/
import Derived.Test.YtbioleagenoogaaWK
namespace Go.Proofs.Ytbioleagenoogaa
open Go Go.RowKit
set_option maxRecDepth 100000
set_option maxHeartbeats 4000000

theorem FSt.grow {w0 w w' : World} {A : Option Addr} {n c bl bt bn bo bz N : Nat} {wa le ba need : Int} (h : FSt w0 w A n c bl bt bn bo bz wa le ba need []) {base k m : Nat} {t : TypeId} {v : Value} {xs : List Value} (hv : w.ownsRow base t k v m xs) (h0 : w0.heap.size ≤ base) (hg : w.grownBy w' v.ownBlock)
    (hne : ∀ b, v.ownBlock = some b → N ≤ b ∧ b ≠ bo ∧ b ≠ bz) (h1 : bl < N) (h2 : bt < N) (h3 : bn < N) : FSt w0 w' A n c bl bt bn bo bz wa le ba need [] := by
  obtain ⟨k1, k2, k3, k4, ⟨u, k5, k6, k7⟩, k8⟩ := h
  have s0 := k1.size
  refine ⟨own_grownBy hv k1 hg h0 s0, k2.grown hg (fun e => by have := hne _ e.symm; omega), k3.grown hg (fun e => by have := hne _ e.symm; omega), k4.grown hg (fun e => by have := hne _ e.symm; omega), ⟨u, k5.grown hg (fun e => by have := hne _ e.symm; omega), own_apart k6 hg (fun b e e' => ?_), k7⟩, Nat.lt_of_lt_of_le k8 hg.size⟩
  have e1 := (k7 b e).2 rfl
  have e2 := hne b e'.symm
  omega
theorem own_blk {g n c b : Nat} (e : (Value.slice (some ⟨g, 0, none⟩) n c).ownBlock = some b) : b = g := (Option.some.inj e).symm
theorem range_snoc (k : Nat) : nI (List.range (k + 1)) = nI (List.range k) ++ [(k : Int)] := by rw [List.range_succ, nI_snoc]
theorem Fewest_is {q : Bool} {L : List Int} {wa le ba need : Int} {A : Option Addr} {n c : Nat} {zs : List AircraftT} (hq : (ffR zs wa le ba need).isSome = q) (hL : outL zs (ffR zs wa le ba need) = L) (w : World) (hr : Rd w 5 A n (acrF zs)) (hl : zs.length = n) (hn : n ≤ 1048576) :
    Calls Try.prog 10 #[.slice A n c, .agg #[.int .i64 wa, .int .i64 le, .int .i64 ba], .int .i64 need] w fun e w' => ∃ u, e = .returned (.tuple #[u, .bool q]) ∧ w'.ownsRow w.heap.size 3 1 u L.length (ints L) ∧ Below w.heap.size w w' := by
  obtain ⟨i0, hi0, hz0, hz1, hz2⟩ := info_parts (show (Try.prog.info? 3).map (fun i => (i.zero, i.size, i.bytes)) = some (some (.int .i64 0), 1, 8) from by kernel_rfl)
  obtain ⟨p1, h1⟩ : ∃ p, listedB zs 6 = p := ⟨_, rfl⟩
  obtain ⟨p2, h2⟩ : ∃ p, tgB wa le ba = p := ⟨_, rfl⟩
  obtain ⟨p3, h3⟩ : ∃ p, inB need 0 1000000 = p := ⟨_, rfl⟩
  have hB : ffB zs wa le ba need = ((p1 && p2) && p3) := by unfold ffB; rw [h1, h2, h3]
  have hno : ((p1 && p2) && p3) = false → q = false ∧ L = [] := fun h => by
    have e : ffR zs wa le ba need = none := by unfold ffR; rw [hB, h]; rfl
    exact ⟨by rw [← hq, e]; rfl, by rw [← hL, e]; rfl⟩
  have H1 := Lib.hid h1
  have H2 := Lib.hid h2
  have H3 := Lib.hid h3
  have HB := Lib.hid hB
  have HN := Lib.hid hno
  have HQ := Lib.hid hq
  have HL := Lib.hid hL
  clear h1 h2 h3 hB hno hq hL
  go_enter Try.func10, Try.ntmps10
  go_upto_region 1 with fail
  obtain ⟨bt, ebt⟩ : ∃ g, w.heap.size + 1 = g := ⟨_, rfl⟩
  rw [ebt]
  obtain ⟨bn, ebn⟩ : ∃ g, bt + 1 = g := ⟨_, rfl⟩
  rw [ebn]
  refine wp_gen (fun W => Below w.heap.size w W ∧ Bk W w.heap.size 29 [.slice A n c] ∧ Bk W bt 31 [.int .i64 wa, .int .i64 le, .int .i64 ba] ∧ Bk W bn 3 [.int .i64 need]) ⟨by (repeat' (first | (with_reducible exact Below.refl _ _) | (with_reducible assumption) | (with_reducible refine balloc ?_ _) | (with_reducible refine bdrew ?_) | (with_reducible refine bdrewN ?_ _) | (with_reducible refine bstep ?_ (by assumption)) | (with_reducible refine bset ?_ ?_ _) | (exact Below.size (by assumption)) | go_size)), ?a1, ?a2, ?a3⟩ ?_
  case a1 => (repeat (first | exact Bk.new' (by first | omega | (simp; omega)) | with_reducible refine Bk.alloc ?_ _))
  case a2 => (repeat (first | exact Bk.new' (by first | omega | (simp; omega)) | with_reducible refine Bk.alloc ?_ _))
  case a3 => (repeat (first | exact Bk.new' (by first | omega | (simp; omega)) | with_reducible refine Bk.alloc ?_ _))
  intro w0 ⟨b0, kl, kt, kn⟩
  have hbt : w.heap.size < bt := by omega
  have hbn : bt < bn := by omega
  clear ebt ebn
  have cl := kl.cell 0
  have ll := kl.lt
  simp only [List.getElem?_cons_zero] at cl
  have KL := Lib.hid kl
  have KT := Lib.hid kt
  have KN := Lib.hid kn
  clear kl kt kn
  go_wp2_with fail
  refine (areAircraft_of H1.out _ (hr.below b0) hl (by omega)).mono ?_
  rintro e w1 ⟨rfl, hb1⟩
  have b1 := bstep b0 hb1
  have KL1 := Lib.hid (KL.out.below hb1 KL.out.lt)
  have KT1 := Lib.hid (KT.out.below hb1 KT.out.lt)
  have KN1 := Lib.hid (KN.out.below hb1 KN.out.lt)
  clear cl ll
  rcases p1 with _ | _
  · obtain ⟨rfl, rfl⟩ := HN.out rfl
    go_wp2
    go_returns
    exact ⟨_, rfl, World.ownsRow_nil _ _ _ _, b1⟩
  obtain ⟨y0, y1, y2, yl⟩ := three_cells KT1.out
  go_wp2_with fail
  refine (tg_of p2 H2.out _).mono ?_
  rintro e w2 ⟨rfl, hb2⟩
  have b2 := bstep b1 hb2
  have KL2 := Lib.hid (KL1.out.below hb2 KL1.out.lt)
  have KT2 := Lib.hid (KT1.out.below hb2 KT1.out.lt)
  have KN2 := Lib.hid (KN1.out.below hb2 KN1.out.lt)
  clear y0 y1 y2 yl
  rcases p2 with _ | _
  · obtain ⟨rfl, rfl⟩ := HN.out rfl
    go_wp2
    go_returns
    exact ⟨_, rfl, World.ownsRow_nil _ _ _ _, b2⟩
  have cn := KN2.out.cell 0
  have ln := KN2.out.lt
  simp only [List.getElem?_cons_zero] at cn
  go_wp2_with fail
  refine (in_of p3 H3.out _).mono ?_
  rintro e w3 ⟨rfl, rfl⟩
  clear cn ln
  rcases p3 with _ | _
  · obtain ⟨rfl, rfl⟩ := HN.out rfl
    go_wp2
    go_returns
    exact ⟨_, rfl, World.ownsRow_nil _ _ _ _, b2⟩
  have hB : ffB zs wa le ba need = true := HB.out
  have hR : ffR zs wa le ba need = (ssZ n 0).find? (gdB zs wa le ba need) := by
    rw [ssZ_all, ← hl]
    show (if ffB zs wa le ba need = true then _ else _) = _
    rw [if_pos hB]
  have n6 := ff_len hB
  rw [hl] at n6
  obtain ⟨R, hRR⟩ : ∃ R, ffR zs wa le ba need = R := ⟨_, rfl⟩
  have hQ2 := HQ.out
  have hL2 := HL.out
  rw [hRR] at hR hQ2 hL2
  have HRZ := Lib.hid hR.symm
  clear hR hB hRR
  subst hQ2
  subst hL2
  go_upto_region 4 with fail
  have s2 := b2.size
  have ltn := KN2.out.lt
  have hbw : Below w2.heap.size w2 (((w2.alloc (.cells #[] 3)).alloc (.cells #[] 3)).alloc (.cells #[.slice (some ⟨w2.heap.size + 1, 0, none⟩) 0 0] 26)) := by (repeat' (first | (with_reducible exact Below.refl _ _) | (with_reducible assumption) | (with_reducible refine balloc ?_ _) | (with_reducible refine bdrew ?_) | (with_reducible refine bdrewN ?_ _) | (with_reducible refine bstep ?_ (by assumption)) | (with_reducible refine bset ?_ ?_ _) | (exact Below.size (by assumption)) | go_size))
  have hlit : (((w2.alloc (.cells #[] 3)).alloc (.cells #[] 3)).alloc (.cells #[.slice (some ⟨w2.heap.size + 1, 0, none⟩) 0 0] 26)).ownsRow w.heap.size 3 1 (.slice (some ⟨w2.heap.size, 0, none⟩) 0 0) 0 [] := own_alloc (own_alloc (own_lit' rfl s2) _) _
  have hlz : (((w2.alloc (.cells #[] 3)).alloc (.cells #[] 3)).alloc (.cells #[.slice (some ⟨w2.heap.size + 1, 0, none⟩) 0 0] 26)).ownsRow w.heap.size 3 1 (.slice (some ⟨w2.heap.size + 1, 0, none⟩) 0 0) 0 [] := own_alloc (own_lit' (by simp) (by simp; omega)) _
  have hF : FSt w (((w2.alloc (.cells #[] 3)).alloc (.cells #[] 3)).alloc (.cells #[.slice (some ⟨w2.heap.size + 1, 0, none⟩) 0 0] 26)) A n c w.heap.size bt bn (w2.heap.size + 1 + 1) (w2.heap.size + 1) wa le ba need [] :=
    ⟨bstep b2 hbw, KL2.out.below hbw KL2.out.lt, KT2.out.below hbw KT2.out.lt, KN2.out.below hbw KN2.out.lt, ⟨_, Bk.new' (by simp), hlz, fun b e => ⟨by have := own_blk e; omega, fun _ => own_blk e⟩⟩, by simp⟩
  refine wp_gen (fun W => FSt w W A n c w.heap.size bt bn (w2.heap.size + 1 + 1) (w2.heap.size + 1) wa le ba need [] ∧ W.ownsRow w.heap.size 3 1 (.slice (some ⟨w2.heap.size, 0, none⟩) 0 0) 0 []) ⟨hF, hlit⟩ ?_
  clear hF hlit hlz hbw
  obtain ⟨N, hN⟩ : ∃ N, w2.heap.size = N := ⟨_, rfl⟩
  rw [hN]
  obtain ⟨bz, ebz⟩ : ∃ g, N + 1 = g := ⟨_, rfl⟩
  rw [ebz]
  obtain ⟨bo, ebo⟩ : ∃ g, bz + 1 = g := ⟨_, rfl⟩
  rw [ebo]
  have z1 : bn < N := by omega
  have z2 : N < bz := by omega
  have z3 : bz < bo := by omega
  clear ebz ebo hN KL KT KN KL1 KT1 KN1 KL2 KT2 KN2 s2 ltn
  intro W3 ⟨hF, hP⟩
  have HF := Lib.hid hF
  have HP := Lib.hid hP
  have cl := hF.lb.cell 0
  have ll := hF.lb.lt
  simp only [List.getElem?_cons_zero] at cl
  clear hF hP
  go_upto_region 5 with fail
  clear cl ll
  go_loopw [8, 30] (fun v i wr => ∃ k : Nat, k ≤ n ∧ i = .int .i64 k ∧ Hid (FSt w wr A n c w.heap.size bt bn bo bz wa le ba need []) ∧ wr.ownsRow w.heap.size 3 1 v k (ints (nI (List.range k))) ∧ Hid (∀ b, v.ownBlock = some b → N ≤ b ∧ b ≠ bo ∧ b ≠ bz)) (fun _ i _ => n - (intOf i).toNat)
  case atStart => exact ⟨0, Nat.zero_le _, rfl, HF, HP.out, Lib.hid (fun b e => by have := own_blk e; omega)⟩
  case round =>
    obtain ⟨k, hk, rfl, HF, hP, HNE⟩ := hrel
    have HP := Lib.hid hP
    clear hP
    by_cases hlt : k < n
    · go_upto_region 7 with fail
      go_wp2_with (at_builtin; refine wpList_append_own_at _ rfl (.tmp 33) (.tmp 35) 26 rfl w.heap.size 3 i0 _ 1 8 Try.underlying26 hi0 hz0 hz1 hz2 rfl (by decide) _ _ _ rfl (own_alloc HP.out _) ⟨_, 0, none⟩ 1 1 [.int .i64 (k : Int)] rfl rfl ?c1 ?c2 ?c3 ?c4 ?c5 ?_)
      case c1 => exact cell_one_new _ _ _
      case c2 => exact one_i _
      case c3 => (unfold maxLen; omega)
      case c4 => omega
      case c5 => (have := HF.out.low.size; simp; omega)
      intro v' w9 hown' hgrow _ hat
      have hF9 := (HF.out.on (balloc (Below.refl _ _) (.cells #[.int .i64 (k : Int)] 3))).grow (N := N) (own_alloc HP.out _) (Nat.le_refl _) hgrow HNE.out (by omega) (by omega) (by omega)
      have HF9 := Lib.hid hF9
      have HP9 : Hid (w9.ownsRow w.heap.size 3 1 v' (k + 1) (ints (nI (List.range (k + 1))))) := Lib.hid (by rw [range_snoc, ints_snoc]; exact hown')
      have lo := HF.out.ob.elim (fun u h => h.1.lt)
      have lz := HF.out.zb
      have HN9 : Hid (∀ b, v'.ownBlock = some b → N ≤ b ∧ b ≠ bo ∧ b ≠ bz) := Lib.hid (fun b e => by
        rcases hat with h | h
        · exact HNE.out b (h.symm.trans e)
        · rw [e] at h
          have h := Option.some.inj h
          omega)
      clear hF9 hown' hgrow hat
      go_wp2
      go_roundw
      case rel => exact ⟨k + 1, by omega, by go_num, HF9, HP9.out, HN9⟩
      case measure => simp [intOf]; omega
    · have hkn : k = n := by omega
      have hP := HP.out
      rw [hkn] at hP
      obtain ⟨Pb, cP, rfl, hRP, _⟩ := own_rd hP
      have HRP := Lib.hid hRP
      have HPN : Hid (∀ a, Pb = some a → a.block ≠ bo ∧ a.block ≠ bz) := Lib.hid (fun a e => by
        subst e
        have := HNE.out a.block rfl
        exact ⟨this.2.1, this.2.2⟩)
      obtain ⟨wo, rfl⟩ : ∃ wo, wo = wr := ⟨_, rfl⟩
      have lo := HF.out.ob.elim (fun u h => h.1.lt)
      have lz := HF.out.zb
      clear hP hRP HP hkn
      go_upto_region 10 with fail
      go_loopw [11] (fun i wr => ∃ z : Nat, z ≤ n + 1 ∧ i = .int .i64 z ∧ Hid ((ssZ n z).find? (gdB zs wa le ba need) = R) ∧ Hid (FSt w wr A n c w.heap.size bt bn bo bz wa le ba need []) ∧ Kq bo bz wo wr) (fun i _ => n + 1 - (intOf i).toNat)
      case atStart => exact ⟨0, Nat.zero_le _, rfl, HRZ, HF, Kq.of (Below.refl _ _)⟩
      case round =>
        obtain ⟨z, hz, rfl, HZ, HF2, hK⟩ := hrel
        have cl := HF2.out.lb.cell 0
        have ll := HF2.out.lb.lt
        have lo2 := HF2.out.ob.elim (fun u h => h.1.lt)
        have lz2 := HF2.out.zb
        simp only [List.getElem?_cons_zero] at cl
        by_cases hlt : z ≤ n
        · have i1 : (z : Int) ≤ (n : Int) := by omega
          obtain ⟨R1, hR1⟩ : ∃ R1, (ssL n z [] 0).find? (gdB zs wa le ba need) = R1 := ⟨_, rfl⟩
          have hst := (ssZ_find (gd := gdB zs wa le ba need) (show z < n + 1 by omega)).symm.trans HZ.out
          rw [hR1] at hst
          have HST := Lib.hid hst
          have HSub := Lib.hid (subsets_is (c := c) (cP := cP) hr hl H1.out H2.out (show w.heap.size ≤ bo by omega) (show w.heap.size ≠ bo by omega) (show bt ≠ bo by omega) (show bn ≠ bo by omega) (show w.heap.size ≠ bz by omega) (show bt ≠ bz by omega) (show bn ≠ bz by omega) n6 hlt HPN.out R1 hR1 wr lo2 lz2 HF2.out (HRP.out.kq hK HPN.out))
          clear hst hR1
          go_wp2_with fail
          refine HSub.out.mono ?_
          rintro e w8 ⟨rfl, hS8, hK8⟩
          have hKe := hK.trans hK8
          rcases R1 with _ | r1
          · have HZ2 : Hid ((ssZ n (z + 1)).find? (gdB zs wa le ba need) = R) := Lib.hid (by have := HST.out; simpa using this)
            have HS8 := Lib.hid hS8
            clear hS8 cl ll
            go_wp2
            go_roundw
            case rel => exact ⟨z + 1, by omega, by go_num, HZ2, HS8, hKe⟩
            case measure => simp [intOf]; omega
          · have hR2 : R = some r1 := by have := HST.out; simpa using this.symm
            subst hR2
            have bW := hS8.low
            obtain ⟨u, hu, hO8, _⟩ := hS8.ob
            have cu := hu.cell 0
            have lu := hu.lt
            simp only [List.getElem?_cons_zero] at cu
            have HO8 := Lib.hid hO8
            clear hS8 hu hO8 cl ll
            go_wp2
            go_returns
            exact ⟨_, rfl, HO8.out, bW⟩
        · have i1 : ¬ (z : Int) ≤ (n : Int) := by omega
          have e : R = none := by
            rw [← HZ.out, ssZ_end (by omega)]; rfl
          subst e
          have bW := HF2.out.low
          go_wp2
          go_returns
          exact ⟨_, rfl, World.ownsRow_nil _ _ _ _, bW⟩
end Go.Proofs.Ytbioleagenoogaa
