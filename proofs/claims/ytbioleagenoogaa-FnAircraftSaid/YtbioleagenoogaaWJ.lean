/-
  FewestFor of the program: its search through the subsets. Conditions: lengths within the bound of a slice.
-/
import Derived.Test.YtbioleagenoogaaWI
namespace Go.Proofs.Ytbioleagenoogaa
open Go Go.RowKit
set_option maxRecDepth 100000
set_option maxHeartbeats 4000000

def yF (bl bt bn bo : Nat) : Value := .func (.func 47) #[] #[.pointer (some ⟨bl, 0, none⟩), .pointer (some ⟨bt, 0, none⟩), .pointer (some ⟨bn, 0, none⟩), .pointer (some ⟨bo, 0, none⟩)]
def xF (bs bY bp bx : Nat) : Value := .func (.func 67) #[] #[.pointer (some ⟨bs, 0, none⟩), .pointer (some ⟨bY, 0, none⟩), .pointer (some ⟨bp, 0, none⟩), .pointer (some ⟨bx, 0, none⟩)]
/-- the boxes of a search through the subsets -/
structure SB (w : World) (z n : Nat) (yv : Value) (Pb : Option Addr) (cP bs bY bp bx bo bz : Nat) : Prop where
  sb : Bk w bs 3 [.int .i64 z]
  yb : Bk w bY 70 [yv]
  pb : Bk w bp 26 [.slice Pb n cP]
  xb : Bk w bx 61 [xF bs bY bp bx]
  rd : Rd w 1 Pb n (ints (nI (List.range n)))
  ne : bs ≠ bo ∧ bs ≠ bz ∧ bY ≠ bo ∧ bY ≠ bz ∧ bp ≠ bo ∧ bp ≠ bz ∧ bx ≠ bo ∧ bx ≠ bz
  np : ∀ a, Pb = some a → a.block ≠ bo ∧ a.block ≠ bz
theorem SB.kq {w w' : World} {z n : Nat} {yv : Value} {Pb : Option Addr} {cP bs bY bp bx bo bz : Nat} (h : SB w z n yv Pb cP bs bY bp bx bo bz) (hk : Kq bo bz w w') : SB w' z n yv Pb cP bs bY bp bx bo bz := by
  obtain ⟨h1, h2, h3, h4, h5, ⟨n1, n2, n3, n4, n5, n6, n7, n8⟩, h7⟩ := h
  exact ⟨h1.kq hk n1 n2, h2.kq hk n3 n4, h3.kq hk n5 n6, h4.kq hk n7 n8, h5.kq hk h7, ⟨n1, n2, n3, n4, n5, n6, n7, n8⟩, h7⟩
theorem range_at {n k : Nat} (hk : k < n) : (nI (List.range n))[k]'(by rw [nI_len, List.length_range]; exact hk) = (k : Int) := by simp [nI]
theorem sub_is {w0 : World} {A : Option Addr} {n c bl bt bn bo bz : Nat} {wa le ba need : Int} {zs : List AircraftT} (hr : Rd w0 5 A n (acrF zs)) (hl : zs.length = n) (hL : listedB zs 6 = true) (hT : tgB wa le ba = true)
    (hbo : w0.heap.size ≤ bo) (n1 : bl ≠ bo) (n2 : bt ≠ bo) (n3 : bn ≠ bo) (n4 : bl ≠ bz) (n5 : bt ≠ bz) (n6 : bn ≠ bz) (hn6 : n ≤ 6) {z : Nat} (hz6 : z ≤ n) {Pb : Option Addr} {cP bs bY bp bx : Nat} :
    ∀ (f : Nat) (s : List Nat) (k : Nat), s.length + f = z → (∀ i ∈ s, i < n) → k ≤ n → ∀ (ki : Int), ki = (k : Int) → ∀ (b m cz : Nat), s.length = m → b ≠ bo → b ≠ bz → ∀ (R : Option (List Nat)), (ssL n f s k).find? (gdB zs wa le ba need) = R →
    ∀ (base : Nat) (w : World), base ≤ w.heap.size → bo < base → bz < base → FSt w0 w A n c bl bt bn bo bz wa le ba need [] → SB w z n (yF bl bt bn bo) Pb cP bs bY bp bx bo bz → w.ownsRow base 3 1 (.slice (some ⟨b, 0, none⟩) m cz) m (ints (nI s)) →
    Calls Try.prog 67 #[.slice (some ⟨b, 0, none⟩) m cz, .int .i64 ki, .pointer (some ⟨bs, 0, none⟩), .pointer (some ⟨bY, 0, none⟩), .pointer (some ⟨bp, 0, none⟩), .pointer (some ⟨bx, 0, none⟩)] w fun e w' => e = .returned (.bool R.isNone) ∧ FSt w0 w' A n c bl bt bn bo bz wa le ba need (outL zs R) ∧ Kq bo bz w w'
  | 0, s, k, hf, hs, hk, ki, hki, b, m, cz, hm, h1, h2, R, hR, base, w, hbs, hb1, hb2, hS, hSB, hO => by
    subst hki
    obtain rfl : m = z := by omega
    have i1 : ((m : Int) == (m : Int)) = true := by simp
    obtain ⟨g, hg⟩ : ∃ g, gdB zs wa le ba need s = g := ⟨_, rfl⟩
    have hx := own_r hO
    have cs := hSB.sb.cell 0
    have ls := hSB.sb.lt
    have cy := hSB.yb.cell 0
    have ly := hSB.yb.lt
    simp only [List.getElem?_cons_zero, yF] at cs cy
    have HY := Lib.hid (fun (W : World) (hW : Below w.heap.size w W) => yld_is hr hl hL hT hbo n1 n2 n3 n4 n5 n6 (cz := cz) hs hm (by omega) (B := some ⟨b, 0, none⟩) (fun a e => by cases e; exact ⟨h1, h2⟩) g hg W (hS.on hW) (hx.below hW))
    have hRg : R = if g = true then some s else none := by
      rw [← hR]
      show List.find? _ [s] = _
      rw [List.find?_cons, hg]
      cases g <;> rfl
    have HR := Lib.hid hRg
    clear hRg hR hg hS hSB hO hx hm hf
    go_enter Try.func67, Try.ntmps67
    go_wp2_with (go_at_call 47; refine (HY.out _ (Below.refl _ _)).mono ?_; rintro e w' ⟨rfl, hS2, hK2⟩)
    go_returns
    rw [HR.out]
    cases g
    · exact ⟨rfl, hS2, hK2⟩
    · exact ⟨rfl, hS2, hK2⟩
  | f + 1, s, k, hf, hs, hk, ki, hki, b, m, cz, hm, h1, h2, R, hR, base, w, hbs, hb1, hb2, hS, hSB, hO => by
    obtain ⟨i0, hi0, hz0, hz1, hz2⟩ := info_parts (show (Try.prog.info? 3).map (fun i => (i.zero, i.size, i.bytes)) = some (some (.int .i64 0), 1, 8) from by kernel_rfl)
    subst hki
    have hmz : m < z := by omega
    have i1 : ((m : Int) == (z : Int)) = false := by simp; omega
    have cs := hSB.sb.cell 0
    have ls := hSB.sb.lt
    simp only [List.getElem?_cons_zero] at cs
    have HM := Lib.hid hm
    have HF := Lib.hid hf
    have HO := Lib.hid hO
    have HS := Lib.hid hS
    have HSB := Lib.hid hSB
    have HR := Lib.hid ((congrArg (fun l => l.find? (gdB zs wa le ba need)) (ssL_succ n f s k)).symm.trans hR)
    clear hm hf hO hS hSB hR
    go_enter Try.func67, Try.ntmps67
    go_wp2
    go_loopw [9] (fun i wr => ∃ k' : Nat, k ≤ k' ∧ k' ≤ n ∧ i = .int .i64 k' ∧ Hid ((ssP n f s k').find? (gdB zs wa le ba need) = R) ∧ FSt w0 wr A n c bl bt bn bo bz wa le ba need [] ∧ Kq bo bz w wr) (fun i _ => n - (intOf i).toNat)
    case atStart => exact ⟨k, Nat.le_refl _, hk, rfl, HR, HS.out, Kq.of (Below.refl _ _)⟩
    case round =>
      obtain ⟨k', hk1, hk2, rfl, HR1, hS, hK⟩ := hrel
      have hSBr := HSB.out.kq hK
      have hO := own_kq HO.out hK (fun q e => by cases e; exact ⟨h1, h2⟩)
      have hcz : m ≤ cz := own_cap hO
      have hx := own_r hO
      have sK := hK.size
      have cx := hSBr.xb.cell 0
      have lx := hSBr.xb.lt
      have cp := hSBr.pb.cell 0
      have lp := hSBr.pb.lt
      simp only [List.getElem?_cons_zero, xF] at cx cp
      have HS1 := Lib.hid hS
      have HB1 := Lib.hid hSBr
      by_cases hlt : k' < n
      · have hrd := hSBr.rd
        obtain ⟨b2, o2, x, rfl, hb2', hxk, g1⟩ := ints_at hrd (Below.refl _ _) (by rw [nI_len, List.length_range]) hlt
        obtain rfl : (k' : Int) = x := by rw [← hxk]; exact (range_at hlt).symm
        obtain ⟨R1, hR1⟩ : ∃ R1, (ssL n f (s ++ [k']) (k' + 1)).find? (gdB zs wa le ba need) = R1 := ⟨_, rfl⟩
        have hst := (ssP_find (f := f) (s := s) (gd := gdB zs wa le ba need) hlt).symm.trans HR1.out
        rw [hR1] at hst
        have HST := Lib.hid hst
        have HLN : Hid ((s ++ [k']).length = m + 1) := Lib.hid (by have := HM.out; simp; omega)
        have HW : Hid (IntKind.i64.wrap ((k' : Int) + 1) = ((k' + 1 : Nat) : Int)) := Lib.hid (by rw [IntWalk.i64_in _ (by omega)]; omega)
        have HIH := Lib.hid (fun (ki : Int) (hki : ki = ((k' + 1 : Nat) : Int)) (b' c' : Nat) (q1 : b' ≠ bo) (q2 : b' ≠ bz) (W : World) (q3 : wr.heap.size ≤ W.heap.size) => sub_is (c := c) (Pb := some ⟨b2, o2, none⟩) (cP := cP) (bs := bs) (bY := bY) (bp := bp) (bx := bx) hr hl hL hT hbo n1 n2 n3 n4 n5 n6 hn6 hz6 f (s ++ [k']) (k' + 1) (by have := HF.out; simp; omega) (fun i hi => by
          rcases List.mem_append.1 hi with h | h
          · exact hs i h
          · rw [List.mem_singleton.1 h]; exact hlt) (by omega) ki hki b' (m + 1) c' HLN.out q1 q2 R1 hR1 wr.heap.size W q3 (by omega) (by omega))
        have j1 : (k' : Int) < (n : Int) := by omega
        have j2 : (0 : Int) ≤ (k' : Int) := by omega
        clear hst hR1 hxk hrd hSBr hS hO
        go_upto_region 6 with fail
        go_region_law (first
          | (refine step_append_full (by rfl) (.tmp 30) (.tmp 35) 26 (by rfl) wr.heap.size 3 i0 _ 1 8 Try.underlying26 hi0 hz0 hz1 hz2 (by rfl) (by decide) ⟨b, 0, none⟩ m (ints (nI s)) (by rfl) (hx.below (by (repeat' (first | (with_reducible exact Below.refl _ _) | (with_reducible assumption) | (with_reducible refine balloc ?_ _) | (with_reducible refine bdrew ?_) | (with_reducible refine bdrewN ?_ _) | (with_reducible refine bstep ?_ (by assumption)) | (with_reducible refine bset ?_ ?_ _) | (exact Below.size (by assumption)) | go_size)))) ⟨_, 0, none⟩ 1 1 [.int .i64 (k' : Int)] (by rfl) (by omega) (by first | exact Bk.rd (Bk.drew (Bk.new' (by first | (simp; done) | (simp; omega)))) rfl | exact Bk.rd (Bk.new' (by first | (simp; done) | (simp; omega))) rfl) (by unfold maxLen; omega) (by omega) (by simp) ?_
             intro v1 w1 hown1 hgr1
             have B1 : Below wr.heap.size wr w1 := bstep (show Below wr.heap.size wr _ from by (repeat' (first | (with_reducible exact Below.refl _ _) | (with_reducible assumption) | (with_reducible refine balloc ?_ _) | (with_reducible refine bdrew ?_) | (with_reducible refine bdrewN ?_ _) | (with_reducible refine bstep ?_ (by assumption)) | (with_reducible refine bset ?_ ?_ _) | (exact Below.size (by assumption)) | go_size))) hgr1
             have cx1 := (HB1.out.kq (Kq.of B1)).xb.cell 0
             have lx1 := (HB1.out.kq (Kq.of B1)).xb.lt
             simp only [List.getElem?_cons_zero, xF] at cx1
             obtain ⟨b1', c1, rfl⟩ := own_some1 hown1 (by omega)
             have hb1' := (hown1.lt b1' rfl).1)
          | (go_simp; go_wp2_with (go_at_call 67; refine (HIH.out _ HW.out b1' c1 (by omega) (by omega) _ B1.size (HS1.out.on B1) (HB1.out.kq (Kq.of B1)) (by rw [nI_snoc, ints_snoc]; exact hown1)).mono ?_; rintro e w2 ⟨rfl, hS2, hK2⟩)))
        all_goals
          clear hown1 hgr1 cx1 cx cp g1
          have HS2 := Lib.hid hS2
          have hKe := (hK.trans (Kq.of B1)).trans hK2
          clear hS2
          rcases R1 with _ | r1
          · have HR2 : Hid ((ssP n f s (k' + 1)).find? (gdB zs wa le ba need) = R) := Lib.hid (by have := HST.out; simpa using this)
            go_wp2
            go_roundw
            case rel => exact ⟨k' + 1, by omega, by omega, by go_num, HR2, HS2.out, hKe⟩
            case measure => simp [intOf]; omega
          · have HR2 : Hid (R = some r1) := Lib.hid (by have := HST.out; simpa using this.symm)
            go_wp2
            go_returns
            rw [HR2.out]
            exact ⟨rfl, HS2.out, hKe⟩
      · have hkn : k' = n := by omega
        have e : R = none := by
          rw [← HR1.out, ssP_end hlt]; rfl
        subst e
        have j1 : ¬ (k' : Int) < (n : Int) := by omega
        go_wp2
        go_returns
        exact ⟨rfl, HS1.out, hK⟩
end Go.Proofs.Ytbioleagenoogaa
