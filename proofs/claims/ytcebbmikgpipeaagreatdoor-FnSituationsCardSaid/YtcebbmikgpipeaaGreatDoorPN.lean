/-
  The program's numbers in a list of words. Conditions: the list's length, the words' lengths.
-/
import Derived.Test.YtcebbmikgpipeaaGreatDoorPI
import Derived.Test.YtcebbmikgpipeaaGreatDoorPS
import Derived.Maps.AppendAt
namespace Go.Proofs.YtcebbmikgpipeaaGreatDoor
open Go Go.RowKit
set_option maxRecDepth 100000
set_option maxHeartbeats 4000000

/-- the number at a place of a list of words -/
def piG (L : List ByteArray) (p : Nat) : Int := if p < L.length then piV (L.getD p ⟨#[]⟩) else 0
theorem strs_at {L : List ByteArray} {p : Nat} (h : p < L.length) : (strs L)[p]? = some (.string (L.getD p ⟨#[]⟩)) := by
  rw [List.getD_eq_getElem?_getD, List.getElem?_eq_getElem h]
  simp [strs, h]
theorem numbersIn_is {L : List ByteArray} {ps : List Nat} {A Ap : Option Addr} {c cp : Nat} (hL : L.length ≤ 2000000) (hsz : ∀ x ∈ L, x.size ≤ 1048576) (hps : ∀ p ∈ ps, p ≤ 1000) (hm2 : ps.length ≤ 1000) (w : World) (hE : Ev w) (hR : Rd w 1 A L.length (strs L)) (hP : Rd w 1 Ap ps.length (ints (ps.map (fun p : Nat => (p : Int))))) :
    Calls Tryz.prog 24 #[.slice A L.length c, .slice Ap ps.length cp] w fun e w' => ∃ v, e = .returned v ∧ w'.ownsRow w.heap.size 3 1 v ps.length (ints (ps.map (piG L))) ∧ Below w.heap.size w w' := by
  obtain ⟨i0, hi0, hz0, hz1, hz2⟩ := info_parts (show (Tryz.prog.info? 3).map (fun i => (i.zero, i.size, i.bytes)) = some (some (.int .i64 0), 1, 8) from by kernel_rfl)
  have HSZ := Lib.hid hsz
  have HPS := Lib.hid hps
  have HE := Lib.hid hE
  have HR := Lib.hid hR
  have HP := Lib.hid hP
  clear hsz hps hE hR hP
  go_enter Tryz.func24, Tryz.ntmps24
  go_upto_region 3 with fail
  go_loopw [5, 12] (fun v i wr => ∃ k : Nat, k ≤ ps.length ∧ i = .int .i64 k ∧ wr.ownsRow w.heap.size 3 1 v k (ints ((ps.take k).map (piG L))) ∧ Below w.heap.size w wr) (fun _ i _ => ps.length - (intOf i).toNat)
  case atStart => exact ⟨0, Nat.zero_le _, rfl, by simpa [ints] using own_lit' (w := w) (t := 3) (k := 1) rfl (Nat.le_refl _), by (repeat' (first | (with_reducible exact Below.refl _ _) | (with_reducible assumption) | (with_reducible refine balloc ?_ _) | (with_reducible refine bdrew ?_) | (with_reducible refine bdrewN ?_ _) | (with_reducible refine bstep ?_ (by assumption)) | (with_reducible refine bset ?_ ?_ _) | (exact Below.size (by assumption)) | go_size))⟩
  case round =>
    obtain ⟨k, hk, rfl, hown, bW⟩ := hrel
    have HO := Lib.hid hown
    clear hown
    by_cases hlt : k < ps.length
    · obtain ⟨p, hp⟩ : ∃ p, ps[k] = p := ⟨_, rfl⟩
      have hpl : p ≤ 1000 := HPS.out p (hp ▸ List.getElem_mem hlt)
      have HK : Hid ((ps.take (k + 1)).map (piG L) = (ps.take k).map (piG L) ++ [piG L p]) := Lib.hid (by rw [List.take_succ_eq_append_getElem hlt, hp]; simp)
      obtain ⟨b, off, rfl, hbl, hc⟩ := (HP.out.below bW).2 (by omega)
      have hc0 := hc k (.int .i64 (p : Int)) (by simp [ints, hlt, hp])
      have i1 : (0 : Int) ≤ (k : Int) := by omega
      have i2 : (k : Int) < (ps.length : Int) := by omega
      clear hc hp
      by_cases hpL : p < L.length
      · obtain ⟨x, hx⟩ : ∃ x, L.getD p ⟨#[]⟩ = x := ⟨_, rfl⟩
        have hxm : x ∈ L := by rw [← hx, List.getD_eq_getElem?_getD, List.getElem?_eq_getElem hpL]; exact List.getElem_mem hpL
        obtain ⟨v, hv⟩ : ∃ v, piV x = v := ⟨_, rfl⟩
        have hg : piG L p = v := by unfold piG; rw [if_pos hpL, hx, hv]
        have HX := Lib.hid (ParseInt_is hv (HSZ.out x hxm) wr (HE.out.below bW))
        obtain ⟨b2, off2, rfl, hbl2, hc2⟩ := (HR.out.below bW).2 (by omega)
        have hc1 := hc2 p (.string x) (by rw [strs_at hpL, hx])
        have j1 : (0 : Int) ≤ (p : Int) := by omega
        have j2 : (p : Int) < (L.length : Int) := by omega
        rw [hg] at HK
        clear hc2 hx hxm hv hg
        go_upto_region 8 with (go_at_call 43; refine HX.out.mono ?_; rintro e w2 ⟨q, rfl, hb2⟩)
        have HO := Lib.hid (own_below HO.out hb2)
        have bW := bstep bW hb2
        clear HX hc0 hc1 hb2
        go_wp2_with (at_builtin; refine wpList_append_own _ rfl (.tmp 28) (.tmp 30) 44 rfl w.heap.size 3 i0 (.int .i64 0) 1 8 Tryz.underlying44 hi0 hz0 hz1 hz2 rfl (by decide) _ _ _ rfl (own_alloc HO.out _) ⟨_, 0, none⟩ 1 1 [.int .i64 v] rfl rfl ?c1 ?c2 ?c3 ?c4 ?c5 ?_)
        case c1 => exact cell_one_new _ _ _
        case c2 => (first | rfl | (intro u hu; rw [List.mem_singleton.1 hu]; rfl))
        case c3 => (unfold maxLen; omega)
        case c4 => omega
        case c5 => (have := bW.size; simp; omega)
        intro v' w9 hown' hgr _
        have bW9 := own_grownBy (own_alloc HO.out _) (balloc bW _) hgr (Nat.le_refl _) (by have := bW.size; simp; omega)
        have HO9 : Hid (w9.ownsRow w.heap.size 3 1 v' (k + 1) (ints ((ps.take (k + 1)).map (piG L)))) := Lib.hid (by rw [HK.out]; simpa [ints] using hown')
        clear hown' hgr
        go_wp2
        go_roundw
        case rel => exact ⟨k + 1, by omega, by go_num, HO9.out, bW9⟩
        case measure => simp [intOf]; omega
      · have hg : piG L p = 0 := by unfold piG; rw [if_neg hpL]
        have j2 : ¬ (p : Int) < (L.length : Int) := by omega
        rw [hg] at HK
        clear hg
        go_upto_region 8 with fail
        clear hc0
        go_wp2_with (at_builtin; refine wpList_append_own _ rfl (.tmp 28) (.tmp 30) 44 rfl w.heap.size 3 i0 (.int .i64 0) 1 8 Tryz.underlying44 hi0 hz0 hz1 hz2 rfl (by decide) _ _ _ rfl (own_alloc HO.out _) ⟨_, 0, none⟩ 1 1 [.int .i64 0] rfl rfl ?c1 ?c2 ?c3 ?c4 ?c5 ?_)
        case c2 => (first | rfl | (intro u hu; rw [List.mem_singleton.1 hu]; rfl))
        case c3 => (unfold maxLen; omega)
        case c4 => omega
        case c5 => (have := bW.size; simp; omega)
        intro v' w9 hown' hgr _
        have bW9 := own_grownBy (own_alloc HO.out _) (balloc bW _) hgr (Nat.le_refl _) (by have := bW.size; simp; omega)
        have HO9 : Hid (w9.ownsRow w.heap.size 3 1 v' (k + 1) (ints ((ps.take (k + 1)).map (piG L)))) := Lib.hid (by rw [HK.out]; simpa [ints] using hown')
        clear hown' hgr
        go_wp2
        go_roundw
        case rel => exact ⟨k + 1, by omega, by go_num, HO9.out, bW9⟩
        case measure => simp [intOf]; omega
    · obtain rfl : k = ps.length := by omega
      have i2 : ¬ (ps.length : Int) < (ps.length : Int) := by omega
      have HO2 : Hid _ := Lib.hid (List.take_length (l := ps) ▸ HO.out)
      go_wp2
      go_returns
      exact ⟨_, rfl, HO2.out, bW⟩
end Go.Proofs.YtcebbmikgpipeaaGreatDoor
