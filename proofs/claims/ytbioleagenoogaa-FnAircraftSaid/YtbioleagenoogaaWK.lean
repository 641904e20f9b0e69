/-
  FewestFor of the program. Conditions: lengths within the bound of a slice.
-/
import Derived.Test.YtbioleagenoogaaWJ
import Derived.Laws.EntriesVeiled
namespace Go.Proofs.Ytbioleagenoogaa
open Go Go.RowKit
set_option maxRecDepth 100000
set_option maxHeartbeats 4000000

theorem subsets_is {w0 : World} {A : Option Addr} {n c bl bt bn bo bz : Nat} {wa le ba need : Int} {zs : List AircraftT} (hr : Rd w0 5 A n (acrF zs)) (hl : zs.length = n) (hL : listedB zs 6 = true) (hT : tgB wa le ba = true)
    (hbo : w0.heap.size ≤ bo) (n1 : bl ≠ bo) (n2 : bt ≠ bo) (n3 : bn ≠ bo) (n4 : bl ≠ bz) (n5 : bt ≠ bz) (n6 : bn ≠ bz) (hn6 : n ≤ 6) {z : Nat} (hz6 : z ≤ n) {Pb : Option Addr} {cP : Nat} (hP : ∀ a, Pb = some a → a.block ≠ bo ∧ a.block ≠ bz)
    (R : Option (List Nat)) (hR : (ssL n z [] 0).find? (gdB zs wa le ba need) = R) (w : World) (hb1 : bo < w.heap.size) (hb2 : bz < w.heap.size) (hS : FSt w0 w A n c bl bt bn bo bz wa le ba need []) (hp : Rd w 1 Pb n (ints (nI (List.range n)))) :
    Calls Try.prog 46 #[.slice Pb n cP, .int .i64 (z : Int), .func (.func 47) #[] #[.pointer (some ⟨bl, 0, none⟩), .pointer (some ⟨bt, 0, none⟩), .pointer (some ⟨bn, 0, none⟩), .pointer (some ⟨bo, 0, none⟩)]] w fun e w' => e = .returned (.bool R.isNone) ∧ FSt w0 w' A n c bl bt bn bo bz wa le ba need (outL zs R) ∧ Kq bo bz w w' := by
  have HR := Lib.hid hR
  have HS := Lib.hid hS
  have HP := Lib.hid hP
  clear hR hS hP
  go_enter Try.func46, Try.ntmps46
  go_upto_region 3 with fail
  obtain ⟨bp, ebp⟩ : ∃ g, w.heap.size = g := ⟨_, rfl⟩
  rw [ebp]
  obtain ⟨bs, ebs⟩ : ∃ g, bp + 1 = g := ⟨_, rfl⟩
  rw [ebs]
  obtain ⟨bY, ebY⟩ : ∃ g, bs + 1 = g := ⟨_, rfl⟩
  rw [ebY]
  obtain ⟨bx, ebx⟩ : ∃ g, bY + 1 = g := ⟨_, rfl⟩
  rw [ebx]
  refine wp_gen (fun V => Below w.heap.size w V ∧ SB V z n (yF bl bt bn bo) Pb cP bs bY bp bx bo bz) ⟨by (repeat' (first | (with_reducible exact Below.refl _ _) | (with_reducible assumption) | (with_reducible refine balloc ?_ _) | (with_reducible refine bdrew ?_) | (with_reducible refine bdrewN ?_ _) | (with_reducible refine bstep ?_ (by assumption)) | (with_reducible refine bset ?_ ?_ _) | (exact Below.size (by assumption)) | go_size)), ⟨?a1, ?a2, ?a3, ?a4, hp.below (by (repeat' (first | (with_reducible exact Below.refl _ _) | (with_reducible assumption) | (with_reducible refine balloc ?_ _) | (with_reducible refine bdrew ?_) | (with_reducible refine bdrewN ?_ _) | (with_reducible refine bstep ?_ (by assumption)) | (with_reducible refine bset ?_ ?_ _) | (exact Below.size (by assumption)) | go_size))), ⟨by omega, by omega, by omega, by omega, by omega, by omega, by omega, by omega⟩, HP.out⟩⟩ ?_
  case a1 => (repeat (first | exact Bk.new' (by first | omega | (simp; omega)) | with_reducible refine Bk.alloc ?_ _))
  case a2 => (repeat (first | exact Bk.new' (by first | omega | (simp; omega)) | with_reducible refine Bk.alloc ?_ _))
  case a3 => (repeat (first | exact Bk.new' (by first | omega | (simp; omega)) | with_reducible refine Bk.alloc ?_ _))
  case a4 => (repeat (first | exact Bk.new' (by first | omega | (simp; omega)) | with_reducible refine Bk.alloc ?_ _))
  have hbp : w.heap.size ≤ bp := by omega
  clear ebp ebs ebY ebx
  intro V ⟨bV, hV⟩
  have cx := hV.xb.cell 0
  have lx := hV.xb.lt
  simp only [List.getElem?_cons_zero, xF] at cx
  have HV := Lib.hid hV
  have sV := bV.size
  clear hV
  have HC := Lib.hid (fun (b : Nat) (q1 : b ≠ bo) (q2 : b ≠ bz) (X : World) (q3 : w.heap.size ≤ X.heap.size) => sub_is (c := c) (Pb := Pb) (cP := cP) (bs := bs) (bY := bY) (bp := bp) (bx := bx) hr hl hL hT hbo n1 n2 n3 n4 n5 n6 hn6 hz6 z [] 0 (by simp) (by simp) (Nat.zero_le _) 0 rfl b 0 0 rfl q1 q2 R HR.out w.heap.size X q3 hb1 hb2)
  go_wp2_with (go_at_call 67; refine (HC.out V.heap.size (by omega) (by omega) _ (by simp; omega) (HS.out.on (balloc bV _)) (HV.out.kq (Kq.of (balloc (Below.refl _ _) _))) (own_lit' rfl (by omega))).mono ?_; rintro e w' ⟨rfl, hS2, hK2⟩)
  go_returns
  exact ⟨rfl, hS2, (Kq.of (balloc bV _)).trans hK2⟩
end Go.Proofs.Ytbioleagenoogaa
