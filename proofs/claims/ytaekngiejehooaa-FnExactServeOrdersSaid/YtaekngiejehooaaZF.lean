/-
  ServingOrder of the program, whole. Conditions: lengths within the bound of a slice.
-/
import Derived.Test.YtaekngiejehooaaZE
import Derived.Maps.AppendAt
namespace Go.Proofs.Ytaekngiejehooaa
open Go.RowKit
set_option maxRecDepth 100000
set_option maxHeartbeats 4000000

/-- the ids of the first k of a list of places -/
def idsO (zs : List OrderT) (L : List Int) (k : Nat) : List Int := (L.take k).map fun x => (oAt zs x).1
theorem idsO_succ {zs : List OrderT} {L : List Int} {k i : Nat} {x : OrderT} (hk : k < L.length) (hx : L[k] = (i : Int)) (hi : i < zs.length) (hz : zs[i] = x) : idsO zs L (k + 1) = idsO zs L k ++ [x.1] := by
  unfold idsO
  rw [List.take_succ_eq_append_getElem hk, List.map_append, hx]
  simp [oAt_nat hi hz]
theorem idsO_len {zs : List OrderT} {L : List Int} {k : Nat} (h : k ≤ L.length) : (idsO zs L k).length = k := by simp [idsO]; omega
noncomputable def soL (zs : List OrderT) : List Int := if listedB zs 10 = true then idsO zs (quO zs) zs.length else []
theorem soL_len (zs : List OrderT) : (soL zs).length ≤ zs.length := by
  unfold soL
  split
  · rw [idsO_len (by rw [quO_len]; exact Nat.le_refl _)]; exact Nat.le_refl _
  · exact Nat.zero_le _
theorem ServingOrder_is {q : Bool} {L : List Int} {A : Option Addr} {n c : Nat} {zs : List OrderT} (hq : listedB zs 10 = q) (hL : soL zs = L) (w : World) (hr : Rd w 5 A n (ordF zs)) (hl : zs.length = n) (hn : n ≤ 1048577) (hz9 : ∀ z ∈ zs, z.2.1.size ≤ maxLen) :
    Calls Try.prog 31 #[.slice A n c] w fun e w' => ∃ v, e = .returned (.tuple #[v, .bool q]) ∧ w'.ownsRow w.heap.size 3 1 v L.length (ints L) ∧ Below w.heap.size w w' := by
  have HQ := Lib.hid hq
  have HL := Lib.hid hL
  have hgood := AreOrders_of (c := c) hq w hr hl (by omega) hz9
  clear hq hL
  obtain ⟨i0, hi0, hz0, hz1, hz2⟩ := infoI
  go_enter Try.func31, Try.ntmps31
  go_wp2_with fail
  refine hgood.mono ?_
  rintro e w1 ⟨rfl, b1⟩
  clear hgood
  rcases q with _ | _
  · obtain rfl : L = [] := by rw [← HL.out]; simp [soL, HQ.out]
    go_wp2
    go_returns
    exact ⟨_, rfl, World.ownsRow_nil _ _ _ _, b1⟩
  have hn10 : n ≤ 10 := by have := (listedB_iff.1 HQ.out).2; omega
  obtain ⟨Q, hQ⟩ : ∃ Q, quO zs = Q := ⟨_, rfl⟩
  have hL2 : idsO zs Q n = L := by rw [← HL.out, ← hQ, ← hl]; simp [soL, HQ.out]
  have hQl : Q.length = n := by rw [← hQ, quO_len, hl]
  have hQm : ∀ y ∈ Q, ∃ i : Nat, i < zs.length ∧ y = (i : Int) := fun y hy => quO_mem (hQ ▸ hy)
  have HL2 := Lib.hid hL2
  have HQQ := Lib.hid hQ
  have HQM := Lib.hid hQm
  have HQL := Lib.hid hQl
  clear hL2 hQ hQl hQm HL
  go_wp2_with fail
  refine (serving_is HQQ.out _ (hr.below (show Below w.heap.size w _ from by (repeat' (first | (with_reducible exact Below.refl _ _) | (with_reducible assumption) | (with_reducible refine balloc ?_ _) | (with_reducible refine bdrew ?_) | (with_reducible refine bdrewN ?_ _) | (with_reducible refine bstep ?_ (by assumption)) | (with_reducible refine bset ?_ ?_ _) | (exact Below.size (by assumption)) | go_size)))) hl (by omega)).mono ?_
  rintro e w2 ⟨v2, rfl, ho2, hnn, hb2⟩
  have b2 : Below w.heap.size w w2 := bstep (show Below w.heap.size w _ from by (repeat' (first | (with_reducible exact Below.refl _ _) | (with_reducible assumption) | (with_reducible refine balloc ?_ _) | (with_reducible refine bdrew ?_) | (with_reducible refine bdrewN ?_ _) | (with_reducible refine bstep ?_ (by assumption)) | (with_reducible refine bset ?_ ?_ _) | (exact Below.size (by assumption)) | go_size))) hb2
  have hOL := own_below (own_lit' (w := w1) (t := 3) (k := 1) (base := w.heap.size) rfl b1.size) hb2
  rcases own_bk ho2 with ⟨hv, _⟩ | ⟨g2, c2, cs, rfl, hb2g, hB2, _, _, _, h4⟩
  · exact absurd hv hnn
  have hne : ¬ w1.heap.size = g2 := by simp only [World.size_alloc] at hb2g; omega
  have hcell : ∀ (k : Nat) (h : k < Q.length), cs[k]? = some (.int .i64 Q[k]) := fun k h => by
    have hqn := HQL.out
    have h5 : (cs.take (n * 1))[k]? = some (.int .i64 Q[k]) := by rw [h4, ints_get Q k h]
    rwa [List.getElem?_take_of_lt (by omega)] at h5
  have HB2 := Lib.hid hB2
  have HC := Lib.hid hcell
  have HOL := Lib.hid hOL
  clear ho2 hnn hOL hb2g hB2 h4 hcell
  go_wp2_with fail
  go_loopw [4, 14] (fun v i wr => ∃ k : Nat, k ≤ n ∧ i = .int .i64 k ∧ wr.ownsRow w.heap.size 3 1 v k (ints (idsO zs Q k)) ∧ Hid (Bk wr g2 3 cs) ∧ Hid (v.ownBlock ≠ some g2) ∧ Below w.heap.size w wr) (fun _ i _ => n - (intOf i).toNat)
  case atStart => exact ⟨0, Nat.zero_le _, rfl, by simpa [idsO, ints] using HOL.out, HB2, Lib.hid (by simpa [Value.ownBlock] using hne), b2⟩
  case round =>
    obtain ⟨k, hk, rfl, hown, HB, HV, hW⟩ := hrel
    by_cases hlt : k < n
    · have hkq : k < Q.length := by have := HQL.out; omega
      obtain ⟨i, hi, hqi⟩ := HQM.out Q[k] (List.getElem_mem hkq)
      have hc0 := HB.out.cell k
      rw [HC.out k hkq, hqi] at hc0
      obtain ⟨b, off, rfl, hbl, x0, x1, x2, x3, x4, hz, d0, d1, d2, d3, d4⟩ := ord_at hr hW hl (k := i) (by omega)
      have hst := idsO_succ hkq hqi hi hz
      have HS := Lib.hid hst
      have HO := Lib.hid hown
      have s1 : b < wr.heap.size := Nat.lt_of_lt_of_le hbl hW.size
      have s2 : g2 < wr.heap.size := HB.out.lt
      have i1 : (0 : Int) ≤ (k : Int) := by omega
      have i2 : (k : Int) < (n : Int) := by omega
      have i3 : (0 : Int) ≤ (i : Int) := by omega
      have i4 : (i : Int) < (n : Int) := by omega
      have hsz := hW.size
      clear hz hst hqi d1 d2 d3 d4 hown
      go_wp2_with (at_builtin; refine wpList_append_own_at _ rfl (.tmp 18) (.tmp 24) 49 rfl w.heap.size 3 i0 (.int .i64 0) 1 8 Try.underlying49 hi0 hz0 hz1 hz2 rfl (by decide) _ _ _ rfl (own_alloc HO.out _) ⟨_, 0, none⟩ 1 1 [.int .i64 x0] rfl rfl ?c1 ?c2 ?c3 ?c4 ?c5 ?_)
      case c2 => (first | rfl | (intro u hu; simp at hu; subst hu; rfl))
      case c3 => (unfold maxLen; omega)
      case c4 => omega
      case c5 => omega
      intro v' w4 hown4 hgrow _ hat
      have b4 := own_grownBy (own_alloc HO.out _) (balloc hW _) hgrow (Nat.le_refl _) (by simp; omega)
      have hB4 : Bk w4 g2 3 cs := Bk.grown (HB.out.alloc _) hgrow (fun e => HV.out e.symm)
      have hV4 : v'.ownBlock ≠ some g2 := by
        rcases hat with h | h
        · rw [h]; exact HV.out
        · rw [h]; intro e; simp at e; omega
      have HB4 := Lib.hid hB4
      have HV4 := Lib.hid hV4
      clear hB4 hV4 hat hc0 d0
      go_wp2
      go_roundw
      case rel => exact ⟨k + 1, by omega, by go_num, by rw [HS.out]; simpa [ints] using hown4, HB4, HV4, b4⟩
      case measure => simp [intOf]; omega
    · obtain rfl : k = n := by omega
      rw [HL2.out] at hown
      have hll : L.length = k := by rw [← HL2.out]; exact idsO_len (by rw [HQL.out]; exact Nat.le_refl _)
      have HO := Lib.hid hown
      have HLL := Lib.hid hll
      clear hown hll
      go_wp2
      go_returns
      exact ⟨_, rfl, by rw [HLL.out]; exact HO.out, hW⟩
end Go.Proofs.Ytaekngiejehooaa
