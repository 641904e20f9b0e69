/-
  RotateSaving of the reference and of the program. Conditions: lengths within the bound of a slice.
-/
import Derived.Test.YtallgjobljkgnaaK9
import Derived.Test.YtallgjobljkgnaaKC
namespace Go.Proofs.Ytallgjobljkgnaa
open Go.RowKit
set_option maxRecDepth 100000
set_option maxHeartbeats 2000000

def rsv (T : List (List Int)) (zs : List Int) (n a b : Nat) : Int := cstA T zs n - cstA T (swpI zs a b) n
def rin (T : List (List Int)) (zs : List Int) (n a : Nat) (s : List Int × Int) : Nat → List Int × Int
  | 0 => s
  | j + 1 => if (rin T zs n a s j).2 < rsv T zs n a (a + 1 + j) then (swpI zs a (a + 1 + j), rsv T zs n a (a + 1 + j)) else rin T zs n a s j
def rot (T : List (List Int)) (zs : List Int) (n : Nat) : Nat → List Int × Int
  | 0 => (zs, 0)
  | a + 1 => rin T zs n a (rot T zs n a) (n - (a + 1))
theorem rin_step {T : List (List Int)} {zs : List Int} {n a b : Nat} {s : List Int × Int} (h : a + 1 ≤ b) : rin T zs n a s (b + 1 - (a + 1)) = if (rin T zs n a s (b - (a + 1))).2 < rsv T zs n a b then (swpI zs a b, rsv T zs n a b) else rin T zs n a s (b - (a + 1)) := by
  obtain ⟨j, rfl⟩ : ∃ j, b = a + 1 + j := ⟨b - (a + 1), by omega⟩
  rw [show a + 1 + j + 1 - (a + 1) = j + 1 from by omega, show a + 1 + j - (a + 1) = j from by omega]
  rfl
theorem rin_len {T : List (List Int)} {zs : List Int} {n a : Nat} {s : List Int × Int} (hz : zs.length = n) (hs : s.1.length = n) : ∀ j, (rin T zs n a s j).1.length = n
  | 0 => hs
  | j + 1 => by
    unfold rin
    split
    · show (swpI zs a (a + 1 + j)).length = n; rw [swpI_len]; exact hz
    · exact rin_len hz hs j
theorem rot_len {T : List (List Int)} {zs : List Int} {n : Nat} (hz : zs.length = n) : ∀ a, (rot T zs n a).1.length = n
  | 0 => hz
  | a + 1 => rin_len hz (rot_len hz a) _
def rsL (T : List (List Int)) (zs : List Int) : List Int := if asT T zs = true then (rot T zs T.length T.length).1 else []
def rsM (T : List (List Int)) (zs : List Int) : Int := if asT T zs = true then (rot T zs T.length T.length).2 else 0
theorem rsL_len {T : List (List Int)} {zs : List Int} : (rsL T zs).length ≤ 5 := by
  unfold rsL
  split
  · rename_i h
    obtain ⟨h1, h2⟩ := asT_parts h rfl
    rw [rot_len (asB_parts h2).1]
    exact (ct_sq h1 rfl).1
  · exact Nat.zero_le _
theorem sRotate_is {q : Bool} {L : List Int} {v : Int} {A C : Option Addr} {n m c d : Nat} {T : List (List Int)} {zs : List Int} (hq : asT T zs = q) (hL : rsL T zs = L) (hv : rsM T zs = v) (w : World) (hr : RdT w A n T) (hn : n ≤ 1048576) (hd : m ≤ d) (hx : Rd w 1 C m (ints zs)) (hl : zs.length = m) (hm : m ≤ 1048576) :
    Calls Try.prog 26 #[.slice A n c, .slice C m d] w fun e w' => ∃ u, e = .returned (.tuple #[u, .int .i64 v, .bool q]) ∧ w'.ownsRow w.heap.size 3 1 u L.length (ints L) ∧ Below w.heap.size w w' := by
  have hT := hr.1
  go_enter Try.func26, Try.ntmps26
  rcases ha : asT T zs with _ | _
  · have HA := Lib.hid ha
    obtain rfl : q = false := by rw [← hq]; simp [ha]
    obtain rfl : ([] : List Int) = L := by rw [← hL]; simp [rsL, hq]
    obtain rfl : v = 0 := by rw [← hv]; simp [rsM, hq]
    clear hq hL hv ha
    go_wp2_with fail
    refine (l16Tasks_is HA.out _ hr hn hx hl hm hd).mono ?_
    rintro e w1 ⟨rfl, b1⟩
    have := b1.size
    go_wp2
    go_returns
    exact ⟨_, rfl, own_lit' rfl (by omega), by (repeat' (first | (with_reducible exact Below.refl _ _) | (with_reducible assumption) | (with_reducible refine balloc ?_ _) | (with_reducible refine bdrew ?_) | (with_reducible refine bdrewN ?_ _) | (with_reducible refine bstep ?_ (by assumption)) | (with_reducible refine bset ?_ ?_ _) | (exact Below.size (by assumption)) | go_size))⟩
  have HA := Lib.hid ha
  obtain ⟨h1, h2⟩ := asT_parts ha hT
  obtain ⟨h3, h4, h5⟩ := asB_parts h2
  obtain ⟨h6, h7, _⟩ := ct_sq h1 hT
  obtain rfl : m = n := by omega
  obtain rfl : q = true := by rw [← hq, ha]
  have hL2 : (rot T zs m m).1 = L := by rw [← hL]; simp [rsL, hq, hT]
  have hv2 : (rot T zs m m).2 = v := by rw [← hv]; simp [rsM, hq, hT]
  have hcz := ct_cells h1 hT
  have HL2 := Lib.hid hL2
  have HV2 := Lib.hid hv2
  have HC := Lib.hid hcz
  have H4 := Lib.hid h4
  obtain ⟨bb, off, rfl⟩ := rd_some hx (by omega)
  clear hq hL hv ha h1 h2 h4 h5 hL2 hv2 hcz
  go_wp2_with fail
  refine (l16Tasks_is HA.out _ hr hn hx hl hm hd).mono ?_
  rintro e w1 ⟨rfl, b1⟩
  go_wp2_with fail
  refine (l1Own_any bb off m d zs _ (hx.below b1) (by omega)).mono ?_
  rintro e w3 ⟨v3, rfl, ho3, hb3⟩
  have b3 := bstep b1 hb3
  have ho3 := own_weaken (base' := w.heap.size) ho3 b1.size
  go_wp2_with fail
  go_loopw [7, 8, 9] (fun u y i wr => ∃ k : Nat, k ≤ m ∧ i = .int .i64 k ∧ wr.ownsRow w.heap.size 3 1 u m (ints (rot T zs m k).1) ∧ y = .int .i64 (rot T zs m k).2 ∧ Below w.heap.size w wr) (fun _ _ i _ => m - (intOf i).toNat)
  case atStart => exact ⟨0, Nat.zero_le _, rfl, ho3, rfl, b3⟩
  case round =>
    obtain ⟨k, hk, rfl, hown, rfl, hW⟩ := hrel
    have HO := Lib.hid hown
    clear hown
    by_cases hlt : k < m
    · obtain ⟨S, hS⟩ : ∃ S, rot T zs m k = S := ⟨_, rfl⟩
      rw [hS] at HO ⊢
      have HS := Lib.hid hS
      clear hS
      have i1 : (0 : Int) ≤ (k : Int) := by omega
      have i2 : (k : Int) < (m : Int) := by omega
      obtain ⟨wo, rfl⟩ : ∃ wo, wo = wr := ⟨_, rfl⟩
      go_wp2_with fail
      go_loopw [7, 8, 10] (fun u y i wr => ∃ b : Nat, k + 1 ≤ b ∧ b ≤ m ∧ i = .int .i64 b ∧ wr.ownsRow w.heap.size 3 1 u m (ints (rin T zs m k S (b - (k + 1))).1) ∧ y = .int .i64 (rin T zs m k S (b - (k + 1))).2 ∧ Below w.heap.size w wr) (fun _ _ i _ => m - (intOf i).toNat)
      case atStart => exact ⟨k + 1, Nat.le_refl _, by omega, by go_num, by rw [Nat.sub_self]; exact HO.out, by rw [Nat.sub_self]; rfl, hW⟩
      case round =>
        obtain ⟨b, hb1, hb2, rfl, hown, rfl, hV⟩ := hrel
        have HO := Lib.hid hown
        clear hown
        by_cases hbt : b < m
        · have hst := rin_step (T := T) (zs := zs) (n := m) (s := S) hb1
          have h10 := swp_all H4.out (show k < zs.length by omega) (show b < zs.length by omega)
          have c1 := cstA_bd HC.out H4.out m (Nat.le_refl _) (by omega)
          have c2 := cstA_bd HC.out h10 m (Nat.le_refl _) (by rw [swpI_len]; omega)
          have hsv : rsv T zs m k b = cstA T zs m - cstA T (swpI zs k b) m := rfl
          obtain ⟨Q, hQ⟩ : ∃ Q, rin T zs m k S (b - (k + 1)) = Q := ⟨_, rfl⟩
          obtain ⟨Q1, Q2⟩ := Q
          rw [hQ] at hst HO ⊢
          dsimp only at hst HO ⊢
          obtain ⟨y1, e1⟩ : ∃ y, cstA T zs m = y := ⟨_, rfl⟩
          obtain ⟨y2, e2⟩ : ∃ y, cstA T (swpI zs k b) m = y := ⟨_, rfl⟩
          rw [e1, e2] at hsv
          rw [e1] at c1
          rw [e2] at c2
          rw [hsv] at hst
          have E1 := Lib.hid e1
          have E2 := Lib.hid e2
          have H10 := Lib.hid h10
          have j1 : (0 : Int) ≤ (b : Int) := by omega
          have j2 : (b : Int) < (m : Int) := by omega
          have hkb : k ≠ b := by omega
          have HKB := Lib.hid hkb
          have hwr : IntKind.i64.wrap (y1 - y2) = y1 - y2 := IntWalk.i64_in _ (by omega)
          clear hQ e1 e2 hsv h10 hkb
          by_cases hgt : Q2 < y1 - y2
          · rw [if_pos hgt] at hst
            have HST := Lib.hid hst
            clear hst
            go_wp2_with fail
            refine (l16Swap_any bb off _ _ k b zs _ (hx.below hV) hl hm (by omega) (by omega) HKB.out).mono ?_
            rintro e w5 ⟨v5, rfl, ho5, hb5⟩
            have b5 := bstep hV hb5
            have hk5 := own_below HO.out hb5
            have hw5 := own_weaken (base' := w.heap.size) ho5 hV.size
            obtain ⟨A5, c5, rfl, r5, _⟩ := own_rd ho5
            have HK5 := Lib.hid hk5
            have HW5 := Lib.hid hw5
            clear ho5 hk5 hw5
            go_wp2_with fail
            refine (l16Cost_any _ _ _ _ _ _ T zs _ (hr.below b5) HC.out h6 (hx.below b5) hl (Nat.le_refl _) H4.out).mono ?_
            rintro e w6 ⟨rfl, hb6⟩
            rw [E1.out]
            have b6 := bstep b5 hb6
            go_wp2_with fail
            refine (l16Cost_any _ _ _ _ _ _ T (swpI zs k b) _ (hr.below b6) HC.out h6 (r5.below hb6) (by rw [swpI_len]; exact hl) (Nat.le_refl _) H10.out).mono ?_
            rintro e w7 ⟨rfl, hb7⟩
            rw [E2.out]
            have b7 := bstep b6 hb7
            have ho7 := own_below (own_below HW5.out hb6) hb7
            have HO7 := Lib.hid ho7
            clear ho7 r5
            go_wp2
            go_roundw
            case rel => exact ⟨b + 1, by omega, by omega, by go_num, by rw [HST.out]; exact HO7.out, by rw [HST.out], b7⟩
            case measure => simp [intOf]; omega
          · rw [if_neg hgt] at hst
            have HST := Lib.hid hst
            clear hst
            go_wp2_with fail
            refine (l16Swap_any bb off _ _ k b zs _ (hx.below hV) hl hm (by omega) (by omega) HKB.out).mono ?_
            rintro e w5 ⟨v5, rfl, ho5, hb5⟩
            have b5 := bstep hV hb5
            have hk5 := own_below HO.out hb5
            have hw5 := own_weaken (base' := w.heap.size) ho5 hV.size
            obtain ⟨A5, c5, rfl, r5, _⟩ := own_rd ho5
            have HK5 := Lib.hid hk5
            have HW5 := Lib.hid hw5
            clear ho5 hk5 hw5
            go_wp2_with fail
            refine (l16Cost_any _ _ _ _ _ _ T zs _ (hr.below b5) HC.out h6 (hx.below b5) hl (Nat.le_refl _) H4.out).mono ?_
            rintro e w6 ⟨rfl, hb6⟩
            rw [E1.out]
            have b6 := bstep b5 hb6
            go_wp2_with fail
            refine (l16Cost_any _ _ _ _ _ _ T (swpI zs k b) _ (hr.below b6) HC.out h6 (r5.below hb6) (by rw [swpI_len]; exact hl) (Nat.le_refl _) H10.out).mono ?_
            rintro e w7 ⟨rfl, hb7⟩
            rw [E2.out]
            have b7 := bstep b6 hb7
            have ho7 := own_below (own_below HK5.out hb6) hb7
            have HO7 := Lib.hid ho7
            clear ho7 r5
            go_wp2
            go_roundw
            case rel => exact ⟨b + 1, by omega, by omega, by go_num, by rw [HST.out]; exact HO7.out, by rw [HST.out], b7⟩
            case measure => simp [intOf]; omega
        · have hbm : b = m := by omega
          subst hbm
          have hrs : rot T zs b (k + 1) = rin T zs b k S (b - (k + 1)) := by show rin T zs b k (rot T zs b k) _ = _; rw [HS.out]
          have HRS := Lib.hid hrs
          clear hrs
          go_wp2
          go_roundw
          case rel => exact ⟨k + 1, by omega, by go_num, by rw [HRS.out]; exact HO.out, by rw [HRS.out], hV⟩
          case measure => simp [intOf]; omega
    · have hkn : k = m := by omega
      subst hkn
      have hln := rot_len (T := T) hl k
      rw [HL2.out] at HO hln
      rw [HV2.out]
      go_wp2
      go_returns
      exact ⟨_, rfl, by rw [hln]; exact HO.out, hW⟩
theorem Rotate_is {q : Bool} {L : List Int} {v : Int} {A C : Option Addr} {n m c d : Nat} {T : List (List Int)} {zs : List Int} (hq : asT T zs = q) (hL : rsL T zs = L) (hv : rsM T zs = v) (w : World) (hr : RdT w A n T) (hn : n ≤ 1048576) (hM : ∀ i, i < n → (row T i).length ≤ 1048576) (hx : Rd w 1 C m (ints zs)) (hl : zs.length = m) (hm : m ≤ 1048576) :
    Calls Try.prog 24 #[.slice A n c, .slice C m d] w fun e w' => ∃ u, e = .returned (.tuple #[u, .int .i64 v, .bool q]) ∧ w'.ownsRow w.heap.size 3 1 u L.length (ints L) ∧ Below w.heap.size w w' := by
  have hT := hr.1
  have HM := Lib.hid hM
  clear hM
  go_enter Try.func24, Try.ntmps24
  rcases h1 : ctB T with _ | _
  · have HC1 := Lib.hid h1
    obtain rfl : q = false := by rw [← hq]; simp [asT, h1]
    obtain rfl : ([] : List Int) = L := by rw [← hL]; simp [rsL, hq]
    obtain rfl : v = 0 := by rw [← hv]; simp [rsM, hq]
    clear hq hL hv h1
    go_wp2_with fail
    refine (IsCostTable_is HC1.out _ hr hn HM.out).mono ?_
    rintro e w1 ⟨rfl, b1⟩
    have := b1.size
    go_wp2
    go_returns
    exact ⟨_, rfl, World.ownsRow_nil _ _ _ _, by (repeat' (first | (with_reducible exact Below.refl _ _) | (with_reducible assumption) | (with_reducible refine balloc ?_ _) | (with_reducible refine bdrew ?_) | (with_reducible refine bdrewN ?_ _) | (with_reducible refine bstep ?_ (by assumption)) | (with_reducible refine bset ?_ ?_ _) | (exact Below.size (by assumption)) | go_size))⟩
  rcases h2 : asB n zs with _ | _
  · have HC1 := Lib.hid h1
    have HA := Lib.hid h2
    obtain rfl : q = false := by rw [← hq]; simp [asT, h2, hT]
    obtain rfl : ([] : List Int) = L := by rw [← hL]; simp [rsL, hq]
    obtain rfl : v = 0 := by rw [← hv]; simp [rsM, hq]
    clear hq hL hv h1 h2
    go_wp2_with fail
    refine (IsCostTable_is HC1.out _ hr hn HM.out).mono ?_
    rintro e w1 ⟨rfl, hb1⟩
    go_wp2_with fail
    refine (isAssignment_is HA.out _ (hx.below hb1) hl hm hn).mono ?_
    rintro e w2 ⟨rfl, hb2⟩
    have b1 := bstep hb1 hb2
    have := b1.size
    go_wp2
    go_returns
    exact ⟨_, rfl, World.ownsRow_nil _ _ _ _, by (repeat' (first | (with_reducible exact Below.refl _ _) | (with_reducible assumption) | (with_reducible refine balloc ?_ _) | (with_reducible refine bdrew ?_) | (with_reducible refine bdrewN ?_ _) | (with_reducible refine bstep ?_ (by assumption)) | (with_reducible refine bset ?_ ?_ _) | (exact Below.size (by assumption)) | go_size))⟩
  have HC1 := Lib.hid h1
  have HA := Lib.hid h2
  have ha : asT T zs = true := by simp [asT, h1, h2, hT]
  obtain ⟨h1, h2⟩ := asT_parts ha hT
  obtain ⟨h3, h4, h5⟩ := asB_parts h2
  obtain ⟨h6, h7, _⟩ := ct_sq h1 hT
  obtain rfl : m = n := by omega
  obtain rfl : q = true := by rw [← hq, ha]
  have hL2 : (rot T zs m m).1 = L := by rw [← hL]; simp [rsL, hq, hT]
  have hv2 : (rot T zs m m).2 = v := by rw [← hv]; simp [rsM, hq, hT]
  have hcz := ct_cells h1 hT
  have HL2 := Lib.hid hL2
  have HV2 := Lib.hid hv2
  have HC := Lib.hid hcz
  have H4 := Lib.hid h4
  obtain ⟨bb, off, rfl⟩ := rd_some hx (by omega)
  clear hq hL hv ha h1 h2 h4 h5 hL2 hv2 hcz
  go_wp2_with fail
  refine (IsCostTable_is HC1.out _ hr hn HM.out).mono ?_
  rintro e w1 ⟨rfl, hb1⟩
  go_wp2_with fail
  refine (isAssignment_is HA.out _ (hx.below hb1) hl hm hn).mono ?_
  rintro e w2 ⟨rfl, hb2⟩
  have b1 := bstep hb1 hb2
  go_wp2_with fail
  refine (copyInt_any bb off m d zs _ (hx.below b1) (by omega)).mono ?_
  rintro e w3 ⟨v3, rfl, ho3, hb3⟩
  have b3 := bstep b1 hb3
  have ho3 := own_weaken (base' := w.heap.size) ho3 b1.size
  go_wp2_with fail
  go_loopw [7, 8, 27] (fun u y i wr => ∃ k : Nat, k ≤ m ∧ i = .int .i64 k ∧ wr.ownsRow w.heap.size 3 1 u m (ints (rot T zs m k).1) ∧ y = .int .i64 (rot T zs m k).2 ∧ Below w.heap.size w wr) (fun _ _ i _ => m - (intOf i).toNat)
  case atStart => exact ⟨0, Nat.zero_le _, rfl, ho3, rfl, b3⟩
  case round =>
    obtain ⟨k, hk, rfl, hown, rfl, hW⟩ := hrel
    have HO := Lib.hid hown
    clear hown
    by_cases hlt : k < m
    · obtain ⟨S, hS⟩ : ∃ S, rot T zs m k = S := ⟨_, rfl⟩
      rw [hS] at HO ⊢
      have HS := Lib.hid hS
      clear hS
      have i1 : (0 : Int) ≤ (k : Int) := by omega
      have i2 : (k : Int) < (m : Int) := by omega
      obtain ⟨wo, rfl⟩ : ∃ wo, wo = wr := ⟨_, rfl⟩
      go_wp2_with fail
      go_loopw [7, 8, 10] (fun u y i wr => ∃ b : Nat, k + 1 ≤ b ∧ b ≤ m ∧ i = .int .i64 b ∧ wr.ownsRow w.heap.size 3 1 u m (ints (rin T zs m k S (b - (k + 1))).1) ∧ y = .int .i64 (rin T zs m k S (b - (k + 1))).2 ∧ Below w.heap.size w wr) (fun _ _ i _ => m - (intOf i).toNat)
      case atStart => exact ⟨k + 1, Nat.le_refl _, by omega, by go_num, by rw [Nat.sub_self]; exact HO.out, by rw [Nat.sub_self]; rfl, hW⟩
      case round =>
        obtain ⟨b, hb1, hb2, rfl, hown, rfl, hV⟩ := hrel
        have HO := Lib.hid hown
        clear hown
        by_cases hbt : b < m
        · have hst := rin_step (T := T) (zs := zs) (n := m) (s := S) hb1
          have h10 := swp_all H4.out (show k < zs.length by omega) (show b < zs.length by omega)
          have c1 := cstA_bd HC.out H4.out m (Nat.le_refl _) (by omega)
          have c2 := cstA_bd HC.out h10 m (Nat.le_refl _) (by rw [swpI_len]; omega)
          have hsv : rsv T zs m k b = cstA T zs m - cstA T (swpI zs k b) m := rfl
          obtain ⟨Q, hQ⟩ : ∃ Q, rin T zs m k S (b - (k + 1)) = Q := ⟨_, rfl⟩
          obtain ⟨Q1, Q2⟩ := Q
          rw [hQ] at hst HO ⊢
          dsimp only at hst HO ⊢
          obtain ⟨y1, e1⟩ : ∃ y, cstA T zs m = y := ⟨_, rfl⟩
          obtain ⟨y2, e2⟩ : ∃ y, cstA T (swpI zs k b) m = y := ⟨_, rfl⟩
          rw [e1, e2] at hsv
          rw [e1] at c1
          rw [e2] at c2
          rw [hsv] at hst
          have E1 := Lib.hid e1
          have E2 := Lib.hid e2
          have H10 := Lib.hid h10
          have j1 : (0 : Int) ≤ (b : Int) := by omega
          have j2 : (b : Int) < (m : Int) := by omega
          have hkb : k ≠ b := by omega
          have HKB := Lib.hid hkb
          have hwr : IntKind.i64.wrap (y1 - y2) = y1 - y2 := IntWalk.i64_in _ (by omega)
          clear hQ e1 e2 hsv h10 hkb
          by_cases hgt : Q2 < y1 - y2
          · rw [if_pos hgt] at hst
            have HST := Lib.hid hst
            clear hst
            go_wp2_with fail
            refine (swapped_any bb off _ _ k b zs _ (hx.below hV) hl hm (by omega) (by omega) HKB.out).mono ?_
            rintro e w5 ⟨v5, rfl, ho5, hb5⟩
            have b5 := bstep hV hb5
            have hk5 := own_below HO.out hb5
            have hw5 := own_weaken (base' := w.heap.size) ho5 hV.size
            obtain ⟨A5, c5, rfl, r5, _⟩ := own_rd ho5
            have HK5 := Lib.hid hk5
            have HW5 := Lib.hid hw5
            clear ho5 hk5 hw5
            go_wp2_with fail
            refine (cost_any _ _ _ _ _ _ T zs _ (hr.below b5) HC.out h6 (hx.below b5) hl (Nat.le_refl _) H4.out).mono ?_
            rintro e w6 ⟨rfl, hb6⟩
            rw [E1.out]
            have b6 := bstep b5 hb6
            go_wp2_with fail
            refine (cost_any _ _ _ _ _ _ T (swpI zs k b) _ (hr.below b6) HC.out h6 (r5.below hb6) (by rw [swpI_len]; exact hl) (Nat.le_refl _) H10.out).mono ?_
            rintro e w7 ⟨rfl, hb7⟩
            rw [E2.out]
            have b7 := bstep b6 hb7
            have ho7 := own_below (own_below HW5.out hb6) hb7
            have HO7 := Lib.hid ho7
            clear ho7 r5
            go_wp2
            go_roundw
            case rel => exact ⟨b + 1, by omega, by omega, by go_num, by rw [HST.out]; exact HO7.out, by rw [HST.out], b7⟩
            case measure => simp [intOf]; omega
          · rw [if_neg hgt] at hst
            have HST := Lib.hid hst
            clear hst
            go_wp2_with fail
            refine (swapped_any bb off _ _ k b zs _ (hx.below hV) hl hm (by omega) (by omega) HKB.out).mono ?_
            rintro e w5 ⟨v5, rfl, ho5, hb5⟩
            have b5 := bstep hV hb5
            have hk5 := own_below HO.out hb5
            have hw5 := own_weaken (base' := w.heap.size) ho5 hV.size
            obtain ⟨A5, c5, rfl, r5, _⟩ := own_rd ho5
            have HK5 := Lib.hid hk5
            have HW5 := Lib.hid hw5
            clear ho5 hk5 hw5
            go_wp2_with fail
            refine (cost_any _ _ _ _ _ _ T zs _ (hr.below b5) HC.out h6 (hx.below b5) hl (Nat.le_refl _) H4.out).mono ?_
            rintro e w6 ⟨rfl, hb6⟩
            rw [E1.out]
            have b6 := bstep b5 hb6
            go_wp2_with fail
            refine (cost_any _ _ _ _ _ _ T (swpI zs k b) _ (hr.below b6) HC.out h6 (r5.below hb6) (by rw [swpI_len]; exact hl) (Nat.le_refl _) H10.out).mono ?_
            rintro e w7 ⟨rfl, hb7⟩
            rw [E2.out]
            have b7 := bstep b6 hb7
            have ho7 := own_below (own_below HK5.out hb6) hb7
            have HO7 := Lib.hid ho7
            clear ho7 r5
            go_wp2
            go_roundw
            case rel => exact ⟨b + 1, by omega, by omega, by go_num, by rw [HST.out]; exact HO7.out, by rw [HST.out], b7⟩
            case measure => simp [intOf]; omega
        · have hbm : b = m := by omega
          subst hbm
          have hrs : rot T zs b (k + 1) = rin T zs b k S (b - (k + 1)) := by show rin T zs b k (rot T zs b k) _ = _; rw [HS.out]
          have HRS := Lib.hid hrs
          clear hrs
          go_wp2
          go_roundw
          case rel => exact ⟨k + 1, by omega, by go_num, by rw [HRS.out]; exact HO.out, by rw [HRS.out], hV⟩
          case measure => simp [intOf]; omega
    · have hkn : k = m := by omega
      subst hkn
      have hln := rot_len (T := T) hl k
      rw [HL2.out] at HO hln
      rw [HV2.out]
      go_wp2
      go_returns
      exact ⟨_, rfl, by rw [hln]; exact HO.out, hW⟩
end Go.Proofs.Ytallgjobljkgnaa
