/-
  CheapestAssignment of the reference. Conditions: lengths within the bound of a slice.
-/
import Derived.Test.YtallgjobljkgnaaCB
import Derived.Test.YtallgjobljkgnaaK8
namespace Go.Proofs.Ytallgjobljkgnaa
open Go.RowKit
set_option maxRecDepth 100000
set_option maxHeartbeats 4000000

theorem own_some1 {w : World} {base n : Nat} {t : TypeId} {v : Value} {xs : List Value} (h : w.ownsRow base t 1 v n xs) (hn : 0 < n) : ∃ b c, v = .slice (some ⟨b, 0, none⟩) n c := by
  rcases own_bk h with ⟨_, rfl⟩ | ⟨g, cap, cs, rfl, _⟩
  · omega
  · exact ⟨g, cap, rfl⟩
theorem own_apart {w w' : World} {base k n : Nat} {t : TypeId} {v : Value} {xs : List Value} {r : Option Nat} (h : w.ownsRow base t k v n xs) (hg : w.grownBy w' r) (hne : ∀ b, v.ownBlock = some b → some b ≠ r) : w'.ownsRow base t k v n xs :=
  h.kept hg (by
    cases hv : v.ownBlock with
    | none => exact .inl rfl
    | some b => exact .inr (hne b hv))
theorem own_two {w w2 : World} {base base2 k k2 n n2 : Nat} {t t2 : TypeId} {v v2 : Value} {xs xs2 : List Value} (h1 : w.ownsRow base t k v n xs) (h2 : w2.ownsRow base2 t2 k2 v2 n2 xs2) (hs : w.heap.size ≤ base2) : ∀ b, v.ownBlock = some b → some b ≠ v2.ownBlock := fun b e he => by
  have a1 := (h1.lt b e).2
  have a2 := (h2.lt b he.symm).1
  omega
theorem ints_snoc (zs : List Int) (x : Int) : ints (zs ++ [x]) = ints zs ++ [.int .i64 x] := by simp [ints]
theorem l16Best_is {T : List (List Int)} {n : Nat} (hT : ∀ i, i < n → (row T i).length = n ∧ (row T i).all cellP = true) (hn5 : n ≤ 5) (hn1 : 1 ≤ n) : ∀ (f : Nat) (zs : List Int), zs.length + f = n → zs.all (tskP n) = true →
    ∀ (A : Option Addr) (c base b m cz : Nat) (L : List Int) (v : Int), bst T n f zs = (L, v) → zs.length = m → ∀ (w : World), RdT w A n T → base ≤ w.heap.size → w.ownsRow base 3 1 (.slice (some ⟨b, 0, none⟩) m cz) m (ints zs) →
    Calls Try.prog 41 #[.slice A n c, .slice (some ⟨b, 0, none⟩) m cz] w fun e w' => ∃ b' c', e = .returned (.tuple #[.slice (some ⟨b', 0, none⟩) n c', .int .i64 v]) ∧ w'.ownsRow base 3 1 (.slice (some ⟨b', 0, none⟩) n c') n (ints L) ∧ Below w.heap.size w w'
  | 0, zs, hf, hz, A, c, base, b, m, cz, L, v, hres, hm, w, hr, hbs, hO => by
    obtain rfl : m = n := by omega
    have i1 : ((m : Int) == (m : Int)) = true := by simp
    have hx := own_r hO
    have hc := fun (W : World) (hW : Below w.heap.size w W) => l16Cost_any A (some ⟨b, 0, none⟩) m m c cz T zs W (hr.below hW) hT hn5 (hx.below hW) hm (Nat.le_refl _) hz
    have hr2 : zs = L ∧ cstA T zs m = v := by simpa [bst] using hres
    rw [hr2.2] at hc
    have HL := Lib.hid hr2.1
    clear hres hr2
    go_enter Try.func41, Try.ntmps41
    go_wp2_with (go_at_call 60; refine (hc _ (Below.refl _ _)).mono ?_; rintro e w' ⟨rfl, hb⟩)
    go_returns
    exact ⟨_, _, rfl, by rw [← HL.out]; exact own_below hO hb, hb⟩
  | f + 1, zs, hf, hz, A, c, base, b, m, cz, L, v, hres, hm, w, hr, hbs, hO => by
    obtain ⟨i0, hi0, hz0, hz1, hz2⟩ := info_parts (show (Try.prog.info? 3).map (fun i => (i.zero, i.size, i.bytes)) = some (some (.int .i64 0), 1, 8) from by kernel_rfl)
    have hmn : m < n := by omega
    have i1 : ((m : Int) == (n : Int)) = false := by simp; omega
    have i1' : (m == n) = false := by simp; omega
    have hx := own_r hO
    have hok := bst_ok hT (f + 1) zs hz hf
    rw [hres] at hok
    obtain ⟨hLn, -, -, -⟩ := hok
    have HL := Lib.hid hLn
    have HR := Lib.hid hres
    have HM := Lib.hid hm
    have HF := Lib.hid hf
    clear hres hLn hm hf
    go_enter Try.func41, Try.ntmps41
    go_wp2
    go_loopw [6, 7, 8] (fun u y i wr => ∃ k : Nat, k ≤ n ∧ i = .int .i64 k ∧ y = .int .i64 (bstL (bst T n f) zs k).2 ∧ wr.ownsRow base 3 1 u (bstL (bst T n f) zs k).1.length (ints (bstL (bst T n f) zs k).1) ∧ Below w.heap.size w wr) (fun _ _ i _ => n - (intOf i).toNat)
    case atStart => exact ⟨0, Nat.zero_le _, rfl, rfl, own_lit' rfl hbs, balloc (Below.refl _ _) _⟩
    case round =>
      obtain ⟨k, hk, rfl, rfl, hU, hW⟩ := hrel
      have HU := Lib.hid hU
      clear hU
      by_cases hlt : k < n
      · have i2 : decide ((k : Int) < (n : Int)) = true := decide_eq_true (by omega)
        have i2' : decide (k < n) = true := decide_eq_true hlt
        rcases hc : zs.contains (k : Int) with _ | _
        · have hst := bstL_no (rec := bst T n f) hc
          obtain ⟨⟨L2, v2⟩, hrec⟩ : ∃ r, bst T n f (zs ++ [(k : Int)]) = r := ⟨_, rfl⟩
          obtain ⟨⟨L1, v1⟩, hprev⟩ : ∃ r, bstL (bst T n f) zs k = r := ⟨_, rfl⟩
          rw [hrec, hprev] at hst
          rw [hprev] at HU ⊢
          dsimp only at hst HU ⊢
          have ih := fun base b m cz => l16Best_is hT hn5 hn1 f (zs ++ [(k : Int)]) (by have := HF.out; simp; omega) (all_snoc hz hlt) A c base b m cz L2 v2 hrec
          have hl2 := (bst_ok hT f (zs ++ [(k : Int)]) (all_snoc hz hlt) (by have := HF.out; simp; omega)).1
          rw [hrec] at hl2
          have HLL := Lib.hid hl2
          have HC := Lib.hid hc
          have HS := Lib.hid hst
          have hln : (zs ++ [(k : Int)]).length = m + 1 := by have := HM.out; simp; omega
          have HLN := Lib.hid hln
          clear hc hst hrec hprev hln hl2
          go_wp2_with fail
          refine (l1Has_is HC.out _ (hx.below hW) HM.out (by omega)).mono ?_
          rintro e w1 ⟨rfl, hb1⟩
          have b1 := bstep hW hb1
          go_wp2_with fail
          refine (l1Own_any b 0 m cz zs _ (hx.below b1) (by omega)).mono ?_
          rintro e w2 ⟨v2', rfl, ho2, hb2⟩
          have b2 := bstep b1 hb2
          have ho2w := own_weaken (base' := w.heap.size) ho2 b1.size
          have HU2 := own_below (own_below HU.out hb1) hb2
          have hap := own_two HU.out ho2 hb1.size
          have s2 := b2.size
          have HO2 := Lib.hid ho2
          clear ho2
          go_wp2_with (at_builtin; refine wpList_append_own _ rfl (.tmp 33) (.tmp 35) 24 rfl w.heap.size 3 i0 (.int .i64 0) 1 8 Try.underlying24 hi0 hz0 hz1 hz2 rfl (by decide) _ _ _ rfl (own_alloc ho2w _) ⟨_, 0, none⟩ 1 1 [.int .i64 (k : Int)] rfl rfl ?c1 ?c2 ?c3 ?c4 ?c5 ?_)
          case c1 => exact cell_one_new _ _ _
          case c2 => (first | rfl | (intro u hu; simp at hu; subst hu; rfl))
          case c3 => (unfold maxLen; omega)
          case c4 => omega
          case c5 => (simp; omega)
          intro v3 w3 hown3 hgr3 _
          have b3 := own_grownBy (own_alloc ho2w _) (balloc b2 _) hgr3 (Nat.le_refl _) (by simp; omega)
          have HU3 := Lib.hid (own_apart (own_alloc HU2 _) hgr3 hap)
          rw [← ints_snoc] at hown3
          obtain ⟨b3', c3, rfl⟩ := own_some1 hown3 (by omega)
          have hown3 := own_weaken (base' := base) hown3 hbs
          clear hap HU2 hgr3 ho2w
          go_wp2_with fail
          refine (ih base b3' (m + 1) c3 HLN.out w3 (hr.below b3) (Nat.le_trans hbs b3.size) hown3).mono ?_
          rintro e w4 ⟨b4', c4, rfl, ho4, hb4⟩
          have b4 := bstep b3 hb4
          have HU4 := Lib.hid (own_below HU3.out hb4)
          have HO4 := Lib.hid ho4
          clear ho4 hown3 HU3
          by_cases c1 : v1 < 0 ∨ v2 < v1
          · have hst := HS.out
            rw [if_pos c1] at hst
            have HS2 := Lib.hid hst
            clear hst
            by_cases c2 : v1 < 0
            · go_wp2
              go_roundw
              case rel => exact ⟨k + 1, by omega, by go_num, by rw [HS2.out], by rw [HS2.out, HLL.out]; exact HO4.out, b4⟩
              case measure => simp [intOf]; omega
            · have c3 : v2 < v1 := by omega
              go_wp2
              go_roundw
              case rel => exact ⟨k + 1, by omega, by go_num, by rw [HS2.out], by rw [HS2.out, HLL.out]; exact HO4.out, b4⟩
              case measure => simp [intOf]; omega
          · have hst := HS.out
            rw [if_neg c1] at hst
            have HS2 := Lib.hid hst
            clear hst
            have c2 : ¬ v1 < 0 := by omega
            have c3 : ¬ v2 < v1 := by omega
            go_wp2
            go_roundw
            case rel => exact ⟨k + 1, by omega, by go_num, by rw [HS2.out], by rw [HS2.out]; exact HU4.out, b4⟩
            case measure => simp [intOf]; omega
        · have hst := bstL_yes (rec := bst T n f) hc
          have HS := Lib.hid hst
          have HC := Lib.hid hc
          clear hst hc
          go_wp2_with fail
          refine (l1Has_is HC.out _ (hx.below hW) HM.out (by omega)).mono ?_
          rintro e w1 ⟨rfl, hb1⟩
          have b1 := bstep hW hb1
          have HU1 := Lib.hid (own_below HU.out hb1)
          go_wp2
          go_roundw
          case rel => exact ⟨k + 1, by omega, by go_num, by rw [HS.out], by rw [HS.out]; exact HU1.out, b1⟩
          case measure => simp [intOf]; omega
      · have i2 : decide ((k : Int) < (n : Int)) = false := decide_eq_false (by omega)
        have i2' : decide (k < n) = false := decide_eq_false hlt
        have hkn : k = n := by omega
        have hU := HU.out
        have e : bstL (bst T n f) zs k = (L, v) := by rw [hkn]; exact HR.out
        rw [e] at hU ⊢
        dsimp only at hU ⊢
        rw [HL.out] at hU
        obtain ⟨b', c', rfl⟩ := own_some1 hU (by omega)
        have HU2 := Lib.hid hU
        clear hU e hkn
        go_wp2
        go_returns
        exact ⟨_, _, rfl, HU2.out, hW⟩
theorem sCheapest_is {q : Bool} {L : List Int} {v : Int} {A : Option Addr} {n c : Nat} {T : List (List Int)} (hq : ctB T = q) (hR : caR T = (L, v)) (w : World) (hr : RdT w A n T) (hn : n ≤ 1048576) :
    Calls Try.prog 7 #[.slice A n c] w fun e w' => ∃ u, e = .returned (.tuple #[u, .int .i64 v, .bool q]) ∧ w'.ownsRow w.heap.size 3 1 u L.length (ints L) ∧ Below w.heap.size w w' := by
  have hl := hr.1
  rcases q with _ | _
  · have e := caR_no hq
    rw [e] at hR
    cases hR
    have HQ := Lib.hid hq
    clear hq e
    go_enter Try.func7, Try.ntmps7
    go_wp2_with (go_at_call 40; refine (l16Table_is HQ.out _ hr hn).mono ?_; rintro e w1 ⟨rfl, hb1⟩)
    go_returns
    exact ⟨_, rfl, own_lit' rfl hb1.size, balloc hb1 _⟩
  · have e := caR_yes hq
    rw [hR, hl] at e
    have hs := ct_sq hq hl
    have hT := ct_cells hq hl
    have hok := bst_ok hT n [] rfl (by simp)
    rw [← e] at hok
    have HL := Lib.hid hok.1
    have HE := Lib.hid e.symm
    have HQ := Lib.hid hq
    have hc := fun (W : World) b (hr : RdT W A n T) (hO : W.ownsRow w.heap.size 3 1 (.slice (some ⟨b, 0, none⟩) 0 0) 0 (ints [])) (hb : w.heap.size ≤ W.heap.size) => l16Best_is hT hs.1 hs.2.1 n [] (by simp) rfl A c w.heap.size b 0 0 L v HE.out rfl W hr hb hO
    clear hq e hok hR hl
    go_enter Try.func7, Try.ntmps7
    go_wp2_with fail
    refine (l16Table_is HQ.out _ hr hn).mono ?_
    rintro e w1 ⟨rfl, hb1⟩
    have s1 := hb1.size
    go_wp2_with fail
    refine (hc _ _ (hr.below (balloc hb1 _)) (own_lit' rfl s1) (by simp; omega)).mono ?_
    rintro e w2 ⟨b', c', rfl, hO, hb2⟩
    have b2 := bstep (balloc hb1 _) hb2
    go_wp2
    go_returns
    exact ⟨_, rfl, by rw [HL.out]; exact hO, b2⟩
end Go.Proofs.Ytallgjobljkgnaa
