/-
  CancelOrder of the program and of the reference. Conditions: lengths within the bound of a slice.
-/
import Derived.Test.YtaekngiejehooaaV
namespace Go.Proofs.Ytaekngiejehooaa
open Go.RowKit
set_option maxRecDepth 100000
set_option maxHeartbeats 2000000

theorem ids_grow {zs : List OrderT} {most : Int} (h : listedB zs most = true) {i : Nat} : ∀ j (hj : i + 1 + j < zs.length), zs[i].1 < zs[i + 1 + j].1
  | 0, hj => by
    have h1 := (listedB_iff.1 h).1 (i + 1) hj hj
    exact h1.2 (by omega)
  | j + 1, hj => by
    have h1 := (listedB_iff.1 h).1 (i + 1 + (j + 1)) hj hj
    have h2 := h1.2 (by omega)
    have h3 := ids_grow h (i := i) j (by omega)
    have e : zs[i + 1 + (j + 1) - 1]'(by omega) = zs[i + 1 + j] := rfl
    rw [e] at h2
    omega
theorem ids_inj {zs : List OrderT} {most : Int} (h : listedB zs most = true) {i j : Nat} (hi : i < zs.length) (hj : j < zs.length) (e : zs[i].1 = zs[j].1) : i = j := by
  rcases Nat.lt_trichotomy i j with h1 | h1 | h1
  · have := ids_grow h (i := i) (j - (i + 1)) (by omega)
    have e2 : zs[i + 1 + (j - (i + 1))]'(by omega) = zs[j] := by congr 1; omega
    rw [e2] at this; omega
  · exact h1
  · have := ids_grow h (i := j) (i - (j + 1)) (by omega)
    have e2 : zs[j + 1 + (i - (j + 1))]'(by omega) = zs[i] := by congr 1; omega
    rw [e2] at this; omega
def keepP (id : Int) (z : OrderT) : Bool := z.1 != id
noncomputable def canR (zs : List OrderT) (id : Int) : Bool := listedB zs 10 && !(zs.all (keepP id))
noncomputable def canL (zs : List OrderT) (id : Int) : List OrderT := if canR zs id = true then zs.filter (keepP id) else []
theorem can_no {zs : List OrderT} {id : Int} (h : canR zs id = false) : canL zs id = [] := by simp [canL, h]
theorem canL_len (zs : List OrderT) (id : Int) : (canL zs id).length ≤ zs.length := by
  unfold canL
  split
  · exact List.length_filter_le _ _
  · simp
theorem keep_all {zs : List OrderT} {id : Int} (h : ∀ j (hj : j < zs.length), zs[j].1 ≠ id) : zs.all (keepP id) = true := by
  rw [List.all_eq_true]
  intro x hx
  obtain ⟨j, hj, rfl⟩ := List.getElem_of_mem hx
  simpa [keepP] using h j hj
theorem keep_filter {zs : List OrderT} {id : Int} (h : ∀ j (hj : j < zs.length), zs[j].1 ≠ id) : zs.filter (keepP id) = zs := List.filter_eq_self.2 (List.all_eq_true.1 (keep_all h))
theorem can_at {zs : List OrderT} {id : Int} {k : Nat} (h : listedB zs 10 = true) (hk : k < zs.length) (e : zs[k].1 = id) : canR zs id = true ∧ canL zs id = zs.take k ++ zs.drop (k + 1) := by
  have h1 : zs.all (keepP id) = false := by
    rw [List.all_eq_false]
    exact ⟨zs[k], List.getElem_mem _, by simp [keepP, e]⟩
  have h2 : canR zs id = true := by simp [canR, h, h1]
  refine ⟨h2, ?_⟩
  have e1 : zs = zs.take k ++ (zs[k] :: zs.drop (k + 1)) := by rw [← List.drop_eq_getElem_cons hk, List.take_append_drop]
  simp only [canL, h2, if_true]
  conv => lhs; rw [e1]
  rw [List.filter_append, List.filter_cons]
  have e2 : keepP id zs[k] = false := by simp [keepP, e]
  rw [e2, keep_filter (zs := zs.take k), keep_filter (zs := zs.drop (k + 1))]
  · simp
  · intro j hj he
    rw [List.getElem_drop] at he
    have := ids_inj h (i := k + 1 + j) (j := k) (by rw [List.length_drop] at hj; omega) hk (by rw [he, e])
    omega
  · intro j hj he
    rw [List.getElem_take] at he
    have hj2 : j < k := by rw [List.length_take] at hj; omega
    have := ids_inj h (i := j) (j := k) (by omega) hk (by rw [he, e])
    omega
theorem can_clo (x0 : Int) (x1 : ByteArray) (x2 x3 x4 id : Int) (bx : Nat) (w : World) (hc : w.cell? ⟨bx, 0, none⟩ = some (.int .i64 id)) (hb : bx < w.heap.size) :
    Calls Try.prog 51 #[.agg #[.int .i64 x0, .string x1, .int .i64 x2, .int .i64 x3, .int .i64 x4], .pointer (some ⟨bx, 0, none⟩)] w fun e w' => e = .returned (.bool (x0 != id)) ∧ Below w.heap.size w w' := by
  go_enter Try.func51, Try.ntmps51
  go_wp2
  go_returns
  exact ⟨rfl, by (repeat' (first | (with_reducible exact Below.refl _ _) | (with_reducible assumption) | (with_reducible refine balloc ?_ _) | (with_reducible refine bdrew ?_) | (with_reducible refine bdrewN ?_ _) | (with_reducible refine bstep ?_ (by assumption)) | (with_reducible refine bset ?_ ?_ _) | (exact Below.size (by assumption)) | go_size))⟩
/-- a slice of the first elements of a row whose block is known, and of those behind them -/
theorem Bk.rd_take {w : World} {g n k : Nat} {t : TypeId} {zs : List OrderT} (h : Bk w g t (ordF zs)) (hl : zs.length = n) (hk : k ≤ n) : Rd w 5 (some ⟨g, 0, none⟩) k (ordF (zs.take k)) := by
  refine ⟨by rw [ordF_len, List.length_take, hl, Nat.min_eq_left hk], fun hk0 => ⟨g, 0, rfl, h.lt, fun j u hu => ?_⟩⟩
  rw [Nat.zero_add, h.cell]
  have e : ordF zs = ordF (zs.take k) ++ ordF (zs.drop k) := by
    show zs.flatMap ordE = (zs.take k).flatMap ordE ++ (zs.drop k).flatMap ordE
    rw [← List.flatMap_append, List.take_append_drop]
  rw [e, List.getElem?_append_left (List.getElem?_eq_some_iff.1 hu).1, hu]
theorem Bk.rd_drop {w : World} {g n k : Nat} {t : TypeId} {zs : List OrderT} (h : Bk w g t (ordF zs)) (hl : zs.length = n) (hk : k ≤ n) (off : Nat) (ho : k < n → off = k * 5) : Rd w 5 (some ⟨g, off, none⟩) (n - k) (ordF (zs.drop k)) := by
  refine ⟨by rw [ordF_len, List.length_drop, hl], fun hk0 => ⟨g, off, rfl, h.lt, fun j u hu => ?_⟩⟩
  rw [ho (by omega), h.cell]
  have e : ordF zs = ordF (zs.take k) ++ ordF (zs.drop k) := by
    show zs.flatMap ordE = (zs.take k).flatMap ordE ++ (zs.drop k).flatMap ordE
    rw [← List.flatMap_append, List.take_append_drop]
  have hL : (ordF (zs.take k)).length = k * 5 := by rw [ordF_len, List.length_take, hl, Nat.min_eq_left hk]
  rw [e, List.getElem?_append_right (by omega), hL, show k * 5 + j - k * 5 = j from by omega, hu]
theorem i64_wrap {x : Int} (h1 : -9223372036854775808 ≤ x) (h2 : x ≤ 9223372036854775807) : IntKind.i64.wrap x = x := by
  unfold IntKind.wrap; simp [IntKind.bits, IntKind.signed]; omega
theorem CancelOrder_is {q : Bool} {L : List OrderT} {A : Option Addr} {n c : Nat} {zs : List OrderT} {id : Int} (hq : canR zs id = q) (hL : canL zs id = L) (w : World) (hr : Rd w 5 A n (ordF zs)) (hl : zs.length = n) (hn : n ≤ 1048577) (hz9 : ∀ z ∈ zs, z.2.1.size ≤ maxLen) :
    Calls Try.prog 21 #[.slice A n c, .int .i64 id] w fun e w' => ∃ v, e = .returned (.tuple #[v, .bool q]) ∧ w'.ownsRow w.heap.size 46 5 v L.length (ordF L) ∧ Below w.heap.size w w' := by
  have HQ := Lib.hid hq
  have HL := Lib.hid hL
  clear hq hL
  go_enter Try.func21, Try.ntmps21
  go_upto_region 1 with fail
  refine wp_gen (fun w0 => Bk w0 w.heap.size 3 [.int .i64 id] ∧ Below w.heap.size w w0) ⟨Bk.new' rfl, by (repeat' (first | (with_reducible exact Below.refl _ _) | (with_reducible assumption) | (with_reducible refine balloc ?_ _) | (with_reducible refine bdrew ?_) | (with_reducible refine bdrewN ?_ _) | (with_reducible refine bstep ?_ (by assumption)) | (with_reducible refine bset ?_ ?_ _) | (exact Below.size (by assumption)) | go_size))⟩ ?_
  intro w0 ⟨hX, hW⟩
  have hxl := hX.lt
  go_wp2_with fail
  refine (filt_ord A n c zs (keepP id) w.heap.size _ (hr.below hW) hl hn (fun x0 x1 x2 x3 x4 v W hm hv hb => by
    have h1 := can_clo x0 x1 x2 x3 x4 id w.heap.size W ((hX.below hb hX.lt).cell 0) (hX.below hb hX.lt).lt
    rw [← hv]; exact h1)).mono ?_
  rintro e w1 ⟨v, rfl, hown, hb1⟩
  have hown := own_weaken (base' := w.heap.size) hown hW.size
  have b1 := bstep hW hb1
  obtain ⟨A1, c1, rfl, hr1, _⟩ := own_rd hown
  obtain ⟨m, hm⟩ : ∃ m, (zs.filter (keepP id)).length = m := ⟨_, rfl⟩
  have hml : m ≤ n := by rw [← hm, ← hl]; exact List.length_filter_le _ _
  rw [hm] at hown
  have HM := Lib.hid hm
  have HO := Lib.hid hown
  rw [hm]
  clear hm hown hr1
  rcases hv : listedB zs 10 with _ | _
  · have e1 : canR zs id = false := by simp [canR, hv]
    obtain rfl := e1.symm.trans HQ.out
    obtain rfl := (can_no e1).symm.trans HL.out
    clear e1
    go_wp2_with fail
    refine (AreOrders_of hv _ (hr.below b1) hl (by omega) hz9).mono ?_
    rintro e w2 ⟨rfl, hb2⟩
    go_wp2
    go_returns
    exact ⟨_, rfl, World.ownsRow_nil _ _ _ _, bstep b1 hb2⟩
  · by_cases hmn : m = n
    · have h9 : zs.all (keepP id) = true := by
        rw [List.all_eq_true]
        exact List.length_filter_eq_length_iff.1 (by rw [HM.out, hmn, hl])
      have e1 : canR zs id = false := by simp [canR, h9]
      obtain rfl := e1.symm.trans HQ.out
      obtain rfl := (can_no e1).symm.trans HL.out
      clear e1 h9
      subst hmn
      go_wp2_with fail
      refine (AreOrders_of hv _ (hr.below b1) hl (by omega) hz9).mono ?_
      rintro e w2 ⟨rfl, hb2⟩
      go_wp2
      go_returns
      exact ⟨_, rfl, World.ownsRow_nil _ _ _ _, bstep b1 hb2⟩
    · have h9 : zs.all (keepP id) = false := by
        rw [← Bool.not_eq_true, List.all_eq_true]
        intro h
        have := List.length_filter_eq_length_iff.2 h
        rw [HM.out] at this
        omega
      have e1 : canR zs id = true := by simp [canR, hv, h9]
      have e2 : canL zs id = zs.filter (keepP id) := by simp [canL, e1]
      obtain rfl := e1.symm.trans HQ.out
      obtain rfl := e2.symm.trans HL.out
      have hd : ((m : Int) == (n : Int)) = false := by simp; omega
      clear e1 e2 h9
      go_wp2_with fail
      refine (AreOrders_of hv _ (hr.below b1) hl (by omega) hz9).mono ?_
      rintro e w2 ⟨rfl, hb2⟩
      go_wp2
      go_returns
      exact ⟨_, rfl, by rw [HM.out]; exact own_below HO.out hb2, bstep b1 hb2⟩
theorem sCancelOrder_is {q : Bool} {L : List OrderT} {g n : Nat} {t : TypeId} {zs : List OrderT} {id : Int} (hq : canR zs id = q) (hL : canL zs id = L) (w : World) (hB : Bk w g t (ordF zs)) (hl : zs.length = n) (hn : n ≤ 1048577) (hz9 : ∀ z ∈ zs, z.2.1.size ≤ maxLen) :
    Calls Try.prog 20 #[.slice (some ⟨g, 0, none⟩) n n, .int .i64 id] w fun e w' => ∃ v, e = .returned (.tuple #[v, .bool q]) ∧ w'.ownsRow w.heap.size 46 5 v L.length (ordF L) ∧ Below w.heap.size w w' := by
  have HQ := Lib.hid hq
  have HL := Lib.hid hL
  clear hq hL
  have hr := ord_rd hB hl
  obtain ⟨i0, hi0, hz0, hz1, hz2⟩ := infoO
  go_enter Try.func20, Try.ntmps20
  rcases hv : listedB zs 10 with _ | _
  · have e1 : canR zs id = false := by simp [canR, hv]
    obtain rfl := e1.symm.trans HQ.out
    obtain rfl := (can_no e1).symm.trans HL.out
    clear e1
    go_wp2_with fail
    refine (l15Good_of hv _ hr hl (by omega) hz9).mono ?_
    rintro e w2 ⟨rfl, hb2⟩
    go_wp2
    go_returns
    exact ⟨_, rfl, own_lit' rfl hb2.size, by (repeat' (first | (with_reducible exact Below.refl _ _) | (with_reducible assumption) | (with_reducible refine balloc ?_ _) | (with_reducible refine bdrew ?_) | (with_reducible refine bdrewN ?_ _) | (with_reducible refine bstep ?_ (by assumption)) | (with_reducible refine bset ?_ ?_ _) | (exact Below.size (by assumption)) | go_size))⟩
  · go_wp2_with fail
    refine (l15Good_of hv _ hr hl (by omega) hz9).mono ?_
    rintro e w2 ⟨rfl, hb2⟩
    have hB2 := hB.below hb2 hB.lt
    have HV := Lib.hid hv
    clear hv
    go_wp2_with fail
    go_loop [6] (fun i => ∃ k : Nat, k ≤ n ∧ i = .int .i64 k ∧ Hid (∀ j (hj : j < zs.length), j < k → zs[j].1 ≠ id)) (fun i => n - (intOf i).toNat)
    case atStart => exact ⟨0, Nat.zero_le _, rfl, fun j _ hj => absurd hj (Nat.not_lt_zero _)⟩
    case round =>
      obtain ⟨k, hk, rfl, hO⟩ := hrel
      by_cases hlt : k < n
      · obtain ⟨b, off, hbe, hbl, x0, x1, x2, x3, x4, hz, c0, c1, c2, c3, c4⟩ := ord_at hr hb2 hl hlt
        simp only [Option.some.injEq, Addr.mk.injEq, and_true] at hbe
        obtain ⟨rfl, rfl⟩ := hbe
        simp only [Nat.zero_add] at c0 c1 c2 c3 c4
        have hk2 : k < zs.length := by omega
        have s1 : g < w2.heap.size := hB2.lt
        have i3 : (k : Int) < (n : Int) := by omega
        have i4 : (0 : Int) ≤ (k : Int) := by omega
        by_cases he : x0 = id
        · obtain ⟨e1, e2⟩ := can_at (id := id) (k := k) HV.out hk2 (by rw [hz]; exact he)
          obtain rfl := e1.symm.trans HQ.out
          obtain rfl := e2.symm.trans HL.out
          clear e1 e2 hz
          subst he
          have r1 : Rd w 5 (some ⟨g, 0, none⟩) k (ordF (zs.take k)) := hB.rd_take hl (by omega)
          clear c1 c2 c3 c4
          have r2 := hB.rd_drop hl (k := k + 1) (by omega) ((k + 1) * 5) (fun _ => rfl)
          have e9 : (zs.take k ++ zs.drop (k + 1)).length = k + (n - (k + 1)) := by rw [List.length_append, List.length_take, List.length_drop]; omega
          have e8 : ordF (zs.take k ++ zs.drop (k + 1)) = ordF (zs.take k) ++ ordF (zs.drop (k + 1)) := by simp [ordF]
          have E9 := Lib.hid e9
          have E8 := Lib.hid e8
          clear e9 e8 hO hz9 hr hB2 hB
          have hwr : IntKind.i64.wrap ((k : Int) + 1) = (k : Int) + 1 := i64_wrap (by omega) (by omega)
          have i6 : (0 : Int) ≤ (k : Int) + 1 := by omega
          by_cases hlast : n = k + 1
          · subst hlast
            have e7 : zs.drop (k + 1) = [] := List.drop_of_length_le (by omega)
            have E7 := Lib.hid e7
            clear e7 r2 i3
            have i7 : (k : Int) ≤ (k : Int) + 1 := by omega
            go_wp2_with fail
            go_region_law (first
              | (refine step_append_lit (by rfl) (.tmp 24) (.tmp 27) 32 (by rfl) w.heap.size 46 i0 _ 5 48 Try.underlying32 hi0 hz0 hz1 hz2 (by rfl) (by decide) (by rfl) (by first | exact own_drew (own_lit' rfl hb2.size) | exact own_drew (own_alloc (own_lit' rfl hb2.size) _) | exact own_lit' rfl hb2.size) ⟨g, 0, none⟩ k (k + 1) (ordF (zs.take k)) (by rfl) (r1.below (show Below w.heap.size w _ from by (repeat' (first | (with_reducible exact Below.refl _ _) | (with_reducible assumption) | (with_reducible refine balloc ?_ _) | (with_reducible refine bdrew ?_) | (with_reducible refine bdrewN ?_ _) | (with_reducible refine bstep ?_ (by assumption)) | (with_reducible refine bset ?_ ?_ _) | (exact Below.size (by assumption)) | go_size)))) (ord_one _) (by unfold maxLen; omega) (by omega) (by have := hb2.size; simp; omega) ?_; intro v1 w3 hown1 hgr1; have b3 : Below w.heap.size w w3 := Below.grown (show Below w.heap.size w _ from by (repeat' (first | (with_reducible exact Below.refl _ _) | (with_reducible assumption) | (with_reducible refine balloc ?_ _) | (with_reducible refine bdrew ?_) | (with_reducible refine bdrewN ?_ _) | (with_reducible refine bstep ?_ (by assumption)) | (with_reducible refine bset ?_ ?_ _) | (exact Below.size (by assumption)) | go_size))) hgr1 (by have := hb2.size; simp; omega) (fun k e => by cases e; have := hb2.size; first | omega | (simp; omega) | (simp; done)))
              | (refine step_append_rd (by rfl) (.tmp 28) (.tmp 32) 32 (by rfl) w.heap.size 46 i0 _ 5 48 Try.underlying32 hi0 hz0 hz1 hz2 (by rfl) (by decide) v1 k (ordF (zs.take k)) (by rfl) (by first | exact hown1 | exact own_drew hown1 | exact own_alloc hown1 _ | exact own_drew (own_alloc hown1 _)) ⟨g, 0, none⟩ 0 0 [] (by rfl) Rd.nil_ (by simp) (by unfold maxLen; omega) (by omega) (by have := b3.size; first | omega | (simp; omega)) ?_; intro v2 w4 hown2 hgr2; have b4 : Below w.heap.size w w4 := own_grownBy (by first | exact hown1 | exact own_drew hown1 | exact own_alloc hown1 _ | exact own_drew (own_alloc hown1 _)) (show Below w.heap.size w _ from by (repeat' (first | (with_reducible exact Below.refl _ _) | (with_reducible assumption) | (with_reducible refine balloc ?_ _) | (with_reducible refine bdrew ?_) | (with_reducible refine bdrewN ?_ _) | (with_reducible refine bstep ?_ (by assumption)) | (with_reducible refine bset ?_ ?_ _) | (exact Below.size (by assumption)) | go_size))) hgr2 (Nat.le_refl _) (by have := b3.size; first | omega | (simp; omega))))
            all_goals (go_wp2_with fail; go_returns; exact ⟨_, rfl, by rw [E9.out, E8.out, E7.out, Nat.sub_self]; exact hown2, b4⟩)
          · have i5 : ((k : Int) + 1) ≤ (n : Int) := by omega
            go_wp2_with fail
            go_region_law (first
              | (refine step_append_lit (by rfl) (.tmp 24) (.tmp 27) 32 (by rfl) w.heap.size 46 i0 _ 5 48 Try.underlying32 hi0 hz0 hz1 hz2 (by rfl) (by decide) (by rfl) (by first | exact own_drew (own_lit' rfl hb2.size) | exact own_drew (own_alloc (own_lit' rfl hb2.size) _) | exact own_lit' rfl hb2.size) ⟨g, 0, none⟩ k n (ordF (zs.take k)) (by rfl) (r1.below (show Below w.heap.size w _ from by (repeat' (first | (with_reducible exact Below.refl _ _) | (with_reducible assumption) | (with_reducible refine balloc ?_ _) | (with_reducible refine bdrew ?_) | (with_reducible refine bdrewN ?_ _) | (with_reducible refine bstep ?_ (by assumption)) | (with_reducible refine bset ?_ ?_ _) | (exact Below.size (by assumption)) | go_size)))) (ord_one _) (by unfold maxLen; omega) (by omega) (by have := hb2.size; simp; omega) ?_; intro v1 w3 hown1 hgr1; have b3 : Below w.heap.size w w3 := Below.grown (show Below w.heap.size w _ from by (repeat' (first | (with_reducible exact Below.refl _ _) | (with_reducible assumption) | (with_reducible refine balloc ?_ _) | (with_reducible refine bdrew ?_) | (with_reducible refine bdrewN ?_ _) | (with_reducible refine bstep ?_ (by assumption)) | (with_reducible refine bset ?_ ?_ _) | (exact Below.size (by assumption)) | go_size))) hgr1 (by have := hb2.size; simp; omega) (fun k e => by cases e; have := hb2.size; first | omega | (simp; omega) | (simp; done)))
              | (refine step_append_rd (by rfl) (.tmp 28) (.tmp 32) 32 (by rfl) w.heap.size 46 i0 _ 5 48 Try.underlying32 hi0 hz0 hz1 hz2 (by rfl) (by decide) v1 k (ordF (zs.take k)) (by rfl) (by first | exact hown1 | exact own_drew hown1 | exact own_alloc hown1 _ | exact own_drew (own_alloc hown1 _)) _ (n - (k + 1)) (n - (k + 1)) (ordF (zs.drop (k + 1))) (by rfl) (r2.below (show Below w.heap.size w _ from by (repeat' (first | (with_reducible exact Below.refl _ _) | (with_reducible assumption) | (with_reducible refine balloc ?_ _) | (with_reducible refine bdrew ?_) | (with_reducible refine bdrewN ?_ _) | (with_reducible refine bstep ?_ (by assumption)) | (with_reducible refine bset ?_ ?_ _) | (exact Below.size (by assumption)) | go_size)))) (ord_one _) (by unfold maxLen; omega) (by omega) (by have := b3.size; first | omega | (simp; omega)) ?_; intro v2 w4 hown2 hgr2; have b4 : Below w.heap.size w w4 := own_grownBy (by first | exact hown1 | exact own_drew hown1 | exact own_alloc hown1 _ | exact own_drew (own_alloc hown1 _)) (show Below w.heap.size w _ from by (repeat' (first | (with_reducible exact Below.refl _ _) | (with_reducible assumption) | (with_reducible refine balloc ?_ _) | (with_reducible refine bdrew ?_) | (with_reducible refine bdrewN ?_ _) | (with_reducible refine bstep ?_ (by assumption)) | (with_reducible refine bset ?_ ?_ _) | (exact Below.size (by assumption)) | go_size))) hgr2 (Nat.le_refl _) (by have := b3.size; first | omega | (simp; omega))))
            all_goals (go_wp2_with fail; go_returns; exact ⟨_, rfl, by rw [E9.out, E8.out]; exact hown2, b4⟩)
        · have hd : (x0 == id) = false := by simp [he]
          have hN : Hid (∀ j (hj : j < zs.length), j < k + 1 → zs[j].1 ≠ id) := by
            intro j hj hjk
            by_cases h2 : j < k
            · exact hO.out j hj h2
            · have h3 : j = k := by omega
              subst h3
              rw [hz]; exact he
          clear hz
          go_wp2
          go_round
          case rel => exact ⟨k + 1, by omega, by go_num, hN⟩
          case measure => simp [intOf]; omega
      · have hkn : k = n := by omega
        have h9 := keep_all (zs := zs) (id := id) (fun j hj => hO.out j hj (by omega))
        have e1 : canR zs id = false := by simp [canR, h9]
        obtain rfl := e1.symm.trans HQ.out
        obtain rfl := (can_no e1).symm.trans HL.out
        clear e1 h9
        go_wp2
        go_returns
        exact ⟨_, rfl, own_lit' rfl hb2.size, by (repeat' (first | (with_reducible exact Below.refl _ _) | (with_reducible assumption) | (with_reducible refine balloc ?_ _) | (with_reducible refine bdrew ?_) | (with_reducible refine bdrewN ?_ _) | (with_reducible refine bstep ?_ (by assumption)) | (with_reducible refine bset ?_ ?_ _) | (exact Below.size (by assumption)) | go_size))⟩
end Go.Proofs.Ytaekngiejehooaa
