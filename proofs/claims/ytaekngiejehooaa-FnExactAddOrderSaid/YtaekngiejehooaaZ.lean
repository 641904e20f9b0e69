/-
  RaiseOrders of the reference and of the program. Conditions: lengths within the bound of a slice.
-/
import Derived.Test.YtaekngiejehooaaX
namespace Go.Proofs.Ytaekngiejehooaa
open Go.RowKit
set_option maxRecDepth 100000
set_option maxHeartbeats 2000000

def rz (tick wait : Int) (z : OrderT) : OrderT := if z.2.2.2.1 < 5 ∧ z.2.2.2.2 + wait ≤ tick then (z.1, z.2.1, z.2.2.1, z.2.2.2.1 + 1, z.2.2.2.2) else z
noncomputable def raiR (zs : List OrderT) (tick wait : Int) : Bool := listedB zs 10 && (inB tick 0 9999 && inB wait 1 9999)
noncomputable def raiL (zs : List OrderT) (tick wait : Int) : List OrderT := if raiR zs tick wait = true then zs.map (rz tick wait) else []
theorem rai_no {zs : List OrderT} {tick wait : Int} (h : raiR zs tick wait = false) : raiL zs tick wait = [] := by simp [raiL, h]
theorem raiL_len (zs : List OrderT) (tick wait : Int) : (raiL zs tick wait).length ≤ zs.length := by
  unfold raiL
  split <;> simp
theorem rz_yes {tick wait x0 : Int} {x1 : ByteArray} {x2 x3 x4 : Int} (h1 : x3 < 5) (h2 : x4 + wait ≤ tick) : rz tick wait (x0, x1, x2, x3, x4) = (x0, x1, x2, x3 + 1, x4) := by
  unfold rz; rw [if_pos ⟨h1, h2⟩]
theorem rz_no {tick wait x0 : Int} {x1 : ByteArray} {x2 x3 x4 : Int} (h : ¬ (x3 < 5 ∧ x4 + wait ≤ tick)) : rz tick wait (x0, x1, x2, x3, x4) = (x0, x1, x2, x3, x4) := by
  unfold rz; rw [if_neg h]
theorem ord_bd {zs : List OrderT} {most : Int} (h : listedB zs most = true) {k : Nat} (hk : k < zs.length) {x0 : Int} {x1 : ByteArray} {x2 x3 x4 : Int} (hx : zs[k] = (x0, x1, x2, x3, x4)) : (1 ≤ x3 ∧ x3 ≤ 5) ∧ (0 ≤ x4 ∧ x4 ≤ 9999) := by
  have h1 := ((listedB_iff.1 h).1 k hk hk).1
  rw [hx] at h1
  simp only [okP, ordB, Bool.and_eq_true] at h1
  exact ⟨inB_iff.1 h1.2.2.2.1, inB_iff.1 h1.2.2.2.2⟩
theorem isTick_of {x : Int} (v : Bool) (h : inB x 0 9999 = v) (w : World) : Calls Try.prog 55 #[.int .i64 x] w fun e w' => e = .returned (.bool v) ∧ w = w' := by rw [← h]; exact isTick_any x w
theorem l4Tick_of {x : Int} (v : Bool) (h : inB x 0 9999 = v) (w : World) : Calls Try.prog 53 #[.int .i64 x] w fun e w' => e = .returned (.bool v) ∧ w = w' := by rw [← h]; exact l4Tick_any x w
theorem l1In_of {n lo hi : Int} (v : Bool) (h : inB n lo hi = v) (w : World) : Calls Try.prog 54 #[.int .i64 n, .int .i64 lo, .int .i64 hi] w fun e w' => e = .returned (.bool v) ∧ w = w' := by rw [← h]; exact l1In_any n lo hi w
theorem in_of {n lo hi : Int} (v : Bool) (h : inB n lo hi = v) (w : World) : Calls Try.prog 43 #[.int .i64 n, .int .i64 lo, .int .i64 hi] w fun e w' => e = .returned (.bool v) ∧ w = w' := by rw [← h]; exact in_any n lo hi w
theorem own_set {w : World} {base k n : Nat} {t : TypeId} {v : Value} {xs : List Value} (h : w.ownsRow base t k v n xs) (p : Addr) (u : Value) (hne : ∀ b, v.ownBlock = some b → b ≠ p.block) : (w.setCell p u).ownsRow base t k v n xs :=
  h.kept (onlySet w p u) (by
    cases hv : v.ownBlock with
    | none => exact .inl rfl
    | some b => exact .inr (fun e => hne b hv (by injection e)))
theorem map_snoc {zs : List OrderT} {f : OrderT → OrderT} {k : Nat} {x : OrderT} (hk : k < zs.length) (hx : zs[k] = x) : (zs.take (k + 1)).map f = (zs.take k).map f ++ [f x] := by
  rw [List.take_succ_eq_append_getElem hk, List.map_append, hx]; rfl
/-- the list whose first k are raised -/
def rk (tick wait : Int) (zs : List OrderT) (k : Nat) : List OrderT := (zs.take k).map (rz tick wait) ++ zs.drop k
theorem rk_len (tick wait : Int) (zs : List OrderT) (k : Nat) : (rk tick wait zs k).length = zs.length := by simp [rk]; omega
theorem rk_zero (tick wait : Int) (zs : List OrderT) : rk tick wait zs 0 = zs := by simp [rk]
theorem rk_at {tick wait : Int} {zs : List OrderT} {x : OrderT} {k : Nat} (hk : k < zs.length) (hx : zs[k] = x) : rk tick wait zs k = (zs.take k).map (rz tick wait) ++ (x :: zs.drop (k + 1)) := by
  unfold rk; rw [List.drop_eq_getElem_cons hk, hx]
theorem rk_next {tick wait : Int} {zs : List OrderT} {x : OrderT} {k : Nat} (hk : k < zs.length) (hx : zs[k] = x) : rk tick wait zs (k + 1) = (zs.take k).map (rz tick wait) ++ (rz tick wait x :: zs.drop (k + 1)) := by
  unfold rk; rw [map_snoc hk hx]; simp
theorem rk_same {tick wait : Int} {zs : List OrderT} {x : OrderT} {k : Nat} (hk : k < zs.length) (hx : zs[k] = x) (h : rz tick wait x = x) : rk tick wait zs (k + 1) = rk tick wait zs k := by
  rw [rk_at hk hx, rk_next hk hx, h]
theorem rk_get {tick wait : Int} {zs : List OrderT} {x : OrderT} {k : Nat} (hk : k < zs.length) (hx : zs[k] = x) : (rk tick wait zs k)[k]'(by rw [rk_len]; exact hk) = x := by
  have hL : ((zs.take k).map (rz tick wait)).length = k := by simp; omega
  have h2 : (rk tick wait zs k)[k]? = some x := by
    rw [rk_at hk hx, List.getElem?_append_right (by omega), hL, Nat.sub_self]; rfl
  rw [List.getElem?_eq_getElem (by rw [rk_len]; exact hk)] at h2
  exact Option.some.inj h2
theorem rk_row {tick wait : Int} {zs : List OrderT} {x0 : Int} {x1 : ByteArray} {x2 x3 x4 : Int} {k : Nat} {rest : List Value} (hk : k < zs.length) (hx : zs[k] = (x0, x1, x2, x3, x4)) (h1 : x3 < 5) (h2 : x4 + wait ≤ tick) :
    (ordF (rk tick wait zs k) ++ rest).set (k * 5 + 3) (.int .i64 (x3 + 1)) = ordF (rk tick wait zs (k + 1)) ++ rest := by
  rw [rk_at hk hx, rk_next hk hx, rz_yes h1 h2]
  have hL : (ordF ((zs.take k).map (rz tick wait))).length = k * 5 := by rw [ordF_len]; simp; omega
  have e1 : ∀ y : OrderT, ∀ l1 l2 : List OrderT, ordF (l1 ++ (y :: l2)) ++ rest = ordF l1 ++ (ordE y ++ (ordF l2 ++ rest)) := fun y l1 l2 => by simp [ordF]
  rw [e1, e1, List.set_append_right _ _ (by omega), hL, Nat.add_sub_cancel_left]
  rfl
/-- an element of a row whose block is known -/
theorem ord_row {w : World} {g : Nat} {t : TypeId} {ys : List OrderT} {rest : List Value} (hB : Bk w g t (ordF ys ++ rest)) {k : Nat} (hk : k < ys.length) {x0 : Int} {x1 : ByteArray} {x2 x3 x4 : Int} (hx : ys[k] = (x0, x1, x2, x3, x4)) :
    w.cell? ⟨g, k * 5, none⟩ = some (.int .i64 x0) ∧ w.cell? ⟨g, k * 5 + 1, none⟩ = some (.string x1) ∧ w.cell? ⟨g, k * 5 + 2, none⟩ = some (.int .i64 x2) ∧ w.cell? ⟨g, k * 5 + 3, none⟩ = some (.int .i64 x3) ∧ w.cell? ⟨g, k * 5 + 4, none⟩ = some (.int .i64 x4) := by
  have hg : ∀ j, j < 5 → w.cell? ⟨g, k * 5 + j, none⟩ = (ordE (x0, x1, x2, x3, x4))[j]? := fun j hj => by
    rw [hB.cell, List.getElem?_append_left (by rw [ordF_len]; omega)]
    rw [← hx]; exact flat_get ordE_len ys k j hk hj
  exact ⟨hg 0 (by omega), hg 1 (by omega), hg 2 (by omega), hg 3 (by omega), hg 4 (by omega)⟩
theorem row_own {w : World} {g n cap base : Nat} {t : TypeId} {ys : List OrderT} {rest : List Value} (hB : Bk w g t (ordF ys ++ rest)) (hb : base ≤ g) (hy : ys.length = n) (h1 : n ≤ cap) (h2 : cap ≤ maxLen) (h3 : (ordF ys ++ rest).length = cap * 5) : w.ownsRow base t 5 (.slice (some ⟨g, 0, none⟩) n cap) n (ordF ys) :=
  bk_own hb hB h1 h2 h3 (by rw [List.take_append_of_le_length (by rw [ordF_len, hy]; exact Nat.le_refl _)]; exact List.take_of_length_le (by rw [ordF_len, hy]; exact Nat.le_refl _))
theorem copyOrd_any (g n c : Nat) (t : TypeId) (zs : List OrderT) (w : World) (hB : Bk w g t (ordF zs)) (hl : zs.length = n) (hn : n ≤ 1048577) :
    Calls Try.prog 56 #[.slice (some ⟨g, 0, none⟩) n c] w fun e w' => ∃ v, e = .returned v ∧ w'.ownsRow w.heap.size 46 5 v n (ordF zs) ∧ Below w.heap.size w w' := by
  obtain ⟨i0, hi0, hz0, hz1, hz2⟩ := infoO
  have hr := ord_rd hB hl
  go_enter Try.func56, Try.ntmps56
  go_wp2_with (at_builtin; refine wpList_append_own _ rfl (.tmp 3) (.tmp 4) 32 rfl w.heap.size 46 i0 _ 5 48 Try.underlying32 hi0 hz0 hz1 hz2 rfl (by decide) (.slice (some ⟨w.heap.size, 0, none⟩) 0 0) 0 [] rfl (own_lit' rfl (Nat.le_refl _)) ⟨g, 0, none⟩ n c (ordF zs) rfl hr.1 (hr.below (by (repeat' (first | (with_reducible exact Below.refl _ _) | (with_reducible assumption) | (with_reducible refine balloc ?_ _) | (with_reducible refine bdrew ?_) | (with_reducible refine bdrewN ?_ _) | (with_reducible refine bstep ?_ (by assumption)) | (with_reducible refine bset ?_ ?_ _) | (exact Below.size (by assumption)) | go_size)))).news (ord_one zs) (by unfold maxLen; omega) (by omega) (by simp) ?_; intro v1 w1 hown1 hgr1 _)
  go_returns
  refine ⟨_, rfl, by simpa using hown1, ?_⟩
  exact Below.grown (by (repeat' (first | (with_reducible exact Below.refl _ _) | (with_reducible assumption) | (with_reducible refine balloc ?_ _) | (with_reducible refine bdrew ?_) | (with_reducible refine bdrewN ?_ _) | (with_reducible refine bstep ?_ (by assumption)) | (with_reducible refine bset ?_ ?_ _) | (exact Below.size (by assumption)) | go_size))) hgr1 (by simp) (fun k e => by cases e; exact Nat.le_refl _)

theorem sRaiseOrders_is {q : Bool} {L : List OrderT} {g n : Nat} {t : TypeId} {zs : List OrderT} {tick wait : Int} (hq : raiR zs tick wait = q) (hL : raiL zs tick wait = L) (w : World) (hB : Bk w g t (ordF zs)) (hl : zs.length = n) (hn : n ≤ 1048577) (hz9 : ∀ z ∈ zs, z.2.1.size ≤ maxLen) :
    Calls Try.prog 24 #[.slice (some ⟨g, 0, none⟩) n n, .int .i64 tick, .int .i64 wait] w fun e w' => ∃ v, e = .returned (.tuple #[v, .bool q]) ∧ w'.ownsRow w.heap.size 46 5 v L.length (ordF L) ∧ Below w.heap.size w w' := by
  have HQ := Lib.hid hq
  have HL := Lib.hid hL
  clear hq hL
  have hr := ord_rd hB hl
  obtain ⟨i0, hi0, hz0, hz1, hz2⟩ := infoO
  go_enter Try.func24, Try.ntmps24
  go_upto_region 2 with fail
  refine wp_gen (fun w0 => w0.ownsRow w.heap.size 46 5 (.slice (some ⟨w.heap.size, 0, none⟩) 0 0) 0 [] ∧ Below w.heap.size w w0) ⟨own_lit' rfl (Nat.le_refl _), by (repeat' (first | (with_reducible exact Below.refl _ _) | (with_reducible assumption) | (with_reducible refine balloc ?_ _) | (with_reducible refine bdrew ?_) | (with_reducible refine bdrewN ?_ _) | (with_reducible refine bstep ?_ (by assumption)) | (with_reducible refine bset ?_ ?_ _) | (exact Below.size (by assumption)) | go_size))⟩ ?_
  intro w0 ⟨ho, hW⟩
  have HO := Lib.hid ho
  clear ho
  have hq0 : ∀ b1 b2 b3, listedB zs 10 = b1 → inB tick 0 9999 = b2 → inB wait 1 9999 = b3 → (b1 && (b2 && b3)) = q := fun b1 b2 b3 h1 h2 h3 => by rw [← HQ.out, ← h1, ← h2, ← h3]; rfl
  have HC := Lib.hid hq0
  clear hq0
  have hgood := fun (v : Bool) (h : listedB zs 10 = v) => l15Good_of (c := n) h w0 (hr.below hW) hl (by omega) hz9
  rcases h1 : listedB zs 10 with _ | _
  · obtain rfl := HC.out _ _ _ h1 rfl rfl
    obtain rfl := (rai_no HQ.out).symm.trans HL.out
    go_wp2_with fail
    refine (hgood false h1).mono ?_
    rintro e w1 ⟨rfl, hb1⟩
    go_wp2
    go_returns
    exact ⟨_, rfl, own_below HO.out hb1, bstep hW hb1⟩
  rcases h2 : inB tick 0 9999 with _ | _
  · obtain rfl := HC.out _ _ _ h1 h2 rfl
    obtain rfl := (rai_no HQ.out).symm.trans HL.out
    go_wp2_with fail
    refine (hgood true h1).mono ?_
    rintro e w1 ⟨rfl, hb1⟩
    go_wp2_with fail
    refine (l4Tick_of false h2 _).mono ?_
    rintro e u ⟨rfl, rfl⟩
    go_wp2
    go_returns
    exact ⟨_, rfl, own_below HO.out hb1, bstep hW hb1⟩
  rcases h3 : inB wait 1 9999 with _ | _
  · obtain rfl := HC.out _ _ _ h1 h2 h3
    obtain rfl := (rai_no HQ.out).symm.trans HL.out
    go_wp2_with fail
    refine (hgood true h1).mono ?_
    rintro e w1 ⟨rfl, hb1⟩
    go_wp2_with fail
    refine (l4Tick_of true h2 _).mono ?_
    rintro e u ⟨rfl, rfl⟩
    go_wp2_with fail
    refine (l1In_of false h3 _).mono ?_
    rintro e u ⟨rfl, rfl⟩
    go_wp2
    go_returns
    exact ⟨_, rfl, own_below HO.out hb1, bstep hW hb1⟩
  obtain rfl := HC.out _ _ _ h1 h2 h3
  obtain rfl : zs.map (rz tick wait) = L := by rw [← HL.out]; simp [raiL, HQ.out]
  go_wp2_with fail
  refine (hgood true h1).mono ?_
  rintro e w1 ⟨rfl, hb1⟩
  go_wp2_with fail
  refine (l4Tick_of true h2 _).mono ?_
  rintro e u ⟨rfl, rfl⟩
  go_wp2_with fail
  refine (l1In_of true h3 _).mono ?_
  rintro e u ⟨rfl, rfl⟩
  obtain ⟨p0, p1⟩ := inB_iff.1 h2
  obtain ⟨p2, p3⟩ := inB_iff.1 h3
  have H1 := Lib.hid h1
  clear hgood h1 h2 h3 HC HQ HL
  have ho1 := own_below HO.out hb1
  have b1 := bstep hW hb1
  clear HO
  go_wp2_with fail
  go_loopw [8, 9] (fun v i wr => ∃ k : Nat, k ≤ n ∧ i = .int .i64 k ∧ wr.ownsRow w.heap.size 46 5 v k (ordF ((zs.take k).map (rz tick wait))) ∧ Below w.heap.size w wr) (fun _ i _ => n - (intOf i).toNat)
  case atStart => exact ⟨0, Nat.zero_le _, rfl, by simpa [ordF] using ho1, b1⟩
  case round =>
    obtain ⟨k, hk, rfl, hown, hW⟩ := hrel
    by_cases hlt : k < n
    · obtain ⟨b, off, hbe, hbl, x0, x1, x2, x3, x4, hz, c0, c1, c2, c3, c4⟩ := ord_at hr hW hl hlt
      simp only [Option.some.injEq, Addr.mk.injEq, and_true] at hbe
      obtain ⟨rfl, rfl⟩ := hbe
      simp only [Nat.zero_add] at c0 c1 c2 c3 c4
      have hk2 : k < zs.length := by omega
      obtain ⟨⟨d0, d1⟩, ⟨d2, d3⟩⟩ := ord_bd H1.out hk2 hz
      have hst := map_snoc (f := rz tick wait) hk2 hz
      have HS := Lib.hid hst
      have hnb : ∀ g, _ = some g → g < wr.heap.size := fun g hg => (hown.lt g hg).2
      have HO := Lib.hid hown
      have HNB := Lib.hid hnb
      have s1 : g < wr.heap.size := Nat.lt_of_lt_of_le hbl hW.size
      have i3 : (k : Int) < (n : Int) := by omega
      have i4 : (0 : Int) ≤ (k : Int) := by omega
      clear hz hst hown hnb
      go_upto_region 8 with fail
      refine wp_gen (fun w0 => Bk w0 wr.heap.size 46 [.int .i64 x0, .string x1, .int .i64 x2, .int .i64 x3, .int .i64 x4] ∧ w0.ownsRow w.heap.size 46 5 _ k (ordF ((zs.take k).map (rz tick wait))) ∧ Below wr.heap.size wr w0) ⟨Bk.new' rfl, own_alloc HO.out _, by (repeat' (first | (with_reducible exact Below.refl _ _) | (with_reducible assumption) | (with_reducible refine balloc ?_ _) | (with_reducible refine bdrew ?_) | (with_reducible refine bdrewN ?_ _) | (with_reducible refine bstep ?_ (by assumption)) | (with_reducible refine bset ?_ ?_ _) | (exact Below.size (by assumption)) | go_size))⟩ ?_
      intro w0 ⟨hX, hown0, hW0⟩
      obtain ⟨t0, t1, t2, t3, t4, tl⟩ := five_cells hX
      have HX := Lib.hid hX
      have HO0 := Lib.hid hown0
      have f3 := hX.frozen 3
      clear hX hown0 HO
      by_cases hc : x3 < 5 ∧ x4 + wait ≤ tick
      · obtain ⟨hc1, hc2⟩ := hc
        have HR := Lib.hid (rz_yes (x0 := x0) (x1 := x1) (x2 := x2) hc1 hc2)
        go_upto_region 10 with fail
        refine wp_gen (fun w1 => Bk w1 wr.heap.size 46 [.int .i64 x0, .string x1, .int .i64 x2, .int .i64 (x3 + 1), .int .i64 x4] ∧ w1.ownsRow w.heap.size 46 5 _ k (ordF ((zs.take k).map (rz tick wait))) ∧ Below wr.heap.size wr w1) ⟨HX.out.set_ 3 _, own_set HO0.out _ _ (fun g hg => by have := HNB.out g hg; show g ≠ wr.heap.size; omega), bset hW0 (Nat.le_refl _) _⟩ ?_
        intro w3 ⟨hX, hown0, hW0⟩
        clear t0 t1 t2 t3 t4 tl f3 HX HO0
        obtain ⟨t0, t1, t2, t3, t4, tl⟩ := five_cells hX
        have hWW := bstep hW hW0
        go_wp2_with (at_builtin; refine wpList_append_own _ rfl (.tmp 51) (.tmp 53) 32 rfl w.heap.size 46 i0 _ 5 48 Try.underlying32 hi0 hz0 hz1 hz2 rfl (by decide) _ _ _ rfl (own_alloc hown0 _) ⟨_, 0, none⟩ 1 1 (ordE (x0, x1, x2, x3 + 1, x4)) rfl rfl ?c1 ?c2 ?c3 ?c4 ?c5 ?_)
        case c1 => first | exact five_new rfl | exact five_new (by simp) | (intro j u hu; exact hu)
        case c2 => intro u hu; exact ord_one [_] u (by simpa [ordF] using hu)
        case c3 => (unfold maxLen; omega)
        case c4 => omega
        case c5 => (have := hW.size; have := hW0.size; simp; omega)
        intro v' w2 hown2 hgrow _
        have b2 : Below w.heap.size w w2 := own_grownBy (own_alloc hown0 _) (balloc hWW _) hgrow (Nat.le_refl _) (by have := hW.size; have := hW0.size; simp; omega)
        go_wp2
        go_roundw
        case rel => exact ⟨k + 1, by omega, by go_num, by rw [HS.out, HR.out]; simpa [ordF] using hown2, b2⟩
        case measure => simp [intOf]; omega
      · have HR := Lib.hid (rz_no (x0 := x0) (x1 := x1) (x2 := x2) hc)
        have hown0 := HO0.out
        have hWW := bstep hW hW0
        have hX := HX.out
        by_cases hc1 : x3 < 5
        · have hc2 : ¬ x4 + wait ≤ tick := fun h => hc ⟨hc1, h⟩
          clear hc
          go_wp2_with (at_builtin; refine wpList_append_own _ rfl (.tmp 51) (.tmp 53) 32 rfl w.heap.size 46 i0 _ 5 48 Try.underlying32 hi0 hz0 hz1 hz2 rfl (by decide) _ _ _ rfl (own_alloc hown0 _) ⟨_, 0, none⟩ 1 1 (ordE (x0, x1, x2, x3, x4)) rfl rfl ?c1 ?c2 ?c3 ?c4 ?c5 ?_)
          case c1 => first | exact five_new rfl | exact five_new (by simp) | (intro j u hu; exact hu)
          case c2 => intro u hu; exact ord_one [_] u (by simpa [ordF] using hu)
          case c3 => (unfold maxLen; omega)
          case c4 => omega
          case c5 => (have := hW.size; have := hW0.size; simp; omega)
          intro v' w2 hown2 hgrow _
          have b2 : Below w.heap.size w w2 := own_grownBy (own_alloc hown0 _) (balloc hWW _) hgrow (Nat.le_refl _) (by have := hW.size; have := hW0.size; simp; omega)
          go_wp2
          go_roundw
          case rel => exact ⟨k + 1, by omega, by go_num, by rw [HS.out, HR.out]; simpa [ordF] using hown2, b2⟩
          case measure => simp [intOf]; omega
        · clear hc
          go_wp2_with (at_builtin; refine wpList_append_own _ rfl (.tmp 51) (.tmp 53) 32 rfl w.heap.size 46 i0 _ 5 48 Try.underlying32 hi0 hz0 hz1 hz2 rfl (by decide) _ _ _ rfl (own_alloc hown0 _) ⟨_, 0, none⟩ 1 1 (ordE (x0, x1, x2, x3, x4)) rfl rfl ?c1 ?c2 ?c3 ?c4 ?c5 ?_)
          case c1 => first | exact five_new rfl | exact five_new (by simp) | (intro j u hu; exact hu)
          case c2 => intro u hu; exact ord_one [_] u (by simpa [ordF] using hu)
          case c3 => (unfold maxLen; omega)
          case c4 => omega
          case c5 => (have := hW.size; have := hW0.size; simp; omega)
          intro v' w2 hown2 hgrow _
          have b2 : Below w.heap.size w w2 := own_grownBy (own_alloc hown0 _) (balloc hWW _) hgrow (Nat.le_refl _) (by have := hW.size; have := hW0.size; simp; omega)
          go_wp2
          go_roundw
          case rel => exact ⟨k + 1, by omega, by go_num, by rw [HS.out, HR.out]; simpa [ordF] using hown2, b2⟩
          case measure => simp [intOf]; omega
    · obtain rfl : k = n := by omega
      have e2 : zs.take k = zs := List.take_of_length_le (by omega)
      rw [e2] at hown
      have HO := Lib.hid hown
      clear hown
      go_wp2
      go_returns
      exact ⟨_, rfl, by rw [List.length_map, hl]; exact HO.out, hW⟩
theorem RaiseOrders_is {q : Bool} {L : List OrderT} {g n c : Nat} {t : TypeId} {zs : List OrderT} {tick wait : Int} (hq : raiR zs tick wait = q) (hL : raiL zs tick wait = L) (w : World) (hB : Bk w g t (ordF zs)) (hl : zs.length = n) (hn : n ≤ 1048577) (hz9 : ∀ z ∈ zs, z.2.1.size ≤ maxLen) :
    Calls Try.prog 25 #[.slice (some ⟨g, 0, none⟩) n c, .int .i64 tick, .int .i64 wait] w fun e w' => ∃ v, e = .returned (.tuple #[v, .bool q]) ∧ w'.ownsRow w.heap.size 46 5 v L.length (ordF L) ∧ Below w.heap.size w w' := by
  have HQ := Lib.hid hq
  have HL := Lib.hid hL
  clear hq hL
  have hr := ord_rd hB hl
  have hgl := hB.lt
  go_enter Try.func25, Try.ntmps25
  have hq0 : ∀ b1 b2 b3, listedB zs 10 = b1 → inB tick 0 9999 = b2 → inB wait 1 9999 = b3 → (b1 && (b2 && b3)) = q := fun b1 b2 b3 h1 h2 h3 => by rw [← HQ.out, ← h1, ← h2, ← h3]; rfl
  have HC := Lib.hid hq0
  clear hq0
  have hgood := fun (v : Bool) (h : listedB zs 10 = v) => AreOrders_of (c := c) h w hr hl (by omega) hz9
  rcases h1 : listedB zs 10 with _ | _
  · obtain rfl := HC.out _ _ _ h1 rfl rfl
    obtain rfl := (rai_no HQ.out).symm.trans HL.out
    go_wp2_with fail
    refine (hgood false h1).mono ?_
    rintro e w1 ⟨rfl, hb1⟩
    go_wp2
    go_returns
    exact ⟨_, rfl, World.ownsRow_nil _ _ _ _, hb1⟩
  rcases h2 : inB tick 0 9999 with _ | _
  · obtain rfl := HC.out _ _ _ h1 h2 rfl
    obtain rfl := (rai_no HQ.out).symm.trans HL.out
    go_wp2_with fail
    refine (hgood true h1).mono ?_
    rintro e w1 ⟨rfl, hb1⟩
    go_wp2_with fail
    refine (isTick_of false h2 _).mono ?_
    rintro e u ⟨rfl, rfl⟩
    go_wp2
    go_returns
    exact ⟨_, rfl, World.ownsRow_nil _ _ _ _, hb1⟩
  rcases h3 : inB wait 1 9999 with _ | _
  · obtain rfl := HC.out _ _ _ h1 h2 h3
    obtain rfl := (rai_no HQ.out).symm.trans HL.out
    go_wp2_with fail
    refine (hgood true h1).mono ?_
    rintro e w1 ⟨rfl, hb1⟩
    go_wp2_with fail
    refine (isTick_of true h2 _).mono ?_
    rintro e u ⟨rfl, rfl⟩
    go_wp2_with fail
    refine (in_of false h3 _).mono ?_
    rintro e u ⟨rfl, rfl⟩
    go_wp2
    go_returns
    exact ⟨_, rfl, World.ownsRow_nil _ _ _ _, hb1⟩
  obtain rfl := HC.out _ _ _ h1 h2 h3
  obtain rfl : zs.map (rz tick wait) = L := by rw [← HL.out]; simp [raiL, HQ.out]
  go_wp2_with fail
  refine (hgood true h1).mono ?_
  rintro e w1 ⟨rfl, hb1⟩
  go_wp2_with fail
  refine (isTick_of true h2 _).mono ?_
  rintro e u ⟨rfl, rfl⟩
  go_wp2_with fail
  refine (in_of true h3 _).mono ?_
  rintro e u ⟨rfl, rfl⟩
  obtain ⟨p0, p1⟩ := inB_iff.1 h2
  obtain ⟨p2, p3⟩ := inB_iff.1 h3
  have H1 := Lib.hid h1
  clear hgood h1 h2 h3 HC HQ HL
  go_wp2_with fail
  refine (copyOrd_any g n c t zs _ (hB.below hb1 hgl) hl hn).mono ?_
  rintro e w2 ⟨v2, rfl, hown2, hb2⟩
  have hown2 := own_weaken (base' := w.heap.size) hown2 hb1.size
  have b2 := bstep hb1 hb2
  rcases own_bk hown2 with ⟨rfl, hn0⟩ | ⟨g', cap, cs, rfl, hb', hB', h1, h2, h3, h4⟩
  · subst hn0
    obtain rfl : zs = [] := List.eq_nil_of_length_eq_zero hl
    go_wp2_with fail
    refine wp_loop_rounds 1 ?_
    rw [rounds_succ]
    go_wp2
    go_returns
    exact ⟨_, rfl, World.ownsRow_nil _ _ _ _, b2⟩
  obtain ⟨rest, hrest⟩ : ∃ rest, cs = ordF zs ++ rest := ⟨cs.drop (n * 5), by rw [← h4]; exact (List.take_append_drop _ _).symm⟩
  subst hrest
  have HL3 := Lib.hid h3
  clear h3 h4 hown2
  go_wp2_with fail
  go_loopw [28] (fun i wr => ∃ k : Nat, k ≤ n ∧ i = .int .i64 k ∧ Bk wr g' 46 (ordF (rk tick wait zs k) ++ rest) ∧ Below w.heap.size w wr) (fun i _ => n - (intOf i).toNat)
  case atStart => exact ⟨0, Nat.zero_le _, rfl, by rw [rk_zero]; exact hB', b2⟩
  case round =>
    obtain ⟨k, hk, rfl, hR, hW⟩ := hrel
    by_cases hlt : k < n
    · have hk2 : k < zs.length := by omega
      obtain ⟨⟨x0, x1, x2, x3, x4⟩, hx⟩ : ∃ x, zs[k]'hk2 = x := ⟨_, rfl⟩
      obtain ⟨⟨d0, d1⟩, ⟨d2, d3⟩⟩ := ord_bd H1.out hk2 hx
      obtain ⟨c0, c1, c2, c3, c4⟩ := ord_row hR (k := k) (by rw [rk_len]; exact hk2) (rk_get hk2 hx)
      have s1 : g' < wr.heap.size := hR.lt
      have HR := Lib.hid hR
      have HI := Lib.hid hx
      have i1 : (k : Int) < (n : Int) := by omega
      have i2 : (0 : Int) ≤ (k : Int) := by omega
      clear hR hx
      go_upto_region 7 with fail
      refine wp_gen (fun w0 => Bk w0 wr.heap.size 46 [.int .i64 x0, .string x1, .int .i64 x2, .int .i64 x3, .int .i64 x4] ∧ Bk w0 g' 46 (ordF (rk tick wait zs k) ++ rest) ∧ Below w.heap.size w w0) ⟨Bk.new' rfl, HR.out.alloc _, balloc hW _⟩ ?_
      intro w0 ⟨hX, hR0, hW0⟩
      obtain ⟨t0, t1, t2, t3, t4, tl⟩ := five_cells hX
      clear c0 c1 c2 c3 c4 HR
      obtain ⟨c0, c1, c2, c3, c4⟩ := ord_row hR0 (k := k) (by rw [rk_len]; exact hk2) (rk_get hk2 HI.out)
      have f3 := hR0.frozen (k * 5 + 3)
      have s2 : g' < w0.heap.size := hR0.lt
      have HR0 := Lib.hid hR0
      clear hX hR0
      by_cases hc : x3 < 5 ∧ x4 + wait ≤ tick
      · obtain ⟨hc1, hc2⟩ := hc
        have hd : decide (wait ≤ tick - x4) = true := by simp; omega
        have hQ := HR0.out.set_ (k * 5 + 3) (.int .i64 (x3 + 1))
        rw [rk_row hk2 HI.out hc1 hc2] at hQ
        have HQ1 := Lib.hid hQ
        have bS := bset hW0 (p := ⟨g', k * 5 + 3, none⟩) hb' (.int .i64 (x3 + 1))
        clear hQ
        go_wp2
        go_roundw
        case rel => exact ⟨k + 1, by omega, by go_num, HQ1.out, bS⟩
        case measure => simp [intOf]; omega
      · have e9 := rk_same hk2 HI.out (rz_no hc)
        have HE := Lib.hid e9
        clear e9
        by_cases hc1 : x3 < 5
        · have hd : decide (wait ≤ tick - x4) = false := by simp; omega
          clear hc
          go_wp2
          go_roundw
          case rel => exact ⟨k + 1, by omega, by go_num, by rw [HE.out]; exact HR0.out, hW0⟩
          case measure => simp [intOf]; omega
        · clear hc
          go_wp2
          go_roundw
          case rel => exact ⟨k + 1, by omega, by go_num, by rw [HE.out]; exact HR0.out, hW0⟩
          case measure => simp [intOf]; omega
    · obtain rfl : k = n := by omega
      have hlen : (ordF (rk tick wait zs k) ++ rest).length = cap * 5 := by
        rw [← HL3.out, List.length_append, List.length_append, ordF_len, ordF_len, rk_len]
      have hown := row_own hR hb' (by rw [rk_len]; exact hl) h1 h2 hlen
      have e9 : rk tick wait zs k = zs.map (rz tick wait) := by
        unfold rk
        rw [List.take_of_length_le (by omega), List.drop_of_length_le (by omega), List.append_nil]
      rw [e9] at hown
      have HO := Lib.hid hown
      clear hown e9 hlen hR
      go_wp2
      go_returns
      exact ⟨_, rfl, by rw [List.length_map, hl]; exact HO.out, hW⟩
end Go.Proofs.Ytaekngiejehooaa
