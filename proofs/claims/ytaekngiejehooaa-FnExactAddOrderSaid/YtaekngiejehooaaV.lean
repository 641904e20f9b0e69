/-
  Orders filtered and copied; CancelOrder of the program. Conditions: lengths within the bound of a slice.
-/
import Derived.Test.YtaekngiejehooaaJ
import Derived.Test.YtaekngiejehooaaU
namespace Go.Proofs.Ytaekngiejehooaa
open Go.RowKit
set_option maxRecDepth 100000
set_option maxHeartbeats 1000000

theorem wp_gen {P : Program} {c : Code} {Q : Exit → Act → World → Prop} {a : Act} {w : World} (R : World → Prop) (h1 : R w) (h2 : ∀ w0, R w0 → c.wp P Q a w0) : c.wp P Q a w := h2 w h1
theorem ord_one (zs : List OrderT) : ∀ u ∈ ordF zs, u.oneCell' = true := by
  intro u hu
  simp only [ordF, List.mem_flatMap, ordE] at hu
  obtain ⟨a, _, h⟩ := hu
  simp at h
  rcases h with h | h | h | h | h <;> subst h <;> rfl
theorem five_new {W : World} {t : TypeId} {a b c d e : Value} {g : Nat} (h : W.heap.size = g) : ∀ j u, [a, b, c, d, e][j]? = some u → (W.alloc (.cells #[a, b, c, d, e] t)).cell? ((⟨g, 0, none⟩ : Addr).add j) = some u :=
  ((Bk.new' (t := t) (cs := [a, b, c, d, e]) h).rd (k := 5) (n := 1) rfl).news
theorem five_cells {w : World} {g : Nat} {t : TypeId} {a b c d e : Value} (h : Bk w g t [a, b, c, d, e]) : w.cell? ⟨g, 0, none⟩ = some a ∧ w.cell? ⟨g, 1, none⟩ = some b ∧ w.cell? ⟨g, 2, none⟩ = some c ∧ w.cell? ⟨g, 3, none⟩ = some d ∧ w.cell? ⟨g, 4, none⟩ = some e ∧ g < w.heap.size := ⟨h.cell 0, h.cell 1, h.cell 2, h.cell 3, h.cell 4, h.lt⟩
theorem infoO : ∃ i, Try.prog.info? 46 = some i ∧ i.zero = some (.agg #[.int .i64 0, .string ⟨#[]⟩, .int .i64 0, .int .i64 0, .int .i64 0]) ∧ i.size = 5 ∧ i.bytes = 48 := by
  obtain ⟨i0, hi0, hz0, hz1, hz2⟩ := info_parts (show (Try.prog.info? 46).map (fun i => (i.zero, i.size, i.bytes)) = some (some (.agg #[.int .i64 0, .string ⟨#[]⟩, .int .i64 0, .int .i64 0, .int .i64 0]), 5, 48) from by kernel_rfl)
  exact ⟨i0, hi0, hz0, hz1, hz2⟩
theorem filt_snoc {zs : List OrderT} {p : OrderT → Bool} {k : Nat} {x : OrderT} (hk : k < zs.length) (hx : zs[k] = x) : (zs.take (k + 1)).filter p = (zs.take k).filter p ++ (if p x = true then [x] else []) := by
  rw [List.take_succ_eq_append_getElem hk, List.filter_append, hx]
  congr 1
  by_cases h : p x = true <;> simp [h]
theorem filt_len (zs : List OrderT) (p : OrderT → Bool) (k : Nat) : ((zs.take k).filter p).length ≤ k := by
  have h1 := List.length_filter_le p (zs.take k)
  have h2 := List.length_take_le k zs
  omega
theorem filt_ord (A : Option Addr) (n c : Nat) (zs : List OrderT) (p : OrderT → Bool) (bx : Nat) (w : World) (hr : Rd w 5 A n (ordF zs)) (hl : zs.length = n) (hn : n ≤ 1048577)
    (hF : ∀ (x0 : Int) (x1 : ByteArray) (x2 x3 x4 : Int) (v : Bool) (W : World), (x0, x1, x2, x3, x4) ∈ zs → p (x0, x1, x2, x3, x4) = v → Below w.heap.size w W → Calls Try.prog 51 #[.agg #[.int .i64 x0, .string x1, .int .i64 x2, .int .i64 x3, .int .i64 x4], .pointer (some ⟨bx, 0, none⟩)] W fun e w' => e = .returned (.bool v) ∧ Below W.heap.size W w') :
    Calls Try.prog 50 #[.slice A n c, .func (.func 51) #[] #[.pointer (some ⟨bx, 0, none⟩)]] w fun e w' => ∃ v, e = .returned v ∧ w'.ownsRow w.heap.size 46 5 v (zs.filter p).length (ordF (zs.filter p)) ∧ Below w.heap.size w w' := by
  obtain ⟨i0, hi0, hz0, hz1, hz2⟩ := infoO
  go_enter Try.func50, Try.ntmps50
  go_wp2_with fail
  go_loopw [5, 11] (fun v i wr => ∃ k m : Nat, k ≤ n ∧ i = .int .i64 k ∧ ((zs.take k).filter p).length = m ∧ wr.ownsRow w.heap.size 46 5 v m (ordF ((zs.take k).filter p)) ∧ Below w.heap.size w wr) (fun _ i _ => n - (intOf i).toNat)
  case atStart => exact ⟨0, 0, Nat.zero_le _, rfl, by simp, own_lit' rfl (Nat.le_refl _), by (repeat' (first | (with_reducible exact Below.refl _ _) | (with_reducible assumption) | (with_reducible refine balloc ?_ _) | (with_reducible refine bdrew ?_) | (with_reducible refine bdrewN ?_ _) | (with_reducible refine bstep ?_ (by assumption)) | (with_reducible refine bset ?_ ?_ _) | (exact Below.size (by assumption)) | go_size))⟩
  case round =>
    obtain ⟨k, m, hk, rfl, hm, hown, hW⟩ := hrel
    by_cases hlt : k < n
    · obtain ⟨b, off, rfl, hbl, x0, x1, x2, x3, x4, hz, c0, c1, c2, c3, c4⟩ := ord_at hr hW hl hlt
      have hk2 : k < zs.length := by omega
      have hmem : (x0, x1, x2, x3, x4) ∈ zs := hz ▸ List.getElem_mem hk2
      have hst := filt_snoc (p := p) hk2 hz
      have hlen := filt_len zs p k
      rw [hm] at hlen
      have HS := Lib.hid hst
      have HM := Lib.hid hm
      have HO := Lib.hid hown
      have s1 : b < wr.heap.size := Nat.lt_of_lt_of_le hbl hW.size
      have i3 : (k : Int) < (n : Int) := by omega
      have i4 : (0 : Int) ≤ (k : Int) := by omega
      clear hz hst hm hown
      go_upto_region 5 with fail
      refine wp_gen (fun w0 => Bk w0 wr.heap.size 46 [.int .i64 x0, .string x1, .int .i64 x2, .int .i64 x3, .int .i64 x4] ∧ Below wr.heap.size wr w0) ⟨Bk.new' rfl, by (repeat' (first | (with_reducible exact Below.refl _ _) | (with_reducible assumption) | (with_reducible refine balloc ?_ _) | (with_reducible refine bdrew ?_) | (with_reducible refine bdrewN ?_ _) | (with_reducible refine bstep ?_ (by assumption)) | (with_reducible refine bset ?_ ?_ _) | (exact Below.size (by assumption)) | go_size))⟩ ?_
      intro w0 ⟨hX, hW0⟩
      obtain ⟨t0, t1, t2, t3, t4, tl⟩ := five_cells hX
      obtain ⟨v, hv⟩ : ∃ v, p (x0, x1, x2, x3, x4) = v := ⟨_, rfl⟩
      have HV := Lib.hid hv
      clear hv
      go_wp2_with fail
      refine (hF x0 x1 x2 x3 x4 v _ hmem HV.out (bstep hW hW0)).mono ?_
      rintro e w1 ⟨rfl, hb1⟩
      have hX := hX.below hb1 tl
      clear t0 t1 t2 t3 t4 tl
      obtain ⟨t0, t1, t2, t3, t4, tl⟩ := five_cells hX
      have hWr := bstep hW0 hb1
      have hown1 := own_below HO.out hWr
      have hW1 := bstep hW hWr
      cases v
      · have HO1 := Lib.hid hown1
        have e2 : (zs.take (k + 1)).filter p = (zs.take k).filter p := by rw [HS.out, HV.out]; simp
        have HE := Lib.hid e2
        clear hown1 e2
        go_wp2
        go_roundw
        case rel => exact ⟨k + 1, m, by omega, by go_num, by rw [HE.out]; exact HM.out, by rw [HE.out]; exact HO1.out, hW1⟩
        case measure => simp [intOf]; omega
      · have e2 : (zs.take (k + 1)).filter p = (zs.take k).filter p ++ [(x0, x1, x2, x3, x4)] := by rw [HS.out, HV.out]; simp
        have HE := Lib.hid e2
        clear e2
        go_wp2_with (at_builtin; refine wpList_append_own _ rfl (.tmp 18) (.tmp 20) 32 rfl w.heap.size 46 i0 _ 5 48 Try.underlying32 hi0 hz0 hz1 hz2 rfl (by decide) _ _ _ rfl (own_alloc hown1 _) ⟨_, 0, none⟩ 1 1 (ordE (x0, x1, x2, x3, x4)) rfl rfl ?c1 ?c2 ?c3 ?c4 ?c5 ?_)
        case c1 => exact five_new rfl
        case c2 => intro u hu; exact ord_one [_] u (by simpa [ordF] using hu)
        case c3 => (unfold maxLen; omega)
        case c4 => omega
        case c5 => (have := hW1.size; simp; omega)
        intro v' w2 hown2 hgrow _
        have b2 : Below w.heap.size w w2 := own_grownBy (own_alloc hown1 _) (balloc hW1 _) hgrow (Nat.le_refl _) (by have := hW1.size; simp; omega)
        go_wp2
        go_roundw
        case rel => exact ⟨k + 1, m + 1, by omega, by go_num, by rw [HE.out]; simp [HM.out], by rw [HE.out]; simpa [ordF] using hown2, b2⟩
        case measure => simp [intOf]; omega
    · have hkn : k = n := by omega
      have e2 : zs.take k = zs := List.take_of_length_le (by omega)
      rw [e2] at hm hown
      subst hm
      have HO := Lib.hid hown
      clear hown
      go_wp2
      go_returns
      exact ⟨_, rfl, HO.out, hW⟩
end Go.Proofs.Ytaekngiejehooaa
