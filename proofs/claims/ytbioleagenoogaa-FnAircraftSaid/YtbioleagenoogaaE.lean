/-
  DropMinutes of the reference and of the program. Conditions: none, or the bounds that stand in the statement.
-/
import Derived.Test.YtbioleagenoogaaD
namespace Go.Proofs.Ytbioleagenoogaa
open Go.RowKit
set_option maxRecDepth 100000
set_option maxHeartbeats 1000000

def dml (s fi wa le : Int) : Nat → List Int
  | 0 => []
  | j + 1 => dml s fi wa le j ++ [drp s fi wa le ((j : Int) + 1)]
theorem dml_len (s fi wa le : Int) : ∀ j, (dml s fi wa le j).length = j
  | 0 => rfl
  | j + 1 => by simp [dml, dml_len s fi wa le j]
def dmL (i l s f fi wa le ba : Int) (N : Nat) : List Int := if (acB i l s f fi && tgB wa le ba) = true then dml s fi wa le (min 20 N) else []
theorem dmL_len (i l s f fi wa le ba : Int) (N : Nat) : (dmL i l s f fi wa le ba N).length ≤ 20 := by
  unfold dmL
  split
  · rw [dml_len]; omega
  · exact Nat.zero_le _
theorem l1Least_of {a b c : Int} (h : min a b = c) (w : World) : Calls Try.prog 57 #[.int .i64 a, .int .i64 b] w fun e w' => e = .returned (.int .i64 c) ∧ w = w' := by rw [← h]; exact l1Least_any a b w
theorem one_new {W : World} {t : TypeId} {v : Value} {g : Nat} (h : W.heap.size = g) : ∀ j u, [v][j]? = some u → (W.alloc (.cells #[v] t)).cell? ((⟨g, 0, none⟩ : Addr).add j) = some u :=
  ((Bk.new' (t := t) (cs := [v]) h).rd (k := 1) (n := 1) rfl).news
theorem sDropMinutes_is {q : Bool} {L : List Int} {i l s f fi wa le ba : Int} {N : Nat} (hN : acB i l s f fi = true → tgB wa le ba = true → MD s f fi wa le ba N) (hq : (acB i l s f fi && tgB wa le ba) = q) (hL : dmL i l s f fi wa le ba N = L) (w : World) :
    Calls Try.prog 24 #[.agg #[.int .i64 i, .int .i64 l, .int .i64 s, .int .i64 f, .int .i64 fi], .agg #[.int .i64 wa, .int .i64 le, .int .i64 ba]] w fun e w' => ∃ v, e = .returned (.tuple #[v, .bool q]) ∧ w'.ownsRow w.heap.size 3 1 v L.length (ints L) ∧ Below w.heap.size w w' := by
  have hA := fun W => l14Asked_any i l s f fi wa le ba W
  rw [hq] at hA
  have HA := Lib.hid hA
  clear hA
  obtain ⟨i0, hi0, hz0, hz1, hz2⟩ := info_parts (show (Try.prog.info? 3).map (fun i => (i.zero, i.size, i.bytes)) = some (some (.int .i64 0), 1, 8) from by kernel_rfl)
  go_enter Try.func24, Try.ntmps24
  go_upto_region 2 with fail
  refine wp_gen (fun w0 => (Bk w0 w.heap.size 41 [.int .i64 i, .int .i64 l, .int .i64 s, .int .i64 f, .int .i64 fi] ∧ Bk w0 (w.heap.size + 1) 31 [.int .i64 wa, .int .i64 le, .int .i64 ba]) ∧ w0.ownsRow (w.heap.size + 2) 3 1 (.slice (some ⟨w.heap.size + 2, 0, none⟩) 0 0) 0 [] ∧ Below w.heap.size w w0) ⟨⟨Bk.alloc (Bk.alloc (Bk.new' rfl) _) _, Bk.alloc (Bk.new' (by simp)) _⟩, own_lit' (by simp) (by simp), by (repeat' (first | (with_reducible exact Below.refl _ _) | (with_reducible assumption) | (with_reducible refine balloc ?_ _) | (with_reducible refine bdrew ?_) | (with_reducible refine bdrewN ?_ _) | (with_reducible refine bstep ?_ (by assumption)) | (with_reducible refine bset ?_ ?_ _) | (exact Below.size (by assumption)) | go_size))⟩ ?_
  intro w0 ⟨⟨hx, hy⟩, ho, b0⟩
  have HO := Lib.hid ho
  clear ho
  obtain ⟨x0, x1, x2, x3, x4, xl⟩ := five_cells hx
  obtain ⟨y0, y1, y2, yl⟩ := three_cells hy
  have HX := Lib.hid hx
  have HY := Lib.hid hy
  clear hx hy
  cases q
  · obtain rfl : ([] : List Int) = L := by rw [← hL]; simp [dmL, hq]
    go_wp2_with fail
    refine (HA.out _).mono ?_
    rintro e w1 ⟨rfl, b1⟩
    go_wp2
    go_returns
    exact ⟨_, rfl, own_weaken (own_below HO.out b1) (by omega), bstep b0 b1⟩
  obtain ⟨hac, htg⟩ : acB i l s f fi = true ∧ tgB wa le ba = true := by simpa using hq
  obtain ⟨g1, g2, g3, g4, g5⟩ := acB_bd hac
  obtain ⟨g6, g7, g8⟩ := tgB_bd htg
  have hmd := hN hac htg
  have HN := Lib.hid hmd
  have hN6 : N ≤ 600 := hmd.1
  obtain ⟨K, hK⟩ : ∃ K, min 20 N = K := ⟨_, rfl⟩
  obtain rfl : dml s fi wa le K = L := by rw [← hL, ← hK]; simp [dmL, hac, htg]
  have hK2 : min (20 : Int) (N : Int) = (K : Int) := by omega
  have K20 : K ≤ 20 := by omega
  clear hac htg hN hmd hq hL
  go_wp2_with fail
  refine (HA.out _).mono ?_
  rintro e w1 ⟨rfl, hb1⟩
  have b1 := bstep b0 hb1
  have HX := Lib.hid (HX.out.below hb1 HX.out.lt)
  have HY := Lib.hid (HY.out.below hb1 HY.out.lt)
  clear x0 x1 x2 x3 x4 xl y0 y1 y2 yl
  have ho1 := own_below HO.out hb1
  go_wp2_with fail
  go_loopw [6, 7] (fun v d wr => ∃ j : Nat, j ≤ K ∧ d = .int .i64 ((j : Int) + 1) ∧ wr.ownsRow (w.heap.size + 2) 3 1 v j (ints (dml s fi wa le j)) ∧ Bk wr w.heap.size 41 [.int .i64 i, .int .i64 l, .int .i64 s, .int .i64 f, .int .i64 fi] ∧ Bk wr (w.heap.size + 1) 31 [.int .i64 wa, .int .i64 le, .int .i64 ba] ∧ Below w.heap.size w wr) (fun _ d _ => K + 1 - (intOf d).toNat)
  case atStart => exact ⟨0, Nat.zero_le _, rfl, ho1, HX.out, HY.out, b1⟩
  case round =>
    obtain ⟨j, hj, rfl, hown, hx, hy, hW⟩ := hrel
    clear HX HY
    obtain ⟨x0, x1, x2, x3, x4, xl⟩ := five_cells hx
    obtain ⟨y0, y1, y2, yl⟩ := three_cells hy
    have HX := Lib.hid hx
    have HY := Lib.hid hy
    clear hx hy
    by_cases hjK : j < K
    · skip
      have j1 : (j : Int) + 1 ≤ ((K : Nat) : Int) := by omega
      have hdb := drp_bd (k := (j : Int) + 1) g3 g5 g6 g7 (by omega)
      obtain ⟨y, hy⟩ : ∃ y, drp s fi wa le ((j : Int) + 1) = y := ⟨_, rfl⟩
      have HDr := Lib.hid (fun W => l14Minutes_is (i := i) (l := l) (f := f) (ba := ba) g3 g5 g6 g7 (k := (j : Int) + 1) (by omega) hy W)
      have hst : dml s fi wa le (j + 1) = dml s fi wa le j ++ [y] := by rw [← hy]; rfl
      have HS := Lib.hid hst
      clear hy hst hdb
      go_wp2_with fail
      refine (l14Most_is g3 g4 g5 g6 g7 g8 HN.out _).mono ?_
      rintro e w3 ⟨rfl, b3⟩
      have hX3 := HX.out.below b3 xl
      have hY3 := HY.out.below b3 yl
      have ho3 := own_below hown b3
      clear x0 x1 x2 x3 x4 xl y0 y1 y2 yl
      obtain ⟨x0, x1, x2, x3, x4, xl⟩ := five_cells hX3
      obtain ⟨y0, y1, y2, yl⟩ := three_cells hY3
      go_wp2_with fail
      refine (l1Least_of hK2 _).mono ?_
      rintro e w4 ⟨rfl, rfl⟩
      go_wp2_with fail
      refine (HDr.out _).mono ?_
      rintro e w5 ⟨rfl, hb5⟩
      have ho5 := own_below ho3 hb5
      have hX5 := hX3.below hb5 xl
      have hY5 := hY3.below hb5 yl
      have b5 := bstep hW (bstep b3 hb5)
      have x5 := hX5.lt
      have y5 := hY5.lt
      clear x0 x1 x2 x3 x4 xl y0 y1 y2 yl
      have z5 : w.heap.size + 2 ≤ w5.heap.size := by omega
      go_wp2_with (first | (at_builtin; refine wpList_append_own _ rfl (.tmp 22) (.tmp 27) 26 rfl (w.heap.size + 2) 3 i0 (.int .i64 0) 1 8 Try.underlying26 hi0 hz0 hz1 hz2 rfl (by decide) _ _ _ rfl (own_alloc ho5 _) ⟨_, 0, none⟩ 1 1 [.int .i64 y] rfl rfl ?c1 ?c2 ?c3 ?c4 ?c5 ?_))
      case c1 => exact one_new rfl
      case c2 => (first | rfl | (intro u hu; simp at hu; subst hu; rfl))
      case c3 => (unfold maxLen; omega)
      case c4 => omega
      case c5 => (simp; omega)
      intro v' w6 hown' hgrow _
      have hX6 := (hX5.alloc (.cells #[.int .i64 y] 3)).grown hgrow (by
        intro e
        have := (ho5.lt _ e.symm).1
        omega)
      have hY6 := (hY5.alloc (.cells #[.int .i64 y] 3)).grown hgrow (by
        intro e
        have := (ho5.lt _ e.symm).1
        omega)
      have b6 : Below w.heap.size w w6 := (balloc b5 (.cells #[.int .i64 y] 3)).grown hgrow (by simp; omega) (fun g hg => by have := (ho5.lt g hg).1; omega)
      go_wp2
      go_roundw
      case rel => exact ⟨j + 1, by omega, by go_num, by rw [HS.out]; simpa [ints] using hown', hX6, hY6, b6⟩
      case measure => simp [intOf]; omega
    · skip
      have hjn : j = K := by omega
      subst hjn
      have j1 : ¬ ((j : Int) + 1) ≤ (j : Int) := by omega
      go_wp2_with fail
      refine (l14Most_is g3 g4 g5 g6 g7 g8 HN.out _).mono ?_
      rintro e w3 ⟨rfl, b3⟩
      have hX3 := HX.out.below b3 xl
      have hY3 := HY.out.below b3 yl
      have ho3 := own_below hown b3
      clear x0 x1 x2 x3 x4 xl y0 y1 y2 yl
      obtain ⟨x0, x1, x2, x3, x4, xl⟩ := five_cells hX3
      obtain ⟨y0, y1, y2, yl⟩ := three_cells hY3
      go_wp2_with fail
      refine (l1Least_of hK2 _).mono ?_
      rintro e w4 ⟨rfl, rfl⟩
      have ho4 := own_weaken (base' := w.heap.size) ho3 (by omega)
      have HOW := Lib.hid ho4
      clear ho3 ho4
      go_wp2
      go_returns
      exact ⟨_, rfl, by rw [dml_len]; exact HOW.out, bstep hW b3⟩
theorem DropMinutes_is {q : Bool} {L : List Int} {i l s f fi wa le ba : Int} {N : Nat} (hN : acB i l s f fi = true → tgB wa le ba = true → MD s f fi wa le ba N) (hq : (acB i l s f fi && tgB wa le ba) = q) (hL : dmL i l s f fi wa le ba N = L) (w : World) :
    Calls Try.prog 23 #[.agg #[.int .i64 i, .int .i64 l, .int .i64 s, .int .i64 f, .int .i64 fi], .agg #[.int .i64 wa, .int .i64 le, .int .i64 ba]] w fun e w' => ∃ v, e = .returned (.tuple #[v, .bool q]) ∧ w'.ownsRow w.heap.size 3 1 v L.length (ints L) ∧ Below w.heap.size w w' := by
  have hA := fun W => isFlight_any i l s f fi wa le ba W
  rw [hq] at hA
  have HA := Lib.hid hA
  clear hA
  obtain ⟨i0, hi0, hz0, hz1, hz2⟩ := info_parts (show (Try.prog.info? 3).map (fun i => (i.zero, i.size, i.bytes)) = some (some (.int .i64 0), 1, 8) from by kernel_rfl)
  go_enter Try.func23, Try.ntmps23
  go_upto_region 1 with fail
  refine wp_gen (fun w0 => (Bk w0 w.heap.size 41 [.int .i64 i, .int .i64 l, .int .i64 s, .int .i64 f, .int .i64 fi] ∧ Bk w0 (w.heap.size + 1) 31 [.int .i64 wa, .int .i64 le, .int .i64 ba]) ∧ Below w.heap.size w w0) ⟨⟨Bk.alloc (Bk.new' rfl) _, Bk.new' (by simp)⟩, by (repeat' (first | (with_reducible exact Below.refl _ _) | (with_reducible assumption) | (with_reducible refine balloc ?_ _) | (with_reducible refine bdrew ?_) | (with_reducible refine bdrewN ?_ _) | (with_reducible refine bstep ?_ (by assumption)) | (with_reducible refine bset ?_ ?_ _) | (exact Below.size (by assumption)) | go_size))⟩ ?_
  intro w0 ⟨⟨hx, hy⟩, b0⟩
  obtain ⟨x0, x1, x2, x3, x4, xl⟩ := five_cells hx
  obtain ⟨y0, y1, y2, yl⟩ := three_cells hy
  have HX := Lib.hid hx
  have HY := Lib.hid hy
  clear hx hy
  cases q
  · obtain rfl : ([] : List Int) = L := by rw [← hL]; simp [dmL, hq]
    go_wp2_with fail
    refine (HA.out _).mono ?_
    rintro e w1 ⟨rfl, b1⟩
    go_wp2
    go_returns
    exact ⟨_, rfl, World.ownsRow_nil _ _ _ _, bstep b0 b1⟩
  obtain ⟨hac, htg⟩ : acB i l s f fi = true ∧ tgB wa le ba = true := by simpa using hq
  obtain ⟨g1, g2, g3, g4, g5⟩ := acB_bd hac
  obtain ⟨g6, g7, g8⟩ := tgB_bd htg
  have hmd := hN hac htg
  have HN := Lib.hid hmd
  have hN6 : N ≤ 600 := hmd.1
  obtain ⟨K, hK⟩ : ∃ K, min 20 N = K := ⟨_, rfl⟩
  obtain rfl : dml s fi wa le K = L := by rw [← hL, ← hK]; simp [dmL, hac, htg]
  have hK2 : min (20 : Int) (N : Int) = (K : Int) := by omega
  have K20 : K ≤ 20 := by omega
  clear hac htg hN hmd hq hL
  go_wp2_with fail
  refine (HA.out _).mono ?_
  rintro e w1 ⟨rfl, hb1⟩
  have b1 := bstep b0 hb1
  have HX := Lib.hid (HX.out.below hb1 HX.out.lt)
  have HY := Lib.hid (HY.out.below hb1 HY.out.lt)
  clear x0 x1 x2 x3 x4 xl y0 y1 y2 yl
  have hs1 : w.heap.size + 2 ≤ w1.heap.size := by have := HY.out.lt; omega
  have ho1 : (w1.alloc (.cells #[] 3)).ownsRow (w.heap.size + 2) 3 1 (.slice (some ⟨w1.heap.size, 0, none⟩) 0 0) 0 [] := own_lit' rfl hs1
  have HX := Lib.hid (HX.out.alloc (.cells #[] 3))
  have HY := Lib.hid (HY.out.alloc (.cells #[] 3))
  have b1 := balloc b1 (.cells #[] 3)
  go_wp2_with fail
  go_loopw [6, 7] (fun v d wr => ∃ j : Nat, j ≤ K ∧ d = .int .i64 ((j : Int) + 1) ∧ wr.ownsRow (w.heap.size + 2) 3 1 v j (ints (dml s fi wa le j)) ∧ Bk wr w.heap.size 41 [.int .i64 i, .int .i64 l, .int .i64 s, .int .i64 f, .int .i64 fi] ∧ Bk wr (w.heap.size + 1) 31 [.int .i64 wa, .int .i64 le, .int .i64 ba] ∧ Below w.heap.size w wr) (fun _ d _ => K + 1 - (intOf d).toNat)
  case atStart => exact ⟨0, Nat.zero_le _, rfl, ho1, HX.out, HY.out, b1⟩
  case round =>
    obtain ⟨j, hj, rfl, hown, hx, hy, hW⟩ := hrel
    clear HX HY
    obtain ⟨x0, x1, x2, x3, x4, xl⟩ := five_cells hx
    obtain ⟨y0, y1, y2, yl⟩ := three_cells hy
    have HX := Lib.hid hx
    have HY := Lib.hid hy
    clear hx hy
    by_cases hjK : j < K
    · skip
      rcases Nat.lt_trichotomy N 20 with hc | hc | hc
      · obtain rfl : K = N := by omega
        have m1 : (K : Int) < 20 := by omega
        have j1 : (j : Int) + 1 ≤ _ := Int.add_one_le_of_lt (Int.ofNat_lt.2 hjK)
        have hdb := drp_bd (k := (j : Int) + 1) g3 g5 g6 g7 (by omega)
        obtain ⟨y, hy⟩ : ∃ y, drp s fi wa le ((j : Int) + 1) = y := ⟨_, rfl⟩
        have HDr := Lib.hid (fun W => dropAt_is (i := i) (l := l) (f := f) (ba := ba) g3 g5 g6 g7 (k := (j : Int) + 1) (by omega) hy W)
        have hst : dml s fi wa le (j + 1) = dml s fi wa le j ++ [y] := by rw [← hy]; rfl
        have HS := Lib.hid hst
        clear hy hst hdb
        go_wp2_with fail
        refine (mostDrops_is g3 g4 g5 g6 g7 g8 HN.out _).mono ?_
        rintro e w3 ⟨rfl, b3⟩
        have hX3 := HX.out.below b3 xl
        have hY3 := HY.out.below b3 yl
        have ho3 := own_below hown b3
        clear x0 x1 x2 x3 x4 xl y0 y1 y2 yl
        obtain ⟨x0, x1, x2, x3, x4, xl⟩ := five_cells hX3
        obtain ⟨y0, y1, y2, yl⟩ := three_cells hY3
        go_wp2_with fail
        refine (HDr.out _).mono ?_
        rintro e w5 ⟨rfl, hb5⟩
        have ho5 := own_below ho3 hb5
        have hX5 := hX3.below hb5 xl
        have hY5 := hY3.below hb5 yl
        have b5 := bstep hW (bstep b3 hb5)
        have x5 := hX5.lt
        have y5 := hY5.lt
        clear x0 x1 x2 x3 x4 xl y0 y1 y2 yl
        have z5 : w.heap.size + 2 ≤ w5.heap.size := by omega
        go_wp2_with (first | (at_builtin; refine wpList_append_own _ rfl (.tmp 21) (.tmp 26) 26 rfl (w.heap.size + 2) 3 i0 (.int .i64 0) 1 8 Try.underlying26 hi0 hz0 hz1 hz2 rfl (by decide) _ _ _ rfl (own_alloc ho5 _) ⟨_, 0, none⟩ 1 1 [.int .i64 y] rfl rfl ?c1 ?c2 ?c3 ?c4 ?c5 ?_))
        case c1 => exact one_new rfl
        case c2 => (first | rfl | (intro u hu; simp at hu; subst hu; rfl))
        case c3 => (unfold maxLen; omega)
        case c4 => omega
        case c5 => (simp; omega)
        intro v' w6 hown' hgrow _
        have hX6 := (hX5.alloc (.cells #[.int .i64 y] 3)).grown hgrow (by
          intro e
          have := (ho5.lt _ e.symm).1
          omega)
        have hY6 := (hY5.alloc (.cells #[.int .i64 y] 3)).grown hgrow (by
          intro e
          have := (ho5.lt _ e.symm).1
          omega)
        have b6 : Below w.heap.size w w6 := (balloc b5 (.cells #[.int .i64 y] 3)).grown hgrow (by simp; omega) (fun g hg => by have := (ho5.lt g hg).1; omega)
        go_wp2
        go_roundw
        case rel => exact ⟨j + 1, by omega, by go_num, by rw [HS.out]; simpa [ints] using hown', hX6, hY6, b6⟩
        case measure => simp [intOf]; omega
      · subst hc
        obtain rfl : K = 20 := by omega
        have j1 : (j : Int) + 1 ≤ _ := Int.add_one_le_of_lt (Int.ofNat_lt.2 hjK)
        have hdb := drp_bd (k := (j : Int) + 1) g3 g5 g6 g7 (by omega)
        obtain ⟨y, hy⟩ : ∃ y, drp s fi wa le ((j : Int) + 1) = y := ⟨_, rfl⟩
        have HDr := Lib.hid (fun W => dropAt_is (i := i) (l := l) (f := f) (ba := ba) g3 g5 g6 g7 (k := (j : Int) + 1) (by omega) hy W)
        have hst : dml s fi wa le (j + 1) = dml s fi wa le j ++ [y] := by rw [← hy]; rfl
        have HS := Lib.hid hst
        clear hy hst hdb
        go_wp2_with fail
        refine (mostDrops_is g3 g4 g5 g6 g7 g8 HN.out _).mono ?_
        rintro e w3 ⟨rfl, b3⟩
        have hX3 := HX.out.below b3 xl
        have hY3 := HY.out.below b3 yl
        have ho3 := own_below hown b3
        clear x0 x1 x2 x3 x4 xl y0 y1 y2 yl
        obtain ⟨x0, x1, x2, x3, x4, xl⟩ := five_cells hX3
        obtain ⟨y0, y1, y2, yl⟩ := three_cells hY3
        go_wp2_with fail
        refine (HDr.out _).mono ?_
        rintro e w5 ⟨rfl, hb5⟩
        have ho5 := own_below ho3 hb5
        have hX5 := hX3.below hb5 xl
        have hY5 := hY3.below hb5 yl
        have b5 := bstep hW (bstep b3 hb5)
        have x5 := hX5.lt
        have y5 := hY5.lt
        clear x0 x1 x2 x3 x4 xl y0 y1 y2 yl
        have z5 : w.heap.size + 2 ≤ w5.heap.size := by omega
        go_wp2_with (first | (at_builtin; refine wpList_append_own _ rfl (.tmp 21) (.tmp 26) 26 rfl (w.heap.size + 2) 3 i0 (.int .i64 0) 1 8 Try.underlying26 hi0 hz0 hz1 hz2 rfl (by decide) _ _ _ rfl (own_alloc ho5 _) ⟨_, 0, none⟩ 1 1 [.int .i64 y] rfl rfl ?c1 ?c2 ?c3 ?c4 ?c5 ?_))
        case c1 => exact one_new rfl
        case c2 => (first | rfl | (intro u hu; simp at hu; subst hu; rfl))
        case c3 => (unfold maxLen; omega)
        case c4 => omega
        case c5 => (simp; omega)
        intro v' w6 hown' hgrow _
        have hX6 := (hX5.alloc (.cells #[.int .i64 y] 3)).grown hgrow (by
          intro e
          have := (ho5.lt _ e.symm).1
          omega)
        have hY6 := (hY5.alloc (.cells #[.int .i64 y] 3)).grown hgrow (by
          intro e
          have := (ho5.lt _ e.symm).1
          omega)
        have b6 : Below w.heap.size w w6 := (balloc b5 (.cells #[.int .i64 y] 3)).grown hgrow (by simp; omega) (fun g hg => by have := (ho5.lt g hg).1; omega)
        go_wp2
        go_roundw
        case rel => exact ⟨j + 1, by omega, by go_num, by rw [HS.out]; simpa [ints] using hown', hX6, hY6, b6⟩
        case measure => simp [intOf]; omega
      · obtain rfl : K = 20 := by omega
        have m1 : (20 : Int) < (N : Int) := by omega
        have j1 : (j : Int) + 1 ≤ _ := Int.add_one_le_of_lt (Int.ofNat_lt.2 hjK)
        have hdb := drp_bd (k := (j : Int) + 1) g3 g5 g6 g7 (by omega)
        obtain ⟨y, hy⟩ : ∃ y, drp s fi wa le ((j : Int) + 1) = y := ⟨_, rfl⟩
        have HDr := Lib.hid (fun W => dropAt_is (i := i) (l := l) (f := f) (ba := ba) g3 g5 g6 g7 (k := (j : Int) + 1) (by omega) hy W)
        have hst : dml s fi wa le (j + 1) = dml s fi wa le j ++ [y] := by rw [← hy]; rfl
        have HS := Lib.hid hst
        clear hy hst hdb
        go_wp2_with fail
        refine (mostDrops_is g3 g4 g5 g6 g7 g8 HN.out _).mono ?_
        rintro e w3 ⟨rfl, b3⟩
        have hX3 := HX.out.below b3 xl
        have hY3 := HY.out.below b3 yl
        have ho3 := own_below hown b3
        clear x0 x1 x2 x3 x4 xl y0 y1 y2 yl
        obtain ⟨x0, x1, x2, x3, x4, xl⟩ := five_cells hX3
        obtain ⟨y0, y1, y2, yl⟩ := three_cells hY3
        go_wp2_with fail
        refine (HDr.out _).mono ?_
        rintro e w5 ⟨rfl, hb5⟩
        have ho5 := own_below ho3 hb5
        have hX5 := hX3.below hb5 xl
        have hY5 := hY3.below hb5 yl
        have b5 := bstep hW (bstep b3 hb5)
        have x5 := hX5.lt
        have y5 := hY5.lt
        clear x0 x1 x2 x3 x4 xl y0 y1 y2 yl
        have z5 : w.heap.size + 2 ≤ w5.heap.size := by omega
        go_wp2_with (first | (at_builtin; refine wpList_append_own _ rfl (.tmp 21) (.tmp 26) 26 rfl (w.heap.size + 2) 3 i0 (.int .i64 0) 1 8 Try.underlying26 hi0 hz0 hz1 hz2 rfl (by decide) _ _ _ rfl (own_alloc ho5 _) ⟨_, 0, none⟩ 1 1 [.int .i64 y] rfl rfl ?c1 ?c2 ?c3 ?c4 ?c5 ?_))
        case c1 => exact one_new rfl
        case c2 => (first | rfl | (intro u hu; simp at hu; subst hu; rfl))
        case c3 => (unfold maxLen; omega)
        case c4 => omega
        case c5 => (simp; omega)
        intro v' w6 hown' hgrow _
        have hX6 := (hX5.alloc (.cells #[.int .i64 y] 3)).grown hgrow (by
          intro e
          have := (ho5.lt _ e.symm).1
          omega)
        have hY6 := (hY5.alloc (.cells #[.int .i64 y] 3)).grown hgrow (by
          intro e
          have := (ho5.lt _ e.symm).1
          omega)
        have b6 : Below w.heap.size w w6 := (balloc b5 (.cells #[.int .i64 y] 3)).grown hgrow (by simp; omega) (fun g hg => by have := (ho5.lt g hg).1; omega)
        go_wp2
        go_roundw
        case rel => exact ⟨j + 1, by omega, by go_num, by rw [HS.out]; simpa [ints] using hown', hX6, hY6, b6⟩
        case measure => simp [intOf]; omega
    · skip
      rcases Nat.lt_trichotomy N 20 with hc | hc | hc
      · obtain rfl : K = N := by omega
        have m1 : (K : Int) < 20 := by omega
        have hjn := Nat.le_antisymm hj (Nat.le_of_not_lt hjK)
        subst hjn
        skip
        go_wp2_with fail
        refine (mostDrops_is g3 g4 g5 g6 g7 g8 HN.out _).mono ?_
        rintro e w3 ⟨rfl, b3⟩
        have hX3 := HX.out.below b3 xl
        have hY3 := HY.out.below b3 yl
        have ho3 := own_below hown b3
        clear x0 x1 x2 x3 x4 xl y0 y1 y2 yl
        obtain ⟨x0, x1, x2, x3, x4, xl⟩ := five_cells hX3
        obtain ⟨y0, y1, y2, yl⟩ := three_cells hY3
        have ho4 := own_weaken (base' := w.heap.size) ho3 (by omega)
        have HOW := Lib.hid ho4
        clear ho3 ho4
        go_wp2
        go_returns
        exact ⟨_, rfl, by rw [dml_len]; exact HOW.out, bstep hW b3⟩
      · subst hc
        obtain rfl : K = 20 := by omega
        have hjn := Nat.le_antisymm hj (Nat.le_of_not_lt hjK)
        subst hjn
        skip
        go_wp2_with fail
        refine (mostDrops_is g3 g4 g5 g6 g7 g8 HN.out _).mono ?_
        rintro e w3 ⟨rfl, b3⟩
        have hX3 := HX.out.below b3 xl
        have hY3 := HY.out.below b3 yl
        have ho3 := own_below hown b3
        clear x0 x1 x2 x3 x4 xl y0 y1 y2 yl
        obtain ⟨x0, x1, x2, x3, x4, xl⟩ := five_cells hX3
        obtain ⟨y0, y1, y2, yl⟩ := three_cells hY3
        have ho4 := own_weaken (base' := w.heap.size) ho3 (by omega)
        have HOW := Lib.hid ho4
        clear ho3 ho4
        go_wp2
        go_returns
        exact ⟨_, rfl, by rw [dml_len]; exact HOW.out, bstep hW b3⟩
      · obtain rfl : K = 20 := by omega
        have m1 : (20 : Int) < (N : Int) := by omega
        have hjn := Nat.le_antisymm hj (Nat.le_of_not_lt hjK)
        subst hjn
        skip
        go_wp2_with fail
        refine (mostDrops_is g3 g4 g5 g6 g7 g8 HN.out _).mono ?_
        rintro e w3 ⟨rfl, b3⟩
        have hX3 := HX.out.below b3 xl
        have hY3 := HY.out.below b3 yl
        have ho3 := own_below hown b3
        clear x0 x1 x2 x3 x4 xl y0 y1 y2 yl
        obtain ⟨x0, x1, x2, x3, x4, xl⟩ := five_cells hX3
        obtain ⟨y0, y1, y2, yl⟩ := three_cells hY3
        have ho4 := own_weaken (base' := w.heap.size) ho3 (by omega)
        have HOW := Lib.hid ho4
        clear ho3 ho4
        go_wp2
        go_returns
        exact ⟨_, rfl, by rw [dml_len]; exact HOW.out, bstep hW b3⟩
end Go.Proofs.Ytbioleagenoogaa
