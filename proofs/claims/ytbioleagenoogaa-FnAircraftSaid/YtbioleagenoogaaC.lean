/-
  LitersIn of the reference and of the program. Conditions: the bounds that stand in each statement.
-/
import Derived.Test.YtbioleagenoogaaB
namespace Go.Proofs.Ytbioleagenoogaa
open Go.RowKit
set_option maxRecDepth 100000
set_option maxHeartbeats 1000000

/-- how many of the first j drops of a sortie that begins at b lie within M minutes -/
def cin (s fi wa le M b : Int) : Nat → Int
  | 0 => 0
  | j + 1 => cin s fi wa le M b j + (if b + drp s fi wa le ((j : Int) + 1) ≤ M then 1 else 0)
theorem cin_bd (s fi wa le M b : Int) : ∀ j, 0 ≤ cin s fi wa le M b j ∧ cin s fi wa le M b j ≤ (j : Int)
  | 0 => by simp [cin]
  | j + 1 => by
    have h := cin_bd s fi wa le M b j
    unfold cin
    split <;> omega
/-- the drops of all sorties from minute b on, a sortie every P minutes, N drops each -/
def lit (s fi wa le M P : Int) (N : Nat) : Nat → Int → Int
  | 0, _ => 0
  | g + 1, b => if b ≤ M then cin s fi wa le M b N + lit s fi wa le M P N g (b + P) else 0
theorem lit_step {s fi wa le M P b : Int} {N g : Nat} (h : b ≤ M) : lit s fi wa le M P N (g + 1) b = cin s fi wa le M b N + lit s fi wa le M P N g (b + P) := by
  show (if b ≤ M then _ else _) = _
  rw [if_pos h]
theorem lit_end {s fi wa le M P b : Int} {N g : Nat} (h : ¬ b ≤ M) : lit s fi wa le M P N g b = 0 := by
  cases g with
  | zero => rfl
  | succ g => show (if b ≤ M then _ else _) = _; rw [if_neg h]
def litB (i l s f fi wa le ba M t : Int) : Bool := (acB i l s f fi && tgB wa le ba) && (inB M 0 2000 && inB t 1 120)
def litI (i l s f fi wa le ba M t : Int) (N : Nat) : Int := if litB i l s f fi wa le ba M t = true then (if N = 0 then 0 else lit s fi wa le M (srt s fi wa le ba N + t) N 2001 0) * l else 0
theorem sLitersIn_is {q : Bool} {v i l s f fi wa le ba M t : Int} {N : Nat} (hN : acB i l s f fi = true → tgB wa le ba = true → MD s f fi wa le ba N) (hq : litB i l s f fi wa le ba M t = q) (hv : litI i l s f fi wa le ba M t N = v) (w : World) :
    Calls Try.prog 35 #[.agg #[.int .i64 i, .int .i64 l, .int .i64 s, .int .i64 f, .int .i64 fi], .agg #[.int .i64 wa, .int .i64 le, .int .i64 ba], .int .i64 M, .int .i64 t] w fun e w' => e = .returned (.tuple #[.int .i64 v, .bool q]) ∧ Below w.heap.size w w' := by
  have hA := fun W => l14Asked_any i l s f fi wa le ba W
  obtain ⟨u, hu⟩ : ∃ u, (acB i l s f fi && tgB wa le ba) = u := ⟨_, rfl⟩
  rw [hu] at hA
  have HA := Lib.hid hA
  clear hA
  go_enter Try.func35, Try.ntmps35
  go_upto_region 1 with fail
  refine wp_gen (fun w0 => Bk w0 w.heap.size 41 [.int .i64 i, .int .i64 l, .int .i64 s, .int .i64 f, .int .i64 fi] ∧ Bk w0 (w.heap.size + 1) 31 [.int .i64 wa, .int .i64 le, .int .i64 ba] ∧ Below w.heap.size w w0) ⟨Bk.alloc (Bk.new' rfl) _, Bk.new' (by simp), by (repeat' (first | (with_reducible exact Below.refl _ _) | (with_reducible assumption) | (with_reducible refine balloc ?_ _) | (with_reducible refine bdrew ?_) | (with_reducible refine bdrewN ?_ _) | (with_reducible refine bstep ?_ (by assumption)) | (with_reducible refine bset ?_ ?_ _) | (exact Below.size (by assumption)) | go_size))⟩ ?_
  intro w0 ⟨hx, hy, b0⟩
  obtain ⟨x0, x1, x2, x3, x4, xl⟩ := five_cells hx
  obtain ⟨y0, y1, y2, yl⟩ := three_cells hy
  have HX := Lib.hid hx
  have HY := Lib.hid hy
  clear hx hy
  cases u
  · skip
    obtain rfl : q = false := by rw [← hq]; simp [litB, hu]
    obtain rfl : v = 0 := by rw [← hv]; simp [litI, hq]
    clear hq hv hu
    go_wp2_with fail
    refine (HA.out _).mono ?_
    rintro e w1 ⟨rfl, b1⟩
    go_wp2
    go_returns
    exact ⟨rfl, bstep b0 b1⟩
  rcases hM : inB M 0 2000 with _ | _
  · skip
    obtain rfl : q = false := by rw [← hq]; simp [litB, hM]
    obtain rfl : v = 0 := by rw [← hv]; simp [litI, hq]
    clear hq hv hu
    go_wp2_with fail
    refine (HA.out _).mono ?_
    rintro e w1 ⟨rfl, b1⟩
    go_wp2_with fail
    refine (l1In_of false hM _).mono ?_
    rintro e w2 ⟨rfl, rfl⟩
    go_wp2
    go_returns
    exact ⟨rfl, bstep b0 b1⟩
  rcases ht : inB t 1 120 with _ | _
  · skip
    obtain rfl : q = false := by rw [← hq]; simp [litB, ht]
    obtain rfl : v = 0 := by rw [← hv]; simp [litI, hq]
    clear hq hv hu
    go_wp2_with fail
    refine (HA.out _).mono ?_
    rintro e w1 ⟨rfl, b1⟩
    go_wp2_with fail
    refine (l1In_of true hM _).mono ?_
    rintro e w2 ⟨rfl, rfl⟩
    go_wp2_with fail
    refine (l1In_of false ht _).mono ?_
    rintro e w2 ⟨rfl, rfl⟩
    go_wp2
    go_returns
    exact ⟨rfl, bstep b0 b1⟩
  obtain ⟨hac, htg⟩ : acB i l s f fi = true ∧ tgB wa le ba = true := by simpa using hu
  obtain ⟨g1, g2, g3, g4, g5⟩ := acB_bd hac
  obtain ⟨g6, g7, g8⟩ := tgB_bd htg
  have hmd := hN hac htg
  have HN := Lib.hid hmd
  have hN6 : N ≤ 600 := hmd.1
  obtain rfl : q = true := by rw [← hq]; simp [litB, hu, hM, ht]
  have hv2 : (if N = 0 then 0 else lit s fi wa le M (srt s fi wa le ba N + t) N 2001 0) * l = v := by rw [← hv]; unfold litI; rw [if_pos hq]
  have bM := inB_iff.1 hM
  have bt := inB_iff.1 ht
  clear hu hac htg hN hmd hq hv
  go_wp2_with fail
  refine (HA.out _).mono ?_
  rintro e w1 ⟨rfl, b1⟩
  go_wp2_with fail
  refine (l1In_of true hM _).mono ?_
  rintro e w2 ⟨rfl, rfl⟩
  go_wp2_with fail
  refine (l1In_of true ht _).mono ?_
  rintro e w2 ⟨rfl, rfl⟩
  have HX := Lib.hid (HX.out.below b1 HX.out.lt)
  have HY := Lib.hid (HY.out.below b1 HY.out.lt)
  clear x0 x1 x2 x3 x4 xl y0 y1 y2 yl
  obtain ⟨x0, x1, x2, x3, x4, xl⟩ := five_cells HX.out
  obtain ⟨y0, y1, y2, yl⟩ := three_cells HY.out
  go_wp2_with fail
  refine (l14Most_is g3 g4 g5 g6 g7 g8 HN.out _).mono ?_
  rintro e w3 ⟨rfl, b3⟩
  have b1 := bstep b0 (bstep b1 b3)
  have HX := Lib.hid (HX.out.below b3 HX.out.lt)
  have HY := Lib.hid (HY.out.below b3 HY.out.lt)
  clear x0 x1 x2 x3 x4 xl y0 y1 y2 yl
  obtain ⟨x0, x1, x2, x3, x4, xl⟩ := five_cells HX.out
  obtain ⟨y0, y1, y2, yl⟩ := three_cells HY.out
  clear b3 b0
  by_cases hz : N = 0
  · subst hz
    obtain rfl : v = 0 := by rw [← hv2]; simp
    clear hv2
    go_wp2_with fail
    go_loopw [10, 12] (fun n b wr => n = .int .i64 0 ∧ b = .int .i64 0 ∧ wr = w3) (fun _ _ _ => 0)
    case atStart => exact ⟨rfl, rfl, rfl⟩
    case round =>
      obtain ⟨rfl, rfl, rfl⟩ := hrel
      go_wp2
      go_returns
      exact ⟨by first | rfl | simp, b1⟩
  rw [if_neg hz] at hv2
  have n0 : 0 < (N : Int) := by omega
  have n1 : ((N : Int) == 0) = false := by simp; omega
  have hsb := srt_bd (k := (N : Int)) g3 g5 g6 g7 g8 (by omega)
  have hso : srt s fi wa le ba N ≤ 600 := by
    have := HN.out.2.2 (N - 1) (by omega)
    rw [show (((N - 1 : Nat) : Int) + 1) = (N : Int) from by omega] at this
    omega
  obtain ⟨S, hS⟩ : ∃ S, srt s fi wa le ba N = S := ⟨_, rfl⟩
  rw [hS] at hv2 hsb hso
  have S1 : 1 ≤ S := by have := hsb.2.2 (by omega); omega
  have HSo := Lib.hid (fun W => l14Sortie_is (i := i) (l := l) (f := f) g3 g5 g6 g7 g8 (k := (N : Int)) (by omega) hS W)
  clear hS hsb
  obtain ⟨TT, hTT⟩ : ∃ T, lit s fi wa le M (S + t) N 2001 0 = T := ⟨_, rfl⟩
  rw [hTT] at hv2
  have HT := Lib.hid hTT
  clear hTT
  go_wp2_with fail
  go_loopw [10, 12] (fun n b wr => ∃ (acc x : Int) (g : Nat), n = .int .i64 acc ∧ b = .int .i64 x ∧ 0 ≤ x ∧ x ≤ 4000 ∧ 0 ≤ acc ∧ acc ≤ 600 * x ∧ M - x < (g : Int) ∧ Hid (acc + lit s fi wa le M (S + t) N g x = TT) ∧ Bk wr w.heap.size 41 [.int .i64 i, .int .i64 l, .int .i64 s, .int .i64 f, .int .i64 fi] ∧ Bk wr (w.heap.size + 1) 31 [.int .i64 wa, .int .i64 le, .int .i64 ba] ∧ Below w.heap.size w wr) (fun _ b _ => (4001 - intOf b).toNat)
  case atStart => exact ⟨0, 0, 2001, rfl, rfl, by omega, by omega, by omega, by omega, by omega, Lib.hid (by rw [HT.out]; omega), HX.out, HY.out, b1⟩
  case round =>
    obtain ⟨acc, x, g, rfl, rfl, hx0, hx1, ha0, ha1, hg, HL, hx, hy, hW⟩ := hrel
    clear HX HY x0 x1 x2 x3 x4 xl y0 y1 y2 yl
    obtain ⟨x0, x1, x2, x3, x4, xl⟩ := five_cells hx
    obtain ⟨y0, y1, y2, yl⟩ := three_cells hy
    have HX := Lib.hid hx
    have HY := Lib.hid hy
    clear hx hy
    by_cases hxM : x ≤ M
    · obtain ⟨g', rfl⟩ : ∃ g', g = g' + 1 := ⟨g - 1, by omega⟩
      have hst := HL.out
      rw [lit_step hxM] at hst
      have HS := Lib.hid hst
      clear hst HL
      obtain ⟨wo, rfl⟩ : ∃ wo, wo = wr := ⟨_, rfl⟩
      go_wp2_with fail
      clear x0 x1 x2 x3 x4 xl y0 y1 y2 yl
      go_loopw [10, 13] (fun n d wr => ∃ j : Nat, j ≤ N ∧ n = .int .i64 (acc + cin s fi wa le M x j) ∧ d = .int .i64 ((j : Int) + 1) ∧ Bk wr w.heap.size 41 [.int .i64 i, .int .i64 l, .int .i64 s, .int .i64 f, .int .i64 fi] ∧ Bk wr (w.heap.size + 1) 31 [.int .i64 wa, .int .i64 le, .int .i64 ba] ∧ Below w.heap.size w wr) (fun _ d _ => N + 1 - (intOf d).toNat)
      case atStart => exact ⟨0, Nat.zero_le _, by simp [cin], rfl, HX.out, HY.out, hW⟩
      case round =>
        obtain ⟨j, hj, rfl, rfl, hx, hy, hV⟩ := hrel
        obtain ⟨x0, x1, x2, x3, x4, xl⟩ := five_cells hx
        obtain ⟨y0, y1, y2, yl⟩ := three_cells hy
        have HX := Lib.hid hx
        have HY := Lib.hid hy
        clear hx hy
        have hcb := cin_bd s fi wa le M x j
        obtain ⟨cc, hcc⟩ : ∃ c, cin s fi wa le M x j = c := ⟨_, rfl⟩
        rw [hcc] at hcb ⊢
        by_cases hjN : j < N
        · have hdb := drp_bd (k := (j : Int) + 1) g3 g5 g6 g7 (by omega)
          obtain ⟨y, hy⟩ : ∃ y, drp s fi wa le ((j : Int) + 1) = y := ⟨_, rfl⟩
          have hst : cin s fi wa le M x (j + 1) = cc + (if x + y ≤ M then 1 else 0) := by show cin s fi wa le M x j + (if x + drp s fi wa le ((j : Int) + 1) ≤ M then 1 else 0) = _; rw [hcc, hy]
          have HDr := Lib.hid (fun W => l14Minutes_is (i := i) (l := l) (f := f) (ba := ba) g3 g5 g6 g7 (k := (j : Int) + 1) (by omega) hy W)
          rw [hy] at hdb
          obtain ⟨hd1, hd2, _⟩ := hdb
          have j1 : ((j : Int) + 1) ≤ (N : Int) := by omega
          clear hcc hy
          by_cases hyM : x + y ≤ M
          · rw [if_pos hyM] at hst
            have HC := Lib.hid hst
            clear hst
            go_wp2_with fail
            refine (HDr.out _).mono ?_
            rintro e w5 ⟨rfl, hb5⟩
            have hX5 := HX.out.below hb5 xl
            have hY5 := HY.out.below hb5 yl
            clear x0 x1 x2 x3 x4 xl y0 y1 y2 yl
            go_wp2
            go_roundw
            case rel => exact ⟨j + 1, by omega, by rw [HC.out]; go_num, by go_num, hX5, hY5, bstep hV hb5⟩
            case measure => simp [intOf]; omega
          · rw [if_neg hyM] at hst
            have HC := Lib.hid hst
            clear hst
            go_wp2_with fail
            refine (HDr.out _).mono ?_
            rintro e w5 ⟨rfl, hb5⟩
            have hX5 := HX.out.below hb5 xl
            have hY5 := HY.out.below hb5 yl
            clear x0 x1 x2 x3 x4 xl y0 y1 y2 yl
            go_wp2
            go_roundw
            case rel => exact ⟨j + 1, by omega, by rw [HC.out]; go_num, by go_num, hX5, hY5, bstep hV hb5⟩
            case measure => simp [intOf]; omega
        · have hjn : j = N := by omega
          subst hjn
          rw [hcc] at HS
          clear hcc
          have j1 : ¬ ((j : Int) + 1) ≤ (j : Int) := by omega
          go_wp2_with fail
          refine (HSo.out _).mono ?_
          rintro e w5 ⟨rfl, hb5⟩
          have hX5 := HX.out.below hb5 xl
          have hY5 := HY.out.below hb5 yl
          clear x0 x1 x2 x3 x4 xl y0 y1 y2 yl
          go_wp2
          go_roundw
          case rel => exact ⟨acc + cc, x + (S + t), g', by go_num, by go_num, by omega, by omega, by omega, by omega, by omega, Lib.hid (by have := HS.out; omega), hX5, hY5, bstep hV hb5⟩
          case measure => simp [intOf]; omega
    · have hst := HL.out
      rw [lit_end hxM] at hst
      obtain rfl : acc = TT := by omega
      have hpb : 0 ≤ acc * l ∧ acc * l ≤ 48000000000 := ⟨Int.mul_nonneg ha0 (by omega), by
        have h1 : acc * l ≤ 2400000 * l := Int.mul_le_mul_of_nonneg_right (by omega) (by omega)
        omega⟩
      rw [hv2] at hpb
      clear hst HL HT
      go_wp2
      go_returns
      exact ⟨by first | rfl | (simp [hv2]; done) | (congr 3; go_num), hW⟩
theorem LitersIn_is {q : Bool} {v i l s f fi wa le ba M t : Int} {N : Nat} (hN : acB i l s f fi = true → tgB wa le ba = true → MD s f fi wa le ba N) (hq : litB i l s f fi wa le ba M t = q) (hv : litI i l s f fi wa le ba M t N = v) (w : World) :
    Calls Try.prog 34 #[.agg #[.int .i64 i, .int .i64 l, .int .i64 s, .int .i64 f, .int .i64 fi], .agg #[.int .i64 wa, .int .i64 le, .int .i64 ba], .int .i64 M, .int .i64 t] w fun e w' => e = .returned (.tuple #[.int .i64 v, .bool q]) ∧ Below w.heap.size w w' := by
  have hA := fun W => isFlight_any i l s f fi wa le ba W
  obtain ⟨u, hu⟩ : ∃ u, (acB i l s f fi && tgB wa le ba) = u := ⟨_, rfl⟩
  rw [hu] at hA
  have HA := Lib.hid hA
  clear hA
  go_enter Try.func34, Try.ntmps34
  go_upto_region 1 with fail
  refine wp_gen (fun w0 => Bk w0 w.heap.size 41 [.int .i64 i, .int .i64 l, .int .i64 s, .int .i64 f, .int .i64 fi] ∧ Bk w0 (w.heap.size + 1) 31 [.int .i64 wa, .int .i64 le, .int .i64 ba] ∧ Below w.heap.size w w0) ⟨Bk.alloc (Bk.new' rfl) _, Bk.new' (by simp), by (repeat' (first | (with_reducible exact Below.refl _ _) | (with_reducible assumption) | (with_reducible refine balloc ?_ _) | (with_reducible refine bdrew ?_) | (with_reducible refine bdrewN ?_ _) | (with_reducible refine bstep ?_ (by assumption)) | (with_reducible refine bset ?_ ?_ _) | (exact Below.size (by assumption)) | go_size))⟩ ?_
  intro w0 ⟨hx, hy, b0⟩
  obtain ⟨x0, x1, x2, x3, x4, xl⟩ := five_cells hx
  obtain ⟨y0, y1, y2, yl⟩ := three_cells hy
  have HX := Lib.hid hx
  have HY := Lib.hid hy
  clear hx hy
  cases u
  · skip
    obtain rfl : q = false := by rw [← hq]; simp [litB, hu]
    obtain rfl : v = 0 := by rw [← hv]; simp [litI, hq]
    clear hq hv hu
    go_wp2_with fail
    refine (HA.out _).mono ?_
    rintro e w1 ⟨rfl, b1⟩
    go_wp2
    go_returns
    exact ⟨rfl, bstep b0 b1⟩
  rcases hM : inB M 0 2000 with _ | _
  · skip
    obtain rfl : q = false := by rw [← hq]; simp [litB, hM]
    obtain rfl : v = 0 := by rw [← hv]; simp [litI, hq]
    clear hq hv hu
    go_wp2_with fail
    refine (HA.out _).mono ?_
    rintro e w1 ⟨rfl, b1⟩
    go_wp2_with fail
    refine (in_of false hM _).mono ?_
    rintro e w2 ⟨rfl, rfl⟩
    go_wp2
    go_returns
    exact ⟨rfl, bstep b0 b1⟩
  rcases ht : inB t 1 120 with _ | _
  · skip
    obtain rfl : q = false := by rw [← hq]; simp [litB, ht]
    obtain rfl : v = 0 := by rw [← hv]; simp [litI, hq]
    clear hq hv hu
    go_wp2_with fail
    refine (HA.out _).mono ?_
    rintro e w1 ⟨rfl, b1⟩
    go_wp2_with fail
    refine (in_of true hM _).mono ?_
    rintro e w2 ⟨rfl, rfl⟩
    go_wp2_with fail
    refine (in_of false ht _).mono ?_
    rintro e w2 ⟨rfl, rfl⟩
    go_wp2
    go_returns
    exact ⟨rfl, bstep b0 b1⟩
  obtain ⟨hac, htg⟩ : acB i l s f fi = true ∧ tgB wa le ba = true := by simpa using hu
  obtain ⟨g1, g2, g3, g4, g5⟩ := acB_bd hac
  obtain ⟨g6, g7, g8⟩ := tgB_bd htg
  have hmd := hN hac htg
  have HN := Lib.hid hmd
  have hN6 : N ≤ 600 := hmd.1
  obtain rfl : q = true := by rw [← hq]; simp [litB, hu, hM, ht]
  have hv2 : (if N = 0 then 0 else lit s fi wa le M (srt s fi wa le ba N + t) N 2001 0) * l = v := by rw [← hv]; unfold litI; rw [if_pos hq]
  have bM := inB_iff.1 hM
  have bt := inB_iff.1 ht
  clear hu hac htg hN hmd hq hv
  go_wp2_with fail
  refine (HA.out _).mono ?_
  rintro e w1 ⟨rfl, b1⟩
  go_wp2_with fail
  refine (in_of true hM _).mono ?_
  rintro e w2 ⟨rfl, rfl⟩
  go_wp2_with fail
  refine (in_of true ht _).mono ?_
  rintro e w2 ⟨rfl, rfl⟩
  have HX := Lib.hid (HX.out.below b1 HX.out.lt)
  have HY := Lib.hid (HY.out.below b1 HY.out.lt)
  clear x0 x1 x2 x3 x4 xl y0 y1 y2 yl
  obtain ⟨x0, x1, x2, x3, x4, xl⟩ := five_cells HX.out
  obtain ⟨y0, y1, y2, yl⟩ := three_cells HY.out
  go_wp2_with fail
  refine (mostDrops_is g3 g4 g5 g6 g7 g8 HN.out _).mono ?_
  rintro e w3 ⟨rfl, b3⟩
  have b1 := bstep b0 (bstep b1 b3)
  have HX := Lib.hid (HX.out.below b3 HX.out.lt)
  have HY := Lib.hid (HY.out.below b3 HY.out.lt)
  clear x0 x1 x2 x3 x4 xl y0 y1 y2 yl
  obtain ⟨x0, x1, x2, x3, x4, xl⟩ := five_cells HX.out
  obtain ⟨y0, y1, y2, yl⟩ := three_cells HY.out
  clear b3 b0
  by_cases hz : N = 0
  · subst hz
    obtain rfl : v = 0 := by rw [← hv2]; simp
    clear hv2
    go_wp2
    go_returns
    exact ⟨rfl, b1⟩
  rw [if_neg hz] at hv2
  have n0 : 0 < (N : Int) := by omega
  have n1 : ((N : Int) == 0) = false := by simp; omega
  have hsb := srt_bd (k := (N : Int)) g3 g5 g6 g7 g8 (by omega)
  have hso : srt s fi wa le ba N ≤ 600 := by
    have := HN.out.2.2 (N - 1) (by omega)
    rw [show (((N - 1 : Nat) : Int) + 1) = (N : Int) from by omega] at this
    omega
  obtain ⟨S, hS⟩ : ∃ S, srt s fi wa le ba N = S := ⟨_, rfl⟩
  rw [hS] at hv2 hsb hso
  have S1 : 1 ≤ S := by have := hsb.2.2 (by omega); omega
  have HSo := Lib.hid (fun W => sortie_is (i := i) (l := l) (f := f) g3 g5 g6 g7 g8 (k := (N : Int)) (by omega) hS W)
  clear hS hsb
  obtain ⟨TT, hTT⟩ : ∃ T, lit s fi wa le M (S + t) N 2001 0 = T := ⟨_, rfl⟩
  rw [hTT] at hv2
  have HT := Lib.hid hTT
  clear hTT
  go_wp2_with fail
  go_loopw [11, 12] (fun n b wr => ∃ (acc x : Int) (g : Nat), n = .int .i64 acc ∧ b = .int .i64 x ∧ 0 ≤ x ∧ x ≤ 4000 ∧ 0 ≤ acc ∧ acc ≤ 600 * x ∧ M - x < (g : Int) ∧ Hid (acc + lit s fi wa le M (S + t) N g x = TT) ∧ Bk wr w.heap.size 41 [.int .i64 i, .int .i64 l, .int .i64 s, .int .i64 f, .int .i64 fi] ∧ Bk wr (w.heap.size + 1) 31 [.int .i64 wa, .int .i64 le, .int .i64 ba] ∧ Below w.heap.size w wr) (fun _ b _ => (4001 - intOf b).toNat)
  case atStart => exact ⟨0, 0, 2001, rfl, rfl, by omega, by omega, by omega, by omega, by omega, Lib.hid (by rw [HT.out]; omega), HX.out, HY.out, b1⟩
  case round =>
    obtain ⟨acc, x, g, rfl, rfl, hx0, hx1, ha0, ha1, hg, HL, hx, hy, hW⟩ := hrel
    clear HX HY x0 x1 x2 x3 x4 xl y0 y1 y2 yl
    obtain ⟨x0, x1, x2, x3, x4, xl⟩ := five_cells hx
    obtain ⟨y0, y1, y2, yl⟩ := three_cells hy
    have HX := Lib.hid hx
    have HY := Lib.hid hy
    clear hx hy
    by_cases hxM : x ≤ M
    · obtain ⟨g', rfl⟩ : ∃ g', g = g' + 1 := ⟨g - 1, by omega⟩
      have hst := HL.out
      rw [lit_step hxM] at hst
      have HS := Lib.hid hst
      clear hst HL
      obtain ⟨wo, rfl⟩ : ∃ wo, wo = wr := ⟨_, rfl⟩
      go_wp2_with fail
      clear x0 x1 x2 x3 x4 xl y0 y1 y2 yl
      go_loopw [11, 13] (fun n d wr => ∃ j : Nat, j ≤ N ∧ n = .int .i64 (acc + cin s fi wa le M x j) ∧ d = .int .i64 ((j : Int) + 1) ∧ Bk wr w.heap.size 41 [.int .i64 i, .int .i64 l, .int .i64 s, .int .i64 f, .int .i64 fi] ∧ Bk wr (w.heap.size + 1) 31 [.int .i64 wa, .int .i64 le, .int .i64 ba] ∧ Below w.heap.size w wr) (fun _ d _ => N + 1 - (intOf d).toNat)
      case atStart => exact ⟨0, Nat.zero_le _, by simp [cin], rfl, HX.out, HY.out, hW⟩
      case round =>
        obtain ⟨j, hj, rfl, rfl, hx, hy, hV⟩ := hrel
        obtain ⟨x0, x1, x2, x3, x4, xl⟩ := five_cells hx
        obtain ⟨y0, y1, y2, yl⟩ := three_cells hy
        have HX := Lib.hid hx
        have HY := Lib.hid hy
        clear hx hy
        have hcb := cin_bd s fi wa le M x j
        obtain ⟨cc, hcc⟩ : ∃ c, cin s fi wa le M x j = c := ⟨_, rfl⟩
        rw [hcc] at hcb ⊢
        by_cases hjN : j < N
        · have hdb := drp_bd (k := (j : Int) + 1) g3 g5 g6 g7 (by omega)
          obtain ⟨y, hy⟩ : ∃ y, drp s fi wa le ((j : Int) + 1) = y := ⟨_, rfl⟩
          have hst : cin s fi wa le M x (j + 1) = cc + (if x + y ≤ M then 1 else 0) := by show cin s fi wa le M x j + (if x + drp s fi wa le ((j : Int) + 1) ≤ M then 1 else 0) = _; rw [hcc, hy]
          have HDr := Lib.hid (fun W => dropAt_is (i := i) (l := l) (f := f) (ba := ba) g3 g5 g6 g7 (k := (j : Int) + 1) (by omega) hy W)
          rw [hy] at hdb
          obtain ⟨hd1, hd2, _⟩ := hdb
          have j1 : ((j : Int) + 1) ≤ (N : Int) := by omega
          clear hcc hy
          by_cases hyM : x + y ≤ M
          · rw [if_pos hyM] at hst
            have HC := Lib.hid hst
            clear hst
            go_wp2_with fail
            refine (HDr.out _).mono ?_
            rintro e w5 ⟨rfl, hb5⟩
            have hX5 := HX.out.below hb5 xl
            have hY5 := HY.out.below hb5 yl
            clear x0 x1 x2 x3 x4 xl y0 y1 y2 yl
            go_wp2
            go_roundw
            case rel => exact ⟨j + 1, by omega, by rw [HC.out]; go_num, by go_num, hX5, hY5, bstep hV hb5⟩
            case measure => simp [intOf]; omega
          · rw [if_neg hyM] at hst
            have HC := Lib.hid hst
            clear hst
            go_wp2_with fail
            refine (HDr.out _).mono ?_
            rintro e w5 ⟨rfl, hb5⟩
            have hX5 := HX.out.below hb5 xl
            have hY5 := HY.out.below hb5 yl
            clear x0 x1 x2 x3 x4 xl y0 y1 y2 yl
            go_wp2
            go_roundw
            case rel => exact ⟨j + 1, by omega, by rw [HC.out]; go_num, by go_num, hX5, hY5, bstep hV hb5⟩
            case measure => simp [intOf]; omega
        · have hjn : j = N := by omega
          subst hjn
          rw [hcc] at HS
          clear hcc
          have j1 : ¬ ((j : Int) + 1) ≤ (j : Int) := by omega
          go_wp2_with fail
          refine (HSo.out _).mono ?_
          rintro e w5 ⟨rfl, hb5⟩
          have hX5 := HX.out.below hb5 xl
          have hY5 := HY.out.below hb5 yl
          clear x0 x1 x2 x3 x4 xl y0 y1 y2 yl
          go_wp2
          go_roundw
          case rel => exact ⟨acc + cc, x + (S + t), g', by go_num, by go_num, by omega, by omega, by omega, by omega, by omega, Lib.hid (by have := HS.out; omega), hX5, hY5, bstep hV hb5⟩
          case measure => simp [intOf]; omega
    · have hst := HL.out
      rw [lit_end hxM] at hst
      obtain rfl : acc = TT := by omega
      have hpb : 0 ≤ acc * l ∧ acc * l ≤ 48000000000 := ⟨Int.mul_nonneg ha0 (by omega), by
        have h1 : acc * l ≤ 2400000 * l := Int.mul_le_mul_of_nonneg_right (by omega) (by omega)
        omega⟩
      rw [hv2] at hpb
      clear hst HL HT
      go_wp2
      go_returns
      exact ⟨by first | rfl | (simp [hv2]; done) | (congr 3; go_num), hW⟩
end Go.Proofs.Ytbioleagenoogaa
