/-
  SituationText of the program and of the reference, and the law over them. Conditions: the library's table reads as its program's text lays it.
-/
import Derived.Test.YtcebbmikgpipeaaGreatDoorNU
import Derived.Test.YtcebbmikgpipeaaGreatDoorA
import Derived.Test.YtcebbmikgpipeaaGreatDoorS
namespace Go.Proofs.YtcebbmikgpipeaaGreatDoor
open Go Go.RowKit
set_option maxRecDepth 100000
set_option maxHeartbeats 4000000

def countS (n : Nat) (a b : ByteArray) : ByteArray := if n = 1 then ({ data := #[49, 32] } : ByteArray) ++ a else (numS n ++ ({ data := #[32] } : ByteArray)) ++ b
theorem countS_size {n : Nat} {a b : ByteArray} (hn : n ≤ 1000000000) (ha : a.size ≤ 100) (hb : b.size ≤ 100) : (countS n a b).size ≤ 200 := by
  have h := numS_size (n := n) (by omega)
  unfold countS
  split
  · rw [ByteArray.size_append]; simp only [ByteArray.size_mk']; simp; omega
  · rw [ByteArray.size_append, ByteArray.size_append]; simp only [ByteArray.size_mk']; simp; omega
theorem wp_gen {P : Program} {c : Code} {Q : Exit → Act → World → Prop} {a : Act} {w : World} (R : World → Prop) (h1 : R w) (h2 : ∀ w0, R w0 → c.wp P Q a w0) : c.wp P Q a w := h2 w h1
theorem counted_is {n : Nat} {x y s : ByteArray} (hs : countS n x y = s) (hn : n ≤ 1000000000) (hx : x.size ≤ 100) (hy : y.size ≤ 100) (w : World) (hT : Tb w) : Calls Tryz.prog 26 #[.int .i64 (n : Int), .string x, .string y] w fun e w' => e = .returned (.string s) ∧ Below w.heap.size w w' := by
  by_cases h1 : n = 1
  · subst h1
    have z1 : ¬ (9223372036854775807 < 2 + x.size) := by omega
    have HS := Go.Lib.hid hs
    clear hs
    go_enter Tryz.func26, Tryz.ntmps26
    go_wp2
    go_returns
    exact ⟨by rw [← HS.out]; rfl, Below.refl _ _⟩
  · have i1 : ((n : Int) == 1) = false := by simp; omega
    obtain ⟨sn, hsn⟩ : ∃ s, numS n = s := ⟨_, rfl⟩
    have hz := numS_size (n := n) (by omega)
    rw [hsn] at hz
    have e : s = (sn ++ ({ data := #[32] } : ByteArray)) ++ y := by rw [← hs, ← hsn]; simp [countS, h1]
    have HS := Go.Lib.hid e
    have z1 : ¬ (9223372036854775807 < sn.size + 1) := by omega
    have z2 : ¬ (9223372036854775807 < sn.size + 1 + y.size) := by omega
    have hc := fun W : World => fun h => itoa_is hsn hn W h
    clear hs e hsn
    go_enter Tryz.func26, Tryz.ntmps26
    go_wp2_with (go_at_call 27; refine (hc _ hT).mono ?_; rintro e w' ⟨rfl, hb⟩)
    go_returns
    exact ⟨by rw [HS.out]; rfl, hb⟩
theorem l18Count_is {n : Nat} {x y s : ByteArray} (hs : countS n x y = s) (hn : n ≤ 1000000000) (hx : x.size ≤ 100) (hy : y.size ≤ 100) (w : World) : Calls Tryz.prog 39 #[.int .i64 (n : Int), .string x, .string y] w fun e w' => e = .returned (.string s) ∧ Below w.heap.size w w' := by
  by_cases h1 : n = 1
  · subst h1
    have z1 : ¬ (9223372036854775807 < 2 + x.size) := by omega
    have HS := Go.Lib.hid hs
    clear hs
    go_enter Tryz.func39, Tryz.ntmps39
    go_wp2
    go_returns
    exact ⟨by rw [← HS.out]; rfl, Below.refl _ _⟩
  · have i1 : ((n : Int) == 1) = false := by simp; omega
    obtain ⟨sn, hsn⟩ : ∃ s, numS n = s := ⟨_, rfl⟩
    have hz := numS_size (n := n) (by omega)
    rw [hsn] at hz
    have e : s = (sn ++ ({ data := #[32] } : ByteArray)) ++ y := by rw [← hs, ← hsn]; simp [countS, h1]
    have HS := Go.Lib.hid e
    have z1 : ¬ (9223372036854775807 < sn.size + 1) := by omega
    have z2 : ¬ (9223372036854775807 < sn.size + 1 + y.size) := by omega
    have hc := fun W : World => l1Num_is (n + 1) n (Nat.lt_succ_self _) hn sn hsn W
    clear hs e hsn
    go_enter Tryz.func39, Tryz.ntmps39
    go_wp2_with (go_at_call 37; refine (hc _).mono ?_; rintro e w' ⟨rfl, hb⟩)
    go_returns
    exact ⟨by rw [HS.out]; rfl, hb⟩
def sitHead (a b c d e : Nat) : ByteArray := ({ data := #[82, 101, 112, 111, 114, 116, 32] } : ByteArray) ++ numS a ++ ({ data := #[32, 97, 116, 32] } : ByteArray) ++ numS b ++ ({ data := #[58, 32] } : ByteArray) ++ countS c ({ data := #[104, 101, 99, 116, 97, 114, 101] } : ByteArray) ({ data := #[104, 101, 99, 116, 97, 114, 101, 115] } : ByteArray) ++ ({ data := #[44, 32] } : ByteArray) ++ numS d ++ ({ data := #[32, 112, 101, 114, 99, 101, 110, 116, 32, 99, 111, 110, 116, 97, 105, 110, 101, 100, 44, 32] } : ByteArray) ++ countS e ({ data := #[112, 101, 114, 115, 111, 110] } : ByteArray) ({ data := #[112, 101, 111, 112, 108, 101] } : ByteArray) ++ ({ data := #[46] } : ByteArray)
def sitText (a b c d e f : Nat) : ByteArray := if 0 < f then sitHead a b c d e ++ ({ data := #[32] } : ByteArray) ++ countS f ({ data := #[112, 101, 114, 115, 111, 110, 32, 119, 97, 115] } : ByteArray) ({ data := #[112, 101, 111, 112, 108, 101, 32, 119, 101, 114, 101] } : ByteArray) ++ ({ data := #[32, 105, 110, 106, 117, 114, 101, 100, 46] } : ByteArray) else sitHead a b c d e
theorem l18Text_is {a b c d e f : Nat} {s : ByteArray} (hs : sitText a b c d e f = s) (ha : a ≤ 1000000000) (hb : b ≤ 1000000000) (hc : c ≤ 1000000000) (hd : d ≤ 1000000000) (he : e ≤ 1000000000) (hf : f ≤ 1000000000) (w : World) : Calls Tryz.prog 20 #[.agg #[.int .i64 (a : Int), .int .i64 (b : Int), .int .i64 (c : Int), .int .i64 (d : Int), .int .i64 (e : Int), .int .i64 (f : Int)]] w fun r w' => r = .returned (.string s) ∧ Below w.heap.size w w' := by
  obtain ⟨sa, hsa⟩ : ∃ s, numS a = s := ⟨_, rfl⟩
  have qa := numS_size (n := a) (by omega)
  rw [hsa] at qa
  obtain ⟨sb, hsb⟩ : ∃ s, numS b = s := ⟨_, rfl⟩
  have qb := numS_size (n := b) (by omega)
  rw [hsb] at qb
  obtain ⟨sd, hsd⟩ : ∃ s, numS d = s := ⟨_, rfl⟩
  have qd := numS_size (n := d) (by omega)
  rw [hsd] at qd
  obtain ⟨sc, hsc⟩ : ∃ s, countS c ({ data := #[104, 101, 99, 116, 97, 114, 101] } : ByteArray) ({ data := #[104, 101, 99, 116, 97, 114, 101, 115] } : ByteArray) = s := ⟨_, rfl⟩
  have qc := countS_size (n := c) (a := ({ data := #[104, 101, 99, 116, 97, 114, 101] } : ByteArray)) (b := ({ data := #[104, 101, 99, 116, 97, 114, 101, 115] } : ByteArray)) (by omega) (by decide) (by decide)
  rw [hsc] at qc
  obtain ⟨se, hse⟩ : ∃ s, countS e ({ data := #[112, 101, 114, 115, 111, 110] } : ByteArray) ({ data := #[112, 101, 111, 112, 108, 101] } : ByteArray) = s := ⟨_, rfl⟩
  have qe := countS_size (n := e) (a := ({ data := #[112, 101, 114, 115, 111, 110] } : ByteArray)) (b := ({ data := #[112, 101, 111, 112, 108, 101] } : ByteArray)) (by omega) (by decide) (by decide)
  rw [hse] at qe
  obtain ⟨sf, hsf⟩ : ∃ s, countS f ({ data := #[112, 101, 114, 115, 111, 110, 32, 119, 97, 115] } : ByteArray) ({ data := #[112, 101, 111, 112, 108, 101, 32, 119, 101, 114, 101] } : ByteArray) = s := ⟨_, rfl⟩
  have qf := countS_size (n := f) (a := ({ data := #[112, 101, 114, 115, 111, 110, 32, 119, 97, 115] } : ByteArray)) (b := ({ data := #[112, 101, 111, 112, 108, 101, 32, 119, 101, 114, 101] } : ByteArray)) (by omega) (by decide) (by decide)
  rw [hsf] at qf
  have na := fun W : World => l1Num_is (a + 1) a (Nat.lt_succ_self _) ha sa hsa W
  have nb := fun W : World => l1Num_is (b + 1) b (Nat.lt_succ_self _) hb sb hsb W
  have nd := fun W : World => l1Num_is (d + 1) d (Nat.lt_succ_self _) hd sd hsd W
  have nc := fun W : World => l18Count_is hsc hc (by decide) (by decide) W
  have ne := fun W : World => l18Count_is hse he (by decide) (by decide) W
  have nf := fun W : World => l18Count_is hsf hf (by decide) (by decide) W
  have zT1 : ¬ (9223372036854775807 < 7 + sa.size) := by omega
  obtain ⟨T1, hT1⟩ : ∃ T, ({ data := #[82, 101, 112, 111, 114, 116, 32] } : ByteArray) ++ sa = T := ⟨_, rfl⟩
  have yT1 : T1.size ≤ 28 := by rw [← hT1, ByteArray.size_append]; simp only [ByteArray.size_mk'] ; simp; omega
  have HT1 := Go.Lib.hid hT1
  have zT2 : ¬ (9223372036854775807 < T1.size + 4) := by omega
  obtain ⟨T2, hT2⟩ : ∃ T, T1 ++ ({ data := #[32, 97, 116, 32] } : ByteArray) = T := ⟨_, rfl⟩
  have yT2 : T2.size ≤ 32 := by rw [← hT2, ByteArray.size_append]; simp only [ByteArray.size_mk'] ; simp; omega
  have HT2 := Go.Lib.hid hT2
  have zT3 : ¬ (9223372036854775807 < T2.size + sb.size) := by omega
  obtain ⟨T3, hT3⟩ : ∃ T, T2 ++ sb = T := ⟨_, rfl⟩
  have yT3 : T3.size ≤ 53 := by rw [← hT3, ByteArray.size_append]; omega
  have HT3 := Go.Lib.hid hT3
  have zT4 : ¬ (9223372036854775807 < T3.size + 2) := by omega
  obtain ⟨T4, hT4⟩ : ∃ T, T3 ++ ({ data := #[58, 32] } : ByteArray) = T := ⟨_, rfl⟩
  have yT4 : T4.size ≤ 55 := by rw [← hT4, ByteArray.size_append]; simp only [ByteArray.size_mk'] ; simp; omega
  have HT4 := Go.Lib.hid hT4
  have zT5 : ¬ (9223372036854775807 < T4.size + sc.size) := by omega
  obtain ⟨T5, hT5⟩ : ∃ T, T4 ++ sc = T := ⟨_, rfl⟩
  have yT5 : T5.size ≤ 255 := by rw [← hT5, ByteArray.size_append]; omega
  have HT5 := Go.Lib.hid hT5
  have zT6 : ¬ (9223372036854775807 < T5.size + 2) := by omega
  obtain ⟨T6, hT6⟩ : ∃ T, T5 ++ ({ data := #[44, 32] } : ByteArray) = T := ⟨_, rfl⟩
  have yT6 : T6.size ≤ 257 := by rw [← hT6, ByteArray.size_append]; simp only [ByteArray.size_mk'] ; simp; omega
  have HT6 := Go.Lib.hid hT6
  have zT7 : ¬ (9223372036854775807 < T6.size + sd.size) := by omega
  obtain ⟨T7, hT7⟩ : ∃ T, T6 ++ sd = T := ⟨_, rfl⟩
  have yT7 : T7.size ≤ 278 := by rw [← hT7, ByteArray.size_append]; omega
  have HT7 := Go.Lib.hid hT7
  have zT8 : ¬ (9223372036854775807 < T7.size + 20) := by omega
  obtain ⟨T8, hT8⟩ : ∃ T, T7 ++ ({ data := #[32, 112, 101, 114, 99, 101, 110, 116, 32, 99, 111, 110, 116, 97, 105, 110, 101, 100, 44, 32] } : ByteArray) = T := ⟨_, rfl⟩
  have yT8 : T8.size ≤ 298 := by rw [← hT8, ByteArray.size_append]; simp only [ByteArray.size_mk'] ; simp; omega
  have HT8 := Go.Lib.hid hT8
  have zT9 : ¬ (9223372036854775807 < T8.size + se.size) := by omega
  obtain ⟨T9, hT9⟩ : ∃ T, T8 ++ se = T := ⟨_, rfl⟩
  have yT9 : T9.size ≤ 498 := by rw [← hT9, ByteArray.size_append]; omega
  have HT9 := Go.Lib.hid hT9
  have zT10 : ¬ (9223372036854775807 < T9.size + 1) := by omega
  obtain ⟨T10, hT10⟩ : ∃ T, T9 ++ ({ data := #[46] } : ByteArray) = T := ⟨_, rfl⟩
  have yT10 : T10.size ≤ 499 := by rw [← hT10, ByteArray.size_append]; simp only [ByteArray.size_mk'] ; simp; omega
  have HT10 := Go.Lib.hid hT10
  have HH : Hid (sitHead a b c d e = T10) := Go.Lib.hid (by unfold sitHead; rw [hsa, hsb, hsc, hsd, hse, HT1.out, HT2.out, HT3.out, HT4.out, HT5.out, HT6.out, HT7.out, HT8.out, HT9.out, HT10.out])
  have zU1 : ¬ (9223372036854775807 < T10.size + 1) := by omega
  obtain ⟨U1, hU1⟩ : ∃ T, T10 ++ ({ data := #[32] } : ByteArray) = T := ⟨_, rfl⟩
  have yU1 : U1.size ≤ 500 := by rw [← hU1, ByteArray.size_append]; simp only [ByteArray.size_mk'] ; simp; omega
  have HU1 := Go.Lib.hid hU1
  have zU2 : ¬ (9223372036854775807 < U1.size + sf.size) := by omega
  obtain ⟨U2, hU2⟩ : ∃ T, U1 ++ sf = T := ⟨_, rfl⟩
  have yU2 : U2.size ≤ 700 := by rw [← hU2, ByteArray.size_append]; omega
  have HU2 := Go.Lib.hid hU2
  have zU3 : ¬ (9223372036854775807 < U2.size + 9) := by omega
  obtain ⟨U3, hU3⟩ : ∃ T, U2 ++ ({ data := #[32, 105, 110, 106, 117, 114, 101, 100, 46] } : ByteArray) = T := ⟨_, rfl⟩
  have yU3 : U3.size ≤ 709 := by rw [← hU3, ByteArray.size_append]; simp only [ByteArray.size_mk'] ; simp; omega
  have HU3 := Go.Lib.hid hU3
  have HF : Hid (0 < f → s = U3) := Go.Lib.hid (fun h => by rw [← hs]; unfold sitText; rw [if_pos h, HH.out, hsf, HU1.out, HU2.out, HU3.out])
  have HG : Hid (¬ 0 < f → s = T10) := Go.Lib.hid (fun h => by rw [← hs]; unfold sitText; rw [if_neg h, HH.out])
  clear hs hsa hsb hsc hsd hse hsf
  have bW : Below w.heap.size w w := Below.refl _ _
  go_enter Tryz.func20, Tryz.ntmps20
  go_upto_region 1 with fail
  obtain ⟨g, hg⟩ : ∃ g, w.heap.size = g := ⟨_, rfl⟩
  refine wp_gen (fun W => Below w.heap.size w W ∧ Bk W g 23 [.int .i64 (a : Int), .int .i64 (b : Int), .int .i64 (c : Int), .int .i64 (d : Int), .int .i64 (e : Int), .int .i64 (f : Int)]) ⟨by (repeat' (first | (with_reducible exact Below.refl _ _) | (with_reducible assumption) | (with_reducible refine balloc ?_ _) | (with_reducible refine bdrew ?_) | (with_reducible refine bdrewN ?_ _) | (with_reducible refine bstep ?_ (by assumption)) | (with_reducible refine bset ?_ ?_ _) | (exact Below.size (by assumption)) | go_size)), by rw [← hg]; exact Bk.new _ _ _⟩ ?_
  clear bW
  intro W ⟨bW, kx⟩
  rw [hg]
  clear hg
  have cx0 := kx.cell 0
  have cx1 := kx.cell 1
  have cx2 := kx.cell 2
  have cx3 := kx.cell 3
  have cx4 := kx.cell 4
  have cx5 := kx.cell 5
  have lx := kx.lt
  simp only [List.getElem?_cons_zero, List.getElem?_cons_succ] at cx0 cx1 cx2 cx3 cx4 cx5
  have kW := kx
  have lW := lx
  (refine wp_region_bel (by kernel_rfl) (by kernel_rfl) ?_; (repeat (go_big_quiet_step ((first | (go_at_call_of 37 (#[.int .i64 (a : Int)] : Array Value); exact calls_bel (na _)) | (go_at_call_of 37 (#[.int .i64 (b : Int)] : Array Value); exact calls_bel (nb _)) | (go_at_call_of 37 (#[.int .i64 (d : Int)] : Array Value); exact calls_bel (nd _)) | (go_at_call_of 39 (#[.int .i64 (c : Int), .string ⟨#[104, 101, 99, 116, 97, 114, 101]⟩, .string ⟨#[104, 101, 99, 116, 97, 114, 101, 115]⟩] : Array Value); exact calls_bel (nc _)) | (go_at_call_of 39 (#[.int .i64 (e : Int), .string ⟨#[112, 101, 114, 115, 111, 110]⟩, .string ⟨#[112, 101, 111, 112, 108, 101]⟩] : Array Value); exact calls_bel (ne _)))))); refine wpQuiet_nil ?_; intro w' hw'; have hb := below_of hw'; clear hw'; have bW := bstep bW hb; have kx := kW.below hb lW)
  have cx5 := kx.cell 5
  have lx := kx.lt
  simp only [List.getElem?_cons_zero, List.getElem?_cons_succ] at cx5
  by_cases h0 : 0 < f
  · have i1 : decide (0 < f) = true := decide_eq_true h0
    have i2 : decide ((0 : Int) < (f : Int)) = true := decide_eq_true (by omega)
    go_wp2_with (go_at_call 39; refine (nf _).mono ?_; rintro e w2 ⟨rfl, hb2⟩)
    go_returns
    exact ⟨by rw [HF.out h0]; rfl, bstep bW hb2⟩
  · have i1 : decide (0 < f) = false := decide_eq_false h0
    have i2 : decide ((0 : Int) < (f : Int)) = false := decide_eq_false (by omega)
    go_wp2
    go_returns
    exact ⟨by rw [HG.out h0]; rfl, bW⟩
theorem sSituationText_no {a b c d e f : Int} (hq : sitB a b c d e f = false) (w : World) : Calls Tryz.prog 11 #[.agg #[.int .i64 a, .int .i64 b, .int .i64 c, .int .i64 d, .int .i64 e, .int .i64 f]] w fun r w' => r = .returned (.tuple #[.string ⟨#[]⟩, .bool false]) ∧ Below w.heap.size w w' := by
  have hc := fun W : World => l18One_any a b c d e f W
  simp only [hq] at hc
  have bW : Below w.heap.size w w := Below.refl _ _
  clear hq
  go_enter Tryz.func11, Tryz.ntmps11
  go_upto_region 1 with fail
  obtain ⟨g, hg⟩ : ∃ g, w.heap.size = g := ⟨_, rfl⟩
  refine wp_gen (fun W => Below w.heap.size w W ∧ Bk W g 23 [.int .i64 a, .int .i64 b, .int .i64 c, .int .i64 d, .int .i64 e, .int .i64 f]) ⟨by (repeat' (first | (with_reducible exact Below.refl _ _) | (with_reducible assumption) | (with_reducible refine balloc ?_ _) | (with_reducible refine bdrew ?_) | (with_reducible refine bdrewN ?_ _) | (with_reducible refine bstep ?_ (by assumption)) | (with_reducible refine bset ?_ ?_ _) | (exact Below.size (by assumption)) | go_size)), by rw [← hg]; exact Bk.new _ _ _⟩ ?_
  clear bW
  intro W ⟨bW, kx⟩
  rw [hg]
  clear hg
  have cx0 := kx.cell 0
  have cx1 := kx.cell 1
  have cx2 := kx.cell 2
  have cx3 := kx.cell 3
  have cx4 := kx.cell 4
  have cx5 := kx.cell 5
  have lx := kx.lt
  simp only [List.getElem?_cons_zero, List.getElem?_cons_succ] at cx0 cx1 cx2 cx3 cx4 cx5
  go_wp2_with (go_at_call 19; refine (hc _).mono ?_; rintro e w2 ⟨rfl, hb2⟩)
  go_returns
  exact ⟨rfl, bstep bW hb2⟩
theorem SituationText_no {a b c d e f : Int} (hq : sitB a b c d e f = false) (w : World) : Calls Tryz.prog 10 #[.agg #[.int .i64 a, .int .i64 b, .int .i64 c, .int .i64 d, .int .i64 e, .int .i64 f]] w fun r w' => r = .returned (.tuple #[.string ⟨#[]⟩, .bool false]) ∧ Below w.heap.size w w' := by
  have hc := fun W : World => IsSituation_any a b c d e f W
  simp only [hq] at hc
  have bW : Below w.heap.size w w := Below.refl _ _
  clear hq
  go_enter Tryz.func10, Tryz.ntmps10
  go_upto_region 1 with fail
  obtain ⟨g, hg⟩ : ∃ g, w.heap.size = g := ⟨_, rfl⟩
  refine wp_gen (fun W => Below w.heap.size w W ∧ Bk W g 23 [.int .i64 a, .int .i64 b, .int .i64 c, .int .i64 d, .int .i64 e, .int .i64 f]) ⟨by (repeat' (first | (with_reducible exact Below.refl _ _) | (with_reducible assumption) | (with_reducible refine balloc ?_ _) | (with_reducible refine bdrew ?_) | (with_reducible refine bdrewN ?_ _) | (with_reducible refine bstep ?_ (by assumption)) | (with_reducible refine bset ?_ ?_ _) | (exact Below.size (by assumption)) | go_size)), by rw [← hg]; exact Bk.new _ _ _⟩ ?_
  clear bW
  intro W ⟨bW, kx⟩
  rw [hg]
  clear hg
  have cx0 := kx.cell 0
  have cx1 := kx.cell 1
  have cx2 := kx.cell 2
  have cx3 := kx.cell 3
  have cx4 := kx.cell 4
  have cx5 := kx.cell 5
  have lx := kx.lt
  simp only [List.getElem?_cons_zero, List.getElem?_cons_succ] at cx0 cx1 cx2 cx3 cx4 cx5
  go_wp2_with (go_at_call 12; refine (hc _).mono ?_; rintro e w2 ⟨rfl, hb2⟩)
  go_returns
  exact ⟨rfl, bstep bW hb2⟩
theorem sSituationText_yes {a b c d e f : Nat} {s : ByteArray} (hq : sitB (a : Int) (b : Int) (c : Int) (d : Int) (e : Int) (f : Int) = true) (hs : sitText a b c d e f = s) (ha : a ≤ 1000000000) (hb : b ≤ 1000000000) (hc : c ≤ 1000000000) (hd : d ≤ 1000000000) (he : e ≤ 1000000000) (hf : f ≤ 1000000000) (w : World) : Calls Tryz.prog 11 #[.agg #[.int .i64 (a : Int), .int .i64 (b : Int), .int .i64 (c : Int), .int .i64 (d : Int), .int .i64 (e : Int), .int .i64 (f : Int)]] w fun r w' => r = .returned (.tuple #[.string s, .bool true]) ∧ Below w.heap.size w w' := by
  have ht := fun W : World => l18Text_is hs ha hb hc hd he hf W
  have h1 := fun W : World => l18One_any (a : Int) (b : Int) (c : Int) (d : Int) (e : Int) (f : Int) W
  simp only [hq] at h1
  have bW : Below w.heap.size w w := Below.refl _ _
  clear hq hs
  go_enter Tryz.func11, Tryz.ntmps11
  go_upto_region 1 with fail
  obtain ⟨g, hg⟩ : ∃ g, w.heap.size = g := ⟨_, rfl⟩
  refine wp_gen (fun W => Below w.heap.size w W ∧ Bk W g 23 [.int .i64 (a : Int), .int .i64 (b : Int), .int .i64 (c : Int), .int .i64 (d : Int), .int .i64 (e : Int), .int .i64 (f : Int)]) ⟨by (repeat' (first | (with_reducible exact Below.refl _ _) | (with_reducible assumption) | (with_reducible refine balloc ?_ _) | (with_reducible refine bdrew ?_) | (with_reducible refine bdrewN ?_ _) | (with_reducible refine bstep ?_ (by assumption)) | (with_reducible refine bset ?_ ?_ _) | (exact Below.size (by assumption)) | go_size)), by rw [← hg]; exact Bk.new _ _ _⟩ ?_
  clear bW
  intro W ⟨bW, kx⟩
  rw [hg]
  clear hg
  have cx0 := kx.cell 0
  have cx1 := kx.cell 1
  have cx2 := kx.cell 2
  have cx3 := kx.cell 3
  have cx4 := kx.cell 4
  have cx5 := kx.cell 5
  have lx := kx.lt
  simp only [List.getElem?_cons_zero, List.getElem?_cons_succ] at cx0 cx1 cx2 cx3 cx4 cx5
  go_wp2_with (first | (go_at_call 19; refine (h1 _).mono ?_; rintro e w2 ⟨rfl, hb2⟩; have kx := kx.below hb2 lx; have cx0 := kx.cell 0; have cx1 := kx.cell 1; have cx2 := kx.cell 2; have cx3 := kx.cell 3; have cx4 := kx.cell 4; have cx5 := kx.cell 5; simp only [List.getElem?_cons_zero, List.getElem?_cons_succ] at cx0 cx1 cx2 cx3 cx4 cx5; have bW := bstep bW hb2; have lx := bsize hb2 g lx) | (go_at_call 20; refine (ht _).mono ?_; rintro e w3 ⟨rfl, hb3⟩))
  go_returns
  exact ⟨rfl, bstep bW hb3⟩
theorem SituationText_yes {a b c d e f : Nat} {s : ByteArray} (hq : sitB (a : Int) (b : Int) (c : Int) (d : Int) (e : Int) (f : Int) = true) (hs : sitText a b c d e f = s) (ha : a ≤ 1000000000) (hb : b ≤ 1000000000) (hc : c ≤ 1000000000) (hd : d ≤ 1000000000) (he : e ≤ 1000000000) (hf : f ≤ 1000000000) (w : World) (hT : Tb w) : Calls Tryz.prog 10 #[.agg #[.int .i64 (a : Int), .int .i64 (b : Int), .int .i64 (c : Int), .int .i64 (d : Int), .int .i64 (e : Int), .int .i64 (f : Int)]] w fun r w' => r = .returned (.tuple #[.string s, .bool true]) ∧ Below w.heap.size w w' := by
  have h1 := fun W : World => IsSituation_any (a : Int) (b : Int) (c : Int) (d : Int) (e : Int) (f : Int) W
  simp only [hq] at h1
  obtain ⟨sa, hsa⟩ : ∃ s, numS a = s := ⟨_, rfl⟩
  have qa := numS_size (n := a) (by omega)
  rw [hsa] at qa
  obtain ⟨sb, hsb⟩ : ∃ s, numS b = s := ⟨_, rfl⟩
  have qb := numS_size (n := b) (by omega)
  rw [hsb] at qb
  obtain ⟨sd, hsd⟩ : ∃ s, numS d = s := ⟨_, rfl⟩
  have qd := numS_size (n := d) (by omega)
  rw [hsd] at qd
  obtain ⟨sc, hsc⟩ : ∃ s, countS c ({ data := #[104, 101, 99, 116, 97, 114, 101] } : ByteArray) ({ data := #[104, 101, 99, 116, 97, 114, 101, 115] } : ByteArray) = s := ⟨_, rfl⟩
  have qc := countS_size (n := c) (a := ({ data := #[104, 101, 99, 116, 97, 114, 101] } : ByteArray)) (b := ({ data := #[104, 101, 99, 116, 97, 114, 101, 115] } : ByteArray)) (by omega) (by decide) (by decide)
  rw [hsc] at qc
  obtain ⟨se, hse⟩ : ∃ s, countS e ({ data := #[112, 101, 114, 115, 111, 110] } : ByteArray) ({ data := #[112, 101, 111, 112, 108, 101] } : ByteArray) = s := ⟨_, rfl⟩
  have qe := countS_size (n := e) (a := ({ data := #[112, 101, 114, 115, 111, 110] } : ByteArray)) (b := ({ data := #[112, 101, 111, 112, 108, 101] } : ByteArray)) (by omega) (by decide) (by decide)
  rw [hse] at qe
  obtain ⟨sf, hsf⟩ : ∃ s, countS f ({ data := #[112, 101, 114, 115, 111, 110, 32, 119, 97, 115] } : ByteArray) ({ data := #[112, 101, 111, 112, 108, 101, 32, 119, 101, 114, 101] } : ByteArray) = s := ⟨_, rfl⟩
  have qf := countS_size (n := f) (a := ({ data := #[112, 101, 114, 115, 111, 110, 32, 119, 97, 115] } : ByteArray)) (b := ({ data := #[112, 101, 111, 112, 108, 101, 32, 119, 101, 114, 101] } : ByteArray)) (by omega) (by decide) (by decide)
  rw [hsf] at qf
  have na := fun (W : World) (h : Tb W) => itoa_is hsa ha W h
  have nb := fun (W : World) (h : Tb W) => itoa_is hsb hb W h
  have nd := fun (W : World) (h : Tb W) => itoa_is hsd hd W h
  have nc := fun (W : World) (h : Tb W) => counted_is hsc hc (by decide) (by decide) W h
  have ne := fun (W : World) (h : Tb W) => counted_is hse he (by decide) (by decide) W h
  have nf := fun (W : World) (h : Tb W) => counted_is hsf hf (by decide) (by decide) W h
  have zA1 : ¬ (9223372036854775807 < sc.size + 2) := by omega
  obtain ⟨A1, hA1⟩ : ∃ T, sc ++ ({ data := #[44, 32] } : ByteArray) = T := ⟨_, rfl⟩
  have yA1 : A1.size ≤ 202 := by rw [← hA1, ByteArray.size_append]; simp only [ByteArray.size_mk'] ; simp; omega
  have HA1 := Go.Lib.hid hA1
  have zA2 : ¬ (9223372036854775807 < A1.size + sd.size) := by omega
  obtain ⟨A2, hA2⟩ : ∃ T, A1 ++ sd = T := ⟨_, rfl⟩
  have yA2 : A2.size ≤ 223 := by rw [← hA2, ByteArray.size_append]; omega
  have HA2 := Go.Lib.hid hA2
  have zA3 : ¬ (9223372036854775807 < A2.size + 20) := by omega
  obtain ⟨A3, hA3⟩ : ∃ T, A2 ++ ({ data := #[32, 112, 101, 114, 99, 101, 110, 116, 32, 99, 111, 110, 116, 97, 105, 110, 101, 100, 44, 32] } : ByteArray) = T := ⟨_, rfl⟩
  have yA3 : A3.size ≤ 243 := by rw [← hA3, ByteArray.size_append]; simp only [ByteArray.size_mk'] ; simp; omega
  have HA3 := Go.Lib.hid hA3
  have zT1 : ¬ (9223372036854775807 < 7 + sa.size) := by omega
  obtain ⟨T1, hT1⟩ : ∃ T, ({ data := #[82, 101, 112, 111, 114, 116, 32] } : ByteArray) ++ sa = T := ⟨_, rfl⟩
  have yT1 : T1.size ≤ 28 := by rw [← hT1, ByteArray.size_append]; simp only [ByteArray.size_mk'] ; simp; omega
  have HT1 := Go.Lib.hid hT1
  have zT2 : ¬ (9223372036854775807 < T1.size + 4) := by omega
  obtain ⟨T2, hT2⟩ : ∃ T, T1 ++ ({ data := #[32, 97, 116, 32] } : ByteArray) = T := ⟨_, rfl⟩
  have yT2 : T2.size ≤ 32 := by rw [← hT2, ByteArray.size_append]; simp only [ByteArray.size_mk'] ; simp; omega
  have HT2 := Go.Lib.hid hT2
  have zT3 : ¬ (9223372036854775807 < T2.size + sb.size) := by omega
  obtain ⟨T3, hT3⟩ : ∃ T, T2 ++ sb = T := ⟨_, rfl⟩
  have yT3 : T3.size ≤ 53 := by rw [← hT3, ByteArray.size_append]; omega
  have HT3 := Go.Lib.hid hT3
  have zT4 : ¬ (9223372036854775807 < T3.size + 2) := by omega
  obtain ⟨T4, hT4⟩ : ∃ T, T3 ++ ({ data := #[58, 32] } : ByteArray) = T := ⟨_, rfl⟩
  have yT4 : T4.size ≤ 55 := by rw [← hT4, ByteArray.size_append]; simp only [ByteArray.size_mk'] ; simp; omega
  have HT4 := Go.Lib.hid hT4
  have zT5 : ¬ (9223372036854775807 < T4.size + A3.size) := by omega
  obtain ⟨T5, hT5⟩ : ∃ T, T4 ++ A3 = T := ⟨_, rfl⟩
  have yT5 : T5.size ≤ 298 := by rw [← hT5, ByteArray.size_append]; omega
  have HT5 := Go.Lib.hid hT5
  have zT6 : ¬ (9223372036854775807 < T5.size + se.size) := by omega
  obtain ⟨T6, hT6⟩ : ∃ T, T5 ++ se = T := ⟨_, rfl⟩
  have yT6 : T6.size ≤ 498 := by rw [← hT6, ByteArray.size_append]; omega
  have HT6 := Go.Lib.hid hT6
  have zT7 : ¬ (9223372036854775807 < T6.size + 1) := by omega
  obtain ⟨T7, hT7⟩ : ∃ T, T6 ++ ({ data := #[46] } : ByteArray) = T := ⟨_, rfl⟩
  have yT7 : T7.size ≤ 499 := by rw [← hT7, ByteArray.size_append]; simp only [ByteArray.size_mk'] ; simp; omega
  have HT7 := Go.Lib.hid hT7
  have HH : Hid (sitHead a b c d e = T7) := Go.Lib.hid (by unfold sitHead; rw [hsa, hsb, hsc, hsd, hse, ← HT7.out, ← HT6.out, ← HT5.out, ← HT4.out, ← HT3.out, ← HT2.out, ← HT1.out, ← HA3.out, ← HA2.out, ← HA1.out]; simp only [ByteArray.append_assoc])
  have zU1 : ¬ (9223372036854775807 < 1 + sf.size) := by omega
  obtain ⟨U1, hU1⟩ : ∃ T, ({ data := #[32] } : ByteArray) ++ sf = T := ⟨_, rfl⟩
  have yU1 : U1.size ≤ 201 := by rw [← hU1, ByteArray.size_append]; simp only [ByteArray.size_mk'] ; simp; omega
  have HU1 := Go.Lib.hid hU1
  have zU2 : ¬ (9223372036854775807 < U1.size + 9) := by omega
  obtain ⟨U2, hU2⟩ : ∃ T, U1 ++ ({ data := #[32, 105, 110, 106, 117, 114, 101, 100, 46] } : ByteArray) = T := ⟨_, rfl⟩
  have yU2 : U2.size ≤ 210 := by rw [← hU2, ByteArray.size_append]; simp only [ByteArray.size_mk'] ; simp; omega
  have HU2 := Go.Lib.hid hU2
  have zU3 : ¬ (9223372036854775807 < T7.size + U2.size) := by omega
  obtain ⟨U3, hU3⟩ : ∃ T, T7 ++ U2 = T := ⟨_, rfl⟩
  have yU3 : U3.size ≤ 709 := by rw [← hU3, ByteArray.size_append]; omega
  have HU3 := Go.Lib.hid hU3
  have HF : Hid (0 < f → s = U3) := Go.Lib.hid (fun h => by rw [← hs]; unfold sitText; rw [if_pos h, HH.out, hsf, ← HU3.out, ← HU2.out, ← HU1.out]; simp only [ByteArray.append_assoc])
  have HG : Hid (¬ 0 < f → s = T7) := Go.Lib.hid (fun h => by rw [← hs]; unfold sitText; rw [if_neg h, HH.out])
  clear hs hsa hsb hsc hsd hse hsf hq
  have bW : Below w.heap.size w w := Below.refl _ _
  go_enter Tryz.func10, Tryz.ntmps10
  go_upto_region 1 with fail
  obtain ⟨g, hg⟩ : ∃ g, w.heap.size = g := ⟨_, rfl⟩
  refine wp_gen (fun W => Below w.heap.size w W ∧ Bk W g 23 [.int .i64 (a : Int), .int .i64 (b : Int), .int .i64 (c : Int), .int .i64 (d : Int), .int .i64 (e : Int), .int .i64 (f : Int)]) ⟨by (repeat' (first | (with_reducible exact Below.refl _ _) | (with_reducible assumption) | (with_reducible refine balloc ?_ _) | (with_reducible refine bdrew ?_) | (with_reducible refine bdrewN ?_ _) | (with_reducible refine bstep ?_ (by assumption)) | (with_reducible refine bset ?_ ?_ _) | (exact Below.size (by assumption)) | go_size)), by rw [← hg]; exact Bk.new _ _ _⟩ ?_
  clear bW
  intro W ⟨bW, kx⟩
  rw [hg]
  clear hg
  have cx0 := kx.cell 0
  have cx1 := kx.cell 1
  have cx2 := kx.cell 2
  have cx3 := kx.cell 3
  have cx4 := kx.cell 4
  have cx5 := kx.cell 5
  have lx := kx.lt
  simp only [List.getElem?_cons_zero, List.getElem?_cons_succ] at cx0 cx1 cx2 cx3 cx4 cx5
  go_upto_region 3 with (go_at_call 12; refine (h1 _).mono ?_; rintro e w2 ⟨rfl, hb2⟩; have kx := kx.below hb2 lx; have cx0 := kx.cell 0; have cx1 := kx.cell 1; have cx2 := kx.cell 2; have cx3 := kx.cell 3; have cx4 := kx.cell 4; have cx5 := kx.cell 5; simp only [List.getElem?_cons_zero, List.getElem?_cons_succ] at cx0 cx1 cx2 cx3 cx4 cx5; have bW := bstep bW hb2; have lx := bsize hb2 g lx)
  refine wp_gen (fun W => Below w.heap.size w W ∧ Bk W g 23 [.int .i64 (a : Int), .int .i64 (b : Int), .int .i64 (c : Int), .int .i64 (d : Int), .int .i64 (e : Int), .int .i64 (f : Int)]) ⟨bW, kx⟩ ?_
  clear bW kx cx0 cx1 cx2 cx3 cx4 cx5 lx
  intro W ⟨bW, kx⟩
  have cx0 := kx.cell 0
  have cx1 := kx.cell 1
  have cx2 := kx.cell 2
  have cx3 := kx.cell 3
  have cx4 := kx.cell 4
  have cx5 := kx.cell 5
  have lx := kx.lt
  simp only [List.getElem?_cons_zero, List.getElem?_cons_succ] at cx0 cx1 cx2 cx3 cx4 cx5
  have hTW := hT.below bW
  have kW := kx
  have lW := lx
  (refine wp_region_bel (by kernel_rfl) (by kernel_rfl) ?_; (repeat (go_big_quiet_step ((first | (go_at_call_of 26 (#[.int .i64 (c : Int), .string ⟨#[104, 101, 99, 116, 97, 114, 101]⟩, .string ⟨#[104, 101, 99, 116, 97, 114, 101, 115]⟩] : Array Value); exact calls_bel (nc _ (hTW.below (below_bel _ _)))) | (go_at_call_of 27 (#[.int .i64 (d : Int)] : Array Value); exact calls_bel (nd _ (hTW.below (below_bel _ _)))))))); refine wpQuiet_nil ?_; intro w' hw'; have hb := below_of hw'; clear hw'; have bW := bstep bW hb; have kx := kW.below hb lW)
  go_upto_region 4 with fail
  refine wp_gen (fun W => Below w.heap.size w W ∧ Bk W g 23 [.int .i64 (a : Int), .int .i64 (b : Int), .int .i64 (c : Int), .int .i64 (d : Int), .int .i64 (e : Int), .int .i64 (f : Int)]) ⟨bW, kx⟩ ?_
  clear bW kx cx0 cx1 cx2 cx3 cx4 cx5 lx
  intro W ⟨bW, kx⟩
  have cx0 := kx.cell 0
  have cx1 := kx.cell 1
  have cx2 := kx.cell 2
  have cx3 := kx.cell 3
  have cx4 := kx.cell 4
  have cx5 := kx.cell 5
  have lx := kx.lt
  simp only [List.getElem?_cons_zero, List.getElem?_cons_succ] at cx0 cx1 cx2 cx3 cx4 cx5
  have hTW := hT.below bW
  have kW := kx
  have lW := lx
  (refine wp_region_bel (by kernel_rfl) (by kernel_rfl) ?_; (repeat (go_big_quiet_step ((first | (go_at_call_of 27 (#[.int .i64 (a : Int)] : Array Value); exact calls_bel (na _ (hTW.below (below_bel _ _)))) | (go_at_call_of 27 (#[.int .i64 (b : Int)] : Array Value); exact calls_bel (nb _ (hTW.below (below_bel _ _)))) | (go_at_call_of 26 (#[.int .i64 (e : Int), .string ⟨#[112, 101, 114, 115, 111, 110]⟩, .string ⟨#[112, 101, 111, 112, 108, 101]⟩] : Array Value); exact calls_bel (ne _ (hTW.below (below_bel _ _)))))))); refine wpQuiet_nil ?_; intro w' hw'; have hb := below_of hw'; clear hw'; have bW := bstep bW hb; have kx := kW.below hb lW)
  have cx5 := kx.cell 5
  have lx := kx.lt
  simp only [List.getElem?_cons_zero, List.getElem?_cons_succ] at cx5
  have hTW := hT.below bW
  by_cases h0 : 0 < f
  · have i1 : decide (0 < f) = true := decide_eq_true h0
    have i2 : decide ((0 : Int) < (f : Int)) = true := decide_eq_true (by omega)
    go_wp2_with (go_at_call 26; refine (nf _ hTW).mono ?_; rintro e w2 ⟨rfl, hb2⟩)
    go_returns
    exact ⟨by rw [HF.out h0]; rfl, bstep bW hb2⟩
  · have i1 : decide (0 < f) = false := decide_eq_false h0
    have i2 : decide ((0 : Int) < (f : Int)) = false := decide_eq_false (by omega)
    go_wp2
    go_returns
    exact ⟨by rw [HG.out h0]; rfl, bW⟩
end Go.Proofs.YtcebbmikgpipeaaGreatDoor
