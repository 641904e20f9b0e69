/-
  SortieMinutes and MostDrops of the program and of the reference. Conditions: none.
-/
import Derived.Test.YtbioleagenoogaaB
namespace Go.Proofs.Ytbioleagenoogaa
open Go.RowKit
set_option maxRecDepth 100000
set_option maxHeartbeats 4000000


theorem below_blk {w w' : World} (h : Below w.heap.size w w') {g : Nat} {t : TypeId} {cs : List Value} (k : Bk w g t cs) : Bk w' g t cs := k.below h k.lt
def soB (i l s f fi wa le ba k : Int) : Bool := (acB i l s f fi && tgB wa le ba) && inB k 1 100
def soI (i l s f fi wa le ba k : Int) : Int := if soB i l s f fi wa le ba k = true then srt s fi wa le ba k else 0
def mdI (i l s f fi wa le ba : Int) (N : Nat) : Int := if (acB i l s f fi && tgB wa le ba) = true then (N : Int) else 0
theorem SortieMinutes_is {q : Bool} {v i l s f fi wa le ba k : Int} (hq : soB i l s f fi wa le ba k = q) (hv : soI i l s f fi wa le ba k = v) (w : World) :
    Calls Try.prog 22 #[.agg #[.int .i64 i, .int .i64 l, .int .i64 s, .int .i64 f, .int .i64 fi], .agg #[.int .i64 wa, .int .i64 le, .int .i64 ba], .int .i64 k] w fun e w' => e = .returned (.tuple #[.int .i64 v, .bool q]) ∧ Below w.heap.size w w' := by
  have HA := fun W : World => isFlight_any i l s f fi wa le ba W
  obtain ⟨qa, hA⟩ : ∃ q, (acB i l s f fi && tgB wa le ba) = q := ⟨_, rfl⟩
  obtain ⟨qk, hk⟩ : ∃ q, inB k 1 100 = q := ⟨_, rfl⟩
  simp only [hA] at HA
  have HK := Lib.hid hk
  have HQ := Lib.hid hA
  go_enter Try.func22, Try.ntmps22
  go_upto_region 1 with fail
  refine wp_gen (fun W => Below w.heap.size w W ∧ Bk W w.heap.size 41 [.int .i64 i, .int .i64 l, .int .i64 s, .int .i64 f, .int .i64 fi] ∧ Bk W (w.heap.size + 1) 31 [.int .i64 wa, .int .i64 le, .int .i64 ba]) ⟨by (repeat' (first | (with_reducible exact Below.refl _ _) | (with_reducible assumption) | (with_reducible refine balloc ?_ _) | (with_reducible refine bdrew ?_) | (with_reducible refine bdrewN ?_ _) | (with_reducible refine bstep ?_ (by assumption)) | (with_reducible refine bset ?_ ?_ _) | (exact Below.size (by assumption)) | go_size)), (Bk.new _ _ _).alloc _, Bk.new' (by simp)⟩ ?_
  intro W ⟨bW, k0, k1⟩
  have ck0_0 := k0.cell 0
  have ck0_1 := k0.cell 1
  have ck0_2 := k0.cell 2
  have ck0_3 := k0.cell 3
  have ck0_4 := k0.cell 4
  have lk0 := k0.lt
  have ck1_0 := k1.cell 0
  have ck1_1 := k1.cell 1
  have ck1_2 := k1.cell 2
  have lk1 := k1.lt
  simp only [List.getElem?_cons_zero, List.getElem?_cons_succ] at ck0_0 ck0_1 ck0_2 ck0_3 ck0_4 ck1_0 ck1_1 ck1_2
  rcases qa with _ | _
  · obtain rfl : false = q := by rw [← hq, soB, hA]; rfl
    obtain rfl : 0 = v := by rw [← hv]; simp [soI, hq]
    clear hq hv hk hA
    go_wp2_with (first | (go_at_call 52; refine (HA _).mono ?_; rintro e w' ⟨rfl, hb⟩; have k0 := below_blk hb k0; have k1 := below_blk hb k1; have bW := bstep bW hb))
    go_returns
    exact ⟨rfl, bW⟩
  · rcases qk with _ | _
    · obtain rfl : false = q := by rw [← hq, soB, hA, hk]; rfl
      obtain rfl : 0 = v := by rw [← hv]; simp [soI, hq]
      clear hq hv hk hA
      go_wp2_with (first | (go_at_call 52; refine (HA _).mono ?_; rintro e w' ⟨rfl, hb⟩; have k0 := below_blk hb k0; have k1 := below_blk hb k1; have bW := bstep bW hb) | (go_at_call 45; refine (in_of _ HK.out _).mono ?_; rintro e w' ⟨rfl, rfl⟩))
      go_returns
      exact ⟨rfl, bW⟩
    · obtain rfl : true = q := by rw [← hq, soB, hA, hk]; rfl
      have hv2 : srt s fi wa le ba k = v := by rw [← hv]; simp [soI, hq]
      have h2 : acB i l s f fi = true ∧ tgB wa le ba = true := by simpa using hA
      obtain ⟨hac, htg⟩ := h2
      obtain ⟨g1, g2, g3, g4, g5⟩ := acB_bd hac
      obtain ⟨g6, g7, g8⟩ := tgB_bd htg
      have hk2 := inB_iff.1 hk
      have HS := fun W : World => sortie_is (i := i) (l := l) (f := f) g3 g5 g6 g7 g8 (show 0 ≤ k ∧ k ≤ 1000 by omega) hv2 W
      clear hq hv hk hA hac htg hv2
      go_wp2_with (first | (go_at_call 52; refine (HA _).mono ?_; rintro e w' ⟨rfl, hb⟩; have k0 := below_blk hb k0; have k1 := below_blk hb k1; have bW := bstep bW hb; have ck0_0 := k0.cell 0; have ck0_1 := k0.cell 1; have ck0_2 := k0.cell 2; have ck0_3 := k0.cell 3; have ck0_4 := k0.cell 4; have ck1_0 := k1.cell 0; have ck1_1 := k1.cell 1; have ck1_2 := k1.cell 2; have lk0 := k0.lt; have lk1 := k1.lt; simp only [List.getElem?_cons_zero, List.getElem?_cons_succ] at ck0_0 ck0_1 ck0_2 ck0_3 ck0_4 ck1_0 ck1_1 ck1_2) | (go_at_call 45; refine (in_of _ HK.out _).mono ?_; rintro e w' ⟨rfl, rfl⟩) | (go_at_call 55; refine (HS _).mono ?_; rintro e w' ⟨rfl, hb⟩; have k0 := below_blk hb k0; have k1 := below_blk hb k1; have bW := bstep bW hb))
      go_returns
      exact ⟨rfl, bW⟩
theorem MostDrops_is {q : Bool} {v i l s f fi wa le ba : Int} {N : Nat} (hN : acB i l s f fi = true → tgB wa le ba = true → MD s f fi wa le ba N) (hq : (acB i l s f fi && tgB wa le ba) = q) (hv : mdI i l s f fi wa le ba N = v) (w : World) :
    Calls Try.prog 18 #[.agg #[.int .i64 i, .int .i64 l, .int .i64 s, .int .i64 f, .int .i64 fi], .agg #[.int .i64 wa, .int .i64 le, .int .i64 ba]] w fun e w' => e = .returned (.tuple #[.int .i64 v, .bool q]) ∧ Below w.heap.size w w' := by
  have HA := fun W : World => isFlight_any i l s f fi wa le ba W
  simp only [hq] at HA
  have HN := Lib.hid hN
  clear hN
  go_enter Try.func18, Try.ntmps18
  go_upto_region 1 with fail
  refine wp_gen (fun W => Below w.heap.size w W ∧ Bk W w.heap.size 41 [.int .i64 i, .int .i64 l, .int .i64 s, .int .i64 f, .int .i64 fi] ∧ Bk W (w.heap.size + 1) 31 [.int .i64 wa, .int .i64 le, .int .i64 ba]) ⟨by (repeat' (first | (with_reducible exact Below.refl _ _) | (with_reducible assumption) | (with_reducible refine balloc ?_ _) | (with_reducible refine bdrew ?_) | (with_reducible refine bdrewN ?_ _) | (with_reducible refine bstep ?_ (by assumption)) | (with_reducible refine bset ?_ ?_ _) | (exact Below.size (by assumption)) | go_size)), (Bk.new _ _ _).alloc _, Bk.new' (by simp)⟩ ?_
  intro W ⟨bW, k0, k1⟩
  have ck0_0 := k0.cell 0
  have ck0_1 := k0.cell 1
  have ck0_2 := k0.cell 2
  have ck0_3 := k0.cell 3
  have ck0_4 := k0.cell 4
  have lk0 := k0.lt
  have ck1_0 := k1.cell 0
  have ck1_1 := k1.cell 1
  have ck1_2 := k1.cell 2
  have lk1 := k1.lt
  simp only [List.getElem?_cons_zero, List.getElem?_cons_succ] at ck0_0 ck0_1 ck0_2 ck0_3 ck0_4 ck1_0 ck1_1 ck1_2
  rcases q with _ | _
  · obtain rfl : 0 = v := by rw [← hv]; simp [mdI, hq]
    clear hq hv
    go_wp2_with (first | (go_at_call 52; refine (HA _).mono ?_; rintro e w' ⟨rfl, hb⟩; have k0 := below_blk hb k0; have k1 := below_blk hb k1; have bW := bstep bW hb))
    go_returns
    exact ⟨rfl, bW⟩
  · obtain rfl : (N : Int) = v := by rw [← hv]; simp [mdI, hq]
    have h2 : acB i l s f fi = true ∧ tgB wa le ba = true := by simpa using hq
    obtain ⟨hac, htg⟩ := h2
    obtain ⟨g1, g2, g3, g4, g5⟩ := acB_bd hac
    obtain ⟨g6, g7, g8⟩ := tgB_bd htg
    have HS := fun W : World => mostDrops_is (i := i) (l := l) g3 g4 g5 g6 g7 g8 (HN.out hac htg) W
    clear hq hv hac htg
    go_wp2_with (first | (go_at_call 52; refine (HA _).mono ?_; rintro e w' ⟨rfl, hb⟩; have k0 := below_blk hb k0; have k1 := below_blk hb k1; have bW := bstep bW hb; have ck0_0 := k0.cell 0; have ck0_1 := k0.cell 1; have ck0_2 := k0.cell 2; have ck0_3 := k0.cell 3; have ck0_4 := k0.cell 4; have ck1_0 := k1.cell 0; have ck1_1 := k1.cell 1; have ck1_2 := k1.cell 2; have lk0 := k0.lt; have lk1 := k1.lt; simp only [List.getElem?_cons_zero, List.getElem?_cons_succ] at ck0_0 ck0_1 ck0_2 ck0_3 ck0_4 ck1_0 ck1_1 ck1_2) | (go_at_call 53; refine (HS _).mono ?_; rintro e w' ⟨rfl, hb⟩; have k0 := below_blk hb k0; have k1 := below_blk hb k1; have bW := bstep bW hb))
    go_returns
    exact ⟨rfl, bW⟩
theorem sSortieMinutes_is {q : Bool} {v i l s f fi wa le ba k : Int} (hq : soB i l s f fi wa le ba k = q) (hv : soI i l s f fi wa le ba k = v) (w : World) :
    Calls Try.prog 29 #[.agg #[.int .i64 i, .int .i64 l, .int .i64 s, .int .i64 f, .int .i64 fi], .agg #[.int .i64 wa, .int .i64 le, .int .i64 ba], .int .i64 k] w fun e w' => e = .returned (.tuple #[.int .i64 v, .bool q]) ∧ Below w.heap.size w w' := by
  have HA := fun W : World => l14Asked_any i l s f fi wa le ba W
  obtain ⟨qa, hA⟩ : ∃ q, (acB i l s f fi && tgB wa le ba) = q := ⟨_, rfl⟩
  obtain ⟨qk, hk⟩ : ∃ q, inB k 1 100 = q := ⟨_, rfl⟩
  simp only [hA] at HA
  have HK := Lib.hid hk
  have HQ := Lib.hid hA
  go_enter Try.func29, Try.ntmps29
  go_upto_region 1 with fail
  refine wp_gen (fun W => Below w.heap.size w W ∧ Bk W w.heap.size 41 [.int .i64 i, .int .i64 l, .int .i64 s, .int .i64 f, .int .i64 fi] ∧ Bk W (w.heap.size + 1) 31 [.int .i64 wa, .int .i64 le, .int .i64 ba]) ⟨by (repeat' (first | (with_reducible exact Below.refl _ _) | (with_reducible assumption) | (with_reducible refine balloc ?_ _) | (with_reducible refine bdrew ?_) | (with_reducible refine bdrewN ?_ _) | (with_reducible refine bstep ?_ (by assumption)) | (with_reducible refine bset ?_ ?_ _) | (exact Below.size (by assumption)) | go_size)), (Bk.new _ _ _).alloc _, Bk.new' (by simp)⟩ ?_
  intro W ⟨bW, k0, k1⟩
  have ck0_0 := k0.cell 0
  have ck0_1 := k0.cell 1
  have ck0_2 := k0.cell 2
  have ck0_3 := k0.cell 3
  have ck0_4 := k0.cell 4
  have lk0 := k0.lt
  have ck1_0 := k1.cell 0
  have ck1_1 := k1.cell 1
  have ck1_2 := k1.cell 2
  have lk1 := k1.lt
  simp only [List.getElem?_cons_zero, List.getElem?_cons_succ] at ck0_0 ck0_1 ck0_2 ck0_3 ck0_4 ck1_0 ck1_1 ck1_2
  rcases qa with _ | _
  · obtain rfl : false = q := by rw [← hq, soB, hA]; rfl
    obtain rfl : 0 = v := by rw [← hv]; simp [soI, hq]
    clear hq hv hk hA
    go_wp2_with (first | (go_at_call 54; refine (HA _).mono ?_; rintro e w' ⟨rfl, hb⟩; have k0 := below_blk hb k0; have k1 := below_blk hb k1; have bW := bstep bW hb))
    go_returns
    exact ⟨rfl, bW⟩
  · rcases qk with _ | _
    · obtain rfl : false = q := by rw [← hq, soB, hA, hk]; rfl
      obtain rfl : 0 = v := by rw [← hv]; simp [soI, hq]
      clear hq hv hk hA
      go_wp2_with (first | (go_at_call 54; refine (HA _).mono ?_; rintro e w' ⟨rfl, hb⟩; have k0 := below_blk hb k0; have k1 := below_blk hb k1; have bW := bstep bW hb) | (go_at_call 40; refine (l1In_of _ HK.out _).mono ?_; rintro e w' ⟨rfl, rfl⟩))
      go_returns
      exact ⟨rfl, bW⟩
    · obtain rfl : true = q := by rw [← hq, soB, hA, hk]; rfl
      have hv2 : srt s fi wa le ba k = v := by rw [← hv]; simp [soI, hq]
      have h2 : acB i l s f fi = true ∧ tgB wa le ba = true := by simpa using hA
      obtain ⟨hac, htg⟩ := h2
      obtain ⟨g1, g2, g3, g4, g5⟩ := acB_bd hac
      obtain ⟨g6, g7, g8⟩ := tgB_bd htg
      have hk2 := inB_iff.1 hk
      have HS := fun W : World => l14Sortie_is (i := i) (l := l) (f := f) g3 g5 g6 g7 g8 (show 0 ≤ k ∧ k ≤ 1000 by omega) hv2 W
      clear hq hv hk hA hac htg hv2
      go_wp2_with (first | (go_at_call 54; refine (HA _).mono ?_; rintro e w' ⟨rfl, hb⟩; have k0 := below_blk hb k0; have k1 := below_blk hb k1; have bW := bstep bW hb; have ck0_0 := k0.cell 0; have ck0_1 := k0.cell 1; have ck0_2 := k0.cell 2; have ck0_3 := k0.cell 3; have ck0_4 := k0.cell 4; have ck1_0 := k1.cell 0; have ck1_1 := k1.cell 1; have ck1_2 := k1.cell 2; have lk0 := k0.lt; have lk1 := k1.lt; simp only [List.getElem?_cons_zero, List.getElem?_cons_succ] at ck0_0 ck0_1 ck0_2 ck0_3 ck0_4 ck1_0 ck1_1 ck1_2) | (go_at_call 40; refine (l1In_of _ HK.out _).mono ?_; rintro e w' ⟨rfl, rfl⟩) | (go_at_call 59; refine (HS _).mono ?_; rintro e w' ⟨rfl, hb⟩; have k0 := below_blk hb k0; have k1 := below_blk hb k1; have bW := bstep bW hb))
      go_returns
      exact ⟨rfl, bW⟩
theorem sMostDrops_is {q : Bool} {v i l s f fi wa le ba : Int} {N : Nat} (hN : acB i l s f fi = true → tgB wa le ba = true → MD s f fi wa le ba N) (hq : (acB i l s f fi && tgB wa le ba) = q) (hv : mdI i l s f fi wa le ba N = v) (w : World) :
    Calls Try.prog 19 #[.agg #[.int .i64 i, .int .i64 l, .int .i64 s, .int .i64 f, .int .i64 fi], .agg #[.int .i64 wa, .int .i64 le, .int .i64 ba]] w fun e w' => e = .returned (.tuple #[.int .i64 v, .bool q]) ∧ Below w.heap.size w w' := by
  have HA := fun W : World => l14Asked_any i l s f fi wa le ba W
  simp only [hq] at HA
  have HN := Lib.hid hN
  clear hN
  go_enter Try.func19, Try.ntmps19
  go_upto_region 1 with fail
  refine wp_gen (fun W => Below w.heap.size w W ∧ Bk W w.heap.size 41 [.int .i64 i, .int .i64 l, .int .i64 s, .int .i64 f, .int .i64 fi] ∧ Bk W (w.heap.size + 1) 31 [.int .i64 wa, .int .i64 le, .int .i64 ba]) ⟨by (repeat' (first | (with_reducible exact Below.refl _ _) | (with_reducible assumption) | (with_reducible refine balloc ?_ _) | (with_reducible refine bdrew ?_) | (with_reducible refine bdrewN ?_ _) | (with_reducible refine bstep ?_ (by assumption)) | (with_reducible refine bset ?_ ?_ _) | (exact Below.size (by assumption)) | go_size)), (Bk.new _ _ _).alloc _, Bk.new' (by simp)⟩ ?_
  intro W ⟨bW, k0, k1⟩
  have ck0_0 := k0.cell 0
  have ck0_1 := k0.cell 1
  have ck0_2 := k0.cell 2
  have ck0_3 := k0.cell 3
  have ck0_4 := k0.cell 4
  have lk0 := k0.lt
  have ck1_0 := k1.cell 0
  have ck1_1 := k1.cell 1
  have ck1_2 := k1.cell 2
  have lk1 := k1.lt
  simp only [List.getElem?_cons_zero, List.getElem?_cons_succ] at ck0_0 ck0_1 ck0_2 ck0_3 ck0_4 ck1_0 ck1_1 ck1_2
  rcases q with _ | _
  · obtain rfl : 0 = v := by rw [← hv]; simp [mdI, hq]
    clear hq hv
    go_wp2_with (first | (go_at_call 54; refine (HA _).mono ?_; rintro e w' ⟨rfl, hb⟩; have k0 := below_blk hb k0; have k1 := below_blk hb k1; have bW := bstep bW hb))
    go_returns
    exact ⟨rfl, bW⟩
  · obtain rfl : (N : Int) = v := by rw [← hv]; simp [mdI, hq]
    have h2 : acB i l s f fi = true ∧ tgB wa le ba = true := by simpa using hq
    obtain ⟨hac, htg⟩ := h2
    obtain ⟨g1, g2, g3, g4, g5⟩ := acB_bd hac
    obtain ⟨g6, g7, g8⟩ := tgB_bd htg
    have HS := fun W : World => l14Most_is (i := i) (l := l) g3 g4 g5 g6 g7 g8 (HN.out hac htg) W
    clear hq hv hac htg
    go_wp2_with (first | (go_at_call 54; refine (HA _).mono ?_; rintro e w' ⟨rfl, hb⟩; have k0 := below_blk hb k0; have k1 := below_blk hb k1; have bW := bstep bW hb; have ck0_0 := k0.cell 0; have ck0_1 := k0.cell 1; have ck0_2 := k0.cell 2; have ck0_3 := k0.cell 3; have ck0_4 := k0.cell 4; have ck1_0 := k1.cell 0; have ck1_1 := k1.cell 1; have ck1_2 := k1.cell 2; have lk0 := k0.lt; have lk1 := k1.lt; simp only [List.getElem?_cons_zero, List.getElem?_cons_succ] at ck0_0 ck0_1 ck0_2 ck0_3 ck0_4 ck1_0 ck1_1 ck1_2) | (go_at_call 41; refine (HS _).mono ?_; rintro e w' ⟨rfl, hb⟩; have k0 := below_blk hb k0; have k1 := below_blk hb k1; have bW := bstep bW hb))
    go_returns
    exact ⟨rfl, bW⟩
end Go.Proofs.Ytbioleagenoogaa
