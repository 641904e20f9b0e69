/-
  The place of a note: find of the program and of the reference. Conditions: lengths within the bound of a slice.
-/
import Derived.Test.YthgabapegpndnaaPM
namespace Go.Proofs.Ythgabapegpndnaa
open Go.RowKit
set_option maxRecDepth 100000
set_option maxHeartbeats 2000000

theorem fnd_uniq {Z : List NoteV} {u s v v' : Int} (h : isFnd Z u s v) (h' : isFnd Z u s v') : v = v' := by
  rcases h with ⟨rfl, h⟩ | ⟨i, h1, rfl, h2, h3⟩ <;> rcases h' with ⟨rfl, h'⟩ | ⟨i', h1', rfl, h2', h3'⟩
  · rfl
  · exact absurd h2' (h i' h1')
  · exact absurd h2 (h' i h1)
  · rcases Nat.lt_trichotomy i i' with h4 | h4 | h4
    · exact absurd h2 (h3' i h4)
    · rw [h4]
    · exact absurd h2' (h3 i' h4)
theorem find1_is {v : Bool} {u s u2 s2 : Int} {A : Option Addr} {n c b1 b2 : Nat} {wd : ByteArray} (hv : decide (u = u2 ∧ s = s2) = v) (w : World) (h1 : w.cell? ⟨b1, 0, none⟩ = some (.int .i64 u2)) (h2 : w.cell? ⟨b2, 0, none⟩ = some (.int .i64 s2)) (l1 : b1 < w.heap.size) (l2 : b2 < w.heap.size) :
    Calls Try.prog 76 #[.agg #[.int .i64 u, .int .i64 s, .slice A n c, .string wd], .pointer (some ⟨b1, 0, none⟩), .pointer (some ⟨b2, 0, none⟩)] w fun e w' => e = .returned (.bool v) ∧ Below w.heap.size w w' := by
  have n1 : ¬ b1 = w.heap.size := by omega
  have n2 : ¬ b2 = w.heap.size := by omega
  by_cases hu : u = u2
  · by_cases hs : s = s2
    · obtain rfl : v = true := by rw [← hv]; simp [hu, hs]
      have d1 : (u == u2) = true := by simp [hu]
      have d2 : (s == s2) = true := by simp [hs]
      clear hv hu hs
      go_enter Try.func76, Try.ntmps76
      go_wp2
      go_returns
      exact ⟨rfl, by (repeat' (first | (with_reducible exact Below.refl _ _) | (with_reducible assumption) | (with_reducible refine balloc ?_ _) | (with_reducible refine bdrew ?_) | (with_reducible refine bdrewN ?_ _) | (with_reducible refine bstep ?_ (by assumption)) | (with_reducible refine bset ?_ ?_ _) | (exact Below.size (by assumption)) | go_size))⟩
    · obtain rfl : v = false := by rw [← hv]; simp [hs]
      have d1 : (u == u2) = true := by simp [hu]
      have d2 : (s == s2) = false := by simp [hs]
      clear hv hu hs
      go_enter Try.func76, Try.ntmps76
      go_wp2
      go_returns
      exact ⟨rfl, by (repeat' (first | (with_reducible exact Below.refl _ _) | (with_reducible assumption) | (with_reducible refine balloc ?_ _) | (with_reducible refine bdrew ?_) | (with_reducible refine bdrewN ?_ _) | (with_reducible refine bstep ?_ (by assumption)) | (with_reducible refine bset ?_ ?_ _) | (exact Below.size (by assumption)) | go_size))⟩
  · obtain rfl : v = false := by rw [← hv]; simp [hu]
    have d1 : (u == u2) = false := by simp [hu]
    clear hv hu
    go_enter Try.func76, Try.ntmps76
    go_wp2
    go_returns
    exact ⟨rfl, by (repeat' (first | (with_reducible exact Below.refl _ _) | (with_reducible assumption) | (with_reducible refine balloc ?_ _) | (with_reducible refine bdrew ?_) | (with_reducible refine bdrewN ?_ _) | (with_reducible refine bstep ?_ (by assumption)) | (with_reducible refine bset ?_ ?_ _) | (exact Below.size (by assumption)) | go_size))⟩
theorem find_is {v : Int} {A : Option Addr} {n c : Nat} {Z : List NoteV} {u s : Int} (hv : isFnd Z u s v) (w : World) (hr : RdN w A n Z) (hn : n ≤ 1048576) :
    Calls Try.prog 66 #[.slice A n c, .int .i64 u, .int .i64 s] w fun e w' => e = .returned (.int .i64 v) ∧ Below w.heap.size w w' := by
  have hl := hr.1
  have hC : ∀ (b1 b2 : Nat) (W : World), Below w.heap.size w W → W.cell? ⟨b1, 0, none⟩ = some (.int .i64 u) → W.cell? ⟨b2, 0, none⟩ = some (.int .i64 s) → b1 < W.heap.size → b2 < W.heap.size →
      Calls Try.prog 75 #[.slice A n c, .func (.func 76) #[] #[.pointer (some ⟨b1, 0, none⟩), .pointer (some ⟨b2, 0, none⟩)]] W fun e w' => e = .returned (.int .i64 v) ∧ Below W.heap.size W w' := by
    intro b1 b2 W hWW h1 h2 l1 l2
    have hrW := hr.below hWW
    have HV := Lib.hid hv
    go_enter Try.func75, Try.ntmps75
    go_wp2
    go_loopw [8] (fun i wr => ∃ k : Nat, k ≤ n ∧ i = .int .i64 k ∧ Hid (∀ j, j < k → ¬ isAt Z u s j) ∧ Below W.heap.size W wr) (fun i _ => n - (intOf i).toNat)
    case atStart => exact ⟨0, Nat.zero_le _, rfl, Lib.hid (fun j hj => absurd hj (Nat.not_lt_zero _)), Below.refl _ _⟩
    case round =>
      obtain ⟨k, hk, rfl, HN, hW⟩ := hrel
      by_cases hlt : k < n
      · obtain ⟨b, off, u', s', Ar, m, cr, xs, wd, rfl, hbl, hx, hxm, hrow, c0, c1, c2, c3⟩ := hrW.at_ hW hlt
        have g1 := (hW.cell (p := ⟨b1, 0, none⟩) l1).trans h1
        have g2 := (hW.cell (p := ⟨b2, 0, none⟩) l2).trans h2
        have m1 := Nat.lt_of_lt_of_le l1 hW.size
        have m2 := Nat.lt_of_lt_of_le l2 hW.size
        have s1 : b < wr.heap.size := Nat.lt_of_lt_of_le hbl hW.size
        have HX := Lib.hid hx
        have i1 : (0 : Int) ≤ (k : Int) := by omega
        have i2 : (k : Int) < (n : Int) := by omega
        clear hx hxm hrow
        by_cases he : u' = u ∧ s' = s
        · have hat : isAt Z u s k := by unfold isAt; rw [HX.out]; exact he
          obtain rfl : v = (k : Int) := fnd_uniq HV.out (.inr ⟨k, by omega, rfl, hat, HN.out⟩)
          have hf := fun (V : World) (x1 : V.cell? ⟨b1, 0, none⟩ = some (.int .i64 u)) (x2 : V.cell? ⟨b2, 0, none⟩ = some (.int .i64 s)) (y1 : b1 < V.heap.size) (y2 : b2 < V.heap.size) => find1_is (A := Ar) (n := m) (c := cr) (wd := wd) (decide_eq_true he) V x1 x2 y1 y2
          clear he hat
          go_wp2_with fail
          refine (hf _ g1 g2 m1 m2).mono ?_
          rintro e w4 ⟨rfl, hb4⟩
          go_wp2
          go_returns
          exact ⟨rfl, bstep hW hb4⟩
        · have hat : ¬ isAt Z u s k := by unfold isAt; rw [HX.out]; exact he
          have HA := Lib.hid hat
          have hf := fun (V : World) (x1 : V.cell? ⟨b1, 0, none⟩ = some (.int .i64 u)) (x2 : V.cell? ⟨b2, 0, none⟩ = some (.int .i64 s)) (y1 : b1 < V.heap.size) (y2 : b2 < V.heap.size) => find1_is (A := Ar) (n := m) (c := cr) (wd := wd) (decide_eq_false he) V x1 x2 y1 y2
          clear he hat
          go_wp2_with fail
          refine (hf _ g1 g2 m1 m2).mono ?_
          rintro e w4 ⟨rfl, hb4⟩
          go_wp2
          go_roundw
          case rel =>
            refine ⟨k + 1, by omega, by go_num, Lib.hid (fun j hj => ?_), bstep hW hb4⟩
            by_cases h9 : j < k
            · exact HN.out j h9
            · have : j = k := by omega
              subst this; exact HA.out
          case measure => simp [intOf]; omega
      · have e : k = n := by omega
        obtain rfl : v = -1 := fnd_uniq HV.out (.inl ⟨rfl, fun j hj => HN.out j (by omega)⟩)
        go_wp2
        go_returns
        exact ⟨rfl, hW⟩
  clear hv
  go_enter Try.func66, Try.ntmps66
  go_wp2_with fail
  refine (hC w.heap.size (w.heap.size + 1) _ (by (repeat' (first | (with_reducible exact Below.refl _ _) | (with_reducible assumption) | (with_reducible refine balloc ?_ _) | (with_reducible refine bdrew ?_) | (with_reducible refine bdrewN ?_ _) | (with_reducible refine bstep ?_ (by assumption)) | (with_reducible refine bset ?_ ?_ _) | (exact Below.size (by assumption)) | go_size))) (by simp [go_sem]) (by simp [go_sem]) (by simp only [World.size_alloc]; omega) (by simp only [World.size_alloc]; omega)).mono ?_
  rintro e w1 ⟨rfl, b1⟩
  go_wp2
  go_returns
  exact ⟨rfl, bstep (by (repeat' (first | (with_reducible exact Below.refl _ _) | (with_reducible assumption) | (with_reducible refine balloc ?_ _) | (with_reducible refine bdrew ?_) | (with_reducible refine bdrewN ?_ _) | (with_reducible refine bstep ?_ (by assumption)) | (with_reducible refine bset ?_ ?_ _) | (exact Below.size (by assumption)) | go_size))) b1⟩
theorem l17Find_is {v : Int} {A : Option Addr} {n c : Nat} {Z : List NoteV} {u s : Int} (hv : isFnd Z u s v) (w : World) (hr : RdN w A n Z) (hn : n ≤ 1048576) :
    Calls Try.prog 52 #[.slice A n c, .int .i64 u, .int .i64 s] w fun e w' => e = .returned (.int .i64 v) ∧ Below w.heap.size w w' := by
  have hl := hr.1
  have HV := Lib.hid hv
  clear hv
  go_enter Try.func52, Try.ntmps52
  go_wp2
  go_loopw [7] (fun i wr => ∃ k : Nat, k ≤ n ∧ i = .int .i64 k ∧ Hid (∀ j, j < k → ¬ isAt Z u s j) ∧ Below w.heap.size w wr) (fun i _ => n - (intOf i).toNat)
  case atStart => exact ⟨0, Nat.zero_le _, rfl, Lib.hid (fun j hj => absurd hj (Nat.not_lt_zero _)), Below.refl _ _⟩
  case round =>
    obtain ⟨k, hk, rfl, HN, hW⟩ := hrel
    by_cases hlt : k < n
    · obtain ⟨b, off, u', s', Ar, m, cr, xs, wd, rfl, hbl, hx, hxm, hrow, c0, c1, c2, c3⟩ := hr.at_ hW hlt
      have s1 : b < wr.heap.size := Nat.lt_of_lt_of_le hbl hW.size
      have HX := Lib.hid hx
      have i1 : (0 : Int) ≤ (k : Int) := by omega
      have i2 : (k : Int) < (n : Int) := by omega
      clear hx hxm hrow
      by_cases hu : u' = u
      · have d1 : (u' == u) = true := by simp [hu]
        by_cases hs : s' = s
        · have d2 : (s' == s) = true := by simp [hs]
          have hat : isAt Z u s k := by unfold isAt; rw [HX.out]; exact ⟨hu, hs⟩
          obtain rfl : v = (k : Int) := fnd_uniq HV.out (.inr ⟨k, by omega, rfl, hat, HN.out⟩)
          clear hu hs hat
          go_wp2
          go_returns
          exact ⟨rfl, hW⟩
        · have d2 : (s' == s) = false := by simp [hs]
          have hat : ¬ isAt Z u s k := by unfold isAt; rw [HX.out]; exact fun h => hs h.2
          have HA := Lib.hid hat
          clear hu hs hat
          go_wp2
          go_roundw
          case rel =>
            refine ⟨k + 1, by omega, by go_num, Lib.hid (fun j hj => ?_), hW⟩
            by_cases h9 : j < k
            · exact HN.out j h9
            · have : j = k := by omega
              subst this; exact HA.out
          case measure => simp [intOf]; omega
      · have d1 : (u' == u) = false := by simp [hu]
        have hat : ¬ isAt Z u s k := by unfold isAt; rw [HX.out]; exact fun h => hu h.1
        have HA := Lib.hid hat
        clear hu hat
        go_wp2
        go_roundw
        case rel =>
          refine ⟨k + 1, by omega, by go_num, Lib.hid (fun j hj => ?_), hW⟩
          by_cases h9 : j < k
          · exact HN.out j h9
          · have : j = k := by omega
            subst this; exact HA.out
        case measure => simp [intOf]; omega
    · have e : k = n := by omega
      obtain rfl : v = -1 := fnd_uniq HV.out (.inl ⟨rfl, fun j hj => HN.out j (by omega)⟩)
      go_wp2
      go_returns
      exact ⟨rfl, hW⟩
end Go.Proofs.Ythgabapegpndnaa
