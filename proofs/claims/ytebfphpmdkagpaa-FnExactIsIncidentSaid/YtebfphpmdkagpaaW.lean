/-
  Terrains: the program's and the reference's test, copies; a struct whose first field is a struct of three cells. Conditions: lengths within the bound of a slice.
-/
import Derived.Test.YtebfphpmdkagpaaB
namespace Go.Proofs.Ytebfphpmdkagpaa
open Go.RowKit Go.ChangeShapes Go.WideShapes Go.Deep
set_option maxRecDepth 100000
set_option maxHeartbeats 1000000

section
variable {H : Type} {encH : TypeId × Value → H} {P : Program} {w : World}
theorem opens_nest31 {α0 α1 α2 α3 : Type} {t : TypeId} {f0 f1 f2 f3 : Field} {en0 : α0 → List Value} {en1 : α1 → Value} {en2 : α2 → Value} {en3 : α3 → Value} {ok0 : α0 → Prop} {ok1 : α1 → Prop} {ok2 : α2 → Prop} {ok3 : α3 → Prop}
    (ht : P.underlying t = some (.struct #[f0, f1, f2, f3]))
    (ho : (f0.offset, P.cellsOf f0.type, f1.offset, P.cellsOf f1.type, f2.offset, P.cellsOf f2.type, f3.offset, P.cellsOf f3.type, P.cellsOf t) = (0, 3, 3, 1, 4, 1, 5, 1, 6))
    (h0 : Opens encH P w f0.type en0 ok0) (h1 : Opens encH P w f1.type (fun a => [en1 a]) ok1) (h2 : Opens encH P w f2.type (fun a => [en2 a]) ok2) (h3 : Opens encH P w f3.type (fun a => [en3 a]) ok3) :
    Opens encH P w t (fun a : α0 × α1 × α2 × α3 => en0 a.1 ++ [en1 a.2.1, en2 a.2.2.1, en3 a.2.2.2]) (fun a => ok0 a.1 ∧ ok1 a.2.1 ∧ ok2 a.2.2.1 ∧ ok3 a.2.2.2) := by
  intro base spare held fuel cs x h
  simp only [Prod.mk.injEq] at ho
  obtain ⟨o0, c0, o1, c1, o2, c2, o3, c3, hC⟩ := ho
  obtain ⟨xs, n, _, _, hl, hlen, hg⟩ := DataW.trod_struct ht h
  match cs, hl.trans hC with
  | [v0, v1, v2, v3, v4, v5], _ =>
    match xs, hlen with
    | [y0, y1, y2, y3], _ =>
      obtain ⟨a0, e0, w0⟩ := h0 _ _ _ _ _ _ (show DataW.trod encH P w base spare held n f0.type [v0, v1, v2] = some y0 by simpa [o0, c0] using hg 0 f0 rfl)
      obtain ⟨a1, e1, w1⟩ := h1 _ _ _ _ _ _ (show DataW.trod encH P w base spare held n f1.type [v3] = some y1 by simpa [o1, c1] using hg 1 f1 rfl)
      simp only [List.cons.injEq, and_true] at e1
      subst e1
      obtain ⟨a2, e2, w2⟩ := h2 _ _ _ _ _ _ (show DataW.trod encH P w base spare held n f2.type [v4] = some y2 by simpa [o2, c2] using hg 2 f2 rfl)
      simp only [List.cons.injEq, and_true] at e2
      subst e2
      obtain ⟨a3, e3, w3⟩ := h3 _ _ _ _ _ _ (show DataW.trod encH P w base spare held n f3.type [v5] = some y3 by simpa [o3, c3] using hg 3 f3 rfl)
      simp only [List.cons.injEq, and_true] at e3
      subst e3
      refine ⟨⟨a0, a1, a2, a3⟩, ?_, w0, w1, w2, w3⟩
      show [v0, v1, v2, en1 a1, en2 a2, en3 a3] = en0 a0 ++ [en1 a1, en2 a2, en3 a3]
      rw [← e0]; rfl
end
def brnP (x : Int) : Bool := inB x 0 20
def terB (W H : Int) (zs : List Int) : Bool := (inB W 1 5 && inB H 1 5) && (decide ((zs.length : Int) = W * H) && zs.all brnP)
theorem brn_of {x : Int} (v : Bool) (h : brnP x = v) (w : World) : Calls Try.prog 55 #[.int .i64 x] w fun e w' => e = .returned (.bool v) ∧ Below w.heap.size w w' := by
  go_enter Try.func55, Try.ntmps55
  go_wp2_with (first | (go_at_call 35; refine (in_of v h _).mono ?_; rintro e w' ⟨rfl, rfl⟩))
  go_returns
  exact ⟨rfl, Below.refl _ _⟩
theorem notBrn_of {x : Int} {bx : Nat} (v : Bool) (h : brnP x = v) (w : World) (hc : w.cell? ⟨bx, 0, none⟩ = some (.func (.func 55) #[] #[])) (hb : bx < w.heap.size) :
    Calls Try.prog 52 #[.int .i64 x, .pointer (some ⟨bx, 0, none⟩)] w fun e w' => e = .returned (.bool (!v)) ∧ Below w.heap.size w w' := by
  have hne : ¬ bx = w.heap.size := by omega
  go_enter Try.func52, Try.ntmps52
  go_wp2_with (first | (go_at_call 55; refine (brn_of v h _).mono ?_; rintro e w' ⟨rfl, hb⟩; (try clear cW fW zW); (first | (have bW := bstep bW hb) | (have bW := bstep (bdrew bW) hb) | (have bW := bstep (balloc bW _) hb) | (have bW := bstep (bdrewN bW _) hb) | (have bW := hb)); clear hb; obtain ⟨cW, fW⟩ := bcell bW; have zW := bsize bW))
  go_returns
  exact ⟨rfl, by (repeat' (first | (with_reducible exact Below.refl _ _) | (with_reducible assumption) | (with_reducible refine balloc ?_ _) | (with_reducible refine bdrew ?_) | (with_reducible refine bdrewN ?_ _) | (with_reducible refine bstep ?_ (by assumption)) | (with_reducible refine bset ?_ ?_ _) | (exact Below.size (by assumption)) | go_size))⟩
theorem brns_of {A : Option Addr} {n c : Nat} {zs : List Int} (v : Bool) (h : zs.all brnP = v) (w : World) (hr : Rd w 1 A n (ints zs)) (hl : zs.length = n) (hn : n ≤ 140737488355328) :
    Calls Try.prog 36 #[.slice A n c, .func (.func 55) #[] #[]] w fun e w' => e = .returned (.bool v) ∧ Below w.heap.size w w' := by
  rw [← h]
  exact all_int A n c zs brnP _ _ _ w hr hl hn fun _ v _ W _ hv hc hb _ => notBrn_of v hv W hc hb
theorem IsTerrain_is {q : Bool} {W H : Int} {A : Option Addr} {n c : Nat} {zs : List Int} (hq : terB W H zs = q) (w : World) (hr : Rd w 1 A n (ints zs)) (hl : zs.length = n) (hn : n ≤ 140737488355328) :
    Calls Try.prog 48 #[.agg #[.int .i64 W, .int .i64 H, .slice A n c]] w fun e w' => e = .returned (.bool q) ∧ Below w.heap.size w w' := by
  go_enter Try.func48, Try.ntmps48
  rcases h1 : inB W 1 5 with _ | _
  · obtain rfl : q = false := by rw [← hq]; simp [terB, h1]
    clear hq
    go_wp2_with (first | (go_at_call 35; refine (in_of false h1 _).mono ?_; rintro e w' ⟨rfl, rfl⟩))
    go_returns
    exact ⟨rfl, by (repeat' (first | (with_reducible exact Below.refl _ _) | (with_reducible assumption) | (with_reducible refine balloc ?_ _) | (with_reducible refine bdrew ?_) | (with_reducible refine bdrewN ?_ _) | (with_reducible refine bstep ?_ (by assumption)) | (with_reducible refine bset ?_ ?_ _) | (exact Below.size (by assumption)) | go_size))⟩
  · rcases h2 : inB H 1 5 with _ | _
    · obtain rfl : q = false := by rw [← hq]; simp [terB, h2]
      clear hq
      go_wp2_with fail
      refine (in_of true h1 _).mono ?_
      rintro e w1 ⟨rfl, rfl⟩
      go_wp2_with fail
      refine (in_of false h2 _).mono ?_
      rintro e w1 ⟨rfl, rfl⟩
      go_wp2
      go_returns
      exact ⟨rfl, by (repeat' (first | (with_reducible exact Below.refl _ _) | (with_reducible assumption) | (with_reducible refine balloc ?_ _) | (with_reducible refine bdrew ?_) | (with_reducible refine bdrewN ?_ _) | (with_reducible refine bstep ?_ (by assumption)) | (with_reducible refine bset ?_ ?_ _) | (exact Below.size (by assumption)) | go_size))⟩
    · obtain ⟨b1, b2, b3⟩ := side_bd h1 h2
      have hwr : IntKind.i64.wrap (W * H) = W * H := IntWalk.i64_in _ (by omega)
      by_cases h3 : (n : Int) = W * H
      · obtain rfl : zs.all brnP = q := by rw [← hq]; simp [terB, h1, h2, hl, h3]
        clear hq
        obtain ⟨q, hq⟩ : ∃ q, zs.all brnP = q := ⟨_, rfl⟩
        rw [hq]
        have HQ := Lib.hid hq
        clear hq
        go_wp2_with fail
        refine (in_of true h1 _).mono ?_
        rintro e w1 ⟨rfl, rfl⟩
        go_wp2_with fail
        refine (in_of true h2 _).mono ?_
        rintro e w1 ⟨rfl, rfl⟩
        go_wp2_with fail
        refine (brns_of q HQ.out _ (hr.below (balloc (Below.refl _ _) _)) hl hn).mono ?_
        rintro e w1 ⟨rfl, hb⟩
        go_wp2
        go_returns
        exact ⟨rfl, by (repeat' (first | (with_reducible exact Below.refl _ _) | (with_reducible assumption) | (with_reducible refine balloc ?_ _) | (with_reducible refine bdrew ?_) | (with_reducible refine bdrewN ?_ _) | (with_reducible refine bstep ?_ (by assumption)) | (with_reducible refine bset ?_ ?_ _) | (exact Below.size (by assumption)) | go_size))⟩
      · obtain rfl : q = false := by rw [← hq]; simp [terB, hl, h3]
        clear hq
        go_wp2_with fail
        refine (in_of true h1 _).mono ?_
        rintro e w1 ⟨rfl, rfl⟩
        go_wp2_with fail
        refine (in_of true h2 _).mono ?_
        rintro e w1 ⟨rfl, rfl⟩
        go_wp2
        go_returns
        exact ⟨rfl, by (repeat' (first | (with_reducible exact Below.refl _ _) | (with_reducible assumption) | (with_reducible refine balloc ?_ _) | (with_reducible refine bdrew ?_) | (with_reducible refine bdrewN ?_ _) | (with_reducible refine bstep ?_ (by assumption)) | (with_reducible refine bset ?_ ?_ _) | (exact Below.size (by assumption)) | go_size))⟩
theorem l2Good_is {q : Bool} {W H : Int} {A : Option Addr} {n c : Nat} {zs : List Int} (hq : terB W H zs = q) (w : World) (hr : Rd w 1 A n (ints zs)) (hl : zs.length = n) (_hn : n ≤ 140737488355328) :
    Calls Try.prog 53 #[.agg #[.int .i64 W, .int .i64 H, .slice A n c]] w fun e w' => e = .returned (.bool q) ∧ Below w.heap.size w w' := by
  go_enter Try.func53, Try.ntmps53
  rcases h1 : inB W 1 5 with _ | _
  · obtain rfl : q = false := by rw [← hq]; simp [terB, h1]
    clear hq
    go_wp2_with (first | (go_at_call 41; refine (l1In_of false h1 _).mono ?_; rintro e w' ⟨rfl, rfl⟩))
    go_returns
    exact ⟨rfl, by (repeat' (first | (with_reducible exact Below.refl _ _) | (with_reducible assumption) | (with_reducible refine balloc ?_ _) | (with_reducible refine bdrew ?_) | (with_reducible refine bdrewN ?_ _) | (with_reducible refine bstep ?_ (by assumption)) | (with_reducible refine bset ?_ ?_ _) | (exact Below.size (by assumption)) | go_size))⟩
  · rcases h2 : inB H 1 5 with _ | _
    · obtain rfl : q = false := by rw [← hq]; simp [terB, h2]
      clear hq
      go_wp2_with fail
      refine (l1In_of true h1 _).mono ?_
      rintro e w1 ⟨rfl, rfl⟩
      go_wp2_with fail
      refine (l1In_of false h2 _).mono ?_
      rintro e w1 ⟨rfl, rfl⟩
      go_wp2
      go_returns
      exact ⟨rfl, by (repeat' (first | (with_reducible exact Below.refl _ _) | (with_reducible assumption) | (with_reducible refine balloc ?_ _) | (with_reducible refine bdrew ?_) | (with_reducible refine bdrewN ?_ _) | (with_reducible refine bstep ?_ (by assumption)) | (with_reducible refine bset ?_ ?_ _) | (exact Below.size (by assumption)) | go_size))⟩
    · obtain ⟨b1, b2, b3⟩ := side_bd h1 h2
      have hwr : IntKind.i64.wrap (W * H) = W * H := IntWalk.i64_in _ (by omega)
      by_cases h3 : (n : Int) = W * H
      · have hqz : zs.all brnP = q := by rw [← hq]; simp [terB, h1, h2, hl, h3]
        have HQ := Lib.hid hqz
        clear hqz hq
        have hbox := Bk.new w 53 [.int .i64 W, .int .i64 H, .slice A n c]
        go_wp2_with fail
        refine (l1In_of true h1 _).mono ?_
        rintro e w1 ⟨rfl, rfl⟩
        go_wp2_with fail
        refine (l1In_of true h2 _).mono ?_
        rintro e w1 ⟨rfl, rfl⟩
        go_wp2_with fail
        clear hwr
        go_loopw [3] (fun i wr => ∃ k : Nat, k ≤ n ∧ i = .int .i64 k ∧ (zs.take k).all brnP = true ∧ Bk wr w.heap.size 53 [.int .i64 W, .int .i64 H, .slice A n c] ∧ Below w.heap.size w wr) (fun i _ => n - (intOf i).toNat)
        case atStart => exact ⟨0, Nat.zero_le _, rfl, by simp, hbox, by (repeat' (first | (with_reducible exact Below.refl _ _) | (with_reducible assumption) | (with_reducible refine balloc ?_ _) | (with_reducible refine bdrew ?_) | (with_reducible refine bdrewN ?_ _) | (with_reducible refine bstep ?_ (by assumption)) | (with_reducible refine bset ?_ ?_ _) | (exact Below.size (by assumption)) | go_size))⟩
        case round =>
          obtain ⟨k, hk, rfl, ho, hB, hW⟩ := hrel
          have hc2 := hB.cell 2
          simp only [List.getElem?_cons_zero, List.getElem?_cons_succ] at hc2
          have HO := Lib.hid ho
          have HB := Lib.hid hB
          clear ho hB
          by_cases hlt : k < n
          · obtain ⟨b, off, x, rfl, hbl, hz, c0⟩ := ints_at hr hW hl hlt
            have hk2 : k < zs.length := by omega
            have HZ := Lib.hid hz
            clear hz
            rcases hv : brnP x with _ | _
            · obtain rfl : q = false := by rw [← HQ.out, all_not hk2 HZ.out hv]
              go_wp2_with (first | (go_at_call 41; refine (l1In_of false hv _).mono ?_; rintro e w' ⟨rfl, rfl⟩))
              go_returns
              exact ⟨rfl, hW⟩
            · go_wp2_with (first | (go_at_call 41; refine (l1In_of true hv _).mono ?_; rintro e w' ⟨rfl, rfl⟩))
              go_roundw
              case rel => exact ⟨k + 1, by omega, by go_num, all_step hk2 HZ.out HO.out hv, HB.out, hW⟩
              case measure => simp [intOf]; omega
          · obtain rfl : q = true := by rw [← HQ.out, all_whole (by omega) HO.out]
            go_wp2
            go_returns
            exact ⟨rfl, hW⟩
      · obtain rfl : q = false := by rw [← hq]; simp [terB, hl, h3]
        clear hq
        go_wp2_with fail
        refine (l1In_of true h1 _).mono ?_
        rintro e w1 ⟨rfl, rfl⟩
        go_wp2_with fail
        refine (l1In_of true h2 _).mono ?_
        rintro e w1 ⟨rfl, rfl⟩
        go_wp2
        go_returns
        exact ⟨rfl, by (repeat' (first | (with_reducible exact Below.refl _ _) | (with_reducible assumption) | (with_reducible refine balloc ?_ _) | (with_reducible refine bdrew ?_) | (with_reducible refine bdrewN ?_ _) | (with_reducible refine bstep ?_ (by assumption)) | (with_reducible refine bset ?_ ?_ _) | (exact Below.size (by assumption)) | go_size))⟩
theorem toTerrain_any (W H : Int) (A : Option Addr) (n c : Nat) (zs : List Int) (w : World) (hr : Rd w 1 A n (ints zs)) (hn : n ≤ 1048576) :
    Calls Try.prog 47 #[.agg #[.int .i64 W, .int .i64 H, .slice A n c]] w fun e w' => ∃ g, e = .returned (.agg #[.int .i64 W, .int .i64 H, .slice (some ⟨g, 0, none⟩) n n]) ∧ w.heap.size ≤ g ∧ Bk w' g 3 (ints zs) ∧ Below w.heap.size w w' := by
  go_enter Try.func47, Try.ntmps47
  go_upto_region 4 with fail
  refine wp_gen (fun w0 => Bk w0 w.heap.size 48 [.int .i64 W, .int .i64 H, .slice A n c] ∧ Bk w0 (w.heap.size + 1) 53 [.int .i64 0, .int .i64 0, .slice none 0 0] ∧ Bk w0 (w.heap.size + 2) 53 [.int .i64 W, .int .i64 H, .slice none 0 0] ∧ Below w.heap.size w w0) ?_ ?_
  · refine ⟨Bk.alloc (Bk.alloc (Bk.new' rfl) _) _, Bk.alloc (Bk.new' (by simp)) _, Bk.new' (by simp), by (repeat' (first | (with_reducible exact Below.refl _ _) | (with_reducible assumption) | (with_reducible refine balloc ?_ _) | (with_reducible refine bdrew ?_) | (with_reducible refine bdrewN ?_ _) | (with_reducible refine bstep ?_ (by assumption)) | (with_reducible refine bset ?_ ?_ _) | (exact Below.size (by assumption)) | go_size))⟩
  intro w0 ⟨ha, hb2, hc, hW⟩
  have l2 := hb2.lt
  have l3 := hc.lt
  have x2 := ha.cell 2
  simp only [List.getElem?_cons_zero, List.getElem?_cons_succ] at x2
  go_wp2_with fail
  refine (toIntS_any A n c zs _ (hr.below hW) (by omega)).mono ?_
  rintro e w1 ⟨g, rfl, hg, hB, hb⟩
  have bW : Below w.heap.size w w1 := bstep hW hb
  have hb2 := hb2.below hb hb2.lt
  have hc := hc.below hb hc.lt
  clear x2
  have y0 := hc.cell 0
  have y1 := hc.cell 1
  have y2 := hc.cell 2
  have f2 := hc.frozen 2
  have z0 := hb2.cell 0
  have z1 := hb2.cell 1
  have z2 := hb2.cell 2
  have f0 := hb2.frozen 0
  have f1 := hb2.frozen 1
  have f3 := hb2.frozen 2
  simp only [List.getElem?_cons_zero, List.getElem?_cons_succ] at y0 y1 y2 z0 z1 z2
  have m2 := hb2.lt
  have m3 := hc.lt
  go_wp2
  (refine bodyPost_ret (by simp (maxDischargeDepth := 4) [results, Try.results47, go_sem, *]; try rfl) rfl ?_)
  refine ⟨g, rfl, by have := hW.size; omega, ?_, ?_⟩
  · exact (((hB.far (by simp; omega) _).far (by simp; omega) _).far (by simp; omega) _).far (by simp; omega) _
  · exact bset (bset (bset (bset bW (by simp; omega) _) (by simp) _) (by simp) _) (by simp) _
theorem szTerrain_any (W H : Int) (A : Option Addr) (n c : Nat) (l : Int) (w : World) (hn : n ≤ 9223372036854775807) (hl : 0 ≤ l ∧ l ≤ 1048576) :
    Calls Try.prog 45 #[.agg #[.int .i64 W, .int .i64 H, .slice A n c], .int .i64 l] w fun e w' => e = .returned (.int .i64 (szI n l)) ∧ Below w.heap.size w w' := by
  by_cases h : l < (n : Int)
  · have hz := fun W => szIntS_any A n c l W hn hl
    have e : szI n l = -1 := by unfold szI; rw [if_pos h]
    rw [e] at hz ⊢
    go_enter Try.func45, Try.ntmps45
    go_wp2_with (first | (go_at_call 32; refine (hz _).mono ?_; rintro e w' ⟨rfl, rfl⟩))
    go_returns
    exact ⟨rfl, by (repeat' (first | (with_reducible exact Below.refl _ _) | (with_reducible assumption) | (with_reducible refine balloc ?_ _) | (with_reducible refine bdrew ?_) | (with_reducible refine bdrewN ?_ _) | (with_reducible refine bstep ?_ (by assumption)) | (with_reducible refine bset ?_ ?_ _) | (exact Below.size (by assumption)) | go_size))⟩
  · have hz := fun W => szIntS_any A n c l W hn hl
    have e : szI n l = l - n := by unfold szI; rw [if_neg h]
    rw [e] at hz ⊢
    go_enter Try.func45, Try.ntmps45
    go_wp2_with (first | (go_at_call 32; refine (hz _).mono ?_; rintro e w' ⟨rfl, rfl⟩))
    go_returns
    exact ⟨rfl, by (repeat' (first | (with_reducible exact Below.refl _ _) | (with_reducible assumption) | (with_reducible refine balloc ?_ _) | (with_reducible refine bdrew ?_) | (with_reducible refine bdrewN ?_ _) | (with_reducible refine bstep ?_ (by assumption)) | (with_reducible refine bset ?_ ?_ _) | (exact Below.size (by assumption)) | go_size))⟩
theorem eqTerrain_same (W H : Int) (A B : Option Addr) (n c d : Nat) (zs : List Int) (w : World) (hx : Rd w 1 A n (ints zs)) (hy : Rd w 1 B n (ints zs)) (hn : n ≤ 1048576) :
    Calls Try.prog 50 #[.agg #[.int .i64 W, .int .i64 H, .slice A n c], .agg #[.int .i64 W, .int .i64 H, .slice B n d]] w fun e w' => e = .returned (.bool true) ∧ Below w.heap.size w w' := by
  go_enter Try.func50, Try.ntmps50
  go_wp2_with (first | (go_at_call 20; refine (eqIntS_yes _ (hx.below (balloc (balloc (Below.refl _ _) _) _)) (hy.below (balloc (balloc (Below.refl _ _) _) _)) (by omega) rfl).mono ?_; rintro e w' ⟨rfl, hb⟩; (try clear cW fW zW); (first | (have bW := bstep bW hb) | (have bW := bstep (bdrew bW) hb) | (have bW := bstep (balloc bW _) hb) | (have bW := bstep (bdrewN bW _) hb) | (have bW := hb)); clear hb; obtain ⟨cW, fW⟩ := bcell bW; have zW := bsize bW))
  go_returns
  exact ⟨rfl, by (repeat' (first | (with_reducible exact Below.refl _ _) | (with_reducible assumption) | (with_reducible refine balloc ?_ _) | (with_reducible refine bdrew ?_) | (with_reducible refine bdrewN ?_ _) | (with_reducible refine bstep ?_ (by assumption)) | (with_reducible refine bset ?_ ?_ _) | (exact Below.size (by assumption)) | go_size))⟩
end Go.Proofs.Ytebfphpmdkagpaa
