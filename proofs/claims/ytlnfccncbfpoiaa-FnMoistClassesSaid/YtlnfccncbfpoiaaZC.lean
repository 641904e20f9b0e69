/-
  MixMoisture of the program. Conditions: lengths within the bound of a slice.
-/
import Derived.Test.YtlnfccncbfpoiaaZB
namespace Go.Proofs.Ytlnfccncbfpoiaa
open Go.RowKit
set_option maxRecDepth 100000
set_option maxHeartbeats 1000000

theorem idx_fub (A : Option Addr) (n c : Nat) (zs : List FuelbedT) (p : FuelbedT → Bool) (bx : Nat) (w : World) (hr : Rd w 2 A n (fubF zs)) (hl : zs.length = n) (hn : n ≤ 140737488355328)
    (hF : ∀ (x0 : Int) (x1 : Int) (v : Bool) (W : World), (x0, x1) ∈ zs → p (x0, x1) = v → Below w.heap.size w W → Calls Try.prog 66 #[.agg #[.int .i64 x0, .int .i64 x1], .pointer (some ⟨bx, 0, none⟩)] W fun e w' => e = .returned (.bool (!v)) ∧ Below W.heap.size W w') :
    Calls Try.prog 72 #[.slice A n c, .func (.func 66) #[] #[.pointer (some ⟨bx, 0, none⟩)]] w fun e w' => ∃ v : Int, e = .returned (.int .i64 v) ∧ decide (0 ≤ v) = !(zs.all p) ∧ Below w.heap.size w w' := by
  go_enter Try.func72, Try.ntmps72
  go_wp2
  go_loopw [8] (fun i wr => ∃ k : Nat, k ≤ n ∧ i = .int .i64 k ∧ (zs.take k).all p = true ∧ Below w.heap.size w wr) (fun i _ => n - (intOf i).toNat)
  case atStart => exact ⟨0, Nat.zero_le _, rfl, by simp, by (repeat' (first | (with_reducible exact Below.refl _ _) | (with_reducible assumption) | (with_reducible refine balloc ?_ _) | (with_reducible refine bdrew ?_) | (with_reducible refine bdrewN ?_ _) | (with_reducible refine bstep ?_ (by assumption)) | (with_reducible refine bset ?_ ?_ _) | (exact Below.size (by assumption)) | go_size))⟩
  case round =>
    obtain ⟨k, hk, rfl, ho, hW⟩ := hrel
    by_cases hlt : k < n
    · obtain ⟨b, off, rfl, hbl, x0, x1, hz, c0, c1⟩ := fub_at hr hW hl hlt
      have hk2 : k < zs.length := by omega
      have hmem : (x0, x1) ∈ zs := hz ▸ List.getElem_mem hk2
      have HZ := Lib.hid hz
      have HO := Lib.hid ho
      clear hz ho
      rcases hv : p (x0, x1) with _ | _
      · go_wp2_with (first | (go_at_call 66; refine (hF x0 x1 false _ hmem hv hW).mono ?_; rintro e w' ⟨rfl, hb⟩; (try clear cW fW zW); (first | (have bW := bstep bW hb) | (have bW := bstep (bdrew bW) hb) | (have bW := bstep (balloc bW _) hb) | (have bW := bstep (bdrewN bW _) hb) | (have bW := hb)); clear hb; obtain ⟨cW, fW⟩ := bcell bW; have zW := bsize bW))
        go_returns
        refine ⟨_, rfl, ?_, bstep hW bW⟩
        have hf : zs.all p = false := by
          rw [List.all_eq_false]
          exact ⟨zs[k], List.getElem_mem _, by rw [HZ.out]; simp [hv]⟩
        rw [hf]
        simp
      · go_wp2_with (first | (go_at_call 66; refine (hF x0 x1 true _ hmem hv hW).mono ?_; rintro e w' ⟨rfl, hb⟩; (try clear cW fW zW); (first | (have bW := bstep bW hb) | (have bW := bstep (bdrew bW) hb) | (have bW := bstep (balloc bW _) hb) | (have bW := bstep (bdrewN bW _) hb) | (have bW := hb)); clear hb; obtain ⟨cW, fW⟩ := bcell bW; have zW := bsize bW))
        go_roundw
        case rel =>
          refine ⟨k + 1, by omega, by go_num, ?_, bstep hW bW⟩
          rw [List.take_succ_eq_append_getElem hk2, List.all_append, HO.out, HZ.out]
          simp [hv]
        case measure => simp [intOf]; omega
    · have hkn : k = n := by omega
      have h1 : zs.all p = true := by rw [List.take_of_length_le (by omega)] at ho; exact ho
      clear ho
      have H1 := Lib.hid h1
      clear h1
      go_wp2
      go_returns
      exact ⟨_, rfl, by rw [H1.out]; simp, hW⟩
theorem con_fub (A : Option Addr) (n c : Nat) (zs : List FuelbedT) (p : FuelbedT → Bool) (bx : Nat) (w : World) (hr : Rd w 2 A n (fubF zs)) (hl : zs.length = n) (hn : n ≤ 140737488355328)
    (hF : ∀ (x0 : Int) (x1 : Int) (v : Bool) (W : World), (x0, x1) ∈ zs → p (x0, x1) = v → Below w.heap.size w W → Calls Try.prog 66 #[.agg #[.int .i64 x0, .int .i64 x1], .pointer (some ⟨bx, 0, none⟩)] W fun e w' => e = .returned (.bool (!v)) ∧ Below W.heap.size W w') :
    Calls Try.prog 65 #[.slice A n c, .func (.func 66) #[] #[.pointer (some ⟨bx, 0, none⟩)]] w fun e w' => e = .returned (.bool (!(zs.all p))) ∧ Below w.heap.size w w' := by
  go_enter Try.func65, Try.ntmps65
  go_wp2_with fail
  refine (idx_fub A n c zs p bx w hr hl hn hF).mono ?_
  rintro e w1 ⟨v, rfl, hv, b1⟩
  go_wp2
  go_returns
  exact ⟨by rw [← hv]; first | rfl | (simp; done) | (congr 2; simp [ge_iff_le]), b1⟩
theorem all_fub (A : Option Addr) (n c : Nat) (zs : List FuelbedT) (p : FuelbedT → Bool) (fn : Fn) (fc : Array Value) (fe : Array Value) (w : World) (hr : Rd w 2 A n (fubF zs)) (hl : zs.length = n) (hn : n ≤ 140737488355328)
    (hF : ∀ (x0 : Int) (x1 : Int) (v : Bool) (bx : Nat) (W : World), (x0, x1) ∈ zs → p (x0, x1) = v → W.cell? ⟨bx, 0, none⟩ = some (.func fn fc fe) → bx < W.heap.size → Below w.heap.size w W → Calls Try.prog 66 #[.agg #[.int .i64 x0, .int .i64 x1], .pointer (some ⟨bx, 0, none⟩)] W fun e w' => e = .returned (.bool (!v)) ∧ Below W.heap.size W w') :
    Calls Try.prog 53 #[.slice A n c, .func fn fc fe] w fun e w' => e = .returned (.bool (zs.all p)) ∧ Below w.heap.size w w' := by
  go_enter Try.func53, Try.ntmps53
  go_wp2_with fail
  refine (con_fub A n c zs p w.heap.size _ (hr.below (balloc (Below.refl _ _) _)) hl hn (fun x0 x1 v W hm hv hW => hF x0 x1 v w.heap.size W hm hv ?_ ?_ ?_)).mono ?_
  · exact (hW.cell (p := ⟨w.heap.size, 0, none⟩) (by simp)).trans (by simp [go_sem])
  · exact Nat.lt_of_lt_of_le (by simp) hW.size
  · exact (balloc (Below.refl _ _) _).trans (hW.mono (by simp))
  rintro e w1 ⟨rfl, b1⟩
  go_wp2
  go_returns
  exact ⟨by simp, by (repeat' (first | (with_reducible exact Below.refl _ _) | (with_reducible assumption) | (with_reducible refine balloc ?_ _) | (with_reducible refine bdrew ?_) | (with_reducible refine bdrewN ?_ _) | (with_reducible refine bstep ?_ (by assumption)) | (with_reducible refine bset ?_ ?_ _) | (exact Below.size (by assumption)) | go_size))⟩
theorem IsFuelbed_of {l m : Int} (v : Bool) (h : bedB l m = v) (w : World) : Calls Try.prog 9 #[.agg #[.int .i64 l, .int .i64 m]] w fun e w' => e = .returned (.bool v) ∧ Below w.heap.size w w' := by rw [← h]; exact IsFuelbed_any l m w
theorem notBed_of {l m : Int} {bx : Nat} (v : Bool) (h : bedB l m = v) (w : World) (hc : w.cell? ⟨bx, 0, none⟩ = some (.func (.func 9) #[] #[])) (hb : bx < w.heap.size) :
    Calls Try.prog 66 #[.agg #[.int .i64 l, .int .i64 m], .pointer (some ⟨bx, 0, none⟩)] w fun e w' => e = .returned (.bool (!v)) ∧ Below w.heap.size w w' := by
  have hne : ¬ bx = w.heap.size := by omega
  go_enter Try.func66, Try.ntmps66
  go_wp2_with (first | (go_at_call 9; refine (IsFuelbed_of v h _).mono ?_; rintro e w' ⟨rfl, hb⟩; (try clear cW fW zW); (first | (have bW := bstep bW hb) | (have bW := bstep (bdrew bW) hb) | (have bW := bstep (balloc bW _) hb) | (have bW := bstep (bdrewN bW _) hb) | (have bW := hb)); clear hb; obtain ⟨cW, fW⟩ := bcell bW; have zW := bsize bW))
  go_returns
  exact ⟨rfl, by (repeat' (first | (with_reducible exact Below.refl _ _) | (with_reducible assumption) | (with_reducible refine balloc ?_ _) | (with_reducible refine bdrew ?_) | (with_reducible refine bdrewN ?_ _) | (with_reducible refine bstep ?_ (by assumption)) | (with_reducible refine bset ?_ ?_ _) | (exact Below.size (by assumption)) | go_size))⟩
theorem beds_of {A : Option Addr} {n c : Nat} {zs : List FuelbedT} (v : Bool) (h : zs.all bedP = v) (w : World) (hr : Rd w 2 A n (fubF zs)) (hl : zs.length = n) (hn : n ≤ 140737488355328) :
    Calls Try.prog 53 #[.slice A n c, .func (.func 9) #[] #[]] w fun e w' => e = .returned (.bool v) ∧ Below w.heap.size w w' := by
  rw [← h]
  exact all_fub A n c zs bedP _ _ _ w hr hl hn fun _ _ v _ W _ hv hc hb _ => notBed_of v hv W hc hb
theorem prtClo_of {x : Int} (v : Bool) (h : prtP x = v) (w : World) : Calls Try.prog 55 #[.int .i64 x] w fun e w' => e = .returned (.bool v) ∧ Below w.heap.size w w' := by
  go_enter Try.func55, Try.ntmps55
  go_wp2_with (first | (go_at_call 39; refine (in_of v h _).mono ?_; rintro e w' ⟨rfl, rfl⟩))
  go_returns
  exact ⟨rfl, by (repeat' (first | (with_reducible exact Below.refl _ _) | (with_reducible assumption) | (with_reducible refine balloc ?_ _) | (with_reducible refine bdrew ?_) | (with_reducible refine bdrewN ?_ _) | (with_reducible refine bstep ?_ (by assumption)) | (with_reducible refine bset ?_ ?_ _) | (exact Below.size (by assumption)) | go_size))⟩
theorem notPrt_of {x : Int} {bx : Nat} (v : Bool) (h : prtP x = v) (w : World) (hc : w.cell? ⟨bx, 0, none⟩ = some (.func (.func 55) #[] #[])) (hb : bx < w.heap.size) :
    Calls Try.prog 68 #[.int .i64 x, .pointer (some ⟨bx, 0, none⟩)] w fun e w' => e = .returned (.bool (!v)) ∧ Below w.heap.size w w' := by
  have hne : ¬ bx = w.heap.size := by omega
  go_enter Try.func68, Try.ntmps68
  go_wp2_with (first | (go_at_call 55; refine (prtClo_of v h _).mono ?_; rintro e w' ⟨rfl, hb⟩; (try clear cW fW zW); (first | (have bW := bstep bW hb) | (have bW := bstep (bdrew bW) hb) | (have bW := bstep (balloc bW _) hb) | (have bW := bstep (bdrewN bW _) hb) | (have bW := hb)); clear hb; obtain ⟨cW, fW⟩ := bcell bW; have zW := bsize bW))
  go_returns
  exact ⟨rfl, by (repeat' (first | (with_reducible exact Below.refl _ _) | (with_reducible assumption) | (with_reducible refine balloc ?_ _) | (with_reducible refine bdrew ?_) | (with_reducible refine bdrewN ?_ _) | (with_reducible refine bstep ?_ (by assumption)) | (with_reducible refine bset ?_ ?_ _) | (exact Below.size (by assumption)) | go_size))⟩
theorem prts_of {A : Option Addr} {n c : Nat} {zs : List Int} (v : Bool) (h : zs.all prtP = v) (w : World) (hr : Rd w 1 A n (ints zs)) (hl : zs.length = n) (hn : n ≤ 140737488355328) :
    Calls Try.prog 54 #[.slice A n c, .func (.func 55) #[] #[]] w fun e w' => e = .returned (.bool v) ∧ Below w.heap.size w w' := by
  rw [← h]
  exact all_int A n c zs prtP _ _ _ w hr hl hn fun _ v _ W _ hv hc hb _ => notPrt_of v hv W hc hb
theorem Mix_is {q : Bool} {I D : Int} {zs : List FuelbedT} {ps : List Int} {A B : Option Addr} {n c m d : Nat} (hq : mixOk zs ps = q) (hI : mixN zs ps = I) (hD : mixD zs ps = D) (w : World) (hx : Rd w 2 A n (fubF zs)) (hy : Rd w 1 B m (ints ps)) (hl : zs.length = n) (hm : ps.length = m) (hn : n ≤ 1048576) (hn' : m ≤ 1048576) :
    Calls Try.prog 30 #[.slice A n c, .slice B m d] w fun e w' => e = .returned (.tuple #[.int .i64 I, .int .i64 D, .bool q]) ∧ Below w.heap.size w w' := by
  rcases hok : mixOk zs ps with _ | _
  · obtain ⟨e2, e3⟩ := mix_no hok
    have hok2 := hok
    obtain rfl := hok.symm.trans hq
    obtain rfl := e2.symm.trans hI
    obtain rfl := e3.symm.trans hD
    clear e2 e3 hq hI hD hok
    go_enter Try.func30, Try.ntmps30
    rcases h6 : inB (n : Int) 1 6 with _ | _
    · clear hok2
      go_wp2_with (first | (go_at_call 39; refine (in_of false h6 _).mono ?_; rintro e w' ⟨rfl, rfl⟩))
      go_returns
      exact ⟨rfl, Below.refl _ _⟩
    · rcases ha : zs.all bedP with _ | _
      · clear hok2
        go_wp2_with (first | (go_at_call 39; refine (in_of true h6 _).mono ?_; rintro e w' ⟨rfl, rfl⟩) | (go_at_call 53; refine (beds_of false ha _ hx hl (by omega)).mono ?_; rintro e w' ⟨rfl, hb⟩; (try clear cW fW zW); (first | (have bW := bstep bW hb) | (have bW := bstep (bdrew bW) hb) | (have bW := bstep (balloc bW _) hb) | (have bW := bstep (bdrewN bW _) hb) | (have bW := hb)); clear hb; obtain ⟨cW, fW⟩ := bcell bW; have zW := bsize bW))
        go_returns
        exact ⟨rfl, bW⟩
      · by_cases hmn : m = n
        · subst hmn
          rcases hb : ps.all prtP with _ | _
          · clear hok2
            go_wp2_with (first | (go_at_call 39; refine (in_of true h6 _).mono ?_; rintro e w' ⟨rfl, rfl⟩) | (go_at_call 53; refine (beds_of true ha _ hx hl (by omega)).mono ?_; rintro e w' ⟨rfl, hb⟩; (try clear cW fW zW); (first | (have bW := bstep bW hb) | (have bW := bstep (bdrew bW) hb) | (have bW := bstep (balloc bW _) hb) | (have bW := bstep (bdrewN bW _) hb) | (have bW := hb)); clear hb; obtain ⟨cW, fW⟩ := bcell bW; have zW := bsize bW) | (go_at_call 54; refine (prts_of false hb _ (hy.below bW) hm (by omega)).mono ?_; rintro e w' ⟨rfl, hb⟩; (try clear cW fW zW); (first | (have bW := bstep bW hb) | (have bW := bstep (bdrew bW) hb) | (have bW := bstep (balloc bW _) hb) | (have bW := bstep (bdrewN bW _) hb) | (have bW := hb)); clear hb; obtain ⟨cW, fW⟩ := bcell bW; have zW := bsize bW))
            go_returns
            exact ⟨rfl, by (repeat' (first | (with_reducible exact Below.refl _ _) | (with_reducible assumption) | (with_reducible refine balloc ?_ _) | (with_reducible refine bdrew ?_) | (with_reducible refine bdrewN ?_ _) | (with_reducible refine bstep ?_ (by assumption)) | (with_reducible refine bset ?_ ?_ _) | (exact Below.size (by assumption)) | go_size))⟩
          · have hs : sumL ps = 0 := by
              simp only [mixOk, hl, h6, hm, ha, hb] at hok2
              simpa using hok2
            have hbd : ∀ x ∈ ps, 0 ≤ x ∧ x ≤ 10000 := fun x hx => by
              have := prt_bd (List.all_eq_true.1 hb x hx)
              omega
            have hT := fun W (hW : Below w.heap.size w W) => sum_any B m d ps W (hy.below hW) hm (by omega) hbd
            rw [hs] at hT
            have HT := Lib.hid hT
            clear hT hok2 hs hbd
            go_wp2_with (first | (go_at_call 39; refine (in_of true h6 _).mono ?_; rintro e w' ⟨rfl, rfl⟩) | (go_at_call 53; refine (beds_of true ha _ hx hl (by omega)).mono ?_; rintro e w' ⟨rfl, hb⟩; (try clear cW fW zW); (first | (have bW := bstep bW hb) | (have bW := bstep (bdrew bW) hb) | (have bW := bstep (balloc bW _) hb) | (have bW := bstep (bdrewN bW _) hb) | (have bW := hb)); clear hb; obtain ⟨cW, fW⟩ := bcell bW; have zW := bsize bW) | (go_at_call 54; refine (prts_of true hb _ (hy.below bW) hm (by omega)).mono ?_; rintro e w' ⟨rfl, hb⟩; (try clear cW fW zW); (first | (have bW := bstep bW hb) | (have bW := bstep (bdrew bW) hb) | (have bW := bstep (balloc bW _) hb) | (have bW := bstep (bdrewN bW _) hb) | (have bW := hb)); clear hb; obtain ⟨cW, fW⟩ := bcell bW; have zW := bsize bW) | (go_at_call 56; refine (HT.out _ bW).mono ?_; rintro e w' ⟨rfl, hb⟩; (try clear cW fW zW); (first | (have bW := bstep bW hb) | (have bW := bstep (bdrew bW) hb) | (have bW := bstep (balloc bW _) hb) | (have bW := bstep (bdrewN bW _) hb) | (have bW := hb)); clear hb; obtain ⟨cW, fW⟩ := bcell bW; have zW := bsize bW))
            go_returns
            exact ⟨rfl, by (repeat' (first | (with_reducible exact Below.refl _ _) | (with_reducible assumption) | (with_reducible refine balloc ?_ _) | (with_reducible refine bdrew ?_) | (with_reducible refine bdrewN ?_ _) | (with_reducible refine bstep ?_ (by assumption)) | (with_reducible refine bset ?_ ?_ _) | (exact Below.size (by assumption)) | go_size))⟩
        · clear hok2
          have hne : ¬ (m : Int) = (n : Int) := by omega
          go_wp2_with (first | (go_at_call 39; refine (in_of true h6 _).mono ?_; rintro e w' ⟨rfl, rfl⟩) | (go_at_call 53; refine (beds_of true ha _ hx hl (by omega)).mono ?_; rintro e w' ⟨rfl, hb⟩; (try clear cW fW zW); (first | (have bW := bstep bW hb) | (have bW := bstep (bdrew bW) hb) | (have bW := bstep (balloc bW _) hb) | (have bW := bstep (bdrewN bW _) hb) | (have bW := hb)); clear hb; obtain ⟨cW, fW⟩ := bcell bW; have zW := bsize bW))
          go_returns
          exact ⟨rfl, by (repeat' (first | (with_reducible exact Below.refl _ _) | (with_reducible assumption) | (with_reducible refine balloc ?_ _) | (with_reducible refine bdrew ?_) | (with_reducible refine bdrewN ?_ _) | (with_reducible refine bstep ?_ (by assumption)) | (with_reducible refine bset ?_ ?_ _) | (exact Below.size (by assumption)) | go_size))⟩
  · have hok2 := hok
    obtain rfl := hok.symm.trans hq
    simp only [mixOk, Bool.and_eq_true, decide_eq_true_eq, Bool.not_eq_true', decide_eq_false_iff_not, hl, hm] at hok2
    obtain ⟨⟨h6, hmn⟩, ⟨ha, hb⟩, hs0⟩ := hok2
    subst hmn
    have hbd : ∀ x ∈ ps, 0 ≤ x ∧ x ≤ 10000 := fun x hx => by
      have := prt_bd (List.all_eq_true.1 hb x hx)
      omega
    have hsb := sumL_bd (B := 100) (by omega) (xs := ps) (fun x hx => prt_bd (List.all_eq_true.1 hb x hx))
    have hmb := mixS_bd ha hb zs.length (Nat.le_refl _) (by omega)
    rw [hm] at hsb
    rw [hl] at hmb
    have h66 := inB_iff.1 h6
    have e2 : mixN zs ps = (((mixS zs ps m).toNat / Nat.gcd (mixS zs ps m).toNat (sumL ps).toNat : Nat) : Int) := by unfold mixN; rw [if_pos hok, hl]
    have e3 : mixD zs ps = (((sumL ps).toNat / Nat.gcd (mixS zs ps m).toNat (sumL ps).toNat : Nat) : Int) := by unfold mixD; rw [if_pos hok, hl]
    have e2 := e2.symm.trans hI
    have e3 := e3.symm.trans hD
    have hT := fun W (hW : Below w.heap.size w W) => sum_any B m d ps W (hy.below hW) hm (by omega) hbd
    obtain ⟨t, ht⟩ : ∃ t : Nat, sumL ps = (t : Int) := ⟨(sumL ps).toNat, by omega⟩
    rw [ht] at hT hs0 hsb e2 e3
    rw [Int.toNat_natCast] at e2 e3
    have HT := Lib.hid hT
    have E2 := Lib.hid e2
    have E3 := Lib.hid e3
    have HB := Lib.hid hb
    have HA := Lib.hid ha
    clear hT e2 e3 hq hI hD hok hbd ht hb ha
    go_enter Try.func30, Try.ntmps30
    go_wp2_with (first | (go_at_call 39; refine (in_of true h6 _).mono ?_; rintro e w' ⟨rfl, rfl⟩) | (go_at_call 53; refine (beds_of true HA.out _ hx hl (by omega)).mono ?_; rintro e w' ⟨rfl, hb⟩; (try clear cW fW zW); (first | (have bW := bstep bW hb) | (have bW := bstep (bdrew bW) hb) | (have bW := bstep (balloc bW _) hb) | (have bW := bstep (bdrewN bW _) hb) | (have bW := hb)); clear hb; obtain ⟨cW, fW⟩ := bcell bW; have zW := bsize bW) | (go_at_call 54; refine (prts_of true HB.out _ (hy.below bW) hm (by omega)).mono ?_; rintro e w' ⟨rfl, hb⟩; (try clear cW fW zW); (first | (have bW := bstep bW hb) | (have bW := bstep (bdrew bW) hb) | (have bW := bstep (balloc bW _) hb) | (have bW := bstep (bdrewN bW _) hb) | (have bW := hb)); clear hb; obtain ⟨cW, fW⟩ := bcell bW; have zW := bsize bW) | (go_at_call 56; refine (HT.out _ bW).mono ?_; rintro e w' ⟨rfl, hb⟩; (try clear cW fW zW); (first | (have bW := bstep bW hb) | (have bW := bstep (bdrew bW) hb) | (have bW := bstep (balloc bW _) hb) | (have bW := bstep (bdrewN bW _) hb) | (have bW := hb)); clear hb; obtain ⟨cW, fW⟩ := bcell bW; have zW := bsize bW))
    go_loopw [7, 40] (fun s i wr => ∃ k : Nat, k ≤ m ∧ i = .int .i64 k ∧ s = .int .i64 (mixS zs ps k) ∧ Below w.heap.size w wr) (fun _ i _ => m - (intOf i).toNat)
    case atStart => exact ⟨0, Nat.zero_le _, rfl, rfl, bW⟩
    case round =>
      obtain ⟨k, hk, rfl, rfl, hW⟩ := hrel
      by_cases hlt : k < m
      · obtain ⟨b, off, rfl, hbl, x0, x1, hz, c0, c1⟩ := fub_at hx hW hl hlt
        obtain ⟨b', off', p, rfl, hbl', hp, d0⟩ := ints_at hy hW hm hlt
        have hk2 : k < zs.length := by omega
        have hk3 : k < ps.length := by omega
        have i1 : (0 : Int) ≤ (k : Int) := by omega
        have i2 : (k : Int) < (m : Int) := by omega
        have s1 : b < wr.heap.size := Nat.lt_of_lt_of_le hbl hW.size
        have s2 : b' < wr.heap.size := Nat.lt_of_lt_of_le hbl' hW.size
        have hbp := prt_bd (List.all_eq_true.1 HB.out p (hp ▸ List.getElem_mem hk3))
        have hbm := bedP_bd (show bedB x0 x1 = true from List.all_eq_true.1 HA.out (x0, x1) (hz ▸ List.getElem_mem hk2))
        have hpm := prod_bd hbp hbm
        have hsk := mixS_bd HA.out HB.out k (by omega) (by omega)
        have hst := mixS_step hk2 hk3 hz hp
        obtain ⟨sv, hsv⟩ : ∃ v, mixS zs ps k = v := ⟨_, rfl⟩
        rw [hsv] at hst hsk ⊢
        rw [Int.mul_comm] at hpm hst
        have HM := Lib.hid hst
        clear hst hz hp hsv
        obtain ⟨pm, hpm2⟩ : ∃ v, x1 * p = v := ⟨_, rfl⟩
        rw [hpm2] at hpm
        go_wp2
        (refine wp_region_bel (by kernel_rfl) (by kernel_rfl) ?_; (repeat (go_big_quiet_step ((first | fail)))); refine wpQuiet_nil ?_; intro w' hw'; have hb := below_of hw'; clear hw'; (try clear cW fW zW); (first | (have bW := bstep bW hb) | (have bW := bstep (bdrew bW) hb) | (have bW := bstep (balloc bW _) hb) | (have bW := bstep (bdrewN bW _) hb) | (have bW := hb)); clear hb; obtain ⟨cW, fW⟩ := bcell bW; have zW := bsize bW)
        go_wp2
        go_roundw
        case rel => exact ⟨k + 1, by omega, by go_num, by rw [HM.out, hpm2], by (repeat' (first | (with_reducible exact Below.refl _ _) | (with_reducible assumption) | (with_reducible refine balloc ?_ _) | (with_reducible refine bdrew ?_) | (with_reducible refine bdrewN ?_ _) | (with_reducible refine bstep ?_ (by assumption)) | (with_reducible refine bset ?_ ?_ _) | (exact Below.size (by assumption)) | go_size))⟩
        case measure => simp [intOf]; omega
      · have hkm : k = m := by omega
        subst hkm
        obtain ⟨sv, hsv⟩ : ∃ v, mixS zs ps k = v := ⟨_, rfl⟩
        have e2 := E2.out
        have e3 := E3.out
        rw [hsv] at e2 e3 hmb ⊢
        obtain ⟨a, rfl⟩ : ∃ a : Nat, sv = (a : Int) := ⟨sv.toNat, by omega⟩
        rw [Int.toNat_natCast] at e2 e3
        have E2 := Lib.hid e2
        have E3 := Lib.hid e3
        clear e2 e3 hsv
        have t0 : 0 < t := by omega
        have ta : a ≤ 1000000000 := by omega
        have tb : t ≤ 1000000000 := by omega
        have i2 : ¬ (k : Int) < (k : Int) := by omega
        go_wp2_with fail
        refine (HT.out _ hW).mono ?_
        rintro e w1 ⟨rfl, b1⟩
        go_wp2_with fail
        refine (fraction_any a t ta tb t0 _).mono ?_
        rintro e w2 ⟨rfl, b2⟩
        rw [E2.out, E3.out]
        go_wp2
        go_returns
        exact ⟨rfl, bstep (bstep hW b1) b2⟩
end Go.Proofs.Ytlnfccncbfpoiaa
