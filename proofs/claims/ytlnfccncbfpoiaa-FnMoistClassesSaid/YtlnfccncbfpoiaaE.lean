/-
  HoursUntil: the plain count of hours. Conditions: the bounds that stand in each statement.
-/
import Derived.Test.YtlnfccncbfpoiaaD
import Derived.Lib.Hide
namespace Go.Proofs.Ytlnfccncbfpoiaa
open Go.RowKit
set_option maxRecDepth 100000
set_option maxHeartbeats 1000000

/-- hours till a limit between the moisture and its balance is reached or passed -/
def hrs (l b limit : Int) : Nat → Int → Int → Int
  | 0, _, n => n
  | f + 1, now, n => if (now < limit ∧ limit ≤ b) ∨ (limit < now ∧ b ≤ limit) then hrs l b limit f (hourI l now b) (n + 1) else n
theorem hrs_stop {l b limit now : Int} (f : Nat) (n : Int) (h : ¬ ((now < limit ∧ limit ≤ b) ∨ (limit < now ∧ b ≤ limit))) : hrs l b limit f now n = n := by
  cases f with
  | zero => rfl
  | succ f => simp only [hrs, if_neg h]
theorem hrs_go {l b limit now : Int} (f : Nat) (n : Int) (h : (now < limit ∧ limit ≤ b) ∨ (limit < now ∧ b ≤ limit)) : hrs l b limit (f + 1) now n = hrs l b limit f (hourI l now b) (n + 1) := by
  simp only [hrs, if_pos h]
def huIn (m b limit : Int) : Bool := decide (min m b ≤ limit) && decide (limit ≤ max m b)
theorem huIn_iff {m b limit : Int} : huIn m b limit = true ↔ (limit = m ∨ (m < limit ∧ limit ≤ b) ∨ (limit < m ∧ b ≤ limit)) := by
  simp only [huIn, Bool.and_eq_true, decide_eq_true_eq]
  omega
def huB (l m h t r limit : Int) : Bool := bedB l m && airB h t r && inB limit 0 400 && huIn m (balI h t r) limit
def huN (l m h t r limit : Int) : Int := if huB l m h t r limit then hrs l (balI h t r) limit 401 m 0 else 0
theorem hu_no {l m h t r limit : Int} (hb : huB l m h t r limit = false) : huN l m h t r limit = 0 := by simp [huN, hb]
theorem hu_yes {l m h t r limit : Int} (hb : huB l m h t r limit = true) : huN l m h t r limit = hrs l (balI h t r) limit 401 m 0 := by simp [huN, hb]
theorem Blk.far {w : World} {g : Nat} {t : TypeId} {cs : List Value} (h : Blk w g t cs) {p : Addr} (hp : g ≠ p.block) (u : Value) : Blk (w.setCell p u) g t cs := ⟨by simpa using h.lt, (Below.heap_setCell w p u g hp).trans h.at_⟩
theorem Blk.keep {w w' : World} {g : Nat} {t : TypeId} {cs : List Value} (h : Blk w g t cs) (hb : Below w.heap.size w w') : Blk w' g t cs := h.below hb (Nat.le_refl _) h.lt
theorem IsFuelbed_is {l m : Int} (v : Bool) (h : bedB l m = v) (w : World) : Calls Try.prog 9 #[.agg #[.int .i64 l, .int .i64 m]] w fun e w' => e = .returned (.bool v) ∧ Below w.heap.size w w' := by rw [← h]; exact IsFuelbed_any l m w
theorem l20Bed_is {l m : Int} (v : Bool) (h : bedB l m = v) (w : World) : Calls Try.prog 36 #[.agg #[.int .i64 l, .int .i64 m]] w fun e w' => e = .returned (.bool v) ∧ Below w.heap.size w w' := by rw [← h]; exact l20Bed_any l m w
theorem isAir_is {h t r : Int} (v : Bool) (e : airB h t r = v) (w : World) : Calls Try.prog 34 #[.agg #[.int .i64 h, .int .i64 t, .int .i64 r]] w fun e w' => e = .returned (.bool v) ∧ Below w.heap.size w w' := by rw [← e]; exact isAir_any h t r w
theorem l20Air_is {h t r : Int} (v : Bool) (e : airB h t r = v) (w : World) : Calls Try.prog 37 #[.agg #[.int .i64 h, .int .i64 t, .int .i64 r]] w fun e w' => e = .returned (.bool v) ∧ Below w.heap.size w w' := by rw [← e]; exact l20Air_any h t r w
theorem isMoisture_is {m : Int} (v : Bool) (e : inB m 0 400 = v) (w : World) : Calls Try.prog 40 #[.int .i64 m] w fun e w' => e = .returned (.bool v) ∧ w = w' := by rw [← e]; exact isMoisture_any m w
theorem l20Moist_is {m : Int} (v : Bool) (e : inB m 0 400 = v) (w : World) : Calls Try.prog 50 #[.int .i64 m] w fun e w' => e = .returned (.bool v) ∧ w = w' := by rw [← e]; exact l20Moist_any m w
/-- a value that the walk has to leave alone -/
theorem HoursUntil_any (l m hh t r limit : Int) (w : World) : Calls Try.prog 18 #[.agg #[.int .i64 l, .int .i64 m], .agg #[.int .i64 hh, .int .i64 t, .int .i64 r], .int .i64 limit] w fun e w' => e = .returned (.tuple #[.int .i64 (huN l m hh t r limit), .bool (huB l m hh t r limit)]) ∧ Below w.heap.size w w' := by
  obtain ⟨q, hq⟩ : ∃ q, huB l m hh t r limit = q := ⟨_, rfl⟩
  obtain ⟨N, hN⟩ : ∃ N, huN l m hh t r limit = N := ⟨_, rfl⟩
  rw [hq, hN]
  rcases hA : bedB l m with _ | _
  · have e1 : huB l m hh t r limit = false := by simp [huB, hA]
    have e2 := hu_no e1
    obtain rfl := e1.symm.trans hq
    obtain rfl := e2.symm.trans hN
    clear e1 e2 hq hN
    go_enter Try.func18, Try.ntmps18
    go_wp2_with (first | (go_at_call 9; refine (IsFuelbed_is false hA _).mono ?_; rintro e w' ⟨rfl, hb⟩; (try clear cW fW zW); (first | (have bW := bstep bW hb) | (have bW := bstep (bdrew bW) hb) | (have bW := bstep (balloc bW _) hb) | (have bW := bstep (bdrewN bW _) hb) | (have bW := hb)); clear hb; obtain ⟨cW, fW⟩ := bcell bW; have zW := bsize bW))
    go_returns
    exact ⟨rfl, by (repeat' (first | (with_reducible exact Below.refl _ _) | (with_reducible assumption) | (with_reducible refine balloc ?_ _) | (with_reducible refine bdrew ?_) | (with_reducible refine bdrewN ?_ _) | (with_reducible refine bstep ?_ (by assumption)) | (with_reducible refine bset ?_ ?_ _) | (exact Below.size (by assumption)) | go_size))⟩
  · rcases hB : airB hh t r with _ | _
    · have e1 : huB l m hh t r limit = false := by simp [huB, hB]
      have e2 := hu_no e1
      obtain rfl := e1.symm.trans hq
      obtain rfl := e2.symm.trans hN
      clear e1 e2 hq hN
      go_enter Try.func18, Try.ntmps18
      go_wp2_with (first | (go_at_call 9; refine (IsFuelbed_is true hA _).mono ?_; rintro e w' ⟨rfl, hb⟩; (try clear cW fW zW); (first | (have bW := bstep bW hb) | (have bW := bstep (bdrew bW) hb) | (have bW := bstep (balloc bW _) hb) | (have bW := bstep (bdrewN bW _) hb) | (have bW := hb)); clear hb; obtain ⟨cW, fW⟩ := bcell bW; have zW := bsize bW) | (go_at_call 34; refine (isAir_is false hB _).mono ?_; rintro e w' ⟨rfl, hb⟩; (try clear cW fW zW); (first | (have bW := bstep bW hb) | (have bW := bstep (bdrew bW) hb) | (have bW := bstep (balloc bW _) hb) | (have bW := bstep (bdrewN bW _) hb) | (have bW := hb)); clear hb; obtain ⟨cW, fW⟩ := bcell bW; have zW := bsize bW))
      go_returns
      exact ⟨rfl, by (repeat' (first | (with_reducible exact Below.refl _ _) | (with_reducible assumption) | (with_reducible refine balloc ?_ _) | (with_reducible refine bdrew ?_) | (with_reducible refine bdrewN ?_ _) | (with_reducible refine bstep ?_ (by assumption)) | (with_reducible refine bset ?_ ?_ _) | (exact Below.size (by assumption)) | go_size))⟩
    · rcases hC : inB limit 0 400 with _ | _
      · have e1 : huB l m hh t r limit = false := by simp [huB, hC]
        have e2 := hu_no e1
        obtain rfl := e1.symm.trans hq
        obtain rfl := e2.symm.trans hN
        clear e1 e2 hq hN
        go_enter Try.func18, Try.ntmps18
        go_wp2_with (first | (go_at_call 9; refine (IsFuelbed_is true hA _).mono ?_; rintro e w' ⟨rfl, hb⟩; (try clear cW fW zW); (first | (have bW := bstep bW hb) | (have bW := bstep (bdrew bW) hb) | (have bW := bstep (balloc bW _) hb) | (have bW := bstep (bdrewN bW _) hb) | (have bW := hb)); clear hb; obtain ⟨cW, fW⟩ := bcell bW; have zW := bsize bW) | (go_at_call 34; refine (isAir_is true hB _).mono ?_; rintro e w' ⟨rfl, hb⟩; (try clear cW fW zW); (first | (have bW := bstep bW hb) | (have bW := bstep (bdrew bW) hb) | (have bW := bstep (balloc bW _) hb) | (have bW := bstep (bdrewN bW _) hb) | (have bW := hb)); clear hb; obtain ⟨cW, fW⟩ := bcell bW; have zW := bsize bW) | (go_at_call 40; refine (isMoisture_is false hC _).mono ?_; rintro e w' ⟨rfl, rfl⟩))
        go_returns
        exact ⟨rfl, by (repeat' (first | (with_reducible exact Below.refl _ _) | (with_reducible assumption) | (with_reducible refine balloc ?_ _) | (with_reducible refine bdrew ?_) | (with_reducible refine bdrewN ?_ _) | (with_reducible refine bstep ?_ (by assumption)) | (with_reducible refine bset ?_ ?_ _) | (exact Below.size (by assumption)) | go_size))⟩
      · have hbd := bedB_bd hA
        obtain ⟨hb1, hb2⟩ := balI_bd hh t r
        have hlim : 0 ≤ limit ∧ limit ≤ 400 := inB_iff.1 hC
        have hin : huB l m hh t r limit = huIn m (balI hh t r) limit := by simp [huB, hA, hB, hC]
        have hyes := fun x => hu_yes (l := l) (m := m) (h := hh) (t := t) (r := r) (limit := limit) (hin.trans x)
        have hno := fun x => hu_no (l := l) (m := m) (h := hh) (t := t) (r := r) (limit := limit) (hin.trans x)
        obtain ⟨b, hb⟩ : ∃ b, balI hh t r = b := ⟨_, rfl⟩
        rw [hb] at hb1 hb2 hin hyes hno
        have hbal := fun W : World => by have := balance_any hh t r hB W; rw [hb] at this; exact this
        have haft := fun (mm : Int) (hm : 0 ≤ mm ∧ mm ≤ 400) (W : World) => by have := after_any l mm hh t r hbd.1 hm hB W; rw [hb] at this; exact this
        have HBAL := Lib.hid hbal
        have HAFT := Lib.hid haft
        have HBB := Lib.hid hb
        clear hbal haft hb
        have hW3 := balloc (balloc (Below.refl w.heap.size w) (.cells #[.int .i64 l, .int .i64 m] 25)) (.cells #[.int .i64 hh, .int .i64 t, .int .i64 r] 27)
        have hf0 := (Blk.new w 25 [.int .i64 l, .int .i64 m]).alloc (.cells #[.int .i64 hh, .int .i64 t, .int .i64 r] 27)
        have ha0 := Blk.new (w.alloc (.cells #[.int .i64 l, .int .i64 m] 25)) 27 [.int .i64 hh, .int .i64 t, .int .i64 r]
        rw [World.size_alloc] at ha0
        have HF := Lib.hid hf0
        have HA := Lib.hid ha0
        clear hf0 ha0
        have hno2 : ∀ x : huIn m b limit = false, huB l m hh t r limit = false ∧ huN l m hh t r limit = 0 := fun x => ⟨hin.trans x, hno x⟩
        have hye2 : ∀ x : huIn m b limit = true, huB l m hh t r limit = true ∧ huN l m hh t r limit = hrs l b limit 401 m 0 := fun x => ⟨hin.trans x, hyes x⟩
        have HNO := Lib.hid hno2
        have HYE := Lib.hid hye2
        clear hno2 hye2 hin hyes hno
        have HQ := Lib.hid hq
        have HN := Lib.hid hN
        clear hq hN
        have hcase : (m < b ∧ limit < m) ∨ (m < b ∧ b < limit) ∨ (m = b ∧ limit < m) ∨ (m = b ∧ m < limit) ∨ (b < m ∧ limit < b) ∨ (b < m ∧ m < limit) ∨ (limit = m ∧ m < b) ∨ (limit = m ∧ m = b) ∨ (limit = m ∧ b < m) ∨ (m < limit ∧ limit ≤ b) ∨ (limit < m ∧ b ≤ limit) := by omega
        rcases hcase with ⟨c1, c2⟩ | ⟨c1, c2⟩ | ⟨c1, c2⟩ | ⟨c1, c2⟩ | ⟨c1, c2⟩ | ⟨c1, c2⟩ | ⟨c1, c2⟩ | ⟨c1, c2⟩ | ⟨c1, c2⟩ | ⟨c1, c2⟩ | ⟨c1, c2⟩
        · obtain ⟨e1, e2⟩ := HNO.out (by simp [huIn]; omega)
          obtain rfl := e1.symm.trans HQ.out
          obtain rfl := e2.symm.trans HN.out
          clear e1 e2
          have : ¬ b < m := by omega
          have : m ≤ b := by omega
          go_enter Try.func18, Try.ntmps18
          go_wp2_with (first | (go_at_call 9; refine (IsFuelbed_is true hA _).mono ?_; rintro e w' ⟨rfl, hb⟩; (try clear cW fW zW); (first | (have bW := bstep bW hb) | (have bW := bstep (bdrew bW) hb) | (have bW := bstep (balloc bW _) hb) | (have bW := bstep (bdrewN bW _) hb) | (have bW := hb)); clear hb; obtain ⟨cW, fW⟩ := bcell bW; have zW := bsize bW) | (go_at_call 34; refine (isAir_is true hB _).mono ?_; rintro e w' ⟨rfl, hb⟩; (try clear cW fW zW); (first | (have bW := bstep bW hb) | (have bW := bstep (bdrew bW) hb) | (have bW := bstep (balloc bW _) hb) | (have bW := bstep (bdrewN bW _) hb) | (have bW := hb)); clear hb; obtain ⟨cW, fW⟩ := bcell bW; have zW := bsize bW) | (go_at_call 40; refine (isMoisture_is true hC _).mono ?_; rintro e w' ⟨rfl, rfl⟩) | (go_at_call 41; refine (HBAL.out _).mono ?_; rintro e w' ⟨rfl, hb⟩; (try clear cW fW zW); (first | (have bW := bstep bW hb) | (have bW := bstep (bdrew bW) hb) | (have bW := bstep (balloc bW _) hb) | (have bW := bstep (bdrewN bW _) hb) | (have bW := hb)); clear hb; obtain ⟨cW, fW⟩ := bcell bW; have zW := bsize bW))
          go_returns
          exact ⟨rfl, by (repeat' (first | (with_reducible exact Below.refl _ _) | (with_reducible assumption) | (with_reducible refine balloc ?_ _) | (with_reducible refine bdrew ?_) | (with_reducible refine bdrewN ?_ _) | (with_reducible refine bstep ?_ (by assumption)) | (with_reducible refine bset ?_ ?_ _) | (exact Below.size (by assumption)) | go_size))⟩
        · obtain ⟨e1, e2⟩ := HNO.out (by simp [huIn]; omega)
          obtain rfl := e1.symm.trans HQ.out
          obtain rfl := e2.symm.trans HN.out
          clear e1 e2
          have : ¬ b < m := by omega
          have : m ≤ b := by omega
          have : ¬ limit < m := by omega
          have : m < limit := by omega
          have : ¬ limit < b := by omega
          go_enter Try.func18, Try.ntmps18
          go_wp2_with (first | (go_at_call 9; refine (IsFuelbed_is true hA _).mono ?_; rintro e w' ⟨rfl, hb⟩; (try clear cW fW zW); (first | (have bW := bstep bW hb) | (have bW := bstep (bdrew bW) hb) | (have bW := bstep (balloc bW _) hb) | (have bW := bstep (bdrewN bW _) hb) | (have bW := hb)); clear hb; obtain ⟨cW, fW⟩ := bcell bW; have zW := bsize bW) | (go_at_call 34; refine (isAir_is true hB _).mono ?_; rintro e w' ⟨rfl, hb⟩; (try clear cW fW zW); (first | (have bW := bstep bW hb) | (have bW := bstep (bdrew bW) hb) | (have bW := bstep (balloc bW _) hb) | (have bW := bstep (bdrewN bW _) hb) | (have bW := hb)); clear hb; obtain ⟨cW, fW⟩ := bcell bW; have zW := bsize bW) | (go_at_call 40; refine (isMoisture_is true hC _).mono ?_; rintro e w' ⟨rfl, rfl⟩) | (go_at_call 41; refine (HBAL.out _).mono ?_; rintro e w' ⟨rfl, hb⟩; (try clear cW fW zW); (first | (have bW := bstep bW hb) | (have bW := bstep (bdrew bW) hb) | (have bW := bstep (balloc bW _) hb) | (have bW := bstep (bdrewN bW _) hb) | (have bW := hb)); clear hb; obtain ⟨cW, fW⟩ := bcell bW; have zW := bsize bW))
          go_returns
          exact ⟨rfl, by (repeat' (first | (with_reducible exact Below.refl _ _) | (with_reducible assumption) | (with_reducible refine balloc ?_ _) | (with_reducible refine bdrew ?_) | (with_reducible refine bdrewN ?_ _) | (with_reducible refine bstep ?_ (by assumption)) | (with_reducible refine bset ?_ ?_ _) | (exact Below.size (by assumption)) | go_size))⟩
        · obtain ⟨e1, e2⟩ := HNO.out (by simp [huIn]; omega)
          obtain rfl := e1.symm.trans HQ.out
          obtain rfl := e2.symm.trans HN.out
          clear e1 e2
          subst c1
          go_enter Try.func18, Try.ntmps18
          go_wp2_with (first | (go_at_call 9; refine (IsFuelbed_is true hA _).mono ?_; rintro e w' ⟨rfl, hb⟩; (try clear cW fW zW); (first | (have bW := bstep bW hb) | (have bW := bstep (bdrew bW) hb) | (have bW := bstep (balloc bW _) hb) | (have bW := bstep (bdrewN bW _) hb) | (have bW := hb)); clear hb; obtain ⟨cW, fW⟩ := bcell bW; have zW := bsize bW) | (go_at_call 34; refine (isAir_is true hB _).mono ?_; rintro e w' ⟨rfl, hb⟩; (try clear cW fW zW); (first | (have bW := bstep bW hb) | (have bW := bstep (bdrew bW) hb) | (have bW := bstep (balloc bW _) hb) | (have bW := bstep (bdrewN bW _) hb) | (have bW := hb)); clear hb; obtain ⟨cW, fW⟩ := bcell bW; have zW := bsize bW) | (go_at_call 40; refine (isMoisture_is true hC _).mono ?_; rintro e w' ⟨rfl, rfl⟩) | (go_at_call 41; refine (HBAL.out _).mono ?_; rintro e w' ⟨rfl, hb⟩; (try clear cW fW zW); (first | (have bW := bstep bW hb) | (have bW := bstep (bdrew bW) hb) | (have bW := bstep (balloc bW _) hb) | (have bW := bstep (bdrewN bW _) hb) | (have bW := hb)); clear hb; obtain ⟨cW, fW⟩ := bcell bW; have zW := bsize bW))
          go_returns
          exact ⟨rfl, by (repeat' (first | (with_reducible exact Below.refl _ _) | (with_reducible assumption) | (with_reducible refine balloc ?_ _) | (with_reducible refine bdrew ?_) | (with_reducible refine bdrewN ?_ _) | (with_reducible refine bstep ?_ (by assumption)) | (with_reducible refine bset ?_ ?_ _) | (exact Below.size (by assumption)) | go_size))⟩
        · obtain ⟨e1, e2⟩ := HNO.out (by simp [huIn]; omega)
          obtain rfl := e1.symm.trans HQ.out
          obtain rfl := e2.symm.trans HN.out
          clear e1 e2
          subst c1
          have : ¬ limit < m := by omega
          go_enter Try.func18, Try.ntmps18
          go_wp2_with (first | (go_at_call 9; refine (IsFuelbed_is true hA _).mono ?_; rintro e w' ⟨rfl, hb⟩; (try clear cW fW zW); (first | (have bW := bstep bW hb) | (have bW := bstep (bdrew bW) hb) | (have bW := bstep (balloc bW _) hb) | (have bW := bstep (bdrewN bW _) hb) | (have bW := hb)); clear hb; obtain ⟨cW, fW⟩ := bcell bW; have zW := bsize bW) | (go_at_call 34; refine (isAir_is true hB _).mono ?_; rintro e w' ⟨rfl, hb⟩; (try clear cW fW zW); (first | (have bW := bstep bW hb) | (have bW := bstep (bdrew bW) hb) | (have bW := bstep (balloc bW _) hb) | (have bW := bstep (bdrewN bW _) hb) | (have bW := hb)); clear hb; obtain ⟨cW, fW⟩ := bcell bW; have zW := bsize bW) | (go_at_call 40; refine (isMoisture_is true hC _).mono ?_; rintro e w' ⟨rfl, rfl⟩) | (go_at_call 41; refine (HBAL.out _).mono ?_; rintro e w' ⟨rfl, hb⟩; (try clear cW fW zW); (first | (have bW := bstep bW hb) | (have bW := bstep (bdrew bW) hb) | (have bW := bstep (balloc bW _) hb) | (have bW := bstep (bdrewN bW _) hb) | (have bW := hb)); clear hb; obtain ⟨cW, fW⟩ := bcell bW; have zW := bsize bW))
          go_returns
          exact ⟨rfl, by (repeat' (first | (with_reducible exact Below.refl _ _) | (with_reducible assumption) | (with_reducible refine balloc ?_ _) | (with_reducible refine bdrew ?_) | (with_reducible refine bdrewN ?_ _) | (with_reducible refine bstep ?_ (by assumption)) | (with_reducible refine bset ?_ ?_ _) | (exact Below.size (by assumption)) | go_size))⟩
        · obtain ⟨e1, e2⟩ := HNO.out (by simp [huIn]; omega)
          obtain rfl := e1.symm.trans HQ.out
          obtain rfl := e2.symm.trans HN.out
          clear e1 e2
          have : ¬ m ≤ b := by omega
          have : ¬ m < b := by omega
          go_enter Try.func18, Try.ntmps18
          go_wp2_with (first | (go_at_call 9; refine (IsFuelbed_is true hA _).mono ?_; rintro e w' ⟨rfl, hb⟩; (try clear cW fW zW); (first | (have bW := bstep bW hb) | (have bW := bstep (bdrew bW) hb) | (have bW := bstep (balloc bW _) hb) | (have bW := bstep (bdrewN bW _) hb) | (have bW := hb)); clear hb; obtain ⟨cW, fW⟩ := bcell bW; have zW := bsize bW) | (go_at_call 34; refine (isAir_is true hB _).mono ?_; rintro e w' ⟨rfl, hb⟩; (try clear cW fW zW); (first | (have bW := bstep bW hb) | (have bW := bstep (bdrew bW) hb) | (have bW := bstep (balloc bW _) hb) | (have bW := bstep (bdrewN bW _) hb) | (have bW := hb)); clear hb; obtain ⟨cW, fW⟩ := bcell bW; have zW := bsize bW) | (go_at_call 40; refine (isMoisture_is true hC _).mono ?_; rintro e w' ⟨rfl, rfl⟩) | (go_at_call 41; refine (HBAL.out _).mono ?_; rintro e w' ⟨rfl, hb⟩; (try clear cW fW zW); (first | (have bW := bstep bW hb) | (have bW := bstep (bdrew bW) hb) | (have bW := bstep (balloc bW _) hb) | (have bW := bstep (bdrewN bW _) hb) | (have bW := hb)); clear hb; obtain ⟨cW, fW⟩ := bcell bW; have zW := bsize bW))
          go_returns
          exact ⟨rfl, by (repeat' (first | (with_reducible exact Below.refl _ _) | (with_reducible assumption) | (with_reducible refine balloc ?_ _) | (with_reducible refine bdrew ?_) | (with_reducible refine bdrewN ?_ _) | (with_reducible refine bstep ?_ (by assumption)) | (with_reducible refine bset ?_ ?_ _) | (exact Below.size (by assumption)) | go_size))⟩
        · obtain ⟨e1, e2⟩ := HNO.out (by simp [huIn]; omega)
          obtain rfl := e1.symm.trans HQ.out
          obtain rfl := e2.symm.trans HN.out
          clear e1 e2
          have : ¬ m ≤ b := by omega
          have : ¬ m < b := by omega
          have : ¬ limit < b := by omega
          go_enter Try.func18, Try.ntmps18
          go_wp2_with (first | (go_at_call 9; refine (IsFuelbed_is true hA _).mono ?_; rintro e w' ⟨rfl, hb⟩; (try clear cW fW zW); (first | (have bW := bstep bW hb) | (have bW := bstep (bdrew bW) hb) | (have bW := bstep (balloc bW _) hb) | (have bW := bstep (bdrewN bW _) hb) | (have bW := hb)); clear hb; obtain ⟨cW, fW⟩ := bcell bW; have zW := bsize bW) | (go_at_call 34; refine (isAir_is true hB _).mono ?_; rintro e w' ⟨rfl, hb⟩; (try clear cW fW zW); (first | (have bW := bstep bW hb) | (have bW := bstep (bdrew bW) hb) | (have bW := bstep (balloc bW _) hb) | (have bW := bstep (bdrewN bW _) hb) | (have bW := hb)); clear hb; obtain ⟨cW, fW⟩ := bcell bW; have zW := bsize bW) | (go_at_call 40; refine (isMoisture_is true hC _).mono ?_; rintro e w' ⟨rfl, rfl⟩) | (go_at_call 41; refine (HBAL.out _).mono ?_; rintro e w' ⟨rfl, hb⟩; (try clear cW fW zW); (first | (have bW := bstep bW hb) | (have bW := bstep (bdrew bW) hb) | (have bW := bstep (balloc bW _) hb) | (have bW := bstep (bdrewN bW _) hb) | (have bW := hb)); clear hb; obtain ⟨cW, fW⟩ := bcell bW; have zW := bsize bW))
          go_returns
          exact ⟨rfl, by (repeat' (first | (with_reducible exact Below.refl _ _) | (with_reducible assumption) | (with_reducible refine balloc ?_ _) | (with_reducible refine bdrew ?_) | (with_reducible refine bdrewN ?_ _) | (with_reducible refine bstep ?_ (by assumption)) | (with_reducible refine bset ?_ ?_ _) | (exact Below.size (by assumption)) | go_size))⟩
        · subst c1
          obtain ⟨e1, e2⟩ := HYE.out (huIn_iff.2 (.inl rfl))
          rw [hrs_stop _ _ (by omega)] at e2
          obtain rfl := e1.symm.trans HQ.out
          obtain rfl := e2.symm.trans HN.out
          clear e1 e2
          have : ¬ b < limit := by omega
          have : limit ≤ b := by omega
          go_enter Try.func18, Try.ntmps18
          go_wp2_with (first | (go_at_call 9; refine (IsFuelbed_is true hA _).mono ?_; rintro e w' ⟨rfl, hb⟩; (try clear cW fW zW); (first | (have bW := bstep bW hb) | (have bW := bstep (bdrew bW) hb) | (have bW := bstep (balloc bW _) hb) | (have bW := bstep (bdrewN bW _) hb) | (have bW := hb)); clear hb; obtain ⟨cW, fW⟩ := bcell bW; have zW := bsize bW) | (go_at_call 34; refine (isAir_is true hB _).mono ?_; rintro e w' ⟨rfl, hb⟩; (try clear cW fW zW); (first | (have bW := bstep bW hb) | (have bW := bstep (bdrew bW) hb) | (have bW := bstep (balloc bW _) hb) | (have bW := bstep (bdrewN bW _) hb) | (have bW := hb)); clear hb; obtain ⟨cW, fW⟩ := bcell bW; have zW := bsize bW) | (go_at_call 40; refine (isMoisture_is true hC _).mono ?_; rintro e w' ⟨rfl, rfl⟩) | (go_at_call 41; refine (HBAL.out _).mono ?_; rintro e w' ⟨rfl, hb⟩; (try clear cW fW zW); (first | (have bW := bstep bW hb) | (have bW := bstep (bdrew bW) hb) | (have bW := bstep (balloc bW _) hb) | (have bW := bstep (bdrewN bW _) hb) | (have bW := hb)); clear hb; obtain ⟨cW, fW⟩ := bcell bW; have zW := bsize bW))
          refine wp_loop_rounds 1 ?_
          rw [rounds_succ]
          go_wp2
          go_returns
          exact ⟨rfl, by (repeat' (first | (with_reducible exact Below.refl _ _) | (with_reducible assumption) | (with_reducible refine balloc ?_ _) | (with_reducible refine bdrew ?_) | (with_reducible refine bdrewN ?_ _) | (with_reducible refine bstep ?_ (by assumption)) | (with_reducible refine bset ?_ ?_ _) | (exact Below.size (by assumption)) | go_size))⟩
        · subst c1
          subst c2
          obtain ⟨e1, e2⟩ := HYE.out (huIn_iff.2 (.inl rfl))
          rw [hrs_stop _ _ (by omega)] at e2
          obtain rfl := e1.symm.trans HQ.out
          obtain rfl := e2.symm.trans HN.out
          clear e1 e2
          go_enter Try.func18, Try.ntmps18
          go_wp2_with (first | (go_at_call 9; refine (IsFuelbed_is true hA _).mono ?_; rintro e w' ⟨rfl, hb⟩; (try clear cW fW zW); (first | (have bW := bstep bW hb) | (have bW := bstep (bdrew bW) hb) | (have bW := bstep (balloc bW _) hb) | (have bW := bstep (bdrewN bW _) hb) | (have bW := hb)); clear hb; obtain ⟨cW, fW⟩ := bcell bW; have zW := bsize bW) | (go_at_call 34; refine (isAir_is true hB _).mono ?_; rintro e w' ⟨rfl, hb⟩; (try clear cW fW zW); (first | (have bW := bstep bW hb) | (have bW := bstep (bdrew bW) hb) | (have bW := bstep (balloc bW _) hb) | (have bW := bstep (bdrewN bW _) hb) | (have bW := hb)); clear hb; obtain ⟨cW, fW⟩ := bcell bW; have zW := bsize bW) | (go_at_call 40; refine (isMoisture_is true hC _).mono ?_; rintro e w' ⟨rfl, rfl⟩) | (go_at_call 41; refine (HBAL.out _).mono ?_; rintro e w' ⟨rfl, hb⟩; (try clear cW fW zW); (first | (have bW := bstep bW hb) | (have bW := bstep (bdrew bW) hb) | (have bW := bstep (balloc bW _) hb) | (have bW := bstep (bdrewN bW _) hb) | (have bW := hb)); clear hb; obtain ⟨cW, fW⟩ := bcell bW; have zW := bsize bW))
          refine wp_loop_rounds 1 ?_
          rw [rounds_succ]
          go_wp2
          go_returns
          exact ⟨rfl, by (repeat' (first | (with_reducible exact Below.refl _ _) | (with_reducible assumption) | (with_reducible refine balloc ?_ _) | (with_reducible refine bdrew ?_) | (with_reducible refine bdrewN ?_ _) | (with_reducible refine bstep ?_ (by assumption)) | (with_reducible refine bset ?_ ?_ _) | (exact Below.size (by assumption)) | go_size))⟩
        · subst c1
          obtain ⟨e1, e2⟩ := HYE.out (huIn_iff.2 (.inl rfl))
          rw [hrs_stop _ _ (by omega)] at e2
          obtain rfl := e1.symm.trans HQ.out
          obtain rfl := e2.symm.trans HN.out
          clear e1 e2
          have : ¬ limit ≤ b := by omega
          have : ¬ limit < b := by omega
          go_enter Try.func18, Try.ntmps18
          go_wp2_with (first | (go_at_call 9; refine (IsFuelbed_is true hA _).mono ?_; rintro e w' ⟨rfl, hb⟩; (try clear cW fW zW); (first | (have bW := bstep bW hb) | (have bW := bstep (bdrew bW) hb) | (have bW := bstep (balloc bW _) hb) | (have bW := bstep (bdrewN bW _) hb) | (have bW := hb)); clear hb; obtain ⟨cW, fW⟩ := bcell bW; have zW := bsize bW) | (go_at_call 34; refine (isAir_is true hB _).mono ?_; rintro e w' ⟨rfl, hb⟩; (try clear cW fW zW); (first | (have bW := bstep bW hb) | (have bW := bstep (bdrew bW) hb) | (have bW := bstep (balloc bW _) hb) | (have bW := bstep (bdrewN bW _) hb) | (have bW := hb)); clear hb; obtain ⟨cW, fW⟩ := bcell bW; have zW := bsize bW) | (go_at_call 40; refine (isMoisture_is true hC _).mono ?_; rintro e w' ⟨rfl, rfl⟩) | (go_at_call 41; refine (HBAL.out _).mono ?_; rintro e w' ⟨rfl, hb⟩; (try clear cW fW zW); (first | (have bW := bstep bW hb) | (have bW := bstep (bdrew bW) hb) | (have bW := bstep (balloc bW _) hb) | (have bW := bstep (bdrewN bW _) hb) | (have bW := hb)); clear hb; obtain ⟨cW, fW⟩ := bcell bW; have zW := bsize bW))
          refine wp_loop_rounds 1 ?_
          rw [rounds_succ]
          go_wp2
          go_returns
          exact ⟨rfl, by (repeat' (first | (with_reducible exact Below.refl _ _) | (with_reducible assumption) | (with_reducible refine balloc ?_ _) | (with_reducible refine bdrew ?_) | (with_reducible refine bdrewN ?_ _) | (with_reducible refine bstep ?_ (by assumption)) | (with_reducible refine bset ?_ ?_ _) | (exact Below.size (by assumption)) | go_size))⟩
        · obtain ⟨e1, e2⟩ := HYE.out (huIn_iff.2 (.inr (.inl ⟨c1, c2⟩)))
          have hN := e2.symm.trans HN.out
          obtain rfl := e1.symm.trans HQ.out
          have HR := Lib.hid hN
          clear e1 e2 hN
          have : m < b := by omega
          have : m ≤ b := by omega
          have : ¬ b < m := by omega
          have : ¬ limit < m := by omega
          have : ¬ b < limit := by omega
          have : ¬ m = limit := by omega
          have : ¬ b ≤ m := by omega
          go_enter Try.func18, Try.ntmps18
          go_wp2_with (first | (go_at_call 9; refine (IsFuelbed_is true hA _).mono ?_; rintro e w' ⟨rfl, hb⟩; (try clear cW fW zW); (first | (have bW := bstep bW hb) | (have bW := bstep (bdrew bW) hb) | (have bW := bstep (balloc bW _) hb) | (have bW := bstep (bdrewN bW _) hb) | (have bW := hb)); clear hb; obtain ⟨cW, fW⟩ := bcell bW; have zW := bsize bW) | (go_at_call 34; refine (isAir_is true hB _).mono ?_; rintro e w' ⟨rfl, hb⟩; (try clear cW fW zW); (first | (have bW := bstep bW hb) | (have bW := bstep (bdrew bW) hb) | (have bW := bstep (balloc bW _) hb) | (have bW := bstep (bdrewN bW _) hb) | (have bW := hb)); clear hb; obtain ⟨cW, fW⟩ := bcell bW; have zW := bsize bW) | (go_at_call 40; refine (isMoisture_is true hC _).mono ?_; rintro e w' ⟨rfl, rfl⟩) | (go_at_call 41; refine (HBAL.out _).mono ?_; rintro e w' ⟨rfl, hb⟩; (try clear cW fW zW); (first | (have bW := bstep bW hb) | (have bW := bstep (bdrew bW) hb) | (have bW := bstep (balloc bW _) hb) | (have bW := bstep (bdrewN bW _) hb) | (have bW := hb)); clear hb; obtain ⟨cW, fW⟩ := bcell bW; have zW := bsize bW))
          have hfw := HF.out.keep bW
          have haw := HA.out.keep bW
          have bS := bstep hW3 bW
          go_loopw [9] (fun i wr => ∃ (now : Int) (k fu : Nat), i = .int .i64 k ∧ k + fu = 401 ∧ now ≤ b ∧ limit - now ≤ fu ∧ 0 ≤ now ∧ now ≤ 400 ∧ hrs l b limit fu now (k : Int) = N ∧ Blk wr w.heap.size 25 [.int .i64 l, .int .i64 now] ∧ Blk wr (w.heap.size + 1) 27 [.int .i64 hh, .int .i64 t, .int .i64 r] ∧ Below w.heap.size w wr) (fun i _ => 402 - (intOf i).toNat)
          case atStart => exact ⟨m, 0, 401, rfl, rfl, by omega, by omega, by omega, by omega, HR.out, hfw, haw, bS⟩
          case round =>
            obtain ⟨now, k, fu, rfl, hk, hi1, hi2, hn0, hn1, hR, hf, ha, hW⟩ := hrel
            obtain ⟨p0, p1, f0, f1, ps⟩ := hf.two
            obtain ⟨q0, q1, q2, qs⟩ := ha.three
            have HFB := Lib.hid hf
            have HAA := Lib.hid ha
            clear hf ha
            by_cases hgo : now < limit
            · have hne : ¬ now = limit := by omega
              obtain ⟨fu, rfl⟩ : ∃ f, fu = f + 1 := ⟨fu - 1, by omega⟩
              have hst := hourI_up (lag := l) (m := now) (b := b) (by omega)
              have hbd2 := hourI_bd (lag := l) (m := now) (b := b) ⟨hn0, hn1⟩ ⟨hb1, hb2⟩
              rw [hrs_go _ _ (.inl ⟨hgo, by omega⟩)] at hR
              obtain ⟨nx, hnx⟩ : ∃ nx, hourI l now b = nx := ⟨_, rfl⟩
              have HT := HAFT.out now ⟨hn0, hn1⟩
              rw [hnx] at hst hbd2 hR HT
              have HRR := Lib.hid hR
              have HTT := Lib.hid HT
              clear hR HT hnx
              go_wp2_with (first | (go_at_call 35; refine (HTT.out _).mono ?_; rintro e w' ⟨rfl, hb⟩; clear p0 p1 f0 f1 ps; have hf' := Lib.hid (HFB.out.keep hb); obtain ⟨p0, p1, f0, f1, ps⟩ := hf'.out.two))
              clear p0 p1 f0 f1 ps q0 q1 q2 qs
              have hff := hf'.out
              go_roundw
              case rel => exact ⟨nx, k + 1, fu, by go_num, by omega, by omega, by omega, by omega, by omega, HRR.out, hff.set2, ((HAA.out.keep hb).far (p := ⟨w.heap.size, 0, none⟩) (by simp) _).far (p := ⟨w.heap.size, 1, none⟩) (by simp) _, bset (bset (bstep hW hb) (p := ⟨w.heap.size, 0, none⟩) (Nat.le_refl _) _) (p := ⟨w.heap.size, 1, none⟩) (Nat.le_refl _) _⟩
              case measure => simp [intOf]; omega
            · rw [hrs_stop _ _ (by omega)] at hR
              subst hR
              clear HR HN HYE HNO
              by_cases heq : now = limit
              · subst heq
                go_wp2_with fail
                go_returns
                exact ⟨rfl, hW⟩
              · have : ¬ now < limit := by omega
                go_wp2_with fail
                go_returns
                exact ⟨rfl, hW⟩
        · obtain ⟨e1, e2⟩ := HYE.out (huIn_iff.2 (.inr (.inr ⟨c1, c2⟩)))
          have hN := e2.symm.trans HN.out
          obtain rfl := e1.symm.trans HQ.out
          have HR := Lib.hid hN
          clear e1 e2 hN
          have : b < m := by omega
          have : ¬ m ≤ b := by omega
          have : ¬ m < b := by omega
          have : ¬ limit < b := by omega
          have : ¬ m < limit := by omega
          have : ¬ m = limit := by omega
          have hdm : decide (m < limit) = false := decide_eq_false (by omega)
          have : b ≤ m := by omega
          go_enter Try.func18, Try.ntmps18
          go_wp2_with (first | (go_at_call 9; refine (IsFuelbed_is true hA _).mono ?_; rintro e w' ⟨rfl, hb⟩; (try clear cW fW zW); (first | (have bW := bstep bW hb) | (have bW := bstep (bdrew bW) hb) | (have bW := bstep (balloc bW _) hb) | (have bW := bstep (bdrewN bW _) hb) | (have bW := hb)); clear hb; obtain ⟨cW, fW⟩ := bcell bW; have zW := bsize bW) | (go_at_call 34; refine (isAir_is true hB _).mono ?_; rintro e w' ⟨rfl, hb⟩; (try clear cW fW zW); (first | (have bW := bstep bW hb) | (have bW := bstep (bdrew bW) hb) | (have bW := bstep (balloc bW _) hb) | (have bW := bstep (bdrewN bW _) hb) | (have bW := hb)); clear hb; obtain ⟨cW, fW⟩ := bcell bW; have zW := bsize bW) | (go_at_call 40; refine (isMoisture_is true hC _).mono ?_; rintro e w' ⟨rfl, rfl⟩) | (go_at_call 41; refine (HBAL.out _).mono ?_; rintro e w' ⟨rfl, hb⟩; (try clear cW fW zW); (first | (have bW := bstep bW hb) | (have bW := bstep (bdrew bW) hb) | (have bW := bstep (balloc bW _) hb) | (have bW := bstep (bdrewN bW _) hb) | (have bW := hb)); clear hb; obtain ⟨cW, fW⟩ := bcell bW; have zW := bsize bW))
          have hfw := HF.out.keep bW
          have haw := HA.out.keep bW
          have bS := bstep hW3 bW
          go_loopw [9] (fun i wr => ∃ (now : Int) (k fu : Nat), i = .int .i64 k ∧ k + fu = 401 ∧ b ≤ now ∧ now - limit ≤ fu ∧ 0 ≤ now ∧ now ≤ 400 ∧ hrs l b limit fu now (k : Int) = N ∧ Blk wr w.heap.size 25 [.int .i64 l, .int .i64 now] ∧ Blk wr (w.heap.size + 1) 27 [.int .i64 hh, .int .i64 t, .int .i64 r] ∧ Below w.heap.size w wr) (fun i _ => 402 - (intOf i).toNat)
          case atStart => exact ⟨m, 0, 401, rfl, rfl, by omega, by omega, by omega, by omega, HR.out, hfw, haw, bS⟩
          case round =>
            obtain ⟨now, k, fu, rfl, hk, hi1, hi2, hn0, hn1, hR, hf, ha, hW⟩ := hrel
            obtain ⟨p0, p1, f0, f1, ps⟩ := hf.two
            obtain ⟨q0, q1, q2, qs⟩ := ha.three
            have HFB := Lib.hid hf
            have HAA := Lib.hid ha
            clear hf ha
            by_cases hgo : limit < now
            · have hne : ¬ now = limit := by omega
              have hdn : decide (now < limit) = false := decide_eq_false (by omega)
              obtain ⟨fu, rfl⟩ : ∃ f, fu = f + 1 := ⟨fu - 1, by omega⟩
              have hst := hourI_down (lag := l) (m := now) (b := b) (by omega)
              have hbd2 := hourI_bd (lag := l) (m := now) (b := b) ⟨hn0, hn1⟩ ⟨hb1, hb2⟩
              rw [hrs_go _ _ (.inr ⟨hgo, by omega⟩)] at hR
              obtain ⟨nx, hnx⟩ : ∃ nx, hourI l now b = nx := ⟨_, rfl⟩
              have HT := HAFT.out now ⟨hn0, hn1⟩
              rw [hnx] at hst hbd2 hR HT
              have HRR := Lib.hid hR
              have HTT := Lib.hid HT
              clear hR HT hnx
              go_wp2_with (first | (go_at_call 35; refine (HTT.out _).mono ?_; rintro e w' ⟨rfl, hb⟩; clear p0 p1 f0 f1 ps; have hf' := Lib.hid (HFB.out.keep hb); obtain ⟨p0, p1, f0, f1, ps⟩ := hf'.out.two))
              clear p0 p1 f0 f1 ps q0 q1 q2 qs
              have hff := hf'.out
              go_roundw
              case rel => exact ⟨nx, k + 1, fu, by go_num, by omega, by omega, by omega, by omega, by omega, HRR.out, hff.set2, ((HAA.out.keep hb).far (p := ⟨w.heap.size, 0, none⟩) (by simp) _).far (p := ⟨w.heap.size, 1, none⟩) (by simp) _, bset (bset (bstep hW hb) (p := ⟨w.heap.size, 0, none⟩) (Nat.le_refl _) _) (p := ⟨w.heap.size, 1, none⟩) (Nat.le_refl _) _⟩
              case measure => simp [intOf]; omega
            · rw [hrs_stop _ _ (by omega)] at hR
              subst hR
              clear HR HN HYE HNO
              by_cases heq : now = limit
              · subst heq
                go_wp2_with fail
                go_returns
                exact ⟨rfl, hW⟩
              · have hdn : decide (now < limit) = true := decide_eq_true (by omega)
                go_wp2_with fail
                go_returns
                exact ⟨rfl, hW⟩
end Go.Proofs.Ytlnfccncbfpoiaa
