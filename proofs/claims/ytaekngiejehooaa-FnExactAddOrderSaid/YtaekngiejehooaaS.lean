/-
  Slices of ints: copying, comparing, marking, summing. Each walk returns what the plain list function beside it says. Conditions: lengths within the bound of a slice, as each statement says.
-/
import Derived.Test.YtaekngiejehooaaChecked
import Derived.Test.YtaekngiejehooaaOpen
import Derived.Test.YtaekngiejehooaaK
import Derived.Lib.Hide
import Derived.Maps.AppendAt
namespace Go.Proofs.Ytaekngiejehooaa
open Go.RowKit
set_option maxHeartbeats 1000000

def ints (zs : List Int) : List Value := zs.map (Value.int .i64)
theorem ints_length (zs : List Int) : (ints zs).length = zs.length := by simp [ints]
theorem ints_get (zs : List Int) (k : Nat) (h : k < zs.length) : (ints zs)[k]? = some (.int .i64 zs[k]) := by simp [ints, h]

/-- block g is just these cells, none frozen -/
def Bk (w : World) (g : Nat) (t : TypeId) (cs : List Value) : Prop := w.heap[g]? = some (.cells cs.toArray t (0, 0))
section
variable {w w' : World} {g : Nat} {t : TypeId} {cs : List Value}
theorem Bk.lt (h : Bk w g t cs) : g < w.heap.size := by
  rcases Nat.lt_or_ge g w.heap.size with hlt | hge
  · exact hlt
  · unfold Bk at h; rw [Array.getElem?_eq_none hge] at h; cases h
theorem Bk.cell (h : Bk w g t cs) (i : Nat) : w.cell? ⟨g, i, none⟩ = cs[i]? := by
  have := cell_of_row w g i cs.toArray t (0, 0) h
  simpa using this
theorem Bk.frozen (h : Bk w g t cs) (i : Nat) : w.frozen? ⟨g, i, none⟩ = false := by
  unfold Bk at h
  simp [World.frozen?, h]
theorem Bk.new (w : World) (t : TypeId) (cs : List Value) : Bk (w.alloc (.cells cs.toArray t)) w.heap.size t cs := heap_alloc_new w _
theorem Bk.set_ (h : Bk w g t cs) (i : Nat) (u : Value) : Bk (w.setCell ⟨g, i, none⟩ u) g t (cs.set i u) := by
  unfold Bk at h ⊢
  simp [World.setCell, Array.getElem?_modify, h]
theorem Bk.alloc (h : Bk w g t cs) (o : Obj) : Bk (w.alloc o) g t cs := (Below.heap_alloc w o g h.lt).trans h
theorem Bk.far (h : Bk w g t cs) {p : Addr} (hp : g ≠ p.block) (u : Value) : Bk (w.setCell p u) g t cs := (Below.heap_setCell w p u g hp).trans h
theorem Bk.below {B : Nat} (h : Bk w g t cs) (hb : Below B w w') (hg : g < B) : Bk w' g t cs := (hb.block g hg).trans h
theorem Bk.drew (h : Bk w g t cs) : Bk w.drew g t cs := h
theorem Bk.drewN (h : Bk w g t cs) (n : Nat) : Bk (w.drewN n) g t cs := h
theorem Bk.rd {k n : Nat} (h : Bk w g t cs) (hl : cs.length = n * k) : Rd w k (some ⟨g, 0, none⟩) n cs :=
  ⟨hl, fun _ => ⟨g, 0, rfl, h.lt, fun j u hu => by rw [Nat.zero_add, h.cell, hu]⟩⟩
end

/-- values laid one after the other from place p on -/
def sets (cs : List Value) (p : Nat) : List Value → List Value
  | [] => cs
  | v :: vs => sets (cs.set p v) (p + 1) vs
theorem sets_mid {pre : List Value} : ∀ {vs old post : List Value} {p : Nat}, pre.length = p → old.length = vs.length → sets (pre ++ (old ++ post)) p vs = pre ++ (vs ++ post) := by
  intro vs
  induction vs generalizing pre with
  | nil =>
    intro old post p _ h
    have : old = [] := List.eq_nil_of_length_eq_zero (by simpa using h)
    subst this; rfl
  | cons v vs ih =>
    intro old post p hp h
    cases old with
    | nil => simp at h
    | cons x old =>
      unfold sets
      have e : (pre ++ (x :: old ++ post)).set p v = (pre ++ [v]) ++ (old ++ post) := by
        subst hp
        rw [List.set_append_right _ _ (Nat.le_refl _), Nat.sub_self]
        simp
      rw [e, ih (by simp [hp]) (by simpa using h)]
      simp
theorem Bk.there {w : World} {g : Nat} {t : TypeId} {cs : List Value} (h : Bk w g t cs) {i : Nat} (hu : ∃ u, cs[i]? = some u) : ∃ u, w.cell? ⟨g, i, none⟩ = some u := by
  obtain ⟨u, hu⟩ := hu
  exact ⟨u, by rw [h.cell, hu]⟩
theorem madeCells_flat (z : List Value) (n : Nat) : madeCells z.toArray (n * z.length) = (List.replicate n z).flatten.toArray := by
  apply Array.ext'
  have key : ∀ n : Nat, (List.range (n * z.length)).map (fun i => z[i % z.length]!) = (List.replicate n z).flatten := by
    intro n
    induction n with
    | zero => simp
    | succ n ih =>
      rw [Nat.succ_mul, List.range_add, List.map_append, ih, List.replicate_succ', List.flatten_append]
      congr 1
      simp only [List.flatten_cons, List.flatten_nil, List.append_nil, List.map_map]
      apply List.ext_getElem
      · simp
      · intro i h1 h2
        have hi : i < z.length := h2
        simp [Nat.mod_eq_of_lt hi, hi]
  simpa [madeCells] using key n
theorem onlySet (w : World) (p : Addr) (u : Value) : w.grownBy (w.setCell p u) (some p.block) :=
  ⟨rfl, rfl, rfl, by simp, fun i _ hne => Below.heap_setCell w p u i (fun e => hne (by rw [e]))⟩
theorem madeCells_one (z : Value) (n : Nat) : madeCells #[z] n = (List.replicate n z).toArray := by
  apply Array.ext
  · simp [madeCells]
  · intro i h1 h2
    simp [madeCells, Nat.mod_one]

theorem step_made {zs : List Int} {k n : Nat} {z : Value} (hl : zs.length = n) (hk : k < n) :
    ((ints (zs.take k)) ++ List.replicate (n - k) z).set k (.int .i64 zs[k]) = ints (zs.take (k + 1)) ++ List.replicate (n - (k + 1)) z := by
  rw [List.set_append_right _ _ (by simp [ints]; omega)]
  have e1 : k - (ints (zs.take k)).length = 0 := by simp [ints]; omega
  rw [e1]
  have e2 : n - k = (n - (k + 1)) + 1 := by omega
  rw [e2, List.replicate_succ, List.set_cons_zero]
  unfold ints
  rw [List.take_succ_eq_append_getElem (by omega), List.map_append, List.append_assoc]
  rfl

theorem get_made {zs : List Int} {k n : Nat} {z : Value} (hl : zs.length = n) (hk : k < n) : ((ints (zs.take k)) ++ List.replicate (n - k) z)[k]? = some z := by
  rw [List.getElem?_append_right (by simp [ints]; omega)]
  have e1 : k - (ints (zs.take k)).length = 0 := by simp [ints]; omega
  rw [e1, List.getElem?_replicate, if_pos (by omega)]


theorem take_succ_eq {α : Type} {xs ys : List α} {k : Nat} (h1 : k < xs.length) (h2 : k < ys.length) (h : xs.take k = ys.take k) (e : xs[k] = ys[k]) : xs.take (k + 1) = ys.take (k + 1) := by
  rw [List.take_succ_eq_append_getElem h1, List.take_succ_eq_append_getElem h2, h, e]
theorem ne_of_get {α : Type} {xs ys : List α} {k : Nat} (h1 : k < xs.length) (h2 : k < ys.length) (e : xs[k] ≠ ys[k]) : xs ≠ ys := by
  rintro rfl
  exact e rfl

theorem Rd.eq_len {w : World} {A : Option Addr} {n : Nat} {zs : List Int} (h : Rd w 1 A n (ints zs)) : zs.length = n := by have := h.1; simpa [ints] using this

theorem eqIntS_any (A B : Option Addr) (n m c d : Nat) (xs ys : List Int) (w : World) (hx : Rd w 1 A n (ints xs)) (hy : Rd w 1 B m (ints ys)) (hn : n ≤ 9223372036854775807) :
    Calls Try.prog 32 #[.slice A n c, .slice B m d] w fun e w' => e = .returned (.bool (decide (xs = ys))) ∧ Below w.heap.size w w' := by
  have hlx := hx.eq_len
  have hly := hy.eq_len
  by_cases hnm : n = m
  · subst hnm
    go_enter Try.func32, Try.ntmps32
    go_wp2
    go_loopw [5] (fun i wr => ∃ k : Nat, k ≤ n ∧ i = .int .i64 k ∧ Hid (xs.take k = ys.take k) ∧ Below w.heap.size w wr) (fun i _ => n - (intOf i).toNat)
    case atStart => exact ⟨0, Nat.zero_le _, rfl, rfl, Below.refl _ _⟩
    case round =>
      obtain ⟨k, hk, rfl, hE, hW⟩ := hrel
      by_cases hlt : k < n
      · obtain ⟨b1, o1, rfl, hb1, hc1⟩ := hx.2 (by omega)
        obtain ⟨b2, o2, rfl, hb2, hc2⟩ := hy.2 (by omega)
        have g1 : wr.cell? ⟨b1, o1 + k, none⟩ = some (.int .i64 xs[k]) := (hW.cell (p := ⟨b1, o1 + k, none⟩) hb1).trans (hc1 k _ (ints_get xs k (by omega)))
        have g2 : wr.cell? ⟨b2, o2 + k, none⟩ = some (.int .i64 ys[k]) := (hW.cell (p := ⟨b2, o2 + k, none⟩) hb2).trans (hc2 k _ (ints_get ys k (by omega)))
        have i1 : (0 : Int) ≤ (k : Int) := by omega
        have i2 : (k : Int) < (n : Int) := by omega
        clear hc1 hc2
        by_cases hq : xs[k] = ys[k]
        · have hq1 : (xs[k] != ys[k]) = false := by simp [hq]
          have hq2 := Lib.hid hq
          clear hq
          go_wp2
          go_quiet (fail)
          go_wp2
          go_roundw
          case rel => exact ⟨k + 1, by omega, by go_num, take_succ_eq (by omega) (by omega) hE.out hq2.out, by (repeat' (first | (with_reducible exact Below.refl _ _) | (with_reducible assumption) | (with_reducible refine balloc ?_ _) | (with_reducible refine bdrew ?_) | (with_reducible refine bdrewN ?_ _) | (with_reducible refine bstep ?_ (by assumption)) | (with_reducible refine bset ?_ ?_ _) | (exact Below.size (by assumption)) | go_size))⟩
          case measure => simp [intOf]; omega
        · have hq1 : (xs[k] != ys[k]) = true := by simp [hq]
          have hne : xs ≠ ys := ne_of_get (by omega) (by omega) hq
          have hd := Lib.hid hne
          clear hq hne
          go_wp2
          go_quiet (fail)
          go_wp2
          go_ret
          exact ⟨by simp [hd.out], by (repeat' (first | (with_reducible exact Below.refl _ _) | (with_reducible assumption) | (with_reducible refine balloc ?_ _) | (with_reducible refine bdrew ?_) | (with_reducible refine bdrewN ?_ _) | (with_reducible refine bstep ?_ (by assumption)) | (with_reducible refine bset ?_ ?_ _) | (exact Below.size (by assumption)) | go_size))⟩
      · go_wp2
        go_ret
        have e : k = n := by omega
        subst e
        have h := hE.out
        rw [List.take_of_length_le (by omega), List.take_of_length_le (by omega)] at h
        exact ⟨by simp [h], hW⟩
  · have hne : xs ≠ ys := by rintro rfl; omega
    have hd := Lib.hid hne
    have hm : ((n : Int) != (m : Int)) = true := by simp; omega
    clear hne
    go_enter Try.func32, Try.ntmps32
    go_wp2
    all_goals (go_returns; exact ⟨by simp [hd.out], by (repeat' (first | (with_reducible exact Below.refl _ _) | (with_reducible assumption) | (with_reducible refine balloc ?_ _) | (with_reducible refine bdrew ?_) | (with_reducible refine bdrewN ?_ _) | (with_reducible refine bstep ?_ (by assumption)) | (with_reducible refine bset ?_ ?_ _) | (exact Below.size (by assumption)) | go_size))⟩)

/-- the marks k, k + 1, .. -/
def marks (k : Int) (n : Nat) : List Int := (List.range n).map fun i : Nat => k + (i : Int)
theorem marks_length (k : Int) (n : Nat) : (marks k n).length = n := by simp [marks]
theorem marks_get (k : Int) (n i : Nat) (h : i < n) : (marks k n)[i]'(by rw [marks_length]; exact h) = k + (i : Int) := by simp [marks]
theorem step_marks {k : Int} {j n : Nat} {cs : List Value} (hl : n ≤ cs.length) (hj : j < n) :
    ((ints (marks k j)) ++ cs.drop j).set j (.int .i64 (k + (j : Int))) = ints (marks k (j + 1)) ++ cs.drop (j + 1) := by
  rw [List.set_append_right _ _ (by simp [ints, marks])]
  have e1 : j - (ints (marks k j)).length = 0 := by simp [ints, marks]
  rw [e1, List.drop_eq_getElem_cons (by omega), List.set_cons_zero]
  unfold ints marks
  rw [List.range_succ, List.map_append, List.map_append, List.append_assoc]
  rfl
theorem step_marks' {k v : Int} {j n : Nat} {cs : List Value} (hl : n ≤ cs.length) (hj : j < n) (hv : v = k + (j : Int)) :
    ((ints (marks k j)) ++ cs.drop j).set j (.int .i64 v) = ints (marks k (j + 1)) ++ cs.drop (j + 1) := by
  rw [hv]; exact step_marks hl hj
theorem Bk.cast {w : World} {g : Nat} {t : TypeId} {cs cs' : List Value} (h : Bk w g t cs) (e : cs = cs') : Bk w g t cs' := e ▸ h
/-- what is left of a budget behind n -/
def szI (n : Nat) (l : Int) : Int := if l < (n : Int) then -1 else l - (n : Int)
theorem markIntS_any (g n c : Nat) (t : TypeId) (cs : List Value) (k : Int) (w : World) (hB : Bk w g t cs) (hl : n ≤ cs.length) (hn : n ≤ 1152921504606846976) (hk : 0 ≤ k ∧ k ≤ 1152921504606846976) :
    Calls Try.prog 33 #[.slice (some ⟨g, 0, none⟩) n c, .int .i64 k] w fun e w' => e = .returned (.int .i64 (k + (n : Int))) ∧ Bk w' g t (ints (marks k n) ++ cs.drop n) ∧ w.grownBy w' (some g) := by
  obtain ⟨k0, k1⟩ := hk
  go_enter Try.func33, Try.ntmps33
  go_wp2
  go_loopw [1, 5] (fun kk i wr => ∃ j : Nat, j ≤ n ∧ i = .int .i64 j ∧ kk = .int .i64 (k + (j : Int)) ∧ Bk wr g t (ints (marks k j) ++ cs.drop j) ∧ w.grownBy wr (some g)) (fun _ i _ => n - (intOf i).toNat)
  case atStart => exact ⟨0, Nat.zero_le _, rfl, by simp, by simpa [ints, marks] using hB, World.grownBy.refl w _⟩
  case round =>
    obtain ⟨j, hj, rfl, rfl, hR, hG⟩ := hrel
    by_cases hlt : j < n
    · have hy : ∃ u, wr.cell? ⟨g, j, none⟩ = some u := by
        refine ⟨cs[j]'(by omega), ?_⟩
        rw [hR.cell, List.getElem?_append_right (by simp [ints, marks])]
        simp [ints, marks]
      obtain ⟨u, hu⟩ := hy
      have hf := hR.frozen j
      have hR' := hR.set_ j (.int .i64 (k + (j : Int)))
      rw [step_marks hl hlt] at hR'
      have hG' : w.grownBy (wr.setCell ⟨g, j, none⟩ (.int .i64 (k + (j : Int)))) (some g) := hG.trans (onlySet wr ⟨g, j, none⟩ (.int .i64 (k + (j : Int))))
      clear hR hG
      go_wp2
      go_roundw
      case rel => exact ⟨j + 1, by omega, by go_num, by go_num, hR', hG'⟩
      case measure => simp [intOf]; omega
    · go_wp2
      go_ret
      have e : j = n := by omega
      subst e
      exact ⟨rfl, hR, hG⟩
theorem heldIntS_any (A : Option Addr) (n c : Nat) (k : Int) (w : World) (hr : Rd w 1 A n (ints (marks k n))) (hn : n ≤ 1152921504606846976) (hk : 0 ≤ k ∧ k ≤ 1152921504606846976) :
    Calls Try.prog 34 #[.slice A n c, .int .i64 k] w fun e w' => e = .returned (.int .i64 (k + (n : Int))) ∧ w = w' := by
  obtain ⟨k0, k1⟩ := hk
  go_enter Try.func34, Try.ntmps34
  go_wp2
  go_loop [1, 5] (fun kk i => ∃ j : Nat, j ≤ n ∧ i = .int .i64 j ∧ kk = .int .i64 (k + (j : Int))) (fun _ i => n - (intOf i).toNat)
  case atStart => exact ⟨0, Nat.zero_le _, rfl, by simp⟩
  case round =>
    obtain ⟨j, hj, rfl, rfl⟩ := hrel
    by_cases hlt : j < n
    · obtain ⟨b, off, rfl, hbl, hc⟩ := hr.2 (by omega)
      have hx : w.cell? ⟨b, off + j, none⟩ = some (.int .i64 (k + (j : Int))) := by
        rw [← marks_get k n j hlt]
        exact hc j _ (ints_get (marks k n) j (by rw [marks_length]; exact hlt))
      clear hc
      go_wp2
      go_round
      case rel => exact ⟨j + 1, by omega, by go_num, by go_num⟩
      case measure => simp [intOf]; omega
    · go_wp2
      go_ret
      have e : j = n := by omega
      subst e
      exact ⟨rfl, rfl⟩
end Go.Proofs.Ytaekngiejehooaa
