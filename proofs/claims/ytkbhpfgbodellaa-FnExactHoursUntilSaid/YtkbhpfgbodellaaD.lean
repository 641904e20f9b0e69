/-
  FnExactAfterHour, walked. Conditions: none.
-/
import Derived.Test.YtkbhpfgbodellaaC
import Derived.Deep.RegionHeld3
import Derived.Deep.DeepCutAuto
namespace Go.Proofs.Ytkbhpfgbodellaa
open Go.RowKit
set_option maxRecDepth 100000
set_option maxHeartbeats 1000000

/-- a block of int cells, known whole -/
structure Blk (w : World) (g : Nat) (t : TypeId) (cs : List Value) : Prop where
  lt : g < w.heap.size
  at_ : w.heap[g]? = some (.cells cs.toArray t (0, 0))
theorem Blk.new (w : World) (t : TypeId) (cs : List Value) : Blk (w.alloc (.cells cs.toArray t)) w.heap.size t cs := ⟨by simp, heap_alloc_new w _⟩
theorem Blk.alloc {w : World} {g : Nat} {t : TypeId} {cs : List Value} (h : Blk w g t cs) (o : Obj) : Blk (w.alloc o) g t cs := ⟨Nat.lt_of_lt_of_le h.lt (by simp), (Below.heap_alloc w o g h.lt).trans h.at_⟩
theorem Blk.below {w w' : World} {B g : Nat} {t : TypeId} {cs : List Value} (h : Blk w g t cs) (hb : Below B w w') (_hB : B ≤ w.heap.size) (hg : g < B) : Blk w' g t cs := ⟨by have := hb.size; have := h.lt; omega, (hb.block g hg).trans h.at_⟩
theorem Blk.cell {w : World} {g : Nat} {t : TypeId} {cs : List Value} (h : Blk w g t cs) (i : Nat) : w.cell? ⟨g, i, none⟩ = cs[i]? := by
  rw [cell_of_row w g i cs.toArray t (0, 0) h.at_]; simp
theorem Blk.frozen {w : World} {g : Nat} {t : TypeId} {cs : List Value} (h : Blk w g t cs) (i : Nat) : w.frozen? ⟨g, i, none⟩ = false := by
  have := h.at_
  simp [World.frozen?, this]
/-- the block made last, kept by a call -/
theorem Blk.n {w w' : World} {t : TypeId} {a b : Value} (hb : Below (w.alloc (.cells #[a, b] t)).heap.size (w.alloc (.cells #[a, b] t)) w') : Blk w' w.heap.size t [a, b] :=
  (Blk.new w t [a, b]).below hb (Nat.le_refl _) (by simp)
theorem Blk.nd {w w' : World} {t : TypeId} {a b : Value} (hb : Below (w.alloc (.cells #[a, b] t)).drew.heap.size (w.alloc (.cells #[a, b] t)).drew w') : Blk w' w.heap.size t [a, b] :=
  (show Blk (w.alloc (.cells #[a, b] t)).drew w.heap.size t [a, b] from ⟨(Blk.new w t [a, b]).lt, (Blk.new w t [a, b]).at_⟩).below hb (Nat.le_refl _) (by simp)
theorem Blk.k {w w' : World} {g : Nat} {t : TypeId} {a b : Value} (h : Blk w g t [a, b]) (hb : Below w.heap.size w w') : Blk w' g t [a, b] := h.below hb (Nat.le_refl _) h.lt
theorem Blk.two {w : World} {g : Nat} {t : TypeId} {a b : Value} (h : Blk w g t [a, b]) : w.cell? ⟨g, 0, none⟩ = some a ∧ w.cell? ⟨g, 1, none⟩ = some b ∧ w.frozen? ⟨g, 0, none⟩ = false ∧ w.frozen? ⟨g, 1, none⟩ = false ∧ g < w.heap.size := ⟨h.cell 0, h.cell 1, h.frozen 0, h.frozen 1, h.lt⟩
theorem Blk.three {w : World} {g : Nat} {t : TypeId} {a b c : Value} (h : Blk w g t [a, b, c]) : w.cell? ⟨g, 0, none⟩ = some a ∧ w.cell? ⟨g, 1, none⟩ = some b ∧ w.cell? ⟨g, 2, none⟩ = some c ∧ g < w.heap.size := ⟨h.cell 0, h.cell 1, h.cell 2, h.lt⟩
theorem Blk.set2 {w : World} {g : Nat} {t : TypeId} {a b u v : Value} (h : Blk w g t [a, b]) : Blk ((w.setCell ⟨g, 0, none⟩ u).setCell ⟨g, 1, none⟩ v) g t [u, v] := by
  refine ⟨by simpa using h.lt, ?_⟩
  have := h.at_
  simp [World.setCell, Array.getElem?_modify, this]
theorem eqFuelbed_same (a b : Int) (w : World) : Calls Try.prog 24 #[.agg #[.int .i64 a, .int .i64 b], .agg #[.int .i64 a, .int .i64 b]] w fun e w' => e = .returned (.bool true) ∧ Below w.heap.size w w' := by
  simpa using eqFuelbed_any a b a b w

theorem fnExactAfterHour_walk (b : Int × Int) (a : Int × Int × Int) (w : World) (_h : I64 b.1 ∧ I64 b.2) (_h' : I64 a.1 ∧ I64 a.2.1 ∧ I64 a.2.2) : Calls Try.prog 6 #[.agg #[.int .i64 b.1, .int .i64 b.2], .agg #[.int .i64 a.1, .int .i64 a.2.1, .int .i64 a.2.2]] w fun e w' => e = .returned (.bool true) ∧ Below w.heap.size w w' := by
  obtain ⟨l, m⟩ := b
  obtain ⟨h, t, r⟩ := a
  dsimp only at *
  clear _h _h'
  go_enter Try.func6, Try.ntmps6
  go_upto_region 1 with fail
  have hW := balloc (balloc (Below.refl w.heap.size w) (.cells #[.int .i64 l, .int .i64 m] 23)) (.cells #[.int .i64 h, .int .i64 t, .int .i64 r] 32)
  have hf := (Blk.new w 23 [.int .i64 l, .int .i64 m]).alloc (.cells #[.int .i64 h, .int .i64 t, .int .i64 r] 32)
  have ha := Blk.new (w.alloc (.cells #[.int .i64 l, .int .i64 m] 23)) 32 [.int .i64 h, .int .i64 t, .int .i64 r]
  rw [World.size_alloc] at ha
  generalize hw0 : (w.alloc (.cells #[.int .i64 l, .int .i64 m] 23)).alloc (.cells #[.int .i64 h, .int .i64 t, .int .i64 r] 32) = w0 at *
  change Blk w0 _ _ _ at hf
  change Blk w0 _ _ _ at ha
  clear hw0
  obtain ⟨x0, x1, _, _, _⟩ := hf.two
  obtain ⟨y0, y1, y2, _⟩ := ha.three
  go_cut [5, 6] (fun s5 s6 wx => ∃ g, s5 = .pointer (some ⟨g, 0, none⟩) ∧ s6 = .bool (okBA l m h t r) ∧ Blk wx g 25 [.int .i64 (aftL l m h t r), .int .i64 (aftM l m h t r)] ∧ Below w0.heap.size w0 wx)
  case first =>
    go_region_held3 (fun W => W.cell? ⟨w.heap.size, 0, none⟩ = some (.int .i64 l) ∧ W.cell? ⟨w.heap.size, 1, none⟩ = some (.int .i64 m) ∧ W.cell? ⟨w.heap.size + 1, 0, none⟩ = some (.int .i64 h) ∧ W.cell? ⟨w.heap.size + 1, 1, none⟩ = some (.int .i64 t) ∧ W.cell? ⟨w.heap.size + 1, 2, none⟩ = some (.int .i64 r)) (first | ((try dsimp only); (repeat' apply And.intro); all_goals (first | assumption | (simp [go_sem, *]; done))) | go_keep) (first
      | (go_at_call 15; refine (toFuelbed_any _ _ _).mono ?_; rintro e w' ⟨rfl, hb⟩; have B1 : Below w0.heap.size w0 w' := bstep (by (repeat' (first | (with_reducible exact Below.refl _ _) | (with_reducible assumption) | (with_reducible refine balloc ?_ _) | (with_reducible refine bdrew ?_) | (with_reducible refine bdrewN ?_ _) | (with_reducible refine bstep ?_ (by assumption)) | (with_reducible refine bset ?_ ?_ _) | (exact Below.size (by assumption)) | go_size))) hb; clear x0 x1 y0 y1 y2; obtain ⟨x0, x1, _, _, _⟩ := (hf.below B1 (Nat.le_refl _) hf.lt).two; obtain ⟨y0, y1, y2, _⟩ := (ha.below B1 (Nat.le_refl _) ha.lt).three; (first | (have hZ := hZ.k hb) | (have hZ := Blk.n hb) | (have hZ := Blk.nd hb) | skip); (try (obtain ⟨_, _, _, _, _⟩ := hZ.two)))
      | (go_at_call 20; refine (toAir_any _ _ _ _).mono ?_; rintro e w' ⟨rfl, hb⟩; have B1 : Below w0.heap.size w0 w' := bstep (by (repeat' (first | (with_reducible exact Below.refl _ _) | (with_reducible assumption) | (with_reducible refine balloc ?_ _) | (with_reducible refine bdrew ?_) | (with_reducible refine bdrewN ?_ _) | (with_reducible refine bstep ?_ (by assumption)) | (with_reducible refine bset ?_ ?_ _) | (exact Below.size (by assumption)) | go_size))) hb; clear x0 x1 y0 y1 y2; obtain ⟨x0, x1, _, _, _⟩ := (hf.below B1 (Nat.le_refl _) hf.lt).two; obtain ⟨y0, y1, y2, _⟩ := (ha.below B1 (Nat.le_refl _) ha.lt).three; (first | (have hZ := hZ.k hb) | (have hZ := Blk.n hb) | (have hZ := Blk.nd hb) | skip); (try (obtain ⟨_, _, _, _, _⟩ := hZ.two)))
      | (go_at_call 22; refine (sAfterHour_any _ _ _ _ _ _).mono ?_; rintro e w' ⟨rfl, hb⟩; have B1 : Below w0.heap.size w0 w' := bstep (by (repeat' (first | (with_reducible exact Below.refl _ _) | (with_reducible assumption) | (with_reducible refine balloc ?_ _) | (with_reducible refine bdrew ?_) | (with_reducible refine bdrewN ?_ _) | (with_reducible refine bstep ?_ (by assumption)) | (with_reducible refine bset ?_ ?_ _) | (exact Below.size (by assumption)) | go_size))) hb; clear x0 x1 y0 y1 y2; obtain ⟨x0, x1, _, _, _⟩ := (hf.below B1 (Nat.le_refl _) hf.lt).two; obtain ⟨y0, y1, y2, _⟩ := (ha.below B1 (Nat.le_refl _) ha.lt).three; (first | (have hZ := hZ.k hb) | (have hZ := Blk.n hb) | (have hZ := Blk.nd hb) | skip); (try (obtain ⟨_, _, _, _, _⟩ := hZ.two))))
    all_goals (go_wp2_with fail; go_meet; refine ⟨_, rfl, rfl, ?_, ?_⟩; (first | exact Blk.new _ _ _ | exact hZ.set2 | exact (Blk.new _ _ _).alloc _); (first | (repeat' (first | (with_reducible exact Below.refl _ _) | (with_reducible assumption) | (with_reducible refine balloc ?_ _) | (with_reducible refine bdrew ?_) | (with_reducible refine bdrewN ?_ _) | (with_reducible refine bstep ?_ (by assumption)) | (with_reducible refine bset ?_ ?_ _) | (exact Below.size (by assumption)) | go_size)) | (have := B1.size; refine bset (bset ?_ ?_ _) ?_ _ <;> first | assumption | exact Nat.le_refl _ | omega)))
  case rest =>
    obtain ⟨g1, rfl, rfl, hG1, hB1⟩ := hcut
    have hf := hf.below hB1 (Nat.le_refl _) hf.lt
    have ha := ha.below hB1 (Nat.le_refl _) ha.lt
    clear x0 x1 y0 y1 y2
    go_upto_region 2 with fail
    obtain ⟨x0, x1, _, _, _⟩ := hf.two
    obtain ⟨y0, y1, y2, _⟩ := ha.three
    go_cut [7, 8] (fun s5 s6 wx => ∃ g, s5 = .pointer (some ⟨g, 0, none⟩) ∧ s6 = .bool (okBA l m h t r) ∧ Blk wx g 25 [.int .i64 (aftL l m h t r), .int .i64 (aftM l m h t r)] ∧ Below wc.heap.size wc wx)
    case first =>
      go_region_held3 (fun W => W.cell? ⟨w.heap.size, 0, none⟩ = some (.int .i64 l) ∧ W.cell? ⟨w.heap.size, 1, none⟩ = some (.int .i64 m) ∧ W.cell? ⟨w.heap.size + 1, 0, none⟩ = some (.int .i64 h) ∧ W.cell? ⟨w.heap.size + 1, 1, none⟩ = some (.int .i64 t) ∧ W.cell? ⟨w.heap.size + 1, 2, none⟩ = some (.int .i64 r)) (first | ((try dsimp only); (repeat' apply And.intro); all_goals (first | assumption | (simp [go_sem, *]; done))) | go_keep) (first
        | (go_at_call 15; refine (toFuelbed_any _ _ _).mono ?_; rintro e w' ⟨rfl, hb⟩; have B1 : Below wc.heap.size wc w' := bstep (by (repeat' (first | (with_reducible exact Below.refl _ _) | (with_reducible assumption) | (with_reducible refine balloc ?_ _) | (with_reducible refine bdrew ?_) | (with_reducible refine bdrewN ?_ _) | (with_reducible refine bstep ?_ (by assumption)) | (with_reducible refine bset ?_ ?_ _) | (exact Below.size (by assumption)) | go_size))) hb; clear x0 x1 y0 y1 y2; obtain ⟨x0, x1, _, _, _⟩ := (hf.below B1 (Nat.le_refl _) hf.lt).two; obtain ⟨y0, y1, y2, _⟩ := (ha.below B1 (Nat.le_refl _) ha.lt).three; (first | (have hZ := hZ.k hb) | (have hZ := Blk.n hb) | (have hZ := Blk.nd hb) | skip); (try (obtain ⟨_, _, _, _, _⟩ := hZ.two)))
        | (go_at_call 20; refine (toAir_any _ _ _ _).mono ?_; rintro e w' ⟨rfl, hb⟩; have B1 : Below wc.heap.size wc w' := bstep (by (repeat' (first | (with_reducible exact Below.refl _ _) | (with_reducible assumption) | (with_reducible refine balloc ?_ _) | (with_reducible refine bdrew ?_) | (with_reducible refine bdrewN ?_ _) | (with_reducible refine bstep ?_ (by assumption)) | (with_reducible refine bset ?_ ?_ _) | (exact Below.size (by assumption)) | go_size))) hb; clear x0 x1 y0 y1 y2; obtain ⟨x0, x1, _, _, _⟩ := (hf.below B1 (Nat.le_refl _) hf.lt).two; obtain ⟨y0, y1, y2, _⟩ := (ha.below B1 (Nat.le_refl _) ha.lt).three; (first | (have hZ := hZ.k hb) | (have hZ := Blk.n hb) | (have hZ := Blk.nd hb) | skip); (try (obtain ⟨_, _, _, _, _⟩ := hZ.two)))
        | (go_at_call 23; refine (AfterHour_any _ _ _ _ _ _).mono ?_; rintro e w' ⟨rfl, hb⟩; have B1 : Below wc.heap.size wc w' := bstep (by (repeat' (first | (with_reducible exact Below.refl _ _) | (with_reducible assumption) | (with_reducible refine balloc ?_ _) | (with_reducible refine bdrew ?_) | (with_reducible refine bdrewN ?_ _) | (with_reducible refine bstep ?_ (by assumption)) | (with_reducible refine bset ?_ ?_ _) | (exact Below.size (by assumption)) | go_size))) hb; clear x0 x1 y0 y1 y2; obtain ⟨x0, x1, _, _, _⟩ := (hf.below B1 (Nat.le_refl _) hf.lt).two; obtain ⟨y0, y1, y2, _⟩ := (ha.below B1 (Nat.le_refl _) ha.lt).three; (first | (have hZ := hZ.k hb) | (have hZ := Blk.n hb) | (have hZ := Blk.nd hb) | skip); (try (obtain ⟨_, _, _, _, _⟩ := hZ.two))))
      all_goals (go_wp2_with fail; go_meet; refine ⟨_, rfl, rfl, ?_, ?_⟩; (first | exact Blk.new _ _ _ | exact hZ.set2 | exact (Blk.new _ _ _).alloc _); (first | (repeat' (first | (with_reducible exact Below.refl _ _) | (with_reducible assumption) | (with_reducible refine balloc ?_ _) | (with_reducible refine bdrew ?_) | (with_reducible refine bdrewN ?_ _) | (with_reducible refine bstep ?_ (by assumption)) | (with_reducible refine bset ?_ ?_ _) | (exact Below.size (by assumption)) | go_size)) | (have := B1.size; refine bset (bset ?_ ?_ _) ?_ _ <;> first | assumption | exact Nat.le_refl _ | omega)))
    case rest =>
      obtain ⟨g2, rfl, rfl, hG2, hB2⟩ := hcut
      have hG1 := hG1.k hB2
      obtain ⟨p0, p1, _, _, _⟩ := hG1.two
      obtain ⟨q0, q1, _, _, _⟩ := hG2.two
      go_wp2_with fail
      refine (eqFuelbed_same _ _ _).mono ?_
      rintro e w4 ⟨rfl, hb4⟩
      go_wp2
      go_returns
      exact ⟨rfl, bstep (bstep (bstep hW hB1) hB2) hb4⟩
end Go.Proofs.Ytkbhpfgbodellaa
