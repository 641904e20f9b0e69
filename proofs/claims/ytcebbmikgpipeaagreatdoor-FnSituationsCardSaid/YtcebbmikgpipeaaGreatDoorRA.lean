/-
  strings.Replacer.build at the three pairs of one byte and nothing. Conditions: the six strings lie in the Replacer's row.
-/
import Derived.Test.YtcebbmikgpipeaaGreatDoorPS
import Derived.Test.YtcebbmikgpipeaaGreatDoorS
import Derived.Test.YtcebbmikgpipeaaGreatDoorP
import Derived.Deep.WholeRow
import Derived.Maps.AppendAt
import Derived.Lib.SliceRun
import Derived.Lib.ConvBytes
import Derived.Lib.AtoiErrMem
import Derived.Laws.IdiomStrings
namespace Go.Proofs.YtcebbmikgpipeaaGreatDoor
open Go Go.RowKit
set_option maxRecDepth 100000
set_option maxHeartbeats 8000000

theorem wp_gen {P : Program} {c : Code} {Q : Exit → Act → World → Prop} {a : Act} {w : World} (R : World → Prop) (h1 : R w) (h2 : ∀ w0, R w0 → c.wp P Q a w0) : c.wp P Q a w := h2 w h1
theorem make_three (W : World) : (Instr.makeSlice 35 (.int .i64 0) (.int .i64 3)).run Tryz.prog W = .ok (.slice (some ⟨W.heap.size, 0, none⟩) 0 3) (W.alloc (.cells #[.string ByteArray.empty, .string ByteArray.empty, .string ByteArray.empty] 9)) := by
  obtain ⟨i0, hi0, hz0, hz1, hz2⟩ := info_parts (show (Tryz.prog.info? 9).map (fun i => (i.zero, i.size, i.bytes)) = some (some (.string ByteArray.empty), 1, 16) from by kernel_rfl)
  have h := run_make (P := Tryz.prog) W 35 9 i0 (.string ByteArray.empty) Tryz.underlying35 hi0 hz0 .i64 .i64 0 3 (by omega) (by omega) (by rw [hz2]; omega) (by omega)
  have e : madeCells (Value.string ByteArray.empty).cells (Int.toNat 3 * 1) = #[.string ByteArray.empty, .string ByteArray.empty, .string ByteArray.empty] := by kernel_rfl
  rw [h, hz1, e]; rfl
/-- the cells of the table before any pair is laid -/
def tab0 (v : Value) : List Value := List.replicate 256 (.slice none 0 0) ++ [v]
theorem zero_tab : Tryz.zeroCells105.toList = List.replicate 257 (.slice none 0 0) := by kernel_rfl
theorem zero_set (v : Value) : Tryz.zeroCells105.toList.set 256 v = tab0 v := by
  rw [zero_tab, show (257 : Nat) = 256 + 1 from rfl, List.replicate_succ', List.set_append_right _ _ (by simp)]
  simp [tab0]
theorem store_tab (g : Nat) (W : World) (hg : W.heap.size = g) (v : Value) (hv : v.oneCell' = true) : (storeCells ⟨g, 0, none⟩ (Tryz.zeroCells105.toList.set 256 v)).run Tryz.prog (W.alloc (.cells Tryz.zeroCells105 105)) = .ok () (W.alloc (.cells (tab0 v).toArray 105)) := by
  subst hg
  rw [zero_set]
  have hz : Tryz.zeroCells105.size = 257 := by
    have h : Tryz.zeroCells105.toList.length = 257 := by rw [zero_tab, List.length_replicate]
    rwa [Array.length_toList] at h
  have hl : (tab0 v).length = 257 := by simp [tab0]
  refine run_storeCells_new W 105 _ (tab0 v).toArray ?_ ?_ ?_
  · have h : (Tryz.prog.info? 105).map (·.size) = some 257 := by kernel_rfl
    rw [h, List.size_toArray, hl]
  · rw [hz, List.size_toArray, hl]
  · rw [List.all_toArray, List.all_eq_true]
    intro x hx
    rcases List.mem_append.1 hx with h | h
    · rw [List.eq_of_mem_replicate h]; rfl
    · rw [List.mem_singleton.1 h]; exact hv
theorem own_far2 {w : World} {base k n b o : Nat} {t : TypeId} {v : Value} {xs : List Value} {u : Value} (h : w.ownsRow base t k v n xs) (hS : ∀ b', v.ownBlock = some b' → b' ≠ b) : (w.setCell ⟨b, o, none⟩ u).ownsRow base t k v n xs := by
  obtain ⟨h1, h2⟩ := h
  refine ⟨h1, ?_⟩
  rcases h2 with h2 | ⟨g', cap, cur, rfl, hbg, hg, hnc, hcm, hcs, ht⟩
  · exact .inl h2
  · exact .inr ⟨g', cap, cur, rfl, hbg, (Below.heap_setCell w ⟨b, o, none⟩ u g' (hS g' rfl)).trans hg, hnc, hcm, hcs, ht⟩
/-- the table: what is laid, and the list of what is to be replaced -/
structure TabP (C : List Value) (v : Value) (D : List Nat) : Prop where
  len : C.length = 257
  last : C[256]? = some v
  lt : ∀ j ∈ D, j < 256
  no : ∀ j, j < 256 → j ∉ D → C[j]? = some (.slice none 0 0)
  yes : ∀ j ∈ D, ∃ a c, C[j]? = some (.slice (some a) 0 c)
theorem TabP.start (v : Value) : TabP (tab0 v) v [] := by
  refine ⟨by simp [tab0], by simp [tab0], by simp, fun j hj _ => ?_, by simp⟩
  unfold tab0
  rw [List.getElem?_append_left (by simpa using hj), List.getElem?_replicate]
  simp [hj]
theorem TabP.put_v {C : List Value} {v : Value} {D : List Nat} (h : TabP C v D) (v' : Value) : TabP (C.set 256 v') v' D := by
  have hl := h.len
  refine ⟨by simpa using h.len, by rw [List.getElem?_set_self (by omega)], h.lt, fun j hj hd => ?_, fun j hj => ?_⟩
  · rw [List.getElem?_set_ne (by omega)]; exact h.no j hj hd
  · have := h.lt j hj
    rw [List.getElem?_set_ne (by omega)]; exact h.yes j hj
theorem TabP.put {C : List Value} {v : Value} {D : List Nat} (h : TabP C v D) {k : Nat} (hk : k < 256) (a : Addr) (c : Nat) : TabP (C.set k (.slice (some a) 0 c)) v (k :: D) := by
  have hl := h.len
  refine ⟨by simpa using h.len, ?_, ?_, fun j hj hd => ?_, fun j hj => ?_⟩
  · rw [List.getElem?_set_ne (by omega)]; exact h.last
  · intro j hj
    rcases List.mem_cons.1 hj with rfl | hj
    · exact hk
    · exact h.lt j hj
  · rw [List.getElem?_set_ne (fun e => hd (by subst e; exact List.mem_cons_self))]
    exact h.no j hj (fun e => hd (List.mem_cons_of_mem _ e))
  · by_cases e : k = j
    · subst e; exact ⟨a, c, by rw [List.getElem?_set_self (by omega)]⟩
    · rw [List.getElem?_set_ne e]
      rcases List.mem_cons.1 hj with e2 | hj
      · exact absurd e2.symm e
      · exact h.yes j hj
/-- a table of the three bytes that are taken out -/
def RepB (w : World) (gb lo : Nat) : Prop := ∃ C b o p, Bk w gb 105 C ∧ TabP C (.slice (some ⟨b, o, none⟩) 3 p) [58, 44, 46] ∧ Rd w 1 (some ⟨b, o, none⟩) 3 [.string ⟨#[46]⟩, .string ⟨#[44]⟩, .string ⟨#[58]⟩] ∧ lo ≤ gb ∧ lo ≤ b
theorem RepB.keep {w w' : World} {gb lo : Nat} (h : RepB w gb lo) (hs : w.heap.size ≤ w'.heap.size) (hk : ∀ k, lo ≤ k → k < w.heap.size → w'.heap[k]? = w.heap[k]?) : RepB w' gb lo := by
  obtain ⟨C, b, o, p, k, hT, hR, h1, h2⟩ := h
  refine ⟨C, b, o, p, (hk gb h1 k.lt).trans k, hT, ⟨hR.1, fun hn => ?_⟩, h1, h2⟩
  obtain ⟨b', o', e, hlt, hc⟩ := hR.2 hn
  simp only [Option.some.injEq, Addr.mk.injEq, and_true] at e
  obtain ⟨rfl, rfl⟩ := e
  exact ⟨b, o, rfl, Nat.lt_of_lt_of_le hlt hs, fun j u hu => (World.cell?_of_block (w := w) (hk b h2 hlt)).trans (hc j u hu)⟩
theorem RepB.below {w w' : World} {gb lo : Nat} (h : RepB w gb lo) (hb : Below w.heap.size w w') : RepB w' gb lo := h.keep hb.size (fun k _ hk => hb.block k hk)
theorem RepB.far {w : World} {gb lo : Nat} (h : RepB w gb lo) {p : Addr} (hp : p.block < lo) (u : Value) : RepB (w.setCell p u) gb lo := h.keep (by simp) (fun k h1 _ => Below.heap_setCell w p u k (by omega))
theorem build_is (gR ga : Nat) (w : World) (hga : ga < w.heap.size) (ca : Nat) (h0 : w.cell? ⟨gR, 4, none⟩ = some (.slice (some ⟨ga, 0, none⟩) 6 ca)) (c0 : w.cell? ⟨ga, 0, none⟩ = some (.string ⟨#[58]⟩)) (c1 : w.cell? ⟨ga, 1, none⟩ = some (.string ⟨#[]⟩))
  (c2 : w.cell? ⟨ga, 2, none⟩ = some (.string ⟨#[44]⟩)) (c3 : w.cell? ⟨ga, 3, none⟩ = some (.string ⟨#[]⟩)) (c4 : w.cell? ⟨ga, 4, none⟩ = some (.string ⟨#[46]⟩)) (c5 : w.cell? ⟨ga, 5, none⟩ = some (.string ⟨#[]⟩)) : Calls Tryz.prog 51 #[.pointer (some ⟨gR, 0, none⟩)] w fun e w' => ∃ gb, e = .returned (.iface 106 (.pointer (some ⟨gb, 0, none⟩))) ∧ RepB w' gb w.heap.size ∧ Below w.heap.size w w' := by
  go_enter Tryz.func51, Tryz.ntmps51
  go_upto_region 6 with fail
  refine wp_loop_rounds 4 ?_
  rw [rounds_succ]
  go_wp2
  rw [rounds_succ]
  go_wp2
  rw [rounds_succ]
  go_wp2
  rw [rounds_succ]
  have hmk := make_three
  have hst := fun v (hv : v.oneCell' = true) => store_tab (w.heap.size + 1) (w.alloc (.cells #[.string ByteArray.empty, .string ByteArray.empty, .string ByteArray.empty] 9)) (by simp) v hv
  have hst1 := hst (.slice (some ⟨w.heap.size, 0, none⟩) 0 3) rfl
  go_upto_region 27 with fail
  obtain ⟨gb, hgb⟩ : ∃ g, w.heap.size + 1 = g := ⟨_, rfl⟩
  obtain ⟨v0, hv0⟩ : ∃ v, Value.slice (some ⟨w.heap.size, 0, none⟩) 0 3 = v := ⟨_, rfl⟩
  refine wp_gen (fun W => Below w.heap.size w W ∧ ∃ v C, Bk W gb 105 C ∧ TabP C v [] ∧ W.ownsRow w.heap.size 9 1 v 0 [] ∧ v.ownBlock ≠ some gb) ⟨by (repeat' (first | (with_reducible exact Below.refl _ _) | (with_reducible assumption) | (with_reducible refine balloc ?_ _) | (with_reducible refine bdrew ?_) | (with_reducible refine bdrewN ?_ _) | (with_reducible refine bstep ?_ (by assumption)) | (with_reducible refine bset ?_ ?_ _) | (exact Below.size (by assumption)) | go_size)), v0, _, by rw [← hgb, hv0]; exact Bk.new' (by simp), TabP.start v0, by rw [← hv0]; exact bk_own (cs := [.string ByteArray.empty, .string ByteArray.empty, .string ByteArray.empty]) (Nat.le_refl _) ((Bk.new _ _ _).alloc _) (by omega) (by decide) rfl rfl, by rw [← hv0, ← hgb]; simp [Value.ownBlock]⟩ ?_
  rw [hgb]
  have hwb : w.heap.size ≤ gb := by omega
  clear hgb hv0 hst hst1 hmk
  intro W ⟨bW, v, C, kB, hT, hO, hV⟩
  obtain ⟨i0, hi0, hz0, hz1, hz2⟩ := info_parts (show (Tryz.prog.info? 9).map (fun i => (i.zero, i.size, i.bytes)) = some (some (.string ByteArray.empty), 1, 16) from by kernel_rfl)
  have heq := fun W a n c => Lib.run_eql_slice_nil (P := Tryz.prog) W 28 5 a n c 0 0 Tryz.underlying28
  have hcs := fun W => Lib.run_convert_string_bytes (P := Tryz.prog) W 9 28 5 ⟨#[]⟩ Tryz.underlying9 Tryz.underlying28 Tryz.underlying5
  go_upto_region 28 with fail
  refine wp_loop_rounds 4 ?_
  rw [rounds_succ]
  have d0 := (bW.cell (p := ⟨ga, 4, none⟩) hga).trans c4
  have d1 := (bW.cell (p := ⟨ga, 5, none⟩) hga).trans c5
  have tB : W.cell? ⟨gb, 46, none⟩ = some (.slice none 0 0) := by rw [kB.cell]; exact hT.no 46 (by decide) (by decide)
  have tL : W.cell? ⟨gb, 256, none⟩ = some v := by rw [kB.cell]; exact hT.last
  have fL := kB.frozen 256
  have lB := kB.lt
  have eB : (({ data := #[46] } : ByteArray)[0]'(by decide)).toNat = 46 := rfl
  have hcv : (convert 28 9 (.slice (some ⟨W.heap.size, 0, none⟩) 1 1)).run Tryz.prog (W.alloc (.cells #[.int .u8 46] 5)) = .ok (.string ⟨#[46]⟩) (W.alloc (.cells #[.int .u8 46] 5)) := run_convert_bytes_back (P := Tryz.prog) (W.alloc (.cells #[.int .u8 46] 5)) 28 9 5 ⟨W.heap.size, 0, none⟩ 1 [46] Tryz.underlying28 Tryz.underlying5 Tryz.underlying9 (fun j hj => by
    obtain rfl : j = 0 := by simpa using hj
    exact (Bk.new W 5 [.int .u8 46]).cell 0)
  go_upto_region 33 with fail
  go_wp2_with (at_builtin; refine wpList_append_own_at _ rfl (.tmp 119) (.tmp 123) 35 rfl w.heap.size 9 i0 (.string ByteArray.empty) 1 16 Tryz.underlying35 hi0 hz0 hz1 hz2 rfl (by decide) _ _ _ rfl (own_alloc (own_alloc hO _) _) ⟨_, 0, none⟩ 1 1 [.string ⟨#[46]⟩] rfl rfl ?c1 ?c2 ?c3 ?c4 ?c5 ?_)
  case c1 => (have h := cell_one_new (W.alloc (.cells #[.int .u8 46] 5)) (.string ⟨#[46]⟩) 9; rw [World.size_alloc] at h; exact h)
  case c2 => (intro u hu; rw [List.mem_singleton.1 hu]; rfl)
  case c3 => (unfold maxLen; omega)
  case c4 => omega
  case c5 => (have := bW.size; simp; omega)
  intro v9 w9 hown hgr _ hat
  obtain ⟨A1, p1, rfl, _, _⟩ := own_rd hown
  have b9 := own_grownBy (own_alloc (own_alloc hO _) _) (balloc (balloc bW _) _) hgr (Nat.le_refl _) (by have := bW.size; simp; omega)
  have hne : (Value.slice A1 1 p1).ownBlock ≠ some gb := by
    rcases hat with h | h
    · rw [h]; exact hV
    · rw [h]; intro e; simp at e; omega
  have k9 : Bk w9 gb 105 C := Bk.grown ((kB.alloc _).alloc _) hgr (fun e => hV e.symm)
  have n256 : w9.cell? ⟨gb, 256, none⟩ = some v := by rw [k9.cell]; exact hT.last
  have nf := k9.frozen 256
  have l9 := k9.lt
  clear tB tL fL lB hcv
  go_upto_region 34 with fail
  refine wp_gen (fun W => Below w.heap.size w W ∧ ∃ C, Bk W gb 105 C ∧ TabP C (.slice A1 1 p1) [] ∧ W.ownsRow w.heap.size 9 1 (.slice A1 1 p1) 1 [.string ⟨#[46]⟩] ∧ (Value.slice A1 1 p1).ownBlock ≠ some gb) ⟨bset b9 hwb _, _, k9.set_ 256 _, hT.put_v _, own_far2 hown (fun b' e e2 => hne (by rw [e, e2])), hne⟩ ?_
  clear bW kB hT hO hV b9 hown hgr hat hne k9 n256 nf l9 d0 d1
  intro W ⟨bW, C, kB, hT, hO, hV⟩
  have tB : W.cell? ⟨gb, 46, none⟩ = some (.slice none 0 0) := by rw [kB.cell]; exact hT.no 46 (by decide) (by decide)
  have fB := kB.frozen 46
  have lB := kB.lt
  have bcs := Lib.bytesWorld_below W 5 ⟨#[]⟩
  have kC := kB.below bcs lB
  have tC := (bcs.cell (p := ⟨gb, 46, none⟩) lB).trans tB
  have fC := kC.frozen 46
  have lC := kC.lt
  go_upto_region 29 with fail
  refine wp_gen (fun W => Below w.heap.size w W ∧ ∃ C, Bk W gb 105 C ∧ TabP C (.slice A1 1 p1) [46] ∧ W.ownsRow w.heap.size 9 1 (.slice A1 1 p1) 1 [.string ⟨#[46]⟩] ∧ (Value.slice A1 1 p1).ownBlock ≠ some gb) ⟨bset (bstep bW bcs) hwb _, _, kC.set_ 46 _, hT.put (by decide) _ _, own_far2 (own_below hO bcs) (fun b' e e2 => hV (by rw [e, e2])), hV⟩ ?_
  clear bW kB hT hO hV tB fB lB bcs kC tC fC lC
  intro W ⟨bW, C, kB, hT, hO, hV⟩
  go_wp2
  rw [rounds_succ]
  have d0 := (bW.cell (p := ⟨ga, 2, none⟩) hga).trans c2
  have d1 := (bW.cell (p := ⟨ga, 3, none⟩) hga).trans c3
  have tB : W.cell? ⟨gb, 44, none⟩ = some (.slice none 0 0) := by rw [kB.cell]; exact hT.no 44 (by decide) (by decide)
  have tL : W.cell? ⟨gb, 256, none⟩ = some (.slice A1 1 p1) := by rw [kB.cell]; exact hT.last
  have fL := kB.frozen 256
  have lB := kB.lt
  have eB : (({ data := #[44] } : ByteArray)[0]'(by decide)).toNat = 44 := rfl
  have hcv : (convert 28 9 (.slice (some ⟨W.heap.size, 0, none⟩) 1 1)).run Tryz.prog (W.alloc (.cells #[.int .u8 44] 5)) = .ok (.string ⟨#[44]⟩) (W.alloc (.cells #[.int .u8 44] 5)) := run_convert_bytes_back (P := Tryz.prog) (W.alloc (.cells #[.int .u8 44] 5)) 28 9 5 ⟨W.heap.size, 0, none⟩ 1 [44] Tryz.underlying28 Tryz.underlying5 Tryz.underlying9 (fun j hj => by
    obtain rfl : j = 0 := by simpa using hj
    exact (Bk.new W 5 [.int .u8 44]).cell 0)
  go_upto_region 33 with fail
  go_wp2_with (at_builtin; refine wpList_append_own_at _ rfl (.tmp 119) (.tmp 123) 35 rfl w.heap.size 9 i0 (.string ByteArray.empty) 1 16 Tryz.underlying35 hi0 hz0 hz1 hz2 rfl (by decide) _ _ _ rfl (own_alloc (own_alloc hO _) _) ⟨_, 0, none⟩ 1 1 [.string ⟨#[44]⟩] rfl rfl ?c1 ?c2 ?c3 ?c4 ?c5 ?_)
  case c1 => (have h := cell_one_new (W.alloc (.cells #[.int .u8 44] 5)) (.string ⟨#[44]⟩) 9; rw [World.size_alloc] at h; exact h)
  case c2 => (intro u hu; rw [List.mem_singleton.1 hu]; rfl)
  case c3 => (unfold maxLen; omega)
  case c4 => omega
  case c5 => (have := bW.size; simp; omega)
  intro v9 w9 hown hgr _ hat
  obtain ⟨A2, p2, rfl, _, _⟩ := own_rd hown
  have b9 := own_grownBy (own_alloc (own_alloc hO _) _) (balloc (balloc bW _) _) hgr (Nat.le_refl _) (by have := bW.size; simp; omega)
  have hne : (Value.slice A2 2 p2).ownBlock ≠ some gb := by
    rcases hat with h | h
    · rw [h]; exact hV
    · rw [h]; intro e; simp at e; omega
  have k9 : Bk w9 gb 105 C := Bk.grown ((kB.alloc _).alloc _) hgr (fun e => hV e.symm)
  have n256 : w9.cell? ⟨gb, 256, none⟩ = some (.slice A1 1 p1) := by rw [k9.cell]; exact hT.last
  have nf := k9.frozen 256
  have l9 := k9.lt
  clear tB tL fL lB hcv
  go_upto_region 34 with fail
  refine wp_gen (fun W => Below w.heap.size w W ∧ ∃ C, Bk W gb 105 C ∧ TabP C (.slice A2 2 p2) [46] ∧ W.ownsRow w.heap.size 9 1 (.slice A2 2 p2) 2 [.string ⟨#[46]⟩, .string ⟨#[44]⟩] ∧ (Value.slice A2 2 p2).ownBlock ≠ some gb) ⟨bset b9 hwb _, _, k9.set_ 256 _, hT.put_v _, own_far2 hown (fun b' e e2 => hne (by rw [e, e2])), hne⟩ ?_
  clear bW kB hT hO hV b9 hown hgr hat hne k9 n256 nf l9 d0 d1
  intro W ⟨bW, C, kB, hT, hO, hV⟩
  have tB : W.cell? ⟨gb, 44, none⟩ = some (.slice none 0 0) := by rw [kB.cell]; exact hT.no 44 (by decide) (by decide)
  have fB := kB.frozen 44
  have lB := kB.lt
  have bcs := Lib.bytesWorld_below W 5 ⟨#[]⟩
  have kC := kB.below bcs lB
  have tC := (bcs.cell (p := ⟨gb, 44, none⟩) lB).trans tB
  have fC := kC.frozen 44
  have lC := kC.lt
  go_upto_region 29 with fail
  refine wp_gen (fun W => Below w.heap.size w W ∧ ∃ C, Bk W gb 105 C ∧ TabP C (.slice A2 2 p2) [44, 46] ∧ W.ownsRow w.heap.size 9 1 (.slice A2 2 p2) 2 [.string ⟨#[46]⟩, .string ⟨#[44]⟩] ∧ (Value.slice A2 2 p2).ownBlock ≠ some gb) ⟨bset (bstep bW bcs) hwb _, _, kC.set_ 44 _, hT.put (by decide) _ _, own_far2 (own_below hO bcs) (fun b' e e2 => hV (by rw [e, e2])), hV⟩ ?_
  clear bW kB hT hO hV tB fB lB bcs kC tC fC lC
  intro W ⟨bW, C, kB, hT, hO, hV⟩
  go_wp2
  rw [rounds_succ]
  have d0 := (bW.cell (p := ⟨ga, 0, none⟩) hga).trans c0
  have d1 := (bW.cell (p := ⟨ga, 1, none⟩) hga).trans c1
  have tB : W.cell? ⟨gb, 58, none⟩ = some (.slice none 0 0) := by rw [kB.cell]; exact hT.no 58 (by decide) (by decide)
  have tL : W.cell? ⟨gb, 256, none⟩ = some (.slice A2 2 p2) := by rw [kB.cell]; exact hT.last
  have fL := kB.frozen 256
  have lB := kB.lt
  have eB : (({ data := #[58] } : ByteArray)[0]'(by decide)).toNat = 58 := rfl
  have hcv : (convert 28 9 (.slice (some ⟨W.heap.size, 0, none⟩) 1 1)).run Tryz.prog (W.alloc (.cells #[.int .u8 58] 5)) = .ok (.string ⟨#[58]⟩) (W.alloc (.cells #[.int .u8 58] 5)) := run_convert_bytes_back (P := Tryz.prog) (W.alloc (.cells #[.int .u8 58] 5)) 28 9 5 ⟨W.heap.size, 0, none⟩ 1 [58] Tryz.underlying28 Tryz.underlying5 Tryz.underlying9 (fun j hj => by
    obtain rfl : j = 0 := by simpa using hj
    exact (Bk.new W 5 [.int .u8 58]).cell 0)
  go_upto_region 33 with fail
  go_wp2_with (at_builtin; refine wpList_append_own_at _ rfl (.tmp 119) (.tmp 123) 35 rfl w.heap.size 9 i0 (.string ByteArray.empty) 1 16 Tryz.underlying35 hi0 hz0 hz1 hz2 rfl (by decide) _ _ _ rfl (own_alloc (own_alloc hO _) _) ⟨_, 0, none⟩ 1 1 [.string ⟨#[58]⟩] rfl rfl ?c1 ?c2 ?c3 ?c4 ?c5 ?_)
  case c1 => (have h := cell_one_new (W.alloc (.cells #[.int .u8 58] 5)) (.string ⟨#[58]⟩) 9; rw [World.size_alloc] at h; exact h)
  case c2 => (intro u hu; rw [List.mem_singleton.1 hu]; rfl)
  case c3 => (unfold maxLen; omega)
  case c4 => omega
  case c5 => (have := bW.size; simp; omega)
  intro v9 w9 hown hgr _ hat
  obtain ⟨A3, p3, rfl, _, _⟩ := own_rd hown
  have b9 := own_grownBy (own_alloc (own_alloc hO _) _) (balloc (balloc bW _) _) hgr (Nat.le_refl _) (by have := bW.size; simp; omega)
  have hne : (Value.slice A3 3 p3).ownBlock ≠ some gb := by
    rcases hat with h | h
    · rw [h]; exact hV
    · rw [h]; intro e; simp at e; omega
  have k9 : Bk w9 gb 105 C := Bk.grown ((kB.alloc _).alloc _) hgr (fun e => hV e.symm)
  have n256 : w9.cell? ⟨gb, 256, none⟩ = some (.slice A2 2 p2) := by rw [k9.cell]; exact hT.last
  have nf := k9.frozen 256
  have l9 := k9.lt
  clear tB tL fL lB hcv
  go_upto_region 34 with fail
  refine wp_gen (fun W => Below w.heap.size w W ∧ ∃ C, Bk W gb 105 C ∧ TabP C (.slice A3 3 p3) [44, 46] ∧ W.ownsRow w.heap.size 9 1 (.slice A3 3 p3) 3 [.string ⟨#[46]⟩, .string ⟨#[44]⟩, .string ⟨#[58]⟩] ∧ (Value.slice A3 3 p3).ownBlock ≠ some gb) ⟨bset b9 hwb _, _, k9.set_ 256 _, hT.put_v _, own_far2 hown (fun b' e e2 => hne (by rw [e, e2])), hne⟩ ?_
  clear bW kB hT hO hV b9 hown hgr hat hne k9 n256 nf l9 d0 d1
  intro W ⟨bW, C, kB, hT, hO, hV⟩
  have tB : W.cell? ⟨gb, 58, none⟩ = some (.slice none 0 0) := by rw [kB.cell]; exact hT.no 58 (by decide) (by decide)
  have fB := kB.frozen 58
  have lB := kB.lt
  have bcs := Lib.bytesWorld_below W 5 ⟨#[]⟩
  have kC := kB.below bcs lB
  have tC := (bcs.cell (p := ⟨gb, 58, none⟩) lB).trans tB
  have fC := kC.frozen 58
  have lC := kC.lt
  go_upto_region 29 with fail
  refine wp_gen (fun W => Below w.heap.size w W ∧ ∃ C, Bk W gb 105 C ∧ TabP C (.slice A3 3 p3) [58, 44, 46] ∧ W.ownsRow w.heap.size 9 1 (.slice A3 3 p3) 3 [.string ⟨#[46]⟩, .string ⟨#[44]⟩, .string ⟨#[58]⟩] ∧ (Value.slice A3 3 p3).ownBlock ≠ some gb) ⟨bset (bstep bW bcs) hwb _, _, kC.set_ 58 _, hT.put (by decide) _ _, own_far2 (own_below hO bcs) (fun b' e e2 => hV (by rw [e, e2])), hV⟩ ?_
  clear bW kB hT hO hV tB fB lB bcs kC tC fC lC
  intro W ⟨bW, C, kB, hT, hO, hV⟩
  go_wp2
  rw [rounds_succ]
  go_wp2
  go_returns
  obtain ⟨b3, o3, rfl, _, _⟩ := (own_r hO).2 (by decide)
  exact ⟨gb, rfl, ⟨C, b3, o3, p3, kB, hT, own_r hO, hwb, (hO.lt b3 rfl).1⟩, bW⟩
end Go.Proofs.YtcebbmikgpipeaaGreatDoor
