/-
  ConcurrentPairs of the program and of the reference. Conditions: lengths within the bound of a slice.
-/
import Derived.Test.YthgabapegpndnaaJ
import Derived.Test.YthgabapegpndnaaQ
namespace Go.Proofs.Ythgabapegpndnaa
open Go.RowKit
set_option maxRecDepth 100000
set_option maxHeartbeats 4000000

theorem own_ne {w : World} {base k n g : Nat} {t t' : TypeId} {v : Value} {xs cs : List Value} (h : w.ownsRow base t k v n xs) (hB : Bk w g t' cs) (hne : t ≠ t') : some g ≠ v.ownBlock := by
  intro e
  rcases h.2 with ⟨hv, _⟩ | ⟨g', cap, cur, rfl, _, hg, _⟩
  · subst hv; simp [Value.ownBlock] at e
  · simp only [Value.ownBlock, Option.some.injEq] at e
    subst e
    unfold Bk at hB
    rw [hg] at hB
    simp only [Option.some.injEq, Obj.cells.injEq] at hB
    exact hne hB.2.1
def cc (Z : List NoteV) (i j : Nat) : Bool := !(befB (nAt Z i) (nAt Z j)) && !(befB (nAt Z j) (nAt Z i))
def prs (Z : List NoteV) (i k : Nat) : List PairT := ((List.range k).filter fun j => decide (i < j) && cc Z i j).map fun j : Nat => ((i : Int), (j : Int))
def cpA (Z : List NoteV) (i : Nat) : List PairT := (List.range i).flatMap fun a => prs Z a Z.length
theorem prs_start (Z : List NoteV) (i : Nat) : prs Z i (i + 1) = [] := by
  unfold prs
  rw [List.map_eq_nil_iff, List.filter_eq_nil_iff]
  intro j hj
  have : j < i + 1 := by simpa using hj
  have h : ¬ i < j := by omega
  simp [h]
theorem prs_yes {Z : List NoteV} {i k : Nat} (hk : i < k) (h : cc Z i k = true) : prs Z i (k + 1) = prs Z i k ++ [((i : Int), (k : Int))] := by
  unfold prs; rw [List.range_succ, List.filter_append, List.map_append]; simp [hk, h]
theorem prs_no {Z : List NoteV} {i k : Nat} (h : cc Z i k = false) : prs Z i (k + 1) = prs Z i k := by
  unfold prs; rw [List.range_succ, List.filter_append, List.map_append]; simp [h]
theorem prs_len (Z : List NoteV) (i k : Nat) : (prs Z i k).length ≤ k := by
  unfold prs; rw [List.length_map]; exact Nat.le_trans (List.length_filter_le _ _) (by simp)
theorem cpA_succ (Z : List NoteV) (i : Nat) : cpA Z (i + 1) = cpA Z i ++ prs Z i Z.length := by
  unfold cpA; rw [List.range_succ, List.flatMap_append]; simp
theorem cpA_len (Z : List NoteV) (i : Nat) : (cpA Z i).length ≤ i * Z.length := by
  induction i with
  | zero => simp [cpA]
  | succ i ih => rw [cpA_succ, List.length_append, Nat.succ_mul]; have := prs_len Z i Z.length; omega
noncomputable def cpL (units : Int) (Z : List NoteV) : List PairT := if bookB units Z = true then cpA Z Z.length else []
theorem cpL_len (units : Int) (Z : List NoteV) : (cpL units Z).length ≤ 1000 := by
  unfold cpL
  split
  · rename_i h
    have h1 := (bookB_iff.1 h).2.2
    have h2 : Z.length ≤ 12 := by omega
    have h3 := cpA_len Z Z.length
    have h4 : Z.length * Z.length ≤ 12 * 12 := Nat.mul_le_mul h2 h2
    omega
  · exact Nat.zero_le _
theorem infoP : ∃ i0, Try.prog.info? 55 = some i0 ∧ i0.zero = some (.agg #[.int .i64 0, .int .i64 0]) ∧ i0.size = 2 ∧ i0.bytes = 16 := info_parts (show (Try.prog.info? 55).map (fun i => (i.zero, i.size, i.bytes)) = some (some (.agg #[.int .i64 0, .int .i64 0]), 2, 16) from by kernel_rfl)
theorem two_new {W : World} {t : TypeId} {a b : Value} {g : Nat} (h : W.heap.size = g) : ∀ j u, [a, b][j]? = some u → (W.alloc (.cells #[a, b] t)).cell? ((⟨g, 0, none⟩ : Addr).add j) = some u :=
  ((Bk.new' (t := t) (cs := [a, b]) h).rd (k := 2) (n := 1) rfl).news
theorem ConcurrentPairs_is {q : Bool} {L : List PairT} {units : Int} {A : Option Addr} {n c : Nat} {Z : List NoteV} (hq : bookB units Z = q) (hL : cpL units Z = L) (w : World) (hr : RdN w A n Z) (hn : n ≤ 1048576) (hm : ∀ i, i < n → (nAt Z i).2.2.1.length ≤ 1048576 ∧ (nAt Z i).2.2.2.size ≤ maxLen) :
    Calls Try.prog 27 #[.int .i64 units, .slice A n c] w fun e w' => ∃ v, e = .returned (.tuple #[v, .bool q]) ∧ w'.ownsRow w.heap.size 55 2 v L.length (prF L) ∧ Below w.heap.size w w' := by
  have HQ := Lib.hid hq
  have HL := Lib.hid hL
  have hl := hr.1
  have hgood := fun W (hW : Below w.heap.size w W) => IsNotebook_is (c := c) hq W (hr.below hW) hn hm
  clear hq hL
  obtain ⟨i0, hi0, hz0, hz1, hz2⟩ := infoP
  rcases q with _ | _
  · obtain rfl : L = [] := by rw [← HL.out]; simp [cpL, HQ.out]
    clear hi0 hz0 hz1 hz2
    go_enter Try.func27, Try.ntmps27
    go_wp2_with fail
    refine (hgood _ (by (repeat' (first | (with_reducible exact Below.refl _ _) | (with_reducible assumption) | (with_reducible refine balloc ?_ _) | (with_reducible refine bdrew ?_) | (with_reducible refine bdrewN ?_ _) | (with_reducible refine bstep ?_ (by assumption)) | (with_reducible refine bset ?_ ?_ _) | (exact Below.size (by assumption)) | go_size)))).mono ?_
    rintro e w1 ⟨rfl, b1⟩
    go_wp2
    go_returns
    exact ⟨_, rfl, World.ownsRow_nil _ _ _ _, b1⟩
  have h1 : cpA Z n = L := by rw [← HL.out]; simp [cpL, HQ.out, hl]
  have hn12 : n ≤ 12 := by have := (bookB_iff.1 HQ.out).2.2; omega
  have H1 := Lib.hid h1
  clear HL h1
  have HV := Lib.hid (fun k (hk : k < n) => book_val HQ.out (k := k) (by omega))
  have HN := Lib.hid (fun i j (hi : i < n) (hj : j < n) => book_ne HQ.out (i := i) (j := j) (by omega) (by omega))
  have HU := Lib.hid (inB_iff.1 (bookB_iff.1 HQ.out).1)
  have HLN := Lib.hid (fun i k => (⟨cpA_len Z i, prs_len Z i k⟩ : (cpA Z i).length ≤ i * Z.length ∧ (prs Z i k).length ≤ k))
  go_enter Try.func27, Try.ntmps27
  go_wp2_with fail
  refine (hgood _ (by (repeat' (first | (with_reducible exact Below.refl _ _) | (with_reducible assumption) | (with_reducible refine balloc ?_ _) | (with_reducible refine bdrew ?_) | (with_reducible refine bdrewN ?_ _) | (with_reducible refine bstep ?_ (by assumption)) | (with_reducible refine bset ?_ ?_ _) | (exact Below.size (by assumption)) | go_size)))).mono ?_
  rintro e w1 ⟨rfl, b1⟩
  clear hgood
  go_wp2_with fail
  go_loopw [6, 17] (fun v i wr => ∃ k : Nat, k ≤ n ∧ i = .int .i64 k ∧ wr.ownsRow w.heap.size 55 2 v (cpA Z k).length (prF (cpA Z k)) ∧ Below w.heap.size w wr) (fun _ i _ => n - (intOf i).toNat)
  case atStart => exact ⟨0, Nat.zero_le _, rfl, by simpa [cpA, prF] using World.ownsRow_lit (e := 55) (size := 2) (base := w.heap.size) _ #[] 0 (by have := b1.size; omega) (by decide) rfl, by (repeat' (first | (with_reducible exact Below.refl _ _) | (with_reducible assumption) | (with_reducible refine balloc ?_ _) | (with_reducible refine bdrew ?_) | (with_reducible refine bdrewN ?_ _) | (with_reducible refine bstep ?_ (by assumption)) | (with_reducible refine bset ?_ ?_ _) | (exact Below.size (by assumption)) | go_size))⟩
  case round =>
    obtain ⟨k, hk, rfl, hown, hW⟩ := hrel
    by_cases hlt : k < n
    · obtain ⟨b, off, u, s, Ar, m, cr, xs, wd, rfl, hbl, hx, hxm, hrow, z0, z1, z2, z3⟩ := hr.at_ (Below.refl w.heap.size w) hlt
      have c0 := (hW.cell (p := ⟨b, off + k * 4, none⟩) hbl).trans z0
      have c1 := (hW.cell (p := ⟨b, off + k * 4 + 1, none⟩) hbl).trans z1
      have c2 := (hW.cell (p := ⟨b, off + k * 4 + 2, none⟩) hbl).trans z2
      have c3 := (hW.cell (p := ⟨b, off + k * 4 + 3, none⟩) hbl).trans z3
      have HRK : Hid (∀ W, Below w.heap.size w W → Rd W 1 Ar m (ints xs)) := Lib.hid fun W hb => hrow.below hb
      have s1 : b < wr.heap.size := Nat.lt_of_lt_of_le hbl hW.size
      have hnp := HV.out k hlt
      rw [hx] at hnp
      obtain ⟨e1, _, ⟨p0, p1⟩, ⟨v0, v1⟩, _, _⟩ := nP_bd hnp
      have HX := Lib.hid hx
      have HE := Lib.hid e1
      have HXM := Lib.hid hxm
      have HO := Lib.hid hown
      have i3 : (k : Int) < (n : Int) := by omega
      have i4 : (0 : Int) ≤ (k : Int) := by omega
      obtain ⟨wo, rfl⟩ : ∃ wo, wo = wr := ⟨_, rfl⟩
      clear hx hrow hnp hown e1 hxm z0 z1 z2 z3
      go_upto_region 7 with fail
      refine wp_gen (fun w2 => Bk w2 wo.heap.size 35 [.int .i64 u, .int .i64 s, .slice Ar m cr, .string wd] ∧ Below wo.heap.size wo w2) ⟨Bk.new' rfl, by (repeat' (first | (with_reducible exact Below.refl _ _) | (with_reducible assumption) | (with_reducible refine balloc ?_ _) | (with_reducible refine bdrew ?_) | (with_reducible refine bdrewN ?_ _) | (with_reducible refine bstep ?_ (by assumption)) | (with_reducible refine bset ?_ ?_ _) | (exact Below.size (by assumption)) | go_size))⟩ ?_
      intro w2 ⟨hX, c2b⟩
      have HX2 := Lib.hid hX
      have HO2 := Lib.hid (own_below HO.out c2b)
      have b2 := bstep hW c2b
      clear c0 c1 c2 c3 hX
      go_wp2_with fail
      go_loopw [6, 9] (fun v j wr => ∃ k' : Nat, (k' ≤ n ∨ k' = k + 1) ∧ k + 1 ≤ k' ∧ j = .int .i64 (k' : Nat) ∧ wr.ownsRow w.heap.size 55 2 v (cpA Z k ++ prs Z k k').length (prF (cpA Z k ++ prs Z k k')) ∧ Hid (Bk wr wo.heap.size 35 [.int .i64 u, .int .i64 s, .slice Ar m cr, .string wd]) ∧ wo.heap.size < wr.heap.size ∧ Below w.heap.size w wr) (fun _ j _ => n - (intOf j).toNat)
      case atStart => exact ⟨k + 1, .inr rfl, Nat.le_refl _, by go_num, by rw [prs_start, List.append_nil]; exact HO2.out, HX2, HX2.out.lt, b2⟩
      case round =>
        obtain ⟨k', hk', hkk, rfl, hown, HB, hbx, hWW⟩ := hrel
        by_cases hlt' : k' < n
        · obtain ⟨b', off', u', s', Ar', m', cr', xs', wd', hbe, hbl', hx', hxm', hrow', d0, d1, d2, d3⟩ := hr.at_ hWW hlt'
          simp only [Option.some.injEq, Addr.mk.injEq, and_true] at hbe
          obtain ⟨rfl, rfl⟩ := hbe
          have s2 : b < wr.heap.size := Nat.lt_of_lt_of_le hbl hWW.size
          have hnp' := HV.out k' hlt'
          rw [hx'] at hnp'
          obtain ⟨e2, _, ⟨p0', p1'⟩, ⟨v0', v1'⟩, _, _⟩ := nP_bd hnp'
          have hEE := HE.out
          have hMM := HXM.out
          have p2 : 0 ≤ u ∧ u < (m' : Int) := by omega
          have p3 : 0 ≤ u' ∧ u' < (m : Int) := by omega
          obtain ⟨b1v, hb1v⟩ : ∃ b1v, decide (s ≤ xs'.getD u.toNat 0) = b1v := ⟨_, rfl⟩
          obtain ⟨b2v, hb2v⟩ : ∃ b2v, decide (s' ≤ xs.getD u'.toNat 0) = b2v := ⟨_, rfl⟩
          have hcc : cc Z k k' = (!b1v && !b2v) := by
            unfold cc
            rw [HX.out, hx']
            show (!(decide (s ≤ xs'.getD u.toNat 0)) && !(decide (s' ≤ xs.getD u'.toNat 0))) = _
            rw [hb1v, hb2v]
          have hll : (cpA Z k ++ prs Z k k').length ≤ 1000 := by
            have h8 := HLN.out k k'
            have h9 : k * Z.length ≤ 12 * 12 := Nat.mul_le_mul (by omega) (by omega)
            rw [List.length_append]; omega
          have HCC := Lib.hid hcc
          have HB1 := fun (W : World) (hr : Rd W 1 Ar' m' (ints xs')) => before_is (A := Ar) (n := m) (c := cr) (c2 := cr') (u2 := u') (s2 := s') (wd := wd) (wd2 := wd') hb1v W hr hxm' p2
          have HB2 := fun (W : World) (hr : Rd W 1 Ar m (ints xs)) => before_is (A := Ar') (n := m') (c := cr') (c2 := cr) (u2 := u) (s2 := s) (wd := wd') (wd2 := wd) hb2v W hr hMM p3
          have HR1 := Lib.hid hrow'
          obtain ⟨x0, x1, x2, x3, xl⟩ := four_cells HB.out
          have HO3 := Lib.hid hown
          have j3 : (k' : Int) < (n : Int) := by omega
          have j4 : (0 : Int) ≤ (k' : Int) := by omega
          clear hx' hxm' hnp' hrow' e2 p2 p3 hcc hb1v hb2v hEE hMM hown
          rcases b1v with _ | _
          · rcases b2v with _ | _
            · have HS := Lib.hid (prs_yes (Z := Z) (i := k) (k := k') (by omega) (by rw [HCC.out]; rfl))
              go_wp2
              (refine wp_region_bel (by kernel_rfl) (by kernel_rfl) ?_; (repeat (go_big_quiet_step ((first | (go_at_call_of 46 (#[Value.agg #[Value.int .i64 u, Value.int .i64 s, Value.slice Ar m cr, Value.string wd], Value.agg #[Value.int .i64 u', Value.int .i64 s', Value.slice Ar' m' cr', Value.string wd']] : Array Value); exact calls_bel (HB1 _ (HR1.out.below (below_bel _ _)))) | (go_at_call_of 46 (#[Value.agg #[Value.int .i64 u', Value.int .i64 s', Value.slice Ar' m' cr', Value.string wd'], Value.agg #[Value.int .i64 u, Value.int .i64 s, Value.slice Ar m cr, Value.string wd]] : Array Value); exact calls_bel (HB2 _ (HRK.out _ (bstep hWW (below_bel _ _))))))))); refine wpQuiet_nil ?_; intro w' hw'; have hb := below_of hw'; clear hw'; (try clear cW fW zW); (first | (have bW := bstep bW hb) | (have bW := bstep (bdrew bW) hb) | (have bW := bstep (balloc bW _) hb) | (have bW := bstep (bdrewN bW _) hb) | (have bW := hb)); clear hb; obtain ⟨cW, fW⟩ := bcell bW; have zW := bsize bW)
              have ho4 := own_below HO3.out bW
              have hsz := hWW.size
              have hsz2 := bW.size
              have HB4 := Lib.hid (HB.out.below bW HB.out.lt)
              go_wp2_with (at_builtin; refine wpList_append_own _ rfl (.tmp 46) (.tmp 50) 44 rfl w.heap.size 55 i0 _ 2 16 Try.underlying44 hi0 hz0 hz1 hz2 rfl (by decide) _ _ _ rfl (own_alloc ho4 _) ⟨_, 0, none⟩ 1 1 (prE ((k : Int), (k' : Int))) rfl rfl ?c1 ?c2 ?c3 ?c4 ?c5 ?_)
              case c1 => exact two_new rfl
              case c2 => intro u hu; exact pr_one [_] u (by simpa [prF] using hu)
              case c3 => (unfold maxLen; omega)
              case c4 => omega
              case c5 => (simp; omega)
              intro v' w4 hown4 hgrow _
              have b4 := own_grownBy (own_alloc ho4 _) (balloc (bstep hWW bW) _) hgrow (Nat.le_refl _) (by simp; omega)
              have HB5 := Lib.hid ((HB4.out.alloc _).grown hgrow (own_ne ho4 HB4.out (by decide)))
              go_wp2
              go_roundw
              case rel => exact ⟨k' + 1, .inl (by omega), by omega, by go_num, by rw [HS.out, ← List.append_assoc, prF_append, List.length_append]; simpa [prF] using hown4, HB5, HB5.out.lt, b4⟩
              case measure => simp [intOf]; omega
            · skip
              have HS := Lib.hid (prs_no (Z := Z) (i := k) (k := k') (by rw [HCC.out]; rfl))
              go_wp2
              (refine wp_region_bel (by kernel_rfl) (by kernel_rfl) ?_; (repeat (go_big_quiet_step ((first | (go_at_call_of 46 (#[Value.agg #[Value.int .i64 u, Value.int .i64 s, Value.slice Ar m cr, Value.string wd], Value.agg #[Value.int .i64 u', Value.int .i64 s', Value.slice Ar' m' cr', Value.string wd']] : Array Value); exact calls_bel (HB1 _ (HR1.out.below (below_bel _ _)))) | (go_at_call_of 46 (#[Value.agg #[Value.int .i64 u', Value.int .i64 s', Value.slice Ar' m' cr', Value.string wd'], Value.agg #[Value.int .i64 u, Value.int .i64 s, Value.slice Ar m cr, Value.string wd]] : Array Value); exact calls_bel (HB2 _ (HRK.out _ (bstep hWW (below_bel _ _))))))))); refine wpQuiet_nil ?_; intro w' hw'; have hb := below_of hw'; clear hw'; (try clear cW fW zW); (first | (have bW := bstep bW hb) | (have bW := bstep (bdrew bW) hb) | (have bW := bstep (balloc bW _) hb) | (have bW := bstep (bdrewN bW _) hb) | (have bW := hb)); clear hb; obtain ⟨cW, fW⟩ := bcell bW; have zW := bsize bW)
              go_wp2
              go_roundw
              case rel => exact ⟨k' + 1, .inl (by omega), by omega, by go_num, by rw [HS.out]; exact own_below HO3.out bW, Lib.hid (HB.out.below bW HB.out.lt), Nat.lt_of_lt_of_le hbx (Below.size bW), bstep hWW bW⟩
              case measure => simp [intOf]; omega
          · skip
            have HS := Lib.hid (prs_no (Z := Z) (i := k) (k := k') (by rw [HCC.out]; rfl))
            go_wp2
            (refine wp_region_bel (by kernel_rfl) (by kernel_rfl) ?_; (repeat (go_big_quiet_step ((first | (go_at_call_of 46 (#[Value.agg #[Value.int .i64 u, Value.int .i64 s, Value.slice Ar m cr, Value.string wd], Value.agg #[Value.int .i64 u', Value.int .i64 s', Value.slice Ar' m' cr', Value.string wd']] : Array Value); exact calls_bel (HB1 _ (HR1.out.below (below_bel _ _)))))))); refine wpQuiet_nil ?_; intro w' hw'; have hb := below_of hw'; clear hw'; (try clear cW fW zW); (first | (have bW := bstep bW hb) | (have bW := bstep (bdrew bW) hb) | (have bW := bstep (balloc bW _) hb) | (have bW := bstep (bdrewN bW _) hb) | (have bW := hb)); clear hb; obtain ⟨cW, fW⟩ := bcell bW; have zW := bsize bW)
            go_wp2
            go_roundw
            case rel => exact ⟨k' + 1, .inl (by omega), by omega, by go_num, by rw [HS.out]; exact own_below HO3.out bW, Lib.hid (HB.out.below bW HB.out.lt), Nat.lt_of_lt_of_le hbx (Below.size bW), bstep hWW bW⟩
            case measure => simp [intOf]; omega
        · have hpz : prs Z k k' = prs Z k Z.length := by
            have h3 : k' = n ∨ (k' = k + 1 ∧ n ≤ k + 1) := by omega
            rcases h3 with h3 | ⟨h3, h4⟩
            · rw [h3, hl]
            · have h5 : n = k + 1 := by omega
              rw [h3, hl, h5]
          have hfin := cpA_succ Z k
          rw [hpz, ← hfin] at hown
          have HO3 := Lib.hid hown
          clear hown hpz hfin
          go_wp2
          go_roundw
          case rel => exact ⟨k + 1, by omega, by go_num, HO3.out, hWW⟩
          case measure => simp [intOf]; omega
    · obtain rfl : k = n := by omega
      rw [H1.out] at hown
      have HO := Lib.hid hown
      clear hown
      go_wp2
      go_returns
      exact ⟨_, rfl, HO.out, hW⟩
theorem sConcurrentPairs_is {q : Bool} {L : List PairT} {units : Int} {A : Option Addr} {n c : Nat} {Z : List NoteV} (hq : bookB units Z = q) (hL : cpL units Z = L) (w : World) (hr : RdN w A n Z) (hn : n ≤ 1048576) (hm : ∀ i, i < n → (nAt Z i).2.2.1.length ≤ 1048576 ∧ (nAt Z i).2.2.2.size ≤ maxLen) :
    Calls Try.prog 26 #[.int .i64 units, .slice A n c] w fun e w' => ∃ v, e = .returned (.tuple #[v, .bool q]) ∧ w'.ownsRow w.heap.size 55 2 v L.length (prF L) ∧ Below w.heap.size w w' := by
  have HQ := Lib.hid hq
  have HL := Lib.hid hL
  have hl := hr.1
  have hgood := fun W (hW : Below w.heap.size w W) => l17Good_is (c := c) hq W (hr.below hW) hn hm
  clear hq hL
  obtain ⟨i0, hi0, hz0, hz1, hz2⟩ := infoP
  rcases q with _ | _
  · obtain rfl : L = [] := by rw [← HL.out]; simp [cpL, HQ.out]
    clear hi0 hz0 hz1 hz2
    go_enter Try.func26, Try.ntmps26
    go_wp2_with fail
    refine (hgood _ (by (repeat' (first | (with_reducible exact Below.refl _ _) | (with_reducible assumption) | (with_reducible refine balloc ?_ _) | (with_reducible refine bdrew ?_) | (with_reducible refine bdrewN ?_ _) | (with_reducible refine bstep ?_ (by assumption)) | (with_reducible refine bset ?_ ?_ _) | (exact Below.size (by assumption)) | go_size)))).mono ?_
    rintro e w1 ⟨rfl, b1⟩
    have HO := Lib.hid (own_below (own_lit' (w := w) (t := 55) (k := 2) rfl (Nat.le_refl _)) b1)
    go_wp2
    go_returns
    exact ⟨_, rfl, HO.out, bstep (by (repeat' (first | (with_reducible exact Below.refl _ _) | (with_reducible assumption) | (with_reducible refine balloc ?_ _) | (with_reducible refine bdrew ?_) | (with_reducible refine bdrewN ?_ _) | (with_reducible refine bstep ?_ (by assumption)) | (with_reducible refine bset ?_ ?_ _) | (exact Below.size (by assumption)) | go_size))) b1⟩
  have h1 : cpA Z n = L := by rw [← HL.out]; simp [cpL, HQ.out, hl]
  have hn12 : n ≤ 12 := by have := (bookB_iff.1 HQ.out).2.2; omega
  have H1 := Lib.hid h1
  clear HL h1
  have HV := Lib.hid (fun k (hk : k < n) => book_val HQ.out (k := k) (by omega))
  have HN := Lib.hid (fun i j (hi : i < n) (hj : j < n) => book_ne HQ.out (i := i) (j := j) (by omega) (by omega))
  have HU := Lib.hid (inB_iff.1 (bookB_iff.1 HQ.out).1)
  have HLN := Lib.hid (fun i k => (⟨cpA_len Z i, prs_len Z i k⟩ : (cpA Z i).length ≤ i * Z.length ∧ (prs Z i k).length ≤ k))
  go_enter Try.func26, Try.ntmps26
  go_wp2_with fail
  refine (hgood _ (by (repeat' (first | (with_reducible exact Below.refl _ _) | (with_reducible assumption) | (with_reducible refine balloc ?_ _) | (with_reducible refine bdrew ?_) | (with_reducible refine bdrewN ?_ _) | (with_reducible refine bstep ?_ (by assumption)) | (with_reducible refine bset ?_ ?_ _) | (exact Below.size (by assumption)) | go_size)))).mono ?_
  rintro e w1 ⟨rfl, b1⟩
  clear hgood
  have HO := Lib.hid (own_below (own_lit' (w := w) (t := 55) (k := 2) rfl (Nat.le_refl _)) b1)
  have b2 : Below w.heap.size w w1 := bstep (by (repeat' (first | (with_reducible exact Below.refl _ _) | (with_reducible assumption) | (with_reducible refine balloc ?_ _) | (with_reducible refine bdrew ?_) | (with_reducible refine bdrewN ?_ _) | (with_reducible refine bstep ?_ (by assumption)) | (with_reducible refine bset ?_ ?_ _) | (exact Below.size (by assumption)) | go_size))) b1
  clear b1
  go_wp2_with fail
  go_loopw [6, 7] (fun v i wr => ∃ k : Nat, k ≤ n ∧ i = .int .i64 k ∧ wr.ownsRow w.heap.size 55 2 v (cpA Z k).length (prF (cpA Z k)) ∧ Below w.heap.size w wr) (fun _ i _ => n - (intOf i).toNat)
  case atStart => exact ⟨0, Nat.zero_le _, rfl, by simpa [cpA, prF] using HO.out, b2⟩
  case round =>
    obtain ⟨k, hk, rfl, hown, hW⟩ := hrel
    by_cases hlt : k < n
    · obtain ⟨b, off, u, s, Ar, m, cr, xs, wd, rfl, hbl, hx, hxm, hrow, z0, z1, z2, z3⟩ := hr.at_ (Below.refl w.heap.size w) hlt
      have c0 := (hW.cell (p := ⟨b, off + k * 4, none⟩) hbl).trans z0
      have c1 := (hW.cell (p := ⟨b, off + k * 4 + 1, none⟩) hbl).trans z1
      have c2 := (hW.cell (p := ⟨b, off + k * 4 + 2, none⟩) hbl).trans z2
      have c3 := (hW.cell (p := ⟨b, off + k * 4 + 3, none⟩) hbl).trans z3
      have HRK : Hid (∀ W, Below w.heap.size w W → Rd W 1 Ar m (ints xs)) := Lib.hid fun W hb => hrow.below hb
      have s1 : b < wr.heap.size := Nat.lt_of_lt_of_le hbl hW.size
      have hnp := HV.out k hlt
      rw [hx] at hnp
      obtain ⟨e1, _, ⟨p0, p1⟩, ⟨v0, v1⟩, _, _⟩ := nP_bd hnp
      have HX := Lib.hid hx
      have HE := Lib.hid e1
      have HXM := Lib.hid hxm
      have HO := Lib.hid hown
      have i3 : (k : Int) < (n : Int) := by omega
      have i4 : (0 : Int) ≤ (k : Int) := by omega
      obtain ⟨wo, rfl⟩ : ∃ wo, wo = wr := ⟨_, rfl⟩
      clear hx hrow hnp hown e1 hxm z0 z1 z2 z3
      clear c0 c1 c2 c3
      go_wp2_with fail
      go_loopw [6, 8] (fun v j wr => ∃ k' : Nat, (k' ≤ n ∨ k' = k + 1) ∧ k + 1 ≤ k' ∧ j = .int .i64 (k' : Nat) ∧ wr.ownsRow w.heap.size 55 2 v (cpA Z k ++ prs Z k k').length (prF (cpA Z k ++ prs Z k k')) ∧ Below w.heap.size w wr) (fun _ j _ => n - (intOf j).toNat)
      case atStart => exact ⟨k + 1, .inr rfl, Nat.le_refl _, by go_num, by rw [prs_start, List.append_nil]; exact HO.out, hW⟩
      case round =>
        obtain ⟨k', hk', hkk, rfl, hown, hWW⟩ := hrel
        by_cases hlt' : k' < n
        · obtain ⟨b', off', u', s', Ar', m', cr', xs', wd', hbe, hbl', hx', hxm', hrow', d0, d1, d2, d3⟩ := hr.at_ hWW hlt'
          simp only [Option.some.injEq, Addr.mk.injEq, and_true] at hbe
          obtain ⟨rfl, rfl⟩ := hbe
          have s2 : b < wr.heap.size := Nat.lt_of_lt_of_le hbl hWW.size
          obtain ⟨b1, off1, u1, s1', Ar1, m1, cr1, xs1, wd1, hbe, hbl1, hx1, hxm1, hrow1, c0, c1, c2, c3⟩ := hr.at_ hWW hlt
          simp only [Option.some.injEq, Addr.mk.injEq, and_true] at hbe
          obtain ⟨rfl, rfl⟩ := hbe
          rw [HX.out] at hx1
          simp only [Prod.mk.injEq] at hx1
          obtain ⟨rfl, rfl, rfl, rfl⟩ := hx1
          have hnp' := HV.out k' hlt'
          rw [hx'] at hnp'
          obtain ⟨e2, _, ⟨p0', p1'⟩, ⟨v0', v1'⟩, _, _⟩ := nP_bd hnp'
          have hEE := HE.out
          have hMM := HXM.out
          have p2 : 0 ≤ u ∧ u < (m' : Int) := by omega
          have p3 : 0 ≤ u' ∧ u' < (m : Int) := by omega
          obtain ⟨b1v, hb1v⟩ : ∃ b1v, decide (s ≤ xs'.getD u.toNat 0) = b1v := ⟨_, rfl⟩
          obtain ⟨b2v, hb2v⟩ : ∃ b2v, decide (s' ≤ xs.getD u'.toNat 0) = b2v := ⟨_, rfl⟩
          have hcc : cc Z k k' = (!b1v && !b2v) := by
            unfold cc
            rw [HX.out, hx']
            show (!(decide (s ≤ xs'.getD u.toNat 0)) && !(decide (s' ≤ xs.getD u'.toNat 0))) = _
            rw [hb1v, hb2v]
          have hll : (cpA Z k ++ prs Z k k').length ≤ 1000 := by
            have h8 := HLN.out k k'
            have h9 : k * Z.length ≤ 12 * 12 := Nat.mul_le_mul (by omega) (by omega)
            rw [List.length_append]; omega
          have HCC := Lib.hid hcc
          have hne := HN.out k k' hlt hlt' (by omega)
          rw [HX.out, hx'] at hne
          have hne1 : ¬ (u = u' ∧ s = s') := hne
          have hbd := HU.out
          have o1 : 0 ≤ u ∧ u ≤ 1000 := by omega
          have o2 : 0 ≤ u' ∧ u' ≤ 1000 := by omega
          have o3 : 0 ≤ s ∧ s ≤ 1000 := by omega
          have o4 : 0 ≤ s' ∧ s' ≤ 1000 := by omega
          have q1 : decide ((u - u') * 100 + s - s' = 0) = false := decide_eq_false (by omega)
          have q2 : decide ((u' - u) * 100 + s' - s = 0) = false := decide_eq_false (by omega)
          have HB1 := fun (W : World) (hr : Rd W 1 Ar' m' (ints xs')) => l17Before_is (A := Ar1) (n := m1) (c := cr1) (c2 := cr') (wd := wd) (wd2 := wd') hb1v q1 W hr hxm' p2 o1 o2 o3 o4
          have HB2 := fun (W : World) (hr : Rd W 1 Ar1 m1 (ints xs)) => l17Before_is (A := Ar') (n := m') (c := cr') (c2 := cr1) (wd := wd') (wd2 := wd) hb2v q2 W hr hxm1 (show 0 ≤ u' ∧ u' < (m1 : Int) from by omega) o2 o1 o4 o3
          rw [show (b1v && !false) = b1v from by simp] at HB1
          rw [show (b2v && !false) = b2v from by simp] at HB2
          have HR1 := Lib.hid hrow'
          have HR2 := Lib.hid hrow1
          clear hne hne1 hbd o1 o2 o3 o4 q1 q2 hrow1 hxm1
          have HO3 := Lib.hid hown
          have j3 : (k' : Int) < (n : Int) := by omega
          have j4 : (0 : Int) ≤ (k' : Int) := by omega
          clear hx' hxm' hnp' hrow' e2 p2 p3 hcc hb1v hb2v hEE hMM hown
          rcases b1v with _ | _
          · rcases b2v with _ | _
            · have HS := Lib.hid (prs_yes (Z := Z) (i := k) (k := k') (by omega) (by rw [HCC.out]; rfl))
              go_wp2
              (refine wp_region_bel (by kernel_rfl) (by kernel_rfl) ?_; (repeat (go_big_quiet_step ((first | (go_at_call_of 44 (#[Value.agg #[Value.int .i64 u, Value.int .i64 s, Value.slice Ar1 m1 cr1, Value.string wd], Value.agg #[Value.int .i64 u', Value.int .i64 s', Value.slice Ar' m' cr', Value.string wd']] : Array Value); exact calls_bel (HB1 _ (HR1.out.below (below_bel _ _)))) | (go_at_call_of 44 (#[Value.agg #[Value.int .i64 u', Value.int .i64 s', Value.slice Ar' m' cr', Value.string wd'], Value.agg #[Value.int .i64 u, Value.int .i64 s, Value.slice Ar1 m1 cr1, Value.string wd]] : Array Value); exact calls_bel (HB2 _ (HR2.out.below (below_bel _ _)))))))); refine wpQuiet_nil ?_; intro w' hw'; have hb := below_of hw'; clear hw'; (try clear cW fW zW); (first | (have bW := bstep bW hb) | (have bW := bstep (bdrew bW) hb) | (have bW := bstep (balloc bW _) hb) | (have bW := bstep (bdrewN bW _) hb) | (have bW := hb)); clear hb; obtain ⟨cW, fW⟩ := bcell bW; have zW := bsize bW)
              have ho4 := own_below HO3.out bW
              have hsz := hWW.size
              have hsz2 := bW.size
              go_wp2_with (at_builtin; refine wpList_append_own _ rfl (.tmp 51) (.tmp 55) 44 rfl w.heap.size 55 i0 _ 2 16 Try.underlying44 hi0 hz0 hz1 hz2 rfl (by decide) _ _ _ rfl (own_alloc ho4 _) ⟨_, 0, none⟩ 1 1 (prE ((k : Int), (k' : Int))) rfl rfl ?c1 ?c2 ?c3 ?c4 ?c5 ?_)
              case c1 => exact two_new rfl
              case c2 => intro u hu; exact pr_one [_] u (by simpa [prF] using hu)
              case c3 => (unfold maxLen; omega)
              case c4 => omega
              case c5 => (simp; omega)
              intro v' w4 hown4 hgrow _
              have b4 := own_grownBy (own_alloc ho4 _) (balloc (bstep hWW bW) _) hgrow (Nat.le_refl _) (by simp; omega)
              go_wp2
              go_roundw
              case rel => exact ⟨k' + 1, .inl (by omega), by omega, by go_num, by rw [HS.out, ← List.append_assoc, prF_append, List.length_append]; simpa [prF] using hown4, b4⟩
              case measure => simp [intOf]; omega
            · skip
              have HS := Lib.hid (prs_no (Z := Z) (i := k) (k := k') (by rw [HCC.out]; rfl))
              go_wp2
              (refine wp_region_bel (by kernel_rfl) (by kernel_rfl) ?_; (repeat (go_big_quiet_step ((first | (go_at_call_of 44 (#[Value.agg #[Value.int .i64 u, Value.int .i64 s, Value.slice Ar1 m1 cr1, Value.string wd], Value.agg #[Value.int .i64 u', Value.int .i64 s', Value.slice Ar' m' cr', Value.string wd']] : Array Value); exact calls_bel (HB1 _ (HR1.out.below (below_bel _ _)))) | (go_at_call_of 44 (#[Value.agg #[Value.int .i64 u', Value.int .i64 s', Value.slice Ar' m' cr', Value.string wd'], Value.agg #[Value.int .i64 u, Value.int .i64 s, Value.slice Ar1 m1 cr1, Value.string wd]] : Array Value); exact calls_bel (HB2 _ (HR2.out.below (below_bel _ _)))))))); refine wpQuiet_nil ?_; intro w' hw'; have hb := below_of hw'; clear hw'; (try clear cW fW zW); (first | (have bW := bstep bW hb) | (have bW := bstep (bdrew bW) hb) | (have bW := bstep (balloc bW _) hb) | (have bW := bstep (bdrewN bW _) hb) | (have bW := hb)); clear hb; obtain ⟨cW, fW⟩ := bcell bW; have zW := bsize bW)
              go_wp2
              go_roundw
              case rel => exact ⟨k' + 1, .inl (by omega), by omega, by go_num, by rw [HS.out]; exact own_below HO3.out bW, bstep hWW bW⟩
              case measure => simp [intOf]; omega
          · skip
            have HS := Lib.hid (prs_no (Z := Z) (i := k) (k := k') (by rw [HCC.out]; rfl))
            go_wp2
            (refine wp_region_bel (by kernel_rfl) (by kernel_rfl) ?_; (repeat (go_big_quiet_step ((first | (go_at_call_of 44 (#[Value.agg #[Value.int .i64 u, Value.int .i64 s, Value.slice Ar1 m1 cr1, Value.string wd], Value.agg #[Value.int .i64 u', Value.int .i64 s', Value.slice Ar' m' cr', Value.string wd']] : Array Value); exact calls_bel (HB1 _ (HR1.out.below (below_bel _ _)))))))); refine wpQuiet_nil ?_; intro w' hw'; have hb := below_of hw'; clear hw'; (try clear cW fW zW); (first | (have bW := bstep bW hb) | (have bW := bstep (bdrew bW) hb) | (have bW := bstep (balloc bW _) hb) | (have bW := bstep (bdrewN bW _) hb) | (have bW := hb)); clear hb; obtain ⟨cW, fW⟩ := bcell bW; have zW := bsize bW)
            go_wp2
            go_roundw
            case rel => exact ⟨k' + 1, .inl (by omega), by omega, by go_num, by rw [HS.out]; exact own_below HO3.out bW, bstep hWW bW⟩
            case measure => simp [intOf]; omega
        · have hpz : prs Z k k' = prs Z k Z.length := by
            have h3 : k' = n ∨ (k' = k + 1 ∧ n ≤ k + 1) := by omega
            rcases h3 with h3 | ⟨h3, h4⟩
            · rw [h3, hl]
            · have h5 : n = k + 1 := by omega
              rw [h3, hl, h5]
          have hfin := cpA_succ Z k
          rw [hpz, ← hfin] at hown
          have HO3 := Lib.hid hown
          clear hown hpz hfin
          go_wp2
          go_roundw
          case rel => exact ⟨k + 1, by omega, by go_num, HO3.out, hWW⟩
          case measure => simp [intOf]; omega
    · obtain rfl : k = n := by omega
      rw [H1.out] at hown
      have HO := Lib.hid hown
      clear hown
      go_wp2
      go_returns
      exact ⟨_, rfl, HO.out, hW⟩
end Go.Proofs.Ythgabapegpndnaa
