/-
  (*strings.byteStringReplacer).Replace at the table of three bytes that are taken out. Conditions: the text's length.
-/
import Derived.Test.YtcebbmikgpipeaaGreatDoorRA
import Derived.Test.YtcebbmikgpipeaaGreatDoorSI
import Derived.Test.YtcebbmikgpipeaaGreatDoorPL
import Derived.Test.YtcebbmikgpipeaaGreatDoorQT
import Derived.Laws.IdiomStrings
namespace Go.Proofs.YtcebbmikgpipeaaGreatDoor
open Go Go.RowKit
set_option maxRecDepth 100000
set_option maxHeartbeats 8000000

/-- a byte that is taken out -/
def out3 (b : UInt8) : Bool := b == 58 || (b == 44 || b == 46)
/-- a text without those bytes -/
def dr3 (l : List UInt8) : List UInt8 := l.filter (fun x => !out3 x)
/-- how many bytes are taken out -/
def nOut (l : List UInt8) : Nat := l.countP out3
theorem nOut_len (l : List UInt8) : (dr3 l).length + nOut l = l.length := by
  induction l with
  | nil => rfl
  | cons x xs ih =>
    unfold dr3 nOut at ih ⊢
    rw [List.countP_cons, List.filter_cons]
    rcases h : out3 x with _ | _ <;> simp <;> omega
theorem nOut_three (l : List UInt8) : nOut l = l.count 46 + l.count 44 + l.count 58 := by
  induction l with
  | nil => rfl
  | cons x xs ih =>
    unfold nOut at ih ⊢
    rw [List.countP_cons, List.count_cons, List.count_cons, List.count_cons, ih]
    by_cases h1 : x = 46
    · subst h1; simp [out3]; omega
    · by_cases h2 : x = 44
      · subst h2; simp [out3]; omega
      · by_cases h3 : x = 58
        · subst h3; simp [out3]; omega
        · simp [out3, h1, h2, h3]
theorem dr3_none {l : List UInt8} (h : nOut l = 0) : dr3 l = l := by
  unfold dr3
  rw [List.filter_eq_self]
  intro x hx
  have h2 : ¬ out3 x = true := fun e => by
    have := List.countP_pos_iff (p := out3) (l := l) |>.2 ⟨x, hx, e⟩
    unfold nOut at h; omega
  simpa using h2
/-- the bytes of three, in the order in which the table lists them -/
def c3 (l : List UInt8) : Nat → Nat
  | 0 => 0
  | 1 => l.count 46
  | 2 => l.count 46 + l.count 44
  | _ => l.count 46 + l.count 44 + l.count 58
theorem tab_yes {C : List Value} {v : Value} (hT : TabP C v [58, 44, 46]) {b : UInt8} (h : out3 b = true) : ∃ a c, C[b.toNat]? = some (.slice (some a) 0 c) := by
  refine hT.yes _ ?_
  simp only [out3, Bool.or_eq_true, beq_iff_eq] at h
  rcases h with rfl | rfl | rfl <;> decide
theorem tab_no {C : List Value} {v : Value} (hT : TabP C v [58, 44, 46]) {b : UInt8} (h : out3 b = false) : C[b.toNat]? = some (.slice none 0 0) := by
  refine hT.no _ (UInt8.toNat_lt b) ?_
  simp only [out3, Bool.or_eq_false_iff, beq_eq_false_iff_ne] at h
  obtain ⟨h1, h2, h3⟩ := h
  simp only [List.mem_cons, List.not_mem_nil, or_false, not_or]
  exact ⟨fun e => h1 (UInt8.toNat_inj.1 e), fun e => h2 (UInt8.toNat_inj.1 e), fun e => h3 (UInt8.toNat_inj.1 e)⟩
/-- bytes as cells -/
def u8s (l : List UInt8) : List Value := l.map (fun b => .int .u8 (b.toNat : Int))
theorem u8_put (D : List UInt8) (b : UInt8) {N : Nat} (h : D.length + 1 ≤ N) : (u8s D ++ List.replicate (N - D.length) (Value.int .u8 0)).set D.length (.int .u8 (b.toNat : Int)) = u8s (D ++ [b]) ++ List.replicate (N - (D ++ [b]).length) (.int .u8 0) := by
  obtain ⟨m, hm⟩ : ∃ m, N - D.length = m + 1 := ⟨N - D.length - 1, by omega⟩
  have h2 : N - (D ++ [b]).length = m := by simp; omega
  rw [hm, h2, List.replicate_succ, List.set_append_right _ _ (by simp [u8s])]
  simp [u8s]
theorem bsReplace_is {s : ByteArray} {gb lo : Nat} (hs : s.size ≤ 1048576) (w : World) (hB : RepB w gb lo) : Calls Tryz.prog 153 #[.pointer (some ⟨gb, 0, none⟩), .string s] w fun e w' => e = .returned (.string (mkB (dr3 s.data.toList))) ∧ Below w.heap.size w w' := by
  obtain ⟨C, b, off, p, kB, hT, hR, _, _⟩ := hB
  have HC := Lib.hid (fun (c : UInt8) (W : World) => Any.strings_Count_one { splitLays with } s c W)
  have HR := Lib.hid hR
  have tL : w.cell? ⟨gb, 256, none⟩ = some (.slice (some ⟨b, off, none⟩) 3 p) := by rw [kB.cell]; exact hT.last
  have hcl : s.data.toList.length = s.size := by simp
  clear hR
  go_enter Tryz.func153, Tryz.ntmps153
  go_upto_if 26 with fail
  go_cut [5, 6, 8, 9, 10, 11] (fun s5 s6 s8 s9 s10 s11 wx => s5 = .int .i64 ((dr3 s.data.toList).length : Int) ∧ s6 = .bool (decide (nOut s.data.toList ≠ 0)) ∧ Below w.heap.size w wx)
  case first =>
    by_cases h24 : 24 ≤ s.size
    · have i24 : (24 : Int) ≤ (s.size : Int) := by omega
      have e24 : decide ((24 : Int) ≤ (s.size : Int)) = true := decide_eq_true i24
      rw [e24]
      go_upto_region 5 with fail
      go_loopw [5, 6, 8, 9, 32] (fun n ch _ _ i wr => ∃ k : Nat, k ≤ 3 ∧ i = .int .i64 k ∧ n = .int .i64 ((s.size : Int) - (c3 s.data.toList k : Int)) ∧ ch = .bool (decide (c3 s.data.toList k ≠ 0)) ∧ Below w.heap.size w wr) (fun _ _ _ _ i _ => 3 - (intOf i).toNat)
      case atStart => exact ⟨0, by omega, rfl, by simp [c3], by simp [c3], Below.refl _ _⟩
      case round =>
        obtain ⟨k, hk, rfl, rfl, rfl, bW⟩ := hrel
        have kW := kB.below bW kB.lt
        have lW := kW.lt
        obtain ⟨_, _, he, lbW, hcW⟩ := (HR.out.below bW).2 (by decide)
        simp only [Option.some.injEq, Addr.mk.injEq, and_true] at he
        obtain ⟨rfl, rfl⟩ := he
        rcases (by omega : k = 0 ∨ k = 1 ∨ k = 2 ∨ k = 3) with rfl | rfl | rfl | rfl
        · have d0 := hcW 0 (.string ⟨#[46]⟩) rfl
          (try simp only [Nat.add_zero] at d0)
          obtain ⟨n, hn⟩ : ∃ n, Lib.countByte s.data.toList 46 = n := ⟨_, rfl⟩
          have HCc := Lib.hid (fun W => hn ▸ HC.out 46 W)
          have hstep : c3 s.data.toList (0 + 1) = c3 s.data.toList 0 + n := by rw [← hn]; simp [c3, Lib.countByte]
          have hle : c3 s.data.toList 0 + n ≤ s.size := by
            rw [← hstep, ← hcl]
            have h1 := nOut_three s.data.toList
            have h2 := nOut_len s.data.toList
            simp only [c3]; omega
          obtain ⟨m, hm⟩ : ∃ m, c3 s.data.toList 0 = m := ⟨_, rfl⟩
          rw [hm] at hstep hle ⊢
          have HST := Lib.hid hstep
          obtain ⟨at0, ac, hat⟩ := hT.yes 46 (by decide)
          have tB : wr.cell? ⟨gb, 46, none⟩ = some (.slice (some at0) 0 ac) := by rw [kW.cell]; exact hat
          have eB : (({ data := #[46] } : ByteArray)[0]'(by decide)).toNat = 46 := rfl
          clear hn hm hstep hat hcW
          by_cases h0 : n = 0
          · have j0 : ((n : Int) != 0) = false := by subst h0; rfl
            go_wp2_with (go_at_call 47; refine (HCc.out _).mono ?_; rintro e w1 ⟨rfl, rfl⟩)
            go_roundw
            case rel => exact ⟨0 + 1, by omega, rfl, by rw [HST.out, h0]; rfl, by rw [HST.out, h0]; simp, bW⟩
            case measure => simp [intOf]
          · have j0 : ((n : Int) != 0) = true := by simpa using h0
            go_upto_region 9 with (go_at_call 47; refine (HCc.out _).mono ?_; rintro e w1 ⟨rfl, rfl⟩)
            (refine wp_region_bel (by kernel_rfl) (by kernel_rfl) ?_; (repeat (go_big_quiet_step ((first | fail)))); refine wpQuiet_nil ?_; intro w' hw'; have hb := below_of hw'; clear hw'; (try clear cW fW zW); (first | (have bW := bstep bW hb) | (have bW := bstep (bdrew bW) hb) | (have bW := bstep (balloc bW _) hb) | (have bW := bstep (bdrewN bW _) hb) | (have bW := hb)); clear hb; obtain ⟨cW, fW⟩ := bcell bW; have zW := bsize bW)
            go_wp2
            go_roundw
            case rel => exact ⟨0 + 1, by omega, rfl, by rw [HST.out]; congr 1; omega, by rw [HST.out, decide_eq_true (by omega)], bW⟩
            case measure => simp [intOf]
        · have d0 := hcW 1 (.string ⟨#[44]⟩) rfl
          (try simp only [Nat.add_zero] at d0)
          obtain ⟨n, hn⟩ : ∃ n, Lib.countByte s.data.toList 44 = n := ⟨_, rfl⟩
          have HCc := Lib.hid (fun W => hn ▸ HC.out 44 W)
          have hstep : c3 s.data.toList (1 + 1) = c3 s.data.toList 1 + n := by rw [← hn]; simp [c3, Lib.countByte]
          have hle : c3 s.data.toList 1 + n ≤ s.size := by
            rw [← hstep, ← hcl]
            have h1 := nOut_three s.data.toList
            have h2 := nOut_len s.data.toList
            simp only [c3]; omega
          obtain ⟨m, hm⟩ : ∃ m, c3 s.data.toList 1 = m := ⟨_, rfl⟩
          rw [hm] at hstep hle ⊢
          have HST := Lib.hid hstep
          obtain ⟨at0, ac, hat⟩ := hT.yes 44 (by decide)
          have tB : wr.cell? ⟨gb, 44, none⟩ = some (.slice (some at0) 0 ac) := by rw [kW.cell]; exact hat
          have eB : (({ data := #[44] } : ByteArray)[0]'(by decide)).toNat = 44 := rfl
          clear hn hm hstep hat hcW
          by_cases h0 : n = 0
          · have j0 : ((n : Int) != 0) = false := by subst h0; rfl
            go_wp2_with (go_at_call 47; refine (HCc.out _).mono ?_; rintro e w1 ⟨rfl, rfl⟩)
            go_roundw
            case rel => exact ⟨1 + 1, by omega, rfl, by rw [HST.out, h0]; rfl, by rw [HST.out, h0]; simp, bW⟩
            case measure => simp [intOf]
          · have j0 : ((n : Int) != 0) = true := by simpa using h0
            go_upto_region 9 with (go_at_call 47; refine (HCc.out _).mono ?_; rintro e w1 ⟨rfl, rfl⟩)
            (refine wp_region_bel (by kernel_rfl) (by kernel_rfl) ?_; (repeat (go_big_quiet_step ((first | fail)))); refine wpQuiet_nil ?_; intro w' hw'; have hb := below_of hw'; clear hw'; (try clear cW fW zW); (first | (have bW := bstep bW hb) | (have bW := bstep (bdrew bW) hb) | (have bW := bstep (balloc bW _) hb) | (have bW := bstep (bdrewN bW _) hb) | (have bW := hb)); clear hb; obtain ⟨cW, fW⟩ := bcell bW; have zW := bsize bW)
            go_wp2
            go_roundw
            case rel => exact ⟨1 + 1, by omega, rfl, by rw [HST.out]; congr 1; omega, by rw [HST.out, decide_eq_true (by omega)], bW⟩
            case measure => simp [intOf]
        · have d0 := hcW 2 (.string ⟨#[58]⟩) rfl
          (try simp only [Nat.add_zero] at d0)
          obtain ⟨n, hn⟩ : ∃ n, Lib.countByte s.data.toList 58 = n := ⟨_, rfl⟩
          have HCc := Lib.hid (fun W => hn ▸ HC.out 58 W)
          have hstep : c3 s.data.toList (2 + 1) = c3 s.data.toList 2 + n := by rw [← hn]; simp [c3, Lib.countByte]
          have hle : c3 s.data.toList 2 + n ≤ s.size := by
            rw [← hstep, ← hcl]
            have h1 := nOut_three s.data.toList
            have h2 := nOut_len s.data.toList
            simp only [c3]; omega
          obtain ⟨m, hm⟩ : ∃ m, c3 s.data.toList 2 = m := ⟨_, rfl⟩
          rw [hm] at hstep hle ⊢
          have HST := Lib.hid hstep
          obtain ⟨at0, ac, hat⟩ := hT.yes 58 (by decide)
          have tB : wr.cell? ⟨gb, 58, none⟩ = some (.slice (some at0) 0 ac) := by rw [kW.cell]; exact hat
          have eB : (({ data := #[58] } : ByteArray)[0]'(by decide)).toNat = 58 := rfl
          clear hn hm hstep hat hcW
          by_cases h0 : n = 0
          · have j0 : ((n : Int) != 0) = false := by subst h0; rfl
            go_wp2_with (go_at_call 47; refine (HCc.out _).mono ?_; rintro e w1 ⟨rfl, rfl⟩)
            go_roundw
            case rel => exact ⟨2 + 1, by omega, rfl, by rw [HST.out, h0]; rfl, by rw [HST.out, h0]; simp, bW⟩
            case measure => simp [intOf]
          · have j0 : ((n : Int) != 0) = true := by simpa using h0
            go_upto_region 9 with (go_at_call 47; refine (HCc.out _).mono ?_; rintro e w1 ⟨rfl, rfl⟩)
            (refine wp_region_bel (by kernel_rfl) (by kernel_rfl) ?_; (repeat (go_big_quiet_step ((first | fail)))); refine wpQuiet_nil ?_; intro w' hw'; have hb := below_of hw'; clear hw'; (try clear cW fW zW); (first | (have bW := bstep bW hb) | (have bW := bstep (bdrew bW) hb) | (have bW := bstep (balloc bW _) hb) | (have bW := bstep (bdrewN bW _) hb) | (have bW := hb)); clear hb; obtain ⟨cW, fW⟩ := bcell bW; have zW := bsize bW)
            go_wp2
            go_roundw
            case rel => exact ⟨2 + 1, by omega, rfl, by rw [HST.out]; congr 1; omega, by rw [HST.out, decide_eq_true (by omega)], bW⟩
            case measure => simp [intOf]
        · have h1 := nOut_three s.data.toList
          have h2 := nOut_len s.data.toList
          have h3 : c3 s.data.toList 3 = nOut s.data.toList := h1.symm
          rw [h3]
          go_wp2
          go_meet
          exact ⟨by congr 1; omega, by simp, bW⟩
    · have i24 : ¬ (24 : Int) ≤ (s.size : Int) := by omega
      have e24 : decide ((24 : Int) ≤ (s.size : Int)) = false := decide_eq_false i24
      rw [e24]
      go_upto_region 13 with fail
      go_loopw [5, 6, 10, 11] (fun n ch i _ wr => ∃ k : Nat, k ≤ s.size ∧ i = .int .i64 k ∧ n = .int .i64 ((s.size : Int) - (nOut (s.data.toList.take k) : Int)) ∧ ch = .bool (decide (nOut (s.data.toList.take k) ≠ 0)) ∧ Below w.heap.size w wr) (fun _ _ i _ _ => s.size - (intOf i).toNat)
      case atStart => exact ⟨0, by omega, rfl, by simp [nOut], by simp [nOut], Below.refl _ _⟩
      case round =>
        obtain ⟨k, hk, rfl, rfl, rfl, bW⟩ := hrel
        have kW := kB.below bW kB.lt
        have lW := kW.lt
        by_cases hlt : k < s.size
        · have i1 : (k : Int) < (s.size : Int) := by omega
          have i2 : (0 : Int) ≤ (k : Int) := by omega
          have hst : nOut (s.data.toList.take (k + 1)) = nOut (s.data.toList.take k) + (if out3 s[k] = true then 1 else 0) := by
            rw [List.take_succ_eq_append_getElem (by simpa using hlt), byte_at hlt]
            unfold nOut
            rw [List.countP_append, List.countP_singleton]
          have hle : nOut (s.data.toList.take k) ≤ k := by
            have := List.countP_le_length (p := out3) (l := s.data.toList.take k)
            unfold nOut; simp at this; omega
          obtain ⟨m, hm⟩ : ∃ m, nOut (s.data.toList.take k) = m := ⟨_, rfl⟩
          rw [hm] at hst hle ⊢
          rcases ho : out3 s[k] with _ | _
          · have tB : wr.cell? ⟨gb, s[k].toNat, none⟩ = some (.slice none 0 0) := by rw [kW.cell]; exact tab_no hT ho
            rw [ho] at hst
            have HST := Lib.hid hst
            have l256 := UInt8.toNat_lt s[k]
            have l257 : (s[k].toNat : Int) < 256 := by omega
            clear hst hm ho
            go_wp2
            go_roundw
            case rel => exact ⟨k + 1, by omega, by go_num, by rw [HST.out]; rfl, by rw [HST.out]; simp, bW⟩
            case measure => simp [intOf]; omega
          · obtain ⟨at0, ac, hat⟩ := tab_yes hT ho
            have tB : wr.cell? ⟨gb, s[k].toNat, none⟩ = some (.slice (some at0) 0 ac) := by rw [kW.cell]; exact hat
            rw [ho] at hst
            have HST := Lib.hid hst
            have l256 := UInt8.toNat_lt s[k]
            have l257 : (s[k].toNat : Int) < 256 := by omega
            clear hst hm ho hat
            go_wp2
            go_roundw
            case rel => exact ⟨k + 1, by omega, by go_num, by rw [HST.out]; congr 1; simp; omega, by rw [HST.out]; simp, bW⟩
            case measure => simp [intOf]; omega
        · obtain rfl : k = s.size := by omega
          have i1 : ¬ (s.size : Int) < (s.size : Int) := by omega
          have h2 := nOut_len s.data.toList
          have e1 : s.data.toList.take s.size = s.data.toList := List.take_of_length_le (by omega)
          rw [e1]
          go_wp2
          go_meet
          exact ⟨by congr 1; omega, by simp, bW⟩
  case rest =>
    obtain ⟨rfl, rfl, bW⟩ := hcut
    by_cases h0 : nOut s.data.toList = 0
    · have e0 : decide (nOut s.data.toList ≠ 0) = false := by simp [h0]
      have e1 := dr3_none h0
      rw [e0, e1]
      go_wp2
      go_returns
      exact ⟨by rw [e1, mkB_list]; rfl, bW⟩
    have e0 : decide (nOut s.data.toList ≠ 0) = true := by simp [h0]
    have hN := nOut_len s.data.toList
    rw [e0]
    obtain ⟨L, hL⟩ : ∃ L, dr3 s.data.toList = L := ⟨_, rfl⟩
    rw [hL] at hN ⊢
    obtain ⟨N, hNN⟩ : ∃ N, L.length = N := ⟨_, rfl⟩
    rw [hNN]
    have hmk : ∀ W : World, (Instr.makeSlice 28 (.int .i64 (N : Int)) (.int .i64 (N : Int))).run Tryz.prog W = .ok (.slice (some ⟨W.heap.size, 0, none⟩) N N) (W.alloc (.cells (List.replicate N (Value.int .u8 0)).toArray 5)) := fun W => by
      obtain ⟨i0, hi0, hz0, hz1, hz2⟩ := info_parts (show (Tryz.prog.info? 5).map (fun i => (i.zero, i.size, i.bytes)) = some (some (.int .u8 0), 1, 1) from by kernel_rfl)
      have h := run_make (P := Tryz.prog) W 28 5 i0 (.int .u8 0) Tryz.underlying28 hi0 hz0 .i64 .i64 N N (by omega) (by omega) (by rw [hz2]; omega) (by omega)
      rw [hz1] at h
      simpa [Value.cells, madeCells_one] using h
    have HMK := hmk
    clear hmk
    have HLL := Lib.hid hL
    have HNL := Lib.hid hNN
    have hN2 : N ≤ s.size := by omega
    clear hL hNN hN e0 h0
    go_upto_region 24 with fail
    obtain ⟨gz, hgz⟩ : ∃ g, wc.heap.size = g := ⟨_, rfl⟩
    refine wp_gen (fun W => Below w.heap.size w W ∧ Bk W gz 5 (List.replicate N (.int .u8 0)) ∧ wc.heap.size ≤ gz) ⟨by (repeat' (first | (with_reducible exact Below.refl _ _) | (with_reducible assumption) | (with_reducible refine balloc ?_ _) | (with_reducible refine bdrew ?_) | (with_reducible refine bdrewN ?_ _) | (with_reducible refine bstep ?_ (by assumption)) | (with_reducible refine bset ?_ ?_ _) | (exact Below.size (by assumption)) | go_size)), by rw [← hgz]; exact (Bk.new _ _ _).cast (by simp), by omega⟩ ?_
    (try rw [hgz])
    have hwz : w.heap.size ≤ gz := by have := bW.size; omega
    have hbz : gb < gz := by have := (kB.below bW kB.lt).lt; omega
    clear hgz bW HMK
    intro W1 ⟨bW, kZ, _⟩
    go_loopw [13, 14, 15] (fun j i _ wr => ∃ k : Nat, k ≤ s.size ∧ i = .int .i64 k ∧ j = .int .i64 ((dr3 (s.data.toList.take k)).length : Int) ∧ Bk wr gz 5 (u8s (dr3 (s.data.toList.take k)) ++ List.replicate (N - (dr3 (s.data.toList.take k)).length) (.int .u8 0)) ∧ Below w.heap.size w wr) (fun _ i _ _ => s.size - (intOf i).toNat)
    case atStart => exact ⟨0, by omega, rfl, rfl, by simpa [dr3, u8s] using kZ, bW⟩
    case round =>
      obtain ⟨k, hk, rfl, rfl, kZ, bW⟩ := hrel
      have kW := kB.below bW kB.lt
      have lW := kW.lt
      by_cases hlt : k < s.size
      · have i1 : (k : Int) < (s.size : Int) := by omega
        have i2 : (0 : Int) ≤ (k : Int) := by omega
        have hst : dr3 (s.data.toList.take (k + 1)) = dr3 (s.data.toList.take k) ++ (if out3 s[k] = true then [] else [s[k]]) := by
          rw [List.take_succ_eq_append_getElem (by simpa using hlt), byte_at hlt]
          unfold dr3
          rw [List.filter_append]
          rcases ho : out3 s[k] with _ | _ <;> simp [List.filter, ho]
        have hle : (dr3 (s.data.toList.take (k + 1))).length ≤ N := by
          rw [← HNL.out, ← HLL.out]
          conv => rhs; rw [← List.take_append_drop (k + 1) s.data.toList]
          unfold dr3
          rw [List.filter_append, List.length_append]; omega
        obtain ⟨D, hD⟩ : ∃ D, dr3 (s.data.toList.take k) = D := ⟨_, rfl⟩
        rw [hD] at hst kZ ⊢
        rw [hst] at hle
        have HZ := Lib.hid kZ
        have lZ := kZ.lt
        have l256 := UInt8.toNat_lt s[k]
        have l257 : (s[k].toNat : Int) < 256 := by omega
        rcases ho : out3 s[k] with _ | _
        · have tB : wr.cell? ⟨gb, s[k].toNat, none⟩ = some (.slice none 0 0) := by rw [kW.cell]; exact tab_no hT ho
          rw [ho] at hst hle
          have hst : dr3 (s.data.toList.take (k + 1)) = D ++ [s[k]] := hst
          have hle : D.length + 1 ≤ N := by simpa using hle
          have HST := Lib.hid hst
          have zc : wr.cell? ⟨gz, D.length, none⟩ = some (.int .u8 0) := by
            rw [kZ.cell, List.getElem?_append_right (by simp [u8s])]
            simp [u8s, List.getElem?_replicate]; omega
          have zf := kZ.frozen D.length
          have j1 : (0 : Int) ≤ (D.length : Int) := by omega
          have j2 : (D.length : Int) < (N : Int) := by omega
          clear hst hD ho kZ
          go_wp2
          go_roundw
          case rel => exact ⟨k + 1, by omega, by go_num, by rw [HST.out]; simp, by
            have h := HZ.out.set_ D.length (.int .u8 (s[k].toNat : Int))
            rw [HST.out]
            exact h.cast (u8_put D s[k] hle), bset bW hwz _⟩
          case measure => simp [intOf]; omega
        · obtain ⟨at0, ac, hat⟩ := tab_yes hT ho
          have tB : wr.cell? ⟨gb, s[k].toNat, none⟩ = some (.slice (some at0) 0 ac) := by rw [kW.cell]; exact hat
          rw [ho] at hst hle
          have hst : dr3 (s.data.toList.take (k + 1)) = D := by simpa using hst
          have hle : D.length ≤ N := by simpa using hle
          have HST := Lib.hid hst
          have j1 : (0 : Int) ≤ (D.length : Int) := by omega
          have j2 : ¬ (N : Int) < (D.length : Int) := by omega
          have hcp := fun (W : World) (ty : TypeId) (d : Option Addr) (dl dc : Nat) => run_copy_none (P := Tryz.prog) W 28 28 ty 5 d (some at0) dl dc 0 ac Tryz.underlying28 (by kernel_rfl) (by simp)
          clear hst hD ho hat kZ
          go_upto_region 28 with fail
          have bV := bW
          clear bW
          (refine wp_region_bel (by kernel_rfl) (by kernel_rfl) ?_; (repeat (go_big_quiet_step ((first | fail)))); refine wpQuiet_nil ?_; intro w' hw'; have hb := below_of hw'; clear hw'; (try clear cW fW zW); (first | (have bW := bstep bW hb) | (have bW := bstep (bdrew bW) hb) | (have bW := bstep (balloc bW _) hb) | (have bW := bstep (bdrewN bW _) hb) | (have bW := hb)); clear hb; obtain ⟨cW, fW⟩ := bcell bW; have zW := bsize bW)
          go_wp2
          go_roundw
          case rel => exact ⟨k + 1, by omega, by go_num, by rw [HST.out], by rw [HST.out]; exact HZ.out.below bW lZ, bstep bV bW⟩
          case measure => simp [intOf]; omega
      · obtain rfl : k = s.size := by omega
        have i1 : ¬ (s.size : Int) < (s.size : Int) := by omega
        have e1 : s.data.toList.take s.size = s.data.toList := List.take_of_length_le (by omega)
        rw [e1, HLL.out, HNL.out, Nat.sub_self, List.replicate_zero, List.append_nil] at kZ
        rw [e1, HLL.out, HNL.out]
        have hcv : (convert 28 9 (.slice (some ⟨gz, 0, none⟩) N N)).run Tryz.prog wr = .ok (.string ⟨L.toArray⟩) wr := by
          have h := run_convert_bytes_back (P := Tryz.prog) wr 28 9 5 ⟨gz, 0, none⟩ N L Tryz.underlying28 Tryz.underlying5 Tryz.underlying9 (fun j hj => by
            have := kZ.cell j
            rw [show (u8s L)[j]? = some (.int .u8 (L[j].toNat : Int)) by simp [u8s, hj]] at this
            have e : (⟨gz, 0, none⟩ : Addr).add j = ⟨gz, j, none⟩ := by unfold Addr.add; split <;> simp_all
            rw [e]; exact this)
          rwa [HNL.out] at h
        go_wp2
        go_returns
        exact ⟨by rw [HLL.out]; rfl, bW⟩
end Go.Proofs.YtcebbmikgpipeaaGreatDoor
