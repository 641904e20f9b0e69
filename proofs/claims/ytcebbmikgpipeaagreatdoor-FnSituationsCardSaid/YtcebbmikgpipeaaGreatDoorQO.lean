/-
  The text of a situation is the text of one situation. Conditions: those that stand in each statement.
-/
import Derived.Test.YtcebbmikgpipeaaGreatDoorPM
import Derived.Test.YtcebbmikgpipeaaGreatDoorPN
import Derived.Test.YtcebbmikgpipeaaGreatDoorST
import Derived.Test.YtcebbmikgpipeaaGreatDoorRD
namespace Go.Proofs.YtcebbmikgpipeaaGreatDoor
open Go Go.RowKit
set_option maxRecDepth 100000
set_option maxHeartbeats 4000000

/-- words of a text are no longer than the text -/
theorem splitL_mem (c : UInt8) : ∀ (l : List UInt8), ∀ x ∈ splitL c l, x.length ≤ l.length
  | [], x, hx => by simp [splitL] at hx; subst hx; simp
  | y :: ys, x, hx => by
    have ih := splitL_mem c ys
    unfold splitL at hx
    by_cases h : y = c
    · rw [if_pos h] at hx
      rcases List.mem_cons.1 hx with rfl | hx
      · simp
      · have := ih x hx; simp; omega
    · rw [if_neg h] at hx
      rcases List.mem_cons.1 hx with rfl | hx
      · cases hs : splitL c ys with
        | nil => simp
        | cons z zs => have := ih z (by rw [hs]; exact List.mem_cons_self); simp; exact this
      · have := ih x (List.mem_of_mem_tail hx); simp; omega
theorem spB_mem {c : UInt8} {s x : ByteArray} (h : x ∈ spB c s) : x.size ≤ s.size := by
  unfold spB at h
  obtain ⟨l, hl, rfl⟩ := List.mem_map.1 h
  have h2 := splitL_mem c _ l hl
  show l.toArray.size ≤ s.data.size
  rw [List.size_toArray]
  rw [Array.length_toList] at h2
  exact h2
/-- words with blanks between them -/
def joinL : List (List UInt8) → List UInt8
  | [] => []
  | [w] => w
  | w :: v :: ws => w ++ 32 :: joinL (v :: ws)
theorem split_join : ∀ (ws : List (List UInt8)), ws ≠ [] → (∀ w ∈ ws, ∀ x ∈ w, x ≠ 32) → splitL 32 (joinL ws) = ws
  | [], h, _ => absurd rfl h
  | [w], _, h => splitL_none (h w List.mem_cons_self)
  | w :: v :: ws, _, h => by
    rw [joinL, splitL_app _ (h w List.mem_cons_self), split_join (v :: ws) (by simp) (fun u hu => h u (List.mem_cons_of_mem _ hu))]
theorem dr3_app (a b : List UInt8) : dr3 (a ++ b) = dr3 a ++ dr3 b := List.filter_append ..
theorem dr3_join : ∀ (ws : List (List UInt8)), dr3 (joinL ws) = joinL (ws.map dr3)
  | [] => rfl
  | [w] => rfl
  | w :: v :: ws => by
    rw [joinL, show w ++ 32 :: joinL (v :: ws) = w ++ ([32] ++ joinL (v :: ws)) by simp, dr3_app, dr3_app, dr3_join (v :: ws), show dr3 [32] = [32] by decide]
    simp [joinL]
theorem dr3_id {l : List UInt8} (h : ∀ x ∈ l, out3 x = false) : dr3 l = l := List.filter_eq_self.2 (fun x hx => by simp [h x hx])
theorem dg_out {l : List UInt8} (h : Dg l) : dr3 l = l := dr3_id (fun x hx => by
  obtain ⟨h1, h2⟩ := h.2 x hx
  have h1 : 48 ≤ x.toNat := h1
  have h2 : x.toNat ≤ 57 := h2
  simp only [out3, Bool.or_eq_false_iff, beq_eq_false_iff_ne]
  refine ⟨fun e => ?_, fun e => ?_, fun e => ?_⟩ <;> (subst e; revert h1 h2; decide))
def wRep : List UInt8 := [82, 101, 112, 111, 114, 116]
def wAt : List UInt8 := [97, 116]
def wHec (n : Nat) : List UInt8 := if n = 1 then [104, 101, 99, 116, 97, 114, 101] else [104, 101, 99, 116, 97, 114, 101, 115]
def wPc : List UInt8 := [112, 101, 114, 99, 101, 110, 116]
def wCon : List UInt8 := [99, 111, 110, 116, 97, 105, 110, 101, 100]
def wPer (n : Nat) : List UInt8 := if n = 1 then [112, 101, 114, 115, 111, 110] else [112, 101, 111, 112, 108, 101]
def wWas (n : Nat) : List UInt8 := if n = 1 then [119, 97, 115] else [119, 101, 114, 101]
def wInj : List UInt8 := [105, 110, 106, 117, 114, 101, 100]
/-- the words of a situation's text, marks and all -/
def sitW (a b c d e f : Nat) : List (List UInt8) :=
  [wRep, Lib.decDigits a, wAt, Lib.decDigits b ++ [58], Lib.decDigits c, wHec c ++ [44], Lib.decDigits d, wPc, wCon ++ [44], Lib.decDigits e, wPer e ++ [46]] ++ (if 0 < f then [Lib.decDigits f, wPer f, wWas f, wInj ++ [46]] else [])
/-- .. without the marks -/
def sitV (a b c d e f : Nat) : List (List UInt8) :=
  [wRep, Lib.decDigits a, wAt, Lib.decDigits b, Lib.decDigits c, wHec c, Lib.decDigits d, wPc, wCon, Lib.decDigits e, wPer e] ++ (if 0 < f then [Lib.decDigits f, wPer f, wWas f, wInj] else [])
theorem dgD (n : Nat) : Dg (Lib.decDigits n) := dg_dec (n + 1) n (Nat.lt_succ_self _)
theorem count_list (n : Nat) (x y : ByteArray) : (countS n x y).data.toList = Lib.decDigits n ++ 32 :: (if n = 1 then x.data.toList else y.data.toList) := by
  unfold countS
  split
  · subst n
    simp [ByteArray.data_append, Lib.decDigits_one]
  · simp [ByteArray.data_append, numS_list]
theorem sit_list (a b c d e f : Nat) : (sitText a b c d e f).data.toList = joinL (sitW a b c d e f) := by
  unfold sitText sitHead sitW
  have h1 : ∀ n : Nat, (if n = 1 then ({ data := #[104, 101, 99, 116, 97, 114, 101] } : ByteArray).data.toList else ({ data := #[104, 101, 99, 116, 97, 114, 101, 115] } : ByteArray).data.toList) = wHec n := fun n => rfl
  have h2 : ∀ n : Nat, (if n = 1 then ({ data := #[112, 101, 114, 115, 111, 110] } : ByteArray).data.toList else ({ data := #[112, 101, 111, 112, 108, 101] } : ByteArray).data.toList) = wPer n := fun n => rfl
  have h3 : ∀ n : Nat, (if n = 1 then ({ data := #[112, 101, 114, 115, 111, 110, 32, 119, 97, 115] } : ByteArray).data.toList else ({ data := #[112, 101, 111, 112, 108, 101, 32, 119, 101, 114, 101] } : ByteArray).data.toList) = wPer n ++ 32 :: wWas n := fun n => by
    unfold wPer wWas
    split <;> rfl
  split
  · simp only [ByteArray.data_append, Array.toList_append, count_list, numS_list, h1, h2, h3]
    simp [joinL, wRep, wAt, wPc, wCon, wInj]
  · simp only [ByteArray.data_append, Array.toList_append, count_list, numS_list, h1, h2]
    simp [joinL, wRep, wAt, wPc, wCon]
theorem sitW_ok (a b c d e f : Nat) : ∀ w ∈ sitW a b c d e f, ∀ x ∈ w, x ≠ 32 := by
  have hd : ∀ n, ∀ x ∈ Lib.decDigits n, x ≠ 32 := fun n => dg_ne (dgD n) (by decide)
  have hh : ∀ n, ∀ x ∈ wHec n ++ [44], x ≠ 32 := fun n => by unfold wHec; split <;> decide
  have hp : ∀ n, ∀ x ∈ wPer n ++ [46], x ≠ 32 := fun n => by unfold wPer; split <;> decide
  have hq : ∀ n, ∀ x ∈ wPer n, x ≠ 32 := fun n => by unfold wPer; split <;> decide
  have hw : ∀ n, ∀ x ∈ wWas n, x ≠ 32 := fun n => by unfold wWas; split <;> decide
  have hb : ∀ x ∈ Lib.decDigits b ++ [58], x ≠ 32 := fun x hx => by
    rcases List.mem_append.1 hx with h | h
    · exact hd b x h
    · rw [List.mem_singleton.1 h]; decide
  intro w hw2
  unfold sitW at hw2
  rcases List.mem_append.1 hw2 with h | h
  · simp only [List.mem_cons, List.not_mem_nil, or_false] at h
    rcases h with rfl | rfl | rfl | rfl | rfl | rfl | rfl | rfl | rfl | rfl | rfl
    · decide
    · exact hd a
    · decide
    · exact hb
    · exact hd c
    · exact hh c
    · exact hd d
    · decide
    · decide
    · exact hd e
    · exact hp e
  · split at h
    · simp only [List.mem_cons, List.not_mem_nil, or_false] at h
      rcases h with rfl | rfl | rfl | rfl
      · exact hd f
      · exact hq f
      · exact hw f
      · decide
    · cases h
theorem sitV_ok (a b c d e f : Nat) : (sitW a b c d e f).map dr3 = sitV a b c d e f := by
  have hd : ∀ n, dr3 (Lib.decDigits n) = Lib.decDigits n := fun n => dg_out (dgD n)
  have hh : ∀ n, dr3 (wHec n ++ [44]) = wHec n := fun n => by unfold wHec; split <;> decide
  have hp : ∀ n, dr3 (wPer n ++ [46]) = wPer n := fun n => by unfold wPer; split <;> decide
  have hq : ∀ n, dr3 (wPer n) = wPer n := fun n => by unfold wPer; split <;> decide
  have hw : ∀ n, dr3 (wWas n) = wWas n := fun n => by unfold wWas; split <;> decide
  unfold sitW sitV
  rw [List.map_append]
  congr 1
  · simp only [List.map_cons, List.map_nil, hd, hh, hp, dr3_app, show dr3 [58] = [] by decide, show dr3 [44] = [] by decide, show dr3 wRep = wRep by decide, show dr3 wAt = wAt by decide, show dr3 wPc = wPc by decide, show dr3 wCon = wCon by decide, List.append_nil]
  · split
    · simp only [List.map_cons, List.map_nil, hd, hq, hw, show dr3 (wInj ++ [46]) = wInj by decide]
    · rfl
theorem sub_ok (a b c d e f : Nat) : ∀ w ∈ sitV a b c d e f, ∀ x ∈ w, x ≠ 32 := fun w hw x hx => by
  rw [← sitV_ok] at hw
  obtain ⟨u, hu, rfl⟩ := List.mem_map.1 hw
  exact sitW_ok a b c d e f u hu x (List.mem_filter.1 hx).1
/-- a text without the three marks -/
def drB3 (s : ByteArray) : ByteArray := mkB (dr3 s.data.toList)
theorem drB3_size (s : ByteArray) : (drB3 s).size ≤ s.size := by
  have h := List.length_filter_le (fun x => !out3 x) s.data.toList
  show (dr3 s.data.toList).toArray.size ≤ s.data.size
  rw [List.size_toArray]
  rw [Array.length_toList] at h
  exact h
theorem sit_words (a b c d e f : Nat) {s : ByteArray} (hs : sitText a b c d e f = s) : spB 32 s = (sitW a b c d e f).map mkB ∧ spB 32 (drB3 s) = (sitV a b c d e f).map mkB := by
  subst hs
  constructor
  · unfold spB
    rw [sit_list, split_join _ (by simp [sitW]) (sitW_ok a b c d e f)]
  · unfold spB drB3
    rw [sit_list, dr3_join, sitV_ok, show (mkB (joinL (sitV a b c d e f))).data.toList = joinL (sitV a b c d e f) from by simp [mkB], split_join _ (by simp [sitV]) (sub_ok a b c d e f)]
theorem countS_len {k m n : Nat} {x y : ByteArray} (h : n < 10 ^ (k + 1)) (hx : x.size ≤ m) (hy : y.size ≤ m) : (countS n x y).size ≤ k + 2 + m := by
  unfold countS
  split
  · rw [ByteArray.size_append, show ({ data := #[49, 32] } : ByteArray).size = 2 from rfl]; omega
  · have := numS_len h
    rw [ByteArray.size_append, ByteArray.size_append, show ({ data := #[32] } : ByteArray).size = 1 from rfl]; omega
theorem sit_parts {a b c d e f : Nat} (hq : sitB a b c d e f = true) : (1 ≤ a ∧ a ≤ 999) ∧ b ≤ 9999 ∧ c ≤ 999999 ∧ d ≤ 100 ∧ e ≤ 9999 ∧ f ≤ 99 := by
  simp only [sitB, inB, Bool.and_eq_true, decide_eq_true_eq] at hq
  omega
theorem sit_size {a b c d e f : Nat} (hq : sitB a b c d e f = true) : (sitText a b c d e f).size ≤ 120 := by
  obtain ⟨ha, hb, hc, hd, he, hf⟩ := sit_parts hq
  have z1 := numS_len (k := 2) (n := a) (by omega)
  have z2 := numS_len (k := 3) (n := b) (by omega)
  have z4 := numS_len (k := 2) (n := d) (by omega)
  have z3 := countS_len (k := 5) (m := 8) (n := c) (x := { data := #[104, 101, 99, 116, 97, 114, 101] }) (y := { data := #[104, 101, 99, 116, 97, 114, 101, 115] }) (by omega) (by decide) (by decide)
  have z5 := countS_len (k := 3) (m := 6) (n := e) (x := { data := #[112, 101, 114, 115, 111, 110] }) (y := { data := #[112, 101, 111, 112, 108, 101] }) (by omega) (by decide) (by decide)
  have z6 := countS_len (k := 1) (m := 11) (n := f) (x := { data := #[112, 101, 114, 115, 111, 110, 32, 119, 97, 115] }) (y := { data := #[112, 101, 111, 112, 108, 101, 32, 119, 101, 114, 101] }) (by omega) (by decide) (by decide)
  have e1 : ({ data := #[82, 101, 112, 111, 114, 116, 32] } : ByteArray).size = 7 := rfl
  have e2 : ({ data := #[32, 97, 116, 32] } : ByteArray).size = 4 := rfl
  have e3 : ({ data := #[58, 32] } : ByteArray).size = 2 := rfl
  have e4 : ({ data := #[44, 32] } : ByteArray).size = 2 := rfl
  have e5 : ({ data := #[32, 112, 101, 114, 99, 101, 110, 116, 32, 99, 111, 110, 116, 97, 105, 110, 101, 100, 44, 32] } : ByteArray).size = 20 := rfl
  have e6 : ({ data := #[46] } : ByteArray).size = 1 := rfl
  have e7 : ({ data := #[32] } : ByteArray).size = 1 := rfl
  have e8 : ({ data := #[32, 105, 110, 106, 117, 114, 101, 100, 46] } : ByteArray).size = 9 := rfl
  unfold sitText sitHead
  split
  · simp only [ByteArray.size_append]; omega
  · simp only [ByteArray.size_append]; omega
theorem sit_nat {a b c d e f : Int} (hq : sitB a b c d e f = true) : (a.toNat : Int) = a ∧ (b.toNat : Int) = b ∧ (c.toNat : Int) = c ∧ (d.toNat : Int) = d ∧ (e.toNat : Int) = e ∧ (f.toNat : Int) = f := by
  simp only [sitB, inB, Bool.and_eq_true, decide_eq_true_eq] at hq
  omega
def sitTextI (a b c d e f : Int) : ByteArray := sitText a.toNat b.toNat c.toNat d.toNat e.toNat f.toNat
/-- what a text's situation is: the situation if there is one -/
def SitOf (s : ByteArray) (a b c d e f : Int) (q : Bool) : Prop :=
  (q = true ∧ sitB a b c d e f = true ∧ sitTextI a b c d e f = s) ∨ (q = false ∧ a = 0 ∧ b = 0 ∧ c = 0 ∧ d = 0 ∧ e = 0 ∧ f = 0 ∧ ∀ a b c d e f, sitB a b c d e f = true → ¬ sitTextI a b c d e f = s)
/-- the reference's reading of the words -/
theorem sit_read {s : ByteArray} {L : List ByteArray} (hL : spB 32 s = L) {a b c d e f : Int} (hq : sitB a b c d e f = true) (hs : sitTextI a b c d e f = s) :
    s.size ≤ 120 ∧ (L.length = 11 ∨ L.length = 15) ∧ 2 ≤ (L.getD 3 ⟨#[]⟩).size ∧ rdV (L.getD 1 ⟨#[]⟩) = a ∧ rdV ((L.getD 3 ⟨#[]⟩).extract 0 ((L.getD 3 ⟨#[]⟩).size - 1)) = b ∧ rdV (L.getD 4 ⟨#[]⟩) = c ∧ rdV (L.getD 6 ⟨#[]⟩) = d ∧ rdV (L.getD 9 ⟨#[]⟩) = e ∧ (if L.length = 15 then rdV (L.getD 11 ⟨#[]⟩) else 0) = f := by
  obtain ⟨e1, e2, e3, e4, e5, e6⟩ := sit_nat hq
  have hq2 : sitB a.toNat b.toNat c.toNat d.toNat e.toNat f.toNat = true := by rw [e1, e2, e3, e4, e5, e6]; exact hq
  obtain ⟨ha, hb, hc, hd, he, hf⟩ := sit_parts hq2
  have hz := sit_size hq2
  obtain ⟨hw, _⟩ := sit_words _ _ _ _ _ _ hs
  unfold sitTextI at hs
  rw [hs] at hz
  rw [hL] at hw
  have hm : ∀ n, mkB (Lib.decDigits n) = numS n := fun n => rfl
  have h3 : mkB (Lib.decDigits b.toNat ++ [58]) = numS b.toNat ++ mkB [58] := by apply ByteArray.ext; simp [mkB, numS, ByteArray.data_append]
  have hp := numS_pos b.toNat
  have hsz : 2 ≤ (numS b.toNat ++ mkB [58]).size := by rw [ByteArray.size_append, show (mkB [58]).size = 1 from rfl]; omega
  by_cases h0 : 0 < f.toNat
  · have hl : L = [mkB wRep, numS a.toNat, mkB wAt, numS b.toNat ++ mkB [58], numS c.toNat, mkB (wHec c.toNat ++ [44]), numS d.toNat, mkB wPc, mkB (wCon ++ [44]), numS e.toNat, mkB (wPer e.toNat ++ [46]), numS f.toNat, mkB (wPer f.toNat), mkB (wWas f.toNat), mkB (wInj ++ [46])] := by
      rw [hw]; unfold sitW; rw [if_pos h0]; simp only [List.cons_append, List.nil_append, List.map_cons, List.map_nil, h3, hm]
    subst hl
    refine ⟨hz, .inr rfl, hsz, ?_, ?_, ?_, ?_, ?_, ?_⟩
    · exact (rdV_num (by omega)).trans e1
    · show rdV ((numS b.toNat ++ mkB [58]).extract 0 ((numS b.toNat ++ mkB [58]).size - 1)) = b
      rw [numS_ext]; exact (rdV_num (by omega)).trans e2
    · exact (rdV_num (by omega)).trans e3
    · exact (rdV_num (by omega)).trans e4
    · exact (rdV_num (by omega)).trans e5
    · exact (rdV_num (by omega)).trans e6
  · have hl : L = [mkB wRep, numS a.toNat, mkB wAt, numS b.toNat ++ mkB [58], numS c.toNat, mkB (wHec c.toNat ++ [44]), numS d.toNat, mkB wPc, mkB (wCon ++ [44]), numS e.toNat, mkB (wPer e.toNat ++ [46])] := by
      rw [hw]; unfold sitW; rw [if_neg h0]; simp only [List.append_nil, List.map_cons, List.map_nil, h3, hm]
    subst hl
    refine ⟨hz, .inl rfl, hsz, ?_, ?_, ?_, ?_, ?_, ?_⟩
    · exact (rdV_num (by omega)).trans e1
    · show rdV ((numS b.toNat ++ mkB [58]).extract 0 ((numS b.toNat ++ mkB [58]).size - 1)) = b
      rw [numS_ext]; exact (rdV_num (by omega)).trans e2
    · exact (rdV_num (by omega)).trans e3
    · exact (rdV_num (by omega)).trans e4
    · exact (rdV_num (by omega)).trans e5
    · show (0 : Int) = f
      omega
/-- the program's -/
theorem sit_readP {s : ByteArray} {L : List ByteArray} (hL : spB 32 (drB3 s) = L) {a b c d e f : Int} (hq : sitB a b c d e f = true) (hs : sitTextI a b c d e f = s) :
    s.size ≤ 120 ∧ piG L 1 = a ∧ piG L 3 = b ∧ piG L 4 = c ∧ piG L 6 = d ∧ piG L 9 = e ∧ piG L 11 = f := by
  obtain ⟨e1, e2, e3, e4, e5, e6⟩ := sit_nat hq
  have hq2 : sitB a.toNat b.toNat c.toNat d.toNat e.toNat f.toNat = true := by rw [e1, e2, e3, e4, e5, e6]; exact hq
  obtain ⟨ha, hb, hc, hd, he, hf⟩ := sit_parts hq2
  have hz := sit_size hq2
  obtain ⟨_, hw⟩ := sit_words _ _ _ _ _ _ hs
  unfold sitTextI at hs
  rw [hs] at hz
  rw [hL] at hw
  have hm : ∀ n, mkB (Lib.decDigits n) = numS n := fun n => rfl
  by_cases h0 : 0 < f.toNat
  · have hl : L = [mkB wRep, numS a.toNat, mkB wAt, numS b.toNat, numS c.toNat, mkB (wHec c.toNat), numS d.toNat, mkB wPc, mkB wCon, numS e.toNat, mkB (wPer e.toNat), numS f.toNat, mkB (wPer f.toNat), mkB (wWas f.toNat), mkB wInj] := by
      rw [hw]; unfold sitV; rw [if_pos h0]; simp only [List.cons_append, List.nil_append, List.map_cons, List.map_nil, hm]
    subst hl
    exact ⟨hz, (piV_num (by omega)).trans e1, (piV_num (by omega)).trans e2, (piV_num (by omega)).trans e3, (piV_num (by omega)).trans e4, (piV_num (by omega)).trans e5, (piV_num (by omega)).trans e6⟩
  · have hl : L = [mkB wRep, numS a.toNat, mkB wAt, numS b.toNat, numS c.toNat, mkB (wHec c.toNat), numS d.toNat, mkB wPc, mkB wCon, numS e.toNat, mkB (wPer e.toNat)] := by
      rw [hw]; unfold sitV; rw [if_neg h0]; simp only [List.append_nil, List.map_cons, List.map_nil, hm]
    subst hl
    exact ⟨hz, (piV_num (by omega)).trans e1, (piV_num (by omega)).trans e2, (piV_num (by omega)).trans e3, (piV_num (by omega)).trans e4, (piV_num (by omega)).trans e5, show (0 : Int) = f by omega⟩
theorem SitOf.one {s : ByteArray} {a b c d e f a' b' c' d' e' f' : Int} {q q' : Bool} (h : SitOf s a b c d e f q) (h' : SitOf s a' b' c' d' e' f' q') : a = a' ∧ b = b' ∧ c = c' ∧ d = d' ∧ e = e' ∧ f = f' ∧ q = q' := by
  rcases h with ⟨rfl, hq, hs⟩ | ⟨rfl, rfl, rfl, rfl, rfl, rfl, rfl, hn⟩
  · rcases h' with ⟨rfl, hq', hs'⟩ | ⟨rfl, _, _, _, _, _, _, hn⟩
    · obtain ⟨_, a1, a2, a3, a4, a5, a6⟩ := sit_readP rfl hq hs
      obtain ⟨_, b1, b2, b3, b4, b5, b6⟩ := sit_readP rfl hq' hs'
      exact ⟨a1.symm.trans b1, a2.symm.trans b2, a3.symm.trans b3, a4.symm.trans b4, a5.symm.trans b5, a6.symm.trans b6, rfl⟩
    · exact absurd hs (hn _ _ _ _ _ _ hq)
  · rcases h' with ⟨rfl, hq', hs'⟩ | ⟨rfl, rfl, rfl, rfl, rfl, rfl, rfl, _⟩
    · exact absurd hs' (hn _ _ _ _ _ _ hq')
    · exact ⟨rfl, rfl, rfl, rfl, rfl, rfl, rfl⟩
end Go.Proofs.YtcebbmikgpipeaaGreatDoor
