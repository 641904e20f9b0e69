/-
  What the law of the moistures says, in plain Lean. Conditions: the bounds that stand in each statement.
-/
import Derived.Test.YtlnfccncbfpoiaaV
import Derived.Test.YtlnfccncbfpoiaaF
import Derived.Test.YtlnfccncbfpoiaaCH
namespace Go.Proofs.Ytlnfccncbfpoiaa
open Go.RowKit
set_option maxHeartbeats 1000000
def moist1 (q : Bool) (bal m aM : Int) (p2 : Bool) : Prop := q = true → (0 ≤ m ∧ m ≤ 400 ∧ 10 ≤ bal ∧ bal ≤ 400 ∧ 0 ≤ aM ∧ aM ≤ 400) ∧ p2 = true ∧ 0 ≤ (bal - m) * (bal - aM) ∧ (bal - aM) * (bal - aM) ≤ (bal - m) * (bal - m) ∧ (bal - m ≠ 0 → bal - m ≠ bal - aM)
theorem sq_le {u v : Int} (h : (0 ≤ v ∧ v ≤ u) ∨ (v ≤ 0 ∧ u ≤ v)) : v * v ≤ u * u := by
  rcases h with ⟨h0, h1⟩ | ⟨h0, h1⟩
  · exact Int.mul_le_mul h1 h1 h0 (by omega)
  · have := Int.mul_le_mul (a := -v) (b := -v) (c := -u) (d := -u) (by omega) (by omega) (by omega) (by omega)
    rwa [Int.neg_mul_neg, Int.neg_mul_neg] at this
theorem moist_law1 {l m h t r aL aM bal : Int} {q p fine p2 : Bool} (_hI : I64 l ∧ I64 m ∧ airI (h, t, r)) (hq : okBA l m h t r = q) (haL : aftL l m h t r = aL) (haM : aftM l m h t r = aM) (_hp : bedB l m = p) (hbal : balOfI h t r = bal) (_hfine : airB h t r = fine) (hp2 : bedB aL aM = p2) : moist1 q bal m aM p2 := by
  intro hq1
  subst hq1
  have h2 : bedB l m = true ∧ airB h t r = true := by simpa [okBA] using hq
  obtain ⟨hb, ha⟩ := h2
  obtain ⟨hl, hm⟩ := bedB_bd hb
  have hB := balI_bd h t r
  have e1 : bal = balI h t r := by rw [← hbal]; simp [balOfI, ha]
  have e2 : aM = hourI l m (balI h t r) := by rw [← haM]; simp [aftM, hq]
  have e3 : aL = l := by rw [← haL]; simp [aftL, hq]
  have hH := hourI_bd (lag := l) hm hB
  rw [← e1] at e2 hB hH
  have hH : 0 ≤ aM ∧ aM ≤ 400 := by rw [e2]; exact hH
  have hp3 : p2 = true := by
    rw [← hp2, e3]
    simp [bedB, inB] at hb ⊢
    omega
  refine ⟨⟨hm.1, hm.2, hB.1, hB.2, hH.1, hH.2⟩, hp3, ?_⟩
  rcases Int.lt_trichotomy m bal with hlt | heq | hgt
  · have h1 := hourI_up (lag := l) hlt
    rw [← e2] at h1
    exact ⟨Int.mul_nonneg (by omega) (by omega), sq_le (.inl ⟨by omega, by omega⟩), fun _ => by omega⟩
  · have h1 := hourI_same (lag := l) heq.symm
    rw [← e2] at h1
    subst heq
    rw [h1]
    exact ⟨by simp, Int.le_refl _, fun h => by omega⟩
  · have h1 := hourI_down (lag := l) hgt
    rw [← e2] at h1
    exact ⟨Int.mul_nonneg_of_nonpos_of_nonpos (by omega) (by omega), sq_le (.inr ⟨by omega, by omega⟩), fun _ => by omega⟩
theorem loop_fact {l m : Int} {ts : List AirT} {L : List Int} (hL : mrL l m ts = L) {k : Nat} (hk : k < L.length) :
    ∃ (x0 x1 x2 : Int) (hk2 : k < ts.length), ts[k] = (x0, x1, x2) ∧ bedB l m = true ∧ L[k] = nowA l m ts (k + 1) ∧ okBA l (nowA l m ts k) x0 x1 x2 = true ∧ aftL l (nowA l m ts k) x0 x1 x2 = l ∧ aftM l (nowA l m ts k) x0 x1 x2 = nowA l m ts (k + 1) := by
  subst hL
  have hq : mrB l m ts = true := by
    cases h : mrB l m ts with
    | true => rfl
    | false => simp [mrL, h] at hk
  have hbed : bedB l m = true := by simp [mrB] at hq; exact hq.1
  have hall : ts.all airP = true := by
    simp only [mrB, airsB, Bool.and_eq_true] at hq
    exact hq.2.2
  have hlen : k < ts.length := by simpa [mrL, hq, runA_len] using hk
  obtain ⟨⟨x0, x1, x2⟩, hx⟩ : ∃ x : AirT, ts[k] = x := ⟨_, rfl⟩
  obtain ⟨ha, hba⟩ := airs_at hall hlen hx
  obtain ⟨hl, hm⟩ := bedB_bd hbed
  have hnow := nowA_bd (l := l) ts hm k
  have hok : okBA l (nowA l m ts k) x0 x1 x2 = true := by
    simp only [okBA, Bool.and_eq_true]
    refine ⟨?_, ha⟩
    simp [bedB, inB] at hbed ⊢
    omega
  refine ⟨x0, x1, x2, hlen, hx, hbed, ?_, hok, by simp [aftL, hok], ?_⟩
  · simp [mrL, hq, runA]
  · simp only [aftM, hok, if_true]
    rw [← hba]
    rfl
theorem hrs_ge {l b limit : Int} : ∀ (f : Nat) (now n : Int), n ≤ hrs l b limit f now n := by
  intro f
  induction f with
  | zero => intro now n; simp [hrs]
  | succ f ih =>
    intro now n
    by_cases h : (now < limit ∧ limit ≤ b) ∨ (limit < now ∧ b ≤ limit)
    · rw [hrs_go f n h]; have := ih (hourI l now b) (n + 1); omega
    · rw [hrs_stop (f + 1) n h]; exact Int.le_refl _
theorem moist_law3 {l m h t r x N : Int} {kn : Bool} (hN : huN l m h t r x = N) (hk : huB l m h t r x = kn) : kn = true → (N = 0 ↔ m = x) := by
  intro hkn
  subst hkn
  subst hN
  rw [hu_yes hk]
  have hin : huIn m (balI h t r) x = true := by
    simp only [huB, Bool.and_eq_true] at hk
    exact hk.2
  by_cases hg : (m < x ∧ x ≤ balI h t r) ∨ (x < m ∧ balI h t r ≤ x)
  · rw [hrs_go 400 0 hg]
    have := hrs_ge (l := l) (b := balI h t r) (limit := x) 400 (hourI l m (balI h t r)) (0 + 1)
    constructor
    · intro e; omega
    · intro e; omega
  · rw [hrs_stop 401 0 hg]
    refine ⟨fun _ => ?_, fun _ => rfl⟩
    rcases huIn_iff.1 hin with e | e | e
    · exact e.symm
    · exact absurd (.inl e) hg
    · exact absurd (.inr e) hg
end Go.Proofs.Ytlnfccncbfpoiaa
