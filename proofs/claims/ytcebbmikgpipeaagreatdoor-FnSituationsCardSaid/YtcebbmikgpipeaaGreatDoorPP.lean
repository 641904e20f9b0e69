/-
  The text of an order, in plain Lean: both sides' parts of it. Conditions: those that stand in each statement.
-/
import Derived.Test.YtcebbmikgpipeaaGreatDoorProg
namespace Go.Proofs.YtcebbmikgpipeaaGreatDoor
set_option maxHeartbeats 1000000

/-- the parts of a text between bytes -/
def splitL (c : UInt8) : List UInt8 → List (List UInt8)
  | [] => [[]]
  | x :: xs => if x = c then [] :: splitL c xs else (x :: (splitL c xs).headD []) :: (splitL c xs).tailD []
theorem splitL_none {c : UInt8} : ∀ {l : List UInt8}, (∀ x ∈ l, x ≠ c) → splitL c l = [l]
  | [], _ => rfl
  | x :: xs, h => by
    have h1 := splitL_none (l := xs) (fun y hy => h y (List.mem_cons_of_mem _ hy))
    simp [splitL, h x List.mem_cons_self, h1]
theorem splitL_app {c : UInt8} (r : List UInt8) : ∀ {l : List UInt8}, (∀ x ∈ l, x ≠ c) → splitL c (l ++ c :: r) = l :: splitL c r
  | [], _ => by simp [splitL]
  | x :: xs, h => by
    have h1 := splitL_app r (l := xs) (fun y hy => h y (List.mem_cons_of_mem _ hy))
    simp [splitL, h x List.mem_cons_self, h1]
/-- what stays of a text without one byte -/
def dropL (c : UInt8) (l : List UInt8) : List UInt8 := l.filter (fun x => x != c)
theorem dropL_id {c : UInt8} {l : List UInt8} (h : ∀ x ∈ l, x ≠ c) : dropL c l = l := List.filter_eq_self.2 (fun x hx => by simpa using h x hx)
theorem dropL_app (c : UInt8) (a b : List UInt8) : dropL c (a ++ b) = dropL c a ++ dropL c b := List.filter_append ..
/-- a numeral -/
def Dg (l : List UInt8) : Prop := l ≠ [] ∧ ∀ x ∈ l, 48 ≤ x ∧ x ≤ 57
/-- small letters -/
def Wd (l : List UInt8) : Prop := ∀ x ∈ l, 97 ≤ x ∧ x ≤ 122
theorem dg_ne {l : List UInt8} (h : Dg l) {c : UInt8} (hc : c < 48 ∨ 57 < c) : ∀ x ∈ l, x ≠ c := fun x hx e => by
  have := h.2 x hx
  subst e
  rcases hc with hc | hc
  · exact absurd (UInt8.lt_of_lt_of_le hc this.1) (by simp)
  · exact absurd (UInt8.lt_of_lt_of_le hc this.2) (by simp)
theorem wd_ne {l : List UInt8} (h : Wd l) {c : UInt8} (hc : c < 97) : ∀ x ∈ l, x ≠ c := fun x hx e => by
  have := h x hx
  subst e
  exact absurd (UInt8.lt_of_lt_of_le hc this.1) (by simp)
def bOrder : List UInt8 := [111, 114, 100, 101, 114]
def bUrgent : List UInt8 := [117, 114, 103, 101, 110, 116]
def bAt : List UInt8 := [97, 116]
/-- the text of an order whose numerals and kind are these -/
def ordL (a b k u t : List UInt8) : List UInt8 := bOrder ++ 32 :: (a ++ 58 :: 32 :: (b ++ 32 :: (k ++ 32 :: (bUrgent ++ 32 :: (u ++ 32 :: (bAt ++ 32 :: t))))))
theorem ord_split {a b k u t : List UInt8} (ha : Dg a) (hb : Dg b) (hk : Wd k) (hu : Dg u) (ht : Dg t) : splitL 32 (ordL a b k u t) = [bOrder, a ++ [58], b, k, bUrgent, u, bAt, t] := by
  unfold ordL
  rw [splitL_app _ (by decide), show a ++ 58 :: 32 :: (b ++ 32 :: (k ++ 32 :: (bUrgent ++ 32 :: (u ++ 32 :: (bAt ++ 32 :: t))))) = (a ++ [58]) ++ 32 :: (b ++ 32 :: (k ++ 32 :: (bUrgent ++ 32 :: (u ++ 32 :: (bAt ++ 32 :: t))))) by simp,
    splitL_app _ (fun x hx => by
      rcases List.mem_append.1 hx with h | h
      · exact dg_ne ha (by decide) x h
      · rw [List.mem_singleton.1 h]; decide),
    splitL_app _ (dg_ne hb (by decide)), splitL_app _ (wd_ne hk (by decide)), splitL_app _ (by decide), splitL_app _ (dg_ne hu (by decide)), splitL_app _ (by decide), splitL_none (dg_ne ht (by decide))]
theorem ord_drop {a b k u t : List UInt8} (ha : Dg a) (hb : Dg b) (hk : Wd k) (hu : Dg u) (ht : Dg t) : splitL 32 (dropL 58 (ordL a b k u t)) = [bOrder, a, b, k, bUrgent, u, bAt, t] := by
  have e : dropL 58 (ordL a b k u t) = bOrder ++ 32 :: (a ++ 32 :: (b ++ 32 :: (k ++ 32 :: (bUrgent ++ 32 :: (u ++ 32 :: (bAt ++ 32 :: t)))))) := by
    unfold ordL
    rw [dropL_app, dropL_id (l := bOrder) (by decide)]
    congr 1
    rw [show (32 : UInt8) :: (a ++ 58 :: 32 :: (b ++ 32 :: (k ++ 32 :: (bUrgent ++ 32 :: (u ++ 32 :: (bAt ++ 32 :: t)))))) = [32] ++ (a ++ ([58] ++ ([32] ++ (b ++ ([32] ++ (k ++ ([32] ++ (bUrgent ++ ([32] ++ (u ++ ([32] ++ (bAt ++ ([32] ++ t))))))))))))) by simp]
    simp only [dropL_app]
    rw [dropL_id (dg_ne ha (by decide)), dropL_id (dg_ne hb (by decide)), dropL_id (wd_ne hk (by decide)), dropL_id (l := bUrgent) (by decide), dropL_id (dg_ne hu (by decide)), dropL_id (l := bAt) (by decide), dropL_id (dg_ne ht (by decide)), show dropL 58 [32] = [32] by decide, show dropL 58 [58] = [] by decide]
    simp
  rw [e, splitL_app _ (by decide), splitL_app _ (dg_ne ha (by decide)), splitL_app _ (dg_ne hb (by decide)), splitL_app _ (wd_ne hk (by decide)), splitL_app _ (by decide), splitL_app _ (dg_ne hu (by decide)), splitL_app _ (by decide), splitL_none (dg_ne ht (by decide))]
end Go.Proofs.YtcebbmikgpipeaaGreatDoor
