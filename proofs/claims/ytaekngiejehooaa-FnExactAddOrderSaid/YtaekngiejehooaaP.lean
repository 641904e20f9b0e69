/-
  append to a row of the call's own, also inside a region that draws its order; rows kept. Conditions: lengths within the bound of a slice.
-/
import Derived.Test.YtaekngiejehooaaT
import Derived.Deep.RegionLaw
import Derived.Deep.RegionHeld3
import Derived.Deep.DeepCutAuto
import Derived.Deep.AppendLies
import Derived.Laws.AppendOwnNone
namespace Go.Proofs.Ytaekngiejehooaa
open Go.RowKit
set_option maxHeartbeats 1000000

theorem Rd.news {w : World} {k n : Nat} {ad : Addr} {xs : List Value} (h : Rd w k (some ad) n xs) : ∀ j u, xs[j]? = some u → w.cell? (ad.add j) = some u := fun j u hu => by
  have hlt : j < xs.length := (List.getElem?_eq_some_iff.1 hu).1
  have h1 := h.1
  have hn : 0 < n := by
    rcases Nat.eq_zero_or_pos n with h0 | h0
    · rw [h0] at h1; omega
    · exact h0
  obtain ⟨b, off, e, hb, hc⟩ := h.2 hn
  simp only [Option.some.injEq] at e
  subst e
  have hadd : (⟨b, off, none⟩ : Addr).add j = ⟨b, off + j, none⟩ := by unfold Addr.add; split <;> simp_all
  rw [hadd]
  exact hc j u hu
/-- a row appended to a row of the call's own, at a step of a region that draws -/
theorem step_append_rd {P : Program} {ops : Array Oper} {o : Oper} {a : Act} {w : World} {K : Act → World → Prop} {Q : Exit → Act → World → Prop} {E : Prop} (hgd : o.guard = none) (s x : Operand) (t : TypeId)
    (ho : o.op = .call { callee := .builtin .append, args := #[s, x], argTypes := #[t, t] })
    (base : Nat) (e : TypeId) (i : TypeInfo) (z : Value) (size bytes : Nat) (ht : P.underlying t = some (.slice e)) (hi : P.info? e = some i) (hz : i.zero = some z)
    (hsize : i.size = size) (hby : i.bytes = bytes) (hzs : z.cells.size = size) (hsz : 0 < size)
    (v : Value) (n : Nat) (xs : List Value) (hs : a.eval s = v) (hown : w.ownsRow base e size v n xs)
    (ad : Addr) (m c : Nat) (news : List Value) (hx : a.eval x = .slice (some ad) m c) (hnews : Rd w size (some ad) m news) (h1 : ∀ u ∈ news, u.oneCell' = true)
    (h63 : n + m ≤ maxLen) (hbytes : (n + m) * bytes ≤ 140737488355328) (hbase : base ≤ w.heap.size)
    (h : ∀ v' w', w'.ownsRow base e size v' (n + m) (xs ++ news) → w.grownBy w' v.ownBlock → K (a.put o.dst v') w') :
    if Region.wanted o (yielded ops a.tmps) = true then Oper.wp P o a w K Q else E := by
  have hw : Region.wanted o (yielded ops a.tmps) = true := by simp [Region.wanted, hgd]
  rw [if_pos hw]
  exact wp_append_own w s x t ho base e i z size bytes ht hi hz hsize hby hzs hsz v n xs hs hown ad m c news hx hnews.1 hnews.news h1 h63 hbytes hbase fun v' w' h2 h3 _ => h v' w' h2 h3
theorem own_grown {w w' : World} {base k n : Nat} {t : TypeId} {v : Value} {xs : List Value} {g : Nat} (h : w.ownsRow base t k v n xs) (hg : w.grownBy w' (some g)) (hne : g < base) : w'.ownsRow base t k v n xs :=
  h.kept hg (by
    cases hv : v.ownBlock with
    | none => exact .inl rfl
    | some b => exact .inr (fun e => by cases e; have := (h.lt g hv).1; omega))
theorem own_r {w : World} {base k n : Nat} {t : TypeId} {A : Option Addr} {c : Nat} {xs : List Value} (h : w.ownsRow base t k (.slice A n c) n xs) : Rd w k A n xs := by
  obtain ⟨A', c', hv, hr, _⟩ := own_rd h
  simp only [Value.slice.injEq] at hv
  obtain ⟨rfl, _, rfl⟩ := hv
  exact hr
theorem own_grownBy {w w' : World} {base k n B : Nat} {t : TypeId} {v : Value} {xs : List Value} {a : World} (h : w.ownsRow base t k v n xs) (hb : Below B a w) (hg : w.grownBy w' v.ownBlock) (hB : B ≤ base) (hB2 : B ≤ w.heap.size) : Below B a w' :=
  hb.grown hg hB2 (fun g e => by have := (h.lt g e).1; omega)
theorem own_alloc {w : World} {base k n : Nat} {t : TypeId} {v : Value} {xs : List Value} (h : w.ownsRow base t k v n xs) (o : Obj) : (w.alloc o).ownsRow base t k v n xs := own_below h (balloc (Below.refl _ _) o)
theorem own_drew {w : World} {base k n : Nat} {t : TypeId} {v : Value} {xs : List Value} (h : w.ownsRow base t k v n xs) : w.drew.ownsRow base t k v n xs := own_below h (bdrew (Below.refl _ _))
/-- a row laid whole in a block that another row's growing does not reach -/
theorem Bk.grown {w w' : World} {g : Nat} {t : TypeId} {cs : List Value} {row : Option Nat} (h : Bk w g t cs) (hg : w.grownBy w' row) (hne : some g ≠ row) : Bk w' g t cs := (hg.block g h.lt hne).trans h
theorem Bk.new' {w : World} {t : TypeId} {cs : List Value} {g : Nat} (h : w.heap.size = g) : Bk (w.alloc (.cells cs.toArray t)) g t cs := by subst h; exact Bk.new w t cs
theorem own_lit' {w : World} {base k g : Nat} {t : TypeId} (hg : w.heap.size = g) (hb : base ≤ w.heap.size) : (w.alloc (.cells #[] t)).ownsRow base t k (.slice (some ⟨g, 0, none⟩) 0 0) 0 [] := by
  subst hg
  exact World.ownsRow_lit w #[] 0 hb (Nat.zero_le _) (by simp)
theorem own_weaken {w : World} {base base' k n : Nat} {t : TypeId} {v : Value} {xs : List Value} (h : w.ownsRow base t k v n xs) (hb : base' ≤ base) : w.ownsRow base' t k v n xs := by
  refine ⟨h.1, ?_⟩
  rcases h.2 with h0 | ⟨g, cap, cur, rfl, hbg, hrest⟩
  · exact .inl h0
  · exact .inr ⟨g, cap, cur, rfl, Nat.le_trans hb hbg, hrest⟩
/-- the first append to a new row []T{} -/
theorem step_append_lit {P : Program} {ops : Array Oper} {o : Oper} {a : Act} {w : World} {K : Act → World → Prop} {Q : Exit → Act → World → Prop} {E : Prop} (hgd : o.guard = none) (s x : Operand) (t : TypeId)
    (ho : o.op = .call { callee := .builtin .append, args := #[s, x], argTypes := #[t, t] })
    (base : Nat) (e : TypeId) (i : TypeInfo) (z : Value) (size bytes : Nat) (ht : P.underlying t = some (.slice e)) (hi : P.info? e = some i) (hz : i.zero = some z)
    (hsize : i.size = size) (hby : i.bytes = bytes) (hzs : z.cells.size = size) (hsz : 0 < size)
    {L : Nat} (hs : a.eval s = .slice (some ⟨L, 0, none⟩) 0 0) (hown : w.ownsRow base e size (.slice (some ⟨L, 0, none⟩) 0 0) 0 [])
    (ad : Addr) (m c : Nat) (news : List Value) (hx : a.eval x = .slice (some ad) m c) (hnews : Rd w size (some ad) m news) (h1 : ∀ u ∈ news, u.oneCell' = true)
    (h63 : m ≤ maxLen) (hbytes : m * bytes ≤ 140737488355328) (hbase : base ≤ w.heap.size)
    (h : ∀ v' w', w'.ownsRow base e size v' m news → w.grownBy w' (some L) → K (a.put o.dst v') w') :
    if Region.wanted o (yielded ops a.tmps) = true then Oper.wp P o a w K Q else E :=
  step_append_rd hgd s x t ho base e i z size bytes ht hi hz hsize hby hzs hsz _ 0 [] hs hown ad m c news hx hnews h1 (by omega) (by rw [Nat.zero_add]; exact hbytes) hbase fun v' w' h2 h3 => h v' w' (by simpa using h2) h3
theorem eqIntS_yes {A B : Option Addr} {n m c d : Nat} {xs ys : List Int} (w : World) (hx : Rd w 1 A n (ints xs)) (hy : Rd w 1 B m (ints ys)) (hn : n ≤ 9223372036854775807) (h : xs = ys) :
    Calls Try.prog 32 #[.slice A n c, .slice B m d] w fun e w' => e = .returned (.bool true) ∧ Below w.heap.size w w' := by
  have h2 := eqIntS_any A B n m c d xs ys w hx hy hn
  rw [decide_eq_true h] at h2
  exact h2
end Go.Proofs.Ytaekngiejehooaa
