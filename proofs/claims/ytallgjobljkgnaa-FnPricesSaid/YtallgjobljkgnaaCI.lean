/-
  CheapestAssignment of the program: its search. Conditions: lengths within the bound of a slice.
-/
import Derived.Test.YtallgjobljkgnaaCS
import Derived.Test.YtallgjobljkgnaaSH
import Derived.Maps.AppendAt
import Derived.Test.YtallgjobljkgnaaQT
namespace Go.Proofs.Ytallgjobljkgnaa
open Go Go.RowKit
set_option maxRecDepth 100000
set_option maxHeartbeats 4000000

theorem has_is {q : Bool} {A : Option Addr} {m c : Nat} {x : Int} {zs : List Int} (hq : zs.contains x = q) (w : World) (hr : Rd w 1 A m (ints zs)) (hl : zs.length = m) (hm : m ≤ 1048576) :
    Calls Try.prog 46 #[.slice A m c, .int .i64 x] w fun e w' => e = .returned (.bool q) ∧ w = w' := by
  have hc : Calls Try.prog 73 #[.slice A m c, .int .i64 x] w fun e w' => e = .returned (.bool q) ∧ w' = w := by
    by_cases h0 : m = 0
    · subst h0
      have : zs = [] := List.eq_nil_of_length_eq_zero hl
      subst this
      have e : q = false := by rw [← hq]; rfl
      rw [e]
      exact Any.slices_Contains_int_empty conLays A c x w
    · obtain ⟨b, off, rfl, hb, hcc⟩ := hr.2 (by omega)
      have h := Any.slices_Contains_int conLays b off m c zs x w (by omega) (by omega) (fun j hj => by
        rw [hcc j _ (ints_get zs j hj), List.getD_eq_getElem?_getD, List.getElem?_eq_getElem hj]; rfl)
      rw [List.take_of_length_le (by omega), hq] at h
      exact h
  clear hq hr hl hm
  go_enter Try.func46, Try.ntmps46
  go_wp2_with (go_at_call 73; refine hc.mono ?_; rintro e w' ⟨rfl, rfl⟩)
  go_returns
  exact ⟨rfl, rfl⟩
/-- append to a slice that is full: a new row -/
theorem run_append_full {P : Program} (w : World) (base : Nat) (t ty e : TypeId) (i : TypeInfo) (z : Value) (size bytes : Nat) (ht : P.underlying t = some (.slice e)) (hi : P.info? e = some i) (hz : i.zero = some z)
    (hsize : i.size = size) (hby : i.bytes = bytes) (hzs : z.cells.size = size) (_hsz : 0 < size)
    (ad : Addr) (n : Nat) (xs : List Value) (hxl : xs.length = n * size) (hxs : ∀ j u, xs[j]? = some u → w.cell? (ad.add j) = some u)
    (a : Addr) (m c : Nat) (news : List Value) (hm : 0 < m) (hl : news.length = m * size) (hnews : ∀ j u, news[j]? = some u → w.cell? (a.add j) = some u)
    (h63 : n + m ≤ maxLen) (hbytes : (n + m) * bytes ≤ 140737488355328) (hbase : base ≤ w.heap.size) :
    ∃ v' w', (Builtin.append_ #[t, t] ty #[.slice (some ad) n n, .slice (some a) m c]).run P w = .ok v' w' ∧ w'.ownsRow base e size v' (n + m) (xs ++ news) ∧ Below w.heap.size w w' ∧ v'.ownBlock = some w.heap.size := by
  subst hsize
  subst hby
  have hsmall : n + m ≤ 9223372036854775807 := by simp only [maxLen] at h63; omega
  have hlen : (xs ++ news).length = (n + m) * i.size := by rw [List.length_append, hxl, hl, Nat.add_mul]
  have hr := run_append_grow (P := P) w t ty e i z ht hi hz ad n n xs hxl hxs a m c news hl hnews (by omega) (by omega) (growslice_fits (by omega) hbytes)
  refine ⟨_, _, hr, ⟨hlen, .inr ⟨w.heap.size, _, _, rfl, hbase, heap_alloc_new w.drew _, grownCap_ge w (n + m) n e, grownCap_le_maxLen w (n + m) n e h63, ?_, ?_⟩⟩, ⟨rfl, rfl, rfl, by simp, fun k hk => heap_alloc_old w.drew _ hk⟩, rfl⟩
  · have hge := grownCap_ge w (n + m) n e
    simp only [Array.size_append, List.size_toArray, size_zeroCells, hzs, hxl, hl, ← Nat.add_mul]
    congr 1
    omega
  · simp only [Array.toList_append, List.append_assoc]
    rw [← List.append_assoc, ← hlen]
    exact List.take_left
theorem wpList_append_full {P : Program} {w : World} {ops : Array Oper} {rest : List Oper} {o : Oper} {a : Act} {Q : Exit → Act → World → Prop} (hgd : o.guard = none) (s x : Operand) (t : TypeId)
    (ho : o.op = .call { callee := .builtin .append, args := #[s, x], argTypes := #[t, t] })
    (base : Nat) (e : TypeId) (i : TypeInfo) (z : Value) (size bytes : Nat) (ht : P.underlying t = some (.slice e)) (hi : P.info? e = some i) (hz : i.zero = some z)
    (hsize : i.size = size) (hby : i.bytes = bytes) (hzs : z.cells.size = size) (hsz : 0 < size)
    (ad0 : Addr) (n : Nat) (xs : List Value) (hs : a.eval s = .slice (some ad0) n n) (hxl : xs.length = n * size) (hxs : ∀ j u, xs[j]? = some u → w.cell? (ad0.add j) = some u)
    (ad : Addr) (m c : Nat) (news : List Value) (hx : a.eval x = .slice (some ad) m c) (hm : 0 < m) (hl : news.length = m * size) (hnews : ∀ j u, news[j]? = some u → w.cell? (ad.add j) = some u)
    (h63 : n + m ≤ maxLen) (hbytes : (n + m) * bytes ≤ 140737488355328) (hbase : base ≤ w.heap.size)
    (h : ∀ v' w', w'.ownsRow base e size v' (n + m) (xs ++ news) → Below w.heap.size w w' → v'.ownBlock = some w.heap.size → wpList P ops Q rest (a.put o.dst v') w') :
    wpList P ops Q (o :: rest) a w := by
  refine wpList_plain hgd fun K hK => ?_
  obtain ⟨v', w', hr, h2, h3, h4⟩ := run_append_full (P := P) w base t o.type e i z size bytes ht hi hz hsize hby hzs hsz ad0 n xs hxl hxs ad m c news hm hl hnews h63 hbytes hbase
  unfold Oper.wp execOp
  simp only [ho, resolve, invoke, builtin, Sem.run_bind, Sem.run_pure, Result.andThen_ok, List.map_toArray, List.map_cons, List.map_nil, hs, hx, hr]
  exact hK _ _ (h v' w' h2 h3 h4)
theorem step_append_full {P : Program} {ops : Array Oper} {o : Oper} {a : Act} {w : World} {K : Act → World → Prop} {Q : Exit → Act → World → Prop} {E : Prop} (hgd : o.guard = none) (s x : Operand) (t : TypeId)
    (ho : o.op = .call { callee := .builtin .append, args := #[s, x], argTypes := #[t, t] })
    (base : Nat) (e : TypeId) (i : TypeInfo) (z : Value) (size bytes : Nat) (ht : P.underlying t = some (.slice e)) (hi : P.info? e = some i) (hz : i.zero = some z)
    (hsize : i.size = size) (hby : i.bytes = bytes) (hzs : z.cells.size = size) (hsz : 0 < size)
    (ad0 : Addr) (n : Nat) (xs : List Value) (hs : a.eval s = .slice (some ad0) n n) (hxs : Rd w size (some ad0) n xs)
    (ad : Addr) (m c : Nat) (news : List Value) (hx : a.eval x = .slice (some ad) m c) (hm : 0 < m) (hnews : Rd w size (some ad) m news)
    (h63 : n + m ≤ maxLen) (hbytes : (n + m) * bytes ≤ 140737488355328) (hbase : base ≤ w.heap.size)
    (h : ∀ v' w', w'.ownsRow base e size v' (n + m) (xs ++ news) → Below w.heap.size w w' → K (a.put o.dst v') w') :
    if Region.wanted o (yielded ops a.tmps) = true then Oper.wp P o a w K Q else E := by
  have hw : Region.wanted o (yielded ops a.tmps) = true := by simp [Region.wanted, hgd]
  rw [if_pos hw]
  obtain ⟨v', w', hr, h2, h3, _⟩ := run_append_full (P := P) w base t o.type e i z size bytes ht hi hz hsize hby hzs hsz ad0 n xs hxs.1 hxs.news ad m c news hm hnews.1 hnews.news h63 hbytes hbase
  unfold Oper.wp execOp
  simp only [ho, resolve, invoke, builtin, Sem.run_bind, Sem.run_pure, Result.andThen_ok, List.map_toArray, List.map_cons, List.map_nil, hs, hx, hr]
  exact h v' w' h2 h3
theorem own_cap {w : World} {base k n b c : Nat} {t : TypeId} {xs : List Value} (h : w.ownsRow base t k (.slice (some ⟨b, 0, none⟩) n c) n xs) : n ≤ c := by
  rcases own_bk h with ⟨h1, _⟩ | ⟨g', cap, cs, hv, hb', hB', h1, _⟩
  · cases h1
  · cases hv; exact h1
/-- blocks from base on stay -/
structure Kp (base : Nat) (w w' : World) : Prop where
  size : w.heap.size ≤ w'.heap.size
  keep : ∀ i, base ≤ i → i < w.heap.size → w'.heap[i]? = w.heap[i]?
theorem Kp.trans {base : Nat} {a b c : World} (h : Kp base a b) (h' : Kp base b c) : Kp base a c :=
  ⟨Nat.le_trans h.size h'.size, fun i h1 h2 => (h'.keep i h1 (Nat.lt_of_lt_of_le h2 h.size)).trans (h.keep i h1 h2)⟩
theorem Kp.of {base : Nat} {w w' : World} (h : Below w.heap.size w w') : Kp base w w' := ⟨h.size, fun i _ h2 => h.block i h2⟩
theorem own_kp {w w' : World} {base k n : Nat} {t : TypeId} {v : Value} {xs : List Value} (h : w.ownsRow base t k v n xs) (hk : Kp base w w') : w'.ownsRow base t k v n xs := by
  have hlt := h.lt
  obtain ⟨h1, h2⟩ := h
  refine ⟨h1, ?_⟩
  rcases h2 with h2 | ⟨g', cap, cur, rfl, hbg, hg, hnc, hcm, hcs, ht⟩
  · exact .inl h2
  · exact .inr ⟨g', cap, cur, rfl, hbg, (hk.keep g' hbg (hlt g' rfl).2).trans hg, hnc, hcm, hcs, ht⟩
def extF (bt bl bb be : Nat) : Value := .func (.func 43) #[] #[.pointer (some ⟨bt, 0, none⟩), .pointer (some ⟨bl, 0, none⟩), .pointer (some ⟨bb, 0, none⟩), .pointer (some ⟨be, 0, none⟩)]
/-- the boxes of the search: the table, the best so far and its cost, the search itself -/
structure CSt (w0 w : World) (A : Option Addr) (n c bt bl bb be base : Nat) (s : List Int × Int) : Prop where
  low : Below w0.heap.size w0 w
  tb : Bk w bt 22 [.slice A n c]
  eb : Bk w be 55 [extF bt bl bb be]
  best : ∃ u, Bk w bb 24 [u] ∧ (0 ≤ s.2 → w.ownsRow base 3 1 u s.1.length (ints s.1))
  least : Bk w bl 3 [.int .i64 s.2]
  size : base ≤ w.heap.size
theorem CSt.on {w0 w w' : World} {A : Option Addr} {n c bt bl bb be base : Nat} {s : List Int × Int} (h : CSt w0 w A n c bt bl bb be base s) (hb : Below w.heap.size w w') (h0 : w0.heap.size ≤ w.heap.size) : CSt w0 w' A n c bt bl bb be base s := by
  obtain ⟨h1, h2, h3, ⟨u, h4, h5⟩, h6, h7⟩ := h
  exact ⟨h1.trans (hb.mono h0), h2.below hb h2.lt, h3.below hb h3.lt, ⟨u, h4.below hb h4.lt, fun h0 => own_below (h5 h0) hb⟩, h6.below hb h6.lt, Nat.le_trans h7 hb.size⟩
theorem CSt.put {w0 w : World} {A : Option Addr} {n c bt bl bb be base m : Nat} {s s' : List Int × Int} {u : Value} (h : CSt w0 w A n c bt bl bb be base s) (hu : w.ownsRow base 3 1 u m (ints s'.1)) (hm : m = s'.1.length)
    (hbb : w0.heap.size ≤ bb) (hbl : w0.heap.size ≤ bl) (n1 : bb ≠ bl) (n2 : bt ≠ bb) (n3 : bt ≠ bl) (n4 : be ≠ bb) (n5 : be ≠ bl) (hb1 : bb < base) (hb2 : bl < base) :
    CSt w0 ((w.setCell ⟨bb, 0, none⟩ u).setCell ⟨bl, 0, none⟩ (.int .i64 s'.2)) A n c bt bl bb be base s' ∧ Kp base w ((w.setCell ⟨bb, 0, none⟩ u).setCell ⟨bl, 0, none⟩ (.int .i64 s'.2)) := by
  subst hm
  obtain ⟨h1, h2, h3, ⟨u', h4, -⟩, h6, h7⟩ := h
  have hk : Kp base w ((w.setCell ⟨bb, 0, none⟩ u).setCell ⟨bl, 0, none⟩ (.int .i64 s'.2)) := ⟨by simp, fun i hi _ => by
    rw [Below.heap_setCell _ ⟨bl, 0, none⟩ _ i (by show i ≠ bl; omega), Below.heap_setCell _ ⟨bb, 0, none⟩ _ i (by show i ≠ bb; omega)]⟩
  exact ⟨⟨bset (bset h1 (p := ⟨bb, 0, none⟩) hbb _) (p := ⟨bl, 0, none⟩) hbl _, (h2.far (p := ⟨bb, 0, none⟩) n2 _).far (p := ⟨bl, 0, none⟩) n3 _, (h3.far (p := ⟨bb, 0, none⟩) n4 _).far (p := ⟨bl, 0, none⟩) n5 _,
    ⟨u, (h4.set_ 0 u).far (p := ⟨bl, 0, none⟩) n1 _, fun _ => own_kp hu hk⟩, (h6.far (p := ⟨bb, 0, none⟩) (fun e => n1 e.symm) _).set_ 0 _, by simpa using h7⟩, hk⟩
theorem ext_is {T : List (List Int)} {n : Nat} (hT : ∀ i, i < n → (row T i).length = n ∧ (row T i).all cellP = true) (hn5 : n ≤ 5) (hn1 : 1 ≤ n) (w0 : World) (A : Option Addr) (c bt bl bb be base : Nat) (hr : RdT w0 A n T)
    (hbt : w0.heap.size ≤ bt) (hbb : w0.heap.size ≤ bb) (hbl : w0.heap.size ≤ bl) (n1 : bb ≠ bl) (n2 : bt ≠ bb) (n3 : bt ≠ bl) (n4 : be ≠ bb) (n5 : be ≠ bl) (hb0 : bt < base) (hb1 : bb < base) (hb2' : bl < base) (hb3 : be < base) :
    ∀ (f : Nat) (zs : List Int), zs.length + f = n → zs.all (tskP n) = true → ∀ (b m cz : Nat) (s : List Int × Int), zs.length = m → ∀ (w : World), CSt w0 w A n c bt bl bb be base s → w.ownsRow base 3 1 (.slice (some ⟨b, 0, none⟩) m cz) m (ints zs) →
    Calls Try.prog 43 #[.slice (some ⟨b, 0, none⟩) m cz, .pointer (some ⟨bt, 0, none⟩), .pointer (some ⟨bl, 0, none⟩), .pointer (some ⟨bb, 0, none⟩), .pointer (some ⟨be, 0, none⟩)] w fun e w' => e = .returned (.tuple #[]) ∧ CSt w0 w' A n c bt bl bb be base (ext T n f zs s) ∧ Kp base w w'
  | 0, zs, hf, hz, b, m, cz, s, hm, w, hS, hO => by
    obtain rfl : m = n := by omega
    obtain ⟨L1, v1⟩ := s
    have i1 : ((m : Int) == (m : Int)) = true := by simp
    have hx := own_r hO
    have ct := hS.tb.cell 0
    have lt := hS.tb.lt
    have cl := hS.least.cell 0
    have ll := hS.least.lt
    have h0s := hS.low.size
    simp only [List.getElem?_cons_zero] at ct cl
    have hc := fun (W : World) (hW : Below w.heap.size w W) => cost_any A (some ⟨b, 0, none⟩) m m c cz T zs W ((hr.below hS.low).below hW) hT hn5 (hx.below hW) hm (Nat.le_refl _) hz
    obtain ⟨y, hy⟩ : ∃ y, cstA T zs m = y := ⟨_, rfl⟩
    rw [hy] at hc
    have he : ext T m 0 zs (L1, v1) = if v1 < 0 ∨ y < v1 then (zs, y) else (L1, v1) := by simp only [ext, hy]
    have HE := Lib.hid he
    clear hy he
    have HS := Lib.hid hS
    clear hS
    go_enter Try.func43, Try.ntmps43
    go_upto_region 2 with (go_at_call 44; refine (hc _ (Below.refl _ _)).mono ?_; rintro e w' ⟨rfl, hb⟩)
    have hS1 := HS.out.on hb h0s
    have cl := hS1.least.cell 0
    have ll := hS1.least.lt
    simp only [List.getElem?_cons_zero] at cl
    by_cases c1 : v1 < 0 ∨ y < v1
    · have HS1 := Lib.hid hS1
      have hcp := fun (W : World) (hW : Below w.heap.size w W) => copyInt_any b 0 m cz zs W (hx.below hW) (by omega)
      have H1 := Lib.hid c1
      rcases c1 with c2 | c2
      all_goals
        (try have c3 : v1 < 0 ∨ ¬ v1 < 0 := by omega)
        clear hS1
        by_cases c4 : v1 < 0
        all_goals try (exfalso; omega)
        all_goals
          go_wp2_with (go_at_call 45; refine (hcp _ hb).mono ?_; rintro e w2 ⟨v2, rfl, ho2, hb2⟩; obtain ⟨A2, c2', rfl, -⟩ := own_rd ho2; have hS2 := HS1.out.on hb2 (by have := hb.size; omega); obtain ⟨u2, hbk, -⟩ := id hS2.best; have cb := hbk.cell 0; have fb := hbk.frozen 0; have lb := hbk.lt; have cl := hS2.least.cell 0; have fl := hS2.least.frozen 0; have ll := hS2.least.lt; simp only [List.getElem?_cons_zero] at cb cl; have HS2 := Lib.hid hS2; have HO2 := Lib.hid ho2; clear ho2 hS2 hbk)
          go_returns
          obtain ⟨p1, p2⟩ := HS2.out.put (s' := (zs, y)) (own_weaken (base' := base) HO2.out (by have := HS1.out.size; have := hb.size; omega)) hm.symm hbb hbl n1 n2 n3 n4 n5 hb1 hb2'
          exact ⟨rfl, by rw [HE.out, if_pos H1.out]; exact p1, ((Kp.of hb).trans (Kp.of hb2)).trans p2⟩
    · have c2 : ¬ v1 < 0 := by omega
      have c3 : ¬ y < v1 := by omega
      have HS1 := Lib.hid hS1
      clear hS1
      go_wp2
      go_returns
      exact ⟨rfl, by rw [HE.out, if_neg c1]; exact HS1.out, Kp.of hb⟩
  | f + 1, zs, hf, hz, b, m, cz, s, hm, w, hS, hO => by
    obtain ⟨i0, hi0, hz0, hz1, hz2⟩ := info_parts (show (Try.prog.info? 3).map (fun i => (i.zero, i.size, i.bytes)) = some (some (.int .i64 0), 1, 8) from by kernel_rfl)
    have hmn : m < n := by omega
    have i1 : ((m : Int) == (n : Int)) = false := by simp; omega
    have ct := hS.tb.cell 0
    have lt := hS.tb.lt
    simp only [List.getElem?_cons_zero] at ct
    have HM := Lib.hid hm
    have HF := Lib.hid hf
    have HO := Lib.hid hO
    have HS := Lib.hid hS
    clear hm hf hO hS
    go_enter Try.func43, Try.ntmps43
    go_wp2
    go_loopw [28] (fun i wr => ∃ k : Nat, k ≤ n ∧ i = .int .i64 k ∧ CSt w0 wr A n c bt bl bb be base (exL (ext T n f) zs s k) ∧ Kp base w wr) (fun i _ => n - (intOf i).toNat)
    case atStart => exact ⟨0, Nat.zero_le _, rfl, HS.out, Kp.of (Below.refl _ _)⟩
    case round =>
      obtain ⟨k, hk, rfl, hS, hK⟩ := hrel
      have hO := own_kp HO.out hK
      have hcz : m ≤ cz := own_cap hO
      have hx := own_r hO
      have ce := hS.eb.cell 0
      have le := hS.eb.lt
      simp only [List.getElem?_cons_zero, extF] at ce
      by_cases hlt : k < n
      · have i2 : decide ((k : Int) < (n : Int)) = true := decide_eq_true (by omega)
        have i2' : decide (k < n) = true := decide_eq_true hlt
        rcases hc : zs.contains (k : Int) with _ | _
        · have hst := exL_no (rec := ext T n f) (s := s) hc
          have HC := Lib.hid hc
          have HT := Lib.hid hst
          have HS1 := Lib.hid hS
          clear hc hst hS
          go_wp2_with fail
          refine (has_is HC.out _ hx HM.out (by omega)).mono ?_
          rintro e w1 ⟨rfl, rfl⟩
          have hln : (zs ++ [(k : Int)]).length = m + 1 := by have := HM.out; simp; omega
          have HLN := Lib.hid hln
          clear hln
          have ih := fun b' c' W => ext_is hT hn5 hn1 w0 A c bt bl bb be base hr hbt hbb hbl n1 n2 n3 n4 n5 hb0 hb1 hb2' hb3 f (zs ++ [(k : Int)]) (by have := HF.out; simp; omega) (all_snoc hz hlt) b' (m + 1) c' (exL (ext T n f) zs s k) HLN.out W
          have s0 := HS1.out.low.size
          have sb := HS1.out.size
          go_upto_region 8 with fail
          go_region_law (first
            | (refine step_append_full (by rfl) (.tmp 41) (.tmp 43) 24 (by rfl) base 3 i0 _ 1 8 Try.underlying24 hi0 hz0 hz1 hz2 (by rfl) (by decide) ⟨b, 0, none⟩ m (ints zs) (by rfl) (hx.below (by (repeat' (first | (with_reducible exact Below.refl _ _) | (with_reducible assumption) | (with_reducible refine balloc ?_ _) | (with_reducible refine bdrew ?_) | (with_reducible refine bdrewN ?_ _) | (with_reducible refine bstep ?_ (by assumption)) | (with_reducible refine bset ?_ ?_ _) | (exact Below.size (by assumption)) | go_size)))) ⟨_, 0, none⟩ 1 1 [.int .i64 (k : Int)] (by rfl) (by omega) (by first | exact Bk.rd (Bk.drew (Bk.new' (by first | (simp; done) | (simp; omega)))) rfl | exact Bk.rd (Bk.new' (by first | (simp; done) | (simp; omega))) rfl) (by unfold maxLen; omega) (by omega) (by simp; omega) ?_; intro v1 w1 hown1 hgr1; have B1 : Below wr.heap.size wr w1 := bstep (show Below wr.heap.size wr _ from by (repeat' (first | (with_reducible exact Below.refl _ _) | (with_reducible assumption) | (with_reducible refine balloc ?_ _) | (with_reducible refine bdrew ?_) | (with_reducible refine bdrewN ?_ _) | (with_reducible refine bstep ?_ (by assumption)) | (with_reducible refine bset ?_ ?_ _) | (exact Below.size (by assumption)) | go_size))) hgr1; have ce1 := (HS1.out.on B1 s0).eb.cell 0; have le1 := (HS1.out.on B1 s0).eb.lt; simp only [List.getElem?_cons_zero, extF] at ce1; obtain ⟨b1', c1, rfl⟩ := own_some1 hown1 (by omega))
            | (go_simp; go_wp2_with (go_at_call 43; refine (ih b1' c1 _ (HS1.out.on B1 s0) (by rw [ints_snoc]; exact hown1)).mono ?_; rintro e w2 ⟨rfl, hS2, hK2⟩)))
          all_goals
            go_wp2
            go_roundw
            case rel => exact ⟨k + 1, by omega, by go_num, by rw [HT.out]; exact hS2, (hK.trans (Kp.of B1)).trans hK2⟩
            case measure => simp [intOf]; omega
        · have hst := exL_yes (rec := ext T n f) (s := s) hc
          have HC := Lib.hid hc
          have HT := Lib.hid hst
          have HS1 := Lib.hid hS
          clear hc hst hS
          go_wp2_with fail
          refine (has_is HC.out _ hx HM.out (by omega)).mono ?_
          rintro e w1 ⟨rfl, rfl⟩
          go_wp2
          go_roundw
          case rel => exact ⟨k + 1, by omega, by go_num, by rw [HT.out]; exact HS1.out, hK⟩
          case measure => simp [intOf]; omega
      · have i2 : decide ((k : Int) < (n : Int)) = false := decide_eq_false (by omega)
        have i2' : decide (k < n) = false := decide_eq_false hlt
        have hkn : k = n := by omega
        subst hkn
        have HS1 := Lib.hid hS
        clear hS
        go_wp2
        go_returns
        exact ⟨rfl, HS1.out, hK⟩
end Go.Proofs.Ytallgjobljkgnaa
