/- Walks of the small functions of packages causewayref00, causewayref17, slices that the statements of layer 17 use. -/
import Derived.Test.YtmlgbkighdiniaaLedA
namespace Go.Ah
open Go.Proofs
set_option linter.unusedVariables false
set_option linter.unusedSimpArgs false


/-! ### causewayref00 -/
def bring (i n : Int) : Int := if n ≤ 0 then 0 else if i.tmod n < 0 then i.tmod n + n else i.tmod n
theorem bring_lo (i n : Int) : 0 ≤ bring i n := by
  unfold bring
  split
  · omega
  · rename_i h
    have := Int.lt_tmod_of_pos i (show 0 < n by omega)
    split <;> omega
theorem bring_hi {i n : Int} (h : 0 < n) : bring i n < n := by
  unfold bring
  have h1 := Int.tmod_lt_of_pos i h
  split
  · omega
  · split <;> omega

theorem bring_any (i n : Int) (hn : n ≤ 9223372036854775807) (h : Heap) : ACalls PR 14 #[I i, I n] h (fun v h' => v = I (bring i n) ∧ h = h') := by
  refine acalls_pure (acalls_of mix Try.func14 rfl rfl Try.ntmps14 Try.results14 rfl ?_); conv => whnf
  by_cases h0 : n ≤ 0
  · refine ACmp.yes (h0) ?_; conv => whnf
    exact ⟨by simp [bring, h0], Sub.refl _⟩
  · refine ACmp.no (h0) ?_; conv => whnf
    have h1 := Int.tmod_lt_of_pos i (show 0 < n by omega)
    have h2 := Int.lt_tmod_of_pos i (show 0 < n by omega)
    refine ⟨by omega, ?_⟩
    refine AInt.as (rfl) ?_; conv => whnf
    by_cases hneg : i.tmod n < 0
    · refine ACmp.yes (hneg) ?_; conv => whnf
      refine AArith.ok (by omega) (by omega) (rfl) ?_; conv => whnf
      exact ⟨by simp [bring, h0, hneg], Sub.refl _⟩
    · refine ACmp.no (hneg) ?_; conv => whnf
      exact ⟨by simp [bring, h0, hneg], Sub.refl _⟩

theorem bytesV_get {xs : List Int} {k : Nat} (hk : k < xs.length) : (bytesV xs)[k]? = some (.int .u8 xs[k]) := by simp [bytesV, hk]

theorem eqBytes_any (h : Heap) {t1 t2 : Tag} {a1 a2 : Option Addr} {n1 n2 c1 c2 : Nat} {xs ys : List Int} (s1 : Sl h t1 a1 n1 c1 1 (bytesV xs)) (s2 : Sl h t2 a2 n2 c2 1 (bytesV ys)) (hn : n1 ≤ 4611686018427387904) :
    ACalls PR 52 #[.slice a1 n1 c1, .slice a2 n2 c2] h (fun v h' => v = .bool (decide (xs = ys)) ∧ h = h') := by
  have l1 : xs.length = n1 := by have := s1.len; simpa [bytesV] using this
  have l2 : ys.length = n2 := by have := s2.len; simpa [bytesV] using this
  refine acalls_pure (acalls_of mix Try.func52 rfl rfl Try.ntmps52 Try.results52 rfl ?_); conv => whnf
  by_cases hl : n1 = n2
  · refine ACmp.no (by omega) ?_; conv => whnf
    refine ALoop.mk (fun e h' => h = h' ∧ ∃ e0, ∃ k : Nat, e = updL 26 e0 [(0, .slice a1 n1 c1), (1, .slice a2 n2 c2), (5, I k)] ∧ k ≤ n1 ∧ xs.take k = ys.take k)
      (fun e => n1 - natOf (e 5)) ⟨rfl, _, 0, updL_self ⟨rfl, rfl, rfl, trivial⟩, by omega, by simp⟩ ?_
    rintro e h' ⟨rfl, e0, k, rfl, hk, he⟩
    conv => whnf
    by_cases hkn : k < n1
    · refine ACmp.yes (by omega) ?_; conv => whnf
      obtain ⟨b, off, l, E, fz, rfl, hb, hc⟩ := s1.pos (by omega)
      obtain ⟨b', off', l', E', fz', rfl, hb', hc'⟩ := s2.pos (by omega)
      have g : l[off + k * 1]? = some (.int .u8 (xs[k]'(by omega))) := by rw [get_of_take hc (by omega), Nat.mul_one, bytesV_get (by omega)]
      have g' : l'[off' + k * 1]? = some (.int .u8 (ys[k]'(by omega))) := by rw [get_of_take hc' (by omega), Nat.mul_one, bytesV_get (by omega)]
      refine ADrawn.mk (_) [] (Sub.refl _) (by decide +kernel) ?_; conv => whnf
      refine AIdx.nat rfl hkn rfl rfl ?_; conv => whnf
      refine ALoad.one rfl hb g ?_; conv => whnf
      refine AIdx.nat rfl (by omega) rfl rfl ?_; conv => whnf
      refine ALoad.one rfl hb' g' ?_; conv => whnf
      by_cases hx : xs[k]'(by omega) = ys[k]'(by omega)
      · refine ACmp.no (by simpa using hx) ?_; conv => whnf
        refine AArith.ok (by omega) (by omega) ((by omega : (k : Int) + 1 = ((k + 1 : Nat) : Int))) ?_; conv => whnf
        refine ⟨⟨rfl, _, k + 1, updL_self ⟨rfl, rfl, rfl, trivial⟩, by omega, ?_⟩, ?_⟩
        · rw [List.take_succ_eq_append_getElem (by omega), List.take_succ_eq_append_getElem (by omega), he, hx]
        · show n1 - (k + 1) < n1 - k
          omega
      · refine ACmp.yes (by simpa using hx) ?_; conv => whnf
        refine ⟨?_, Sub.refl _⟩
        have : xs ≠ ys := by rintro rfl; exact hx rfl
        simp [this]
    · refine ACmp.no (by omega) ?_; conv => whnf
      obtain rfl : k = n1 := by omega
      refine ⟨?_, Sub.refl _⟩
      have : xs = ys := by
        have e1 : xs.take k = xs := List.take_of_length_le (by omega)
        have e2 : ys.take k = ys := List.take_of_length_le (by omega)
        rw [← e1, ← e2, he]
      simp [this]
  · refine ACmp.yes (by omega) ?_; conv => whnf
    refine ⟨?_, Sub.refl _⟩
    have : xs ≠ ys := by rintro rfl; exact hl (by omega)
    simp [this]

/-! ### entries -/
theorem EH.val_cells (e : EH) : (Value.agg e.cells.toArray).cells.toList = e.cells := rfl
abbrev EH.val (e : EH) : Value := .agg #[I e.term, I e.index, I e.kind, .slice e.a e.n e.c]

theorem same_any (h : Heap) {t1 t2 : Tag} (x y : EH) (gx : x.Good h t1) (gy : y.Good h t2) (hn : x.n ≤ 4611686018427387904) :
    ACalls PR 32 #[x.val, y.val] h (fun v h' => v = .bool (decide (x.abs = y.abs)) ∧ h = h') := by
  refine acalls_pure (acalls_of mix Try.func32 rfl rfl Try.ntmps32 Try.results32 rfl ?_); conv => whnf
  refine ABox.mk (0, 1) rfl fun b1 f1 => ?_; conv => whnf
  refine ABox.mk (0, 1) rfl fun b2 f2 => ?_; conv => whnf
  have hs : Sub h ((h.set b1 (row (0, 1) [I x.term, I x.index, I x.kind, .slice x.a x.n x.c] 34)).set b2 (row (0, 1) [I y.term, I y.index, I y.kind, .slice y.a y.n y.c] 34)) := (f1.sub _).trans (f2.sub _)
  have k1 := f2.sub (row (0, 1) [I y.term, I y.index, I y.kind, .slice y.a y.n y.c] 34) _ _ (Heap.set_same h b1 (row (0, 1) [I x.term, I x.index, I x.kind, .slice x.a x.n x.c] 34))
  have k2 := Heap.set_same (h.set b1 (row (0, 1) [I x.term, I x.index, I x.kind, .slice x.a x.n x.c] 34)) b2 (row (0, 1) [I y.term, I y.index, I y.kind, .slice y.a y.n y.c] 34)
  have fin : ∀ {b : Bool}, b = decide (x.abs = y.abs) → Value.bool b = .bool (decide (x.abs = y.abs)) := fun e => by rw [e]
  refine ALoad.one rfl k1 rfl ?_; conv => whnf
  refine ALoad.one rfl k2 rfl ?_; conv => whnf
  by_cases h1 : x.term = y.term
  · refine ACmp.yes (h1) ?_; conv => whnf
    refine ALoad.one rfl k1 rfl ?_; conv => whnf
    refine ALoad.one rfl k2 rfl ?_; conv => whnf
    by_cases h2 : x.index = y.index
    · refine ACmp.yes (h2) ?_; conv => whnf
      refine ALoad.one rfl k1 rfl ?_; conv => whnf
      refine ALoad.one rfl k2 rfl ?_; conv => whnf
      by_cases h3 : x.kind = y.kind
      · refine ACmp.yes (h3) ?_; conv => whnf
        refine ALoad.one rfl k1 rfl ?_; conv => whnf
        refine ALoad.one rfl k2 rfl ?_; conv => whnf
        refine ACalls.mono (eqBytes_any _ (gx.sub hs) (gy.sub hs) hn) ?_; rintro _ _ ⟨rfl, rfl⟩; conv => whnf
        exact ⟨fin (by simp [EH.abs, h1, h2, h3]), hs⟩
      · refine ACmp.no (h3) ?_; conv => whnf
        exact ⟨fin (by simp [EH.abs, h3]), hs⟩
    · refine ACmp.no (h2) ?_; conv => whnf
      exact ⟨fin (by simp [EH.abs, h2]), hs⟩
  · refine ACmp.no (h1) ?_; conv => whnf
    exact ⟨fin (by simp [EH.abs, h1]), hs⟩

/-- A slice of entries that is read. -/
structure Ents (h : Heap) (t td : Tag) (a : Option Addr) (n c : Nat) (es : List EH) : Prop where
  sl : Sl h t a n c 4 (encs es)
  good : ∀ e ∈ es, e.Good h td
  small : ∀ e ∈ es, e.n ≤ 4611686018427387904

theorem Ents.len {h : Heap} {t td : Tag} {a : Option Addr} {n c : Nat} {es : List EH} (s : Ents h t td a n c es) : es.length = n := by
  have := s.sl.len
  rw [encs_length] at this; omega
theorem Ents.sub {h h' : Heap} {t td : Tag} {a : Option Addr} {n c : Nat} {es : List EH} (s : Ents h t td a n c es) (k : Sub h h') : Ents h' t td a n c es :=
  ⟨s.sl.sub k, fun e he => Sl.sub (s.good e he) k, s.small⟩

theorem alike_any (h : Heap) {t1 td1 t2 td2 : Tag} {a1 a2 : Option Addr} {n1 n2 c1 c2 : Nat} {xs ys : List EH} (s1 : Ents h t1 td1 a1 n1 c1 xs) (s2 : Ents h t2 td2 a2 n2 c2 ys) (hn : n1 ≤ 4611686018427387904) :
    ACalls PR 25 #[.slice a1 n1 c1, .slice a2 n2 c2] h (fun v h' => v = .bool (decide (xs.map EH.abs = ys.map EH.abs)) ∧ h = h') := by
  have l1 := s1.len
  have l2 := s2.len
  refine acalls_pure (acalls_of mix Try.func25 rfl rfl Try.ntmps25 Try.results25 rfl ?_); conv => whnf
  by_cases hl : n1 = n2
  · refine ACmp.no (by omega) ?_; conv => whnf
    refine ALoop.mk (fun e h' => h = h' ∧ ∃ e0, ∃ k : Nat, e = updL 27 e0 [(0, .slice a1 n1 c1), (1, .slice a2 n2 c2), (5, I k)] ∧ k ≤ n1 ∧ (xs.take k).map EH.abs = (ys.take k).map EH.abs)
      (fun e => n1 - natOf (e 5)) ⟨rfl, _, 0, updL_self ⟨rfl, rfl, rfl, trivial⟩, by omega, by simp⟩ ?_
    rintro e h' ⟨rfl, e0, k, rfl, hk, he⟩
    conv => whnf
    by_cases hkn : k < n1
    · refine ACmp.yes (by omega) ?_; conv => whnf
      obtain ⟨b, off, l, E, fz, rfl, hb, hc⟩ := s1.sl.pos (by omega)
      obtain ⟨b', off', l', E', fz', rfl, hb', hc'⟩ := s2.sl.pos (by omega)
      obtain ⟨x, hx⟩ : ∃ x, xs[k]? = some x := ⟨xs[k]'(by omega), by simp⟩
      obtain ⟨y, hy⟩ : ∃ y, ys[k]? = some y := ⟨ys[k]'(by omega), by simp⟩
      have mx : x ∈ xs := List.mem_of_getElem? hx
      have my : y ∈ ys := List.mem_of_getElem? hy
      have g : (l.drop (off + k * 4)).take 4 = x.cells := by rw [part_of_take hc (by omega), encs_part hx]
      have g' : (l'.drop (off' + k * 4)).take 4 = y.cells := by rw [part_of_take hc' (by omega), encs_part hy]
      refine ADrawn.mk (_) [] (Sub.refl _) (by decide +kernel) ?_; conv => whnf
      refine AIdx.nat rfl hkn rfl rfl ?_; conv => whnf
      refine ALoad.agg rfl hb g rfl ?_; conv => whnf
      refine AIdx.nat rfl (by omega) rfl rfl ?_; conv => whnf
      refine ALoad.agg rfl hb' g' rfl ?_; conv => whnf
      refine ACalls.mono (same_any _ x y (s1.good x mx) (s2.good y my) (s1.small x mx)) ?_; rintro _ _ ⟨rfl, rfl⟩; conv => whnf
      refine ⟨Sub.refl _, ?_⟩
      conv => whnf
      by_cases hxy : x.abs = y.abs
      · rw [decide_eq_true hxy]
        conv => whnf
        refine AArith.ok (by omega) (by omega) ((by omega : (k : Int) + 1 = ((k + 1 : Nat) : Int))) ?_; conv => whnf
        refine ⟨⟨rfl, _, k + 1, updL_self ⟨rfl, rfl, rfl, trivial⟩, by omega, ?_⟩, ?_⟩
        · rw [List.take_succ_eq_append_getElem (by omega), List.take_succ_eq_append_getElem (by omega), List.map_append, List.map_append, he]
          have e1 : xs[k]'(by omega) = x := (List.getElem?_eq_some_iff.1 hx).2
          have e2 : ys[k]'(by omega) = y := (List.getElem?_eq_some_iff.1 hy).2
          rw [e1, e2]
          simp [hxy]
        · show n1 - (k + 1) < n1 - k
          omega
      · rw [decide_eq_false hxy]
        conv => whnf
        refine ⟨?_, Sub.refl _⟩
        have : xs.map EH.abs ≠ ys.map EH.abs := by
          intro c
          have := congrArg (fun l => l[k]?) c
          simp [hx, hy] at this
          exact hxy this
        simp [this]
    · refine ACmp.no (by omega) ?_; conv => whnf
      obtain rfl : k = n1 := by omega
      refine ⟨?_, Sub.refl _⟩
      have : xs.map EH.abs = ys.map EH.abs := by
        have e1 : xs.take k = xs := List.take_of_length_le (by omega)
        have e2 : ys.take k = ys := List.take_of_length_le (by omega)
        rw [← e1, ← e2, he]
      simp [this]
  · refine ACmp.yes (by omega) ?_; conv => whnf
    refine ⟨?_, Sub.refl _⟩
    have : xs.map EH.abs ≠ ys.map EH.abs := by
      intro c
      have := congrArg List.length c
      simp at this
      omega
    simp [this]
end Go.Ah
