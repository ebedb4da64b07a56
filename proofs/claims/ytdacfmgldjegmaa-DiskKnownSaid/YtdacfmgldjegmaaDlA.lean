/- The statements' helpers: lists held against lists, Bring, reads, the chapter's disk. -/
import Derived.Test.YtdacfmgldjegmaaDrF
namespace Go.Ah
open Go.Proofs
set_option linter.unusedVariables false
set_option linter.unusedSimpArgs false
set_option maxRecDepth 20000

theorem eqBytes_any (h : Heap) {t1 t2 : Tag} {a1 a2 : Option Addr} {n1 n2 c1 c2 : Nat} {xs ys : List Int} (s1 : Sl h t1 a1 n1 c1 1 (bytesV xs)) (s2 : Sl h t2 a2 n2 c2 1 (bytesV ys)) (hn : n1 ≤ 4611686018427387904) :
    ACalls PR 17 #[.slice a1 n1 c1, .slice a2 n2 c2] h (fun v h' => v = .bool (decide (xs = ys)) ∧ h = h') := by
  have l1 : xs.length = n1 := by have := s1.len; simpa [bytesV] using this
  have l2 : ys.length = n2 := by have := s2.len; simpa [bytesV] using this
  refine acalls_pure ?_
  refine acalls_of mix Try.func17 rfl rfl Try.ntmps17 Try.results17 rfl ?_; conv => whnf
  by_cases hl : n1 = n2
  · refine ACmp.no (by omega) ?_; conv => whnf
    refine ALoop.mk (fun e h' => h = h' ∧ ∃ e0, ∃ k : Nat, e = updL 26 e0 [(0, .slice a1 n1 c1), (1, .slice a2 n2 c2), (5, I k)] ∧ k ≤ n1 ∧ xs.take k = ys.take k)
      (fun e => n1 - natOf (e 5)) ⟨rfl, _, 0, updL_self ⟨rfl, rfl, rfl, trivial⟩, by omega, by simp⟩ ?_
    rintro e h' ⟨rfl, e0, k, rfl, hk, he⟩
    conv => whnf
    by_cases hkn : k < n1
    · refine ACmp.yes (by omega) ?_; conv => whnf
      obtain ⟨b, off, l, E, fz, rfl, hb, hc⟩ := s1.pos (by omega)
      obtain ⟨b', off', l', E', fz', rfl, hb', hc'⟩ := s2.pos (by omega)
      have g : l[off + k * 1]? = some ((Value.int IntKind.u8) (xs[k]'(by omega))) := by rw [get_of_take hc (by omega), Nat.mul_one]; simp [bytesV, show k < xs.length by omega]
      have g' : l'[off' + k * 1]? = some ((Value.int IntKind.u8) (ys[k]'(by omega))) := by rw [get_of_take hc' (by omega), Nat.mul_one]; simp [bytesV, show k < ys.length by omega]
      refine ADrawn.mk (_) [] (Sub.refl _) (by decide +kernel) ?_; conv => whnf
      refine AIdx.nat rfl hkn rfl rfl ?_; conv => whnf
      refine ALoad.one rfl hb g ?_; conv => whnf
      refine AIdx.nat rfl (by omega) rfl rfl ?_; conv => whnf
      refine ALoad.one rfl hb' g' ?_; conv => whnf
      by_cases hx : xs[k]'(by omega) = ys[k]'(by omega)
      · (refine ACmp.no (by simpa using hx) ?_; conv => whnf)
        refine AArith.ok (by omega) (by omega) ((by omega : (k : Int) + 1 = ((k + 1 : Nat) : Int))) ?_; conv => whnf
        refine ⟨⟨rfl, _, k + 1, updL_self ⟨rfl, rfl, rfl, trivial⟩, by omega, ?_⟩, ?_⟩
        · rw [List.take_succ_eq_append_getElem (by omega), List.take_succ_eq_append_getElem (by omega), he, hx]
        · show n1 - (k + 1) < n1 - k
          omega
      · (refine ACmp.yes (by simpa using hx) ?_; conv => whnf)
        refine ⟨?_, Sub.refl _⟩
        have : xs ≠ ys := by rintro rfl; exact hx rfl
        simp [this]
    · refine ACmp.no (by omega) ?_; conv => whnf
      obtain rfl : k = n1 := by omega
      refine ⟨?_, Sub.refl _⟩
      have : xs = ys := by
        have e1 : xs.take k = xs := List.take_of_length_le (by omega)
        have e2 : ys.take k = ys := List.take_of_length_le (by omega)
        rw [← e1, ← e2, he]
      simp [this]
  · refine ACmp.yes (by omega) ?_; conv => whnf
    refine ⟨?_, Sub.refl _⟩
    have : xs ≠ ys := by rintro rfl; exact hl (by omega)
    simp [this]
theorem eqInts_any (h : Heap) {t1 t2 : Tag} {a1 a2 : Option Addr} {n1 n2 c1 c2 : Nat} {xs ys : List Int} (s1 : Sl h t1 a1 n1 c1 1 (xs.map I)) (s2 : Sl h t2 a2 n2 c2 1 (ys.map I)) (hn : n1 ≤ 4611686018427387904) :
    ACalls PR 48 #[.slice a1 n1 c1, .slice a2 n2 c2] h (fun v h' => v = .bool (decide (xs = ys)) ∧ h = h') := by
  have l1 : xs.length = n1 := by have := s1.len; simpa [bytesV] using this
  have l2 : ys.length = n2 := by have := s2.len; simpa [bytesV] using this
  refine acalls_pure ?_
  refine acalls_of mix Try.func48 rfl rfl Try.ntmps48 Try.results48 rfl ?_; conv => whnf
  by_cases hl : n1 = n2
  · refine ACmp.no (by omega) ?_; conv => whnf
    refine ALoop.mk (fun e h' => h = h' ∧ ∃ e0, ∃ k : Nat, e = updL 26 e0 [(0, .slice a1 n1 c1), (1, .slice a2 n2 c2), (5, I k)] ∧ k ≤ n1 ∧ xs.take k = ys.take k)
      (fun e => n1 - natOf (e 5)) ⟨rfl, _, 0, updL_self ⟨rfl, rfl, rfl, trivial⟩, by omega, by simp⟩ ?_
    rintro e h' ⟨rfl, e0, k, rfl, hk, he⟩
    conv => whnf
    by_cases hkn : k < n1
    · refine ACmp.yes (by omega) ?_; conv => whnf
      obtain ⟨b, off, l, E, fz, rfl, hb, hc⟩ := s1.pos (by omega)
      obtain ⟨b', off', l', E', fz', rfl, hb', hc'⟩ := s2.pos (by omega)
      have g : l[off + k * 1]? = some (I (xs[k]'(by omega))) := by rw [get_of_take hc (by omega), Nat.mul_one]; simp [bytesV, show k < xs.length by omega]
      have g' : l'[off' + k * 1]? = some (I (ys[k]'(by omega))) := by rw [get_of_take hc' (by omega), Nat.mul_one]; simp [bytesV, show k < ys.length by omega]
      refine ADrawn.mk (_) [] (Sub.refl _) (by decide +kernel) ?_; conv => whnf
      refine AIdx.nat rfl hkn rfl rfl ?_; conv => whnf
      refine ALoad.one rfl hb g ?_; conv => whnf
      refine AIdx.nat rfl (by omega) rfl rfl ?_; conv => whnf
      refine ALoad.one rfl hb' g' ?_; conv => whnf
      by_cases hx : xs[k]'(by omega) = ys[k]'(by omega)
      · (refine ACmp.no (by simpa using hx) ?_; conv => whnf)
        refine AArith.ok (by omega) (by omega) ((by omega : (k : Int) + 1 = ((k + 1 : Nat) : Int))) ?_; conv => whnf
        refine ⟨⟨rfl, _, k + 1, updL_self ⟨rfl, rfl, rfl, trivial⟩, by omega, ?_⟩, ?_⟩
        · rw [List.take_succ_eq_append_getElem (by omega), List.take_succ_eq_append_getElem (by omega), he, hx]
        · show n1 - (k + 1) < n1 - k
          omega
      · (refine ACmp.yes (by simpa using hx) ?_; conv => whnf)
        refine ⟨?_, Sub.refl _⟩
        have : xs ≠ ys := by rintro rfl; exact hx rfl
        simp [this]
    · refine ACmp.no (by omega) ?_; conv => whnf
      obtain rfl : k = n1 := by omega
      refine ⟨?_, Sub.refl _⟩
      have : xs = ys := by
        have e1 : xs.take k = xs := List.take_of_length_le (by omega)
        have e2 : ys.take k = ys := List.take_of_length_le (by omega)
        rw [← e1, ← e2, he]
      simp [this]
  · refine ACmp.yes (by omega) ?_; conv => whnf
    refine ⟨?_, Sub.refl _⟩
    have : xs ≠ ys := by rintro rfl; exact hl (by omega)
    simp [this]
theorem sameN_any (h : Heap) {t1 t2 : Tag} {a1 a2 : Option Addr} {n1 n2 c1 c2 : Nat} {xs ys : List Nm} (s1 : Sl h t1 a1 n1 c1 1 (xs.map S)) (s2 : Sl h t2 a2 n2 c2 1 (ys.map S)) (hn : n1 ≤ 4611686018427387904) :
    ACalls PR 23 #[.slice a1 n1 c1, .slice a2 n2 c2] h (fun v h' => v = .bool (decide (xs = ys)) ∧ h = h') := by
  have l1 : xs.length = n1 := by have := s1.len; simpa [bytesV] using this
  have l2 : ys.length = n2 := by have := s2.len; simpa [bytesV] using this
  refine acalls_pure ?_
  refine acalls_of mix Try.func23 rfl rfl Try.ntmps23 Try.results23 rfl ?_; conv => whnf
  by_cases hl : n1 = n2
  · refine ACmp.no (by omega) ?_; conv => whnf
    refine ALoop.mk (fun e h' => h = h' ∧ ∃ e0, ∃ k : Nat, e = updL 26 e0 [(0, .slice a1 n1 c1), (1, .slice a2 n2 c2), (5, I k)] ∧ k ≤ n1 ∧ xs.take k = ys.take k)
      (fun e => n1 - natOf (e 5)) ⟨rfl, _, 0, updL_self ⟨rfl, rfl, rfl, trivial⟩, by omega, by simp⟩ ?_
    rintro e h' ⟨rfl, e0, k, rfl, hk, he⟩
    conv => whnf
    by_cases hkn : k < n1
    · refine ACmp.yes (by omega) ?_; conv => whnf
      obtain ⟨b, off, l, E, fz, rfl, hb, hc⟩ := s1.pos (by omega)
      obtain ⟨b', off', l', E', fz', rfl, hb', hc'⟩ := s2.pos (by omega)
      have g : l[off + k * 1]? = some (S (xs[k]'(by omega))) := by rw [get_of_take hc (by omega), Nat.mul_one]; simp [bytesV, show k < xs.length by omega]
      have g' : l'[off' + k * 1]? = some (S (ys[k]'(by omega))) := by rw [get_of_take hc' (by omega), Nat.mul_one]; simp [bytesV, show k < ys.length by omega]
      refine ADrawn.mk (_) [] (Sub.refl _) (by decide +kernel) ?_; conv => whnf
      refine AIdx.nat rfl hkn rfl rfl ?_; conv => whnf
      refine ALoad.one rfl hb g ?_; conv => whnf
      refine AIdx.nat rfl (by omega) rfl rfl ?_; conv => whnf
      refine ALoad.one rfl hb' g' ?_; conv => whnf
      by_cases hx : xs[k]'(by omega) = ys[k]'(by omega)
      · (refine AStrOp.neq ?_; rw [decide_eq_true hx]; conv => whnf)
        refine AArith.ok (by omega) (by omega) ((by omega : (k : Int) + 1 = ((k + 1 : Nat) : Int))) ?_; conv => whnf
        refine ⟨⟨rfl, _, k + 1, updL_self ⟨rfl, rfl, rfl, trivial⟩, by omega, ?_⟩, ?_⟩
        · rw [List.take_succ_eq_append_getElem (by omega), List.take_succ_eq_append_getElem (by omega), he, hx]
        · show n1 - (k + 1) < n1 - k
          omega
      · (refine AStrOp.neq ?_; rw [decide_eq_false hx]; conv => whnf)
        refine ⟨?_, Sub.refl _⟩
        have : xs ≠ ys := by rintro rfl; exact hx rfl
        simp [this]
    · refine ACmp.no (by omega) ?_; conv => whnf
      obtain rfl : k = n1 := by omega
      refine ⟨?_, Sub.refl _⟩
      have : xs = ys := by
        have e1 : xs.take k = xs := List.take_of_length_le (by omega)
        have e2 : ys.take k = ys := List.take_of_length_le (by omega)
        rw [← e1, ← e2, he]
      simp [this]
  · refine ACmp.yes (by omega) ?_; conv => whnf
    refine ⟨?_, Sub.refl _⟩
    have : xs ≠ ys := by rintro rfl; exact hl (by omega)
    simp [this]

/-! ### causewayref00 -/
def bring (i n : Int) : Int := if n ≤ 0 then 0 else if i.tmod n < 0 then i.tmod n + n else i.tmod n
theorem bring_lo (i n : Int) : 0 ≤ bring i n := by
  unfold bring
  split
  · omega
  · rename_i h
    have := Int.lt_tmod_of_pos i (show 0 < n by omega)
    split <;> omega
theorem bring_hi {i n : Int} (h : 0 < n) : bring i n < n := by
  unfold bring
  have h1 := Int.tmod_lt_of_pos i h
  split
  · omega
  · split <;> omega
theorem bring_any (i n : Int) (hn : n ≤ 9223372036854775807) (h : Heap) : ACalls PR 18 #[I i, I n] h (fun v h' => v = I (bring i n) ∧ h = h') := by
  refine acalls_pure (acalls_of mix Try.func18 rfl rfl Try.ntmps18 Try.results18 rfl ?_); conv => whnf
  by_cases h0 : n ≤ 0
  · refine ACmp.yes (h0) ?_; conv => whnf
    exact ⟨by simp [bring, h0], Sub.refl _⟩
  · refine ACmp.no (h0) ?_; conv => whnf
    have h1 := Int.tmod_lt_of_pos i (show 0 < n by omega)
    have h2 := Int.lt_tmod_of_pos i (show 0 < n by omega)
    refine ⟨by omega, ?_⟩
    refine AInt.as (rfl) ?_; conv => whnf
    by_cases hneg : i.tmod n < 0
    · refine ACmp.yes (hneg) ?_; conv => whnf
      refine AArith.ok (by omega) (by omega) (rfl) ?_; conv => whnf
      exact ⟨by simp [bring, h0, hneg], Sub.refl _⟩
    · refine ACmp.no (hneg) ?_; conv => whnf
      exact ⟨by simp [bring, h0, hneg], Sub.refl _⟩

theorem reads_any {h : Heap} {p o : Nat} {D : DD} (da : DA h p o D) (g : Good D) (n : Nm) {tb : Tag} {ba : Option Addr} {bn bc : Nat} {b : List Int} (sb : Sl h tb ba bn bc 1 (bytesV b)) :
    ACalls PR 22 #[Ptr p, S n, .slice ba bn bc] h (fun v h' => v = .bool (decide (dread D n = (b, 0))) ∧ h = h') := by
  have hlen := g.read n
  refine acalls_pure ?_
  refine acalls_of mix Try.func22 rfl rfl Try.ntmps22 Try.results22 rfl ?_; conv => whnf
  refine ACalls.mono (Read_any da g n (0, 1)) ?_; rintro _ h2 ⟨a, c, rfl, own, s2⟩; conv => whnf
  by_cases he : (dread D n).2 = 0
  · refine ACmp.yes (by omega) ?_; conv => whnf
    refine ACalls.mono (eqBytes_any _ own.sl (sb.sub s2) (by omega)) ?_; rintro _ _ ⟨rfl, rfl⟩; conv => whnf
    refine ⟨?_, s2⟩
    congr 1
    refine decide_eq_decide.2 ⟨fun e => Prod.ext e he, fun e => congrArg Prod.fst e⟩
  · refine ACmp.no (by omega) ?_; conv => whnf
    refine ⟨?_, s2⟩
    rw [decide_eq_false]
    intro c; exact he (congrArg Prod.snd c)
end Go.Ah
