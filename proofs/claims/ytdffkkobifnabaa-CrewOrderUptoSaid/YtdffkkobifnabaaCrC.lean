/- Walks: Check, sum, Of, Most, Change, Bring, some. -/
import Derived.Test.YtdffkkobifnabaaCrB
namespace Go.Ah
open Go.Proofs
set_option linter.unusedVariables false
set_option linter.unusedSimpArgs false

def chk (c : Int) : Int := if m5 c ≠ 0 ∧ c = ((2 * m5 c : Nat) : Int) then 0 else 180
theorem Check_any (h : Heap) (c : Int) (hc : -9223372036854775808 ≤ c) (hc' : c ≤ 9223372036854775807) : ACalls PR 16 #[I c] h (fun v h' => v = I (chk c) ∧ h = h') := by
  refine acalls_pure (acalls_of mix Try.func16 rfl rfl Try.ntmps16 Try.results16 rfl ?_); conv => whnf
  refine AInt.as (and62 c) ?_; conv => whnf
  refine ACmp.split (fun h1 => ?_) (fun h1 => ?_)
  · conv => whnf
    exact ⟨by rw [chk, if_neg (by omega)], Sub.refl _⟩
  · conv => whnf
    refine AInt.raw ?_; conv => whnf
    refine ACmp.split (fun h2 => ?_) (fun h2 => ?_)
    · conv => whnf
      refine ⟨?_, Sub.refl _⟩
      rw [chk, if_neg]
      rintro ⟨_, e⟩
      exact h2 ((andnot62 hc hc').2 e)
    · conv => whnf
      refine ⟨?_, Sub.refl _⟩
      rw [chk, if_pos ⟨by omega, (andnot62 hc hc').1 (Classical.not_not.1 h2)⟩]

/-! ### sum -/
def smTo (l : List Int) : Nat → Nat
  | 0 => 0
  | j + 1 => if ((j : Int) + 1) ∈ l then smTo l j + 2 ^ j else smTo l j
def sm (l : List Int) : Nat := smTo l 5
theorem smTo_lt (l : List Int) : ∀ j, smTo l j < 2 ^ j
  | 0 => by simp [smTo]
  | j + 1 => by
    have := smTo_lt l j
    unfold smTo
    rw [Nat.pow_succ]
    split <;> omega
theorem bt_add : ∀ j, j < 5 → ∀ k, k < 2 ^ j → ∀ i, i < 5 → bt (k + 2 ^ j) i = (bt k i || decide (i = j)) := by decide +kernel
theorem bt_high : ∀ j, j < 6 → ∀ k, k < 2 ^ j → ∀ i, i < 5 → j ≤ i → bt k i = false := by decide +kernel
theorem smTo_bt (l : List Int) : ∀ j, j ≤ 5 → ∀ i, i < 5 → bt (smTo l j) i = (decide (i < j) && decide (((i : Int) + 1) ∈ l))
  | 0, _, i, hi => by
    have : ∀ i, i < 5 → bt 0 i = false := by decide
    simp [smTo, this i hi]
  | j + 1, hj, i, hi => by
    have ih := smTo_bt l j (by omega) i hi
    have hlt := smTo_lt l j
    unfold smTo
    by_cases hm : ((j : Int) + 1) ∈ l
    · rw [if_pos hm, bt_add j (by omega) _ hlt i hi, ih]
      by_cases e : i = j
      · subst e; simp [hm]
      · have : decide (i < j + 1) = decide (i < j) := by rw [decide_eq_decide]; omega
        simp [e, this]
    · rw [if_neg hm, ih]
      by_cases e : i = j
      · subst e; simp [hm]
      · have : decide (i < j + 1) = decide (i < j) := by rw [decide_eq_decide]; omega
        rw [this]
theorem sm_lt (l : List Int) : sm l < 32 := smTo_lt l 5
theorem sm_bt (l : List Int) {i : Nat} (hi : i < 5) : bt (sm l) i = decide (((i : Int) + 1) ∈ l) := by
  unfold sm; rw [smTo_bt l 5 (by omega) i hi, decide_eq_true hi, Bool.true_and]
theorem sm_mk {l : List Int} (h : l.all ok1 = true) : sm l = mk l :=
  bits_ext (sm_lt l) (mk_lt l h 0 (by omega)) fun i hi => by rw [sm_bt l hi, mk_bt' h hi]
theorem sm_ls (k : Nat) (h : k < 32) : sm (ls k) = k := by rw [sm_mk (ls_ok k h), mk_ls k h]
theorem shl_pow : ∀ k : Nat, k < 5 → IntKind.i64.wrap (1 * 2 ^ (min ((k : Int) + 1).toNat 64)) = ((2 ^ (k + 1) : Nat) : Int) := by decide +kernel

theorem mem_take_succ {l : List Int} {i : Nat} (h : i < l.length) (x : Int) : x ∈ l.take (i + 1) ↔ x ∈ l.take i ∨ l[i] = x := by
  rw [List.take_succ_eq_append_getElem h, List.mem_append, List.mem_singleton]
  exact or_congr Iff.rfl eq_comm

theorem sum_any (h : Heap) {t : Tag} {a : Option Addr} {n cp : Nat} {l : List Int} (s : Sl h t a n cp 1 (l.map I)) (hn : n ≤ 4611686018427387904) :
    ACalls PR 37 #[.slice a n cp] h (fun v h' => v = I ((2 * sm l : Nat) : Int) ∧ h = h') := by
  have hl : l.length = n := by simpa using s.len
  refine acalls_pure (acalls_of mix Try.func37 rfl rfl Try.ntmps37 Try.results37 rfl ?_); conv => whnf
  refine ALoop.mk (fun e h' => Sub h h' ∧ ∃ e0, ∃ k : Nat, e = updL 32 e0 [(0, .slice a n cp), (3, I ((2 * smTo l k : Nat) : Int)), (4, I ((k : Int) + 1))] ∧ k ≤ 5) (fun e => 6 - natOf (e 4))
    ⟨Sub.refl _, _, 0, updL_self ⟨rfl, rfl, rfl, trivial⟩, by omega⟩ ?_
  rintro e h2 ⟨s2, e0, k, rfl, hk⟩
  conv => whnf
  by_cases hk5 : k < 5
  · refine ACmp.yes (by omega) ?_; conv => whnf
    refine ALoop.mk (fun e h' => Sub h h' ∧ ∃ e0, ∃ i : Nat, e = updL 32 e0 [(0, .slice a n cp), (3, I ((2 * smTo l k : Nat) : Int)), (4, I ((k : Int) + 1)), (5, .bool (decide (((k : Int) + 1) ∈ l.take i))), (6, I i)] ∧ i ≤ n) (fun e => n - natOf (e 6))
      ⟨s2, _, 0, updL_self ⟨rfl, rfl, rfl, show Value.bool false = Value.bool (decide _) by simp, rfl, trivial⟩, by omega⟩ ?_
    rintro e h3 ⟨s3, e1, i, rfl, hi⟩
    cases hd : decide (((k : Int) + 1) ∈ l.take i) with
    | true =>
      conv => whnf
      have hm := of_decide_eq_true hd
      by_cases hin : i < n
      · refine ACmp.yes (by omega) ?_; conv => whnf
        refine AArith.ok (by omega) (by omega) ((by omega : (i : Int) + 1 = ((i + 1 : Nat) : Int))) ?_; conv => whnf
        refine ⟨⟨s3, _, i + 1, updL_self ⟨rfl, rfl, rfl, by rw [decide_eq_true ((mem_take_succ (by omega) _).2 (.inl hm))]; rfl, rfl, trivial⟩, by omega⟩, ?_⟩
        show n - (i + 1) < n - i
        omega
      · refine ACmp.no (by omega) ?_; conv => whnf
        have hml : ((k : Int) + 1) ∈ l := List.mem_of_mem_take hm
        refine ⟨by omega, ?_⟩
        conv => whnf
        refine AArith.as (shl_pow k hk5) ?_; conv => whnf
        have h1 := smTo_lt l k
        have e2 : smTo l (k + 1) = smTo l k + 2 ^ k := by rw [smTo, if_pos hml]
        have h5 : 2 ^ k ≤ 16 := Nat.pow_le_pow_right (by omega) (show k ≤ 4 by omega)
        have e3 : ((2 * smTo l k : Nat) : Int) + ((2 ^ (k + 1) : Nat) : Int) = ((2 * smTo l (k + 1) : Nat) : Int) := by rw [e2, Nat.pow_succ]; omega
        refine AArith.ok (by rw [e3]; omega) (by rw [e3, e2]; omega) e3 ?_; conv => whnf
        refine AArith.ok (by omega) (by omega) ((by omega : (k : Int) + 1 + 1 = ((k + 1 : Nat) : Int) + 1)) ?_; conv => whnf
        refine ⟨⟨s3, _, k + 1, updL_self ⟨rfl, rfl, rfl, trivial⟩, by omega⟩, ?_⟩
        show 6 - (((k + 1 : Nat) : Int) + 1).toNat < 6 - ((k : Int) + 1).toNat
        omega
    | false =>
      conv => whnf
      have hm := of_decide_eq_false hd
      by_cases hin : i < n
      · refine ACmp.yes (by omega) ?_; conv => whnf
        obtain ⟨b, off, L, E, fz, rfl, hb, hc⟩ := (s.sub s3).pos (by omega)
        have g1 : L[off + i * 1]? = some (I l[i]) := by rw [get_of_take hc (by omega)]; simp
        refine AIdx.nat (z := 1) (j := i) rfl hin rfl rfl ?_; conv => whnf
        refine ALoad.one rfl hb g1 ?_; conv => whnf
        refine ACmp.dec ?_
        conv => whnf
        refine AArith.ok (by omega) (by omega) ((by omega : (i : Int) + 1 = ((i + 1 : Nat) : Int))) ?_; conv => whnf
        refine ⟨⟨s3, _, i + 1, updL_self ⟨rfl, rfl, rfl, ?_, rfl, trivial⟩, by omega⟩, ?_⟩
        · refine congrArg Value.bool ?_
          rw [decide_eq_decide, mem_take_succ (by omega)]
          exact ⟨.inr, fun x => x.resolve_left hm⟩
        show n - (i + 1) < n - i
        omega
      · refine ACmp.no (by omega) ?_; conv => whnf
        have hml : ¬ ((k : Int) + 1) ∈ l := by rwa [List.take_of_length_le (by omega)] at hm
        have e2 : smTo l (k + 1) = smTo l k := by rw [smTo, if_neg hml]
        refine AArith.ok (by omega) (by omega) ((by omega : (k : Int) + 1 + 1 = ((k + 1 : Nat) : Int) + 1)) ?_; conv => whnf
        refine ⟨⟨s3, _, k + 1, updL_self ⟨rfl, by rw [e2]; rfl, rfl, trivial⟩, by omega⟩, ?_⟩
        show 6 - (((k + 1 : Nat) : Int) + 1).toNat < 6 - ((k : Int) + 1).toNat
        omega
  · refine ACmp.no (by omega) ?_; conv => whnf
    obtain rfl : k = 5 := by omega
    exact ⟨rfl, s2⟩

theorem refCheck_any (h : Heap) (c : Int) (hc : -9223372036854775808 ≤ c) (hc' : c ≤ 9223372036854775807) : ACalls PR 17 #[I c] h (fun v h' => v = I (chk c) ∧ h = h') := by
  refine acalls_pure (acalls_of mix Try.func17 rfl rfl Try.ntmps17 Try.results17 rfl ?_); conv => whnf
  refine ACmp.split (fun h1 => ?_) (fun h1 => ?_)
  · conv => whnf
    exact ⟨by rw [chk, if_neg (by omega)], Sub.refl _⟩
  · conv => whnf
    refine ACalls.mono (refList_any h c hc hc') ?_; rintro _ h2 ⟨a, cp, t, rfl, s, s2⟩; conv => whnf
    have hp := pop_le (m5 c)
    have hln := ls_len _ (m5_lt c)
    refine ACalls.mono (sum_any h2 s (by omega)) ?_; rintro _ _ ⟨rfl, rfl⟩; conv => whnf
    rw [sm_ls _ (m5_lt c)]
    refine ACmp.split (fun h2 => ?_) (fun h2 => ?_)
    · conv => whnf
      exact ⟨by rw [chk, if_neg (by omega)], s2⟩
    · conv => whnf
      exact ⟨by rw [chk, if_pos (by omega)], s2⟩

/-! ### Of -/
def ofC (l : List Int) : Int := if l.all ok1 = true then ((2 * mk l : Nat) : Int) else 0
def ofE (l : List Int) : Int := if l.all ok1 = true then (if mk l = 0 then 180 else 0) else 2
theorem chk_two {k : Nat} (h : k < 32) : chk ((2 * k : Nat) : Int) = if k = 0 then 180 else 0 := by
  have e : m5 ((2 * k : Nat) : Int) = k := by unfold m5; omega
  unfold chk
  rw [e]
  by_cases c : k = 0 <;> simp [c]
theorem all_take_succ {l : List Int} {i : Nat} (h : i < l.length) (a : (l.take i).all ok1 = true) (b : ok1 l[i] = true) : (l.take (i + 1)).all ok1 = true := by
  rw [List.take_succ_eq_append_getElem h, List.all_append, a]; simp [b]
theorem not_all {l : List Int} {i : Nat} (h : i < l.length) (b : ¬ ok1 l[i] = true) : ¬ l.all ok1 = true := by
  intro c
  exact b (List.all_eq_true.1 c _ (List.getElem_mem h))

theorem Of_any (h : Heap) {t : Tag} {a : Option Addr} {n cp : Nat} {l : List Int} (s : Sl h t a n cp 1 (l.map I)) (hn : n ≤ 4611686018427387904) :
    ACalls PR 27 #[.slice a n cp] h (fun v h' => v = .tuple #[I (ofC l), I (ofE l)] ∧ h = h') := by
  have hl : l.length = n := by simpa using s.len
  refine acalls_pure (acalls_of mix Try.func27 rfl rfl Try.ntmps27 Try.results27 rfl ?_); conv => whnf
  refine ALoop.mk (fun e h' => Sub h h' ∧ ∃ e0, ∃ k : Nat, e = updL 27 e0 [(4, I ((2 * mk (l.take k) : Nat) : Int)), (7, .slice a n cp), (8, I n), (9, I k)] ∧ k ≤ n ∧ (l.take k).all ok1 = true) (fun e => n - natOf (e 9))
    ⟨Sub.refl _, _, 0, updL_self ⟨rfl, rfl, rfl, rfl, trivial⟩, by omega, rfl⟩ ?_
  rintro e h2 ⟨s2, e0, k, rfl, hk, hall⟩
  conv => whnf
  by_cases hkn : k < n
  · refine ACmp.yes (by omega) ?_; conv => whnf
    obtain ⟨b, off, L, E, fz, rfl, hb, hc⟩ := (s.sub s2).pos (by omega)
    have g1 : L[off + k * 1]? = some (I l[k]) := by rw [get_of_take hc (by omega)]; simp
    refine AIdx.nat (z := 1) (j := k) rfl hkn rfl rfl ?_; conv => whnf
    refine ALoad.one rfl hb g1 ?_; conv => whnf
    have fin : ¬ ok1 l[k] = true → (Value.tuple #[I 0, I 2] : Value) = .tuple #[I (ofC l), I (ofE l)] := fun c => by
      have := not_all (by omega) c
      rw [ofC, ofE, if_neg this, if_neg this]
    refine ACmp.split (fun h1 => ?_) (fun h1 => ?_)
    · conv => whnf
      exact ⟨fin (fun c => by have := of_decide_eq_true c; omega), s2⟩
    · conv => whnf
      refine ACmp.split (fun h2 => ?_) (fun h2 => ?_)
      · conv => whnf
        exact ⟨fin (fun c => by have := of_decide_eq_true c; omega), s2⟩
      · conv => whnf
        obtain ⟨j, hj, ej⟩ : ∃ j : Nat, j < 5 ∧ l[k] = (j : Int) + 1 := ⟨(l[k] - 1).toNat, by omega, by omega⟩
        rw [ej]
        refine ⟨by omega, ?_⟩
        conv => whnf
        refine AArith.as (shl_pow j hj) ?_; conv => whnf
        have hlt : mk (l.take k) < 32 := mk_lt _ hall 0 (by omega)
        refine AInt.as ((or_step _ hlt j hj).2) ?_; conv => whnf
        refine AArith.ok (by omega) (by omega) ((by omega : (k : Int) + 1 = ((k + 1 : Nat) : Int))) ?_; conv => whnf
        refine ⟨⟨s2, _, k + 1, updL_self ⟨?_, rfl, rfl, rfl, trivial⟩, by omega, all_take_succ (by omega) hall (by rw [ej]; exact decide_eq_true (by omega))⟩, ?_⟩
        · rw [List.take_succ_eq_append_getElem (by omega), mk_snoc, ej, show ((j : Int) + 1 - 1).toNat = j by omega]; rfl
        show n - (k + 1) < n - k
        omega
  · refine ACmp.no (by omega) ?_; conv => whnf
    obtain rfl : k = n := by omega
    rw [List.take_of_length_le (by omega)] at hall
    rw [List.take_of_length_le (by omega)]
    have hlt : mk l < 32 := mk_lt _ hall 0 (by omega)
    refine ACalls.mono (Check_any h2 _ (by omega) (by omega)) ?_; rintro _ _ ⟨rfl, rfl⟩; conv => whnf
    refine ⟨?_, s2⟩
    rw [chk_two hlt, ofC, ofE, if_pos hall, if_pos hall]

theorem refOf_any (h : Heap) {t : Tag} {a : Option Addr} {n cp : Nat} {l : List Int} (s : Sl h t a n cp 1 (l.map I)) (hn : n ≤ 4611686018427387904) :
    ACalls PR 28 #[.slice a n cp] h (fun v h' => v = .tuple #[I (ofC l), I (ofE l)] ∧ h = h') := by
  have hl : l.length = n := by simpa using s.len
  refine acalls_pure (acalls_of mix Try.func28 rfl rfl Try.ntmps28 Try.results28 rfl ?_); conv => whnf
  refine ALoop.mk (fun e h' => Sub h h' ∧ ∃ e0, ∃ k : Nat, e = updL 28 e0 [(0, .slice a n cp), (4, I k)] ∧ k ≤ n ∧ (l.take k).all ok1 = true) (fun e => n - natOf (e 4))
    ⟨Sub.refl _, _, 0, updL_self ⟨rfl, rfl, trivial⟩, by omega, rfl⟩ ?_
  rintro e h2 ⟨s2, e0, k, rfl, hk, hall⟩
  conv => whnf
  by_cases hkn : k < n
  · refine ACmp.yes (by omega) ?_; conv => whnf
    obtain ⟨b, off, L, E, fz, rfl, hb, hc⟩ := (s.sub s2).pos (by omega)
    have g1 : L[off + k * 1]? = some (I l[k]) := by rw [get_of_take hc (by omega)]; simp
    refine AIdx.nat (z := 1) (j := k) rfl hkn rfl rfl ?_; conv => whnf
    refine ALoad.one rfl hb g1 ?_; conv => whnf
    have fin : ¬ ok1 l[k] = true → (Value.tuple #[I 0, I 2] : Value) = .tuple #[I (ofC l), I (ofE l)] := fun c => by
      have := not_all (by omega) c
      rw [ofC, ofE, if_neg this, if_neg this]
    refine ACmp.split (fun h1 => ?_) (fun h1 => ?_)
    · conv => whnf
      exact ⟨fin (fun c => by have := of_decide_eq_true c; omega), s2⟩
    · conv => whnf
      refine AIdx.nat (z := 1) (j := k) rfl hkn rfl rfl ?_; conv => whnf
      refine ALoad.one rfl hb g1 ?_; conv => whnf
      refine ACmp.split (fun h2 => ?_) (fun h2 => ?_)
      · conv => whnf
        exact ⟨fin (fun c => by have := of_decide_eq_true c; omega), s2⟩
      · conv => whnf
        refine AArith.ok (by omega) (by omega) ((by omega : (k : Int) + 1 = ((k + 1 : Nat) : Int))) ?_; conv => whnf
        refine ⟨⟨s2, _, k + 1, updL_self ⟨rfl, rfl, trivial⟩, by omega, all_take_succ (by omega) hall (decide_eq_true (by omega))⟩, ?_⟩
        show n - (k + 1) < n - k
        omega
  · refine ACmp.no (by omega) ?_; conv => whnf
    obtain rfl : k = n := by omega
    rw [List.take_of_length_le (by omega)] at hall
    by_cases h0 : k = 0
    · refine ACmp.yes (by omega) ?_; conv => whnf
      have : l = [] := List.eq_nil_of_length_eq_zero (by omega)
      subst this
      exact ⟨rfl, s2⟩
    · refine ACmp.no (by omega) ?_; conv => whnf
      refine ACalls.mono (sum_any h2 (s.sub s2) hn) ?_; rintro _ _ ⟨rfl, rfl⟩; conv => whnf
      refine ⟨?_, s2⟩
      rw [sm_mk hall, ofC, ofE, if_pos hall, if_pos hall, if_neg]
      intro hz
      obtain ⟨x, r, rfl⟩ : ∃ x r, l = x :: r := by
        cases l with
        | nil => simp at hl; omega
        | cons x r => exact ⟨x, r, rfl⟩
      obtain ⟨j, hj, rfl⟩ := ok1_pos (by simp only [List.all_cons, Bool.and_eq_true] at hall; exact hall.1)
      have := mk_bt' hall hj
      rw [hz, decide_eq_true (by simp)] at this
      have h0 : ∀ i, i < 5 → bt 0 i = false := by decide
      rw [h0 j hj] at this
      cases this

/-! ### Most, Change -/
theorem Most_any (h : Heap) (a b : Int) : ACalls PR 29 #[I a, I b] h (fun v h' => v = .bool (decide (pop (m5 a) < 2 * pop (m5 a &&& m5 b))) ∧ h = h') := by
  refine acalls_pure (acalls_of mix Try.func29 rfl rfl Try.ntmps29 Try.results29 rfl ?_); conv => whnf
  refine AInt.as (r' := IntKind.i64.wrap ((BitVec.ofInt 64 a &&& BitVec.ofInt 64 b).toNat : Int)) rfl ?_; conv => whnf
  refine ACalls.mono (Count_any h _) ?_
  rw [m5_and]
  rintro _ _ ⟨rfl, rfl⟩
  conv => whnf
  have h1 := pop_le (m5 a &&& m5 b)
  have h2 := pop_le (m5 a)
  refine AArith.ok (by omega) (by omega) rfl ?_; conv => whnf
  refine ACalls.mono (Count_any h _) ?_; rintro _ _ ⟨rfl, rfl⟩; conv => whnf
  refine ACmp.dec ?_
  conv => whnf
  refine ⟨?_, Sub.refl _⟩
  refine congrArg Value.bool ?_
  rw [decide_eq_decide]; omega

def chg (a b : Int) : Int := if chk a = 0 ∧ chk b = 0 ∧ pop (m5 a ^^^ m5 b) = 1 then 0 else 180
theorem Change_any (h : Heap) (a b : Int) (ha : -9223372036854775808 ≤ a) (ha' : a ≤ 9223372036854775807) (hb : -9223372036854775808 ≤ b) (hb' : b ≤ 9223372036854775807) : ACalls PR 31 #[I a, I b] h (fun v h' => v = I (chg a b) ∧ h = h') := by
  refine acalls_pure (acalls_of mix Try.func31 rfl rfl Try.ntmps31 Try.results31 rfl ?_); conv => whnf
  refine ACalls.mono (Check_any h a ha ha') ?_; rintro _ _ ⟨rfl, rfl⟩; conv => whnf
  refine ACmp.split (fun h1 => ?_) (fun h1 => ?_)
  · conv => whnf
    exact ⟨by rw [chg, if_neg (fun c => h1 c.1)], Sub.refl _⟩
  · conv => whnf
    refine ACalls.mono (Check_any h b hb hb') ?_; rintro _ _ ⟨rfl, rfl⟩; conv => whnf
    refine ACmp.split (fun h2 => ?_) (fun h2 => ?_)
    · conv => whnf
      exact ⟨by rw [chg, if_neg (fun c => h2 c.2.1)], Sub.refl _⟩
    · conv => whnf
      refine AInt.as (r' := IntKind.i64.wrap ((BitVec.ofInt 64 a ^^^ BitVec.ofInt 64 b).toNat : Int)) rfl ?_; conv => whnf
      refine ACalls.mono (Count_any h _) ?_
      rw [m5_xor]
      rintro _ _ ⟨rfl, rfl⟩
      conv => whnf
      refine ACmp.split (fun h3 => ?_) (fun h3 => ?_)
      · conv => whnf
        exact ⟨by rw [chg, if_neg (fun c => h3 (by rw [c.2.2]; rfl))], Sub.refl _⟩
      · conv => whnf
        exact ⟨by rw [chg, if_pos ⟨Classical.not_not.1 h1, Classical.not_not.1 h2, by have := Classical.not_not.1 h3; omega⟩], Sub.refl _⟩

def dfTo (x : Nat) : Nat → Nat
  | 0 => 0
  | j + 1 => dfTo x j + (bt x j).toNat
theorem dfTo_le (x : Nat) : ∀ j, dfTo x j ≤ j
  | 0 => Nat.le_refl _
  | j + 1 => by
    have := dfTo_le x j
    have h : (bt x j).toNat ≤ 1 := Bool.toNat_le _
    unfold dfTo; omega
theorem dfTo_pop (x : Nat) : dfTo x 5 = pop x := by simp only [dfTo, pop]; omega
theorem refChange_any (h : Heap) (a b : Int) (ha : -9223372036854775808 ≤ a) (ha' : a ≤ 9223372036854775807) (hb : -9223372036854775808 ≤ b) (hb' : b ≤ 9223372036854775807) : ACalls PR 32 #[I a, I b] h (fun v h' => v = I (chg a b) ∧ h = h') := by
  refine acalls_pure (acalls_of mix Try.func32 rfl rfl Try.ntmps32 Try.results32 rfl ?_); conv => whnf
  refine ALoop.mk (fun e h' => Sub h h' ∧ ∃ e0, ∃ k : Nat, e = updL 32 e0 [(0, I a), (1, I b), (5, I (dfTo (m5 a ^^^ m5 b) k)), (6, I ((k : Int) + 1))] ∧ k ≤ 5) (fun e => 6 - natOf (e 6))
    ⟨Sub.refl _, _, 0, updL_self ⟨rfl, rfl, rfl, rfl, trivial⟩, by omega⟩ ?_
  rintro e h2 ⟨s2, e0, k, rfl, hk⟩
  conv => whnf
  by_cases hk5 : k < 5
  · refine ACmp.yes (by omega) ?_; conv => whnf
    refine ACalls.mono (refHas_any h2 a _ ha ha') ?_
    rw [hasB_in a k hk5]
    rintro _ _ ⟨rfl, rfl⟩
    cases e1 : bt (m5 a) k <;> conv => whnf
    all_goals refine ACalls.mono (refHas_any h2 b _ hb hb') ?_
    all_goals rw [hasB_in b k hk5]
    all_goals rintro _ _ ⟨rfl, rfl⟩
    all_goals cases e2 : bt (m5 b) k <;> conv => whnf
    all_goals have e3 := bt_xor (m5 a) (m5 b) k
    all_goals rw [e1, e2] at e3
    all_goals have hd := dfTo_le (m5 a ^^^ m5 b) k
    all_goals have e4 : dfTo (m5 a ^^^ m5 b) (k + 1) = dfTo (m5 a ^^^ m5 b) k + (bt (m5 a ^^^ m5 b) k).toNat := rfl
    all_goals rw [e3] at e4
    · refine AArith.ok (by omega) (by omega) ((by omega : (k : Int) + 1 + 1 = ((k + 1 : Nat) : Int) + 1)) ?_; conv => whnf
      refine ⟨⟨s2, _, k + 1, updL_self ⟨rfl, rfl, by rw [e4]; rfl, rfl, trivial⟩, by omega⟩, ?_⟩
      show 6 - (((k + 1 : Nat) : Int) + 1).toNat < 6 - ((k : Int) + 1).toNat
      omega
    · refine AArith.ok (by omega) (by omega) (rfl) ?_; conv => whnf
      refine AArith.ok (by omega) (by omega) ((by omega : (k : Int) + 1 + 1 = ((k + 1 : Nat) : Int) + 1)) ?_; conv => whnf
      refine ⟨⟨s2, _, k + 1, updL_self ⟨rfl, rfl, by rw [e4]; rfl, rfl, trivial⟩, by omega⟩, ?_⟩
      show 6 - (((k + 1 : Nat) : Int) + 1).toNat < 6 - ((k : Int) + 1).toNat
      omega
    · refine AArith.ok (by omega) (by omega) (rfl) ?_; conv => whnf
      refine AArith.ok (by omega) (by omega) ((by omega : (k : Int) + 1 + 1 = ((k + 1 : Nat) : Int) + 1)) ?_; conv => whnf
      refine ⟨⟨s2, _, k + 1, updL_self ⟨rfl, rfl, by rw [e4]; rfl, rfl, trivial⟩, by omega⟩, ?_⟩
      show 6 - (((k + 1 : Nat) : Int) + 1).toNat < 6 - ((k : Int) + 1).toNat
      omega
    · refine AArith.ok (by omega) (by omega) ((by omega : (k : Int) + 1 + 1 = ((k + 1 : Nat) : Int) + 1)) ?_; conv => whnf
      refine ⟨⟨s2, _, k + 1, updL_self ⟨rfl, rfl, by rw [e4]; rfl, rfl, trivial⟩, by omega⟩, ?_⟩
      show 6 - (((k + 1 : Nat) : Int) + 1).toNat < 6 - ((k : Int) + 1).toNat
      omega
  · refine ACmp.no (by omega) ?_; conv => whnf
    obtain rfl : k = 5 := by omega
    rw [dfTo_pop]
    refine ACalls.mono (refCheck_any h2 a ha ha') ?_; rintro _ _ ⟨rfl, rfl⟩; conv => whnf
    refine ACmp.split (fun h1 => ?_) (fun h1 => ?_)
    · conv => whnf
      exact ⟨by rw [chg, if_neg (fun c => h1 c.1)], s2⟩
    · conv => whnf
      refine ACalls.mono (refCheck_any h2 b hb hb') ?_; rintro _ _ ⟨rfl, rfl⟩; conv => whnf
      refine ACmp.split (fun h2 => ?_) (fun h2 => ?_)
      · conv => whnf
        exact ⟨by rw [chg, if_neg (fun c => h2 c.2.1)], s2⟩
      · conv => whnf
        refine ACmp.split (fun h3 => ?_) (fun h3 => ?_)
        · conv => whnf
          exact ⟨by rw [chg, if_neg (fun c => h3 (by rw [c.2.2]; rfl))], s2⟩
        · conv => whnf
          exact ⟨by rw [chg, if_pos ⟨Classical.not_not.1 h1, Classical.not_not.1 h2, by have := Classical.not_not.1 h3; omega⟩], s2⟩
end Go.Ah
