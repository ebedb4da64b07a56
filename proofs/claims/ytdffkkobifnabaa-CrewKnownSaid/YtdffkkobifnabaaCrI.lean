/- The laws MeetNext, Change, List. -/
import Derived.Test.YtdffkkobifnabaaCrH
import Derived.Test.YtdffkkobifnabaaCrO
namespace Go.Ah
open Go.Proofs
set_option linter.unusedVariables false
set_option linter.unusedSimpArgs false

theorem xor_two : ∀ k, k < 32 → ∀ l, l < 32 → k ^^^ l < 32 ∧ IntKind.i64.wrap ((BitVec.ofInt 64 ((2 * k : Nat) : Int) ^^^ BitVec.ofInt 64 ((2 * l : Nat) : Int)).toNat : Int) = ((2 * (k ^^^ l) : Nat) : Int) := by decide +kernel
theorem flip_cases : ∀ k, k < 32 → ∀ j, j < 5 → (pop (k ^^^ 2 ^ j) = pop k + 1 ∧ k &&& (k ^^^ 2 ^ j) = k) ∨ (pop k = pop (k ^^^ 2 ^ j) + 1 ∧ k &&& (k ^^^ 2 ^ j) = k ^^^ 2 ^ j) := by decide +kernel
theorem flip_back : ∀ k, k < 32 → ∀ j, j < 5 → k ^^^ (k ^^^ 2 ^ j) = 2 ^ j := by decide +kernel
theorem pop_pow : ∀ j, j < 5 → pop (2 ^ j) = 1 := by decide +kernel
theorem pop_one : ∀ x, x < 32 → (pop x = 1 ↔ x = 1 ∨ x = 2 ∨ x = 4 ∨ x = 8 ∨ x = 16) := by decide +kernel
theorem chk_crew {k : Nat} (h0 : 0 < k) (h : k < 32) : chk ((2 * k : Nat) : Int) = 0 := by rw [chk_two h, if_neg (by omega)]
theorem chg_two {k l : Nat} (hk : k < 32) (hl : l < 32) : chg ((2 * k : Nat) : Int) ((2 * l : Nat) : Int) = if 0 < k ∧ 0 < l ∧ pop (k ^^^ l) = 1 then 0 else 180 := by
  unfold chg
  rw [chk_two hk, chk_two hl, m5_two hk, m5_two hl]
  by_cases a : k = 0
  · rw [if_pos a, if_neg (by omega), if_neg (by omega)]
  · by_cases b : l = 0
    · rw [if_pos b, if_neg (by omega), if_neg (by omega)]
    · rw [if_neg a, if_neg b]
      by_cases c : pop (k ^^^ l) = 1
      · rw [if_pos ⟨rfl, rfl, c⟩, if_pos (by omega)]
      · rw [if_neg (by omega), if_neg (by omega)]

theorem meet_next {k j a b : Nat} (hk : k < 32) (hj : j < 5) (h1 : pop k < 2 * pop (k &&& a)) (h2 : pop (k ^^^ 2 ^ j) < 2 * pop ((k ^^^ 2 ^ j) &&& b)) : 0 < pop (a &&& b) := by
  generalize hx : k ^^^ 2 ^ j = x at *
  rcases flip_cases k hk j hj with ⟨e1, e2⟩ | ⟨e1, e2⟩ <;> rw [hx] at e1 e2
  · have i1 := pop_incl x a b
    have i2 : pop (k &&& a) ≤ pop (x &&& a) := by rw [← e2, Nat.and_assoc]; exact pop_and_le ..
    have i3 : pop ((a &&& b) &&& x) ≤ pop (a &&& b) := by rw [Nat.and_comm]; exact pop_and_le ..
    omega
  · have i1 := pop_incl k a b
    have i2 : pop (x &&& b) ≤ pop (k &&& b) := by
      have : x &&& b = x &&& (k &&& b) := by rw [← Nat.and_assoc, Nat.and_comm x k, e2]
      rw [this]; exact pop_and_le ..
    have i3 : pop ((a &&& b) &&& k) ≤ pop (a &&& b) := by rw [Nat.and_comm]; exact pop_and_le ..
    omega

theorem MeetNext_law (h : Heap) (c n x y : Int) : ACalls PR 9 #[I c, I n, .agg #[I x, I y]] h (fun v h' => v = .bool true ∧ h = h') := by
  refine acalls_pure (acalls_of mix Try.func9 rfl rfl Try.ntmps9 Try.results9 rfl ?_); conv => whnf
  refine ABox.mk (0, 1) rfl fun b1 f1 => ?_; conv => whnf
  have s1 := f1.sub (row (0, 1) [I x, I y] 40)
  have k1 := Heap.set_same h b1 (row (0, 1) [I x, I y] 40)
  refine ACalls.mono (works_yes _) ?_; rintro _ _ ⟨rfl, rfl⟩; conv => whnf
  refine ACalls.mono (some_any _ c) ?_; rintro _ _ ⟨rfl, rfl⟩; conv => whnf
  have hk := crw_pos c
  generalize crw c = k at *
  refine ACalls.mono (Bring_any _ n 5 (by omega) (by omega)) ?_; rintro _ _ ⟨rfl, rfl⟩; conv => whnf
  obtain ⟨j, hj, ej⟩ : ∃ j : Nat, j < 5 ∧ n % 5 = (j : Int) := ⟨(n % 5).toNat, by omega, by omega⟩
  rw [ej]
  refine AArith.ok (by omega) (by omega) ((by omega : 1 + (j : Int) = (j : Int) + 1)) ?_; conv => whnf
  refine ⟨by omega, ?_⟩
  conv => whnf
  refine AArith.as (shl_pow j hj) ?_; conv => whnf
  have hp : 2 ^ j < 32 := Nat.pow_lt_pow_right (by omega) (show j < 5 by omega)
  have hx := xor_two k hk.2 (2 ^ j) hp
  have e0 : ((2 ^ (j + 1) : Nat) : Int) = ((2 * 2 ^ j : Nat) : Int) := by rw [Nat.pow_succ, Nat.mul_comm]
  rw [e0]
  refine AInt.as (hx.2) ?_; conv => whnf
  have hx1 := hx.1
  have hm := fun h1 h2 => @meet_next k j (m5 x) (m5 y) hk.2 hj h1 h2
  have hpop : pop (k ^^^ (k ^^^ 2 ^ j)) = 1 := by rw [flip_back k hk.2 j hj, pop_pow j hj]
  generalize k ^^^ 2 ^ j = z at *
  have hc := chg_two hk.2 hx1
  rw [hpop] at hc
  by_cases hz : z = 0
  · refine ACalls.mono (Change_is _ _ _ 180 (by omega) (by omega) (by omega) (by omega) (by rw [hc, if_neg (by omega)])) ?_; rintro _ _ ⟨rfl, rfl⟩; conv => whnf
    refine ACmp.yes (by simp) ?_; conv => whnf
    refine ACmp.yes (by omega) ?_; conv => whnf
    exact ⟨rfl, s1⟩
  · refine ACalls.mono (Change_is _ _ _ 0 (by omega) (by omega) (by omega) (by omega) (by rw [hc, if_pos (by omega)])) ?_; rintro _ _ ⟨rfl, rfl⟩; conv => whnf
    refine ACmp.no (by simp) ?_; conv => whnf
    have e2 := m5_two hk.2
    have e3 := m5_two hx1
    refine AIdxA.nat (n := 2) (z := 1) (j := 0) rfl (by omega) rfl rfl ?_; conv => whnf
    refine ALoad.one rfl k1 rfl ?_; conv => whnf
    cases h1 : decide (pop (m5 ((2 * k : Nat) : Int)) < 2 * pop (m5 ((2 * k : Nat) : Int) &&& m5 x)) with
    | false =>
      refine ACalls.mono (Most_is _ _ x _ h1) ?_; rintro _ _ ⟨rfl, rfl⟩; conv => whnf
      exact ⟨rfl, s1⟩
    | true =>
      refine ACalls.mono (Most_is _ _ x _ h1) ?_; rintro _ _ ⟨rfl, rfl⟩; conv => whnf
      refine AIdxA.nat (n := 2) (z := 1) (j := 1) rfl (by omega) rfl rfl ?_; conv => whnf
      refine ALoad.one rfl k1 rfl ?_; conv => whnf
      cases h2 : decide (pop (m5 ((2 * z : Nat) : Int)) < 2 * pop (m5 ((2 * z : Nat) : Int) &&& m5 y)) with
      | false =>
        refine ACalls.mono (Most_is _ _ y _ h2) ?_; rintro _ _ ⟨rfl, rfl⟩; conv => whnf
        exact ⟨rfl, s1⟩
      | true =>
        refine ACalls.mono (Most_is _ _ y _ h2) ?_; rintro _ _ ⟨rfl, rfl⟩; conv => whnf
        refine AIdxA.nat (n := 2) (z := 1) (j := 0) rfl (by omega) rfl rfl ?_; conv => whnf
        refine ALoad.one rfl k1 rfl ?_; conv => whnf
        refine AIdxA.nat (n := 2) (z := 1) (j := 1) rfl (by omega) rfl rfl ?_; conv => whnf
        refine ALoad.one rfl k1 rfl ?_; conv => whnf
        refine AInt.as (r' := IntKind.i64.wrap ((BitVec.ofInt 64 x &&& BitVec.ofInt 64 y).toNat : Int)) rfl ?_; conv => whnf
        refine ACalls.mono (Count_any _ _) ?_
        rw [m5_and]
        rintro _ _ ⟨rfl, rfl⟩
        conv => whnf
        have h1 := of_decide_eq_true h1
        have h2 := of_decide_eq_true h2
        rw [e2] at h1
        rw [e3] at h2
        have := hm h1 h2
        refine ACmp.yes (by omega) ?_; conv => whnf
        exact ⟨rfl, s1⟩

/-- one server more or less, found among the first -/
def oneTo (x : Nat) (i : Nat) : Bool := decide (∃ j, j < i ∧ x = 2 ^ j)
theorem oneTo_succ (x i : Nat) : oneTo x (i + 1) = (oneTo x i || decide (x = 2 ^ i)) := by
  unfold oneTo
  rw [← Bool.decide_or, decide_eq_decide]
  constructor
  · rintro ⟨j, hj, e⟩
    by_cases c : j = i
    · subst c; exact .inr e
    · exact .inl ⟨j, by omega, e⟩
  · rintro (⟨j, hj, e⟩ | e)
    · exact ⟨j, by omega, e⟩
    · exact ⟨i, by omega, e⟩
theorem oneTo_pop : ∀ x, x < 32 → oneTo x 5 = decide (pop x = 1) := fun x hx => by
  unfold oneTo
  rw [decide_eq_decide, pop_one x hx]
  constructor
  · rintro ⟨j, hj, e⟩
    have : j = 0 ∨ j = 1 ∨ j = 2 ∨ j = 3 ∨ j = 4 := by omega
    rcases this with rfl | rfl | rfl | rfl | rfl <;> simp at e <;> omega
  · rintro (e | e | e | e | e)
    · exact ⟨0, by omega, e⟩
    · exact ⟨1, by omega, e⟩
    · exact ⟨2, by omega, e⟩
    · exact ⟨3, by omega, e⟩
    · exact ⟨4, by omega, e⟩

theorem Change_law (h : Heap) (c n : Int) : ACalls PR 10 #[I c, I n] h (fun v h' => v = .bool true ∧ h = h') := by
  refine acalls_pure (acalls_of mix Try.func10 rfl rfl Try.ntmps10 Try.results10 rfl ?_); conv => whnf
  refine ACalls.mono (works_yes _) ?_; rintro _ _ ⟨rfl, rfl⟩; conv => whnf
  refine ACalls.mono (some_any _ c) ?_; rintro _ _ ⟨rfl, rfl⟩; conv => whnf
  refine ACalls.mono (some_any _ n) ?_; rintro _ _ ⟨rfl, rfl⟩; conv => whnf
  have hk := crw_pos c
  have hl := crw_pos n
  generalize crw c = k at *
  generalize crw n = l at *
  have hx := xor_two k hk.2 l hl.2
  refine ALoop.mk (fun e h' => Sub h h' ∧ ∃ e0, ∃ i : Nat, e = updL 52 e0 [(0, I ((2 * k : Nat) : Int)), (1, I ((2 * l : Nat) : Int)), (5, .bool (oneTo (k ^^^ l) i)), (6, I ((i : Int) + 1))] ∧ i ≤ 5) (fun e => 6 - natOf (e 6))
    ⟨Sub.refl _, _, 0, updL_self ⟨rfl, rfl, show Value.bool false = Value.bool (oneTo _ 0) by simp [oneTo], rfl, trivial⟩, by omega⟩ ?_
  rintro e h2 ⟨s2, e0, i, rfl, hi⟩
  by_cases hi5 : i < 5
  · have hs := oneTo_succ (k ^^^ l) i
    cases ho : oneTo (k ^^^ l) i with
    | true =>
      conv => whnf
      refine ACmp.yes (by omega) ?_; conv => whnf
      rw [ho, Bool.true_or] at hs
      refine AArith.ok (by omega) (by omega) ((by omega : (i : Int) + 1 + 1 = ((i + 1 : Nat) : Int) + 1)) ?_; conv => whnf
      refine ⟨⟨s2, _, i + 1, updL_self ⟨rfl, rfl, by rw [hs]; rfl, rfl, trivial⟩, by omega⟩, ?_⟩
      show 6 - (((i + 1 : Nat) : Int) + 1).toNat < 6 - ((i : Int) + 1).toNat
      omega
    | false =>
      conv => whnf
      refine ACmp.yes (by omega) ?_; conv => whnf
      rw [ho, Bool.false_or] at hs
      refine AInt.as (hx.2) ?_; conv => whnf
      refine ⟨by omega, ?_⟩
      conv => whnf
      refine AArith.as (shl_pow i hi5) ?_; conv => whnf
      refine ACmp.dec ?_
      conv => whnf
      have ed : decide (((2 * (k ^^^ l) : Nat) : Int) = ((2 ^ (i + 1) : Nat) : Int)) = decide (k ^^^ l = 2 ^ i) := by
        rw [decide_eq_decide, Nat.pow_succ]; omega
      refine AArith.ok (by omega) (by omega) ((by omega : (i : Int) + 1 + 1 = ((i + 1 : Nat) : Int) + 1)) ?_; conv => whnf
      refine ⟨⟨s2, _, i + 1, updL_self ⟨rfl, rfl, ?_, rfl, trivial⟩, by omega⟩, ?_⟩
      · rw [hs, ← ed]; rfl
      show 6 - (((i + 1 : Nat) : Int) + 1).toNat < 6 - ((i : Int) + 1).toNat
      omega
  · obtain rfl : i = 5 := by omega
    have hc1 := chg_two hk.2 hl.2
    have hc2 := chg_two hl.2 hk.2
    have hc3 := chg_two hk.2 hk.2
    have hc4 := chg_two hk.2 (show 0 < 32 by omega)
    rw [Nat.xor_comm] at hc2
    rw [Nat.xor_self] at hc3
    have hp0 : pop 0 = 0 := by decide
    rw [oneTo_pop _ hx.1]
    by_cases h1 : pop (k ^^^ l) = 1
    · rw [decide_eq_true h1]
      conv => whnf
      refine ACmp.no (by omega) ?_; conv => whnf
      refine ACalls.mono (Change_is h2 _ _ 0 (by omega) (by omega) (by omega) (by omega) (by rw [hc1, if_pos (by omega)])) ?_; rintro _ _ ⟨rfl, rfl⟩; conv => whnf
      refine ACmp.yes (rfl) ?_; conv => whnf
      refine ACalls.mono (Change_is h2 _ _ 0 (by omega) (by omega) (by omega) (by omega) (by rw [hc2, if_pos (by omega)])) ?_; rintro _ _ ⟨rfl, rfl⟩; conv => whnf
      refine ACalls.mono (Change_is h2 _ _ 0 (by omega) (by omega) (by omega) (by omega) (by rw [hc1, if_pos (by omega)])) ?_; rintro _ _ ⟨rfl, rfl⟩; conv => whnf
      refine ACmp.yes (rfl) ?_; conv => whnf
      refine ACalls.mono (Change_is h2 _ _ 180 (by omega) (by omega) (by omega) (by omega) (by rw [hc3, if_neg (by omega)])) ?_; rintro _ _ ⟨rfl, rfl⟩; conv => whnf
      refine ACmp.yes (rfl) ?_; conv => whnf
      refine ACalls.mono (Change_is h2 _ 0 180 (by omega) (by omega) (by omega) (by omega) (by rw [show (0 : Int) = ((2 * 0 : Nat) : Int) from rfl, hc4, if_neg (by omega)])) ?_; rintro _ _ ⟨rfl, rfl⟩; conv => whnf
      refine ACmp.yes (rfl) ?_; conv => whnf
      exact ⟨rfl, s2⟩
    · rw [decide_eq_false h1]
      conv => whnf
      refine ACmp.no (by omega) ?_; conv => whnf
      refine ACalls.mono (Change_is h2 _ _ 180 (by omega) (by omega) (by omega) (by omega) (by rw [hc1, if_neg (by omega)])) ?_; rintro _ _ ⟨rfl, rfl⟩; conv => whnf
      refine ACmp.no (by simp) ?_; conv => whnf
      refine ACalls.mono (Change_is h2 _ _ 180 (by omega) (by omega) (by omega) (by omega) (by rw [hc2, if_neg (by omega)])) ?_; rintro _ _ ⟨rfl, rfl⟩; conv => whnf
      refine ACalls.mono (Change_is h2 _ _ 180 (by omega) (by omega) (by omega) (by omega) (by rw [hc1, if_neg (by omega)])) ?_; rintro _ _ ⟨rfl, rfl⟩; conv => whnf
      refine ACmp.yes (rfl) ?_; conv => whnf
      refine ACalls.mono (Change_is h2 _ _ 180 (by omega) (by omega) (by omega) (by omega) (by rw [hc3, if_neg (by omega)])) ?_; rintro _ _ ⟨rfl, rfl⟩; conv => whnf
      refine ACmp.yes (rfl) ?_; conv => whnf
      refine ACalls.mono (Change_is h2 _ 0 180 (by omega) (by omega) (by omega) (by omega) (by rw [show (0 : Int) = ((2 * 0 : Nat) : Int) from rfl, hc4, if_neg (by omega)])) ?_; rintro _ _ ⟨rfl, rfl⟩; conv => whnf
      refine ACmp.yes (rfl) ?_; conv => whnf
      exact ⟨rfl, s2⟩
end Go.Ah
