/- Crews in plain Lean: numbers as sets of five. No program in sight. -/
import Derived.Test.YtdffkkobifnabaaEng5
namespace Go.Ah
set_option linter.unusedVariables false
set_option linter.unusedSimpArgs false

/-- a number's five bits -/
def m5 (c : Int) : Nat := ((c / 2) % 32).toNat
def bt (k j : Nat) : Bool := decide (k / 2 ^ j % 2 = 1)
def pop (k : Nat) : Nat := (bt k 0).toNat + (bt k 1).toNat + (bt k 2).toNat + (bt k 3).toNat + (bt k 4).toNat
def lsTo (k : Nat) : Nat → List Int
  | 0 => []
  | j + 1 => if bt k j = true then lsTo k j ++ [(j : Int) + 1] else lsTo k j
def ls (k : Nat) : List Int := lsTo k 5
theorem m5_lt (c : Int) : m5 c < 32 := by unfold m5; omega
theorem bt_test (k j : Nat) : bt k j = k.testBit j := by rw [Nat.testBit_eq_decide_div_mod_eq]; rfl
theorem bt_and (a b j : Nat) : bt (a &&& b) j = (bt a j && bt b j) := by simp [bt_test]
theorem bt_xor (a b j : Nat) : bt (a ^^^ b) j = (bt a j ^^ bt b j) := by simp [bt_test]

theorem wrap_cases (r : Int) : IntKind.i64.wrap r = r % 18446744073709551616 ∨ IntKind.i64.wrap r = r % 18446744073709551616 - 18446744073709551616 := by
  show (if (true && decide (r % 18446744073709551616 ≥ 9223372036854775808)) = true then r % 18446744073709551616 - 18446744073709551616 else r % 18446744073709551616) = _ ∨ (if (true && decide (r % 18446744073709551616 ≥ 9223372036854775808)) = true then r % 18446744073709551616 - 18446744073709551616 else r % 18446744073709551616) = _
  split
  · exact .inr rfl
  · exact .inl rfl
theorem m5_wrap (r : Int) : m5 (IntKind.i64.wrap r) = m5 r := by
  unfold m5
  rcases wrap_cases r with e | e <;> rw [e] <;> omega
theorem toNat_of (c : Int) : (BitVec.ofInt 64 c).toNat = (c % 18446744073709551616).toNat := by rw [BitVec.toNat_ofInt]; rfl
theorem m5_toNat (c : Int) : m5 ((BitVec.ofInt 64 c).toNat : Int) = m5 c := by
  rw [toNat_of]; unfold m5; omega
theorem m5_nat (x : Nat) : m5 (x : Int) = x / 2 % 2 ^ 5 := by unfold m5; omega
theorem half_and (x y : Nat) : (x &&& y) / 2 % 2 ^ 5 = (x / 2 % 2 ^ 5) &&& (y / 2 % 2 ^ 5) := by
  apply Nat.eq_of_testBit_eq; intro i
  simp only [Nat.testBit_mod_two_pow, Nat.testBit_and, Nat.testBit_div_two]
  cases decide (i < 5) <;> simp
theorem half_xor (x y : Nat) : (x ^^^ y) / 2 % 2 ^ 5 = (x / 2 % 2 ^ 5) ^^^ (y / 2 % 2 ^ 5) := by
  apply Nat.eq_of_testBit_eq; intro i
  simp only [Nat.testBit_mod_two_pow, Nat.testBit_xor, Nat.testBit_div_two]
  cases decide (i < 5) <;> simp
theorem m5_and (a b : Int) : m5 (IntKind.i64.wrap ((BitVec.ofInt 64 a &&& BitVec.ofInt 64 b).toNat : Int)) = m5 a &&& m5 b := by
  rw [m5_wrap, m5_nat, BitVec.toNat_and, half_and, ← m5_nat, ← m5_nat, m5_toNat, m5_toNat]
theorem m5_xor (a b : Int) : m5 (IntKind.i64.wrap ((BitVec.ofInt 64 a ^^^ BitVec.ofInt 64 b).toNat : Int)) = m5 a ^^^ m5 b := by
  rw [m5_wrap, m5_nat, BitVec.toNat_xor, half_xor, ← m5_nat, ← m5_nat, m5_toNat, m5_toNat]
theorem nat_and62 (N : Nat) : N &&& 62 = 2 * (N / 2 % 32) := by
  have h1 : N &&& 62 = (N % 64) &&& 62 := by
    have := Nat.and_two_pow_sub_one_eq_mod N 6
    rw [show (64 : Nat) = 2 ^ 6 from rfl, ← this, Nat.and_assoc]
    rfl
  have h2 : ∀ x, x < 64 → x &&& 62 = 2 * (x / 2 % 32) := by decide
  rw [h1, h2 _ (Nat.mod_lt _ (by omega))]
  omega
theorem nat_and1 (N : Nat) : N &&& 1 = N % 2 := Nat.and_two_pow_sub_one_eq_mod N 1
theorem wrap_small {x : Nat} (h : x ≤ 9223372036854775807) : IntKind.i64.wrap (x : Int) = x := i64_wrap (by omega) (by omega)
theorem and62 (c : Int) : IntKind.i64.wrap ((BitVec.ofInt 64 c &&& BitVec.ofInt 64 62).toNat : Int) = ((2 * m5 c : Nat) : Int) := by
  have e : (BitVec.ofInt 64 62).toNat = 62 := by decide
  rw [BitVec.toNat_and, e, nat_and62, wrap_small (by omega), toNat_of]
  unfold m5
  omega
theorem and1 (c : Int) : IntKind.i64.wrap ((BitVec.ofInt 64 c &&& BitVec.ofInt 64 1).toNat : Int) = c % 2 := by
  have e : (BitVec.ofInt 64 1).toNat = 1 := by decide
  rw [BitVec.toNat_and, e, nat_and1, wrap_small (by omega), toNat_of]
  omega
theorem wrap_zero {x : Nat} (h : x < 18446744073709551616) : IntKind.i64.wrap (x : Int) = 0 ↔ x = 0 := by
  constructor
  · intro z; rcases wrap_cases (x : Int) with e | e <;> omega
  · rintro rfl; rfl
theorem andnot62 {c : Int} (h : -9223372036854775808 ≤ c) (h' : c ≤ 9223372036854775807) :
    IntKind.i64.wrap ((BitVec.ofInt 64 c &&& ~~~(BitVec.ofInt 64 62)).toNat : Int) = 0 ↔ c = ((2 * m5 c : Nat) : Int) := by
  rw [wrap_zero (BitVec.isLt _)]
  have e : (BitVec.ofInt 64 62).toNat = 62 := by decide
  have k1 : (BitVec.ofInt 64 c &&& ~~~(BitVec.ofInt 64 62)).toNat = 0 ↔ BitVec.ofInt 64 c &&& BitVec.ofInt 64 62 = BitVec.ofInt 64 c := by
    generalize BitVec.ofInt 64 c = x
    generalize BitVec.ofInt 64 62 = y
    constructor
    · intro hz
      have hz' : x &&& ~~~y = 0#64 := BitVec.eq_of_toNat_eq (by simpa using hz)
      apply BitVec.eq_of_getLsbD_eq
      intro i hi
      have := congrArg (fun b => b.getLsbD i) hz'
      simp [hi] at this ⊢
      exact this
    · intro hz
      have : x &&& ~~~y = 0#64 := by
        apply BitVec.eq_of_getLsbD_eq
        intro i hi
        have := congrArg (fun b => b.getLsbD i) hz
        simp [hi] at this ⊢
        exact this
      rw [this]; rfl
  rw [k1]
  constructor
  · intro hz
    have := congrArg BitVec.toNat hz
    rw [BitVec.toNat_and, e, nat_and62, toNat_of] at this
    unfold m5
    omega
  · intro hz
    apply BitVec.eq_of_toNat_eq
    rw [BitVec.toNat_and, e, nat_and62, toNat_of]
    have := m5_lt c
    unfold m5 at hz this
    omega
theorem fdiv_pow (c : Int) (j : Nat) (h : j < 64) : c.fdiv (2 ^ (min ((j : Int)).toNat 64)) = c / 2 ^ j := by
  rw [Int.toNat_natCast, Nat.min_eq_left (show j ≤ 64 by omega)]
  exact Int.fdiv_eq_ediv_of_nonneg _ (Int.le_of_lt (Int.pow_pos (by decide)))

/-- is a server in it -/
def hasB (c n : Int) : Bool := decide (1 ≤ n ∧ n ≤ 5) && bt (m5 c) (n - 1).toNat
theorem hasB_pow (c : Int) (j : Nat) (h : j < 5) : decide (c / 2 ^ (j + 1) % 2 = 1) = bt (m5 c) j := by
  have : j = 0 ∨ j = 1 ∨ j = 2 ∨ j = 3 ∨ j = 4 := by omega
  unfold bt m5
  rcases this with rfl | rfl | rfl | rfl | rfl <;> (congr 1; apply propext; omega)
theorem hasB_in (c : Int) (j : Nat) (h : j < 5) : hasB c ((j : Int) + 1) = bt (m5 c) j := by
  unfold hasB
  rw [decide_eq_true (by omega), Bool.true_and]
  congr 1
  omega
theorem hasB_out (c n : Int) (h : ¬(1 ≤ n ∧ n ≤ 5)) : hasB c n = false := by unfold hasB; rw [decide_eq_false h]; rfl

/-! ### a crew of a list -/
def mk (l : List Int) : Nat := l.foldl (fun k n => k ||| 2 ^ (n - 1).toNat) 0
def ok1 (n : Int) : Bool := decide (1 ≤ n ∧ n ≤ 5)
theorem ok1_pos {n : Int} (h : ok1 n = true) : ∃ j : Nat, j < 5 ∧ n = (j : Int) + 1 := by
  have := of_decide_eq_true h
  exact ⟨(n - 1).toNat, by omega, by omega⟩
theorem mk_snoc (l : List Int) (n : Int) : mk (l ++ [n]) = mk l ||| 2 ^ (n - 1).toNat := by simp [mk]
theorem or_step : ∀ k, k < 32 → ∀ j, j < 5 → k ||| 2 ^ j < 32 ∧ IntKind.i64.wrap ((BitVec.ofInt 64 ((2 * k : Nat) : Int) ||| BitVec.ofInt 64 ((2 ^ (j + 1) : Nat) : Int)).toNat : Int) = ((2 * (k ||| 2 ^ j) : Nat) : Int) := by decide +kernel
theorem bt_or : ∀ k, k < 32 → ∀ j, j < 5 → ∀ i, i < 5 → bt (k ||| 2 ^ j) i = (bt k i || decide (i = j)) := by decide +kernel
theorem mk_lt : ∀ (l : List Int), l.all ok1 = true → ∀ k, k < 32 → l.foldl (fun k n => k ||| 2 ^ (n - 1).toNat) k < 32
  | [], _, k, hk => hk
  | n :: l, h, k, hk => by
    simp only [List.all_cons, Bool.and_eq_true] at h
    obtain ⟨j, hj, rfl⟩ := ok1_pos h.1
    refine mk_lt l h.2 _ ?_
    have := (or_step k hk j hj).1
    show k ||| 2 ^ ((j : Int) + 1 - 1).toNat < 32
    rwa [show ((j : Int) + 1 - 1).toNat = j by omega]
theorem mk_bt : ∀ (l : List Int), l.all ok1 = true → ∀ k, k < 32 → ∀ i, i < 5 → bt (l.foldl (fun k n => k ||| 2 ^ (n - 1).toNat) k) i = (bt k i || decide (((i : Int) + 1) ∈ l))
  | [], _, k, hk, i, hi => by simp
  | n :: l, h, k, hk, i, hi => by
    simp only [List.all_cons, Bool.and_eq_true] at h
    obtain ⟨j, hj, rfl⟩ := ok1_pos h.1
    have h1 := (or_step k hk j hj).1
    rw [List.foldl_cons, show ((j : Int) + 1 - 1).toNat = j by omega, mk_bt l h.2 _ h1 i hi, bt_or k hk j hj i hi, Bool.or_assoc]
    congr 1
    by_cases e : i = j
    · subst e; simp
    · have : ¬ ((i : Int) + 1 = (j : Int) + 1) := by omega
      simp [e, this]
theorem mk_bt' {l : List Int} (h : l.all ok1 = true) {i : Nat} (hi : i < 5) : bt (mk l) i = decide (((i : Int) + 1) ∈ l) := by
  unfold mk; rw [mk_bt l h 0 (by omega) i hi]
  have : ∀ i, i < 5 → bt 0 i = false := by decide
  rw [this i hi, Bool.false_or]
theorem bits_sum : ∀ k, k < 32 → k = (bt k 0).toNat + 2 * (bt k 1).toNat + 4 * (bt k 2).toNat + 8 * (bt k 3).toNat + 16 * (bt k 4).toNat := by decide +kernel
theorem bits_ext {a b : Nat} (ha : a < 32) (hb : b < 32) (h : ∀ i, i < 5 → bt a i = bt b i) : a = b := by
  rw [bits_sum a ha, bits_sum b hb, h 0 (by omega), h 1 (by omega), h 2 (by omega), h 3 (by omega), h 4 (by omega)]
theorem mk_ls : ∀ k, k < 32 → mk (ls k) = k := by decide +kernel
theorem ls_ok : ∀ k, k < 32 → (ls k).all ok1 = true := by decide +kernel
theorem ls_len : ∀ k, k < 32 → (ls k).length = pop k := by decide +kernel
theorem lsTo_len (k : Nat) : ∀ j, (lsTo k j).length ≤ j
  | 0 => Nat.le_refl _
  | j + 1 => by
    unfold lsTo
    have := lsTo_len k j
    split
    · simp; omega
    · omega
theorem pop_le (k : Nat) : pop k ≤ 5 := by
  unfold pop
  have : ∀ b : Bool, b.toNat ≤ 1 := by decide
  have h0 := this (bt k 0); have h1 := this (bt k 1); have h2 := this (bt k 2); have h3 := this (bt k 3); have h4 := this (bt k 4)
  omega
theorem pop_zero : ∀ k, k < 32 → (pop k = 0 ↔ k = 0) := by decide +kernel
end Go.Ah
