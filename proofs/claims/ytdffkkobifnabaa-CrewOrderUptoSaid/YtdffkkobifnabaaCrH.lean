/- The laws Most and Rank; crews that may be; the laws Meet, MeetNext, Change. -/
import Derived.Test.YtdffkkobifnabaaCrG
namespace Go.Ah
open Go.Proofs
set_option linter.unusedVariables false
set_option linter.unusedSimpArgs false

theorem cP_snoc (p : Int → Bool) (l : List Int) (x : Int) : (l ++ [x]).countP p = l.countP p + (p x).toNat := by
  rw [List.countP_append, List.countP_singleton]; cases p x <;> rfl
theorem cP_lsTo (p : Int → Bool) (k j : Nat) : (lsTo k (j + 1)).countP p = (lsTo k j).countP p + (bt k j && p ((j : Int) + 1)).toNat := by
  rw [lsTo]
  cases bt k j
  · simp
  · rw [if_pos rfl, cP_snoc, Bool.true_and]
theorem cP_ls (p : Int → Bool) (k m : Nat) (h : ∀ j : Nat, j < 5 → p ((j : Int) + 1) = bt m j) : (ls k).countP p = pop (k &&& m) := by
  have e : ∀ j, j < 5 → (bt k j && p ((j : Int) + 1)) = bt (k &&& m) j := fun j hj => by rw [bt_and, h j hj]
  unfold ls
  rw [cP_lsTo, cP_lsTo, cP_lsTo, cP_lsTo, cP_lsTo, e 0 (by omega), e 1 (by omega), e 2 (by omega), e 3 (by omega), e 4 (by omega)]
  unfold pop
  have : (lsTo k 0).countP p = 0 := rfl
  omega

theorem refMost_any (h : Heap) (a b : Int) (ha : -9223372036854775808 ≤ a) (ha' : a ≤ 9223372036854775807) (hb : -9223372036854775808 ≤ b) (hb' : b ≤ 9223372036854775807) :
    ACalls PR 30 #[I a, I b] h (fun v h' => v = .bool (decide (pop (m5 a) < 2 * pop (m5 a &&& m5 b))) ∧ h = h') := by
  refine acalls_pure (acalls_of mix Try.func30 rfl rfl Try.ntmps30 Try.results30 rfl ?_); conv => whnf
  refine ACalls.mono (refList_any _ a ha ha') ?_; rintro _ h2 ⟨al, cl, tl, rfl, sl, s2⟩; conv => whnf
  have hnl5 : (ls (m5 a)).length ≤ 5 := by rw [ls_len _ (m5_lt a)]; exact pop_le _
  have hfin : (ls (m5 a)).countP (hasB b) = pop (m5 a &&& m5 b) := cP_ls _ _ _ fun j hj => hasB_in b j hj
  have hlen := ls_len _ (m5_lt a)
  rw [← hlen, ← hfin]
  clear hfin hlen
  generalize hnl : (ls (m5 a)).length = nl at *
  refine ALoop.mk (fun e h' => Sub h2 h' ∧ ∃ e0, ∃ k : Nat, e = updL 29 e0 [(1, I b), (5, .slice al nl cl), (6, I (((ls (m5 a)).take k).countP (hasB b) : Nat)), (7, I k)] ∧ k ≤ nl)
    (fun e => nl - natOf (e 7)) ⟨Sub.refl _, _, 0, updL_self ⟨rfl, rfl, rfl, rfl, trivial⟩, by omega⟩ ?_
  rintro e h3 ⟨s3, e0, k, rfl, hk⟩
  conv => whnf
  by_cases hkn : k < nl
  · refine ACmp.yes (by omega) ?_; conv => whnf
    obtain ⟨bb, off, L, E, fz, rfl, hb1, hc⟩ := (sl.sub s3).pos (by omega)
    have g1 : L[off + k * 1]? = some (I ((ls (m5 a))[k]'(by omega))) := by rw [get_of_take hc (by omega)]; simp [show k < (ls (m5 a)).length by omega]
    refine AIdx.nat (z := 1) (j := k) rfl hkn rfl rfl ?_; conv => whnf
    refine ALoad.one rfl hb1 g1 ?_; conv => whnf
    have e1 : ((ls (m5 a)).take (k + 1)).countP (hasB b) = ((ls (m5 a)).take k).countP (hasB b) + (hasB b ((ls (m5 a))[k]'(by omega))).toNat := by
      rw [List.take_succ_eq_append_getElem (by omega), cP_snoc]
    have hle := List.countP_le_length (p := hasB b) (l := (ls (m5 a)).take k)
    rw [List.length_take] at hle
    refine ACalls.mono (refHas_any h3 b _ hb hb') ?_
    rintro _ _ ⟨rfl, rfl⟩
    cases hh : hasB b ((ls (m5 a))[k]'(by omega))
    · conv => whnf
      rw [hh] at e1
      refine AArith.ok (by omega) (by omega) ((by omega : (k : Int) + 1 = ((k + 1 : Nat) : Int))) ?_; conv => whnf
      refine ⟨⟨s3, _, k + 1, updL_self ⟨rfl, rfl, by rw [e1]; rfl, rfl, trivial⟩, by omega⟩, ?_⟩
      show nl - (k + 1) < nl - k
      omega
    · conv => whnf
      rw [hh] at e1
      refine AArith.ok (by omega) (by omega) (rfl) ?_; conv => whnf
      refine AArith.ok (by omega) (by omega) ((by omega : (k : Int) + 1 = ((k + 1 : Nat) : Int))) ?_; conv => whnf
      refine ⟨⟨s3, _, k + 1, updL_self ⟨rfl, rfl, by rw [e1]; rfl, rfl, trivial⟩, by omega⟩, ?_⟩
      show nl - (k + 1) < nl - k
      omega
  · refine ACmp.no (by omega) ?_; conv => whnf
    obtain rfl : k = nl := by omega
    rw [List.take_of_length_le (by omega)]
    have hle := List.countP_le_length (p := hasB b) (l := ls (m5 a))
    refine AArith.ok (by omega) (by omega) rfl ?_; conv => whnf
    refine ACmp.dec ?_
    conv => whnf
    refine ⟨congrArg Value.bool ?_, s2.trans s3⟩
    rw [decide_eq_decide]; omega

theorem Most_law (h : Heap) (a b : Int) (ha : -9223372036854775808 ≤ a) (ha' : a ≤ 9223372036854775807) (hb : -9223372036854775808 ≤ b) (hb' : b ≤ 9223372036854775807) : ACalls PR 6 #[I a, I b] h (fun v h' => v = .bool true ∧ h = h') := by
  refine acalls_pure (acalls_of mix Try.func6 rfl rfl Try.ntmps6 Try.results6 rfl ?_); conv => whnf
  cases hd : decide (pop (m5 a) < 2 * pop (m5 a &&& m5 b))
  all_goals (refine ACalls.mono (Most_is h a b _ hd) ?_; rintro _ _ ⟨rfl, rfl⟩; conv => whnf)
  all_goals refine ACalls.mono (refMost_any h a b ha ha' hb hb') ?_
  all_goals rw [hd]
  all_goals rintro _ _ ⟨rfl, rfl⟩
  all_goals (conv => whnf)
  all_goals (refine ACalls.mono (Change_any h a b ha ha' hb hb') ?_; rintro _ _ ⟨rfl, rfl⟩; conv => whnf)
  all_goals (refine ACalls.mono (refChange_any h a b ha ha' hb hb') ?_; rintro _ _ ⟨rfl, rfl⟩; conv => whnf)
  all_goals (refine ACmp.yes (rfl) ?_; conv => whnf)
  all_goals (refine ACalls.mono (works_yes _) ?_; rintro _ _ ⟨rfl, rfl⟩; conv => whnf)
  all_goals exact ⟨rfl, Sub.refl _⟩

theorem Rank_law (h : Heap) (c a0 a1 a2 a3 a4 a5 : Int) (hc : -9223372036854775808 ≤ c) (hc' : c ≤ 9223372036854775807) : ACalls PR 7 #[I c, .agg #[I a0, I a1, I a2, I a3, I a4, I a5]] h (fun v h' => v = .bool true ∧ h = h') := by
  refine acalls_pure (acalls_of mix Try.func7 rfl rfl Try.ntmps7 Try.results7 rfl ?_); conv => whnf
  refine ABox.mk (0, 1) rfl fun b1 f1 => ?_; conv => whnf
  have s1 := f1.sub (row (0, 1) [I a0, I a1, I a2, I a3, I a4, I a5] 36)
  have k1 := Heap.set_same h b1 (row (0, 1) [I a0, I a1, I a2, I a3, I a4, I a5] 36)
  refine ADrawn.mkO (h.set b1 (row (0, 1) [I a0, I a1, I a2, I a3, I a4, I a5] 36)) [] [0, 1, 3, 4, 2, 5, 6, 7, 8, 9, 10] (Sub.refl _) (by decide +kernel) ?_; conv => whnf
  refine ALoad.agg rfl k1 rfl rfl ?_; conv => whnf
  refine ALoad.agg rfl k1 rfl rfl ?_; conv => whnf
  refine ACalls.mono (Rank_any _ c a0 a1 a2 a3 a4 a5) ?_
  rintro _ _ ⟨⟨r, rfl, hr⟩, rfl⟩
  refine ⟨Sub.refl _, ?_⟩
  conv => whnf
  refine ACalls.mono (refRank_any _ c a0 a1 a2 a3 a4 a5 hc hc' r hr) ?_
  rintro _ _ ⟨rfl, rfl⟩
  refine ⟨Sub.refl _, ?_⟩
  conv => whnf
  refine ACmp.yes (rfl) ?_; conv => whnf
  refine ACalls.mono (works_yes _) ?_
  rintro _ _ ⟨rfl, rfl⟩
  refine ⟨Sub.refl _, ?_⟩
  conv => whnf
  exact ⟨rfl, s1⟩

/-! ### crews that may be -/
theorem Bring_any (h : Heap) (n m : Int) (hm : 0 < m) (hm' : m ≤ 9007199254740992) : ACalls PR 36 #[I n, I m] h (fun v h' => v = I (n % m) ∧ h = h') := by
  refine acalls_pure (acalls_of mix Try.func36 rfl rfl Try.ntmps36 Try.results36 rfl ?_); conv => whnf
  refine ACmp.no (by omega) ?_; conv => whnf
  refine ⟨by omega, ?_⟩
  conv => whnf
  refine AInt.raw ?_; conv => whnf
  have e1 := Int.tmod_def n m
  have b1 : n.tmod m < m := Int.tmod_lt_of_pos n hm
  have b2 : -m < n.tmod m := by
    by_cases h0 : 0 ≤ n
    · have := Int.tmod_nonneg m h0; omega
    · have h1 : (-n).tmod m = -(n.tmod m) := Int.neg_tmod ..
      have h2 := Int.tmod_lt_of_pos (-n) hm
      omega
  have c1 := Int.emod_nonneg n (show m ≠ 0 by omega)
  have c2 := Int.emod_lt_of_pos n hm
  have key : n.tmod m = n % m ∨ n.tmod m + m = n % m ∧ n.tmod m < 0 := by
    by_cases h0 : 0 ≤ n
    · exact .inl (Int.tmod_eq_emod_of_nonneg h0)
    · rw [Int.tmod_eq_emod]
      by_cases hd : m ∣ n
      · left; simp [hd]
      · right
        have hne : ¬ (0 ≤ n ∨ m ∣ n) := by rintro (c | c); exact h0 c; exact hd c
        rw [if_neg hne]
        omega
  refine ACmp.split (fun hneg => ?_) (fun hneg => ?_)
  · conv => whnf
    refine AArith.ok (r' := n % m) (by omega) (by omega) (by omega) ?_; conv => whnf
    exact ⟨rfl, Sub.refl _⟩
  · conv => whnf
    refine ⟨congrArg (Value.int .i64) ?_, Sub.refl _⟩
    omega

/-- the crew of a number -/
def crw (n : Int) : Nat := (1 + n % 31).toNat
theorem crw_pos (n : Int) : 0 < crw n ∧ crw n < 32 := by unfold crw; omega
theorem some_any (h : Heap) (n : Int) : ACalls PR 35 #[I n] h (fun v h' => v = I ((2 * crw n : Nat) : Int) ∧ h = h') := by
  refine acalls_pure (acalls_of mix Try.func35 rfl rfl Try.ntmps35 Try.results35 rfl ?_); conv => whnf
  refine ACalls.mono (Bring_any h n 31 (by omega) (by omega)) ?_; rintro _ _ ⟨rfl, rfl⟩; conv => whnf
  refine AArith.ok (by omega) (by omega) (rfl) ?_; conv => whnf
  refine AArith.ok (r' := ((2 * crw n : Nat) : Int)) (by omega) (by omega) (by unfold crw; omega) ?_; conv => whnf
  exact ⟨rfl, Sub.refl _⟩
theorem m5_two {k : Nat} (h : k < 32) : m5 ((2 * k : Nat) : Int) = k := by unfold m5; omega

theorem pop_incl (u a b : Nat) : pop (u &&& a) + pop (u &&& b) ≤ pop u + pop ((a &&& b) &&& u) := by
  have key : ∀ x y z : Bool, (x && y).toNat + (x && z).toNat ≤ x.toNat + ((y && z) && x).toNat := by decide
  unfold pop
  simp only [bt_and]
  have h0 := key (bt u 0) (bt a 0) (bt b 0); have h1 := key (bt u 1) (bt a 1) (bt b 1); have h2 := key (bt u 2) (bt a 2) (bt b 2); have h3 := key (bt u 3) (bt a 3) (bt b 3); have h4 := key (bt u 4) (bt a 4) (bt b 4)
  omega
theorem pop_and_le (u v : Nat) : pop (u &&& v) ≤ pop v := by
  have key : ∀ x y : Bool, (x && y).toNat ≤ y.toNat := by decide
  unfold pop
  simp only [bt_and]
  have h0 := key (bt u 0) (bt v 0); have h1 := key (bt u 1) (bt v 1); have h2 := key (bt u 2) (bt v 2); have h3 := key (bt u 3) (bt v 3); have h4 := key (bt u 4) (bt v 4)
  omega

theorem Meet_law (h : Heap) (c a b : Int) : ACalls PR 8 #[I c, I a, I b] h (fun v h' => v = .bool true ∧ h = h') := by
  refine acalls_pure (acalls_of mix Try.func8 rfl rfl Try.ntmps8 Try.results8 rfl ?_); conv => whnf
  refine ACalls.mono (works_yes _) ?_; rintro _ _ ⟨rfl, rfl⟩; conv => whnf
  refine ACalls.mono (some_any h c) ?_; rintro _ _ ⟨rfl, rfl⟩; conv => whnf
  have hk := crw_pos c
  generalize crw c = k at *
  have e2 := m5_two hk.2
  cases h1 : decide (pop (m5 ((2 * k : Nat) : Int)) < 2 * pop (m5 ((2 * k : Nat) : Int) &&& m5 a)) with
  | false =>
    refine ACalls.mono (Most_is h _ a _ h1) ?_; rintro _ _ ⟨rfl, rfl⟩; conv => whnf
    exact ⟨rfl, Sub.refl _⟩
  | true =>
    refine ACalls.mono (Most_is h _ a _ h1) ?_; rintro _ _ ⟨rfl, rfl⟩; conv => whnf
    cases h2 : decide (pop (m5 ((2 * k : Nat) : Int)) < 2 * pop (m5 ((2 * k : Nat) : Int) &&& m5 b)) with
    | false =>
      refine ACalls.mono (Most_is h _ b _ h2) ?_; rintro _ _ ⟨rfl, rfl⟩; conv => whnf
      exact ⟨rfl, Sub.refl _⟩
    | true =>
      refine ACalls.mono (Most_is h _ b _ h2) ?_; rintro _ _ ⟨rfl, rfl⟩; conv => whnf
      refine AInt.as (r' := IntKind.i64.wrap ((BitVec.ofInt 64 a &&& BitVec.ofInt 64 b).toNat : Int)) rfl ?_; conv => whnf
      have ev := m5_and a b
      generalize IntKind.i64.wrap ((BitVec.ofInt 64 a &&& BitVec.ofInt 64 b).toNat : Int) = v at *
      refine AInt.as (r' := IntKind.i64.wrap ((BitVec.ofInt 64 v &&& BitVec.ofInt 64 ((2 * k : Nat) : Int)).toNat : Int)) rfl ?_; conv => whnf
      refine ACalls.mono (Count_any h _) ?_
      rw [m5_and, ev]
      rintro _ _ ⟨rfl, rfl⟩
      conv => whnf
      have h1 := of_decide_eq_true h1
      have h2 := of_decide_eq_true h2
      have h3 := pop_incl (m5 ((2 * k : Nat) : Int)) (m5 a) (m5 b)
      refine ACmp.yes (by omega) ?_; conv => whnf
      exact ⟨rfl, Sub.refl _⟩
end Go.Ah
