/- The laws List, Ranked, Rises. -/
import Derived.Test.YtdffkkobifnabaaCrI
namespace Go.Ah
open Go.Proofs
set_option linter.unusedVariables false
set_option linter.unusedSimpArgs false

theorem ls_place : ∀ k, k < 32 → ∀ j, j < 5 → bt k j = true → (lsTo k j).length < (ls k).length ∧ (ls k)[(lsTo k j).length]? = some ((j : Int) + 1) := by decide +kernel
def gq (k q : Nat) : Nat := (lsTo k (min 5 (q - 2))).length
theorem gq_in {k j : Nat} (hj : j < 5) : gq k (j + 2) = (lsTo k j).length ∧ gq k (j + 3) = (lsTo k j).length + (bt k j).toNat := by
  unfold gq
  rw [show min 5 (j + 2 - 2) = j by omega, show min 5 (j + 3 - 2) = j + 1 by omega, lsTo]
  refine ⟨rfl, ?_⟩
  cases bt k j
  · rfl
  · rw [if_pos rfl, List.length_append]; rfl
theorem gq_out {k q : Nat} (h : q < 2 ∨ 7 ≤ q) : gq k (q + 1) = gq k q := by
  unfold gq
  rcases h with h | h
  · rw [show min 5 (q + 1 - 2) = 0 by omega, show min 5 (q - 2) = 0 by omega]
  · rw [show min 5 (q + 1 - 2) = 5 by omega, show min 5 (q - 2) = 5 by omega]
theorem gq_le (k q : Nat) : gq k q ≤ 5 := by
  have := lsTo_len k (min 5 (q - 2))
  unfold gq; omega

set_option maxHeartbeats 1000000 in
theorem List_law (h : Heap) (c : Int) : ACalls PR 11 #[I c] h (fun v h' => v = .bool true ∧ h = h') := by
  refine acalls_pure (acalls_of mix Try.func11 rfl rfl Try.ntmps11 Try.results11 rfl ?_); conv => whnf
  refine ACalls.mono (works_yes _) ?_; rintro _ _ ⟨rfl, rfl⟩; conv => whnf
  refine ACalls.mono (some_any _ c) ?_; rintro _ _ ⟨rfl, rfl⟩; conv => whnf
  have hk := crw_pos c
  generalize crw c = k at *
  have e2 := m5_two hk.2
  refine ACalls.mono (List_any h ((2 * k : Nat) : Int)) ?_
  rw [e2]
  rintro _ h2 ⟨al, cl, tl, rfl, sl, s2⟩
  conv => whnf
  have hlp := ls_len k hk.2
  have hp5 := pop_le k
  have hok := ls_ok k hk.2
  have hmk := mk_ls k hk.2
  refine ACalls.mono (Of_is h2 sl (by omega) ((2 * k : Nat) : Int) 0 (by rw [ofC, if_pos hok, hmk]) (by rw [ofE, if_pos hok, hmk, if_neg (by omega)])) ?_; rintro _ _ ⟨rfl, rfl⟩; conv => whnf
  generalize hnl : (ls k).length = nl at *
  refine ALoop.mk (fun e h' => h' = h2 ∧ ∃ e0, ∃ q : Nat, e = updL 65 e0 [(0, I ((2 * k : Nat) : Int)), (3, .slice al nl cl), (4, I ((2 * k : Nat) : Int)), (5, I 0), (6, I (gq k q)), (7, I ((q : Int) - 1))] ∧ q ≤ 9) (fun e => 9 - (match e 7 with | .int _ n => (n + 1).toNat | _ => 0))
    ⟨rfl, _, 0, updL_self ⟨rfl, rfl, rfl, rfl, rfl, rfl, trivial⟩, by omega⟩ ?_
  rintro e h3 ⟨rfl, e0, q, rfl, hq⟩
  conv => whnf
  have hg5 := gq_le k q
  by_cases hq9 : q < 9
  · refine ACmp.yes (by omega) ?_; conv => whnf
    by_cases hin : 2 ≤ q ∧ q < 7
    · obtain ⟨j, rfl⟩ : ∃ j, q = j + 2 := ⟨q - 2, by omega⟩
      obtain ⟨g1, g2⟩ := @gq_in k j (by omega)
      have hh : hasB ((2 * k : Nat) : Int) (((j + 2 : Nat) : Int) - 1) = bt k j := by
        rw [show ((j + 2 : Nat) : Int) - 1 = (j : Int) + 1 by omega, hasB_in _ j (by omega), e2]
      cases hb : bt k j
      · refine ACalls.mono (Has_is h3 _ _ false (by rw [hh, hb])) ?_; rintro _ _ ⟨rfl, rfl⟩; conv => whnf
        have hgn : gq k (j + 2 + 1) = gq k (j + 2) := by rw [show j + 2 + 1 = j + 3 by omega, g2, g1, hb]; rfl
        generalize j + 2 = q at *
        refine AArith.ok (by omega) (by omega) ((by omega : (q : Int) - 1 + 1 = ((q + 1 : Nat) : Int) - 1)) ?_; conv => whnf
        refine ⟨⟨rfl, _, q + 1, updL_self ⟨rfl, rfl, rfl, rfl, by rw [hgn]; rfl, rfl, trivial⟩, by omega⟩, ?_⟩
        show 9 - (((q + 1 : Nat) : Int) - 1 + 1).toNat < 9 - ((q : Int) - 1 + 1).toNat
        omega
      · refine ACalls.mono (Has_is h3 _ _ true (by rw [hh, hb])) ?_; rintro _ _ ⟨rfl, rfl⟩; conv => whnf
        obtain ⟨p1, p2⟩ := ls_place k hk.2 j (by omega) hb
        rw [← g1] at p1 p2
        refine ACmp.no (by omega) ?_; conv => whnf
        obtain ⟨b, off, L, E, fz, rfl, hbb, hc⟩ := sl.pos (by omega)
        have gg : L[off + gq k (j + 2) * 1]? = some (I ((j : Int) + 1)) := by
          rw [get_of_take hc (by omega), Nat.mul_one, List.getElem?_map, p2]; rfl
        refine AIdx.nat (z := 1) (j := gq k (j + 2)) rfl (by omega) rfl rfl ?_; conv => whnf
        refine ALoad.one rfl hbb gg ?_; conv => whnf
        refine ACmp.no (by omega) ?_; conv => whnf
        refine AArith.ok (by omega) (by omega) (rfl) ?_; conv => whnf
        have hgn : gq k (j + 2 + 1) = gq k (j + 2) + 1 := by rw [show j + 2 + 1 = j + 3 by omega, g2, g1, hb]; rfl
        clear gg p1 p2 g1 g2 hh
        generalize j + 2 = q at *
        refine AArith.ok (by omega) (by omega) ((by omega : (q : Int) - 1 + 1 = ((q + 1 : Nat) : Int) - 1)) ?_; conv => whnf
        refine ⟨⟨rfl, _, q + 1, updL_self ⟨rfl, rfl, rfl, rfl, by rw [hgn]; rfl, rfl, trivial⟩, by omega⟩, ?_⟩
        show 9 - (((q + 1 : Nat) : Int) - 1 + 1).toNat < 9 - ((q : Int) - 1 + 1).toNat
        omega
    · have hh : hasB ((2 * k : Nat) : Int) ((q : Int) - 1) = false := hasB_out _ _ (by omega)
      refine ACalls.mono (Has_is h3 _ _ false hh) ?_; rintro _ _ ⟨rfl, rfl⟩; conv => whnf
      have hgn : gq k (q + 1) = gq k q := gq_out (by omega)
      refine AArith.ok (by omega) (by omega) ((by omega : (q : Int) - 1 + 1 = ((q + 1 : Nat) : Int) - 1)) ?_; conv => whnf
      refine ⟨⟨rfl, _, q + 1, updL_self ⟨rfl, rfl, rfl, rfl, by rw [hgn]; rfl, rfl, trivial⟩, by omega⟩, ?_⟩
      show 9 - (((q + 1 : Nat) : Int) - 1 + 1).toNat < 9 - ((q : Int) - 1 + 1).toNat
      omega
  · refine ACmp.no (by omega) ?_; conv => whnf
    obtain rfl : q = 9 := by omega
    have hg9 : gq k 9 = nl := hnl
    refine ACmp.yes (rfl) ?_; conv => whnf
    refine ACmp.yes (rfl) ?_; conv => whnf
    refine ACalls.mono (Count_is h3 _ (nl : Int) (by rw [e2, hlp])) ?_; rintro _ _ ⟨rfl, rfl⟩; conv => whnf
    refine ACmp.yes (rfl) ?_; conv => whnf
    refine ACmp.yes (by omega) ?_; conv => whnf
    refine ACalls.mono (Check_any h3 _ (by omega) (by omega)) ?_; rintro _ _ ⟨rfl, rfl⟩; conv => whnf
    refine ACmp.yes (chk_crew hk.1 hk.2) ?_; conv => whnf
    exact ⟨rfl, s2⟩

/-- a set of bits, told by a test -/
def maskTo (p : Nat → Bool) : Nat → Nat
  | 0 => 0
  | i + 1 => if p i = true then maskTo p i ||| 2 ^ i else maskTo p i
theorem maskTo_bt (p : Nat → Bool) : ∀ i, i ≤ 5 → maskTo p i < 32 ∧ ∀ j, j < 5 → bt (maskTo p i) j = (decide (j < i) && p j)
  | 0, _ => ⟨by simp [maskTo], fun j hj => by
    have : ∀ i, i < 5 → bt 0 i = false := by decide
    simp [maskTo, this j hj]⟩
  | i + 1, hi => by
    obtain ⟨h1, h2⟩ := maskTo_bt p i (by omega)
    unfold maskTo
    by_cases hp : p i = true
    · rw [if_pos hp]
      refine ⟨(or_step _ h1 i (by omega)).1, fun j hj => ?_⟩
      rw [bt_or _ h1 i (by omega) j hj, h2 j hj]
      by_cases e : j = i
      · subst e; simp [hp]
      · have : decide (j < i + 1) = decide (j < i) := by rw [decide_eq_decide]; omega
        simp [e, this]
    · rw [if_neg hp]
      refine ⟨h1, fun j hj => ?_⟩
      rw [h2 j hj]
      by_cases e : j = i
      · subst e; simp [hp]
      · have : decide (j < i + 1) = decide (j < i) := by rw [decide_eq_decide]; omega
        rw [this]

theorem RankOf.nonneg {l : List Int} {f : Int → Int} {r : Int} (h : RankOf (l.map f) r) (h0 : l ≠ []) (hf : ∀ x ∈ l, 0 ≤ f x) : ∀ v, v ≤ r ↔ l.length < 2 * cnt v (l.map f) := by
  rcases h with ⟨e, _⟩ | ⟨_, s, e, hs, k⟩
  · exact absurd (List.map_eq_nil_iff.1 e) h0
  · obtain ⟨x, hx, rfl⟩ := List.mem_map.1 hs
    have := hf x hx
    rw [if_neg (by omega)] at e
    subst e
    intro v
    rw [k v, List.length_map]
theorem RankOf.mono {l : List Int} {f g : Int → Int} {r s : Int} (h : RankOf (l.map f) r) (h' : RankOf (l.map g) s) (hfg : ∀ x ∈ l, f x ≤ g x) : r ≤ s := by
  rcases h with ⟨e, rfl⟩ | ⟨n, a, rfl, ha, k⟩
  · rcases h' with ⟨_, rfl⟩ | ⟨n', _⟩
    · omega
    · exact absurd (by rw [List.map_eq_nil_iff.1 e]; rfl) n'
  · rcases h' with ⟨e, _⟩ | ⟨_, b, rfl, hb, k'⟩
    · exact absurd (by rw [List.map_eq_nil_iff.1 e]; rfl) n
    · have h1 := (k a).1 (Int.le_refl _)
      have h2 := cnt_mono (v := a) f g l hfg
      have h3 := (k' a).2 (by rw [List.length_map] at h1 ⊢; omega)
      split <;> split <;> omega

abbrev M53 : Int := 9007199254740992
def br (q i : Nat) (a : Int) : Int := bif Nat.blt i q then a % 9007199254740992 else a
def brs (q : Nat) (a0 a1 a2 a3 a4 a5 : Int) : List Value := [I (br q 0 a0), I (br q 1 a1), I (br q 2 a2), I (br q 3 a3), I (br q 4 a4), I (br q 5 a5)]
theorem ls_mem {k : Nat} (hk : k < 32) {x : Int} (hx : x ∈ ls k) : ∃ j : Nat, j < 5 ∧ x = (j : Int) + 1 := ok1_pos (List.all_eq_true.1 (ls_ok k hk) x hx)
theorem six_all {p : Int → Prop} {a0 a1 a2 a3 a4 a5 : Int} (h1 : p a1) (h2 : p a2) (h3 : p a3) (h4 : p a4) (h5 : p a5) (j : Nat) (hj : j < 5) : p (six a0 a1 a2 a3 a4 a5 ((j : Int) + 1)) := by
  have : j = 0 ∨ j = 1 ∨ j = 2 ∨ j = 3 ∨ j = 4 := by omega
  rcases this with rfl | rfl | rfl | rfl | rfl <;> assumption

set_option maxHeartbeats 2000000 in
theorem Ranked_law (h : Heap) (c a0 a1 a2 a3 a4 a5 : Int) : ACalls PR 13 #[I c, .agg #[I a0, I a1, I a2, I a3, I a4, I a5]] h (fun v h' => v = .bool true ∧ h = h') := by
  refine acalls_pure (acalls_of mix Try.func13 rfl rfl Try.ntmps13 Try.results13 rfl ?_); conv => whnf
  refine ABox.mk (0, 1) rfl fun b1 f1 => ?_; conv => whnf
  refine ACalls.mono (works_yes _) ?_; rintro _ _ ⟨rfl, rfl⟩; conv => whnf
  refine ACalls.mono (some_any _ c) ?_; rintro _ _ ⟨rfl, rfl⟩; conv => whnf
  have hk := crw_pos c
  generalize crw c = k at *
  have e2 := m5_two hk.2
  refine ALoop.mk (fun e h' => ∃ e0, ∃ q : Nat, e = updL 68 e0 [(0, I ((2 * k : Nat) : Int)), (3, .pointer (some ⟨b1, 0, none⟩)), (5, I q)] ∧ q ≤ 6 ∧ h' = h.set b1 (row (0, 1) (brs q a0 a1 a2 a3 a4 a5) 36)) (fun e => 6 - natOf (e 5))
    ⟨_, 0, updL_self ⟨rfl, rfl, rfl, trivial⟩, by omega, rfl⟩ ?_
  rintro e h2 ⟨e0, q, rfl, hq, rfl⟩
  conv => whnf
  by_cases hq6 : q < 6
  · refine ACmp.yes (by omega) ?_; conv => whnf
    obtain ⟨m, hm⟩ : ∃ m, m = q + 1 := ⟨_, rfl⟩
    have : q = 0 ∨ q = 1 ∨ q = 2 ∨ q = 3 ∨ q = 4 ∨ q = 5 := by omega
    rcases this with rfl | rfl | rfl | rfl | rfl | rfl
    all_goals refine AIdxA.nat (n := 6) (z := 1) rfl (by omega) rfl rfl ?_
    all_goals (conv => whnf)
    all_goals (refine ALoad.one rfl (Heap.set_same _ _ _) rfl ?_; conv => whnf)
    all_goals refine ACalls.mono (Bring_any _ _ 9007199254740992 (by omega) (by omega)) ?_
    all_goals rintro _ _ ⟨rfl, rfl⟩
    all_goals (conv => whnf)
    all_goals refine AIdxA.nat (n := 6) (z := 1) rfl (by omega) rfl rfl ?_
    all_goals (conv => whnf)
    all_goals (refine AStore.one' rfl rfl rfl (Heap.set_same _ _ _) rfl ?_; conv => whnf)
    all_goals (refine AArith.ok (by omega) (by omega) ((by omega : _ = (m : Int))) ?_; conv => whnf)
    all_goals refine ⟨⟨_, m, updL_self ⟨rfl, rfl, rfl, trivial⟩, (by omega), (by subst hm; rw [Heap.set_set]; rfl)⟩, ?_⟩
    · show 6 - m < 6 - 0; omega
    · show 6 - m < 6 - 1; omega
    · show 6 - m < 6 - 2; omega
    · show 6 - m < 6 - 3; omega
    · show 6 - m < 6 - 4; omega
    · show 6 - m < 6 - 5; omega
  · refine ACmp.no (by omega) ?_; conv => whnf
    obtain rfl : q = 6 := by omega
    have kb : (h.set b1 (row (0, 1) (brs 6 a0 a1 a2 a3 a4 a5) 36)) b1 = some (row (0, 1) [I (br 6 0 a0), I (br 6 1 a1), I (br 6 2 a2), I (br 6 3 a3), I (br 6 4 a4), I (br 6 5 a5)] 36) := Heap.set_same _ _ _
    have hsub : Sub h (h.set b1 (row (0, 1) (brs 6 a0 a1 a2 a3 a4 a5) 36)) := f1.sub _
    generalize h.set b1 (row (0, 1) (brs 6 a0 a1 a2 a3 a4 a5) 36) = H at kb hsub ⊢
    refine ALoad.agg rfl kb rfl rfl ?_; conv => whnf
    refine ACalls.mono (Rank_any H _ (br 6 0 a0) (br 6 1 a1) (br 6 2 a2) (br 6 3 a3) (br 6 4 a4) (br 6 5 a5)) ?_
    rw [e2]
    rintro _ _ ⟨⟨r, rfl, hr⟩, rfl⟩
    conv => whnf
    have hcell := six_cell (br 6 0 a0) (br 6 1 a1) (br 6 2 a2) (br 6 3 a3) (br 6 4 a4) (br 6 5 a5)
    have hb0 : ∀ i : Nat, i < 6 → ∀ a : Int, 0 ≤ br 6 i a := fun i hi a => by
      unfold br; rw [show Nat.blt i 6 = true by rw [Nat.blt_eq]; exact hi]; exact Int.emod_nonneg _ (by decide)
    have hF0 : ∀ j : Nat, j < 5 → 0 ≤ six (br 6 0 a0) (br 6 1 a1) (br 6 2 a2) (br 6 3 a3) (br 6 4 a4) (br 6 5 a5) ((j : Int) + 1) := fun j hj =>
      six_all (p := fun x => 0 ≤ x) (hb0 1 (by omega) _) (hb0 2 (by omega) _) (hb0 3 (by omega) _) (hb0 4 (by omega) _) (hb0 5 (by omega) _) j hj
    generalize six (br 6 0 a0) (br 6 1 a1) (br 6 2 a2) (br 6 3 a3) (br 6 4 a4) (br 6 5 a5) = F at hr hcell hF0
    have hlp := ls_len k hk.2
    have hl0 : ls k ≠ [] := by
      intro e; rw [e] at hlp
      have := (pop_zero k hk.2).1 hlp.symm
      omega
    have hg := hr.nonneg hl0 fun x hx => by obtain ⟨j, hj, rfl⟩ := ls_mem hk.2 hx; exact hF0 j hj
    rw [hlp] at hg
    obtain ⟨p, hp⟩ : ∃ p : Nat → Bool, ∀ j : Nat, p j = (bt k j && decide (r ≤ F ((j : Int) + 1))) := ⟨_, fun _ => rfl⟩
    obtain ⟨p', hp'⟩ : ∃ p : Nat → Bool, ∀ j : Nat, p j = (bt k j && decide (r + 1 ≤ F ((j : Int) + 1))) := ⟨_, fun _ => rfl⟩
    refine ALoop.mk (fun e h' => h' = H ∧ ∃ e0, ∃ i : Nat, e = updL 68 e0 [(0, I ((2 * k : Nat) : Int)), (3, .pointer (some ⟨b1, 0, none⟩)), (6, I r), (7, I ((2 * maskTo p i : Nat) : Int)), (8, I ((2 * maskTo p' i : Nat) : Int)), (9, I ((i : Int) + 1))] ∧ i ≤ 5) (fun e => 6 - natOf (e 9))
      ⟨rfl, _, 0, updL_self ⟨rfl, rfl, rfl, rfl, rfl, rfl, trivial⟩, by omega⟩ ?_
    rintro e h3 ⟨rfl, e1, i, rfl, hi⟩
    conv => whnf
    by_cases hi5 : i < 5
    · refine ACmp.yes (by omega) ?_; conv => whnf
      have hh : hasB ((2 * k : Nat) : Int) ((i : Int) + 1) = bt k i := by rw [hasB_in _ i hi5, e2]
      have hA := maskTo_bt p i hi
      have hB := maskTo_bt p' i hi
      have eA : maskTo p (i + 1) = if p i = true then maskTo p i ||| 2 ^ i else maskTo p i := rfl
      have eB : maskTo p' (i + 1) = if p' i = true then maskTo p' i ||| 2 ^ i else maskTo p' i := rfl
      have hpi := hp i
      have hpi' := hp' i
      cases hb : bt k i with
      | false =>
        rw [hb, Bool.false_and] at hpi hpi'
        rw [hpi, if_neg (by simp)] at eA
        rw [hpi', if_neg (by simp)] at eB
        refine ACalls.mono (Has_is h3 _ _ false (by rw [hh, hb])) ?_; rintro _ _ ⟨rfl, rfl⟩; conv => whnf
        refine ACalls.mono (Has_is h3 _ _ false (by rw [hh, hb])) ?_; rintro _ _ ⟨rfl, rfl⟩; conv => whnf
        refine AArith.ok (by omega) (by omega) ((by omega : (i : Int) + 1 + 1 = ((i + 1 : Nat) : Int) + 1)) ?_; conv => whnf
        refine ⟨⟨rfl, _, i + 1, updL_self ⟨rfl, rfl, rfl, by rw [eA]; rfl, by rw [eB]; rfl, rfl, trivial⟩, by omega⟩, ?_⟩
        show 6 - (((i + 1 : Nat) : Int) + 1).toNat < 6 - ((i : Int) + 1).toNat
        omega
      | true =>
        rw [hb, Bool.true_and] at hpi hpi'
        refine ACalls.mono (Has_is h3 _ _ true (by rw [hh, hb])) ?_; rintro _ _ ⟨rfl, rfl⟩; conv => whnf
        refine AIdxA.nat (n := 6) (z := 1) (j := i + 1) (by omega) (by omega) rfl rfl ?_; conv => whnf
        refine ALoad.one rfl kb (hcell i hi5) ?_; conv => whnf
        by_cases h1 : r ≤ F ((i : Int) + 1)
        · refine ACmp.yes (h1) ?_; conv => whnf
          rw [hpi, decide_eq_true h1, if_pos rfl] at eA
          refine ⟨by omega, ?_⟩
          conv => whnf
          refine AArith.as (shl_pow i hi5) ?_; conv => whnf
          refine AInt.as ((or_step _ hA.1 i hi5).2) ?_; conv => whnf
          refine ACalls.mono (Has_is h3 _ _ true (by rw [hh, hb])) ?_; rintro _ _ ⟨rfl, rfl⟩; conv => whnf
          refine AIdxA.nat (n := 6) (z := 1) (j := i + 1) (by omega) (by omega) rfl rfl ?_; conv => whnf
          refine ALoad.one rfl kb (hcell i hi5) ?_; conv => whnf
          by_cases h2 : r < F ((i : Int) + 1)
          · refine ACmp.yes (h2) ?_; conv => whnf
            rw [hpi', decide_eq_true (by omega), if_pos rfl] at eB
            refine ⟨by omega, ?_⟩
            conv => whnf
            refine AArith.as (shl_pow i hi5) ?_; conv => whnf
            refine AInt.as ((or_step _ hB.1 i hi5).2) ?_; conv => whnf
            refine AArith.ok (by omega) (by omega) ((by omega : (i : Int) + 1 + 1 = ((i + 1 : Nat) : Int) + 1)) ?_; conv => whnf
            refine ⟨⟨rfl, _, i + 1, updL_self ⟨rfl, rfl, rfl, by rw [eA]; rfl, by rw [eB]; rfl, rfl, trivial⟩, by omega⟩, ?_⟩
            show 6 - (((i + 1 : Nat) : Int) + 1).toNat < 6 - ((i : Int) + 1).toNat
            omega
          · refine ACmp.no (h2) ?_; conv => whnf
            rw [hpi', decide_eq_false (by omega), if_neg (by simp)] at eB
            refine AArith.ok (by omega) (by omega) ((by omega : (i : Int) + 1 + 1 = ((i + 1 : Nat) : Int) + 1)) ?_; conv => whnf
            refine ⟨⟨rfl, _, i + 1, updL_self ⟨rfl, rfl, rfl, by rw [eA]; rfl, by rw [eB]; rfl, rfl, trivial⟩, by omega⟩, ?_⟩
            show 6 - (((i + 1 : Nat) : Int) + 1).toNat < 6 - ((i : Int) + 1).toNat
            omega
        · refine ACmp.no (h1) ?_; conv => whnf
          rw [hpi, decide_eq_false h1, if_neg (by simp)] at eA
          refine ACalls.mono (Has_is h3 _ _ true (by rw [hh, hb])) ?_; rintro _ _ ⟨rfl, rfl⟩; conv => whnf
          refine AIdxA.nat (n := 6) (z := 1) (j := i + 1) (by omega) (by omega) rfl rfl ?_; conv => whnf
          refine ALoad.one rfl kb (hcell i hi5) ?_; conv => whnf
          refine ACmp.no (by omega) ?_; conv => whnf
          rw [hpi', decide_eq_false (by omega), if_neg (by simp)] at eB
          refine AArith.ok (by omega) (by omega) ((by omega : (i : Int) + 1 + 1 = ((i + 1 : Nat) : Int) + 1)) ?_; conv => whnf
          refine ⟨⟨rfl, _, i + 1, updL_self ⟨rfl, rfl, rfl, by rw [eA]; rfl, by rw [eB]; rfl, rfl, trivial⟩, by omega⟩, ?_⟩
          show 6 - (((i + 1 : Nat) : Int) + 1).toNat < 6 - ((i : Int) + 1).toNat
          omega
    · refine ACmp.no (by omega) ?_; conv => whnf
      obtain rfl : i = 5 := by omega
      have hA := maskTo_bt p 5 (by omega)
      have hB := maskTo_bt p' 5 (by omega)
      have cA : cnt r ((ls k).map F) = pop (k &&& maskTo p 5) := cnt_ls r F k _ fun j hj hb => by rw [hA.2 j hj, hp j, hb, decide_eq_true hj, Bool.true_and, Bool.true_and]
      have cB : cnt (r + 1) ((ls k).map F) = pop (k &&& maskTo p' 5) := cnt_ls (r + 1) F k _ fun j hj hb => by rw [hB.2 j hj, hp' j, hb, decide_eq_true hj, Bool.true_and, Bool.true_and]
      have g1 := (hg r).1 (Int.le_refl _)
      have g2 : ¬ pop k < 2 * cnt (r + 1) ((ls k).map F) := fun c => by have := (hg (r + 1)).2 c; omega
      rw [cA] at g1
      rw [cB] at g2
      refine ACalls.mono (Most_is h3 _ _ true (by rw [e2, m5_two hA.1]; exact decide_eq_true g1)) ?_; rintro _ _ ⟨rfl, rfl⟩; conv => whnf
      refine ACalls.mono (Most_is h3 _ _ false (by rw [e2, m5_two hB.1]; exact decide_eq_false g2)) ?_; rintro _ _ ⟨rfl, rfl⟩; conv => whnf
      exact ⟨rfl, hsub⟩
end Go.Ah
