/- The laws Rises, Known. -/
import Derived.Test.YtdffkkobifnabaaCrJ
namespace Go.Ah
open Go.Proofs
set_option linter.unusedVariables false
set_option linter.unusedSimpArgs false

def mr (q i : Nat) (a y : Int) : Int := bif Nat.blt i q then a % 9007199254740992 + y % 9007199254740992 else a
def mrs (q : Nat) (a0 a1 a2 a3 a4 a5 y0 y1 y2 y3 y4 y5 : Int) : List Value := [I (mr q 0 a0 y0), I (mr q 1 a1 y1), I (mr q 2 a2 y2), I (mr q 3 a3 y3), I (mr q 4 a4 y4), I (mr q 5 a5 y5)]
theorem six_le {a1 a2 a3 a4 a5 b1 b2 b3 b4 b5 : Int} (a0 b0 : Int) (h1 : a1 ≤ b1) (h2 : a2 ≤ b2) (h3 : a3 ≤ b3) (h4 : a4 ≤ b4) (h5 : a5 ≤ b5) (j : Nat) (hj : j < 5) : six a0 a1 a2 a3 a4 a5 ((j : Int) + 1) ≤ six b0 b1 b2 b3 b4 b5 ((j : Int) + 1) := by
  have : j = 0 ∨ j = 1 ∨ j = 2 ∨ j = 3 ∨ j = 4 := by omega
  rcases this with rfl | rfl | rfl | rfl | rfl <;> assumption
theorem mod53 (a : Int) : 0 ≤ a % 9007199254740992 ∧ a % 9007199254740992 < 9007199254740992 := ⟨Int.emod_nonneg _ (by decide), Int.emod_lt_of_pos _ (by decide)⟩

set_option maxHeartbeats 2000000 in
theorem Rises_law (h : Heap) (c a0 a1 a2 a3 a4 a5 y0 y1 y2 y3 y4 y5 : Int) : ACalls PR 14 #[I c, .agg #[I a0, I a1, I a2, I a3, I a4, I a5], .agg #[I y0, I y1, I y2, I y3, I y4, I y5]] h (fun v h' => v = .bool true ∧ h = h') := by
  refine acalls_pure (acalls_of mix Try.func14 rfl rfl Try.ntmps14 Try.results14 rfl ?_); conv => whnf
  refine ABox.mk (0, 1) rfl fun b1 f1 => ?_; conv => whnf
  refine ABox.mk (0, 1) rfl fun b2 f2 => ?_; conv => whnf
  have k1 := Heap.set_same h b1 (row (0, 1) [I a0, I a1, I a2, I a3, I a4, I a5] 36)
  have k12 := f2.sub (row (0, 1) [I y0, I y1, I y2, I y3, I y4, I y5] 36) _ _ k1
  have k2 := Heap.set_same (h.set b1 (row (0, 1) [I a0, I a1, I a2, I a3, I a4, I a5] 36)) b2 (row (0, 1) [I y0, I y1, I y2, I y3, I y4, I y5] 36)
  have n12 : b1 ≠ b2 := f2.ne k1
  refine ACalls.mono (works_yes _) ?_; rintro _ _ ⟨rfl, rfl⟩; conv => whnf
  refine ACalls.mono (some_any _ c) ?_; rintro _ _ ⟨rfl, rfl⟩; conv => whnf
  have hk := crw_pos c
  generalize crw c = k at *
  have e2 := m5_two hk.2
  refine ALoad.agg rfl k12 rfl rfl ?_; conv => whnf
  refine AAlloc.mk (0, 1) rfl fun b3 f3 => ?_; conv => whnf
  have n13 : b1 ≠ b3 := f3.ne k12
  have n23 : b2 ≠ b3 := f3.ne k2
  have hs1 : Sub h ((h.set b1 (row (0, 1) [I a0, I a1, I a2, I a3, I a4, I a5] 36)).set b2 (row (0, 1) [I y0, I y1, I y2, I y3, I y4, I y5] 36)) := (f1.sub _).trans (f2.sub _)
  have z1 : h b1 = none := f1.none
  have z3 : h b3 = none := f3.none' hs1
  refine AStore.agg' rfl rfl rfl (Heap.set_same _ _ _) rfl ?_; conv => whnf
  rw [Heap.set_set]
  refine ALoop.mk (fun e h' => Sub h h' ∧ ∃ e0, ∃ q : Nat, e = updL 41 e0 [(0, I ((2 * k : Nat) : Int)), (4, .pointer (some ⟨b1, 0, none⟩)), (5, .pointer (some ⟨b2, 0, none⟩)), (7, .pointer (some ⟨b3, 0, none⟩)), (8, I q)] ∧ q ≤ 6 ∧
      h' b1 = some (row (0, 1) (brs q a0 a1 a2 a3 a4 a5) 36) ∧ h' b2 = some (row (0, 1) [I y0, I y1, I y2, I y3, I y4, I y5] 36) ∧ h' b3 = some (row (0, 1) (mrs q a0 a1 a2 a3 a4 a5 y0 y1 y2 y3 y4 y5) 36)) (fun e => 6 - natOf (e 8))
    ⟨hs1.trans (f3.sub _), _, 0, updL_self ⟨rfl, rfl, rfl, rfl, rfl, trivial⟩, by omega, Heap.set_ne n13 k12, Heap.set_ne n23 k2, Heap.set_same _ _ _⟩ ?_
  clear k12 k2 k1 hs1 f3 f2
  rintro e h2 ⟨sb, e0, q, rfl, hq, hA, hB, hC⟩
  conv => whnf
  by_cases hq6 : q < 6
  · refine ACmp.yes (by omega) ?_; conv => whnf
    obtain ⟨m, hm⟩ : ∃ m, m = q + 1 := ⟨_, rfl⟩
    have : q = 0 ∨ q = 1 ∨ q = 2 ∨ q = 3 ∨ q = 4 ∨ q = 5 := by omega
    rcases this with rfl | rfl | rfl | rfl | rfl | rfl
    all_goals refine AIdxA.nat (n := 6) (z := 1) rfl (by omega) rfl rfl ?_
    all_goals (conv => whnf)
    all_goals (refine ALoad.one rfl hA rfl ?_; conv => whnf)
    all_goals refine ACalls.mono (Bring_any _ _ 9007199254740992 (by omega) (by omega)) ?_
    all_goals rintro _ _ ⟨rfl, rfl⟩
    all_goals (conv => whnf)
    all_goals refine AIdxA.nat (n := 6) (z := 1) rfl (by omega) rfl rfl ?_
    all_goals (conv => whnf)
    all_goals (refine AStore.one' rfl rfl rfl hA rfl ?_; conv => whnf)
    all_goals refine ADrawn.mk _ [10] (Sub.refl _) (by decide +kernel) ?_
    all_goals (conv => whnf)
    all_goals refine AIdxA.nat (n := 6) (z := 1) rfl (by omega) rfl rfl ?_
    all_goals (conv => whnf)
    all_goals (refine ALoad.one rfl (Heap.set_same _ _ _) rfl ?_; conv => whnf)
    all_goals refine AIdxA.nat (n := 6) (z := 1) rfl (by omega) rfl rfl ?_
    all_goals (conv => whnf)
    all_goals (refine ALoad.one rfl (Heap.set_ne (Ne.symm n12) hB) rfl ?_; conv => whnf)
    all_goals refine ACalls.mono (Bring_any _ _ 9007199254740992 (by omega) (by omega)) ?_
    all_goals rintro _ _ ⟨rfl, rfl⟩
    all_goals refine ⟨Sub.refl _, ?_⟩
    all_goals (conv => whnf)
    all_goals refine AArith.ok (by omega) (by omega) rfl ?_
    all_goals (conv => whnf)
    all_goals refine AIdxA.nat (n := 6) (z := 1) rfl (by omega) rfl rfl ?_
    all_goals (conv => whnf)
    all_goals (refine AStore.one' rfl rfl rfl (Heap.set_ne (Ne.symm n13) hC) rfl ?_; conv => whnf)
    all_goals (refine AArith.ok (by omega) (by omega) ((by omega : _ = (m : Int))) ?_; conv => whnf)
    all_goals refine ⟨⟨(sb.set z1 _).set z3 _, _, m, updL_self ⟨rfl, rfl, rfl, rfl, rfl, trivial⟩, (by omega), (by subst hm; exact Heap.set_ne n13 (Heap.set_same _ _ _)), Heap.set_ne n23 (Heap.set_ne (Ne.symm n12) hB), (by subst hm; exact Heap.set_same _ _ _)⟩, ?_⟩
    · show 6 - m < 6 - 0; omega
    · show 6 - m < 6 - 1; omega
    · show 6 - m < 6 - 2; omega
    · show 6 - m < 6 - 3; omega
    · show 6 - m < 6 - 4; omega
    · show 6 - m < 6 - 5; omega
  · refine ACmp.no (by omega) ?_; conv => whnf
    obtain rfl : q = 6 := by omega
    have kA : h2 b1 = some (row (0, 1) [I (br 6 0 a0), I (br 6 1 a1), I (br 6 2 a2), I (br 6 3 a3), I (br 6 4 a4), I (br 6 5 a5)] 36) := hA
    have kC : h2 b3 = some (row (0, 1) [I (mr 6 0 a0 y0), I (mr 6 1 a1 y1), I (mr 6 2 a2 y2), I (mr 6 3 a3 y3), I (mr 6 4 a4 y4), I (mr 6 5 a5 y5)] 36) := hC
    have le : ∀ i : Nat, i < 6 → ∀ a y : Int, br 6 i a ≤ mr 6 i a y := fun i hi a y => by
      unfold br mr; rw [show Nat.blt i 6 = true by rw [Nat.blt_eq]; exact hi]
      have := mod53 y
      show a % 9007199254740992 ≤ a % 9007199254740992 + y % 9007199254740992
      omega
    have hle : ∀ x ∈ ls k, six (br 6 0 a0) (br 6 1 a1) (br 6 2 a2) (br 6 3 a3) (br 6 4 a4) (br 6 5 a5) x ≤ six (mr 6 0 a0 y0) (mr 6 1 a1 y1) (mr 6 2 a2 y2) (mr 6 3 a3 y3) (mr 6 4 a4 y4) (mr 6 5 a5 y5) x := fun x hx => by
      obtain ⟨j, hj, rfl⟩ := ls_mem hk.2 hx
      exact six_le _ _ (le 1 (by omega) _ _) (le 2 (by omega) _ _) (le 3 (by omega) _ _) (le 4 (by omega) _ _) (le 5 (by omega) _ _) j hj
    refine ADrawn.mkO (h2) [] [0, 1, 3, 4, 2, 5, 6, 7] (Sub.refl _) (by decide +kernel) ?_; conv => whnf
    refine ALoad.agg rfl kC rfl rfl ?_; conv => whnf
    refine ALoad.agg rfl kA rfl rfl ?_; conv => whnf
    refine ACalls.mono (Rank_any h2 _ (mr 6 0 a0 y0) (mr 6 1 a1 y1) (mr 6 2 a2 y2) (mr 6 3 a3 y3) (mr 6 4 a4 y4) (mr 6 5 a5 y5)) ?_
    rw [e2]
    rintro _ _ ⟨⟨r1, rfl, hr1⟩, rfl⟩
    refine ⟨Sub.refl _, ?_⟩
    conv => whnf
    refine ACalls.mono (Rank_any h2 _ (br 6 0 a0) (br 6 1 a1) (br 6 2 a2) (br 6 3 a3) (br 6 4 a4) (br 6 5 a5)) ?_
    rw [e2]
    rintro _ _ ⟨⟨r2, rfl, hr2⟩, rfl⟩
    refine ⟨Sub.refl _, ?_⟩
    conv => whnf
    refine ACmp.yes (hr2.mono hr1 hle) ?_; conv => whnf
    exact ⟨rfl, sb⟩

theorem RankOf.zero {xs : List Int} {r : Int} (h : RankOf xs r) (h2 : ¬ xs.length < 2 * cnt 1 xs) : r = 0 := by
  rcases h with ⟨_, e⟩ | ⟨_, s, e, _, k⟩
  · exact e
  · have b : ¬ (1 ≤ s) := fun c => h2 ((k 1).1 c)
    rw [e]; split <;> omega

def asks : List Value := [I 0, I 180, I 1, I 180, I 2, I 0, I 62, I 0, I 63, I 180, I 64, I 180, I (-2), I 180, I 66, I 180, I 32, I 0]
theorem asks_at (k : Nat) (h : k < 9) : ∃ a b, (asks.drop (0 + k * 2)).take 2 = [I a, I b] ∧ chk a = b ∧ -100 ≤ a ∧ a ≤ 100 := by
  have : k = 0 ∨ k = 1 ∨ k = 2 ∨ k = 3 ∨ k = 4 ∨ k = 5 ∨ k = 6 ∨ k = 7 ∨ k = 8 := by omega
  rcases this with rfl | rfl | rfl | rfl | rfl | rfl | rfl | rfl | rfl <;> exact ⟨_, _, rfl, by decide, by decide, by decide⟩

set_option maxHeartbeats 2000000 in
theorem Known_law (h : Heap) : ACalls PR 15 #[] h (fun v h' => v = .bool true ∧ h = h') := by
  refine acalls_pure (acalls_of mix Try.func15 rfl rfl Try.ntmps15 Try.results15 rfl ?_); conv => whnf
  refine ABuildSl.mk (0, 1) rfl rfl rfl rfl rfl rfl rfl fun b1 f1 => ?_; conv => whnf
  have s1 := f1.sub (row (0, 1) asks 40)
  have k1 := Heap.set_same h b1 (row (0, 1) asks 40)
  refine ALoop.mk (fun e h' => Sub (h.set b1 (row (0, 1) asks 40)) h' ∧ ∃ e0, ∃ k : Nat, e = updL 181 e0 [(24, .slice (some ⟨b1, 0, none⟩) 9 9), (25, I 9), (26, I k)] ∧ k ≤ 9) (fun e => 9 - natOf (e 26))
    ⟨Sub.refl _, _, 0, updL_self ⟨rfl, rfl, rfl, trivial⟩, by omega⟩ ?_
  rintro e h2 ⟨s2, e0, k, rfl, hk⟩
  conv => whnf
  by_cases hk9 : k < 9
  · refine ACmp.yes (by omega) ?_; conv => whnf
    obtain ⟨x, y, hcell, hxy, hx0, hx1⟩ := asks_at k hk9
    refine AIdx.nat (z := 2) rfl hk9 rfl rfl ?_; conv => whnf
    refine ALoad.agg rfl (s2 _ _ k1) hcell rfl ?_; conv => whnf
    refine AAlloc.mk (0, 1) rfl fun b2 f2 => ?_; conv => whnf
    refine AStore.agg' rfl rfl rfl (Heap.set_same _ _ _) rfl ?_; conv => whnf
    rw [Heap.set_set]
    have s3 := f2.sub (row (0, 1) [I x, I y] 40)
    have k2 := Heap.set_same h2 b2 (row (0, 1) [I x, I y] 40)
    refine ADrawn.mkO (h2.set b2 (row (0, 1) [I x, I y] 40)) [] [0, 1, 3, 4, 2, 5] (Sub.refl _) (by decide +kernel) ?_; conv => whnf
    refine AIdxA.nat (n := 2) (z := 1) (j := 0) rfl (by omega) rfl rfl ?_; conv => whnf
    refine ALoad.one rfl k2 rfl ?_; conv => whnf
    refine AIdxA.nat (n := 2) (z := 1) (j := 1) rfl (by omega) rfl rfl ?_; conv => whnf
    refine ALoad.one rfl k2 rfl ?_; conv => whnf
    refine ACalls.mono (Check_any _ x (by omega) (by omega)) ?_
    rintro _ _ ⟨rfl, rfl⟩
    refine ⟨Sub.refl _, ?_⟩
    conv => whnf
    refine ACmp.no (by simp [hxy]) ?_; conv => whnf
    refine AArith.ok (by omega) (by omega) ((by omega : (k : Int) + 1 = ((k + 1 : Nat) : Int))) ?_; conv => whnf
    refine ⟨⟨s2.trans s3, _, k + 1, updL_self ⟨rfl, rfl, rfl, trivial⟩, by omega⟩, ?_⟩
    show 9 - (k + 1) < 9 - k
    omega
  · refine ACmp.no (by omega) ?_; conv => whnf
    have st := s1.trans s2
    clear k1 s1 s2
    refine ACalls.mono (Of_is h2 (t := (0, 0)) (a := none) (cp := 0) (l := []) (Sl.nil ..) (by omega) 0 180 (by decide) (by decide)) ?_; rintro _ _ ⟨rfl, rfl⟩; conv => whnf
    refine ABuildSl.mk (0, 1) rfl rfl rfl rfl rfl rfl rfl fun b3 f3 => ?_; conv => whnf
    refine ACalls.mono (Of_is _ (l := [0]) ⟨rfl, Nat.le_refl _, .inr ⟨b3, 0, _, _, _, rfl, Heap.set_same _ _ _, rfl⟩⟩ (by omega) 0 2 (by decide) (by decide)) ?_; rintro _ _ ⟨rfl, rfl⟩; conv => whnf
    refine ABuildSl.mk (0, 1) rfl rfl rfl rfl rfl rfl rfl fun b4 f4 => ?_; conv => whnf
    refine ACalls.mono (Of_is _ (l := [1, 6]) ⟨rfl, Nat.le_refl _, .inr ⟨b4, 0, _, _, _, rfl, Heap.set_same _ _ _, rfl⟩⟩ (by omega) 0 2 (by decide) (by decide)) ?_; rintro _ _ ⟨rfl, rfl⟩; conv => whnf
    refine ABuildSl.mk (0, 1) rfl rfl rfl rfl rfl rfl rfl fun b5 f5 => ?_; conv => whnf
    refine ACalls.mono (Of_is _ (l := [5, 5, 1]) ⟨rfl, Nat.le_refl _, .inr ⟨b5, 0, _, _, _, rfl, Heap.set_same _ _ _, rfl⟩⟩ (by omega) 34 0 (by decide) (by decide)) ?_; rintro _ _ ⟨rfl, rfl⟩; conv => whnf
    have s5 := st.trans ((f3.sub _).trans ((f4.sub _).trans (f5.sub (row (0, 1) [I 5, I 5, I 1] 3))))
    refine ACalls.mono (Has_is _ 10 3 true (by decide)) ?_; rintro _ _ ⟨rfl, rfl⟩; conv => whnf
    refine ACalls.mono (Has_is _ 10 2 false (by decide)) ?_; rintro _ _ ⟨rfl, rfl⟩; conv => whnf
    refine ACalls.mono (Has_is _ (-1) 0 false (by decide)) ?_; rintro _ _ ⟨rfl, rfl⟩; conv => whnf
    refine ACalls.mono (Has_is _ (-1) 6 false (by decide)) ?_; rintro _ _ ⟨rfl, rfl⟩; conv => whnf
    refine ACalls.mono (Has_is _ (-1) 5 true (by decide)) ?_; rintro _ _ ⟨rfl, rfl⟩; conv => whnf
    refine ACalls.mono (Has_is _ 4611686018427387904 62 false (by decide)) ?_; rintro _ _ ⟨rfl, rfl⟩; conv => whnf
    refine ACalls.mono (Count_is _ (-1) 5 (by decide)) ?_; rintro _ _ ⟨rfl, rfl⟩; conv => whnf
    refine ACmp.yes (rfl) ?_; conv => whnf
    refine ACalls.mono (Count_is _ 1 0 (by decide)) ?_; rintro _ _ ⟨rfl, rfl⟩; conv => whnf
    refine ACmp.yes (rfl) ?_; conv => whnf
    refine ACalls.mono (List_any _ 64) ?_; rintro _ h6 ⟨a6, c6, t6, rfl, sl6, k6⟩; conv => whnf
    have hz : ((ls (m5 64)).length : Int) = 0 := by decide
    refine ACmp.yes (hz) ?_; conv => whnf
    have s6 := s5.trans k6
    clear s5 k6 st sl6 f3 f4 f5
    refine ACalls.mono (Most_is _ 30 6 false (by decide)) ?_; rintro _ _ ⟨rfl, rfl⟩; conv => whnf
    refine ACalls.mono (Most_is _ 0 62 false (by decide)) ?_; rintro _ _ ⟨rfl, rfl⟩; conv => whnf
    refine ACalls.mono (Most_is _ 30 14 true (by decide)) ?_; rintro _ _ ⟨rfl, rfl⟩; conv => whnf
    refine ACalls.mono (Most_is _ 2 (-1) true (by decide)) ?_; rintro _ _ ⟨rfl, rfl⟩; conv => whnf
    refine ACalls.mono (Most_is _ 2 0 false (by decide)) ?_; rintro _ _ ⟨rfl, rfl⟩; conv => whnf
    refine ACalls.mono (Change_is _ 6 10 180 (by omega) (by omega) (by omega) (by omega) (by decide)) ?_; rintro _ _ ⟨rfl, rfl⟩; conv => whnf
    refine ACmp.yes (rfl) ?_; conv => whnf
    refine ACalls.mono (Change_is _ 2 0 180 (by omega) (by omega) (by omega) (by omega) (by decide)) ?_; rintro _ _ ⟨rfl, rfl⟩; conv => whnf
    refine ACmp.yes (rfl) ?_; conv => whnf
    refine ACalls.mono (Change_is _ 0 2 180 (by omega) (by omega) (by omega) (by omega) (by decide)) ?_; rintro _ _ ⟨rfl, rfl⟩; conv => whnf
    refine ACmp.yes (rfl) ?_; conv => whnf
    refine ACalls.mono (Change_is _ 2 66 180 (by omega) (by omega) (by omega) (by omega) (by decide)) ?_; rintro _ _ ⟨rfl, rfl⟩; conv => whnf
    refine ACmp.yes (rfl) ?_; conv => whnf
    refine ACalls.mono (Change_is _ 2 6 0 (by omega) (by omega) (by omega) (by omega) (by decide)) ?_; rintro _ _ ⟨rfl, rfl⟩; conv => whnf
    refine ACmp.yes (rfl) ?_; conv => whnf
    refine ACalls.mono (Rank_any _ 0 9 9 9 9 9 9) ?_; rintro _ _ ⟨⟨r1, rfl, hr1⟩, rfl⟩; conv => whnf
    refine ACmp.yes (hr1.zero (by decide)) ?_; conv => whnf
    refine ACalls.mono (Rank_any _ 6 0 5 7 0 0 0) ?_; rintro _ _ ⟨⟨r2, rfl, hr2⟩, rfl⟩; conv => whnf
    refine ACmp.yes (hr2.val (v := 5) (by decide) (by decide) (by omega)) ?_; conv => whnf
    refine ACalls.mono (Rank_any _ 2 9 (-3) 0 0 0 0) ?_; rintro _ _ ⟨⟨r3, rfl, hr3⟩, rfl⟩; conv => whnf
    refine ACmp.yes (hr3.zero (by decide)) ?_; conv => whnf
    refine ACalls.mono (Rank_any _ 62 9 5 4 3 2 1) ?_; rintro _ _ ⟨⟨r4, rfl, hr4⟩, rfl⟩; conv => whnf
    refine ACmp.yes (hr4.val (v := 3) (by decide) (by decide) (by omega)) ?_; conv => whnf
    refine ACalls.mono (Rank_any _ 30 0 8 8 1 1 0) ?_; rintro _ _ ⟨⟨r5, rfl, hr5⟩, rfl⟩; conv => whnf
    refine ACmp.yes (hr5.val (v := 1) (by decide) (by decide) (by omega)) ?_; conv => whnf
    refine ACalls.mono (works_yes _) ?_; rintro _ _ ⟨rfl, rfl⟩; conv => whnf
    refine ACmp.yes (rfl) ?_; conv => whnf
    refine ACmp.yes (rfl) ?_; conv => whnf
    refine ACmp.yes (rfl) ?_; conv => whnf
    refine ACmp.yes (rfl) ?_; conv => whnf
    refine ACmp.yes (rfl) ?_; conv => whnf
    exact ⟨rfl, s6⟩
end Go.Ah
