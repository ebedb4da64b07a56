/- Walk: the reference's Rank. -/
import Derived.Test.YtdffkkobifnabaaCrE
namespace Go.Ah
open Go.Proofs
set_option linter.unusedVariables false
set_option linter.unusedSimpArgs false

theorem cnt_take {v : Int} {xs : List Int} {j : Nat} (h : j < xs.length) : cnt v (xs.take (j + 1)) = cnt v (xs.take j) + (decide (v ≤ xs[j])).toNat := by
  rw [List.take_succ_eq_append_getElem h, cnt_snoc]
theorem cnt_le (v : Int) (xs : List Int) : cnt v xs ≤ xs.length := List.countP_le_length

set_option maxHeartbeats 1000000 in
theorem refRank_any (h : Heap) (c a0 a1 a2 a3 a4 a5 : Int) (hc : -9223372036854775808 ≤ c) (hc' : c ≤ 9223372036854775807) (r : Int) (hr : RankOf ((ls (m5 c)).map (six a0 a1 a2 a3 a4 a5)) r) :
    ACalls PR 34 #[I c, .agg #[I a0, I a1, I a2, I a3, I a4, I a5]] h (fun v h' => v = I r ∧ h = h') := by
  refine acalls_pure (acalls_of mix Try.func34 rfl rfl Try.ntmps34 Try.results34 rfl ?_); conv => whnf
  refine ABox.mk (0, 1) rfl fun b1 f1 => ?_; conv => whnf
  have s1 := f1.sub (row (0, 1) [I a0, I a1, I a2, I a3, I a4, I a5] 36)
  have k1 := Heap.set_same h b1 (row (0, 1) [I a0, I a1, I a2, I a3, I a4, I a5] 36)
  refine ACalls.mono (refList_any _ c hc hc') ?_; rintro _ h2 ⟨al, cl, tl, rfl, sl, s2⟩; conv => whnf
  have kb2 := s2 _ _ k1
  have s12 := s1.trans s2
  have hnl5 : (ls (m5 c)).length ≤ 5 := by rw [ls_len _ (m5_lt c)]; exact pop_le _
  have hm := m5_lt c
  generalize hM : m5 c = M at *
  clear hM
  generalize hxs : (ls M).map (six a0 a1 a2 a3 a4 a5) = xs at *
  have hxl : xs.length = (ls M).length := by rw [← hxs, List.length_map]
  generalize hnl : (ls M).length = nl at *
  have hr0 : 0 ≤ r := by
    rcases hr with ⟨_, e⟩ | ⟨_, s, e, _⟩
    · omega
    · rw [e]; split <;> omega
  have hrq : ∀ x, nl < 2 * cnt x xs → x ≤ r := by
    intro x hx
    rcases hr with ⟨e, _⟩ | ⟨_, s, e, _, k⟩
    · rw [e] at hx; simp [cnt] at hx
    · have := (k x).2 (by omega)
      rw [e]; split <;> omega
  -- a place of the list, and what is there
  have place : ∀ k, k < nl → ∃ b off L E fz, ∃ j : Nat, al = some ⟨b, off, none⟩ ∧ h2 b = some (tl, .cells (List.toArray L) E fz) ∧ L[off + k * 1]? = some (I ((j : Int) + 1)) ∧ j < 5 ∧ ∃ hk : k < xs.length, six a0 a1 a2 a3 a4 a5 ((j : Int) + 1) = xs[k] := by
    intro k hk
    obtain ⟨b, off, L, E, fz, e, hb, hcl⟩ := sl.pos (by omega)
    obtain ⟨j, hj, hjv⟩ := ls_get hm (show k < (ls M).length by omega)
    refine ⟨b, off, L, E, fz, j, e, hb, ?_, hj, by omega, ?_⟩
    · rw [get_of_take hcl (by omega)]; simp [show k < (ls M).length by omega, hjv]
    · subst hxs; rw [List.getElem_map, hjv]
  refine ALoop.mk (fun e h' => h' = h2 ∧ ∃ e0, ∃ k : Nat, ∃ best : Int, e = updL 53 e0 [(3, .pointer (some ⟨b1, 0, none⟩)), (5, .slice al nl cl), (6, I best), (7, I k)] ∧ k ≤ nl ∧ 0 ≤ best ∧ best ≤ r ∧ ∀ i, (hi : i < xs.length) → i < k → nl < 2 * cnt xs[i] xs → xs[i] ≤ best)
    (fun e => nl - natOf (e 7)) ⟨rfl, _, 0, 0, updL_self ⟨rfl, rfl, rfl, rfl, trivial⟩, by omega, by omega, hr0, fun i hi h0 => by omega⟩ ?_
  rintro e h3 ⟨rfl, e0, k, best, rfl, hk, hb0, hbr, hbq⟩
  conv => whnf
  by_cases hkn : k < nl
  · refine ACmp.yes (by omega) ?_; conv => whnf
    obtain ⟨b, off, L, E, fz, jk, rfl, hb, gk, hjk, hkx, hsk⟩ := place k hkn
    refine ALoop.mk (fun e h' => h' = h3 ∧ ∃ e1, ∃ j : Nat, e = updL 53 e1 [(3, .pointer (some ⟨b1, 0, none⟩)), (5, .slice (some ⟨b, off, none⟩) nl cl), (6, I best), (7, I k), (8, I (cnt xs[k] (xs.take j))), (9, I j)] ∧ j ≤ nl)
      (fun e => nl - natOf (e 9)) ⟨rfl, _, 0, updL_self ⟨rfl, rfl, rfl, rfl, rfl, rfl, trivial⟩, by omega⟩ ?_
    rintro e h4 ⟨rfl, e1, j, rfl, hj⟩
    conv => whnf
    by_cases hjn : j < nl
    · refine ACmp.yes (by omega) ?_; conv => whnf
      obtain ⟨b', off', L', E', fz', jj, e', hb', gj, hjj, hjx, hsj⟩ := place j hjn
      obtain ⟨rfl, rfl⟩ : b' = b ∧ off' = off := by cases e'; exact ⟨rfl, rfl⟩
      obtain ⟨rfl, rfl, rfl⟩ : L' = L ∧ E' = E ∧ fz' = fz := by
        rw [hb] at hb'
        simp only [Option.some.injEq, Prod.mk.injEq, Obj.cells.injEq, true_and] at hb'
        exact ⟨(List.toArray_inj hb'.1).symm, hb'.2.1.symm, hb'.2.2.symm⟩
      have hcj := cnt_take (v := xs[k]) hjx
      have hcl := cnt_le xs[k] (xs.take j)
      rw [List.length_take] at hcl
      refine ADrawn.mk (h4) [] (Sub.refl _) (by decide +kernel) ?_; conv => whnf
      refine AIdx.nat (z := 1) (j := j) rfl hjn rfl rfl ?_; conv => whnf
      refine ALoad.one rfl hb gj ?_; conv => whnf
      refine AIdxA.nat (n := 6) (z := 1) (j := jj + 1) (by omega) (by omega) rfl rfl ?_; conv => whnf
      refine ALoad.one rfl kb2 (six_cell a0 a1 a2 a3 a4 a5 jj hjj) ?_; conv => whnf
      refine AIdx.nat (z := 1) (j := k) rfl hkn rfl rfl ?_; conv => whnf
      refine ALoad.one rfl hb gk ?_; conv => whnf
      refine AIdxA.nat (n := 6) (z := 1) (j := jk + 1) (by omega) (by omega) rfl rfl ?_; conv => whnf
      refine ALoad.one rfl kb2 (six_cell a0 a1 a2 a3 a4 a5 jk hjk) ?_; conv => whnf
      rw [hsk, hsj]
      refine ACmp.split (fun hge => ?_) (fun hge => ?_)
      · conv => whnf
        refine AArith.ok (by omega) (by omega) (rfl) ?_; conv => whnf
        refine AArith.ok (by omega) (by omega) ((by omega : (j : Int) + 1 = ((j + 1 : Nat) : Int))) ?_; conv => whnf
        refine ⟨⟨rfl, _, j + 1, updL_self ⟨rfl, rfl, rfl, rfl, by rw [hcj, decide_eq_true hge]; rfl, rfl, trivial⟩, by omega⟩, ?_⟩
        show nl - (j + 1) < nl - j
        omega
      · conv => whnf
        refine AArith.ok (by omega) (by omega) ((by omega : (j : Int) + 1 = ((j + 1 : Nat) : Int))) ?_; conv => whnf
        refine ⟨⟨rfl, _, j + 1, updL_self ⟨rfl, rfl, rfl, rfl, by rw [hcj, decide_eq_false hge]; rfl, rfl, trivial⟩, by omega⟩, ?_⟩
        show nl - (j + 1) < nl - j
        omega
    · refine ACmp.no (by omega) ?_; conv => whnf
      obtain rfl : j = nl := by omega
      rw [List.take_of_length_le (by omega)]
      have hcl := cnt_le xs[k] xs
      refine AArith.ok (by omega) (by omega) rfl ?_; conv => whnf
      refine ACmp.split (fun hq => ?_) (fun hq => ?_)
      · conv => whnf
        refine AIdx.nat (z := 1) (j := k) rfl hkn rfl rfl ?_; conv => whnf
        refine ALoad.one rfl hb gk ?_; conv => whnf
        refine AIdxA.nat (n := 6) (z := 1) (j := jk + 1) (by omega) (by omega) rfl rfl ?_; conv => whnf
        refine ALoad.one rfl kb2 (six_cell a0 a1 a2 a3 a4 a5 jk hjk) ?_; conv => whnf
        rw [hsk]
        have hxr := hrq xs[k] (by omega)
        refine AInt.raw ?_; conv => whnf
        refine AArith.ok (by omega) (by omega) ((by omega : (k : Int) + 1 = ((k + 1 : Nat) : Int))) ?_; conv => whnf
        refine ⟨⟨rfl, _, k + 1, _, updL_self ⟨rfl, rfl, rfl, rfl, trivial⟩, by omega, ?_, ?_, ?_⟩, ?_⟩
        · split <;> omega
        · split <;> omega
        · intro i hi hik hqi
          by_cases e : i = k
          · subst e; split <;> omega
          · have := hbq i hi (by omega) hqi
            split <;> omega
        show j - (k + 1) < j - k
        omega
      · conv => whnf
        refine AArith.ok (by omega) (by omega) ((by omega : (k : Int) + 1 = ((k + 1 : Nat) : Int))) ?_; conv => whnf
        refine ⟨⟨rfl, _, k + 1, best, updL_self ⟨rfl, rfl, rfl, rfl, trivial⟩, by omega, hb0, hbr, ?_⟩, ?_⟩
        · intro i hi hik hqi
          by_cases e : i = k
          · subst e; omega
          · exact hbq i hi (by omega) hqi
        show j - (k + 1) < j - k
        omega
  · refine ACmp.no (by omega) ?_; conv => whnf
    refine ⟨?_, s12⟩
    refine congrArg (Value.int .i64) ?_
    rcases hr with ⟨_, e⟩ | ⟨_, s, e, hs, kq⟩
    · omega
    · obtain ⟨i, hi, rfl⟩ := List.mem_iff_getElem.1 hs
      have := hbq i hi (by omega) (by have := (kq xs[i]).1 (Int.le_refl _); omega)
      rw [e] at hbr ⊢
      split at hbr <;> split <;> omega
end Go.Ah
