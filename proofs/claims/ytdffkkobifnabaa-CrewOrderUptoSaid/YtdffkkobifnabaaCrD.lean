/- Walks: sort, Rank, and the reference's. -/
import Derived.Test.YtdffkkobifnabaaCrC
import Derived.Test.YtdffkkobifnabaaCrR
namespace Go.Ah
open Go.Proofs
set_option linter.unusedVariables false
set_option linter.unusedSimpArgs false

theorem Sub.nil (h : Heap) : Sub nilHeap h := fun _ _ e => by simp [nilHeap] at e
theorem Less_any (h : Heap) (x y : Int) : ACalls PR 50 #[I x, I y] h (fun v h' => v = .bool (decide (x < y)) ∧ h = h') := by
  have nan : ∀ z : Int, ACalls PR 60 #[I z] h (fun v h' => v = .bool false ∧ h = h') := by
    intro z
    refine acalls_pure (acalls_of mix Try.func60 rfl rfl Try.ntmps60 Try.results60 rfl ?_); conv => whnf
    refine ACmp.no (by simp) ?_; conv => whnf
    exact ⟨rfl, Sub.refl _⟩
  refine acalls_pure (acalls_of mix Try.func50 rfl rfl Try.ntmps50 Try.results50 rfl ?_); conv => whnf
  refine ACalls.mono (nan x) ?_; rintro _ _ ⟨rfl, rfl⟩; conv => whnf
  refine ACmp.dec ?_
  conv => whnf
  exact ⟨rfl, Sub.refl _⟩

theorem cell_at {L : List Value} {n j : Nat} {ys : List Int} (hL : L.take n = ys.map I) (hy : ys.length = n) (hj : j < n) : L[0 + j * 1]? = some (I (gd ys j)) := by
  have : (L.take n)[j]? = some (I (gd ys j)) := by rw [hL, gd_get (by omega)]; simp [show j < ys.length by omega]
  rw [List.getElem?_take, if_pos hj] at this
  rw [show 0 + j * 1 = j by omega]; exact this
theorem sw_cells {L : List Value} {n j : Nat} {ys : List Int} (hL : L.take n = ys.map I) (hy : ys.length = n) (hj : j + 1 < n) :
    ((L.set (0 + (j + 1) * 1) (I (gd ys j))).set (0 + j * 1) (I (gd ys (j + 1)))).take n = (sw ys j).map I := by
  rw [show 0 + (j + 1) * 1 = j + 1 by omega, show 0 + j * 1 = j by omega]
  unfold sw
  rw [List.map_set, List.map_set, ← hL, List.take_set, List.take_set]

set_option maxHeartbeats 1000000 in
theorem isort_any (h : Heap) {tg : Tag} {b n cp : Nat} {L : List Value} {xs : List Int} (hb : h b = some (row tg L 3)) (hL : L.take n = xs.map I) (hx : xs.length = n) (hcp : L.length = cp) (hn : n ≤ 12) (hn0 : 0 < n) (hnc : n ≤ cp) :
    ACalls PR 44 #[.slice (some ⟨b, 0, none⟩) n cp, I 0, I n] h (fun v h' => v = .tuple #[] ∧ ∃ L' ys, h.set b (row tg L' 3) = h' ∧ L'.length = cp ∧ L'.take n = ys.map I ∧ ys.length = n ∧ (∀ x ∈ ys, x ∈ xs) ∧ (∀ v, cnt v ys = cnt v xs) ∧ SortedTo ys n) := by
  refine ACalls.drop (R := fun v h' => v = .tuple #[] ∧ ∃ L' ys, Sub (h.set b (row tg L' 3)) h' ∧ L'.length = cp ∧ L'.take n = ys.map I ∧ ys.length = n ∧ (∀ x ∈ ys, x ∈ xs) ∧ (∀ v, cnt v ys = cnt v xs) ∧ SortedTo ys n) ?_ ?_
  · refine acalls_of mix Try.func44 rfl rfl Try.ntmps44 Try.results44 rfl ?_; conv => whnf
    refine AArith.ok (by omega) (by omega) (rfl) ?_; conv => whnf
    refine ALoop.mk (fun e h' => ∃ e0, ∃ i : Nat, ∃ L' ys, e = updL 49 e0 [(0, .slice (some ⟨b, 0, none⟩) n cp), (1, I 0), (2, I n), (6, I i)] ∧ 1 ≤ i ∧ i ≤ n ∧ Sub (h.set b (row tg L' 3)) h' ∧ L'.length = cp ∧ L'.take n = ys.map I ∧ ys.length = n ∧ (∀ x ∈ ys, x ∈ xs) ∧ (∀ v, cnt v ys = cnt v xs) ∧ SortedTo ys i)
      (fun e => n - natOf (e 6)) ⟨_, 1, L, xs, updL_self ⟨rfl, rfl, rfl, rfl, trivial⟩, by omega, by omega, by rw [Heap.set_self hb]; exact Sub.refl _, hcp, hL, hx, fun _ m => m, fun _ => rfl, fun p q h1 h2 => by omega⟩ ?_
    rintro e h2 ⟨e0, i, L2, ys, rfl, hi1, hin, sb, hc2, hL2, hy2, hm2, hcn2, hso⟩
    conv => whnf
    by_cases hii : i < n
    · refine ACmp.yes (by omega) ?_; conv => whnf
      refine ALoop.mk (fun e h' => ∃ e1, ∃ j : Nat, ∃ L' ys, e = updL 49 e1 [(0, .slice (some ⟨b, 0, none⟩) n cp), (1, I 0), (2, I n), (6, I i), (7, I j)] ∧ j ≤ i ∧ Sub (h.set b (row tg L' 3)) h' ∧ L'.length = cp ∧ L'.take n = ys.map I ∧ ys.length = n ∧ (∀ x ∈ ys, x ∈ xs) ∧ (∀ v, cnt v ys = cnt v xs) ∧ Ins ys i j)
        (fun e => natOf (e 7)) ⟨_, i, L2, ys, updL_self ⟨rfl, rfl, rfl, rfl, rfl, trivial⟩, by omega, sb, hc2, hL2, hy2, hm2, hcn2, hso.ins⟩ ?_
      clear hso hcn2 hm2 hy2 hL2 hc2 sb ys L2
      rintro e h3 ⟨e1, j, L3, ys, rfl, hji, sb, hc3, hL3, hy3, hm3, hcn3, hin3⟩
      have hb3 := sb _ _ (Heap.set_same _ _ _)
      conv => whnf
      by_cases hj0 : 0 < j
      · refine ADrawn.mk (h3) [] (Sub.refl _) (by decide +kernel) ?_; conv => whnf
        refine ACmp.yes (by omega) ?_; conv => whnf
        obtain ⟨j, rfl⟩ : ∃ q, j = q + 1 := ⟨j - 1, by omega⟩
        refine AIdx.nat (z := 1) (j := j + 1) rfl (by omega) rfl rfl ?_; conv => whnf
        refine ALoad.one rfl hb3 (cell_at hL3 hy3 (by omega)) ?_; conv => whnf
        refine AArith.ok (by omega) (by omega) (rfl) ?_; conv => whnf
        refine AIdx.nat (z := 1) (j := j) (by omega) (by omega) rfl rfl ?_; conv => whnf
        refine ALoad.one rfl hb3 (cell_at hL3 hy3 (by omega)) ?_; conv => whnf
        refine ACalls.mono (Less_any h3 _ _) ?_
        rintro _ _ ⟨rfl, rfl⟩
        refine ⟨Sub.refl _, ?_⟩
        cases hlt : decide (gd ys (j + 1) < gd ys j) with
        | true =>
          conv => whnf
          have hlt := of_decide_eq_true hlt
          refine ADrawn.mk (h3) [15] (Sub.refl _) (by decide +kernel) ?_; conv => whnf
          refine AArith.ok (by omega) (by omega) (rfl) ?_; conv => whnf
          refine AArith.ok (by omega) (by omega) (rfl) ?_; conv => whnf
          refine AIdx.nat (z := 1) (j := j) (by omega) (by omega) rfl rfl ?_; conv => whnf
          refine ALoad.one rfl hb3 (cell_at hL3 hy3 (by omega)) ?_; conv => whnf
          refine AIdx.nat (z := 1) (j := j + 1) rfl (by omega) rfl rfl ?_; conv => whnf
          refine ALoad.one rfl hb3 (cell_at hL3 hy3 (by omega)) ?_; conv => whnf
          refine AIdx.nat (z := 1) (j := j + 1) rfl (by omega) rfl rfl ?_; conv => whnf
          refine AStore.one rfl rfl rfl hb3 (by omega) ?_; conv => whnf
          refine AIdx.nat (z := 1) (j := j) (by omega) (by omega) rfl rfl ?_; conv => whnf
          refine AStore.one rfl rfl rfl (Heap.set_same _ _ _) (by simp; omega) ?_
          refine ⟨Sub.nil _, ?_⟩
          rw [Heap.set_set]
          conv => whnf
          refine AArith.ok (by omega) (by omega) ((by omega : ((j + 1 : Nat) : Int) - 1 = (j : Int))) ?_; conv => whnf
          refine ⟨⟨_, j, _, sw ys j, updL_self ⟨rfl, rfl, rfl, rfl, rfl, trivial⟩, by omega, ?_, ?_, sw_cells hL3 hy3 (by omega), by rw [sw_len, hy3], fun x hx => hm3 x (sw_mem (by omega) hx), fun v => by rw [sw_cnt v ys j (by omega), hcn3], hin3.step (by omega) (by omega) hlt⟩, ?_⟩
          · intro c x hcx
            by_cases e : c = b
            · subst e; rw [Heap.set_same] at hcx ⊢; exact hcx
            · simp only [Heap.set, e, if_false] at hcx ⊢
              exact sb _ _ (by simp only [Heap.set, e, if_false]; exact hcx)
          · simp [hc3]
          · show j < j + 1
            omega
        | false =>
          conv => whnf
          have hfin := hin3.stop (by omega) (of_decide_eq_false hlt)
          refine AArith.ok (by omega) (by omega) ((by omega : (i : Int) + 1 = ((i + 1 : Nat) : Int))) ?_; conv => whnf
          refine ⟨⟨_, i + 1, L3, ys, updL_self ⟨rfl, rfl, rfl, rfl, trivial⟩, by omega, by omega, sb, hc3, hL3, hy3, hm3, hcn3, hfin⟩, ?_⟩
          show n - (i + 1) < n - i
          omega
      · refine ADrawn.mk (h3) [] (Sub.refl _) (by decide +kernel) ?_; conv => whnf
        refine ACmp.no (by omega) ?_; conv => whnf
        obtain rfl : j = 0 := by omega
        have hfin := hin3.zero
        refine AArith.ok (by omega) (by omega) ((by omega : (i : Int) + 1 = ((i + 1 : Nat) : Int))) ?_; conv => whnf
        refine ⟨⟨_, i + 1, L3, ys, updL_self ⟨rfl, rfl, rfl, rfl, trivial⟩, by omega, by omega, sb, hc3, hL3, hy3, hm3, hcn3, hfin⟩, ?_⟩
        show n - (i + 1) < n - i
        omega
    · refine ACmp.no (by omega) ?_; conv => whnf
      obtain rfl : i = n := by omega
      exact ⟨rfl, L2, ys, sb, hc2, hL2, hy2, hm2, hcn2, hso⟩
  · rintro v h' ⟨hv, L', ys, s, r⟩
    exact ⟨_, s, hv, L', ys, rfl, r⟩

set_option maxRecDepth 20000 in
theorem Len_any (h : Heap) (n : Nat) (h0 : 0 < n) (hn : n ≤ 5) : ACalls PR 43 #[.int .u64 n] h (fun v h' => ∃ r, v = I r ∧ h = h') := by
  have c : ACalls PR 54 #[.int .u64 n] h (fun v h' => ∃ r, v = I r ∧ h = h') := by
    refine ACalls.drop (R := fun v h' => ∃ r, v = I r ∧ Sub h h') ?_ fun v h' ⟨r, e, s⟩ => ⟨h, s, r, e, rfl⟩
    have : n = 1 ∨ n = 2 ∨ n = 3 ∨ n = 4 ∨ n = 5 := by omega
    rcases this with rfl | rfl | rfl | rfl | rfl
    all_goals (refine acalls_of mix Try.func54 rfl rfl Try.ntmps54 Try.results54 rfl ?_; conv => whnf)
    all_goals (refine ACmp.no (by omega) ?_; conv => whnf)
    all_goals (refine ACmp.no (by omega) ?_; conv => whnf)
    all_goals (refine ACmp.no (by omega) ?_; conv => whnf)
    all_goals refine AArith.as (by rfl) ?_; conv => whnf
    all_goals refine AArith.raw ?_; conv => whnf
    all_goals refine AArith.raw ?_; conv => whnf
    all_goals exact ⟨_, rfl, Sub.refl _⟩
  refine ACalls.drop (R := fun v h' => ∃ r, v = I r ∧ Sub h h') ?_ fun v h' ⟨r, e, s⟩ => ⟨h, s, r, e, rfl⟩
  refine acalls_of mix Try.func43 rfl rfl Try.ntmps43 Try.results43 rfl ?_; conv => whnf
  refine ACalls.mono (c) ?_; rintro _ _ ⟨r, rfl, rfl⟩; conv => whnf
  exact ⟨r, rfl, Sub.refl _⟩
end Go.Ah
