/- Walks: Rank, and the reference's. -/
import Derived.Test.YtdffkkobifnabaaCrD
namespace Go.Ah
open Go.Proofs
set_option linter.unusedVariables false
set_option linter.unusedSimpArgs false

theorem Sort_any (h : Heap) {tg : Tag} {b n cp : Nat} {L : List Value} {xs : List Int} (hb : h b = some (row tg L 3)) (hL : L.take n = xs.map I) (hx : xs.length = n) (hcp : L.length = cp) (hn : n ≤ 5) (hn0 : 0 < n) (hnc : n ≤ cp) :
    ACalls PR 39 #[.slice (some ⟨b, 0, none⟩) n cp] h (fun v h' => v = .tuple #[] ∧ ∃ L' ys, h.set b (row tg L' 3) = h' ∧ L'.length = cp ∧ L'.take n = ys.map I ∧ ys.length = n ∧ (∀ x ∈ ys, x ∈ xs) ∧ (∀ v, cnt v ys = cnt v xs) ∧ SortedTo ys n) := by
  refine acalls_of mix Try.func39 rfl rfl Try.ntmps39 Try.results39 rfl ?_; conv => whnf
  refine AArith.as (u64_wrap (by omega) (by omega)) ?_; conv => whnf
  refine ACalls.mono (Len_any h n hn0 hn) ?_; rintro _ _ ⟨r, rfl, rfl⟩; conv => whnf
  have c42 : ACalls PR 42 #[.slice (some ⟨b, 0, none⟩) n cp, I 0, I n, I r] h (fun v h' => v = .tuple #[] ∧ ∃ L' ys, h.set b (row tg L' 3) = h' ∧ L'.length = cp ∧ L'.take n = ys.map I ∧ ys.length = n ∧ (∀ x ∈ ys, x ∈ xs) ∧ (∀ v, cnt v ys = cnt v xs) ∧ SortedTo ys n) := by
    refine acalls_of mix Try.func42 rfl rfl Try.ntmps42 Try.results42 rfl ?_; conv => whnf
    refine ALoop.mk (fun e h' => h = h' ∧ ∃ e0, e = updL 134 e0 [(0, .slice (some ⟨b, 0, none⟩) n cp), (1, I 0), (2, I n), (3, I r)]) (fun _ => 0) ⟨rfl, _, updL_self ⟨rfl, rfl, rfl, rfl, trivial⟩⟩ ?_
    rintro e _ ⟨rfl, e0, rfl⟩
    conv => whnf
    refine AArith.ok (by omega) (by omega) (rfl) ?_; conv => whnf
    refine ACmp.yes (by omega) ?_; conv => whnf
    refine ACalls.mono (isort_any h hb hL hx hcp (by omega) hn0 hnc) ?_; rintro _ _ ⟨rfl, p⟩; conv => whnf
    exact ⟨rfl, p⟩
  refine ACalls.mono (c42) ?_; rintro _ _ ⟨rfl, p⟩; conv => whnf
  exact ⟨rfl, p⟩

/-- six numbers by their place -/
def six (a0 a1 a2 a3 a4 a5 : Int) (n : Int) : Int := gd [a0, a1, a2, a3, a4, a5] n.toNat
theorem six_cell (a0 a1 a2 a3 a4 a5 : Int) (j : Nat) (h : j < 5) : ([I a0, I a1, I a2, I a3, I a4, I a5] : List Value)[0 + (j + 1) * 1]? = some (I (six a0 a1 a2 a3 a4 a5 ((j : Int) + 1))) := by
  have : j = 0 ∨ j = 1 ∨ j = 2 ∨ j = 3 ∨ j = 4 := by omega
  rcases this with rfl | rfl | rfl | rfl | rfl <;> rfl
theorem ls_get {k i : Nat} (hk : k < 32) (hi : i < (ls k).length) : ∃ j : Nat, j < 5 ∧ (ls k)[i] = (j : Int) + 1 :=
  ok1_pos (List.all_eq_true.1 (ls_ok k hk) _ (List.getElem_mem hi))

theorem NoOwner.set {o : Nat} {h : Heap} (n : NoOwner o h) (b : Nat) {t : Tag} (x : Obj) (ht : t.1 ≠ o) : NoOwner o (h.set b (t, x)) := fun c u y e => by
  unfold Heap.set at e
  by_cases hc : c = b
  · rw [if_pos hc] at e; cases e; exact ht
  · rw [if_neg hc] at e; exact n _ _ _ e

set_option maxHeartbeats 1000000 in
theorem Rank_any (h : Heap) (c a0 a1 a2 a3 a4 a5 : Int) :
    ACalls PR 33 #[I c, .agg #[I a0, I a1, I a2, I a3, I a4, I a5]] h (fun v h' => (∃ r, v = I r ∧ RankOf ((ls (m5 c)).map (six a0 a1 a2 a3 a4 a5)) r) ∧ h = h') := by
  refine ACalls.owner ⟨_, Try.func33, rfl, rfl⟩ fun o ho hbd => ?_
  refine acalls_pure ?_
  refine acalls_of mix Try.func33 rfl rfl Try.ntmps33 Try.results33 rfl ?_; conv => whnf
  refine ABox.mk (0, 1) rfl fun b1 f1 => ?_; conv => whnf
  have s1 := f1.sub (row (0, 1) [I a0, I a1, I a2, I a3, I a4, I a5] 36)
  have k1 := Heap.set_same h b1 (row (0, 1) [I a0, I a1, I a2, I a3, I a4, I a5] 36)
  refine ACalls.mono (List_own _ c o ((hbd.no (Nat.le_refl _)).set _ _ (by simp; omega))) ?_; rintro _ h2 ⟨al, cl, rfl, sl, s2⟩; conv => whnf
  have hnl5 : (ls (m5 c)).length ≤ 5 := by rw [ls_len _ (m5_lt c)]; exact pop_le _
  have hm := m5_lt c
  generalize hM : m5 c = M at *
  clear hM
  generalize hnl : (ls M).length = nl at *
  refine ALoop.mk (fun e h' => ∃ e0, ∃ k : Nat, ∃ a cp, e = updL 35 e0 [(3, .pointer (some ⟨b1, 0, none⟩)), (5, .slice a k cp), (9, .slice al nl cl), (10, I nl), (11, I k)] ∧ k ≤ nl ∧
      Own h' (o + 1, 0) 3 a k cp 1 ((((ls M).take k).map (six a0 a1 a2 a3 a4 a5)).map I) ∧ Keep (o + 1) h2 h')
    (fun e => nl - natOf (e 11)) ⟨_, 0, none, 0, updL_self ⟨rfl, rfl, rfl, rfl, rfl, trivial⟩, by omega, .inl ⟨rfl, rfl, rfl⟩, Keep.refl _ _⟩ ?_
  rintro e h3 ⟨e0, k, a, cp, rfl, hk, hown, hkeep⟩
  conv => whnf
  by_cases hkn : k < nl
  · refine ACmp.yes (by omega) ?_; conv => whnf
    have sl3 := sl.keep hkeep (by simp)
    have kb3 := hkeep.get (by simp) (s2 _ _ k1)
    obtain ⟨b, off, L, E, fz, rfl, hb, hc⟩ := sl3.pos (by omega)
    obtain ⟨j, hj, hjv⟩ := ls_get hm (show k < (ls M).length by omega)
    have g1 : L[off + k * 1]? = some (I ((j : Int) + 1)) := by rw [get_of_take hc (by omega)]; simp [show k < (ls M).length by omega, hjv]
    refine AIdx.nat (z := 1) (j := k) rfl hkn rfl rfl ?_; conv => whnf
    refine ALoad.one rfl hb g1 ?_; conv => whnf
    refine AIdxA.nat (n := 6) (z := 1) (j := j + 1) (by omega) (by omega) rfl rfl ?_; conv => whnf
    refine ALoad.one rfl kb3 (six_cell a0 a1 a2 a3 a4 a5 j hj) ?_; conv => whnf
    refine ABuildSl.mk (0, 1) rfl rfl rfl rfl rfl rfl rfl fun b4 f4 => ?_; conv => whnf
    have s4 := f4.sub (row (0, 1) [I (six a0 a1 a2 a3 a4 a5 ((j : Int) + 1))] 3)
    refine AAppend.own (t := (o + 1, 0)) (E := 3) (z := 1) (by_ := 8) (zero := [I 0]) (tx := (0, 1)) (xs := [I (six a0 a1 a2 a3 a4 a5 ((j : Int) + 1))]) rfl ⟨_, rfl⟩ rfl rfl rfl rfl (by omega) (hown.move fun _ _ z => s4 _ _ z)
      ⟨rfl, Nat.le_refl _, .inr ⟨b4, 0, _, _, _, rfl, Heap.set_same _ _ _, rfl⟩⟩ rfl (by omega) (by omega) fun a5' cap5 h5 hown5 hk5 _ => ?_
    conv => whnf
    refine AArith.ok (by omega) (by omega) ((by omega : (k : Int) + 1 = ((k + 1 : Nat) : Int))) ?_; conv => whnf
    refine ⟨⟨_, k + 1, a5', cap5, updL_self ⟨rfl, rfl, rfl, rfl, rfl, trivial⟩, by omega, ?_, hkeep.trans ((s4.keep (o + 1)).trans hk5.keep)⟩, ?_⟩
    · rw [List.take_succ_eq_append_getElem (by omega), List.map_append, List.map_append, hjv]; exact hown5
    show nl - (k + 1) < nl - k
    omega
  · refine ACmp.no (by omega) ?_; conv => whnf
    obtain rfl : k = nl := by omega
    rw [List.take_of_length_le (by omega)] at hown
    by_cases h0 : k = 0
    · refine ACmp.yes (by omega) ?_; conv => whnf
      refine ⟨⟨0, rfl, .inl ⟨?_, rfl⟩⟩, Keep.toSub (o := o + 1) ?_ (hbd.no (by omega))⟩
      · have : ls M = [] := List.eq_nil_of_length_eq_zero (by omega)
        rw [this]; rfl
      · exact (s1.keep _).trans ((s2.keep _).trans hkeep)
    · refine ACmp.no (by omega) ?_; conv => whnf
      rcases hown with ⟨e, _⟩ | ⟨b, L, rfl, hb, hLl, hncp, hL⟩
      · exact absurd e h0
      rw [Nat.mul_one] at hL hLl
      have hxl : ((ls M).map (six a0 a1 a2 a3 a4 a5)).length = k := by rw [List.length_map]; exact hnl
      refine ACalls.mono (Sort_any h3 hb hL hxl hLl (by omega) (by omega) hncp) ?_; rintro _ _ ⟨rfl, L', ys, rfl, hL'l, hL', hyl, hmem, hcnt, hso⟩; conv => whnf
      refine AArith.ok (by omega) (by omega) (rfl) ?_; conv => whnf
      refine ⟨by decide, ?_⟩
      conv => whnf
      refine AArith.ok (r' := (((k - 1) / 2 : Nat) : Int)) (by rw [Int.tdiv_eq_ediv_of_nonneg (by omega)]; omega) (by rw [Int.tdiv_eq_ediv_of_nonneg (by omega)]; omega) (by rw [Int.tdiv_eq_ediv_of_nonneg (by omega)]; omega) ?_; conv => whnf
      refine AIdx.nat (z := 1) (j := (k - 1) / 2) rfl (by omega) rfl rfl ?_; conv => whnf
      refine ALoad.one rfl (Heap.set_same _ _ _) (cell_at hL' hyl (by omega)) ?_; conv => whnf
      refine AInt.raw ?_; conv => whnf
      refine ⟨⟨_, rfl, ?_⟩, Keep.toSub (o := o + 1) ?_ (hbd.no (by omega))⟩
      · have := rank_of_sorted (xs := (ls M).map (six a0 a1 a2 a3 a4 a5)) (ys := ys) (by rw [hyl, hxl]) hmem hcnt (by rw [hyl]; exact hso) (by intro e; rw [e] at hxl; simp at hxl; omega)
        rw [hyl] at this
        exact this
      · exact (s1.keep _).trans ((s2.keep _).trans (hkeep.trans (KeepT.set hb).keep))
end Go.Ah
