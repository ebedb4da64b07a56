/- LedgerCut, LedgerCompact, LedgerSlices. -/
import Derived.Test.YtmlgbkighdiniaaLedK
namespace Go.Ah
open Go.Proofs
set_option linter.unusedVariables false
set_option linter.unusedSimpArgs false

theorem alike_rfl {xs ys zs : List EH} (h : xs.map EH.abs = ys.map EH.abs) (h' : ys.map EH.abs = zs.map EH.abs) : xs.map EH.abs = zs.map EH.abs := h.trans h'

set_option maxHeartbeats 4000000 in
theorem Cut_law (h : Heap) (z : AllZero h) {a : Option Addr} {m c : Nat} {zs : List Int} (s : Sl h (0, 0) a m c 1 (zs.map I)) (at_ : Int) :
    ACalls PR 7 #[.slice a m c, I at_] h (fun v h' => v = .bool true ∧ Stays h h') := by
  refine acalls_of mix Try.func7 rfl rfl Try.ntmps7 Try.results7 rfl ?_; conv => whnf
  refine ACalls.mono (works_any h (z.no (by omega))) ?_; rintro _ _ ⟨rfl, rfl⟩; conv => whnf
  obtain ⟨n, hn, hn60⟩ := min_nat m 60
  refine AInt.as (hn) ?_; conv => whnf
  refine ACalls.mono (filled_any h 1 2 (by omega) (by omega) (by omega) (by simp) (by simp) s n hn60) ?_; rintro _ h1 ⟨p, es, a1, c1, a2, c2, all, rfl, L, hownA, X, hes, hall, hsm, hk1⟩; conv => whnf
  have S := seq_entsA hes hn60
  have hel : es.length = n := by have := congrArg List.length hes; simpa [entsA_len] using this
  have hal : all.length = n := by have := congrArg List.length hall; simpa [entsA_len] using this
  have hst : Stays h h1 := hk1.stays (by simp)
  refine AArith.ok (by omega) (by omega) (rfl) ?_; conv => whnf
  obtain ⟨k, hk, hkn⟩ := bring_nat at_ (n := n + 1) (by omega)
  refine ACalls.mono (bring_any at_ ((n : Int) + 1) (by omega) _) ?_
  rw [show ((n : Int) + 1) = ((n + 1 : Nat) : Int) by omega, hk]
  rintro _ _ ⟨rfl, rfl⟩
  conv => whnf
  refine AArith.ok (by omega) (by omega) (rfl) ?_; conv => whnf
  refine ACalls.mono (Cut_ok L S ((k : Int) + 1) k (by omega) (by omega)) ?_; rintro _ h2 ⟨rfl, L2, k2⟩; conv => whnf
  refine ACmp.no (by simp) ?_; conv => whnf
  have X2 := X.keep k2 (by simp) (by simp)
  have S2 := S.take k
  have hes2 := take_entsA hes (show k ≤ n by omega)
  have hel2 : (es.take k).length = k := by simp; omega
  have hcap := X.sl.le
  refine ACalls.mono (filled_any h2 3 4 (by omega) (by omega) (by omega) (by simp) (by simp) (s.move (fun _ _ x => (hst.trans (k2.stays (by simp))) _ _ x)) k (by omega)) ?_; rintro _ h3 ⟨p3, es3, a3, c3, a4, c4, all3, rfl, L3, hownA3, X3, hes3, hall3, hsm3, hk3⟩; conv => whnf
  have L2' := L2.keeps hk3 (by simp)
  have X2' := X2.keeps hk3 (by simp) (by simp)
  refine ACalls.mono (Slice_ok L2' S2 (5, 0) (5, 2) (by simp) (by simp) (by simp) (by simp) 1 60 0 (by omega) (by omega) (by omega) (by omega)) ?_; rintro _ h5 ⟨a5, n5, c5, zs5, rfl, X5, habs5, hsm5, k5⟩; conv => whnf
  have L5 := L2'.keep k5.keep (by simp)
  have hl2 := lastM_entsA hes2
  refine ACalls.mono (Last_any L5 (by omega)) ?_
  rw [hl2]
  rintro _ _ ⟨rfl, rfl⟩
  conv => whnf
  refine ACmp.yes (by simp) ?_; conv => whnf
  have hn5 : n5 ≤ 60 := by
    have e1 := X5.len
    have := congrArg List.length habs5
    simp at this; omega
  have habs5' : zs5.map EH.abs = entsA zs k := by rw [habs5, List.drop_zero, List.take_of_length_le (by simp; omega), hes2]
  refine ACalls.mono (alike_yes _ X5 (X3.keep k5.keep (by simp) (by simp)) (by omega) (habs5'.trans hall3.symm)) ?_; rintro _ _ ⟨rfl, rfl⟩; conv => whnf
  refine ASlc.upto (z := 4) rfl (by omega) rfl rfl ?_; conv => whnf
  refine ACalls.mono (alike_yes _ X5 ((X2'.keep k5.keep (by simp) (by simp)).take (k := k) (by omega)) (by omega) (habs5'.trans (take_entsA hall (by omega)).symm)) ?_; rintro _ _ ⟨rfl, rfl⟩; conv => whnf
  have hel3 : es3.length = k := by have := congrArg List.length hes3; simpa [entsA_len] using this
  refine ACalls.mono (lawlast_yes (L3.keep k5.keep (by simp)) (by omega) (lastM_entsA hes3)) ?_; rintro _ _ ⟨rfl, rfl⟩; conv => whnf
  have hb1 := tm_bd zs k
  refine AArith.ok (by omega) (by omega) (rfl) ?_; conv => whnf
  generalize hT : (if k = 0 then (0 : Int) else tm zs k) = T
  have hTb : 0 ≤ T ∧ T ≤ 200 := by rw [← hT]; split <;> omega
  refine AArith.ok (by omega) (by omega) (rfl) ?_; conv => whnf
  refine ACalls.mono (one_any _ (6, 2) (by simp) _ _) ?_; rintro _ h6 ⟨a6, c6, rfl, g6, s6⟩; conv => whnf
  refine ABuildSl.mk (0, 1) rfl rfl rfl rfl rfl rfl rfl fun b7 f7 => ?_; conv => whnf
  have s7 := f7.sub (row (0, 1) [I (T + 1), I ((k : Int) + 1), I 1, .slice a6 2 c6] 34)
  have X7 : Ents (h6.set b7 (row (0, 1) [I (T + 1), I ((k : Int) + 1), I 1, .slice a6 2 c6] 34)) (0, 1) (6, 2) (some ⟨b7, 0, none⟩) 1 1 [⟨T + 1, (k : Int) + 1, 1, a6, 2, c6, [b8 ((k : Int) + 1), b8 (T + 1)]⟩] :=
    Ents.one (Heap.set_same _ _ _) (Sl.sub g6 s7) (by simp)
  have hap : app (lastM 0 0 (es.take k)) [⟨T + 1, (k : Int) + 1, 1, a6, 2, c6, [b8 ((k : Int) + 1), b8 (T + 1)]⟩] = 0 := by
    rw [hl2, hT]
    exact app_one (isNum_iff.2 (by simp only []; omega)) (isNum_iff.2 (by simp only []; omega)) (by simp only []; omega) (by simp only []; omega) (by simp only []; omega) (by simp only []) (by simp only []; omega)
  refine ACalls.mono (Append_ok (by omega) (L5.sub (s6.trans s7)) S2 (by simp) (by simp) X7 (by omega) hap) ?_; rintro _ h8 ⟨rfl, es8, a8, c8, L8, habs8, k8⟩; conv => whnf
  refine ACmp.yes (by simp) ?_; conv => whnf
  exact ⟨rfl, hst.trans ((k2.stays (by simp)).trans ((hk3.stays (by simp)).trans ((k5.stays (by simp)).trans ((s6.trans s7).stays.trans (k8.stays (by simp))))))⟩

theorem Seq.drop {bi : Int} {es : List EH} (s : Seq bi es) {k : Nat} {e : EH} (he : es[k]? = some e) : Seq e.index (es.drop (k + 1)) := by
  have h1 := s.idx k e he
  have h2 := (List.getElem?_eq_some_iff.1 he).1
  have h3 := s.top
  have h4 := s.lo
  refine ⟨fun j x hx => ?_, by omega, ?_⟩
  · rw [List.getElem?_drop] at hx
    have := s.idx _ x hx
    rw [this, h1]; omega
  · rw [List.length_drop]; omega
theorem lastM_drop {bi bt : Int} {es : List EH} {k : Nat} {e : EH} (he : es[k]? = some e) : lastM e.index e.term (es.drop (k + 1)) = lastM bi bt es := by
  have h2 := (List.getElem?_eq_some_iff.1 he).1
  unfold lastM
  by_cases hk : k + 1 = es.length
  · have : es.drop (k + 1) = [] := List.drop_eq_nil_of_le (by omega)
    rw [this, List.getLast?_eq_getElem? (l := es), ← hk, Nat.add_sub_cancel, he]
    rfl
  · have : (es.drop (k + 1)).getLast? = es.getLast? := by
      rw [List.getLast?_eq_getElem?, List.getLast?_eq_getElem?, List.getElem?_drop, List.length_drop]
      congr 1; omega
    rw [this]
    obtain ⟨y, hy⟩ : ∃ y, es.getLast? = some y := ⟨es[es.length - 1]'(by omega), by rw [List.getLast?_eq_getElem?]; simp⟩
    rw [hy]
theorem termR_low {bi bt : Int} {es : List EH} {i : Int} (h : i < bi) : termR bi bt es i = (0, 9) := by
  unfold termR
  rw [if_neg (by omega)]
  cases es[(i - bi - 1).toNat]? with
  | none => rfl
  | some e => simp only []; rw [if_neg (by omega)]

set_option maxHeartbeats 4000000 in
theorem Compact_law (h : Heap) (z : AllZero h) {a : Option Addr} {m c : Nat} {zs : List Int} (s : Sl h (0, 0) a m c 1 (zs.map I)) (at_ : Int) :
    ACalls PR 8 #[.slice a m c, I at_] h (fun v h' => v = .bool true ∧ Stays h h') := by
  refine acalls_of mix Try.func8 rfl rfl Try.ntmps8 Try.results8 rfl ?_; conv => whnf
  refine ACalls.mono (works_any h (z.no (by omega))) ?_; rintro _ _ ⟨rfl, rfl⟩; conv => whnf
  obtain ⟨n, hn, hn60⟩ := min_nat m 60
  refine AInt.as (hn) ?_; conv => whnf
  refine ACalls.mono (filled_any h 1 2 (by omega) (by omega) (by omega) (by simp) (by simp) s n hn60) ?_; rintro _ h1 ⟨p, es, a1, c1, a2, c2, all, rfl, L, hownA, X, hes, hall, hsm, hk1⟩; conv => whnf
  have S := seq_entsA hes hn60
  have hel : es.length = n := by have := congrArg List.length hes; simpa [entsA_len] using this
  have hal : all.length = n := by have := congrArg List.length hall; simpa [entsA_len] using this
  have hst : Stays h h1 := hk1.stays (by simp)
  by_cases hn0 : n = 0
  · refine ACmp.yes (by omega) ?_; conv => whnf
    refine ACalls.mono (Compact_no L S 0 (by omega)) ?_; rintro _ _ ⟨rfl, rfl⟩; conv => whnf
    refine ACmp.yes (by simp) ?_; conv => whnf
    exact ⟨rfl, hst⟩
  · refine ACmp.no (by omega) ?_; conv => whnf
    obtain ⟨k, hk, hkn⟩ := bring_nat at_ (n := n) (by omega)
    refine ACalls.mono (bring_any at_ (n : Int) (by omega) _) ?_
    rw [hk]
    rintro _ _ ⟨rfl, rfl⟩
    conv => whnf
    refine AArith.ok (by omega) (by omega) (rfl) ?_; conv => whnf
    obtain ⟨e, he⟩ : ∃ e, es[k]? = some e := ⟨es[k]'(by omega), by simp⟩
    obtain ⟨y, hy⟩ : ∃ y, all[k]? = some y := ⟨all[k]'(by omega), by simp⟩
    have hei : e.index = (k : Int) + 1 := by have := (get_entsA hes he).1; simp only [EH.abs, entA, Prod.mk.injEq] at this; exact this.2.1
    have het : e.term = y.term := by
      have h1 := (get_entsA hes he).1
      have h2 := (get_entsA hall hy).1
      rw [← h2] at h1
      simp only [EH.abs, Prod.mk.injEq] at h1; exact h1.1
    refine ACalls.mono (Last_any L (by omega)) ?_; rintro _ _ ⟨rfl, rfl⟩; conv => whnf
    refine ACalls.mono (Compact_ok (by omega) L S (1 + (k : Int)) k e (by omega) he (by omega)) ?_; rintro _ h2 ⟨rfl, a2', c2', L2, k2⟩; conv => whnf
    have S2 := S.drop he
    refine ACmp.no (by simp) ?_; conv => whnf
    refine ACalls.mono (First_any L2 (by omega) (by omega)) ?_; rintro _ _ ⟨rfl, rfl⟩; conv => whnf
    refine AArith.ok (by omega) (by omega) (rfl) ?_; conv => whnf
    refine ACmp.no (by omega) ?_; conv => whnf
    refine ACalls.mono (lawlast_yes L2 (by simp; omega) (lastM_drop he)) ?_; rintro _ _ ⟨rfl, rfl⟩; conv => whnf
    refine AArith.ok (by omega) (by omega) (rfl) ?_; conv => whnf
    have X2 := X.keep k2 (by simp) (by simp)
    obtain ⟨b, off, l, E, fz, rfl, hb, hc⟩ := X2.sl.pos (by omega)
    have g0 : l[off + k * 4]? = some (I y.term) := by rw [get_of_take hc (by omega)]; exact (encs_get (j := 0) hy (by omega))
    refine AIdx.nat (j := k) (by omega) (by omega) rfl rfl ?_; conv => whnf
    refine ALoad.one rfl hb g0 ?_; conv => whnf
    refine ACalls.mono (Has_yes L2 S2 (by rw [termR, if_pos (by omega), het])) ?_; rintro _ _ ⟨rfl, rfl⟩; conv => whnf
    refine AArith.ok (by omega) (by omega) (rfl) ?_; conv => whnf
    have hld : (es.drop (k + 1)).length = n - (k + 1) := by simp; omega
    refine ACalls.mono (Slice_ok L2 S2 (5, 0) (5, 2) (by simp) (by simp) (by simp) (by simp) (1 + (k : Int) + 1) 60 0 (by omega) (by omega) (by omega) (by omega)) ?_; rintro _ h5 ⟨a5, n5, c5, zs5, rfl, X5, habs5, hsm5, k5⟩; conv => whnf
    have L5 := L2.keep k5.keep (by simp)
    refine ACalls.mono (Get_none L5 S2 (1 + (k : Int)) (by omega)) ?_; rintro _ _ ⟨rfl, rfl⟩; conv => whnf
    refine AAlloc.mk (0, 1) rfl fun b6 f6 => ?_; conv => whnf
    refine AStore.agg' rfl rfl rfl (Heap.set_same _ _ _) rfl ?_; conv => whnf
    rw [Heap.set_set]
    have s6 := f6.sub (row (0, 1) [I 0, I 0, I 0, .slice none 0 0] 34)
    have L6 := L5.sub s6
    refine AArith.ok (by omega) (by omega) (rfl) ?_; conv => whnf
    refine ACalls.mono (Term_any L6 S2 (1 + (k : Int) - 1)) ?_
    rw [termR_low (by omega)]
    rintro _ _ ⟨rfl, rfl⟩
    conv => whnf
    refine ACmp.yes (by simp) ?_; conv => whnf
    have hcap := X.sl.le
    refine ASlc.from (z := 4) (l := k + 1) (by omega) (by omega) hcap rfl rfl ?_; conv => whnf
    have X6 := (X2.keep k5.keep (by simp) (by simp)).sub s6
    have X7 := X6.mid (l := k + 1) (m := n) (x := c2) (by omega) (Nat.le_refl _) hcap
    have hn5 : n5 ≤ 60 := by
      have e1 := X5.len
      have := congrArg List.length habs5
      simp at this; omega
    refine ACalls.mono (alike_yes _ (X5.sub s6) X7 (by omega) ?_) ?_
    · rw [habs5, List.drop_zero, List.take_of_length_le (by simp; omega), List.take_of_length_le (by simp; omega), List.map_drop, List.map_drop, hes, hall]
    rintro _ _ ⟨rfl, rfl⟩
    conv => whnf
    refine ACmp.yes (by simp) ?_; conv => whnf
    refine ACmp.yes (by simp) ?_; conv => whnf
    refine ACalls.mono (Compact_no L6 S2 (1 + (k : Int)) (by omega)) ?_; rintro _ _ ⟨rfl, rfl⟩; conv => whnf
    refine ACmp.yes (by simp) ?_; conv => whnf
    refine ACalls.mono (Cut_no L6 S2 (1 + (k : Int)) (by omega)) ?_; rintro _ _ ⟨rfl, rfl⟩; conv => whnf
    refine ACmp.yes (by simp) ?_; conv => whnf
    exact ⟨rfl, hst.trans ((k2.stays (by simp)).trans ((k5.stays (by simp)).trans s6.stays))⟩

set_option maxHeartbeats 4000000 in
theorem Slices_law (h : Heap) (z : AllZero h) {a : Option Addr} {m c : Nat} {zs : List Int} (s : Sl h (0, 0) a m c 1 (zs.map I)) (fr most : Int) (hfr : -9223372036854775808 ≤ fr) (hmo : -9223372036854775808 ≤ most) :
    ACalls PR 9 #[.slice a m c, I fr, I most] h (fun v h' => v = .bool true ∧ Stays h h') := by
  refine acalls_of mix Try.func9 rfl rfl Try.ntmps9 Try.results9 rfl ?_; conv => whnf
  refine ACalls.mono (works_any h (z.no (by omega))) ?_; rintro _ _ ⟨rfl, rfl⟩; conv => whnf
  obtain ⟨n, hn, hn60⟩ := min_nat m 60
  refine AInt.as (hn) ?_; conv => whnf
  refine ACalls.mono (filled_any h 1 2 (by omega) (by omega) (by omega) (by simp) (by simp) s n hn60) ?_; rintro _ h1 ⟨p, es, a1, c1, a2, c2, all, rfl, L, hownA, X, hes, hall, hsm, hk1⟩; conv => whnf
  have S := seq_entsA hes hn60
  have hel : es.length = n := by have := congrArg List.length hes; simpa [entsA_len] using this
  have hal : all.length = n := by have := congrArg List.length hall; simpa [entsA_len] using this
  have hst : Stays h h1 := hk1.stays (by simp)
  by_cases hin : 0 < fr ∧ fr ≤ 0 + es.length + 1
  · by_cases hneg : most < 0
    · refine ACalls.mono (Slice_neg L S fr most hin hneg) ?_; rintro _ _ ⟨rfl, rfl⟩; conv => whnf
      refine ACmp.no (by omega) ?_; conv => whnf
      refine AArith.ok (by omega) (by omega) (rfl) ?_; conv => whnf
      refine ACmp.no (by omega) ?_; conv => whnf
      refine ACmp.yes (hneg) ?_; conv => whnf
      refine ACmp.yes (by simp) ?_; conv => whnf
      refine ACmp.yes (by simp) ?_; conv => whnf
      exact ⟨rfl, hst⟩
    · obtain ⟨k, hk⟩ : ∃ k : Nat, fr - 0 - 1 = k := ⟨(fr - 1).toNat, by omega⟩
      refine ACalls.mono (Slice_ok L S (5, 0) (5, 2) (by simp) (by simp) (by simp) (by simp) fr most k hk (by omega) (by omega) (by omega)) ?_; rintro _ h5 ⟨a5, n5, c5, zs5, rfl, X5, habs5, hsm5, k5⟩; conv => whnf
      refine ACmp.no (by omega) ?_; conv => whnf
      refine AArith.ok (by omega) (by omega) (rfl) ?_; conv => whnf
      refine ACmp.no (by omega) ?_; conv => whnf
      refine ACmp.no (hneg) ?_; conv => whnf
      refine ACmp.yes (by simp) ?_; conv => whnf
      refine AArith.ok (by omega) (by omega) (rfl) ?_; conv => whnf
      refine AArith.ok (by omega) (by omega) (rfl) ?_; conv => whnf
      obtain ⟨q, hq⟩ : ∃ q : Nat, (if (60 : Int) < most then (60 : Int) else most) = q := ⟨(if (60 : Int) < most then (60 : Int) else most).toNat, by split <;> omega⟩
      have hq60 : q ≤ 60 := by split at hq <;> omega
      refine AInt.as (hq) ?_; conv => whnf
      refine AArith.ok (by omega) (by omega) (rfl) ?_; conv => whnf
      obtain ⟨r, hr⟩ : ∃ r : Nat, (if fr - 1 + (q : Int) < (n : Int) then fr - 1 + (q : Int) else (n : Int)) = r := ⟨(if fr - 1 + (q : Int) < (n : Int) then fr - 1 + (q : Int) else (n : Int)).toNat, by split <;> omega⟩
      refine AInt.as (hr) ?_; conv => whnf
      have hcap := X.sl.le
      have hrk : k ≤ r ∧ r ≤ n := by split at hr <;> omega
      refine ASlc.mid (z := 4) (l := k) (m := r) (by omega) rfl hrk.1 (by omega) rfl rfl ?_; conv => whnf
      have X7 := (X.keep k5.keep (by simp) (by simp)).mid (l := k) (m := r) (x := c2) hrk.1 hrk.2 (by omega)
      have hn5 : n5 ≤ 60 := by
        have e1 := X5.len
        have := congrArg List.length habs5
        simp at this; omega
      refine ACalls.mono (alike_yes _ X5 X7 (by omega) ?_) ?_
      · rw [habs5, List.map_take, List.map_take, List.map_drop, List.map_drop, hes, hall]
        have hlen : ((entsA zs n).drop k).length = n - k := by rw [List.length_drop, entsA_len]
        by_cases h60 : (60 : Int) < most
        · rw [if_pos h60] at hq
          rw [List.take_of_length_le (by rw [hlen]; omega), List.take_of_length_le (by rw [hlen]; split at hr <;> omega)]
        · rw [if_neg h60] at hq
          by_cases hc : fr - 1 + (q : Int) < (n : Int)
          · rw [if_pos hc] at hr
            rw [show most.toNat = r - k by omega]
          · rw [if_neg hc] at hr
            rw [List.take_of_length_le (by rw [hlen]; omega), List.take_of_length_le (by rw [hlen]; omega)]
      rintro _ _ ⟨rfl, rfl⟩
      conv => whnf
      exact ⟨rfl, hst.trans (k5.stays (by simp))⟩
  · refine ACalls.mono (Slice_no L S fr most hin) ?_; rintro _ _ ⟨rfl, rfl⟩; conv => whnf
    by_cases hlo : fr < 1
    · refine ACmp.yes (hlo) ?_; conv => whnf
      refine ACmp.yes (by simp) ?_; conv => whnf
      refine ACmp.yes (by simp) ?_; conv => whnf
      exact ⟨rfl, hst⟩
    · refine ACmp.no (hlo) ?_; conv => whnf
      refine AArith.ok (by omega) (by omega) (rfl) ?_; conv => whnf
      refine ACmp.yes (by omega) ?_; conv => whnf
      refine ACmp.yes (by simp) ?_; conv => whnf
      refine ACmp.yes (by simp) ?_; conv => whnf
      exact ⟨rfl, hst⟩
end Go.Ah
