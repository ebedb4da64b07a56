/- LedgerPieces: appended one by one, or all together, it is the same. -/
import Derived.Test.YtmlgbkighdiniaaLedK
namespace Go.Ah
open Go.Proofs
set_option linter.unusedVariables false
set_option linter.unusedSimpArgs false

set_option maxHeartbeats 4000000 in
theorem Pieces_law (h : Heap) (z : AllZero h) {a : Option Addr} {m c : Nat} {zs : List Int} (s : Sl h (0, 0) a m c 1 (zs.map I)) (at_ : Int) :
    ACalls PR 6 #[.slice a m c, I at_] h (fun v h' => v = .bool true ∧ Stays h h') := by
  refine acalls_of mix Try.func6 rfl rfl Try.ntmps6 Try.results6 rfl ?_; conv => whnf
  refine ACalls.mono (works_any h (z.no (by omega))) ?_; rintro _ _ ⟨rfl, rfl⟩; conv => whnf
  obtain ⟨n, hn, hn60⟩ := min_nat m 60
  refine AInt.as (hn) ?_; conv => whnf
  refine ACalls.mono (filled_any h 1 2 (by omega) (by omega) (by omega) (by simp) (by simp) s n hn60) ?_; rintro _ h1 ⟨p, es, a1, c1, a2, c2, all, rfl, L, hownA, X, hes, hall, hsm, hk1⟩; conv => whnf
  have S := seq_entsA hes hn60
  have hel : es.length = n := by have := congrArg List.length hes; simpa [entsA_len] using this
  have hal : all.length = n := by have := congrArg List.length hall; simpa [entsA_len] using this
  have hst : Stays h h1 := hk1.stays (by simp)
  refine ACalls.mono (New_ok h1 3 (by omega) 0 0 (by decide)) ?_; rintro _ h2 ⟨pm, rfl, M2, s2⟩; conv => whnf
  refine ACmp.no (by simp) ?_; conv => whnf
  refine AArith.ok (by omega) (by omega) (rfl) ?_; conv => whnf
  obtain ⟨k0, hk0, hk0n⟩ := bring_nat at_ (n := n + 1) (by omega)
  refine ACalls.mono (bring_any at_ ((n : Int) + 1) (by omega) _) ?_
  rw [show ((n : Int) + 1) = ((n + 1 : Nat) : Int) by omega, hk0]
  rintro _ _ ⟨rfl, rfl⟩
  conv => whnf
  have hcap := X.sl.le
  refine ASlc.upto (z := 4) rfl (by omega) rfl rfl ?_; conv => whnf
  have X2 := X.sub s2
  have hall0 := take_entsA hall (show k0 ≤ n by omega)
  refine ACalls.mono (Append_ok (by omega) M2 (Seq.nil (by omega) (by omega)) (by simp) (by simp) (X2.take (k := k0) (by omega)) (by simp; omega) (app_entsA hall0 (by omega) (fun e he => hsm e (List.mem_of_mem_take he)))) ?_; rintro _ h3 ⟨rfl, es3, a3, c3, M3, habs3, k3⟩; conv => whnf
  refine ACmp.no (by simp) ?_; conv => whnf
  rw [List.nil_append, hall0] at habs3
  refine ALoop.mk (fun e h' => Keep 3 h2 h' ∧ ∃ e0, ∃ k : Nat, ∃ es4 a4 c4, e = updL 81 e0 [(5, I n), (6, .pointer (some ⟨p, 0, none⟩)), (7, .slice a2 n c2), (8, .pointer (some ⟨pm, 0, none⟩)), (10, I k)] ∧ k ≤ n ∧ LedAt h' pm 3 0 0 es4 a4 c4 ∧ es4.map EH.abs = entsA zs k) (fun e => n - natOf (e 10))
    ⟨k3, _, k0, es3, a3, c3, updL_self ⟨rfl, rfl, rfl, rfl, rfl, trivial⟩, by omega, M3, habs3⟩ ?_
  rintro e h4 ⟨k4, e0, k, es4, a4, c4, rfl, hk, M4, habs4⟩
  conv => whnf
  have X4 := X2.keep k4 (by simp) (by simp)
  have hel4 : es4.length = k := by have := congrArg List.length habs4; simpa [entsA_len] using this
  have S4 := seq_entsA habs4 (by omega)
  by_cases hkn : k < n
  · refine ACmp.yes (by omega) ?_; conv => whnf
    obtain ⟨y, hy⟩ : ∃ y, all[k]? = some y := ⟨all[k]'(by omega), by simp⟩
    have my := List.mem_of_getElem? hy
    obtain ⟨b, off, l, E, fz, rfl, hb, hc⟩ := X4.sl.pos (by omega)
    have g : (l.drop (off + k * 4)).take 4 = y.cells := by rw [part_of_take hc (by omega), encs_part hy]
    refine AIdx.nat rfl hkn rfl rfl ?_; conv => whnf
    refine ALoad.agg rfl hb g rfl ?_; conv => whnf
    refine ABuildSl.mk (0, 1) rfl rfl rfl rfl rfl rfl rfl fun b5 f5 => ?_; conv => whnf
    have s5 := f5.sub (row (0, 1) [I y.term, I y.index, I y.kind, .slice y.a y.n y.c] 34)
    have X5 : Ents (h4.set b5 (row (0, 1) [I y.term, I y.index, I y.kind, .slice y.a y.n y.c] 34)) (0, 1) (2, 2) (some ⟨b5, 0, none⟩) 1 1 [y] := Ents.one (Heap.set_same _ _ _) (Sl.sub (X4.good y my) s5) (hsm y my)
    have hya := (get_entsA hall hy).1
    have hb1 := tm_bd zs (k + 1)
    have hmono := tm_mono zs k
    simp only [EH.abs, entA, Prod.mk.injEq] at hya
    obtain ⟨y1, y2, y3, y4⟩ := hya
    have hap : app (lastM 0 0 es4) [y] = 0 := by
      rw [lastM_entsA habs4]
      refine app_one (isNum_iff.2 (by omega)) (isNum_iff.2 (by omega)) (by omega) (by omega) (hsm y my) (by simp only []; omega) ?_
      simp only []
      split <;> omega
    refine ACalls.mono (Append_ok (by omega) (M4.sub s5) S4 (by simp) (by simp) X5 (by omega) hap) ?_; rintro _ h6 ⟨rfl, es6, a6, c6, M6, habs6, k6⟩; conv => whnf
    refine ACmp.no (by simp) ?_; conv => whnf
    refine AArith.ok (by omega) (by omega) ((by omega : (k : Int) + 1 = ((k + 1 : Nat) : Int))) ?_; conv => whnf
    refine ⟨⟨k4.trans ((s5.keep 3).trans k6), _, k + 1, es6, a6, c6, updL_self ⟨rfl, rfl, rfl, rfl, rfl, trivial⟩, by omega, M6, ?_⟩, ?_⟩
    · rw [habs6, List.map_append, habs4, entsA_succ]
      simp [EH.abs, entA, y1, y2, y3, y4]
    · show n - (k + 1) < n - k
      omega
  · refine ACmp.no (by omega) ?_; conv => whnf
    obtain rfl : k = n := by omega
    have L4 := (L.sub s2).keep k4 (by simp)
    refine ACalls.mono (Slice_ok L4 S (4, 0) (4, 2) (by simp) (by simp) (by simp) (by simp) 1 60 0 (by omega) (by omega) (by omega) (by omega)) ?_; rintro _ h5 ⟨a5, n5, c5, zs5, rfl, X5, habs5, hsm5, k5⟩; conv => whnf
    refine ACalls.mono (Slice_ok (M4.keep k5.keep (by simp)) S4 (5, 0) (5, 2) (by simp) (by simp) (by simp) (by simp) 1 60 0 (by omega) (by omega) (by omega) (by omega)) ?_; rintro _ h6 ⟨a6, n6, c6, zs6, rfl, X6, habs6, hsm6, k6⟩; conv => whnf
    refine ACmp.yes (by simp) ?_; conv => whnf
    refine ACmp.yes (by simp) ?_; conv => whnf
    have hn5 : n5 ≤ 60 := by
      have e1 := X5.len
      have := congrArg List.length habs5
      simp at this; omega
    refine ACalls.mono (alike_yes _ (X5.keep k6.keep (by simp) (by simp)) X6 (by omega) ?_) ?_
    · rw [habs5, habs6, List.drop_zero, List.drop_zero, List.take_of_length_le (by simp; omega), List.take_of_length_le (by simp; omega), hes, habs4]
    rintro _ _ ⟨rfl, rfl⟩
    conv => whnf
    exact ⟨rfl, hst.trans (s2.stays.trans ((k4.stays (by simp)).trans ((k5.stays (by simp)).trans (k6.stays (by simp)))))⟩
end Go.Ah
