/- LedgerKeeps: what was appended is there, each at its index. -/
import Derived.Test.YtmlgbkighdiniaaLedI
namespace Go.Ah
open Go.Proofs
set_option linter.unusedVariables false
set_option linter.unusedSimpArgs false

theorem termR_get {bi bt : Int} {es : List EH} (S : Seq bi es) {k : Nat} {e : EH} (he : es[k]? = some e) {i : Int} (hi : i = bi + 1 + k) : termR bi bt es i = (e.term, 0) := by
  subst hi
  unfold termR
  rw [if_neg (by omega), show (bi + 1 + (k : Int) - bi - 1).toNat = k by omega, he]
  simp only []
  rw [if_pos (by omega)]

def AllZero (h : Heap) : Prop := ∀ b t x, h b = some (t, x) → t = (0, 0)
theorem heapOf_zero (w : World) : AllZero (heapOf w) := fun b t x e => heapOf_tag e
theorem AllZero.no {h : Heap} (z : AllZero h) {o : Nat} (ho : o ≠ 0) : NoOwner o h := fun b t x e => by rw [z b t x e]; exact Ne.symm ho

theorem lastM_entsA {es : List EH} {zs : List Int} {k : Nat} (h : es.map EH.abs = entsA zs k) : lastM 0 0 es = ((k : Int), if k = 0 then 0 else tm zs k) := by
  have hl : es.length = k := by have := congrArg List.length h; simpa [entsA_len] using this
  cases k with
  | zero => have : es = [] := List.eq_nil_of_length_eq_zero hl; subst this; rfl
  | succ k =>
    obtain ⟨e, he⟩ : ∃ e, es[k]? = some e := ⟨es[k]'(by omega), by simp [hl]⟩
    have hlast : es.getLast? = some e := by rw [List.getLast?_eq_getElem?, hl]; exact he
    have := (get_entsA h he).1
    simp only [EH.abs, entA, Prod.mk.injEq] at this
    unfold lastM
    rw [hlast]
    simp only [this.1, this.2.1]
    rw [if_neg (by omega)]
    simp
theorem entsA_take (zs : List Int) {n k : Nat} (h : k ≤ n) : (entsA zs n).take k = entsA zs k := by
  unfold entsA; rw [← List.map_take, List.take_range, Nat.min_eq_left h]
theorem take_entsA {es : List EH} {zs : List Int} {n k : Nat} (h : es.map EH.abs = entsA zs n) (hk : k ≤ n) : (es.take k).map EH.abs = entsA zs k := by
  rw [List.map_take, h, entsA_take zs hk]

theorem Sl.take {h : Heap} {t : Tag} {a : Option Addr} {n cap z : Nat} {cs : List Value} (s : Sl h t a n cap z cs) {k : Nat} (hk : k ≤ n) : Sl h t a k cap z (cs.take (k * z)) := by
  have hle := Nat.mul_le_mul_right z hk
  refine ⟨by rw [List.length_take, s.len]; omega, Nat.le_trans hk s.le, ?_⟩
  rcases Nat.eq_zero_or_pos k with h0 | h0
  · exact .inl h0
  · right
    obtain ⟨b, off, l, E, fz, e, hb, hc⟩ := s.pos (by omega)
    refine ⟨b, off, l, E, fz, e, hb, ?_⟩
    rw [← hc, List.take_take, Nat.min_eq_left hle]
theorem Ents.take {h : Heap} {t td : Tag} {a : Option Addr} {n c : Nat} {es : List EH} (s : Ents h t td a n c es) {k : Nat} (hk : k ≤ n) : Ents h t td a k c (es.take k) :=
  ⟨by rw [← encs_take]; exact s.sl.take hk, fun e he => s.good e (List.mem_of_mem_take he), fun e he => s.small e (List.mem_of_mem_take he)⟩
theorem Ents.mid {h : Heap} {t td : Tag} {a : Option Addr} {n c : Nat} {es : List EH} (s : Ents h t td a n c es) {l m x : Nat} (h0 : l ≤ m) (h1 : m ≤ n) (h2 : m ≤ x) : Ents h t td (slBase a l x 4) (m - l) (x - l) ((es.drop l).take (m - l)) :=
  ⟨by rw [← encs_take, ← encs_drop]; exact s.sl.slice h0 h1 h2, fun e he => s.good e (List.mem_of_mem_drop (List.mem_of_mem_take he)), fun e he => s.small e (List.mem_of_mem_drop (List.mem_of_mem_take he))⟩

theorem app_one {x : EH} {m : Int × Int} (h1 : isNum x.term = true) (h2 : isNum x.index = true) (h3 : 0 ≤ x.kind) (h4 : x.kind ≤ 2) (h5 : x.n ≤ 1200) (h6 : x.index = m.1 + 1) (h7 : m.2 ≤ x.term) : app m [x] = 0 := by
  refine app_zero [x] m (fun k y hy => ?_) (fun y hy => ?_) (fun k y z hy hz => by simp at hz)
  · cases k with
    | zero => simp at hy; subst hy; exact ⟨h1, h2, h3, h4, h5, by omega⟩
    | succ k => simp at hy
  · simp at hy; subst hy; exact h7

/-- how many there are: as many as numbers came in, or so many at most -/
theorem min_nat (m B : Nat) : ∃ n : Nat, (if ((B : Int) < (m : Int)) then (B : Int) else (m : Int)) = (n : Int) ∧ n ≤ B :=
  ⟨(if ((B : Int) < (m : Int)) then (B : Int) else (m : Int)).toNat, by split <;> omega, by split <;> omega⟩
theorem bring_nat (i : Int) {n : Nat} (h : 0 < n) : ∃ k : Nat, bring i (n : Int) = (k : Int) ∧ k < n :=
  ⟨(bring i n).toNat, by have := bring_lo i n; omega, by have := bring_lo i n; have := bring_hi (i := i) (n := (n : Int)) (by omega); omega⟩

set_option maxHeartbeats 4000000 in
theorem Keeps_law (h : Heap) (z : AllZero h) {a : Option Addr} {m c : Nat} {zs : List Int} (s : Sl h (0, 0) a m c 1 (zs.map I)) :
    ACalls PR 5 #[.slice a m c] h (fun v h' => v = .bool true ∧ Stays h h') := by
  refine acalls_of mix Try.func5 rfl rfl Try.ntmps5 Try.results5 rfl ?_; conv => whnf
  refine ACalls.mono (works_any h (z.no (by omega))) ?_; rintro _ _ ⟨rfl, rfl⟩; conv => whnf
  obtain ⟨n, hn⟩ : ∃ n : Nat, (if ((60 : Int) < (m : Int)) then (60 : Int) else (m : Int)) = (n : Int) := ⟨(if ((60 : Int) < (m : Int)) then (60 : Int) else (m : Int)).toNat, by split <;> omega⟩
  have hn60 : n ≤ 60 := by split at hn <;> omega
  refine AInt.as (hn) ?_; conv => whnf
  refine ACalls.mono (filled_any h 1 2 (by omega) (by omega) (by omega) (by simp) (by simp) s n hn60) ?_; rintro _ h1 ⟨p, es, a1, c1, a2, c2, all, rfl, L, hownA, X, hes, hall, hsm, hk1⟩; conv => whnf
  have S := seq_entsA hes hn60
  have hel : es.length = n := by have := congrArg List.length hes; simpa [entsA_len] using this
  have hal : all.length = n := by have := congrArg List.length hall; simpa [entsA_len] using this
  have hst : Stays h h1 := hk1.stays (by simp)
  refine ACalls.mono (First_any L (by omega) (by omega)) ?_; rintro _ _ ⟨rfl, rfl⟩; conv => whnf
  refine ACmp.no (by simp) ?_; conv => whnf
  refine ALoop.mk (fun e h' => Sub h1 h' ∧ ∃ e0, ∃ k : Nat, e = updL 131 e0 [(4, .pointer (some ⟨p, 0, none⟩)), (5, .slice a2 n c2), (3, I n), (6, I k)] ∧ k ≤ n) (fun e => n - natOf (e 6))
    ⟨Sub.refl _, _, 0, updL_self ⟨rfl, rfl, rfl, rfl, trivial⟩, by omega⟩ ?_
  rintro e h2 ⟨s2, e0, k, rfl, hk⟩
  conv => whnf
  have L2 := L.sub s2
  have X2 := X.sub s2
  by_cases hkn : k < n
  · refine ACmp.yes (by omega) ?_; conv => whnf
    obtain ⟨x, hx⟩ : ∃ x, es[k]? = some x := ⟨es[k]'(by omega), by simp⟩
    obtain ⟨y, hy⟩ : ∃ y, all[k]? = some y := ⟨all[k]'(by omega), by simp⟩
    have hxy : x.abs = y.abs := by rw [(get_entsA hes hx).1, (get_entsA hall hy).1]
    have hT := termR_get (bt := 0) S hx (i := (k : Int) + 1) (by omega)
    have hxt : x.term = y.term := by simp only [EH.abs, Prod.mk.injEq] at hxy; exact hxy.1
    have hxb := tm_bd zs (k + 1)
    have hxe : x.term = tm zs (k + 1) := by have := (get_entsA hes hx).1; simp only [EH.abs, entA, Prod.mk.injEq] at this; exact this.1
    refine AArith.ok (by omega) (by omega) (rfl) ?_; conv => whnf
    refine ACalls.mono (Get_some L2 S (0, 2) (by simp) _ k x (by omega) hx) ?_; rintro _ h3 ⟨a3, c3, rfl, g3, s3⟩; conv => whnf
    refine AAlloc.mk (0, 1) rfl fun b7 f7 => ?_; conv => whnf
    refine AStore.agg' rfl rfl rfl (Heap.set_same _ _ _) rfl ?_; conv => whnf
    rw [Heap.set_set]
    have s7 := f7.sub (row (0, 1) [I x.term, I x.index, I x.kind, .slice a3 x.n c3] 34)
    have s23 := s3.trans s7
    refine AArith.ok (by omega) (by omega) (rfl) ?_; conv => whnf
    refine ACalls.mono (Term_any (L2.sub s23) S _) ?_
    rw [hT]
    rintro _ _ ⟨rfl, rfl⟩
    conv => whnf
    refine ADrawn.mk (_) [] (Sub.refl _) (by decide +kernel) ?_; conv => whnf
    refine ACmp.no (by simp) ?_; conv => whnf
    refine ALoad.agg rfl (Heap.set_same _ _ _) rfl rfl ?_; conv => whnf
    obtain ⟨b, off, l, E, fz, rfl, hb, hc⟩ := (X2.sub s23).sl.pos (by omega)
    have g : (l.drop (off + k * 4)).take 4 = y.cells := by rw [part_of_take hc (by omega), encs_part hy]
    have g0 : l[off + k * 4]? = some (I y.term) := by rw [get_of_take hc (by omega)]; exact (encs_get (j := 0) hy (by omega))
    refine AIdx.nat rfl hkn rfl rfl ?_; conv => whnf
    refine ALoad.agg rfl hb g rfl ?_; conv => whnf
    have my := List.mem_of_getElem? hy
    have hxn : x.n ≤ 1200 := L2.small x (List.mem_of_getElem? hx)
    refine ACalls.mono (same_yes _ (⟨x.term, x.index, x.kind, a3, x.n, c3, x.data⟩ : EH) y (Sl.sub g3 s7) ((X2.sub s23).good y my) (by simp only []; omega) hxy) ?_
    rintro _ _ ⟨rfl, rfl⟩
    refine ⟨Sub.refl _, ?_⟩
    conv => whnf
    refine ACmp.no (by simp) ?_; conv => whnf
    refine AIdx.nat rfl hkn rfl rfl ?_; conv => whnf
    refine ALoad.one rfl hb g0 ?_; conv => whnf
    refine ACmp.no (by simp [hxt]) ?_; conv => whnf
    refine AArith.ok (by omega) (by omega) (rfl) ?_; conv => whnf
    refine ACalls.mono (Has_yes (L2.sub s23) S hT) ?_
    rintro _ _ ⟨rfl, rfl⟩
    refine ⟨Sub.refl _, ?_⟩
    conv => whnf
    refine AArith.ok (by omega) (by omega) (rfl) ?_; conv => whnf
    refine AArith.ok (by omega) (by omega) (rfl) ?_; conv => whnf
    refine ACalls.mono (Has_no (L2.sub s23) S (by rw [hT]; simp; omega)) ?_
    rintro _ _ ⟨rfl, rfl⟩
    refine ⟨Sub.refl _, ?_⟩
    conv => whnf
    refine AArith.ok (by omega) (by omega) ((by omega : (k : Int) + 1 = ((k + 1 : Nat) : Int))) ?_; conv => whnf
    refine ⟨⟨s2.trans s23, _, k + 1, updL_self ⟨rfl, rfl, rfl, rfl, trivial⟩, by omega⟩, ?_⟩
    show n - (k + 1) < n - k
    omega
  · refine ACmp.no (by omega) ?_; conv => whnf
    obtain rfl : k = n := by omega
    refine ACalls.mono (Slice_ok L2 S (3, 0) (3, 2) (by simp) (by simp) (by simp) (by simp) 1 k 0 (by omega) (by omega) (by omega) (by omega)) ?_; rintro _ h3 ⟨a3, n3, c3, zs3, rfl, X3, habs3, hsm3, k3⟩; conv => whnf
    have L3 := L2.keep k3.keep (by simp)
    have X2' := X2.keep k3.keep (by simp) (by simp)
    refine AArith.ok (by omega) (by omega) (rfl) ?_; conv => whnf
    refine ACalls.mono (Get_none L3 S _ (by omega)) ?_; rintro _ _ ⟨rfl, rfl⟩; conv => whnf
    refine AAlloc.mk (0, 1) rfl fun b4 f4 => ?_; conv => whnf
    refine AStore.agg' rfl rfl rfl (Heap.set_same _ _ _) rfl ?_; conv => whnf
    rw [Heap.set_set]
    have s4 := f4.sub (row (0, 1) [I 0, I 0, I 0, .slice none 0 0] 34)
    refine ACalls.mono (Get_none (L3.sub s4) S _ (by omega)) ?_; rintro _ _ ⟨rfl, rfl⟩; conv => whnf
    refine AAlloc.mk (0, 1) rfl fun b5 f5 => ?_; conv => whnf
    refine AStore.agg' rfl rfl rfl (Heap.set_same _ _ _) rfl ?_; conv => whnf
    rw [Heap.set_set]
    have s5 := s4.trans (f5.sub (row (0, 1) [I 0, I 0, I 0, .slice none 0 0] 34))
    refine ACmp.yes (by simp) ?_; conv => whnf
    have hn3 : n3 ≤ 60 := by
      have e1 := X3.len
      have := congrArg List.length habs3
      simp at this; omega
    refine ACalls.mono (alike_yes _ (X3.sub s5) (X2'.sub s5) (by omega) ?_) ?_
    · rw [habs3, List.drop_zero, Int.toNat_natCast, List.take_of_length_le (by omega), hes, hall]
    rintro _ _ ⟨rfl, rfl⟩
    conv => whnf
    refine ACmp.yes (by simp) ?_; conv => whnf
    refine ACmp.yes (by simp) ?_; conv => whnf
    refine ACalls.mono (Has_yes (L3.sub s5) S (i := 0) (t := 0) rfl) ?_
    rintro _ _ ⟨rfl, rfl⟩
    conv => whnf
    exact ⟨rfl, hst.trans (s2.stays.trans ((k3.stays (by simp)).trans s5.stays))⟩
end Go.Ah
