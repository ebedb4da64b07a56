/- LedgerRefused: of entries of which one is wrong none is appended. -/
import Derived.Test.YtmlgbkighdiniaaLedK
namespace Go.Ah
open Go.Proofs
set_option linter.unusedVariables false
set_option linter.unusedSimpArgs false

theorem encs_set : ∀ (es : List EH) (k j : Nat) (e y : EH) (v : Value), es[k]? = some e → j < 4 → y.cells = e.cells.set j v → (encs es).set (k * 4 + j) v = encs (es.set k y)
  | [], k, j, e, y, v, he, _, _ => by simp at he
  | x :: es, 0, j, e, y, v, he, hj, hy => by
    simp at he; subst he
    simp only [List.set_cons_zero, encs, List.flatMap_cons, Nat.zero_mul, Nat.zero_add]
    rw [List.set_append_left _ _ (by simp [EH.cells]; omega), hy]
  | x :: es, k + 1, j, e, y, v, he, hj, hy => by
    have ih := encs_set es k j e y v (by simpa using he) hj hy
    simp only [List.set_cons_succ, encs, List.flatMap_cons] at ih ⊢
    have hx : x.cells.length = 4 := rfl
    rw [show (k + 1) * 4 + j = x.cells.length + (k * 4 + j) by omega, List.set_append_right _ _ (by omega), Nat.add_sub_cancel_left, ih]

theorem LedAt.move3 {h h' : Heap} {p o : Nat} {bi bt : Int} {es : List EH} {a : Option Addr} {cap : Nat} {t : Tag} (L : LedAt h p o bi bt es a cap) (k : KeepT t h h') (n : o ≠ t.1 := by decide) : LedAt h' p o bi bt es a cap := L.keep k.keep n

theorem flat_rep (n : Nat) : (List.replicate n [Value.int .u8 0]).flatten = bytesV (List.replicate n 0) := by simp [bytesV]
theorem bytes_rep (n : Nat) : (bytesV (List.replicate n 0)).length = n := by simp [bytesV]
theorem sl_rep {h : Heap} {t : Tag} {b n : Nat} (hb : h b = some (row t (List.replicate n [Value.int .u8 0]).flatten 5)) : Sl h t (some ⟨b, 0, none⟩) n n 1 (bytesV (List.replicate n 0)) := by
  refine ⟨by rw [bytes_rep, Nat.mul_one], Nat.le_refl _, .inr ⟨b, 0, _, _, _, rfl, hb, ?_⟩⟩
  rw [flat_rep, List.drop_zero, List.take_of_length_le (by rw [bytes_rep, Nat.mul_one]; exact Nat.le_refl _)]

/-- A field of an entry is written. -/
theorem own_set {h : Heap} {t : Tag} {b cap n : Nat} {l : List Value} {es : List EH} (hb : h b = some (row t l 34)) (hl : l.length = cap * 4) (hn : n ≤ cap) (hc : l.take (n * 4) = encs es) (hlen : es.length = n)
    {k j : Nat} {e y : EH} {v : Value} (he : es[k]? = some e) (hj : j < 4) (hy : y.cells = e.cells.set j v) :
    Own (h.set b (row t (l.set (0 + k * 4 + j) v) 34)) t 34 (some ⟨b, 0, none⟩) n cap 4 (encs (es.set k y)) := by
  have hk := (List.getElem?_eq_some_iff.1 he).1
  refine .inr ⟨b, _, rfl, Heap.set_same _ _ _, by rw [List.length_set, hl], hn, ?_⟩
  rw [List.take_set, hc, Nat.zero_add]
  exact encs_set es k j e y v he hj hy

theorem app_append : ∀ (xs ys : List EH) (m : Int × Int), app m xs = 0 → app m (xs ++ ys) = app (lastM m.1 m.2 xs) ys
  | [], ys, m, _ => rfl
  | x :: r, ys, m, h => by
    unfold app at h
    split at h
    · rename_i hz
      rw [List.cons_append, app, if_pos hz, app_append r ys _ h]
      cases r with
      | nil => rfl
      | cons y r => simp [lastM, List.getLast?_cons]
    · rename_i hz; exact absurd h hz

theorem app_at {xs : List EH} {zs : List Int} {n k : Nat} (h : xs.map EH.abs = entsA zs n) (hn : n ≤ 60) (hs : ∀ e ∈ xs, e.n ≤ 1200) (hk : k < n) (y : EH) (c : Int) (hc : chk y ((k : Int), if k = 0 then 0 else tm zs k) = c) (hc0 : c ≠ 0) :
    app (0, 0) (xs.set k y) = c := by
  have hl : xs.length = n := by have := congrArg List.length h; simpa [entsA_len] using this
  have e1 : xs.set k y = xs.take k ++ y :: xs.drop (k + 1) := by rw [List.set_eq_take_append_cons_drop, if_pos (by omega)]
  have ht := take_entsA h (show k ≤ n by omega)
  have h0 := app_entsA ht (by omega) (fun e he => hs e (List.mem_of_mem_take he))
  rw [e1, app_append _ _ _ h0]
  have hl2 := lastM_entsA ht
  simp only []
  rw [hl2, app, hc, if_neg hc0]

theorem chk_gap {x : EH} {m : Int × Int} (h1 : isNum x.term = true) (h2 : isNum x.index = true) (h3 : 0 ≤ x.kind) (h4 : x.kind ≤ 2) (h5 : x.n ≤ 1200) (h6 : x.index ≠ m.1 + 1) : chk x m = 170 := by
  unfold chk
  rw [if_neg, if_pos h6]
  rintro (c | c | c | c | c)
  · rw [h1] at c; cases c
  · rw [h2] at c; cases c
  · omega
  · omega
  · omega
theorem chk_arg {x : EH} {m : Int × Int} (h : isNum x.term = false ∨ isNum x.index = false ∨ x.kind < 0 ∨ 2 < x.kind ∨ 1200 < x.n) : chk x m = 2 := by
  unfold chk; rw [if_pos h]
theorem chk_low {x : EH} {m : Int × Int} (h6 : x.index = m.1 + 1) (h7 : x.term < m.2) : chk x m = 2 := by
  by_cases c : isNum x.term = false ∨ isNum x.index = false ∨ x.kind < 0 ∨ 2 < x.kind ∨ 1200 < x.n
  · exact chk_arg c
  · rw [chk, if_neg c, if_neg (by simpa using h6), if_pos h7]

set_option maxHeartbeats 4000000 in
theorem Refused_law (h : Heap) (z : AllZero h) {a : Option Addr} {m c : Nat} {zs : List Int} (s : Sl h (0, 0) a m c 1 (zs.map I)) (at_ wr : Int) :
    ACalls PR 3 #[.slice a m c, I at_, I wr] h (fun v h' => v = .bool true ∧ Stays h h') := by
  refine acalls_of mix Try.func3 rfl rfl Try.ntmps3 Try.results3 rfl ?_; conv => whnf
  refine ACalls.mono (works_any h (z.no (by omega))) ?_; rintro _ _ ⟨rfl, rfl⟩; conv => whnf
  obtain ⟨n, hn, hn20⟩ := min_nat m 20
  refine AInt.as (hn) ?_; conv => whnf
  refine ACalls.mono (filled_any h 1 2 (by omega) (by omega) (by omega) (by simp) (by simp) s n (by omega)) ?_; rintro _ h1 ⟨p, es, a1, c1, a2, c2, all, rfl, L, hownA, X, hes, hall, hsm, hk1⟩; conv => whnf
  have S := seq_entsA hes (show n ≤ 60 by omega)
  have hel : es.length = n := by have := congrArg List.length hes; simpa [entsA_len] using this
  have hal : all.length = n := by have := congrArg List.length hall; simpa [entsA_len] using this
  have hst : Stays h h1 := hk1.stays (by simp)
  by_cases hn0 : n = 0
  · refine ACmp.yes (by omega) ?_; conv => whnf
    exact ⟨rfl, hst⟩
  · refine ACmp.no (by omega) ?_; conv => whnf
    refine ACalls.mono (New_ok h1 3 (by omega) 0 0 (by decide)) ?_; rintro _ h2 ⟨pm, rfl, M2, s2⟩; conv => whnf
    refine ACmp.no (by simp) ?_; conv => whnf
    obtain ⟨k, hk, hkn⟩ := bring_nat at_ (n := n) (by omega)
    refine ACalls.mono (bring_any at_ (n : Int) (by omega) _) ?_
    rw [hk]
    rintro _ _ ⟨rfl, rfl⟩
    conv => whnf
    obtain ⟨w5, hw5, hw5n⟩ := bring_nat wr (n := 5) (by omega)
    refine ACalls.mono (bring_any wr 5 (by omega) _) ?_
    rw [show ((5 : Int)) = ((5 : Nat) : Int) from rfl, hw5]
    rintro _ _ ⟨rfl, rfl⟩
    conv => whnf
    obtain ⟨y, hy⟩ : ∃ y, all[k]? = some y := ⟨all[k]'(by omega), by simp⟩
    have my := List.mem_of_getElem? hy
    have hyn := hsm y my
    have hya := (get_entsA hall hy).1
    have hb1 := tm_bd zs (k + 1)
    have hb0 := tm_bd zs k
    have hmono := tm_mono zs k
    simp only [EH.abs, entA, Prod.mk.injEq] at hya
    obtain ⟨y1, y2, y3, y4⟩ := hya
    have X2 := X.sub s2
    have hown2 : Own h2 (2, 0) 34 a2 n c2 4 (encs all) := hownA.move fun _ _ x => s2 _ _ x
    rcases hown2 with ⟨c0, _⟩ | ⟨b, l, rfl, hb, hl, hnc, hc⟩
    · exact absurd c0 hn0
    have hlt : 0 + k * 4 + 3 < l.length := by rw [hl]; omega
    have hown2' : Own h2 (2, 0) 34 (some ⟨b, 0, none⟩) n c2 4 (encs all) := .inr ⟨b, l, rfl, hb, hl, hnc, hc⟩
    have ge : ∀ j : Nat, j < 4 → l[0 + k * 4 + j]? = y.cells[j]? := fun j hj => by
      have h1 : (l.drop 0).take (n * 4) = encs all := by simpa using hc
      rw [Nat.add_assoc, get_of_take h1 (by omega), encs_get hy hj]
    by_cases q0 : w5 = 0
    · subst q0
      refine ACmp.yes (by simp) ?_; conv => whnf
      refine AIdx.nat (z := 4) rfl hkn rfl rfl ?_; conv => whnf
      refine ALoad.one rfl hb (ge 1 (by omega)) ?_; conv => whnf
      refine AArith.ok (by omega) (by omega) (rfl) ?_; conv => whnf
      refine AIdx.nat (z := 4) rfl hkn rfl rfl ?_; conv => whnf
      refine AStore.one rfl rfl rfl hb (by omega) ?_; conv => whnf
      obtain ⟨y', hyd⟩ : ∃ y' : EH, y' = { y with index := y.index + 1 } := ⟨_, rfl⟩
      obtain ⟨want, hwant⟩ : ∃ want : Int, want = 170 := ⟨_, rfl⟩
      have O3 := own_set (y := y') (v := I (y.index + 1)) hb hl hnc hc hal hy (j := 1) (by omega) (by rw [hyd]; rfl)
      have k3 : KeepT (2, 0) h2 (h2.set b (row (2, 0) (l.set (0 + k * 4 + 1) (I (y.index + 1))) 34)) := KeepT.set hb
      generalize h2.set b (row (2, 0) (l.set (0 + k * 4 + 1) (I (y.index + 1))) 34) = h3 at O3 k3 ⊢
      have gy3 : y'.Good h3 (2, 2) := by rw [hyd]; exact Sl.keepT (X2.good y my) k3 (by simp)
      have hy3n : y'.n ≤ 4611686018427387904 := by rw [hyd]; simp only []; omega
      have hchk : chk y' ((k : Int), if k = 0 then 0 else tm zs k) = want := by
        rw [hwant, hyd]
        exact chk_gap (isNum_iff.2 (by simp only []; omega)) (isNum_iff.2 (by simp only []; omega)) (by simp only []; omega) (by simp only []; omega) (by simp only []; omega) (by simp only []; omega)
      have hwn : want ≠ 0 := by rw [hwant]; decide
      have M3 := M2.sub (Sub.refl h2) |>.move3 k3
      have L3 := (L.sub s2).move3 k3
      have hgood3 : ∀ e ∈ all.set k y', e.Good h3 (2, 2) := fun e he => by
        rcases List.mem_or_eq_of_mem_set he with he | rfl
        · exact Sl.keepT (X2.good e he) k3 (by simp)
        · exact gy3
      have X3 : Ents h3 (2, 0) (2, 2) (some ⟨b, 0, none⟩) n c2 (all.set k y') := ⟨O3.sl, hgood3, fun e he => by
        rcases List.mem_or_eq_of_mem_set he with he | rfl
        · exact X2.small e he
        · exact hy3n⟩
      have happ3 : app (lastM 0 0 []) (all.set k y') = want := app_at hall (by omega) hsm hkn y' want hchk hwn
      have hst3 : Stays h1 h3 := s2.stays.trans (k3.stays (by simp))
      refine ACalls.mono (Append_bad (by omega) M3 (Seq.nil (by omega) (by omega)) (by simp) (by simp) X3 (by simp; omega) (by rw [happ3]; exact hwn)) ?_
      rw [happ3, hwant]
      rintro _ _ ⟨rfl, rfl⟩
      conv => whnf
      refine ACmp.no (by simp) ?_; conv => whnf
      refine ACalls.mono (lawlast_yes M3 (by simp) (i := 0) (t := 0) rfl) ?_; rintro _ _ ⟨rfl, rfl⟩; conv => whnf
      refine ASlc.upto (z := 4) rfl (by omega) rfl rfl ?_; conv => whnf
      have htake : (all.set k y').take k = all.take k := by rw [List.take_set_of_le (Nat.le_refl _)]
      have X3t := X3.take (k := k) (by omega)
      rw [htake] at X3t
      have hall0 := take_entsA hall (show k ≤ n by omega)
      refine ACalls.mono (Append_ok (by omega) M3 (Seq.nil (by omega) (by omega)) (by simp) (by simp) X3t (by simp; omega) (app_entsA hall0 (by omega) (fun e he => hsm e (List.mem_of_mem_take he)))) ?_; rintro _ h4 ⟨rfl, es4, a4, c4, M4, habs4, k4⟩; conv => whnf
      rw [List.nil_append, hall0] at habs4
      refine ACmp.yes (by simp) ?_; conv => whnf
      have O4 : Own h4 (2, 0) 34 (some ⟨b, 0, none⟩) n c2 4 (encs (all.set k y')) := O3.move fun _ _ x => k4 _ _ _ (by simp) x
      have X4 := X3.keep k4 (by simp) (by simp)
      have hy' : (all.set k y')[k]? = some y' := by rw [List.getElem?_set]; simp; omega
      obtain ⟨b', off', l', E', fz', hbb, hb', hc'⟩ := O4.sl.pos (by omega)
      cases hbb
      have g' : (l'.drop (0 + k * 4)).take 4 = y'.cells := by rw [part_of_take hc' (by omega), encs_part hy']
      refine AIdx.nat (z := 4) rfl hkn rfl rfl ?_; conv => whnf
      refine ALoad.agg rfl hb' g' rfl ?_; conv => whnf
      refine ABuildSl.mk (0, 1) rfl rfl rfl rfl rfl rfl rfl fun b5 f5 => ?_; conv => whnf
      have s5 := f5.sub (row (0, 1) [I y'.term, I y'.index, I y'.kind, .slice y'.a y'.n y'.c] 34)
      have X5 : Ents (h4.set b5 (row (0, 1) [I y'.term, I y'.index, I y'.kind, .slice y'.a y'.n y'.c] 34)) (0, 1) (2, 2) (some ⟨b5, 0, none⟩) 1 1 [y'] :=
        ⟨⟨rfl, Nat.le_refl _, .inr ⟨b5, 0, _, _, _, rfl, Heap.set_same _ _ _, by simp [encs, EH.cells]⟩⟩, by simp; exact Sl.sub (X4.good y' (List.mem_of_getElem? hy')) s5, by simp; exact hy3n⟩
      have S4 := seq_entsA habs4 (by omega)
      have hel4 : es4.length = k := by have := congrArg List.length habs4; simpa [entsA_len] using this
      have happ5 : app (lastM 0 0 es4) [y'] = want := by rw [lastM_entsA habs4, app, hchk, if_neg hwn]
      refine ACalls.mono (Append_bad (by omega) (M4.sub s5) S4 (by simp) (by simp) X5 (by omega) (by rw [happ5]; exact hwn)) ?_
      rw [happ5, hwant]
      rintro _ _ ⟨rfl, rfl⟩
      conv => whnf
      refine ACmp.yes (by simp) ?_; conv => whnf
      refine AArith.ok (by omega) (by omega) (rfl) ?_; conv => whnf
      have L5 := (L3.keep k4 (by simp)).sub s5
      refine ACalls.mono (one_any _ (6, 2) (by simp) _ _) ?_; rintro _ h6 ⟨a6, c6, rfl, g6, s6⟩; conv => whnf
      refine ABuildSl.mk (0, 1) rfl rfl rfl rfl rfl rfl rfl fun b7 f7 => ?_; conv => whnf
      have s7 := f7.sub (row (0, 1) [I 4503599627370496, I ((n : Int) + 2), I 1, .slice a6 2 c6] 34)
      have X7 : Ents (h6.set b7 (row (0, 1) [I 4503599627370496, I ((n : Int) + 2), I 1, .slice a6 2 c6] 34)) (0, 1) (6, 2) (some ⟨b7, 0, none⟩) 1 1 [⟨4503599627370496, (n : Int) + 2, 1, a6, 2, c6, [b8 ((n : Int) + 2), b8 4503599627370496]⟩] :=
        Ents.one (Heap.set_same _ _ _) (Sl.sub g6 s7) (by simp)
      have happ7 : app (lastM 0 0 es) [⟨4503599627370496, (n : Int) + 2, 1, a6, 2, c6, [b8 ((n : Int) + 2), b8 4503599627370496]⟩] = 170 := by
        have hcg : chk ⟨4503599627370496, (n : Int) + 2, 1, a6, 2, c6, [b8 ((n : Int) + 2), b8 4503599627370496]⟩ (lastM 0 0 es) = 170 := by
          rw [lastM_entsA hes]
          exact chk_gap (isNum_iff.2 (by simp only []; omega)) (isNum_iff.2 (by simp only []; omega)) (by simp only []; omega) (by simp only []; omega) (by simp only []; omega) (by simp only []; omega)
        rw [app, hcg]; simp
      refine ACalls.mono (Append_bad (by omega) (L5.sub (s6.trans s7)) S (by simp) (by simp) X7 (by omega) (by rw [happ7]; decide)) ?_
      rw [happ7]
      rintro _ _ ⟨rfl, rfl⟩
      conv => whnf
      refine ACmp.yes (by simp) ?_; conv => whnf
      refine AArith.ok (by omega) (by omega) (rfl) ?_; conv => whnf
      have L7 := L5.sub (s6.trans s7)
      refine ACalls.mono (one_any _ (6, 2) (by simp) _ _) ?_; rintro _ h8 ⟨a8, c8, rfl, g8, s8⟩; conv => whnf
      refine ABuildSl.mk (0, 1) rfl rfl rfl rfl rfl rfl rfl fun b9 f9 => ?_; conv => whnf
      have s9 := f9.sub (row (0, 1) [I 4503599627370496, I ((n : Int) + 1), I 1, .slice a8 2 c8] 34)
      have X9 : Ents (h8.set b9 (row (0, 1) [I 4503599627370496, I ((n : Int) + 1), I 1, .slice a8 2 c8] 34)) (0, 1) (6, 2) (some ⟨b9, 0, none⟩) 1 1 [⟨4503599627370496, (n : Int) + 1, 1, a8, 2, c8, [b8 ((n : Int) + 1), b8 4503599627370496]⟩] :=
        Ents.one (Heap.set_same _ _ _) (Sl.sub g8 s9) (by simp)
      have happ9 : app (lastM 0 0 es) [⟨4503599627370496, (n : Int) + 1, 1, a8, 2, c8, [b8 ((n : Int) + 1), b8 4503599627370496]⟩] = 0 := by
        have hbn := tm_bd zs n
        rw [lastM_entsA hes]
        exact app_one (isNum_iff.2 (by simp only []; omega)) (isNum_iff.2 (by simp only []; omega)) (by simp only []; omega) (by simp only []; omega) (by simp only []; omega) (by simp only []) (by simp only []; split <;> omega)
      refine ACalls.mono (Append_ok (by omega) (L7.sub (s8.trans s9)) S (by simp) (by simp) X9 (by omega) happ9) ?_; rintro _ h10 ⟨rfl, es10, a10, c10, L10, habs10, k10⟩; conv => whnf
      refine ACmp.yes (by simp) ?_; conv => whnf
      exact ⟨rfl, hst.trans (hst3.trans ((k4.stays (by simp)).trans ((s5.trans ((s6.trans s7).trans (s8.trans s9))).stays.trans (k10.stays (by simp)))))⟩
    · refine ACmp.no (by omega) ?_; conv => whnf
      by_cases q1 : w5 = 1
      · subst q1
        refine ACmp.yes (by simp) ?_; conv => whnf
        refine AIdx.nat (z := 4) rfl hkn rfl rfl ?_; conv => whnf
        refine AStore.one rfl rfl rfl hb (by omega) ?_; conv => whnf
        obtain ⟨y', hyd⟩ : ∃ y' : EH, y' = { y with term := 0 } := ⟨_, rfl⟩
        obtain ⟨want, hwant⟩ : ∃ want : Int, want = 2 := ⟨_, rfl⟩
        have O3 := own_set (y := y') (v := I 0) hb hl hnc hc hal hy (j := 0) (by omega) (by rw [hyd]; rfl)
        have k3 : KeepT (2, 0) h2 (h2.set b (row (2, 0) (l.set (0 + k * 4) (I 0)) 34)) := KeepT.set hb
        rw [Nat.add_zero] at O3
        generalize h2.set b (row (2, 0) (l.set (0 + k * 4) (I 0)) 34) = h3 at O3 k3 ⊢
        have gy3 : y'.Good h3 (2, 2) := by rw [hyd]; exact Sl.keepT (X2.good y my) k3 (by simp)
        have hy3n : y'.n ≤ 4611686018427387904 := by rw [hyd]; simp only []; omega
        have hchk : chk y' ((k : Int), if k = 0 then 0 else tm zs k) = want := by
          rw [hwant, hyd]
          exact chk_arg (.inl (by simp [isNum]))
        have hwn : want ≠ 0 := by rw [hwant]; decide
        have M3 := M2.sub (Sub.refl h2) |>.move3 k3
        have L3 := (L.sub s2).move3 k3
        have hgood3 : ∀ e ∈ all.set k y', e.Good h3 (2, 2) := fun e he => by
          rcases List.mem_or_eq_of_mem_set he with he | rfl
          · exact Sl.keepT (X2.good e he) k3 (by simp)
          · exact gy3
        have X3 : Ents h3 (2, 0) (2, 2) (some ⟨b, 0, none⟩) n c2 (all.set k y') := ⟨O3.sl, hgood3, fun e he => by
          rcases List.mem_or_eq_of_mem_set he with he | rfl
          · exact X2.small e he
          · exact hy3n⟩
        have happ3 : app (lastM 0 0 []) (all.set k y') = want := app_at hall (by omega) hsm hkn y' want hchk hwn
        have hst3 : Stays h1 h3 := s2.stays.trans (k3.stays (by simp))
        refine ACalls.mono (Append_bad (by omega) M3 (Seq.nil (by omega) (by omega)) (by simp) (by simp) X3 (by simp; omega) (by rw [happ3]; exact hwn)) ?_
        rw [happ3, hwant]
        rintro _ _ ⟨rfl, rfl⟩
        conv => whnf
        refine ACmp.no (by simp) ?_; conv => whnf
        refine ACalls.mono (lawlast_yes M3 (by simp) (i := 0) (t := 0) rfl) ?_; rintro _ _ ⟨rfl, rfl⟩; conv => whnf
        refine ASlc.upto (z := 4) rfl (by omega) rfl rfl ?_; conv => whnf
        have htake : (all.set k y').take k = all.take k := by rw [List.take_set_of_le (Nat.le_refl _)]
        have X3t := X3.take (k := k) (by omega)
        rw [htake] at X3t
        have hall0 := take_entsA hall (show k ≤ n by omega)
        refine ACalls.mono (Append_ok (by omega) M3 (Seq.nil (by omega) (by omega)) (by simp) (by simp) X3t (by simp; omega) (app_entsA hall0 (by omega) (fun e he => hsm e (List.mem_of_mem_take he)))) ?_; rintro _ h4 ⟨rfl, es4, a4, c4, M4, habs4, k4⟩; conv => whnf
        rw [List.nil_append, hall0] at habs4
        refine ACmp.yes (by simp) ?_; conv => whnf
        have O4 : Own h4 (2, 0) 34 (some ⟨b, 0, none⟩) n c2 4 (encs (all.set k y')) := O3.move fun _ _ x => k4 _ _ _ (by simp) x
        have X4 := X3.keep k4 (by simp) (by simp)
        have hy' : (all.set k y')[k]? = some y' := by rw [List.getElem?_set]; simp; omega
        obtain ⟨b', off', l', E', fz', hbb, hb', hc'⟩ := O4.sl.pos (by omega)
        cases hbb
        have g' : (l'.drop (0 + k * 4)).take 4 = y'.cells := by rw [part_of_take hc' (by omega), encs_part hy']
        refine AIdx.nat (z := 4) rfl hkn rfl rfl ?_; conv => whnf
        refine ALoad.agg rfl hb' g' rfl ?_; conv => whnf
        refine ABuildSl.mk (0, 1) rfl rfl rfl rfl rfl rfl rfl fun b5 f5 => ?_; conv => whnf
        have s5 := f5.sub (row (0, 1) [I y'.term, I y'.index, I y'.kind, .slice y'.a y'.n y'.c] 34)
        have X5 : Ents (h4.set b5 (row (0, 1) [I y'.term, I y'.index, I y'.kind, .slice y'.a y'.n y'.c] 34)) (0, 1) (2, 2) (some ⟨b5, 0, none⟩) 1 1 [y'] :=
          ⟨⟨rfl, Nat.le_refl _, .inr ⟨b5, 0, _, _, _, rfl, Heap.set_same _ _ _, by simp [encs, EH.cells]⟩⟩, by simp; exact Sl.sub (X4.good y' (List.mem_of_getElem? hy')) s5, by simp; exact hy3n⟩
        have S4 := seq_entsA habs4 (by omega)
        have hel4 : es4.length = k := by have := congrArg List.length habs4; simpa [entsA_len] using this
        have happ5 : app (lastM 0 0 es4) [y'] = want := by rw [lastM_entsA habs4, app, hchk, if_neg hwn]
        refine ACalls.mono (Append_bad (by omega) (M4.sub s5) S4 (by simp) (by simp) X5 (by omega) (by rw [happ5]; exact hwn)) ?_
        rw [happ5, hwant]
        rintro _ _ ⟨rfl, rfl⟩
        conv => whnf
        refine ACmp.yes (by simp) ?_; conv => whnf
        refine AArith.ok (by omega) (by omega) (rfl) ?_; conv => whnf
        have L5 := (L3.keep k4 (by simp)).sub s5
        refine ACalls.mono (one_any _ (6, 2) (by simp) _ _) ?_; rintro _ h6 ⟨a6, c6, rfl, g6, s6⟩; conv => whnf
        refine ABuildSl.mk (0, 1) rfl rfl rfl rfl rfl rfl rfl fun b7 f7 => ?_; conv => whnf
        have s7 := f7.sub (row (0, 1) [I 4503599627370496, I ((n : Int) + 2), I 1, .slice a6 2 c6] 34)
        have X7 : Ents (h6.set b7 (row (0, 1) [I 4503599627370496, I ((n : Int) + 2), I 1, .slice a6 2 c6] 34)) (0, 1) (6, 2) (some ⟨b7, 0, none⟩) 1 1 [⟨4503599627370496, (n : Int) + 2, 1, a6, 2, c6, [b8 ((n : Int) + 2), b8 4503599627370496]⟩] :=
          Ents.one (Heap.set_same _ _ _) (Sl.sub g6 s7) (by simp)
        have happ7 : app (lastM 0 0 es) [⟨4503599627370496, (n : Int) + 2, 1, a6, 2, c6, [b8 ((n : Int) + 2), b8 4503599627370496]⟩] = 170 := by
          have hcg : chk ⟨4503599627370496, (n : Int) + 2, 1, a6, 2, c6, [b8 ((n : Int) + 2), b8 4503599627370496]⟩ (lastM 0 0 es) = 170 := by
            rw [lastM_entsA hes]
            exact chk_gap (isNum_iff.2 (by simp only []; omega)) (isNum_iff.2 (by simp only []; omega)) (by simp only []; omega) (by simp only []; omega) (by simp only []; omega) (by simp only []; omega)
          rw [app, hcg]; simp
        refine ACalls.mono (Append_bad (by omega) (L5.sub (s6.trans s7)) S (by simp) (by simp) X7 (by omega) (by rw [happ7]; decide)) ?_
        rw [happ7]
        rintro _ _ ⟨rfl, rfl⟩
        conv => whnf
        refine ACmp.yes (by simp) ?_; conv => whnf
        refine AArith.ok (by omega) (by omega) (rfl) ?_; conv => whnf
        have L7 := L5.sub (s6.trans s7)
        refine ACalls.mono (one_any _ (6, 2) (by simp) _ _) ?_; rintro _ h8 ⟨a8, c8, rfl, g8, s8⟩; conv => whnf
        refine ABuildSl.mk (0, 1) rfl rfl rfl rfl rfl rfl rfl fun b9 f9 => ?_; conv => whnf
        have s9 := f9.sub (row (0, 1) [I 4503599627370496, I ((n : Int) + 1), I 1, .slice a8 2 c8] 34)
        have X9 : Ents (h8.set b9 (row (0, 1) [I 4503599627370496, I ((n : Int) + 1), I 1, .slice a8 2 c8] 34)) (0, 1) (6, 2) (some ⟨b9, 0, none⟩) 1 1 [⟨4503599627370496, (n : Int) + 1, 1, a8, 2, c8, [b8 ((n : Int) + 1), b8 4503599627370496]⟩] :=
          Ents.one (Heap.set_same _ _ _) (Sl.sub g8 s9) (by simp)
        have happ9 : app (lastM 0 0 es) [⟨4503599627370496, (n : Int) + 1, 1, a8, 2, c8, [b8 ((n : Int) + 1), b8 4503599627370496]⟩] = 0 := by
          have hbn := tm_bd zs n
          rw [lastM_entsA hes]
          exact app_one (isNum_iff.2 (by simp only []; omega)) (isNum_iff.2 (by simp only []; omega)) (by simp only []; omega) (by simp only []; omega) (by simp only []; omega) (by simp only []) (by simp only []; split <;> omega)
        refine ACalls.mono (Append_ok (by omega) (L7.sub (s8.trans s9)) S (by simp) (by simp) X9 (by omega) happ9) ?_; rintro _ h10 ⟨rfl, es10, a10, c10, L10, habs10, k10⟩; conv => whnf
        refine ACmp.yes (by simp) ?_; conv => whnf
        exact ⟨rfl, hst.trans (hst3.trans ((k4.stays (by simp)).trans ((s5.trans ((s6.trans s7).trans (s8.trans s9))).stays.trans (k10.stays (by simp)))))⟩
      · refine ACmp.no (by omega) ?_; conv => whnf
        by_cases q2 : w5 = 2
        · subst q2
          refine ACmp.yes (by simp) ?_; conv => whnf
          refine AIdx.nat (z := 4) rfl hkn rfl rfl ?_; conv => whnf
          refine AStore.one rfl rfl rfl hb (by omega) ?_; conv => whnf
          obtain ⟨y', hyd⟩ : ∃ y' : EH, y' = { y with kind := 3 } := ⟨_, rfl⟩
          obtain ⟨want, hwant⟩ : ∃ want : Int, want = 2 := ⟨_, rfl⟩
          have O3 := own_set (y := y') (v := I 3) hb hl hnc hc hal hy (j := 2) (by omega) (by rw [hyd]; rfl)
          have k3 : KeepT (2, 0) h2 (h2.set b (row (2, 0) (l.set (0 + k * 4 + 2) (I 3)) 34)) := KeepT.set hb
          generalize h2.set b (row (2, 0) (l.set (0 + k * 4 + 2) (I 3)) 34) = h3 at O3 k3 ⊢
          have gy3 : y'.Good h3 (2, 2) := by rw [hyd]; exact Sl.keepT (X2.good y my) k3 (by simp)
          have hy3n : y'.n ≤ 4611686018427387904 := by rw [hyd]; simp only []; omega
          have hchk : chk y' ((k : Int), if k = 0 then 0 else tm zs k) = want := by
            rw [hwant, hyd]
            exact chk_arg (.inr (.inr (.inr (.inl (by simp only []; omega)))))
          have hwn : want ≠ 0 := by rw [hwant]; decide
          have M3 := M2.sub (Sub.refl h2) |>.move3 k3
          have L3 := (L.sub s2).move3 k3
          have hgood3 : ∀ e ∈ all.set k y', e.Good h3 (2, 2) := fun e he => by
            rcases List.mem_or_eq_of_mem_set he with he | rfl
            · exact Sl.keepT (X2.good e he) k3 (by simp)
            · exact gy3
          have X3 : Ents h3 (2, 0) (2, 2) (some ⟨b, 0, none⟩) n c2 (all.set k y') := ⟨O3.sl, hgood3, fun e he => by
            rcases List.mem_or_eq_of_mem_set he with he | rfl
            · exact X2.small e he
            · exact hy3n⟩
          have happ3 : app (lastM 0 0 []) (all.set k y') = want := app_at hall (by omega) hsm hkn y' want hchk hwn
          have hst3 : Stays h1 h3 := s2.stays.trans (k3.stays (by simp))
          refine ACalls.mono (Append_bad (by omega) M3 (Seq.nil (by omega) (by omega)) (by simp) (by simp) X3 (by simp; omega) (by rw [happ3]; exact hwn)) ?_
          rw [happ3, hwant]
          rintro _ _ ⟨rfl, rfl⟩
          conv => whnf
          refine ACmp.no (by simp) ?_; conv => whnf
          refine ACalls.mono (lawlast_yes M3 (by simp) (i := 0) (t := 0) rfl) ?_; rintro _ _ ⟨rfl, rfl⟩; conv => whnf
          refine ASlc.upto (z := 4) rfl (by omega) rfl rfl ?_; conv => whnf
          have htake : (all.set k y').take k = all.take k := by rw [List.take_set_of_le (Nat.le_refl _)]
          have X3t := X3.take (k := k) (by omega)
          rw [htake] at X3t
          have hall0 := take_entsA hall (show k ≤ n by omega)
          refine ACalls.mono (Append_ok (by omega) M3 (Seq.nil (by omega) (by omega)) (by simp) (by simp) X3t (by simp; omega) (app_entsA hall0 (by omega) (fun e he => hsm e (List.mem_of_mem_take he)))) ?_; rintro _ h4 ⟨rfl, es4, a4, c4, M4, habs4, k4⟩; conv => whnf
          rw [List.nil_append, hall0] at habs4
          refine ACmp.yes (by simp) ?_; conv => whnf
          have O4 : Own h4 (2, 0) 34 (some ⟨b, 0, none⟩) n c2 4 (encs (all.set k y')) := O3.move fun _ _ x => k4 _ _ _ (by simp) x
          have X4 := X3.keep k4 (by simp) (by simp)
          have hy' : (all.set k y')[k]? = some y' := by rw [List.getElem?_set]; simp; omega
          obtain ⟨b', off', l', E', fz', hbb, hb', hc'⟩ := O4.sl.pos (by omega)
          cases hbb
          have g' : (l'.drop (0 + k * 4)).take 4 = y'.cells := by rw [part_of_take hc' (by omega), encs_part hy']
          refine AIdx.nat (z := 4) rfl hkn rfl rfl ?_; conv => whnf
          refine ALoad.agg rfl hb' g' rfl ?_; conv => whnf
          refine ABuildSl.mk (0, 1) rfl rfl rfl rfl rfl rfl rfl fun b5 f5 => ?_; conv => whnf
          have s5 := f5.sub (row (0, 1) [I y'.term, I y'.index, I y'.kind, .slice y'.a y'.n y'.c] 34)
          have X5 : Ents (h4.set b5 (row (0, 1) [I y'.term, I y'.index, I y'.kind, .slice y'.a y'.n y'.c] 34)) (0, 1) (2, 2) (some ⟨b5, 0, none⟩) 1 1 [y'] :=
            ⟨⟨rfl, Nat.le_refl _, .inr ⟨b5, 0, _, _, _, rfl, Heap.set_same _ _ _, by simp [encs, EH.cells]⟩⟩, by simp; exact Sl.sub (X4.good y' (List.mem_of_getElem? hy')) s5, by simp; exact hy3n⟩
          have S4 := seq_entsA habs4 (by omega)
          have hel4 : es4.length = k := by have := congrArg List.length habs4; simpa [entsA_len] using this
          have happ5 : app (lastM 0 0 es4) [y'] = want := by rw [lastM_entsA habs4, app, hchk, if_neg hwn]
          refine ACalls.mono (Append_bad (by omega) (M4.sub s5) S4 (by simp) (by simp) X5 (by omega) (by rw [happ5]; exact hwn)) ?_
          rw [happ5, hwant]
          rintro _ _ ⟨rfl, rfl⟩
          conv => whnf
          refine ACmp.yes (by simp) ?_; conv => whnf
          refine AArith.ok (by omega) (by omega) (rfl) ?_; conv => whnf
          have L5 := (L3.keep k4 (by simp)).sub s5
          refine ACalls.mono (one_any _ (6, 2) (by simp) _ _) ?_; rintro _ h6 ⟨a6, c6, rfl, g6, s6⟩; conv => whnf
          refine ABuildSl.mk (0, 1) rfl rfl rfl rfl rfl rfl rfl fun b7 f7 => ?_; conv => whnf
          have s7 := f7.sub (row (0, 1) [I 4503599627370496, I ((n : Int) + 2), I 1, .slice a6 2 c6] 34)
          have X7 : Ents (h6.set b7 (row (0, 1) [I 4503599627370496, I ((n : Int) + 2), I 1, .slice a6 2 c6] 34)) (0, 1) (6, 2) (some ⟨b7, 0, none⟩) 1 1 [⟨4503599627370496, (n : Int) + 2, 1, a6, 2, c6, [b8 ((n : Int) + 2), b8 4503599627370496]⟩] :=
            Ents.one (Heap.set_same _ _ _) (Sl.sub g6 s7) (by simp)
          have happ7 : app (lastM 0 0 es) [⟨4503599627370496, (n : Int) + 2, 1, a6, 2, c6, [b8 ((n : Int) + 2), b8 4503599627370496]⟩] = 170 := by
            have hcg : chk ⟨4503599627370496, (n : Int) + 2, 1, a6, 2, c6, [b8 ((n : Int) + 2), b8 4503599627370496]⟩ (lastM 0 0 es) = 170 := by
              rw [lastM_entsA hes]
              exact chk_gap (isNum_iff.2 (by simp only []; omega)) (isNum_iff.2 (by simp only []; omega)) (by simp only []; omega) (by simp only []; omega) (by simp only []; omega) (by simp only []; omega)
            rw [app, hcg]; simp
          refine ACalls.mono (Append_bad (by omega) (L5.sub (s6.trans s7)) S (by simp) (by simp) X7 (by omega) (by rw [happ7]; decide)) ?_
          rw [happ7]
          rintro _ _ ⟨rfl, rfl⟩
          conv => whnf
          refine ACmp.yes (by simp) ?_; conv => whnf
          refine AArith.ok (by omega) (by omega) (rfl) ?_; conv => whnf
          have L7 := L5.sub (s6.trans s7)
          refine ACalls.mono (one_any _ (6, 2) (by simp) _ _) ?_; rintro _ h8 ⟨a8, c8, rfl, g8, s8⟩; conv => whnf
          refine ABuildSl.mk (0, 1) rfl rfl rfl rfl rfl rfl rfl fun b9 f9 => ?_; conv => whnf
          have s9 := f9.sub (row (0, 1) [I 4503599627370496, I ((n : Int) + 1), I 1, .slice a8 2 c8] 34)
          have X9 : Ents (h8.set b9 (row (0, 1) [I 4503599627370496, I ((n : Int) + 1), I 1, .slice a8 2 c8] 34)) (0, 1) (6, 2) (some ⟨b9, 0, none⟩) 1 1 [⟨4503599627370496, (n : Int) + 1, 1, a8, 2, c8, [b8 ((n : Int) + 1), b8 4503599627370496]⟩] :=
            Ents.one (Heap.set_same _ _ _) (Sl.sub g8 s9) (by simp)
          have happ9 : app (lastM 0 0 es) [⟨4503599627370496, (n : Int) + 1, 1, a8, 2, c8, [b8 ((n : Int) + 1), b8 4503599627370496]⟩] = 0 := by
            have hbn := tm_bd zs n
            rw [lastM_entsA hes]
            exact app_one (isNum_iff.2 (by simp only []; omega)) (isNum_iff.2 (by simp only []; omega)) (by simp only []; omega) (by simp only []; omega) (by simp only []; omega) (by simp only []) (by simp only []; split <;> omega)
          refine ACalls.mono (Append_ok (by omega) (L7.sub (s8.trans s9)) S (by simp) (by simp) X9 (by omega) happ9) ?_; rintro _ h10 ⟨rfl, es10, a10, c10, L10, habs10, k10⟩; conv => whnf
          refine ACmp.yes (by simp) ?_; conv => whnf
          exact ⟨rfl, hst.trans (hst3.trans ((k4.stays (by simp)).trans ((s5.trans ((s6.trans s7).trans (s8.trans s9))).stays.trans (k10.stays (by simp)))))⟩
        · refine ACmp.no (by omega) ?_; conv => whnf
          by_cases q3 : w5 = 3
          · subst q3
            refine ACmp.yes (by simp) ?_; conv => whnf
            by_cases hk0 : k = 0
            · refine ACmp.yes (by omega) ?_; conv => whnf
              exact ⟨rfl, hst.trans s2.stays⟩
            · refine ACmp.no (by omega) ?_; conv => whnf
              obtain ⟨kk, hkk⟩ : ∃ kk, k = kk + 1 := ⟨k - 1, by omega⟩
              obtain ⟨x, hx⟩ : ∃ x, all[kk]? = some x := ⟨all[kk]'(by omega), by simp⟩
              have hxa := (get_entsA hall hx).1
              simp only [EH.abs, entA, Prod.mk.injEq] at hxa
              have gx : l[0 + kk * 4]? = some (I x.term) := by
                have h1 : (l.drop 0).take (n * 4) = encs all := by simpa using hc
                rw [get_of_take h1 (by omega)]; exact (encs_get (j := 0) hx (by omega))
              refine AArith.ok (by omega) (by omega) (rfl) ?_; conv => whnf
              refine AIdx.nat (z := 4) (j := kk) (by omega) (by omega) rfl rfl ?_; conv => whnf
              refine ALoad.one rfl hb gx ?_; conv => whnf
              have hbk := tm_bd zs (kk + 1)
              refine AArith.ok (by omega) (by omega) (rfl) ?_; conv => whnf
              refine AIdx.nat (z := 4) rfl hkn rfl rfl ?_; conv => whnf
              refine AStore.one rfl rfl rfl hb (by omega) ?_; conv => whnf
              obtain ⟨y', hyd⟩ : ∃ y' : EH, y' = { y with term := x.term - 1 } := ⟨_, rfl⟩
              obtain ⟨want, hwant⟩ : ∃ want : Int, want = 2 := ⟨_, rfl⟩
              have O3 := own_set (y := y') (v := I (x.term - 1)) hb hl hnc hc hal hy (j := 0) (by omega) (by rw [hyd]; rfl)
              have k3 : KeepT (2, 0) h2 (h2.set b (row (2, 0) (l.set (0 + k * 4) (I (x.term - 1))) 34)) := KeepT.set hb
              rw [Nat.add_zero] at O3
              generalize h2.set b (row (2, 0) (l.set (0 + k * 4) (I (x.term - 1))) 34) = h3 at O3 k3 ⊢
              have gy3 : y'.Good h3 (2, 2) := by rw [hyd]; exact Sl.keepT (X2.good y my) k3 (by simp)
              have hy3n : y'.n ≤ 4611686018427387904 := by rw [hyd]; simp only []; omega
              have hchk : chk y' ((k : Int), if k = 0 then 0 else tm zs k) = want := by
                rw [hwant, hyd]
                refine chk_low (by simp only []; omega) ?_
                simp only []
                rw [if_neg hk0, hkk, hxa.1]; omega
              have hwn : want ≠ 0 := by rw [hwant]; decide
              have M3 := M2.sub (Sub.refl h2) |>.move3 k3
              have L3 := (L.sub s2).move3 k3
              have hgood3 : ∀ e ∈ all.set k y', e.Good h3 (2, 2) := fun e he => by
                rcases List.mem_or_eq_of_mem_set he with he | rfl
                · exact Sl.keepT (X2.good e he) k3 (by simp)
                · exact gy3
              have X3 : Ents h3 (2, 0) (2, 2) (some ⟨b, 0, none⟩) n c2 (all.set k y') := ⟨O3.sl, hgood3, fun e he => by
                rcases List.mem_or_eq_of_mem_set he with he | rfl
                · exact X2.small e he
                · exact hy3n⟩
              have happ3 : app (lastM 0 0 []) (all.set k y') = want := app_at hall (by omega) hsm hkn y' want hchk hwn
              have hst3 : Stays h1 h3 := s2.stays.trans (k3.stays (by simp))
              refine ACalls.mono (Append_bad (by omega) M3 (Seq.nil (by omega) (by omega)) (by simp) (by simp) X3 (by simp; omega) (by rw [happ3]; exact hwn)) ?_
              rw [happ3, hwant]
              rintro _ _ ⟨rfl, rfl⟩
              conv => whnf
              refine ACmp.no (by simp) ?_; conv => whnf
              refine ACalls.mono (lawlast_yes M3 (by simp) (i := 0) (t := 0) rfl) ?_; rintro _ _ ⟨rfl, rfl⟩; conv => whnf
              refine ASlc.upto (z := 4) rfl (by omega) rfl rfl ?_; conv => whnf
              have htake : (all.set k y').take k = all.take k := by rw [List.take_set_of_le (Nat.le_refl _)]
              have X3t := X3.take (k := k) (by omega)
              rw [htake] at X3t
              have hall0 := take_entsA hall (show k ≤ n by omega)
              refine ACalls.mono (Append_ok (by omega) M3 (Seq.nil (by omega) (by omega)) (by simp) (by simp) X3t (by simp; omega) (app_entsA hall0 (by omega) (fun e he => hsm e (List.mem_of_mem_take he)))) ?_; rintro _ h4 ⟨rfl, es4, a4, c4, M4, habs4, k4⟩; conv => whnf
              rw [List.nil_append, hall0] at habs4
              refine ACmp.yes (by simp) ?_; conv => whnf
              have O4 : Own h4 (2, 0) 34 (some ⟨b, 0, none⟩) n c2 4 (encs (all.set k y')) := O3.move fun _ _ x => k4 _ _ _ (by simp) x
              have X4 := X3.keep k4 (by simp) (by simp)
              have hy' : (all.set k y')[k]? = some y' := by rw [List.getElem?_set]; simp; omega
              obtain ⟨b', off', l', E', fz', hbb, hb', hc'⟩ := O4.sl.pos (by omega)
              cases hbb
              have g' : (l'.drop (0 + k * 4)).take 4 = y'.cells := by rw [part_of_take hc' (by omega), encs_part hy']
              refine AIdx.nat (z := 4) rfl hkn rfl rfl ?_; conv => whnf
              refine ALoad.agg rfl hb' g' rfl ?_; conv => whnf
              refine ABuildSl.mk (0, 1) rfl rfl rfl rfl rfl rfl rfl fun b5 f5 => ?_; conv => whnf
              have s5 := f5.sub (row (0, 1) [I y'.term, I y'.index, I y'.kind, .slice y'.a y'.n y'.c] 34)
              have X5 : Ents (h4.set b5 (row (0, 1) [I y'.term, I y'.index, I y'.kind, .slice y'.a y'.n y'.c] 34)) (0, 1) (2, 2) (some ⟨b5, 0, none⟩) 1 1 [y'] :=
                ⟨⟨rfl, Nat.le_refl _, .inr ⟨b5, 0, _, _, _, rfl, Heap.set_same _ _ _, by simp [encs, EH.cells]⟩⟩, by simp; exact Sl.sub (X4.good y' (List.mem_of_getElem? hy')) s5, by simp; exact hy3n⟩
              have S4 := seq_entsA habs4 (by omega)
              have hel4 : es4.length = k := by have := congrArg List.length habs4; simpa [entsA_len] using this
              have happ5 : app (lastM 0 0 es4) [y'] = want := by rw [lastM_entsA habs4, app, hchk, if_neg hwn]
              refine ACalls.mono (Append_bad (by omega) (M4.sub s5) S4 (by simp) (by simp) X5 (by omega) (by rw [happ5]; exact hwn)) ?_
              rw [happ5, hwant]
              rintro _ _ ⟨rfl, rfl⟩
              conv => whnf
              refine ACmp.yes (by simp) ?_; conv => whnf
              refine AArith.ok (by omega) (by omega) (rfl) ?_; conv => whnf
              have L5 := (L3.keep k4 (by simp)).sub s5
              refine ACalls.mono (one_any _ (6, 2) (by simp) _ _) ?_; rintro _ h6 ⟨a6, c6, rfl, g6, s6⟩; conv => whnf
              refine ABuildSl.mk (0, 1) rfl rfl rfl rfl rfl rfl rfl fun b7 f7 => ?_; conv => whnf
              have s7 := f7.sub (row (0, 1) [I 4503599627370496, I ((n : Int) + 2), I 1, .slice a6 2 c6] 34)
              have X7 : Ents (h6.set b7 (row (0, 1) [I 4503599627370496, I ((n : Int) + 2), I 1, .slice a6 2 c6] 34)) (0, 1) (6, 2) (some ⟨b7, 0, none⟩) 1 1 [⟨4503599627370496, (n : Int) + 2, 1, a6, 2, c6, [b8 ((n : Int) + 2), b8 4503599627370496]⟩] :=
                Ents.one (Heap.set_same _ _ _) (Sl.sub g6 s7) (by simp)
              have happ7 : app (lastM 0 0 es) [⟨4503599627370496, (n : Int) + 2, 1, a6, 2, c6, [b8 ((n : Int) + 2), b8 4503599627370496]⟩] = 170 := by
                have hcg : chk ⟨4503599627370496, (n : Int) + 2, 1, a6, 2, c6, [b8 ((n : Int) + 2), b8 4503599627370496]⟩ (lastM 0 0 es) = 170 := by
                  rw [lastM_entsA hes]
                  exact chk_gap (isNum_iff.2 (by simp only []; omega)) (isNum_iff.2 (by simp only []; omega)) (by simp only []; omega) (by simp only []; omega) (by simp only []; omega) (by simp only []; omega)
                rw [app, hcg]; simp
              refine ACalls.mono (Append_bad (by omega) (L5.sub (s6.trans s7)) S (by simp) (by simp) X7 (by omega) (by rw [happ7]; decide)) ?_
              rw [happ7]
              rintro _ _ ⟨rfl, rfl⟩
              conv => whnf
              refine ACmp.yes (by simp) ?_; conv => whnf
              refine AArith.ok (by omega) (by omega) (rfl) ?_; conv => whnf
              have L7 := L5.sub (s6.trans s7)
              refine ACalls.mono (one_any _ (6, 2) (by simp) _ _) ?_; rintro _ h8 ⟨a8, c8, rfl, g8, s8⟩; conv => whnf
              refine ABuildSl.mk (0, 1) rfl rfl rfl rfl rfl rfl rfl fun b9 f9 => ?_; conv => whnf
              have s9 := f9.sub (row (0, 1) [I 4503599627370496, I ((n : Int) + 1), I 1, .slice a8 2 c8] 34)
              have X9 : Ents (h8.set b9 (row (0, 1) [I 4503599627370496, I ((n : Int) + 1), I 1, .slice a8 2 c8] 34)) (0, 1) (6, 2) (some ⟨b9, 0, none⟩) 1 1 [⟨4503599627370496, (n : Int) + 1, 1, a8, 2, c8, [b8 ((n : Int) + 1), b8 4503599627370496]⟩] :=
                Ents.one (Heap.set_same _ _ _) (Sl.sub g8 s9) (by simp)
              have happ9 : app (lastM 0 0 es) [⟨4503599627370496, (n : Int) + 1, 1, a8, 2, c8, [b8 ((n : Int) + 1), b8 4503599627370496]⟩] = 0 := by
                have hbn := tm_bd zs n
                rw [lastM_entsA hes]
                exact app_one (isNum_iff.2 (by simp only []; omega)) (isNum_iff.2 (by simp only []; omega)) (by simp only []; omega) (by simp only []; omega) (by simp only []; omega) (by simp only []) (by simp only []; split <;> omega)
              refine ACalls.mono (Append_ok (by omega) (L7.sub (s8.trans s9)) S (by simp) (by simp) X9 (by omega) happ9) ?_; rintro _ h10 ⟨rfl, es10, a10, c10, L10, habs10, k10⟩; conv => whnf
              refine ACmp.yes (by simp) ?_; conv => whnf
              exact ⟨rfl, hst.trans (hst3.trans ((k4.stays (by simp)).trans ((s5.trans ((s6.trans s7).trans (s8.trans s9))).stays.trans (k10.stays (by simp)))))⟩
          · refine ACmp.no (by omega) ?_; conv => whnf
            refine AMakeSl.mk (z := 1) (by_ := 1) (n := 1201) (zero := [.int .u8 0]) (2, 2) rfl rfl rfl rfl rfl (by omega) (by rfl) (by rfl) (by omega) (by omega) fun bd fd => ?_; conv => whnf
            refine AIdx.nat (z := 4) rfl hkn rfl rfl ?_; conv => whnf
            have hbd : h2 b ≠ none := by rw [hb]; simp
            have hbd' := fd.sub (row (2, 2) (List.replicate 1201 [Value.int .u8 0]).flatten 5) _ _ hb
            refine AStore.one rfl rfl rfl hbd' (by omega) ?_; conv => whnf
            obtain ⟨y', hyd⟩ : ∃ y' : EH, y' = { y with a := some ⟨bd, 0, none⟩, n := 1201, c := 1201, data := List.replicate 1201 0 } := ⟨_, rfl⟩
            obtain ⟨want, hwant⟩ : ∃ want : Int, want = 2 := ⟨_, rfl⟩
            have O3 := own_set (y := y') (v := .slice (some ⟨bd, 0, none⟩) 1201 1201) hbd' hl hnc hc hal hy (j := 3) (by omega) (by rw [hyd]; rfl)
            have k3 : KeepT (2, 0) h2 ((h2.set bd (row (2, 2) (List.replicate 1201 [Value.int .u8 0]).flatten 5)).set b (row (2, 0) (l.set (0 + k * 4 + 3) (.slice (some ⟨bd, 0, none⟩) 1201 1201)) 34)) :=
              ((fd.sub _).keepT _).trans (KeepT.set hbd')
            have hdat : ((h2.set bd (row (2, 2) (List.replicate 1201 [Value.int .u8 0]).flatten 5)).set b (row (2, 0) (l.set (0 + k * 4 + 3) (.slice (some ⟨bd, 0, none⟩) 1201 1201)) 34)) bd = some (row (2, 2) (List.replicate 1201 [Value.int .u8 0]).flatten 5) :=
              (KeepT.set hbd').get (by simp) (Heap.set_same _ _ _)
            generalize (h2.set bd (row (2, 2) (List.replicate 1201 [Value.int .u8 0]).flatten 5)).set b (row (2, 0) (l.set (0 + k * 4 + 3) (.slice (some ⟨bd, 0, none⟩) 1201 1201)) 34) = h3 at O3 k3 hdat ⊢
            have gy3 : y'.Good h3 (2, 2) := by
              rw [hyd]
              exact sl_rep hdat
            have hy3n : y'.n ≤ 4611686018427387904 := by rw [hyd]; simp only []; omega
            have hchk : chk y' ((k : Int), if k = 0 then 0 else tm zs k) = want := by
              rw [hwant, hyd]
              exact chk_arg (.inr (.inr (.inr (.inr (by simp only []; omega)))))
            have hwn : want ≠ 0 := by rw [hwant]; decide
            have M3 := M2.sub (Sub.refl h2) |>.move3 k3
            have L3 := (L.sub s2).move3 k3
            have hgood3 : ∀ e ∈ all.set k y', e.Good h3 (2, 2) := fun e he => by
              rcases List.mem_or_eq_of_mem_set he with he | rfl
              · exact Sl.keepT (X2.good e he) k3 (by simp)
              · exact gy3
            have X3 : Ents h3 (2, 0) (2, 2) (some ⟨b, 0, none⟩) n c2 (all.set k y') := ⟨O3.sl, hgood3, fun e he => by
              rcases List.mem_or_eq_of_mem_set he with he | rfl
              · exact X2.small e he
              · exact hy3n⟩
            have happ3 : app (lastM 0 0 []) (all.set k y') = want := app_at hall (by omega) hsm hkn y' want hchk hwn
            have hst3 : Stays h1 h3 := s2.stays.trans (k3.stays (by simp))
            refine ACalls.mono (Append_bad (by omega) M3 (Seq.nil (by omega) (by omega)) (by simp) (by simp) X3 (by simp; omega) (by rw [happ3]; exact hwn)) ?_
            rw [happ3, hwant]
            rintro _ _ ⟨rfl, rfl⟩
            conv => whnf
            refine ACmp.no (by simp) ?_; conv => whnf
            refine ACalls.mono (lawlast_yes M3 (by simp) (i := 0) (t := 0) rfl) ?_; rintro _ _ ⟨rfl, rfl⟩; conv => whnf
            refine ASlc.upto (z := 4) rfl (by omega) rfl rfl ?_; conv => whnf
            have htake : (all.set k y').take k = all.take k := by rw [List.take_set_of_le (Nat.le_refl _)]
            have X3t := X3.take (k := k) (by omega)
            rw [htake] at X3t
            have hall0 := take_entsA hall (show k ≤ n by omega)
            refine ACalls.mono (Append_ok (by omega) M3 (Seq.nil (by omega) (by omega)) (by simp) (by simp) X3t (by simp; omega) (app_entsA hall0 (by omega) (fun e he => hsm e (List.mem_of_mem_take he)))) ?_; rintro _ h4 ⟨rfl, es4, a4, c4, M4, habs4, k4⟩; conv => whnf
            rw [List.nil_append, hall0] at habs4
            refine ACmp.yes (by simp) ?_; conv => whnf
            have O4 : Own h4 (2, 0) 34 (some ⟨b, 0, none⟩) n c2 4 (encs (all.set k y')) := O3.move fun _ _ x => k4 _ _ _ (by simp) x
            have X4 := X3.keep k4 (by simp) (by simp)
            have hy' : (all.set k y')[k]? = some y' := by rw [List.getElem?_set]; simp; omega
            obtain ⟨b', off', l', E', fz', hbb, hb', hc'⟩ := O4.sl.pos (by omega)
            cases hbb
            have g' : (l'.drop (0 + k * 4)).take 4 = y'.cells := by rw [part_of_take hc' (by omega), encs_part hy']
            refine AIdx.nat (z := 4) rfl hkn rfl rfl ?_; conv => whnf
            refine ALoad.agg rfl hb' g' rfl ?_; conv => whnf
            refine ABuildSl.mk (0, 1) rfl rfl rfl rfl rfl rfl rfl fun b5 f5 => ?_; conv => whnf
            have s5 := f5.sub (row (0, 1) [I y'.term, I y'.index, I y'.kind, .slice y'.a y'.n y'.c] 34)
            have X5 : Ents (h4.set b5 (row (0, 1) [I y'.term, I y'.index, I y'.kind, .slice y'.a y'.n y'.c] 34)) (0, 1) (2, 2) (some ⟨b5, 0, none⟩) 1 1 [y'] :=
              ⟨⟨rfl, Nat.le_refl _, .inr ⟨b5, 0, _, _, _, rfl, Heap.set_same _ _ _, by simp [encs, EH.cells]⟩⟩, by simp; exact Sl.sub (X4.good y' (List.mem_of_getElem? hy')) s5, by simp; exact hy3n⟩
            have S4 := seq_entsA habs4 (by omega)
            have hel4 : es4.length = k := by have := congrArg List.length habs4; simpa [entsA_len] using this
            have happ5 : app (lastM 0 0 es4) [y'] = want := by rw [lastM_entsA habs4, app, hchk, if_neg hwn]
            refine ACalls.mono (Append_bad (by omega) (M4.sub s5) S4 (by simp) (by simp) X5 (by omega) (by rw [happ5]; exact hwn)) ?_
            rw [happ5, hwant]
            rintro _ _ ⟨rfl, rfl⟩
            conv => whnf
            refine ACmp.yes (by simp) ?_; conv => whnf
            refine AArith.ok (by omega) (by omega) (rfl) ?_; conv => whnf
            have L5 := (L3.keep k4 (by simp)).sub s5
            refine ACalls.mono (one_any _ (6, 2) (by simp) _ _) ?_; rintro _ h6 ⟨a6, c6, rfl, g6, s6⟩; conv => whnf
            refine ABuildSl.mk (0, 1) rfl rfl rfl rfl rfl rfl rfl fun b7 f7 => ?_; conv => whnf
            have s7 := f7.sub (row (0, 1) [I 4503599627370496, I ((n : Int) + 2), I 1, .slice a6 2 c6] 34)
            have X7 : Ents (h6.set b7 (row (0, 1) [I 4503599627370496, I ((n : Int) + 2), I 1, .slice a6 2 c6] 34)) (0, 1) (6, 2) (some ⟨b7, 0, none⟩) 1 1 [⟨4503599627370496, (n : Int) + 2, 1, a6, 2, c6, [b8 ((n : Int) + 2), b8 4503599627370496]⟩] :=
              Ents.one (Heap.set_same _ _ _) (Sl.sub g6 s7) (by simp)
            have happ7 : app (lastM 0 0 es) [⟨4503599627370496, (n : Int) + 2, 1, a6, 2, c6, [b8 ((n : Int) + 2), b8 4503599627370496]⟩] = 170 := by
              have hcg : chk ⟨4503599627370496, (n : Int) + 2, 1, a6, 2, c6, [b8 ((n : Int) + 2), b8 4503599627370496]⟩ (lastM 0 0 es) = 170 := by
                rw [lastM_entsA hes]
                exact chk_gap (isNum_iff.2 (by simp only []; omega)) (isNum_iff.2 (by simp only []; omega)) (by simp only []; omega) (by simp only []; omega) (by simp only []; omega) (by simp only []; omega)
              rw [app, hcg]; simp
            refine ACalls.mono (Append_bad (by omega) (L5.sub (s6.trans s7)) S (by simp) (by simp) X7 (by omega) (by rw [happ7]; decide)) ?_
            rw [happ7]
            rintro _ _ ⟨rfl, rfl⟩
            conv => whnf
            refine ACmp.yes (by simp) ?_; conv => whnf
            refine AArith.ok (by omega) (by omega) (rfl) ?_; conv => whnf
            have L7 := L5.sub (s6.trans s7)
            refine ACalls.mono (one_any _ (6, 2) (by simp) _ _) ?_; rintro _ h8 ⟨a8, c8, rfl, g8, s8⟩; conv => whnf
            refine ABuildSl.mk (0, 1) rfl rfl rfl rfl rfl rfl rfl fun b9 f9 => ?_; conv => whnf
            have s9 := f9.sub (row (0, 1) [I 4503599627370496, I ((n : Int) + 1), I 1, .slice a8 2 c8] 34)
            have X9 : Ents (h8.set b9 (row (0, 1) [I 4503599627370496, I ((n : Int) + 1), I 1, .slice a8 2 c8] 34)) (0, 1) (6, 2) (some ⟨b9, 0, none⟩) 1 1 [⟨4503599627370496, (n : Int) + 1, 1, a8, 2, c8, [b8 ((n : Int) + 1), b8 4503599627370496]⟩] :=
              Ents.one (Heap.set_same _ _ _) (Sl.sub g8 s9) (by simp)
            have happ9 : app (lastM 0 0 es) [⟨4503599627370496, (n : Int) + 1, 1, a8, 2, c8, [b8 ((n : Int) + 1), b8 4503599627370496]⟩] = 0 := by
              have hbn := tm_bd zs n
              rw [lastM_entsA hes]
              exact app_one (isNum_iff.2 (by simp only []; omega)) (isNum_iff.2 (by simp only []; omega)) (by simp only []; omega) (by simp only []; omega) (by simp only []; omega) (by simp only []) (by simp only []; split <;> omega)
            refine ACalls.mono (Append_ok (by omega) (L7.sub (s8.trans s9)) S (by simp) (by simp) X9 (by omega) happ9) ?_; rintro _ h10 ⟨rfl, es10, a10, c10, L10, habs10, k10⟩; conv => whnf
            refine ACmp.yes (by simp) ?_; conv => whnf
            exact ⟨rfl, hst.trans (hst3.trans ((k4.stays (by simp)).trans ((s5.trans ((s6.trans s7).trans (s8.trans s9))).stays.trans (k10.stays (by simp)))))⟩
end Go.Ah
