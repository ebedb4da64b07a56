/- Walks of package ledger: Cut, Slice, Compact; the statement's 'last'. -/
import Derived.Test.YtmlgbkighdiniaaLedE
namespace Go.Ah
open Go.Proofs
set_option linter.unusedVariables false
set_option linter.unusedSimpArgs false

theorem lawlast_any {h : Heap} {p o : Nat} {bi bt : Int} {es : List EH} {a : Option Addr} {cap : Nat} (L : LedAt h p o bi bt es a cap) (hlen : es.length ≤ 9007199254740992) (i t : Int) :
    ACalls PR 16 #[.pointer (some ⟨p, 0, none⟩), I i, I t] h (fun v h' => v = .bool (decide (lastM bi bt es = (i, t))) ∧ h = h') := by
  refine acalls_pure (acalls_of mix Try.func16 rfl rfl Try.ntmps16 Try.results16 rfl ?_); conv => whnf
  refine ACalls.mono (Last_any L hlen) ?_; rintro _ _ ⟨rfl, rfl⟩; conv => whnf
  refine ACmp.split (fun c1 => ?_) (fun c1 => ?_)
  · conv => whnf
    refine ACmp.dec ?_; conv => whnf
    exact ⟨by simp [Prod.ext_iff, c1], Sub.refl _⟩
  · conv => whnf
    exact ⟨by simp [Prod.ext_iff, c1], Sub.refl _⟩

theorem Cut_ok {h : Heap} {p o : Nat} {bi bt : Int} {es : List EH} {a : Option Addr} {cap : Nat} (L : LedAt h p o bi bt es a cap) (S : Seq bi es) (i : Int) (k : Nat) (hk : i - bi - 1 = k) (hle : k ≤ es.length) :
    ACalls PR 21 #[.pointer (some ⟨p, 0, none⟩), I i] h (fun v h' => v = I 0 ∧ LedAt h' p o bi bt (es.take k) a cap ∧ Keep o h h') := by
  refine acalls_of mix Try.func21 rfl rfl Try.ntmps21 Try.results21 rfl ?_; conv => whnf
  refine ACalls.mono (at_any L S i true) ?_; rintro _ _ ⟨rfl, rfl⟩; conv => whnf
  have hr : atR bi es.length i true = ((k : Int), 0) := by rw [atR, if_pos (by simp; omega), hk]
  have hcap : es.length ≤ cap := L.own.sl.le
  rw [hr]
  conv => whnf
  refine ACmp.no (by simp) ?_; conv => whnf
  refine ALoad.one rfl L.str rfl ?_; conv => whnf
  refine ASlc.from (z := 4) rfl hle hcap rfl rfl ?_; conv => whnf
  refine AClear.own (t := (o, 1)) (E := 34) (z := 4) (zero := [I 0, I 0, I 0, .slice none 0 0]) rfl rfl rfl (by omega) rfl L.own hle fun h2 hown hk2 => ?_
  conv => whnf
  have hp2 := hk2.get (u := (o, 0)) (by simp) L.str
  refine ALoad.one rfl hp2 rfl ?_; conv => whnf
  refine ASlc.upto (z := 4) rfl (Nat.le_trans hle hcap) rfl rfl ?_; conv => whnf
  refine AStore.one' rfl rfl rfl hp2 rfl ?_; conv => whnf
  have hlen : (es.take k).length = k := by simp; omega
  refine ⟨rfl, ⟨?_, ?_, ?_, ?_⟩, hk2.keep.trans (KeepT.set hp2).keep⟩
  · rw [hlen]; exact Heap.set_same _ _ _
  · rw [hlen, ← encs_take]; exact hown.keepT (KeepT.set hp2) (by simp)
  · intro e he
    exact Sl.keepT (Sl.keepT (L.good e (List.mem_of_mem_take he)) hk2 (by simp)) (KeepT.set hp2) (by simp)
  · intro e he; exact L.small e (List.mem_of_mem_take he)

theorem Cut_no {h : Heap} {p o : Nat} {bi bt : Int} {es : List EH} {a : Option Addr} {cap : Nat} (L : LedAt h p o bi bt es a cap) (S : Seq bi es) (i : Int) (hi : ¬ (bi < i ∧ i ≤ bi + es.length + 1)) :
    ACalls PR 21 #[.pointer (some ⟨p, 0, none⟩), I i] h (fun v h' => v = I 9 ∧ h = h') := by
  refine acalls_pure (acalls_of mix Try.func21 rfl rfl Try.ntmps21 Try.results21 rfl ?_); conv => whnf
  refine ACalls.mono (at_any L S i true) ?_; rintro _ _ ⟨rfl, rfl⟩; conv => whnf
  have hr : atR bi es.length i true = (0, 9) := by rw [atR, if_neg (by simp; omega)]
  rw [hr]
  conv => whnf
  refine ACmp.yes (by simp) ?_; conv => whnf
  exact ⟨rfl, Sub.refl _⟩

/-- slices.Clone of entries: their data are shared -/
theorem cloneE_any (h : Heap) (tg : Tag) {t : Tag} {a : Option Addr} {n c : Nat} {es : List EH} (s : Sl h t a n c 4 (encs es)) (hn : n * 48 ≤ 140737488355328) :
    ACalls PR 46 #[.slice a n c] h (fun v h' => ∃ a' c', v = .slice a' n c' ∧ Own h' tg 34 a' n c' 4 (encs es) ∧ Sub h h') := by
  have hone : (encs es).all oneCell = true := by
    rw [List.all_eq_true]; intro x hx
    obtain ⟨e, _, hx⟩ := List.mem_flatMap.1 hx
    simp only [EH.cells, List.mem_cons, List.not_mem_nil, or_false] at hx
    rcases hx with rfl | rfl | rfl | rfl <;> rfl
  refine acalls_of mix Try.func46 rfl rfl Try.ntmps46 Try.results46 rfl ?_; conv => whnf
  cases a with
  | none =>
    have hn0 : n = 0 := by
      rcases Nat.eq_zero_or_pos n with h0 | h0
      · exact h0
      · obtain ⟨b, off, l, E, fz, e, _⟩ := s.pos h0
        cases e
    subst hn0
    have : encs es = [] := List.eq_nil_of_length_eq_zero (by rw [s.len])
    conv => whnf
    exact ⟨none, 0, rfl, .inl ⟨rfl, rfl, this⟩, Sub.refl _⟩
  | some ad =>
    conv => whnf
    refine ABuildSl.empty tg rfl rfl fun b fb => ?_; conv => whnf
    refine AAppend.own (t := tg) (E := 34) (z := 4) (by_ := 48) (zero := [I 0, I 0, I 0, .slice none 0 0]) (cs := []) rfl ⟨_, rfl⟩ rfl rfl rfl rfl (by omega) (.inl ⟨rfl, rfl, rfl⟩) (s.sub (fb.sub _)) hone (by omega) (by omega) fun a' c' h' ho hk hsub => ?_
    conv => whnf
    refine ⟨a', c', ?_, ?_, (fb.sub _).trans (hsub rfl)⟩
    · show Value.slice a' (0 + n) c' = _
      rw [Nat.zero_add]
    · rw [Nat.zero_add] at ho
      exact ho

theorem Compact_ok {h : Heap} {p o : Nat} (ho : o ≠ 0) {bi bt : Int} {es : List EH} {a : Option Addr} {cap : Nat} (L : LedAt h p o bi bt es a cap) (S : Seq bi es) (i : Int) (k : Nat) (e : EH) (hk : i - bi - 1 = k) (he : es[k]? = some e)
    (hroom : es.length * 48 ≤ 140737488355328) :
    ACalls PR 23 #[.pointer (some ⟨p, 0, none⟩), I i] h (fun v h' => v = I 0 ∧ ∃ a' cap', LedAt h' p o e.index e.term (es.drop (k + 1)) a' cap' ∧ Keep o h h') := by
  have hlt : k < es.length := (List.getElem?_eq_some_iff.1 he).1
  refine acalls_of mix Try.func23 rfl rfl Try.ntmps23 Try.results23 rfl ?_; conv => whnf
  refine ACalls.mono (at_any L S i false) ?_; rintro _ _ ⟨rfl, rfl⟩; conv => whnf
  have hr : atR bi es.length i false = ((k : Int), 0) := by rw [atR, if_pos (by simp; omega), hk]
  have hcap : es.length ≤ cap := L.own.sl.le
  rw [hr]
  conv => whnf
  refine ACmp.no (by simp) ?_; conv => whnf
  obtain ⟨b, off, l, E, fz, rfl, hb, hc⟩ := L.own.sl.pos (by omega)
  have g0 : l[off + k * 4]? = some (I e.term) := by rw [get_of_take hc (by omega)]; exact (encs_get (j := 0) he (by omega))
  have g1 : l[off + k * 4 + 1]? = some (I e.index) := by rw [Nat.add_assoc, get_of_take hc (by omega)]; exact (encs_get (j := 1) he (by omega))
  refine ADrawn.mk (_) [20] (Sub.refl _) (by decide +kernel) ?_; conv => whnf
  refine ALoad.one rfl L.str rfl ?_; conv => whnf
  refine AIdx.nat rfl hlt rfl rfl ?_; conv => whnf
  refine ALoad.one rfl hb g1 ?_; conv => whnf
  refine ALoad.one rfl L.str rfl ?_; conv => whnf
  refine AIdx.nat rfl hlt rfl rfl ?_; conv => whnf
  refine ALoad.one rfl hb g0 ?_; conv => whnf
  refine AStore.agg' rfl rfl rfl L.str rfl ?_; conv => whnf
  have hp2 := Heap.set_same h p (row (o, 0) [.bool true, I e.index, I e.term, .slice (some ⟨b, off, none⟩) es.length cap] 68)
  have hown2 := L.own.keepT (KeepT.set (y := .cells [.bool true, I e.index, I e.term, .slice (some ⟨b, off, none⟩) es.length cap].toArray 68 (0, 0)) L.str) (by simp)
  refine ALoad.one rfl hp2 rfl ?_; conv => whnf
  refine AArith.ok (by omega) (by omega) ((by omega : (k : Int) + 1 = ((k + 1 : Nat) : Int))) ?_; conv => whnf
  refine ASlc.from (z := 4) rfl (by omega) hcap rfl rfl ?_; conv => whnf
  have hs := hown2.sl.slice (l := k + 1) (m := es.length) (x := cap) (by omega) (Nat.le_refl _) hcap
  have hcs : ((encs es).drop ((k + 1) * 4)).take ((es.length - (k + 1)) * 4) = encs (es.drop (k + 1)) := by
    rw [encs_drop, List.take_of_length_le]
    rw [encs_length]; simp
  rw [hcs] at hs
  refine ACalls.mono (cloneE_any _ (o, 1) hs (by omega)) ?_
  rintro v h3 ⟨a', c', rfl, hown3, hsub3⟩
  conv => whnf
  have hp3 := hsub3 _ _ hp2
  refine AStore.one' rfl rfl rfl hp3 rfl ?_; conv => whnf
  have hlen : (es.drop (k + 1)).length = es.length - (k + 1) := by simp
  refine ⟨rfl, a', c', ⟨?_, ?_, ?_, ?_⟩, ((KeepT.set L.str).keep.trans (hsub3.keep o)).trans (KeepT.set hp3).keep⟩
  · rw [hlen]; exact Heap.set_same _ _ _
  · rw [hlen]; exact hown3.keepT (KeepT.set hp3) (by simp)
  · intro y hy
    exact Sl.keepT (Sl.sub (Sl.keepT (L.good y (List.mem_of_mem_drop hy)) (KeepT.set L.str) (by simp)) hsub3) (KeepT.set hp3) (by simp)
  · intro y hy; exact L.small y (List.mem_of_mem_drop hy)

theorem Compact_no {h : Heap} {p o : Nat} {bi bt : Int} {es : List EH} {a : Option Addr} {cap : Nat} (L : LedAt h p o bi bt es a cap) (S : Seq bi es) (i : Int) (hi : ¬ (bi < i ∧ i ≤ bi + es.length)) :
    ACalls PR 23 #[.pointer (some ⟨p, 0, none⟩), I i] h (fun v h' => v = I 9 ∧ h = h') := by
  refine acalls_pure (acalls_of mix Try.func23 rfl rfl Try.ntmps23 Try.results23 rfl ?_); conv => whnf
  refine ACalls.mono (at_any L S i false) ?_; rintro _ _ ⟨rfl, rfl⟩; conv => whnf
  have hr : atR bi es.length i false = (0, 9) := by rw [atR, if_neg (by simp; omega)]
  rw [hr]
  conv => whnf
  refine ACmp.yes (by simp) ?_; conv => whnf
  exact ⟨rfl, Sub.refl _⟩

theorem Slice_no {h : Heap} {p o : Nat} {bi bt : Int} {es : List EH} {a : Option Addr} {cap : Nat} (L : LedAt h p o bi bt es a cap) (S : Seq bi es) (i most : Int) (hi : ¬ (bi < i ∧ i ≤ bi + es.length + 1)) :
    ACalls PR 34 #[.pointer (some ⟨p, 0, none⟩), I i, I most] h (fun v h' => v = .tuple #[.slice none 0 0, I 9] ∧ h = h') := by
  refine acalls_pure (acalls_of mix Try.func34 rfl rfl Try.ntmps34 Try.results34 rfl ?_); conv => whnf
  refine ACalls.mono (at_any L S i true) ?_; rintro _ _ ⟨rfl, rfl⟩; conv => whnf
  have hr : atR bi es.length i true = (0, 9) := by rw [atR, if_neg (by simp; omega)]
  rw [hr]
  conv => whnf
  refine ACmp.yes (by simp) ?_; conv => whnf
  exact ⟨rfl, Sub.refl _⟩

theorem Slice_neg {h : Heap} {p o : Nat} {bi bt : Int} {es : List EH} {a : Option Addr} {cap : Nat} (L : LedAt h p o bi bt es a cap) (S : Seq bi es) (i most : Int) (hi : bi < i ∧ i ≤ bi + es.length + 1) (hm : most < 0) :
    ACalls PR 34 #[.pointer (some ⟨p, 0, none⟩), I i, I most] h (fun v h' => v = .tuple #[.slice none 0 0, I 2] ∧ h = h') := by
  refine acalls_pure (acalls_of mix Try.func34 rfl rfl Try.ntmps34 Try.results34 rfl ?_); conv => whnf
  refine ACalls.mono (at_any L S i true) ?_; rintro _ _ ⟨rfl, rfl⟩; conv => whnf
  have hr : atR bi es.length i true = (i - bi - 1, 0) := by rw [atR, if_pos (by simp; omega)]
  rw [hr]
  conv => whnf
  refine ACmp.no (by simp) ?_; conv => whnf
  refine ACmp.yes (hm) ?_; conv => whnf
  exact ⟨rfl, Sub.refl _⟩

set_option maxHeartbeats 1000000 in
theorem Slice_ok {h : Heap} {p o : Nat} {bi bt : Int} {es : List EH} {a : Option Addr} {cap : Nat} (L : LedAt h p o bi bt es a cap) (S : Seq bi es) (tg td : Tag) (ht : tg ≠ (0, 1)) (hd : td ≠ (0, 1)) (hto : tg.1 ≠ o) (htd : td ≠ tg)
    (i most : Int) (k : Nat) (hk : i - bi - 1 = k) (hle : k ≤ es.length) (hm : 0 ≤ most) (hroom : es.length * 48 ≤ 140737488355328) :
    ACalls PR 34 #[.pointer (some ⟨p, 0, none⟩), I i, I most] h (fun v h' => ∃ a' n' c' zs, v = .tuple #[.slice a' n' c', I 0] ∧ Ents h' tg td a' n' c' zs ∧ zs.map EH.abs = ((es.drop k).take most.toNat).map EH.abs ∧ (∀ z ∈ zs, z.n ≤ 1200) ∧ KeepT tg h h' ∧ Own h' tg 34 a' n' c' 4 (encs zs) ∧ ∀ z ∈ zs, z.Mine h' td) := by
  have hcap : es.length ≤ cap := L.own.sl.le
  obtain ⟨q, hq⟩ : ∃ q : Nat, (if ((es.length : Int) - k) < most then ((es.length : Int) - k) else most) = q := ⟨(if ((es.length : Int) - k) < most then ((es.length : Int) - k) else most).toNat, by split <;> omega⟩
  have hqle : k + q ≤ es.length := by split at hq <;> omega
  have htop := S.top
  have hlo := S.lo
  refine acalls_of mix Try.func34 rfl rfl Try.ntmps34 Try.results34 rfl ?_; conv => whnf
  refine ACalls.mono (at_any L S i true) ?_; rintro _ _ ⟨rfl, rfl⟩; conv => whnf
  have hr : atR bi es.length i true = ((k : Int), 0) := by rw [atR, if_pos (by simp; omega), hk]
  rw [hr]
  conv => whnf
  refine ACmp.no (by simp) ?_; conv => whnf
  refine ACmp.no (by omega) ?_; conv => whnf
  refine ALoad.one rfl L.str rfl ?_; conv => whnf
  refine AArith.ok (by omega) (by omega) (rfl) ?_; conv => whnf
  refine AInt.as (hq) ?_; conv => whnf
  refine AArith.ok (by omega) (by omega) ((by omega : (k : Int) + q = ((k + q : Nat) : Int))) ?_; conv => whnf
  refine ALoad.one rfl L.str rfl ?_; conv => whnf
  refine ASlc.full (z := 4) rfl rfl rfl (by omega) (Nat.le_refl _) (by omega) rfl rfl ?_; conv => whnf
  have hs := L.own.sl.slice (l := k) (m := k + q) (x := k + q) (by omega) hqle (Nat.le_refl _)
  have hcs : ((encs es).drop (k * 4)).take ((k + q - k) * 4) = encs ((es.drop k).take q) := by
    rw [encs_drop, encs_take, Nat.add_sub_cancel_left]
  rw [hcs, Nat.add_sub_cancel_left] at hs
  rw [Nat.add_sub_cancel_left]
  generalize hys : (es.drop k).take q = ys at hs
  have hyl : ys.length = q := by rw [← hys]; simp; omega
  have hmem : ∀ y ∈ ys, y ∈ es := fun y hy => by rw [← hys] at hy; exact List.mem_of_mem_drop (List.mem_of_mem_take hy)
  have hfin : ((es.drop k).take most.toNat) = ys := by
    rw [← hys]
    by_cases hc : ((es.length : Int) - k) < most
    · rw [if_pos hc] at hq
      rw [List.take_of_length_le (by simp; omega), List.take_of_length_le (by simp; omega)]
    · rw [if_neg hc] at hq
      rw [show most.toNat = q by omega]
  generalize hbase : slBase a k (k + q) 4 = sb at hs ⊢
  refine ALoop.mk (fun e h' => ∃ e0, ∃ j : Nat, ∃ zs a2 c2, e = updL 58 e0 [(45, .slice sb q q), (46, I q), (47, I j), (11, .slice a2 j c2)] ∧ j ≤ q ∧ Own h' tg 34 a2 j c2 4 (encs zs) ∧ zs.map EH.abs = (ys.take j).map EH.abs ∧ (∀ z ∈ zs, z.Mine h' td) ∧ (∀ z ∈ zs, z.n ≤ 1200) ∧ KeepT tg h h')
    (fun e => q - natOf (e 47)) ⟨_, 0, [], none, 0, updL_self ⟨rfl, rfl, rfl, rfl, trivial⟩, by omega, .inl ⟨rfl, rfl, rfl⟩, by simp, by simp, by simp, KeepT.refl _ _⟩ ?_
  rintro e h2 ⟨e0, j, zs, a2, c2, rfl, hj, hown, habs, hgood, hsml, hkeep⟩
  conv => whnf
  have hzl : zs.length = j := by
    have := congrArg List.length habs
    simp at this; omega
  by_cases hjq : j < q
  · refine ACmp.yes (by omega) ?_; conv => whnf
    have hs2 := hs.keepT hkeep (fun c => hto (by rw [← c]))
    obtain ⟨b, off, l, E, fz, rfl, hb, hc⟩ := hs2.pos (by omega)
    obtain ⟨y, hy⟩ : ∃ y, ys[j]? = some y := ⟨ys[j]'(by omega), by simp⟩
    have my : y ∈ ys := List.mem_of_getElem? hy
    have g : (l.drop (off + j * 4)).take 4 = y.cells := by rw [part_of_take hc (by omega), encs_part hy]
    have gy : y.Good h2 (o, 2) := Sl.keepT (L.good y (hmem y my)) hkeep (fun c => hto (by rw [← c]))
    have sy := L.small y (hmem y my)
    refine AIdx.nat rfl hjq rfl rfl ?_; conv => whnf
    refine ALoad.agg rfl hb g rfl ?_; conv => whnf
    refine AAlloc.mk (0, 1) rfl fun b10 f10 => ?_; conv => whnf
    refine AStore.agg' rfl rfl rfl (Heap.set_same _ _ _) rfl ?_; conv => whnf
    rw [Heap.set_set]
    have s10 := f10.sub (row (0, 1) [I y.term, I y.index, I y.kind, .slice y.a y.n y.c] 34)
    refine ALoad.agg rfl (Heap.set_same _ _ _) rfl rfl ?_; conv => whnf
    refine ACalls.mono (own_any _ td hd y (Sl.sub gy s10) (by omega)) ?_
    rintro v h3 ⟨ax, cx, rfl, hslx, hsub3⟩
    conv => whnf
    refine ABuildSl.mk (0, 1) rfl rfl rfl rfl rfl rfl rfl fun b11 f11 => ?_; conv => whnf
    have s4 := s10.trans (hsub3.trans (f11.sub (row (0, 1) [I y.term, I y.index, I y.kind, .slice ax y.n cx] 34)))
    refine AAppend.own (t := tg) (E := 34) (z := 4) (by_ := 48) (zero := [I 0, I 0, I 0, .slice none 0 0]) (tx := (0, 1)) (xs := [I y.term, I y.index, I y.kind, .slice ax y.n cx]) rfl ⟨_, rfl⟩ rfl rfl rfl rfl (by omega) (hown.move fun _ _ z => s4 _ _ z)
      ⟨rfl, Nat.le_refl _, .inr ⟨b11, 0, _, _, _, rfl, Heap.set_same _ _ _, rfl⟩⟩ rfl (by omega) (by omega) fun a5 cap5 h5 hown5 hk5 _ => ?_
    conv => whnf
    refine AArith.ok (by omega) (by omega) ((by omega : (j : Int) + 1 = ((j + 1 : Nat) : Int))) ?_; conv => whnf
    refine ⟨⟨_, j + 1, zs ++ [⟨y.term, y.index, y.kind, ax, y.n, cx, y.data⟩], a5, cap5, updL_self ⟨rfl, rfl, rfl, rfl, trivial⟩, by omega, ?_, ?_, ?_, ?_, ?_⟩, ?_⟩
    · rw [encs_append, encs_one]; exact hown5
    · rw [List.map_append, habs, List.take_succ_eq_append_getElem (by omega), (List.getElem?_eq_some_iff.1 hy).2]
      simp [EH.abs]
    · intro z hz
      rcases List.mem_append.1 hz with hz | hz
      · exact Own.keepT (Own.sub (hgood z hz) s4) hk5 htd
      · obtain rfl := List.mem_singleton.1 hz
        exact Own.keepT (Own.sub hslx (f11.sub _)) hk5 htd
    · intro z hz
      rcases List.mem_append.1 hz with hz | hz
      · exact hsml z hz
      · obtain rfl := List.mem_singleton.1 hz
        exact sy
    · exact hkeep.trans ((s4.keepT tg).trans hk5)
    · show q - (j + 1) < q - j
      omega
  · refine ACmp.no (by omega) ?_; conv => whnf
    obtain rfl : j = q := by omega
    refine ⟨a2, j, c2, zs, rfl, ⟨hown.sl, fun z hz => (hgood z hz).sl, fun z hz => by have := hsml z hz; omega⟩, ?_, hsml, hkeep, hown, hgood⟩
    rw [habs, hfin, List.take_of_length_le (by omega)]
end Go.Ah
