/- The document's ledger comes to the same model: what answers, Cut, Compact. -/
import Derived.Test.YtmlgbkighdiniaaLedU
namespace Go.Ah
open Go.Proofs
set_option linter.unusedVariables false
set_option linter.unusedSimpArgs false
set_option maxRecDepth 20000

theorem rFirst_c {h : Heap} {p o : Nat} {L : LG} (l : RL h p o L) (k : LOk L) :
    ACalls PR 28 #[.pointer (some ⟨p, 0, none⟩)] h (fun v h' => v = I (L.bi + 1) ∧ h = h') := by
  obtain ⟨es, a, cap, A, hes⟩ := l
  have htop := k.top
  have hlo := k.lo
  refine acalls_pure (acalls_of mix Try.func28 rfl rfl Try.ntmps28 Try.results28 rfl ?_); conv => whnf
  refine ALoad.one rfl A.str rfl ?_; conv => whnf
  refine AArith.ok (by omega) (by omega) (rfl) ?_; conv => whnf
  exact ⟨rfl, Sub.refl _⟩
theorem rReach_c {h : Heap} {p o : Nat} {L : LG} (l : RL h p o L) (k : LOk L) (i : Int) :
    ACalls PR 45 #[.pointer (some ⟨p, 0, none⟩), I i] h (fun v h' => v = .bool (L.reach i) ∧ h = h') := by
  have htop := k.top
  have hlo := k.lo
  have hlast := k.last
  refine acalls_pure (acalls_of mix Try.func45 rfl rfl Try.ntmps45 Try.results45 rfl ?_); conv => whnf
  refine ACalls.mono (rLast_c l k) ?_; rintro _ _ ⟨rfl, rfl⟩; conv => whnf
  refine ACalls.mono (rFirst_c l k) ?_; rintro _ _ ⟨rfl, rfl⟩; conv => whnf
  unfold LG.reach
  by_cases c1 : L.bi + 1 ≤ i
  · refine ACmp.yes (c1) ?_; conv => whnf
    refine AArith.ok (by omega) (by omega) (rfl) ?_; conv => whnf
    by_cases c2 : i ≤ L.last.1 + 1
    · refine ACmp.yes (c2) ?_; conv => whnf
      exact ⟨by rw [decide_eq_true (by omega)], Sub.refl _⟩
    · refine ACmp.no (c2) ?_; conv => whnf
      exact ⟨by rw [decide_eq_false (by omega)], Sub.refl _⟩
  · refine ACmp.no (c1) ?_; conv => whnf
    exact ⟨by rw [decide_eq_false (by omega)], Sub.refl _⟩
theorem spot_some_of {L : LG} {i : Int} (h1 : L.bi < i) (h2 : i ≤ L.bi + L.es.length) : ∃ e, L.spot i = some e := by
  unfold LG.spot
  rw [if_pos h1]
  exact ⟨_, List.getElem?_eq_getElem (by omega)⟩
theorem rThere_c {h : Heap} {p o : Nat} {L : LG} (l : RL h p o L) (k : LOk L) (i : Int) :
    ACalls PR 47 #[.pointer (some ⟨p, 0, none⟩), I i] h (fun v h' => v = .bool (L.spot i).isSome ∧ h = h') := by
  have htop := k.top
  have hlo := k.lo
  have hlast := k.last
  have no : ∀ (c : ¬ (L.bi < i ∧ i ≤ L.bi + L.es.length)), (L.spot i).isSome = false := fun c => by
    cases hs : L.spot i with
    | none => rfl
    | some e => obtain ⟨a, b, _⟩ := LG.spot_some hs; omega
  refine acalls_pure (acalls_of mix Try.func47 rfl rfl Try.ntmps47 Try.results47 rfl ?_); conv => whnf
  refine ACalls.mono (rLast_c l k) ?_; rintro _ _ ⟨rfl, rfl⟩; conv => whnf
  refine ACalls.mono (rFirst_c l k) ?_; rintro _ _ ⟨rfl, rfl⟩; conv => whnf
  by_cases c1 : L.bi + 1 ≤ i
  · refine ACmp.yes (c1) ?_; conv => whnf
    by_cases c2 : i ≤ L.last.1
    · refine ACmp.yes (c2) ?_; conv => whnf
      obtain ⟨e, he⟩ := spot_some_of (L := L) (i := i) (by omega) (by omega)
      exact ⟨by rw [he]; rfl, Sub.refl _⟩
    · refine ACmp.no (c2) ?_; conv => whnf
      exact ⟨by rw [no (by omega)], Sub.refl _⟩
  · refine ACmp.no (c1) ?_; conv => whnf
    exact ⟨by rw [no (by omega)], Sub.refl _⟩

theorem rTerm_c {h : Heap} {p o : Nat} {L : LG} (l : RL h p o L) (k : LOk L) (i : Int) :
    ACalls PR 48 #[.pointer (some ⟨p, 0, none⟩), I i] h (fun v h' => v = .tuple #[I (L.term i).1, I (L.term i).2] ∧ h = h') := by
  have l' := l
  obtain ⟨es, a, cap, A, hes⟩ := l
  have htop := k.top
  have hlo := k.lo
  have hl : es.length = L.es.length := by rw [← hes]; simp
  refine acalls_pure (acalls_of mix Try.func48 rfl rfl Try.ntmps48 Try.results48 rfl ?_); conv => whnf
  refine ALoad.one rfl A.str rfl ?_; conv => whnf
  unfold LG.term
  by_cases c0 : i = L.bi
  · refine ACmp.yes (c0) ?_; conv => whnf
    refine ALoad.one rfl A.str rfl ?_; conv => whnf
    exact ⟨by simp [c0], Sub.refl _⟩
  · refine ACmp.no (c0) ?_; conv => whnf
    refine ACalls.mono (rThere_c l' k i) ?_; rintro _ _ ⟨rfl, rfl⟩; conv => whnf
    cases hs : L.spot i with
    | none =>
      conv => whnf
      exact ⟨by simp [c0], Sub.refl _⟩
    | some x =>
      conv => whnf
      obtain ⟨h1, h2, h3⟩ := LG.spot_some hs
      obtain ⟨j, e, hj, he, hab⟩ := spot_abs hes hs
      have hlt : j < es.length := (List.getElem?_eq_some_iff.1 he).1
      obtain ⟨b, off, m, E, fz, rfl, hb, hc⟩ := A.own.sl.pos (by omega)
      have g0 : m[off + j * 4]? = some (I e.term) := by rw [get_of_take hc (by omega)]; exact (encs_get (j := 0) he (by omega))
      refine ADrawn.mk (h) [] (Sub.refl _) (by decide +kernel) ?_; conv => whnf
      refine ALoad.one rfl A.str rfl ?_; conv => whnf
      refine ACalls.mono (rFirst_c l' k) ?_; rintro _ _ ⟨rfl, rfl⟩; conv => whnf
      refine ⟨Sub.refl _, ?_⟩; conv => whnf
      refine AArith.ok (by omega) (by omega) ((by omega : i - (L.bi + 1) = (j : Int))) ?_; conv => whnf
      refine AIdx.nat rfl hlt rfl rfl ?_; conv => whnf
      refine ALoad.one rfl hb g0 ?_; conv => whnf
      refine ⟨?_, Sub.refl _⟩
      rw [← hab]; simp [c0, EH.abs]
theorem rHas_c {h : Heap} {p o : Nat} {L : LG} (l : RL h p o L) (k : LOk L) (i t : Int) :
    ACalls PR 51 #[.pointer (some ⟨p, 0, none⟩), I i, I t] h (fun v h' => v = .bool (decide ((L.term i).2 = 0 ∧ (L.term i).1 = t)) ∧ h = h') := by
  refine acalls_pure (acalls_of mix Try.func51 rfl rfl Try.ntmps51 Try.results51 rfl ?_); conv => whnf
  refine ACalls.mono (rTerm_c l k i) ?_; rintro _ _ ⟨rfl, rfl⟩; conv => whnf
  refine ACmp.split (fun c1 => ?_) (fun c1 => ?_)
  · conv => whnf
    refine ACmp.dec ?_; conv => whnf
    exact ⟨by simp [c1], Sub.refl _⟩
  · conv => whnf
    exact ⟨by simp [c1], Sub.refl _⟩

theorem rGet_c {h : Heap} {p o : Nat} {L : LG} (l : RL h p o L) (k : LOk L) (tg : Tag) (ht : tg ≠ (0, 1)) (i : Int) :
    ACalls PR 49 #[.pointer (some ⟨p, 0, none⟩), I i] h (fun v h' => ∃ e : EH, v = .tuple #[.agg e.cells.toArray, I (L.get i).2] ∧ e.Mine h' tg ∧ e.abs = (L.get i).1 ∧ e.n ≤ 1200 ∧ Sub h h') := by
  have l' := l
  obtain ⟨es, a, cap, A, hes⟩ := l
  have htop := k.top
  have hlo := k.lo
  have hl : es.length = L.es.length := by rw [← hes]; simp
  refine acalls_of mix Try.func49 rfl rfl Try.ntmps49 Try.results49 rfl ?_; conv => whnf
  refine AAlloc.mk (0, 1) rfl fun b1 f1 => ?_; conv => whnf
  have s1 := f1.sub (row (0, 1) [I 0, I 0, I 0, .slice none 0 0] 34)
  have k1 := Heap.set_same h b1 (row (0, 1) [I 0, I 0, I 0, .slice none 0 0] 34)
  have A1 := A.sub s1
  have l1 := l'.sub s1
  refine ACalls.mono (rThere_c l1 k i) ?_; rintro _ _ ⟨rfl, rfl⟩; conv => whnf
  unfold LG.get
  cases hs : L.spot i with
  | none =>
    conv => whnf
    refine AStore.agg' rfl rfl rfl k1 rfl ?_; conv => whnf
    refine ALoad.agg rfl (Heap.set_same _ _ _) rfl rfl ?_; conv => whnf
    exact ⟨⟨0, 0, 0, none, 0, 0, []⟩, rfl, .inl ⟨rfl, rfl, rfl⟩, rfl, by simp, s1.set f1.none _⟩
  | some x =>
    conv => whnf
    obtain ⟨h1, h2, h3⟩ := LG.spot_some hs
    obtain ⟨j, e, hj, he, hab⟩ := spot_abs hes hs
    have hlt : j < es.length := (List.getElem?_eq_some_iff.1 he).1
    have sm := small_abs k hes A.good e (List.mem_of_getElem? he)
    obtain ⟨b, off, m, E, fz, rfl, hb, hc⟩ := A1.own.sl.pos (by omega)
    have g : (m.drop (off + j * 4)).take 4 = e.cells := by rw [part_of_take hc (by omega), encs_part he]
    refine ADrawn.mk ((h.set b1 (row (0, 1) [I 0, I 0, I 0, .slice none 0 0] 34))) [11] (Sub.refl _) (by decide +kernel) ?_; conv => whnf
    refine ALoad.one rfl A1.str rfl ?_; conv => whnf
    refine ACalls.mono (rFirst_c l1 k) ?_; rintro _ _ ⟨rfl, rfl⟩; conv => whnf
    refine ⟨Sub.refl _, ?_⟩; conv => whnf
    refine AArith.ok (by omega) (by omega) ((by omega : i - (L.bi + 1) = (j : Int))) ?_; conv => whnf
    refine AIdx.nat rfl hlt rfl rfl ?_; conv => whnf
    refine ALoad.agg rfl hb g rfl ?_; conv => whnf
    refine ACalls.mono (copyE_any _ tg ht e (A1.good e (List.mem_of_getElem? he)) (by omega)) ?_; rintro _ h2 ⟨a2, c2, rfl, own2, s2⟩; conv => whnf
    refine ⟨s2, ?_⟩; conv => whnf
    refine AStore.agg' rfl rfl rfl (s2 _ _ k1) rfl ?_; conv => whnf
    refine ALoad.agg rfl (Heap.set_same _ _ _) rfl rfl ?_; conv => whnf
    refine ⟨⟨e.term, e.index, e.kind, a2, e.n, c2, e.data⟩, rfl, own2.keepT (KeepT.set (s2 _ _ k1)) ht, hab, sm, (s1.trans s2).set f1.none _⟩
end Go.Ah
