/- The document's ledger comes to the same model: New, Append, Cut, Compact, Slice. -/
import Derived.Test.YtmlgbkighdiniaaLedV
namespace Go.Ah
open Go.Proofs
set_option linter.unusedVariables false
set_option linter.unusedSimpArgs false
set_option maxRecDepth 20000

theorem encs_one_cell (es : List EH) : (encs es).all oneCell = true := by
  rw [List.all_eq_true]; intro x hx
  obtain ⟨e, _, hx⟩ := List.mem_flatMap.1 hx
  simp only [EH.cells, List.mem_cons, List.not_mem_nil, or_false] at hx
  rcases hx with rfl | rfl | rfl | rfl <;> rfl

theorem rNew_c (h : Heap) (o : Nat) (ho : o ≠ 0) (i t : Int) :
    ACalls PR 18 #[I i, I t] h (fun v h' => (okBase i t = true ∧ ∃ p, v = .tuple #[.pointer (some ⟨p, 0, none⟩), I 0] ∧ RL h' p o (lnew i t) ∧ Sub h h') ∨ (okBase i t = false ∧ v = .tuple #[.pointer none, I 2] ∧ Sub h h')) := by
  refine acalls_of mix Try.func18 rfl rfl Try.ntmps18 Try.results18 rfl ?_; conv => whnf
  by_cases c1 : i = 0
  · refine ACmp.yes (c1) ?_; conv => whnf
    by_cases c2 : t = 0
    · refine ACmp.yes (c2) ?_; conv => whnf
      refine ABox.mk (o, 0) rfl fun b2 f2 => ?_; conv => whnf
      exact .inl ⟨by simp_all [okBase], b2, rfl, ⟨[], none, 0, ⟨Heap.set_same _ _ _, .inl ⟨rfl, rfl, rfl⟩, by simp⟩, rfl⟩, f2.sub _⟩
    · refine ACmp.no (c2) ?_; conv => whnf
      refine ACalls.mono (rnumber_any i _) ?_; rintro _ _ ⟨rfl, rfl⟩; conv => whnf
      cases c3 : isNum i with
      | false =>
        conv => whnf
        exact .inr ⟨by simp_all [okBase], rfl, Sub.refl _⟩
      | true =>
        conv => whnf
        refine ACalls.mono (rnumber_any t _) ?_; rintro _ _ ⟨rfl, rfl⟩; conv => whnf
        cases c4 : isNum t with
        | false =>
          conv => whnf
          exact .inr ⟨by simp_all [okBase], rfl, Sub.refl _⟩
        | true =>
          conv => whnf
          refine ABox.mk (o, 0) rfl fun b2 f2 => ?_; conv => whnf
          exact .inl ⟨by simp_all [okBase], b2, rfl, ⟨[], none, 0, ⟨Heap.set_same _ _ _, .inl ⟨rfl, rfl, rfl⟩, by simp⟩, rfl⟩, f2.sub _⟩
  · refine ACmp.no (c1) ?_; conv => whnf
    refine ACalls.mono (rnumber_any i _) ?_; rintro _ _ ⟨rfl, rfl⟩; conv => whnf
    cases c3 : isNum i with
    | false =>
      conv => whnf
      exact .inr ⟨by simp_all [okBase], rfl, Sub.refl _⟩
    | true =>
      conv => whnf
      refine ACalls.mono (rnumber_any t _) ?_; rintro _ _ ⟨rfl, rfl⟩; conv => whnf
      cases c4 : isNum t with
      | false =>
        conv => whnf
        exact .inr ⟨by simp_all [okBase], rfl, Sub.refl _⟩
      | true =>
        conv => whnf
        refine ABox.mk (o, 0) rfl fun b2 f2 => ?_; conv => whnf
        exact .inl ⟨by simp_all [okBase], b2, rfl, ⟨[], none, 0, ⟨Heap.set_same _ _ _, .inl ⟨rfl, rfl, rfl⟩, by simp⟩, rfl⟩, f2.sub _⟩

theorem rCut_c {h : Heap} {p o : Nat} (ho : o ≠ 0) {L : LG} (l : RL h p o L) (k : LOk L) (i : Int) (hroom : L.es.length * 48 ≤ 140737488355328) :
    ACalls PR 22 #[.pointer (some ⟨p, 0, none⟩), I i] h (fun v h' => v = I (L.cut i).1 ∧ RL h' p o (L.cut i).2 ∧ Keep o h h') := by
  have l' := l
  obtain ⟨es, a, cap, A, hes⟩ := l
  have htop := k.top
  have hlo := k.lo
  have hl : es.length = L.es.length := by rw [← hes]; simp
  refine acalls_of mix Try.func22 rfl rfl Try.ntmps22 Try.results22 rfl ?_; conv => whnf
  refine ACalls.mono (rReach_c l' k i) ?_; rintro _ _ ⟨rfl, rfl⟩; conv => whnf
  unfold LG.cut
  cases hr : L.reach i with
  | false =>
    conv => whnf
    rw [if_neg (by decide)]
    exact ⟨rfl, l', Keep.refl _ _⟩
  | true =>
    conv => whnf
    rw [if_pos rfl]
    obtain ⟨j, hj, hjl⟩ : ∃ j : Nat, i - L.bi - 1 = j ∧ j ≤ es.length := by
      rw [LG.reach, decide_eq_true_eq] at hr
      exact ⟨(i - L.bi - 1).toNat, by omega, by omega⟩
    have hcap : es.length ≤ cap := A.own.sl.le
    refine ADrawn.mk (h) [14] (Sub.refl _) (by decide +kernel) ?_; conv => whnf
    refine ALoad.one rfl A.str rfl ?_; conv => whnf
    refine ACalls.mono (rFirst_c l' k) ?_; rintro _ _ ⟨rfl, rfl⟩; conv => whnf
    refine ⟨Sub.refl _, ?_⟩; conv => whnf
    refine AArith.ok (by omega) (by omega) ((by omega : i - (L.bi + 1) = (j : Int))) ?_; conv => whnf
    refine ASlc.upto (z := 4) rfl (by omega) rfl rfl ?_; conv => whnf
    have hs : Sl h (o, 1) a j cap 4 (encs (es.take j)) := by
      exact ⟨by rw [encs_length, List.length_take, Nat.min_eq_left hjl], by omega, by
        rcases A.own.sl.at_ with h0 | ⟨b, off, m, E, fz, ea, hb, hc⟩
        · exact .inl (by omega)
        · refine .inr ⟨b, off, m, E, fz, ea, hb, ?_⟩
          rw [← encs_take, ← hc, List.take_take, Nat.min_eq_left (Nat.mul_le_mul_right _ hjl)]⟩
    refine AAppend.own (t := (o, 1)) (E := 34) (z := 4) (by_ := 48) (zero := [I 0, I 0, I 0, .slice none 0 0]) (cs := []) rfl ⟨_, rfl⟩ rfl rfl rfl rfl (by omega) (.inl ⟨rfl, rfl, rfl⟩) hs (encs_one_cell _) (by omega) (by omega) fun a' c' h' ow hk hsub => ?_
    conv => whnf
    have s1 := hsub rfl
    refine ⟨s1, ?_⟩; conv => whnf
    refine AStore.one' rfl rfl rfl (s1 _ _ A.str) rfl ?_; conv => whnf
    rw [Nat.zero_add, List.nil_append] at ow
    have kk : Keep o h' _ := (KeepT.set (y := .cells [I L.bi, I L.bt, .slice a' (0 + j) c'].toArray 74 (0, 0)) (s1 _ _ A.str)).keep
    refine ⟨rfl, ⟨es.take j, a', c', ⟨?_, ?_, fun e he => ?_⟩, by rw [List.map_take, hes, hj]; rfl⟩, (s1.keep o).trans kk⟩
    · rw [List.length_take, Nat.min_eq_left hjl]
      rw [Nat.zero_add]
      exact Heap.set_same _ _ _
    · rw [List.length_take, Nat.min_eq_left hjl]
      exact ow.keepT (KeepT.set (s1 _ _ A.str)) (by simp)
    · exact Sl.keepT (Sl.sub (A.good e (List.mem_of_mem_take he)) s1) (KeepT.set (s1 _ _ A.str)) (by simp)

theorem rCompact_c {h : Heap} {p o : Nat} (ho : o ≠ 0) {L : LG} (l : RL h p o L) (k : LOk L) (i : Int) (hroom : L.es.length * 48 ≤ 140737488355328) :
    ACalls PR 24 #[.pointer (some ⟨p, 0, none⟩), I i] h (fun v h' => v = I (L.compact i).1 ∧ RL h' p o (L.compact i).2 ∧ Keep o h h') := by
  have l' := l
  obtain ⟨es, a, cap, A, hes⟩ := l
  have htop := k.top
  have hlo := k.lo
  have hl : es.length = L.es.length := by rw [← hes]; simp
  refine acalls_of mix Try.func24 rfl rfl Try.ntmps24 Try.results24 rfl ?_; conv => whnf
  refine ACalls.mono (rThere_c l' k i) ?_; rintro _ _ ⟨rfl, rfl⟩; conv => whnf
  unfold LG.compact
  cases hs : L.spot i with
  | none =>
    conv => whnf
    exact ⟨rfl, l', Keep.refl _ _⟩
  | some x =>
    conv => whnf
    obtain ⟨h1, h2, h3⟩ := LG.spot_some hs
    obtain ⟨j, e, hj, he, hab⟩ := spot_abs hes hs
    have hlt : j < es.length := (List.getElem?_eq_some_iff.1 he).1
    have hcap : es.length ≤ cap := A.own.sl.le
    obtain ⟨b, off, m, E, fz, rfl, hb, hc⟩ := A.own.sl.pos (by omega)
    have g : (m.drop (off + j * 4)).take 4 = e.cells := by rw [part_of_take hc (by omega), encs_part he]
    refine ADrawn.mkT (h) [11] (.take 0 (.take 1 (.take 2 (.take 3 (.take 4 (.take 5 (.alt 6 (.take 7 (.take 8 (.take 9 (.take 10 (.take 11 (.done)))))) (.alt 10 (.take 6 (.take 7 (.take 8 (.take 9 (.take 11 (.done)))))) (.stop))))))))) (Sub.refl _) (by decide +kernel) ?_; conv => whnf
    refine ALoad.one rfl A.str rfl ?_; conv => whnf
    refine And.intro ?_ ?_
    · conv => whnf
      refine ACalls.mono (rFirst_c l' k) ?_; rintro _ _ ⟨rfl, rfl⟩; conv => whnf
      refine ⟨Sub.refl _, ?_⟩; conv => whnf
      refine AArith.ok (by omega) (by omega) ((by omega : i - (L.bi + 1) = (j : Int))) ?_; conv => whnf
      refine AIdx.nat rfl hlt rfl rfl ?_; conv => whnf
      refine ALoad.agg rfl hb g rfl ?_; conv => whnf
      refine AAlloc.mk (0, 1) rfl fun b4 f4 => ?_; conv => whnf
      refine ⟨f4.sub _, ?_⟩; conv => whnf
      refine AStore.agg' rfl rfl rfl (Heap.set_same _ _ _) rfl ?_; conv => whnf
      rw [Heap.set_set]
      have s4 := f4.sub (row (0, 1) [I e.term, I e.index, I e.kind, .slice e.a e.n e.c] 34)
      have k4 := Heap.set_same h b4 (row (0, 1) [I e.term, I e.index, I e.kind, .slice e.a e.n e.c] 34)
      have A4 := A.sub s4
      have l4 := l'.sub s4
      generalize h.set b4 (row (0, 1) [I e.term, I e.index, I e.kind, .slice e.a e.n e.c] 34) = h4 at s4 k4 A4 l4 ⊢
      refine ADrawn.mk (h4) [15] (Sub.refl _) (by decide +kernel) ?_; conv => whnf
      refine ALoad.one rfl A4.str rfl ?_; conv => whnf
      refine ACalls.mono (rFirst_c l4 k) ?_; rintro _ _ ⟨rfl, rfl⟩; conv => whnf
      refine ⟨Sub.refl _, ?_⟩; conv => whnf
      refine AArith.ok (by omega) (by omega) ((by omega : i - (L.bi + 1) = (j : Int))) ?_; conv => whnf
      refine AArith.ok (by omega) (by omega) ((by omega : (j : Int) + 1 = ((j + 1 : Nat) : Int))) ?_; conv => whnf
      refine ASlc.from (z := 4) rfl (by omega) hcap rfl rfl ?_; conv => whnf
      have hsl := A4.own.sl.slice (l := j + 1) (m := es.length) (x := cap) (by omega) (Nat.le_refl _) hcap
      have hcs : ((encs es).drop ((j + 1) * 4)).take ((es.length - (j + 1)) * 4) = encs (es.drop (j + 1)) := by
        rw [encs_drop, List.take_of_length_le]
        rw [encs_length]; simp
      rw [hcs] at hsl
      refine AAppend.own (t := (o, 1)) (E := 34) (z := 4) (by_ := 48) (zero := [I 0, I 0, I 0, .slice none 0 0]) (cs := []) rfl ⟨_, rfl⟩ rfl rfl rfl rfl (by omega) (.inl ⟨rfl, rfl, rfl⟩) hsl (encs_one_cell _) (by omega) (by omega) fun a' c' h5 ow hk hsub => ?_
      conv => whnf
      have s5 := hsub rfl
      refine ⟨s5, ?_⟩; conv => whnf
      refine AStore.one' rfl rfl rfl (s5 _ _ A4.str) rfl ?_; conv => whnf
      rw [Nat.zero_add, List.nil_append] at ow
      have k5 := Heap.set_ne (h := h5) (b := p) (c := b4) (x := row (o, 0) [I L.bi, I L.bt, .slice a' (0 + (es.length - (j + 1))) c'] 74) (fun c => by have := s5 _ _ k4; rw [c, s5 _ _ A4.str] at this; simp [row] at this) (s5 _ _ k4)
      refine ALoad.one rfl k5 rfl ?_; conv => whnf
      refine AStore.one' rfl rfl rfl (Heap.set_same _ _ _) rfl ?_; conv => whnf
      rw [Heap.set_set]
      have k6 := Heap.set_ne (h := h5) (b := p) (c := b4) (x := row (o, 0) [I e.index, I L.bt, .slice a' (0 + (es.length - (j + 1))) c'] 74) (fun c => by have := s5 _ _ k4; rw [c, s5 _ _ A4.str] at this; simp [row] at this) (s5 _ _ k4)
      refine ALoad.one rfl k6 rfl ?_; conv => whnf
      refine AStore.one' rfl rfl rfl (Heap.set_same _ _ _) rfl ?_; conv => whnf
      rw [Heap.set_set]
      have kk : Keep o h5 _ := (KeepT.set (y := .cells [I e.index, I e.term, .slice a' (0 + (es.length - (j + 1))) c'].toArray 74 (0, 0)) (s5 _ _ A4.str)).keep
      rw [← hab]
      have hlen : (es.drop (j + 1)).length = es.length - (j + 1) := by simp
      refine ⟨rfl, ⟨es.drop (j + 1), a', c', ⟨?_, ?_, fun y hy => ?_⟩, by rw [List.map_drop, hes, hj]; rfl⟩, ((s4.trans s5).keep o).trans kk⟩
      · rw [hlen, Nat.zero_add]
        exact Heap.set_same _ _ _
      · rw [hlen]
        exact ow.keepT (KeepT.set (s5 _ _ A4.str)) (by simp)
      · exact Sl.keepT (Sl.sub (A4.good y (List.mem_of_mem_drop hy)) s5) (KeepT.set (s5 _ _ A4.str)) (by simp)
    · conv => whnf
      refine And.intro ?_ trivial
      conv => whnf
      refine AAlloc.mk (0, 1) rfl fun b4 f4 => ?_; conv => whnf
      refine ⟨f4.sub _, ?_⟩; conv => whnf
      refine ACalls.mono (rFirst_c (l'.sub (f4.sub _)) k) ?_; rintro _ _ ⟨rfl, rfl⟩; conv => whnf
      refine ⟨f4.sub _, ?_⟩; conv => whnf
      refine AArith.ok (by omega) (by omega) ((by omega : i - (L.bi + 1) = (j : Int))) ?_; conv => whnf
      refine AIdx.nat rfl hlt rfl rfl ?_; conv => whnf
      refine ALoad.agg rfl hb g rfl ?_; conv => whnf
      refine AStore.agg' rfl rfl rfl (Heap.set_same _ _ _) rfl ?_; conv => whnf
      rw [Heap.set_set]
      have s4 := f4.sub (row (0, 1) [I e.term, I e.index, I e.kind, .slice e.a e.n e.c] 34)
      have k4 := Heap.set_same h b4 (row (0, 1) [I e.term, I e.index, I e.kind, .slice e.a e.n e.c] 34)
      have A4 := A.sub s4
      have l4 := l'.sub s4
      generalize h.set b4 (row (0, 1) [I e.term, I e.index, I e.kind, .slice e.a e.n e.c] 34) = h4 at s4 k4 A4 l4 ⊢
      refine ADrawn.mk (h4) [15] (Sub.refl _) (by decide +kernel) ?_; conv => whnf
      refine ALoad.one rfl A4.str rfl ?_; conv => whnf
      refine ACalls.mono (rFirst_c l4 k) ?_; rintro _ _ ⟨rfl, rfl⟩; conv => whnf
      refine ⟨Sub.refl _, ?_⟩; conv => whnf
      refine AArith.ok (by omega) (by omega) ((by omega : i - (L.bi + 1) = (j : Int))) ?_; conv => whnf
      refine AArith.ok (by omega) (by omega) ((by omega : (j : Int) + 1 = ((j + 1 : Nat) : Int))) ?_; conv => whnf
      refine ASlc.from (z := 4) rfl (by omega) hcap rfl rfl ?_; conv => whnf
      have hsl := A4.own.sl.slice (l := j + 1) (m := es.length) (x := cap) (by omega) (Nat.le_refl _) hcap
      have hcs : ((encs es).drop ((j + 1) * 4)).take ((es.length - (j + 1)) * 4) = encs (es.drop (j + 1)) := by
        rw [encs_drop, List.take_of_length_le]
        rw [encs_length]; simp
      rw [hcs] at hsl
      refine AAppend.own (t := (o, 1)) (E := 34) (z := 4) (by_ := 48) (zero := [I 0, I 0, I 0, .slice none 0 0]) (cs := []) rfl ⟨_, rfl⟩ rfl rfl rfl rfl (by omega) (.inl ⟨rfl, rfl, rfl⟩) hsl (encs_one_cell _) (by omega) (by omega) fun a' c' h5 ow hk hsub => ?_
      conv => whnf
      have s5 := hsub rfl
      refine ⟨s5, ?_⟩; conv => whnf
      refine AStore.one' rfl rfl rfl (s5 _ _ A4.str) rfl ?_; conv => whnf
      rw [Nat.zero_add, List.nil_append] at ow
      have k5 := Heap.set_ne (h := h5) (b := p) (c := b4) (x := row (o, 0) [I L.bi, I L.bt, .slice a' (0 + (es.length - (j + 1))) c'] 74) (fun c => by have := s5 _ _ k4; rw [c, s5 _ _ A4.str] at this; simp [row] at this) (s5 _ _ k4)
      refine ALoad.one rfl k5 rfl ?_; conv => whnf
      refine AStore.one' rfl rfl rfl (Heap.set_same _ _ _) rfl ?_; conv => whnf
      rw [Heap.set_set]
      have k6 := Heap.set_ne (h := h5) (b := p) (c := b4) (x := row (o, 0) [I e.index, I L.bt, .slice a' (0 + (es.length - (j + 1))) c'] 74) (fun c => by have := s5 _ _ k4; rw [c, s5 _ _ A4.str] at this; simp [row] at this) (s5 _ _ k4)
      refine ALoad.one rfl k6 rfl ?_; conv => whnf
      refine AStore.one' rfl rfl rfl (Heap.set_same _ _ _) rfl ?_; conv => whnf
      rw [Heap.set_set]
      have kk : Keep o h5 _ := (KeepT.set (y := .cells [I e.index, I e.term, .slice a' (0 + (es.length - (j + 1))) c'].toArray 74 (0, 0)) (s5 _ _ A4.str)).keep
      rw [← hab]
      have hlen : (es.drop (j + 1)).length = es.length - (j + 1) := by simp
      refine ⟨rfl, ⟨es.drop (j + 1), a', c', ⟨?_, ?_, fun y hy => ?_⟩, by rw [List.map_drop, hes, hj]; rfl⟩, ((s4.trans s5).keep o).trans kk⟩
      · rw [hlen, Nat.zero_add]
        exact Heap.set_same _ _ _
      · rw [hlen]
        exact ow.keepT (KeepT.set (s5 _ _ A4.str)) (by simp)
      · exact Sl.keepT (Sl.sub (A4.good y (List.mem_of_mem_drop hy)) s5) (KeepT.set (s5 _ _ A4.str)) (by simp)
end Go.Ah
