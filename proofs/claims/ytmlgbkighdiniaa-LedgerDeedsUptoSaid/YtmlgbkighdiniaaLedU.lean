/- The document's ledger comes to the same model. -/
import Derived.Test.YtmlgbkighdiniaaLedM
namespace Go.Ah
open Go.Proofs
set_option linter.unusedVariables false
set_option linter.unusedSimpArgs false
set_option maxRecDepth 20000

/-- A ledger of the document in memory. -/
structure RLedAt (h : Heap) (p o : Nat) (bi bt : Int) (es : List EH) (a : Option Addr) (cap : Nat) : Prop where
  str : h p = some (row (o, 0) [I bi, I bt, .slice a es.length cap] 74)
  own : Own h (o, 1) 34 a es.length cap 4 (encs es)
  good : ∀ e ∈ es, e.Good h (o, 2)
theorem RLedAt.move {h h' : Heap} {p o : Nat} {bi bt : Int} {es : List EH} {a : Option Addr} {cap : Nat} (L : RLedAt h p o bi bt es a cap) (k : ∀ b (t : Tag) x, t.1 = o → h b = some (t, x) → h' b = some (t, x)) : RLedAt h' p o bi bt es a cap :=
  ⟨k _ _ _ rfl L.str, L.own.move fun _ _ e => k _ _ _ rfl e, fun x hx => Sl.move (L.good x hx) fun _ _ e => k _ _ _ rfl e⟩
theorem RLedAt.keep {h h' : Heap} {p o q : Nat} {bi bt : Int} {es : List EH} {a : Option Addr} {cap : Nat} (L : RLedAt h p o bi bt es a cap) (k : Keep q h h') (n : o ≠ q) : RLedAt h' p o bi bt es a cap :=
  L.move fun _ _ _ ht e => k _ _ _ (by rw [ht]; exact n) e
theorem RLedAt.sub {h h' : Heap} {p o : Nat} {bi bt : Int} {es : List EH} {a : Option Addr} {cap : Nat} (L : RLedAt h p o bi bt es a cap) (k : Sub h h') : RLedAt h' p o bi bt es a cap :=
  L.move fun _ _ _ _ e => k _ _ e
def RL (h : Heap) (p o : Nat) (L : LG) : Prop := ∃ es a cap, RLedAt h p o L.bi L.bt es a cap ∧ es.map EH.abs = L.es
theorem RL.move {h h' : Heap} {p o : Nat} {L : LG} (l : RL h p o L) (k : ∀ b (t : Tag) x, t.1 = o → h b = some (t, x) → h' b = some (t, x)) : RL h' p o L := by
  obtain ⟨es, a, cap, x, y⟩ := l; exact ⟨es, a, cap, x.move k, y⟩
theorem RL.keep {h h' : Heap} {p o q : Nat} {L : LG} (l : RL h p o L) (k : Keep q h h') (n : o ≠ q) : RL h' p o L :=
  l.move fun _ _ _ ht e => k _ _ _ (by rw [ht]; exact n) e
theorem RL.sub {h h' : Heap} {p o : Nat} {L : LG} (l : RL h p o L) (k : Sub h h') : RL h' p o L := l.move fun _ _ _ _ e => k _ _ e
theorem small_abs {L : LG} (k : LOk L) {h : Heap} {t : Tag} {es : List EH} (hes : es.map EH.abs = L.es) (g : ∀ e ∈ es, e.Good h t) : ∀ e ∈ es, e.n ≤ 1200 := fun e he => by
  have := k.small e.abs (by rw [← hes]; exact List.mem_map_of_mem he)
  rw [← (g e he).len]; exact this

theorem rnumber_any (n : Int) (h : Heap) : ACalls PR 41 #[I n] h (fun v h' => v = .bool (isNum n) ∧ h = h') := by
  refine acalls_pure (acalls_of mix Try.func41 rfl rfl Try.ntmps41 Try.results41 rfl ?_); conv => whnf
  by_cases h1 : 1 ≤ n
  · refine ACmp.yes (h1) ?_; conv => whnf
    by_cases h2 : n ≤ 9007199254740991
    · refine ACmp.yes (h2) ?_; conv => whnf
      exact ⟨by simp [isNum, h1, h2], Sub.refl _⟩
    · refine ACmp.no (h2) ?_; conv => whnf
      exact ⟨by simp [isNum, h2], Sub.refl _⟩
  · refine ACmp.no (h1) ?_; conv => whnf
    exact ⟨by simp [isNum, h1], Sub.refl _⟩

/-- CopyBytes -/
theorem copyB_any (h : Heap) (tg : Tag) {t : Tag} {a : Option Addr} {n c : Nat} {xs : List Int} (s : Sl h t a n c 1 (bytesV xs)) (hn : n ≤ 140737488355328) :
    ACalls PR 54 #[.slice a n c] h (fun v h' => ∃ a' c', v = .slice a' n c' ∧ Own h' tg 5 a' n c' 1 (bytesV xs) ∧ Sub h h') := by
  refine acalls_of mix Try.func54 rfl rfl Try.ntmps54 Try.results54 rfl ?_; conv => whnf
  refine AAppend.own (t := tg) (E := 5) (z := 1) (by_ := 1) (zero := [.int .u8 0]) (cs := []) rfl ⟨_, rfl⟩ rfl rfl rfl rfl (by omega) (.inl ⟨rfl, rfl, rfl⟩) s (oneCell_bytes _) (by omega) (by omega) fun a' c' h' ho hk hsub => ?_
  conv => whnf
  refine ⟨a', c', ?_, ?_, hsub rfl⟩
  · show Value.slice a' (0 + n) c' = _
    rw [Nat.zero_add]
  · rw [Nat.zero_add] at ho
    exact ho

theorem copyE_any (h : Heap) (tg : Tag) (ht : tg ≠ (0, 1)) {t : Tag} (e : EH) (g : e.Good h t) (hn : e.n ≤ 140737488355328) :
    ACalls PR 42 #[e.val] h (fun v h' => ∃ a' c', v = .agg #[I e.term, I e.index, I e.kind, .slice a' e.n c'] ∧ Own h' tg 5 a' e.n c' 1 (bytesV e.data) ∧ Sub h h') := by
  refine acalls_of mix Try.func42 rfl rfl Try.ntmps42 Try.results42 rfl ?_; conv => whnf
  refine ABox.mk (0, 1) rfl fun b1 f1 => ?_; conv => whnf
  refine AAlloc.mk (0, 1) rfl fun b2 f2 => ?_; conv => whnf
  have s1 := f1.sub (row (0, 1) [I e.term, I e.index, I e.kind, .slice e.a e.n e.c] 34)
  have s2 := s1.trans (f2.sub (row (0, 1) [I 0, I 0, I 0, .slice none 0 0] 34))
  have k1 := f2.sub (row (0, 1) [I 0, I 0, I 0, .slice none 0 0] 34) _ _ (Heap.set_same h b1 (row (0, 1) [I e.term, I e.index, I e.kind, .slice e.a e.n e.c] 34))
  have k2 := Heap.set_same (h.set b1 (row (0, 1) [I e.term, I e.index, I e.kind, .slice e.a e.n e.c] 34)) b2 (row (0, 1) [I 0, I 0, I 0, .slice none 0 0] 34)
  have h12 : b1 ≠ b2 := f2.ne (Heap.set_same h b1 (row (0, 1) [I e.term, I e.index, I e.kind, .slice e.a e.n e.c] 34))
  refine ALoad.one rfl k1 rfl ?_; conv => whnf
  refine ACalls.mono (copyB_any _ tg (Sl.sub g s2) hn) ?_
  rintro v h' ⟨a', c', rfl, hsl, hsub⟩
  conv => whnf
  have k1' := hsub _ _ k1
  have k2' := hsub _ _ k2
  refine AStore.one' rfl rfl rfl k1' rfl ?_; conv => whnf
  refine ALoad.agg rfl (Heap.set_same _ _ _) rfl rfl ?_; conv => whnf
  refine AStore.agg' rfl rfl rfl (Heap.set_ne (Ne.symm h12) k2') rfl ?_; conv => whnf
  refine ALoad.agg rfl (Heap.set_same _ _ _) rfl rfl ?_; conv => whnf
  refine ⟨a', c', rfl, ?_, ((s2.trans hsub).set f1.none _).set (f2.none' s1) _⟩
  exact (hsl.keepT (KeepT.set k1') ht).keepT (KeepT.set (Heap.set_ne (Ne.symm h12) k2')) ht

def may (e : EH) : Bool := isNum e.term && isNum e.index && decide (0 ≤ e.kind) && decide (e.kind ≤ 2) && decide (e.n ≤ 1200)
theorem May_any (h : Heap) (e : EH) : ACalls PR 43 #[e.val] h (fun v h' => v = .bool (may e) ∧ h = h') := by
  refine acalls_pure (acalls_of mix Try.func43 rfl rfl Try.ntmps43 Try.results43 rfl ?_); conv => whnf
  refine ABox.mk (0, 1) rfl fun b1 f1 => ?_; conv => whnf
  have s1 := f1.sub (row (0, 1) [I e.term, I e.index, I e.kind, .slice e.a e.n e.c] 34)
  have k1 := Heap.set_same h b1 (row (0, 1) [I e.term, I e.index, I e.kind, .slice e.a e.n e.c] 34)
  refine ALoad.one rfl k1 rfl ?_; conv => whnf
  refine ACalls.mono (rnumber_any e.term _) ?_; rintro _ _ ⟨rfl, rfl⟩; conv => whnf
  cases c1 : isNum e.term with
  | false =>
    conv => whnf
    exact ⟨by simp [may, c1], s1⟩
  | true =>
    conv => whnf
    refine ALoad.one rfl k1 rfl ?_; conv => whnf
    refine ACalls.mono (rnumber_any e.index _) ?_; rintro _ _ ⟨rfl, rfl⟩; conv => whnf
    cases c2 : isNum e.index with
    | false =>
      conv => whnf
      exact ⟨by simp [may, c2], s1⟩
    | true =>
      conv => whnf
      refine ALoad.one rfl k1 rfl ?_; conv => whnf
      by_cases c3 : 0 ≤ e.kind
      · refine ACmp.yes (c3) ?_; conv => whnf
        refine ALoad.one rfl k1 rfl ?_; conv => whnf
        by_cases c4 : e.kind ≤ 2
        · refine ACmp.yes (c4) ?_; conv => whnf
          refine ALoad.one rfl k1 rfl ?_; conv => whnf
          by_cases c5 : e.n ≤ 1200
          · refine ACmp.yes (by omega) ?_; conv => whnf
            exact ⟨by simp [may, c1, c2, c3, c4, c5], s1⟩
          · refine ACmp.no (by omega) ?_; conv => whnf
            exact ⟨by simp [may, c5], s1⟩
        · refine ACmp.no (c4) ?_; conv => whnf
          exact ⟨by simp [may, c4], s1⟩
      · refine ACmp.no (c3) ?_; conv => whnf
        exact ⟨by simp [may, c3], s1⟩

theorem rLast_c {h : Heap} {p o : Nat} {L : LG} (l : RL h p o L) (k : LOk L) :
    ACalls PR 26 #[.pointer (some ⟨p, 0, none⟩)] h (fun v h' => v = .tuple #[I L.last.1, I L.last.2] ∧ h = h') := by
  obtain ⟨es, a, cap, A, hes⟩ := l
  have hl : es.length = L.es.length := by rw [← hes]; simp
  have htop := k.top
  have hlo := k.lo
  have hp := A.str
  rw [← lastM_abs L hes]
  refine acalls_pure (acalls_of mix Try.func26 rfl rfl Try.ntmps26 Try.results26 rfl ?_); conv => whnf
  refine ALoad.one rfl hp rfl ?_; conv => whnf
  by_cases hn : es.length = 0
  · refine ACmp.yes (by omega) ?_; conv => whnf
    have h0 : es = [] := List.eq_nil_of_length_eq_zero hn
    refine ADrawn.mk (h) [] (Sub.refl _) (by decide +kernel) ?_; conv => whnf
    refine ALoad.one rfl hp rfl ?_; conv => whnf
    refine ALoad.one rfl hp rfl ?_; conv => whnf
    exact ⟨by subst h0; rfl, Sub.refl _⟩
  · refine ACmp.no (by omega) ?_; conv => whnf
    obtain ⟨j, hj⟩ : ∃ j, es.length = j + 1 := ⟨es.length - 1, by omega⟩
    obtain ⟨e, he⟩ : ∃ e, es[j]? = some e := ⟨es[j], by simp [hj]⟩
    have hlast : es.getLast? = some e := by rw [List.getLast?_eq_getElem?, hj]; exact he
    obtain ⟨b, off, m, E, fz, rfl, hb, hc⟩ := A.own.sl.pos (by omega)
    have g : (m.drop (off + j * 4)).take 4 = e.cells := by rw [part_of_take hc (by omega), encs_part he]
    refine ADrawn.mk (h) [13] (Sub.refl _) (by decide +kernel) ?_; conv => whnf
    refine ALoad.one rfl hp rfl ?_; conv => whnf
    refine ALoad.one rfl hp rfl ?_; conv => whnf
    refine AArith.ok (by omega) (by omega) (rfl) ?_; conv => whnf
    refine AIdx.nat (j := j) (by omega) (by omega) rfl rfl ?_; conv => whnf
    refine ALoad.agg rfl hb g rfl ?_; conv => whnf
    refine AAlloc.mk (0, 1) rfl fun b4 f4 => ?_; conv => whnf
    refine ⟨f4.sub _, ?_⟩; conv => whnf
    refine AStore.agg' rfl rfl rfl (Heap.set_same _ _ _) rfl ?_; conv => whnf
    rw [Heap.set_set]
    have k4 := Heap.set_same h b4 (row (0, 1) [I e.term, I e.index, I e.kind, .slice e.a e.n e.c] 34)
    have s4 := f4.sub (row (0, 1) [I e.term, I e.index, I e.kind, .slice e.a e.n e.c] 34)
    refine ADrawn.mk (_) [] (Sub.refl _) (by decide +kernel) ?_; conv => whnf
    refine ALoad.one rfl k4 rfl ?_; conv => whnf
    refine ALoad.one rfl k4 rfl ?_; conv => whnf
    exact ⟨by simp [lastM, hlast], s4⟩
end Go.Ah
