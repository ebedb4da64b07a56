/- Walks of package ledger: what makes and what answers. -/
import Derived.Test.YtmlgbkighdiniaaLedB
namespace Go.Ah
open Go.Proofs
set_option linter.unusedVariables false
set_option linter.unusedSimpArgs false

theorem oneCell_bytes (xs : List Int) : (bytesV xs).all oneCell = true := by
  simp [bytesV, oneCell]

/-- slices.Clone of bytes -/
theorem cloneB_any (h : Heap) (tg : Tag) {t : Tag} {a : Option Addr} {n c : Nat} {xs : List Int} (s : Sl h t a n c 1 (bytesV xs)) (hn : n ≤ 140737488355328) :
    ACalls PR 53 #[.slice a n c] h (fun v h' => ∃ a' c', v = .slice a' n c' ∧ Own h' tg 5 a' n c' 1 (bytesV xs) ∧ Sub h h') := by
  refine acalls_of mix Try.func53 rfl rfl Try.ntmps53 Try.results53 rfl ?_; conv => whnf
  cases a with
  | none =>
    have hn0 : n = 0 := by
      rcases Nat.eq_zero_or_pos n with h0 | h0
      · exact h0
      · obtain ⟨b, off, l, E, fz, e, _⟩ := s.pos h0
        cases e
    subst hn0
    have : bytesV xs = [] := List.eq_nil_of_length_eq_zero (by rw [s.len])
    conv => whnf
    exact ⟨none, 0, rfl, by rw [this]; exact .inl ⟨rfl, rfl, rfl⟩, Sub.refl _⟩
  | some ad =>
    conv => whnf
    refine ABuildSl.empty tg rfl rfl fun b fb => ?_; conv => whnf
    refine AAppend.own (t := tg) (E := 5) (z := 1) (by_ := 1) (zero := [.int .u8 0]) (cs := []) rfl ⟨_, rfl⟩ rfl rfl rfl rfl (by omega) (.inl ⟨rfl, rfl, rfl⟩) (s.sub (fb.sub _)) (oneCell_bytes _) (by omega) (by omega) fun a' c' h' ho hk hsub => ?_
    conv => whnf
    refine ⟨a', c', ?_, ?_, (fb.sub _).trans (hsub rfl)⟩
    · show Value.slice a' (0 + n) c' = _
      rw [Nat.zero_add]
    · rw [Nat.zero_add] at ho
      exact ho

/-- own -/
theorem own_any (h : Heap) (tg : Tag) (ht : tg ≠ (0, 1)) {t : Tag} (e : EH) (g : e.Good h t) (hn : e.n ≤ 140737488355328) :
    ACalls PR 40 #[e.val] h (fun v h' => ∃ a' c', v = .agg #[I e.term, I e.index, I e.kind, .slice a' e.n c'] ∧ Own h' tg 5 a' e.n c' 1 (bytesV e.data) ∧ Sub h h') := by
  refine acalls_of mix Try.func40 rfl rfl Try.ntmps40 Try.results40 rfl ?_; conv => whnf
  refine ABox.mk (0, 1) rfl fun b1 f1 => ?_; conv => whnf
  refine AAlloc.mk (0, 1) rfl fun b2 f2 => ?_; conv => whnf
  have s1 := f1.sub (row (0, 1) [I e.term, I e.index, I e.kind, .slice e.a e.n e.c] 34)
  have s2 := s1.trans (f2.sub (row (0, 1) [I 0, I 0, I 0, .slice none 0 0] 34))
  have k1 := f2.sub (row (0, 1) [I 0, I 0, I 0, .slice none 0 0] 34) _ _ (Heap.set_same h b1 (row (0, 1) [I e.term, I e.index, I e.kind, .slice e.a e.n e.c] 34))
  have k2 := Heap.set_same (h.set b1 (row (0, 1) [I e.term, I e.index, I e.kind, .slice e.a e.n e.c] 34)) b2 (row (0, 1) [I 0, I 0, I 0, .slice none 0 0] 34)
  have h12 : b1 ≠ b2 := f2.ne (Heap.set_same h b1 (row (0, 1) [I e.term, I e.index, I e.kind, .slice e.a e.n e.c] 34))
  refine ALoad.one rfl k1 rfl ?_; conv => whnf
  refine ACalls.mono (cloneB_any _ tg (Sl.sub g s2) hn) ?_
  rintro v h' ⟨a', c', rfl, hsl, hsub⟩
  conv => whnf
  have k1' := hsub _ _ k1
  have k2' := hsub _ _ k2
  refine AStore.one' rfl rfl rfl k1' rfl ?_; conv => whnf
  refine ALoad.agg rfl (Heap.set_same _ _ _) rfl rfl ?_; conv => whnf
  refine AStore.agg' rfl rfl rfl (Heap.set_ne (Ne.symm h12) k2') rfl ?_; conv => whnf
  refine ALoad.agg rfl (Heap.set_same _ _ _) rfl rfl ?_; conv => whnf
  refine ⟨a', c', rfl, ?_, ((s2.trans hsub).set f1.none _).set (f2.none' s1) _⟩
  exact (hsl.keepT (KeepT.set k1') ht).keepT (KeepT.set (Heap.set_ne (Ne.symm h12) k2')) ht

/-- an entry as the statements write them -/
def b8 (x : Int) : Int := IntKind.u8.wrap x
theorem one_any (h : Heap) (tg : Tag) (ht : tg ≠ (0, 1)) (index term : Int) :
    ACalls PR 17 #[I index, I term] h (fun v h' => ∃ a' c', v = .agg #[I term, I index, I 1, .slice a' 2 c'] ∧ Sl h' tg a' 2 c' 1 (bytesV [b8 index, b8 term]) ∧ Sub h h') := by
  refine acalls_of mix Try.func17 rfl rfl Try.ntmps17 Try.results17 rfl ?_; conv => whnf
  refine AAlloc.mk (0, 1) rfl fun b1 f1 => ?_; conv => whnf
  refine AArith.raw ?_; conv => whnf
  refine AArith.raw ?_; conv => whnf
  refine ABuildSl.mk tg rfl rfl rfl rfl rfl rfl rfl fun b2 f2 => ?_; conv => whnf
  have s1 := f1.sub (row (0, 1) [I 0, I 0, I 0, .slice none 0 0] 34)
  have k1 := f2.sub (row tg [.int .u8 (b8 index), .int .u8 (b8 term)] 5) _ _ (Heap.set_same h b1 (row (0, 1) [I 0, I 0, I 0, .slice none 0 0] 34))
  have h12 : b1 ≠ b2 := f2.ne (Heap.set_same h b1 (row (0, 1) [I 0, I 0, I 0, .slice none 0 0] 34))
  refine AStore.agg' rfl rfl rfl k1 rfl ?_; conv => whnf
  refine ALoad.agg rfl (Heap.set_same _ _ _) rfl rfl ?_; conv => whnf
  refine ⟨some ⟨b2, 0, none⟩, 2, rfl, ?_, (s1.trans (f2.sub _)).set f1.none _⟩
  exact ⟨rfl, Nat.le_refl _, .inr ⟨b2, 0, _, _, _, rfl, Heap.set_ne (Ne.symm h12) (Heap.set_same _ _ _), rfl⟩⟩

/-! ### what answers -/
/-- the indexes are in sequence -/
structure Seq (bi : Int) (es : List EH) : Prop where
  idx : ∀ (k : Nat) (e : EH), es[k]? = some e → e.index = bi + 1 + k
  lo : 0 ≤ bi
  top : bi + es.length ≤ 9007199254740991

theorem Seq.last {bi bt : Int} {es : List EH} (s : Seq bi es) : (lastM bi bt es).1 = bi + es.length := by
  unfold lastM
  cases hn : es.length with
  | zero => have : es = [] := List.eq_nil_of_length_eq_zero hn; subst this; simp
  | succ n =>
    obtain ⟨e, he⟩ : ∃ e, es[n]? = some e := ⟨es[n]'(by omega), by simp [hn]⟩
    have hl : es.getLast? = some e := by rw [List.getLast?_eq_getElem?, hn]; exact he
    rw [hl]
    have := s.idx n _ he
    simp only [this]; omega

theorem Last_any {h : Heap} {p o : Nat} {bi bt : Int} {es : List EH} {a : Option Addr} {cap : Nat} (L : LedAt h p o bi bt es a cap) (hlen : es.length ≤ 9007199254740992) :
    ACalls PR 35 #[.pointer (some ⟨p, 0, none⟩)] h (fun v h' => v = .tuple #[I (lastM bi bt es).1, I (lastM bi bt es).2] ∧ h = h') := by
  refine acalls_pure (acalls_of mix Try.func35 rfl rfl Try.ntmps35 Try.results35 rfl ?_); conv => whnf
  refine ACalls.mono (none_any _ p _ _ _ L.str) ?_; rintro _ _ ⟨rfl, rfl⟩; conv => whnf
  refine ACalls.mono (last_any _ p o bi bt es a cap L hlen) ?_; rintro _ _ ⟨rfl, rfl⟩; conv => whnf
  refine AAlloc.mk (0, 1) rfl fun b1 f1 => ?_; conv => whnf
  refine AStore.agg' rfl rfl rfl (Heap.set_same _ _ _) rfl ?_; conv => whnf
  refine ADrawn.mk (_) [] (Sub.refl _) (by decide +kernel) ?_; conv => whnf
  refine ALoad.one rfl (Heap.set_same _ _ _) rfl ?_; conv => whnf
  refine ALoad.one rfl (Heap.set_same _ _ _) rfl ?_; conv => whnf
  refine ⟨rfl, ?_⟩
  exact (f1.sub _).set f1.none _

theorem First_any {h : Heap} {p o : Nat} {bi bt : Int} {es : List EH} {a : Option Addr} {cap : Nat} (L : LedAt h p o bi bt es a cap) (h0 : 0 ≤ bi) (h1 : bi ≤ 9007199254740991) :
    ACalls PR 29 #[.pointer (some ⟨p, 0, none⟩)] h (fun v h' => v = I (bi + 1) ∧ h = h') := by
  refine acalls_pure (acalls_of mix Try.func29 rfl rfl Try.ntmps29 Try.results29 rfl ?_); conv => whnf
  refine ACalls.mono (none_any _ p _ _ _ L.str) ?_; rintro _ _ ⟨rfl, rfl⟩; conv => whnf
  refine ALoad.one rfl L.str rfl ?_; conv => whnf
  refine AArith.ok (by omega) (by omega) (rfl) ?_; conv => whnf
  exact ⟨rfl, Sub.refl _⟩

/-- where an index stands: the place, and the error -/
def atR (bi : Int) (len : Nat) (i : Int) (fin : Bool) : Int × Int :=
  if bi < i ∧ i ≤ bi + len + (if fin = true then 1 else 0) then (i - bi - 1, 0) else (0, 9)

theorem at_any {h : Heap} {p o : Nat} {bi bt : Int} {es : List EH} {a : Option Addr} {cap : Nat} (L : LedAt h p o bi bt es a cap) (S : Seq bi es) (i : Int) (fin : Bool) :
    ACalls PR 44 #[.pointer (some ⟨p, 0, none⟩), I i, .bool fin] h (fun v h' => v = .tuple #[I (atR bi es.length i fin).1, I (atR bi es.length i fin).2] ∧ h = h') := by
  have hlast := S.last (bt := bt)
  have h0 := S.lo
  have h1 := S.top
  refine acalls_pure (acalls_of mix Try.func44 rfl rfl Try.ntmps44 Try.results44 rfl ?_); conv => whnf
  refine ACalls.mono (none_any _ p _ _ _ L.str) ?_; rintro _ _ ⟨rfl, rfl⟩; conv => whnf
  refine ACalls.mono (last_any _ p o bi bt es a cap L (by omega)) ?_; rintro _ _ ⟨rfl, rfl⟩; conv => whnf
  cases fin with
  | false =>
    conv => whnf
    refine ALoad.one rfl L.str rfl ?_; conv => whnf
    by_cases c1 : i ≤ bi
    · refine ACmp.yes (c1) ?_; conv => whnf
      exact ⟨by rw [atR, if_neg (by omega)], Sub.refl _⟩
    · refine ACmp.no (c1) ?_; conv => whnf
      by_cases c2 : bi + es.length < i
      · refine ACmp.yes (by rw [hlast]; exact c2) ?_; conv => whnf
        exact ⟨by rw [atR, if_neg (by simp; omega)], Sub.refl _⟩
      · refine ACmp.no (by rw [hlast]; exact c2) ?_; conv => whnf
        refine ALoad.one rfl L.str rfl ?_; conv => whnf
        refine AArith.ok (by omega) (by omega) (rfl) ?_; conv => whnf
        refine AArith.ok (by omega) (by omega) (rfl) ?_; conv => whnf
        exact ⟨by rw [atR, if_pos (by simp; omega)], Sub.refl _⟩
  | true =>
    conv => whnf
    refine AArith.ok (by omega) (by omega) (rfl) ?_; conv => whnf
    refine ALoad.one rfl L.str rfl ?_; conv => whnf
    by_cases c1 : i ≤ bi
    · refine ACmp.yes (c1) ?_; conv => whnf
      exact ⟨by rw [atR, if_neg (by omega)], Sub.refl _⟩
    · refine ACmp.no (c1) ?_; conv => whnf
      by_cases c2 : bi + es.length + 1 < i
      · refine ACmp.yes (by rw [hlast]; exact c2) ?_; conv => whnf
        exact ⟨by rw [atR, if_neg (by simp; omega)], Sub.refl _⟩
      · refine ACmp.no (by rw [hlast]; exact c2) ?_; conv => whnf
        refine ALoad.one rfl L.str rfl ?_; conv => whnf
        refine AArith.ok (by omega) (by omega) (rfl) ?_; conv => whnf
        refine AArith.ok (by omega) (by omega) (rfl) ?_; conv => whnf
        exact ⟨by rw [atR, if_pos (by simp; omega)], Sub.refl _⟩
end Go.Ah
