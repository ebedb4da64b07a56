/- Walks of package ledger: New, check, Term, Has, Get, Cut. -/
import Derived.Test.YtmlgbkighdiniaaLedC
import Derived.Laws.StructEq
namespace Go.Ah
open Go.Proofs
set_option linter.unusedVariables false
set_option linter.unusedSimpArgs false

/-- what is wrong with an entry behind a mark -/
def chk (e : EH) (m : Int × Int) : Int :=
  if isNum e.term = false ∨ isNum e.index = false ∨ e.kind < 0 ∨ 2 < e.kind ∨ 1200 < e.n then 2 else if e.index ≠ m.1 + 1 then 170 else if e.term < m.2 then 2 else 0

theorem check_any (h : Heap) (e : EH) (m : Int × Int) (h0 : 0 ≤ m.1) (h1 : m.1 ≤ 9007199254740992) :
    ACalls PR 39 #[e.val, .agg #[I m.1, I m.2]] h (fun v h' => v = I (chk e m) ∧ h = h') := by
  refine acalls_pure (acalls_of mix Try.func39 rfl rfl Try.ntmps39 Try.results39 rfl ?_); conv => whnf
  refine ABox.mk (0, 1) rfl fun b1 f1 => ?_; conv => whnf
  refine ABox.mk (0, 1) rfl fun b2 f2 => ?_; conv => whnf
  have s1 := f1.sub (row (0, 1) [I e.term, I e.index, I e.kind, .slice e.a e.n e.c] 34)
  have s2 := s1.trans (f2.sub (row (0, 1) [I m.1, I m.2] 66))
  have k1 := f2.sub (row (0, 1) [I m.1, I m.2] 66) _ _ (Heap.set_same h b1 (row (0, 1) [I e.term, I e.index, I e.kind, .slice e.a e.n e.c] 34))
  have k2 := Heap.set_same (h.set b1 (row (0, 1) [I e.term, I e.index, I e.kind, .slice e.a e.n e.c] 34)) b2 (row (0, 1) [I m.1, I m.2] 66)
  refine ALoad.one rfl k1 rfl ?_; conv => whnf
  refine ACalls.mono (number_any e.term _) ?_; rintro _ _ ⟨rfl, rfl⟩; conv => whnf
  have wrong : ∀ (c : isNum e.term = false ∨ isNum e.index = false ∨ e.kind < 0 ∨ 2 < e.kind ∨ 1200 < e.n), I 2 = I (chk e m) ∧ Sub h ((h.set b1 (row (0, 1) [I e.term, I e.index, I e.kind, .slice e.a e.n e.c] 34)).set b2 (row (0, 1) [I m.1, I m.2] 66)) :=
    fun c => ⟨by rw [chk, if_pos c], s2⟩
  cases c1 : isNum e.term with
  | false =>
    conv => whnf
    exact wrong (.inl c1)
  | true =>
    conv => whnf
    refine ALoad.one rfl k1 rfl ?_; conv => whnf
    refine ACalls.mono (number_any e.index _) ?_; rintro _ _ ⟨rfl, rfl⟩; conv => whnf
    cases c2 : isNum e.index with
    | false =>
      conv => whnf
      exact wrong (.inr (.inl c2))
    | true =>
      conv => whnf
      refine ALoad.one rfl k1 rfl ?_; conv => whnf
      by_cases c3 : e.kind < 0
      · refine ACmp.yes (c3) ?_; conv => whnf
        exact wrong (.inr (.inr (.inl c3)))
      · refine ACmp.no (c3) ?_; conv => whnf
        refine ALoad.one rfl k1 rfl ?_; conv => whnf
        by_cases c4 : 2 < e.kind
        · refine ACmp.yes (c4) ?_; conv => whnf
          exact wrong (.inr (.inr (.inr (.inl c4))))
        · refine ACmp.no (c4) ?_; conv => whnf
          refine ALoad.one rfl k1 rfl ?_; conv => whnf
          by_cases c5 : 1200 < e.n
          · refine ACmp.yes (by omega) ?_; conv => whnf
            exact wrong (.inr (.inr (.inr (.inr c5))))
          · refine ACmp.no (by omega) ?_; conv => whnf
            have hno : ¬ (isNum e.term = false ∨ isNum e.index = false ∨ e.kind < 0 ∨ 2 < e.kind ∨ 1200 < e.n) := by
              rintro (c | c | c | c | c)
              · rw [c1] at c; cases c
              · rw [c2] at c; cases c
              · exact c3 c
              · exact c4 c
              · exact c5 c
            refine ALoad.one rfl k1 rfl ?_; conv => whnf
            refine ALoad.one rfl k2 rfl ?_; conv => whnf
            refine AArith.ok (by omega) (by omega) (rfl) ?_; conv => whnf
            by_cases c6 : e.index = m.1 + 1
            · refine ACmp.no (by simpa using c6) ?_; conv => whnf
              refine ALoad.one rfl k1 rfl ?_; conv => whnf
              refine ALoad.one rfl k2 rfl ?_; conv => whnf
              by_cases c7 : e.term < m.2
              · refine ACmp.yes (c7) ?_; conv => whnf
                exact ⟨by rw [chk, if_neg hno, if_neg (by simpa using c6), if_pos c7], s2⟩
              · refine ACmp.no (c7) ?_; conv => whnf
                exact ⟨by rw [chk, if_neg hno, if_neg (by simpa using c6), if_neg c7], s2⟩
            · refine ACmp.yes (c6) ?_; conv => whnf
              exact ⟨by rw [chk, if_neg hno, if_pos c6], s2⟩

/-! ### New -/
theorem AEqAgg.mark {o : Oper} {e : Env} {h : Heap} {x y : Operand} {T' : TypeId} {a b c d : Int} {K : Value → Prop} (ho : o.op = .binOp .neq 66 x y T') (hx : e.ev x = .agg #[I a, I b]) (hy : e.ev y = .agg #[I c, I d])
    (k : K (.bool (!(decide (a = c) && decide (b = d))))) : AEqAgg PR o e h K := by
  refine ⟨⟨_, fun w => ?_, k⟩⟩
  have hf : (PR.fieldsOf 66).toList = [{ name := "index", type := 3, offset := 0, embedded := false, tag := "", pkgPath := "causeway/ledger", byteOffset := 0 }, { name := "term", type := 3, offset := 1, embedded := false, tag := "", pkgPath := "causeway/ledger", byteOffset := 8 }] := by rfl
  have hpa : ∀ (x y : Int) (w : World), (part 3 #[I x, I y] 0).run PR w = .ok (I x) w := fun x y w => by
    simp [part, isAgg, underlying, Try.underlying3]
  have hpb : ∀ (x y : Int) (w : World), (part 3 #[I x, I y] 1).run PR w = .ok (I y) w := fun x y w => by
    simp [part, isAgg, underlying, Try.underlying3]
  simp only [execOp, ho, hx, hy, Sem.run_bind, run_eqGuard_agg w .neq 66 x y _ _ Try.eqGuardType66, Result.andThen_ok, run_neq_struct]
  rw [run_equalIn_struct w 9999 66 _ _ (by rfl) Try.stoodInHeld66, hf]
  simp only [Op.eqFields, ne_eq, String.reduceEq, not_false_eq_true, if_true, Sem.run_bind, hpa, hpb, Result.andThen_ok]
  rw [run_equalIn_int w 9998 3 .i64 .i64 a c Try.underlying3]
  by_cases h1 : a = c
  · subst h1
    simp [hpb, run_equalIn_int w 9998 3 .i64 .i64 b d Try.underlying3]
    by_cases h2 : b = d <;> simp [h2]
  · have : (a == c) = false := by simpa using h1
    simp [this, h1]

def okBase (i t : Int) : Bool := (decide (i = 0) && decide (t = 0)) || (isNum i && isNum t)

theorem New_any (h : Heap) (o : Nat) (ho : o ≠ 0) (i t : Int) :
    ACalls PR 13 #[I i, I t] h (fun v h' => (okBase i t = true ∧ ∃ p, v = .tuple #[.pointer (some ⟨p, 0, none⟩), I 0] ∧ LedAt h' p o i t [] none 0 ∧ Sub h h') ∨ (okBase i t = false ∧ v = .tuple #[.pointer none, I 2] ∧ Sub h h')) := by
  refine acalls_of mix Try.func13 rfl rfl Try.ntmps13 Try.results13 rfl ?_; conv => whnf
  refine AAlloc.mk (0, 1) rfl fun b1 f1 => ?_; conv => whnf
  refine AStore.agg' rfl rfl rfl (Heap.set_same _ _ _) rfl ?_; conv => whnf
  rw [Heap.set_set]
  have s1 := f1.sub (row (0, 1) [I i, I t] 66)
  refine ALoad.agg rfl (Heap.set_same _ _ _) rfl rfl ?_; conv => whnf
  refine AEqAgg.mark rfl rfl rfl ?_; conv => whnf
  have made : ∀ (e : Env) (K : okBase i t = true), True := fun _ _ => trivial
  have hled : ∀ b2, Fresh (h.set b1 (row (0, 1) [I i, I t] 66)) b2 → LedAt ((h.set b1 (row (0, 1) [I i, I t] 66)).set b2 (row (o, 0) [.bool true, I i, I t, .slice none 0 0] 68)) b2 o i t [] none 0 :=
    fun b2 f2 => ⟨Heap.set_same _ _ _, .inl ⟨rfl, rfl, rfl⟩, by simp, by simp⟩
  by_cases hz : i = 0 ∧ t = 0
  · have e1 : (!(decide (i = 0) && decide (t = 0))) = false := by simp [hz.1, hz.2]
    rw [e1]
    conv => whnf
    refine ALoad.agg rfl (Heap.set_same _ _ _) rfl rfl ?_; conv => whnf
    refine ABox.mk (o, 0) rfl fun b2 f2 => ?_; conv => whnf
    exact .inl ⟨by simp [okBase, hz.1, hz.2], b2, rfl, hled b2 f2, s1.trans (f2.sub _)⟩
  · have e1 : (!(decide (i = 0) && decide (t = 0))) = true := by
      by_cases c : i = 0
      · have : ¬ t = 0 := fun d => hz ⟨c, d⟩
        simp [this]
      · simp [c]
    have e2 : (decide (i = 0) && decide (t = 0)) = false := by cases hh : (decide (i = 0) && decide (t = 0)) <;> simp_all
    rw [e1]
    conv => whnf
    refine ACalls.mono (number_any i _) ?_; rintro _ _ ⟨rfl, rfl⟩; conv => whnf
    cases c1 : isNum i with
    | false =>
      conv => whnf
      exact .inr ⟨by simp [okBase, e2, c1], rfl, s1⟩
    | true =>
      conv => whnf
      refine ACalls.mono (number_any t _) ?_; rintro _ _ ⟨rfl, rfl⟩; conv => whnf
      cases c2 : isNum t with
      | false =>
        conv => whnf
        exact .inr ⟨by simp [okBase, e2, c1, c2], rfl, s1⟩
      | true =>
        conv => whnf
        refine ALoad.agg rfl (Heap.set_same _ _ _) rfl rfl ?_; conv => whnf
        refine ABox.mk (o, 0) rfl fun b2 f2 => ?_; conv => whnf
        exact .inl ⟨by simp [okBase, c1, c2], b2, rfl, hled b2 f2, s1.trans (f2.sub _)⟩

/-! ### Term, Has, Get -/
/-- an entry's or the base's term -/
def termR (bi bt : Int) (es : List EH) (i : Int) : Int × Int :=
  if i = bi then (bt, 0) else match es[(i - bi - 1).toNat]? with
    | some e => if bi < i then (e.term, 0) else (0, 9)
    | none => (0, 9)

theorem at_some {bi : Int} {es : List EH} {i : Int} (h1 : bi < i) (h2 : i ≤ bi + es.length) : ∃ (k : Nat) (e : EH), i - bi - 1 = k ∧ es[k]? = some e ∧ k < es.length :=
  ⟨(i - bi - 1).toNat, es[(i - bi - 1).toNat]'(by omega), by omega, by simp, by omega⟩

theorem Term_any {h : Heap} {p o : Nat} {bi bt : Int} {es : List EH} {a : Option Addr} {cap : Nat} (L : LedAt h p o bi bt es a cap) (S : Seq bi es) (i : Int) :
    ACalls PR 31 #[.pointer (some ⟨p, 0, none⟩), I i] h (fun v h' => v = .tuple #[I (termR bi bt es i).1, I (termR bi bt es i).2] ∧ h = h') := by
  refine acalls_pure (acalls_of mix Try.func31 rfl rfl Try.ntmps31 Try.results31 rfl ?_); conv => whnf
  refine ACalls.mono (none_any _ p _ _ _ L.str) ?_; rintro _ _ ⟨rfl, rfl⟩; conv => whnf
  refine ALoad.one rfl L.str rfl ?_; conv => whnf
  by_cases c0 : i = bi
  · refine ACmp.yes (c0) ?_; conv => whnf
    refine ALoad.one rfl L.str rfl ?_; conv => whnf
    exact ⟨by simp [termR, c0], Sub.refl _⟩
  · refine ACmp.no (c0) ?_; conv => whnf
    refine ACalls.mono (at_any L S i false) ?_; rintro _ _ ⟨rfl, rfl⟩; conv => whnf
    by_cases c1 : bi < i ∧ i ≤ bi + es.length
    · obtain ⟨k, e, hk, he, hlt⟩ := at_some c1.1 c1.2
      have hr : atR bi es.length i false = ((k : Int), 0) := by rw [atR, if_pos (by simp; omega), hk]
      rw [hr]
      conv => whnf
      refine ACmp.no (by simp) ?_; conv => whnf
      obtain ⟨b, off, l, E, fz, rfl, hb, hc⟩ := L.own.sl.pos (by omega)
      refine ALoad.one rfl L.str rfl ?_; conv => whnf
      refine AIdx.nat rfl hlt rfl rfl ?_; conv => whnf
      have g0 : l[off + k * 4]? = some (I e.term) := by rw [get_of_take hc (by omega)]; exact (encs_get (j := 0) he (by omega))
      refine ALoad.one rfl hb g0 ?_; conv => whnf
      refine ⟨?_, Sub.refl _⟩
      rw [termR, if_neg c0, hk, Int.toNat_natCast, he]
      simp only []
      rw [if_pos c1.1]
    · have hr : atR bi es.length i false = (0, 9) := by rw [atR, if_neg (by simp; omega)]
      rw [hr]
      conv => whnf
      refine ACmp.yes (by simp) ?_; conv => whnf
      refine ⟨?_, Sub.refl _⟩
      rw [termR, if_neg c0]
      by_cases c2 : bi < i
      · have : es[(i - bi - 1).toNat]? = none := by rw [List.getElem?_eq_none]; omega
        rw [this]
      · cases es[(i - bi - 1).toNat]? with
        | none => rfl
        | some e => simp only []; rw [if_neg c2]

theorem Has_any {h : Heap} {p o : Nat} {bi bt : Int} {es : List EH} {a : Option Addr} {cap : Nat} (L : LedAt h p o bi bt es a cap) (S : Seq bi es) (i t : Int) :
    ACalls PR 33 #[.pointer (some ⟨p, 0, none⟩), I i, I t] h (fun v h' => v = .bool (decide ((termR bi bt es i).2 = 0 ∧ (termR bi bt es i).1 = t)) ∧ h = h') := by
  refine acalls_pure (acalls_of mix Try.func33 rfl rfl Try.ntmps33 Try.results33 rfl ?_); conv => whnf
  refine ACalls.mono (Term_any L S i) ?_; rintro _ _ ⟨rfl, rfl⟩; conv => whnf
  refine ACmp.split (fun c1 => ?_) (fun c1 => ?_)
  · conv => whnf
    refine ACmp.dec ?_; conv => whnf
    exact ⟨by simp [c1], Sub.refl _⟩
  · conv => whnf
    exact ⟨by simp [c1], Sub.refl _⟩

theorem Get_some {h : Heap} {p o : Nat} {bi bt : Int} {es : List EH} {a : Option Addr} {cap : Nat} (L : LedAt h p o bi bt es a cap) (S : Seq bi es) (tg : Tag) (ht : tg ≠ (0, 1)) (i : Int) (k : Nat) (e : EH)
    (hk : i - bi - 1 = k) (he : es[k]? = some e) :
    ACalls PR 30 #[.pointer (some ⟨p, 0, none⟩), I i] h (fun v h' => ∃ a' c', v = .tuple #[.agg #[I e.term, I e.index, I e.kind, .slice a' e.n c'], I 0] ∧ Own h' tg 5 a' e.n c' 1 (bytesV e.data) ∧ Sub h h') := by
  have hlt : k < es.length := (List.getElem?_eq_some_iff.1 he).1
  have hn : e.n ≤ 140737488355328 := by have := L.small e (List.mem_of_getElem? he); omega
  refine acalls_of mix Try.func30 rfl rfl Try.ntmps30 Try.results30 rfl ?_; conv => whnf
  refine AAlloc.mk (0, 1) rfl fun b1 f1 => ?_; conv => whnf
  have s1 := f1.sub (row (0, 1) [I 0, I 0, I 0, .slice none 0 0] 34)
  have k1 := Heap.set_same h b1 (row (0, 1) [I 0, I 0, I 0, .slice none 0 0] 34)
  have L' : LedAt (h.set b1 (row (0, 1) [I 0, I 0, I 0, .slice none 0 0] 34)) p o bi bt es a cap := ⟨s1 _ _ L.str, L.own.move fun _ _ x => s1 _ _ x, fun x hx => Sl.sub (L.good x hx) s1, L.small⟩
  refine ACalls.mono (at_any L' S i false) ?_; rintro _ _ ⟨rfl, rfl⟩; conv => whnf
  have hr : atR bi es.length i false = ((k : Int), 0) := by rw [atR, if_pos (by simp; omega), hk]
  rw [hr]
  conv => whnf
  refine ACmp.no (by simp) ?_; conv => whnf
  obtain ⟨b, off, l, E, fz, rfl, hb, hc⟩ := L'.own.sl.pos (by omega)
  refine ALoad.one rfl L'.str rfl ?_; conv => whnf
  refine AIdx.nat rfl hlt rfl rfl ?_; conv => whnf
  have g : (l.drop (off + k * 4)).take 4 = e.cells := by rw [part_of_take hc (by omega), encs_part he]
  refine ALoad.agg rfl hb g rfl ?_; conv => whnf
  refine ACalls.mono (own_any _ tg ht e (L'.good e (List.mem_of_getElem? he)) hn) ?_
  rintro v h' ⟨a', c', rfl, hsl, hsub⟩
  conv => whnf
  refine AStore.agg' rfl rfl rfl (hsub _ _ k1) rfl ?_; conv => whnf
  refine ALoad.agg rfl (Heap.set_same _ _ _) rfl rfl ?_; conv => whnf
  exact ⟨a', c', rfl, hsl.keepT (KeepT.set (hsub _ _ k1)) ht, (s1.trans hsub).set f1.none _⟩

theorem Get_none {h : Heap} {p o : Nat} {bi bt : Int} {es : List EH} {a : Option Addr} {cap : Nat} (L : LedAt h p o bi bt es a cap) (S : Seq bi es) (i : Int) (hi : ¬ (bi < i ∧ i ≤ bi + es.length)) :
    ACalls PR 30 #[.pointer (some ⟨p, 0, none⟩), I i] h (fun v h' => v = .tuple #[.agg #[I 0, I 0, I 0, .slice none 0 0], I 9] ∧ h = h') := by
  refine acalls_pure (acalls_of mix Try.func30 rfl rfl Try.ntmps30 Try.results30 rfl ?_); conv => whnf
  refine AAlloc.mk (0, 1) rfl fun b1 f1 => ?_; conv => whnf
  have s1 := f1.sub (row (0, 1) [I 0, I 0, I 0, .slice none 0 0] 34)
  have k1 := Heap.set_same h b1 (row (0, 1) [I 0, I 0, I 0, .slice none 0 0] 34)
  have L' : LedAt (h.set b1 (row (0, 1) [I 0, I 0, I 0, .slice none 0 0] 34)) p o bi bt es a cap := ⟨s1 _ _ L.str, L.own.move fun _ _ x => s1 _ _ x, fun x hx => Sl.sub (L.good x hx) s1, L.small⟩
  refine ACalls.mono (at_any L' S i false) ?_; rintro _ _ ⟨rfl, rfl⟩; conv => whnf
  have hr : atR bi es.length i false = (0, 9) := by rw [atR, if_neg (by simp; omega)]
  rw [hr]
  conv => whnf
  refine ACmp.yes (by simp) ?_; conv => whnf
  refine AStore.agg' rfl rfl rfl k1 rfl ?_; conv => whnf
  refine ALoad.agg rfl (Heap.set_same _ _ _) rfl rfl ?_; conv => whnf
  exact ⟨rfl, s1.set f1.none _⟩
end Go.Ah
