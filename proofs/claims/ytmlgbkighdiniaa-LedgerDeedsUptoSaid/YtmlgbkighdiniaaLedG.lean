/- The chapter's ledger (works), the ledger of the statements (filled), and the way from the machine's world to what is known of it. -/
import Derived.Test.YtmlgbkighdiniaaLedF
import Derived.Below
namespace Go.Ah
open Go.Proofs
set_option linter.unusedVariables false
set_option linter.unusedSimpArgs false

theorem New_ok (h : Heap) (o : Nat) (ho : o ≠ 0) (i t : Int) (hb : okBase i t = true) :
    ACalls PR 13 #[I i, I t] h (fun v h' => ∃ p, v = .tuple #[.pointer (some ⟨p, 0, none⟩), I 0] ∧ LedAt h' p o i t [] none 0 ∧ Sub h h') :=
  (New_any h o ho i t).mono fun v h' q => q.elim (fun x => x.2) (fun x => by rw [hb] at x; cases x.1)
theorem New_bad (h : Heap) (i t : Int) (hb : okBase i t = false) :
    ACalls PR 13 #[I i, I t] h (fun v h' => v = .tuple #[.pointer none, I 2] ∧ h = h') :=
  (New_any h 1 (by omega) i t).drop fun v h' q => q.elim (fun x => by rw [hb] at x; cases x.1) (fun x => ⟨h, x.2.2, x.2.1, rfl⟩)

theorem Append_ok {h : Heap} {p o : Nat} (ho : o ≠ 0) {bi bt : Int} {es : List EH} {a : Option Addr} {cap : Nat} (L : LedAt h p o bi bt es a cap) (S : Seq bi es)
    {t td : Tag} (ht : t.1 ≠ o) (htd : td.1 ≠ o) {xa : Option Addr} {m xc : Nat} {xs : List EH} (X : Ents h t td xa m xc xs) (hroom : (es.length + m) * 48 ≤ 140737488355328) (hz : app (lastM bi bt es) xs = 0) :
    ACalls PR 15 #[.pointer (some ⟨p, 0, none⟩), .slice xa m xc] h (fun v h' => v = I 0 ∧ ∃ es' a' cap', LedAt h' p o bi bt es' a' cap' ∧ es'.map EH.abs = (es ++ xs).map EH.abs ∧ Keep o h h') :=
  (Append_any ho L S ht htd X hroom).mono fun v h' q => q.elim (fun x => absurd hz x.1) (fun x => x.2)
theorem Append_bad {h : Heap} {p o : Nat} (ho : o ≠ 0) {bi bt : Int} {es : List EH} {a : Option Addr} {cap : Nat} (L : LedAt h p o bi bt es a cap) (S : Seq bi es)
    {t td : Tag} (ht : t.1 ≠ o) (htd : td.1 ≠ o) {xa : Option Addr} {m xc : Nat} {xs : List EH} (X : Ents h t td xa m xc xs) (hroom : (es.length + m) * 48 ≤ 140737488355328) (hz : app (lastM bi bt es) xs ≠ 0) :
    ACalls PR 15 #[.pointer (some ⟨p, 0, none⟩), .slice xa m xc] h (fun v h' => v = I (app (lastM bi bt es) xs) ∧ h = h') :=
  (Append_any ho L S ht htd X hroom).drop fun v h' q => q.elim (fun x => ⟨h, x.2.2, x.2.1, rfl⟩) (fun x => absurd x.1 hz)

/-! ### what hangs on what the entries say alone -/
theorem abs_get {xs ys : List EH} (h : xs.map EH.abs = ys.map EH.abs) (k : Nat) : (xs[k]?).map EH.abs = (ys[k]?).map EH.abs := by
  have := congrArg (fun l => l[k]?) h
  simpa using this
theorem abs_len {xs ys : List EH} (h : xs.map EH.abs = ys.map EH.abs) : xs.length = ys.length := by
  have := congrArg List.length h
  simpa using this
theorem abs_some {xs ys : List EH} (h : xs.map EH.abs = ys.map EH.abs) {k : Nat} {x : EH} (hx : xs[k]? = some x) : ∃ y, ys[k]? = some y ∧ x.abs = y.abs := by
  have := abs_get h k
  rw [hx] at this
  cases hy : ys[k]? with
  | none => rw [hy] at this; cases this
  | some y => rw [hy] at this; exact ⟨y, rfl, by simpa using this⟩
theorem Seq.congr {bi : Int} {xs ys : List EH} (s : Seq bi xs) (h : xs.map EH.abs = ys.map EH.abs) : Seq bi ys := by
  refine ⟨fun k e he => ?_, s.lo, by rw [← abs_len h]; exact s.top⟩
  obtain ⟨x, hx, hab⟩ := abs_some h.symm he
  have := s.idx k x hx
  simp only [EH.abs, Prod.mk.injEq] at hab
  rw [hab.2.1, this]
theorem lastM_congr {bi bt : Int} {xs ys : List EH} (h : xs.map EH.abs = ys.map EH.abs) : lastM bi bt xs = lastM bi bt ys := by
  unfold lastM
  have e1 : (xs.getLast?).map EH.abs = (ys.getLast?).map EH.abs := by
    rw [List.getLast?_eq_getElem?, List.getLast?_eq_getElem?, abs_len h]; exact abs_get h _
  cases hx : xs.getLast? with
  | none => cases hy : ys.getLast? with
    | none => rfl
    | some y => rw [hx, hy] at e1; cases e1
  | some x => cases hy : ys.getLast? with
    | none => rw [hx, hy] at e1; cases e1
    | some y =>
      rw [hx, hy] at e1
      simp only [Option.map_some, Option.some.injEq, EH.abs, Prod.mk.injEq] at e1
      simp [e1]
theorem termR_congr {bi bt : Int} {xs ys : List EH} (h : xs.map EH.abs = ys.map EH.abs) (i : Int) : termR bi bt xs i = termR bi bt ys i := by
  unfold termR
  have e1 := abs_get h (i - bi - 1).toNat
  cases hx : xs[(i - bi - 1).toNat]? with
  | none => cases hy : ys[(i - bi - 1).toNat]? with
    | none => rfl
    | some y => rw [hx, hy] at e1; cases e1
  | some x => cases hy : ys[(i - bi - 1).toNat]? with
    | none => rw [hx, hy] at e1; cases e1
    | some y =>
      rw [hx, hy] at e1
      simp only [Option.map_some, Option.some.injEq, EH.abs, Prod.mk.injEq] at e1
      simp [e1]

theorem Seq.nil {bi : Int} (h0 : 0 ≤ bi) (h1 : bi ≤ 9007199254740991) : Seq bi [] := ⟨fun k e he => by simp at he, h0, by simpa using h1⟩
theorem Seq.take {bi : Int} {es : List EH} (s : Seq bi es) (k : Nat) : Seq bi (es.take k) := by
  refine ⟨fun j e he => ?_, s.lo, ?_⟩
  · rw [List.getElem?_take] at he
    split at he
    · exact s.idx j e he
    · cases he
  · have := s.top
    have : (es.take k).length ≤ es.length := by rw [List.length_take]; omega
    omega

/-- What is made has a sequence of its own where nothing was wrong. -/
theorem app_seq : ∀ (xs : List EH) (m : Int × Int), 0 ≤ m.1 → app m xs = 0 → (∀ (k : Nat) e, xs[k]? = some e → e.index = m.1 + 1 + k) ∧ (xs ≠ [] → m.1 + xs.length ≤ 9007199254740991)
  | [], m, _, _ => ⟨fun k e he => by simp at he, fun h => absurd rfl h⟩
  | x :: r, m, h0, h => by
    unfold app at h
    split at h
    · rename_i hz
      obtain ⟨c1, c2, c3, c4, c5, c6, c7⟩ := chk_zero hz
      have c2 := isNum_iff.1 c2
      obtain ⟨i1, i2⟩ := app_seq r (x.index, x.term) (by simp only []; omega) h
      refine ⟨fun k e he => ?_, fun _ => ?_⟩
      · cases k with
        | zero => simp at he; subst he; omega
        | succ k =>
          have := i1 k e (by simpa using he)
          simp only [] at this
          rw [this]; omega
      · by_cases hr : r = []
        · subst hr; simp; omega
        · have := i2 hr
          simp only [List.length_cons] at this ⊢
          omega
    · rename_i hz; exact absurd h hz

theorem Seq.append {bi bt : Int} {es xs : List EH} (s : Seq bi es) (h : app (lastM bi bt es) xs = 0) : Seq bi (es ++ xs) := by
  have hl := s.last (bt := bt)
  have hlo := s.lo
  obtain ⟨i1, i2⟩ := app_seq xs _ (by rw [hl]; omega) h
  refine ⟨fun k e he => ?_, s.lo, ?_⟩
  · rw [List.getElem?_append] at he
    split at he
    · exact s.idx k e he
    · rename_i hk
      have := i1 _ e he
      rw [this, hl]; omega
  · by_cases hx : xs = []
    · subst hx; simpa using s.top
    · have := i2 hx
      rw [List.length_append]; rw [hl] at this; omega

/-- entries written out -/
theorem Ents.two {h : Heap} {t td : Tag} {b : Nat} {x y : EH} (hb : h b = some (row t (x.cells ++ y.cells) 34)) (gx : x.Good h td) (gy : y.Good h td) (sx : x.n ≤ 1200) (sy : y.n ≤ 1200) : Ents h t td (some ⟨b, 0, none⟩) 2 2 [x, y] :=
  ⟨⟨rfl, Nat.le_refl _, .inr ⟨b, 0, _, _, _, rfl, hb, by simp [encs, EH.cells]⟩⟩, by simp; exact ⟨gx, gy⟩, by simp; omega⟩
theorem Ents.one {h : Heap} {t td : Tag} {b : Nat} {x : EH} (hb : h b = some (row t x.cells 34)) (gx : x.Good h td) (sx : x.n ≤ 1200) : Ents h t td (some ⟨b, 0, none⟩) 1 1 [x] :=
  ⟨⟨rfl, Nat.le_refl _, .inr ⟨b, 0, _, _, _, rfl, hb, by simp [encs, EH.cells]⟩⟩, by simp; exact gx, by simp; omega⟩

/-- a slice of integers that came in -/
theorem sl_of_ints {k : IntKind} {w : World} {x : Addr} {len cap : Nat} {zs : List Int} (hl : len ≤ cap) (hz : zs.length = cap)
    (hc : ∀ i, i < zs.length → w.cell? (x.add i) = some (.int k (zs.getD i 0))) : Sl (heapOf w) (0, 0) (some x) len cap 1 ((zs.take len).map (.int k)) := by
  refine ⟨by simp; omega, hl, ?_⟩
  rcases Nat.eq_zero_or_pos len with h0 | h0
  · exact .inl h0
  · right
    have c0 := hc 0 (by omega)
    have hx0 : x.add 0 = x := by simp [Addr.add]
    rw [hx0] at c0
    obtain ⟨b, off, spot⟩ := x
    unfold World.cell? at c0
    simp only [] at c0
    split at c0
    · rename_i c E fz hb
      cases spot with
      | some s => simp at c0
      | none =>
        refine ⟨b, off, c.toList, E, fz, rfl, ?_, ?_⟩
        · unfold heapOf; rw [hb]; rfl
        · apply List.ext_getElem?
          intro i
          rw [List.getElem?_take]
          by_cases hi : i < len
          · have := hc i (by omega)
            rw [addr_add] at this
            unfold World.cell? at this
            simp only [hb, Option.isSome_none, Bool.false_eq_true, if_false] at this
            rw [if_pos (by omega), List.getElem?_drop, Array.getElem?_toList, this]
            rw [List.getElem?_map, List.getElem?_take, if_pos hi]
            simp [show i < zs.length by omega]
          · rw [if_neg (by omega), List.getElem?_map, List.getElem?_take, if_neg hi]
            rfl
    · cases c0
end Go.Ah
