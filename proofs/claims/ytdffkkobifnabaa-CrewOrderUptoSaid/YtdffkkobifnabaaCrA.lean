/- Walks of the crew's small functions. -/
import Derived.Test.YtdffkkobifnabaaCrP
import Derived.Test.YtdffkkobifnabaaProg
import Derived.Below
namespace Go.Ah
open Go.Proofs
set_option linter.unusedVariables false
set_option linter.unusedSimpArgs false

noncomputable abbrev PR : Program := Try.prog
theorem mix : PR.follows .mixedOrders = true := by rfl
theorem acalls_pure {f : FuncId} {args : Array Value} {h : Heap} {Q : Value → Prop} (c : ACalls PR f args h (fun v h' => Q v ∧ Sub h h')) : ACalls PR f args h (fun v h' => Q v ∧ h = h') :=
  c.drop fun v h' ⟨q, s⟩ => ⟨h, s, q, rfl⟩
abbrev I (x : Int) : Value := .int .i64 x

/-! ### an owner that no block has -/
def NoOwner (o : Nat) (h : Heap) : Prop := ∀ b t x, h b = some (t, x) → t.1 ≠ o
theorem Keep.toSub {o : Nat} {h h' : Heap} (k : Keep o h h') (n : NoOwner o h) : Sub h h' := fun b ⟨t, x⟩ e => k _ _ _ (n _ _ _ e) e
/-- no block's owner is so great -/
def Bound (o : Nat) (h : Heap) : Prop := ∀ b t x, h b = some (t, x) → t.1 < o
theorem Bound.no {o o' : Nat} {h : Heap} (k : Bound o h) (ho : o ≤ o') : NoOwner o' h := fun b t x e => by have := k b t x e; omega
theorem exists_bound (h : Heap) : ∀ n : Nat, ∃ o, o ≠ 0 ∧ ∀ b t x, b < n → h b = some (t, x) → t.1 < o
  | 0 => ⟨1, by omega, fun b t x hb => absurd hb (by omega)⟩
  | n + 1 => by
    obtain ⟨o, ho, k⟩ := exists_bound h n
    cases hn : h n with
    | none =>
      refine ⟨o, ho, fun b t x hb e => ?_⟩
      by_cases c : b = n
      · subst c; rw [hn] at e; cases e
      · exact k b t x (by omega) e
    | some y =>
      refine ⟨o + y.1.1 + 1, by omega, fun b t x hb e => ?_⟩
      by_cases c : b = n
      · subst c; rw [hn] at e; cases e; simp only []; omega
      · have := k b t x (by omega) e; omega
theorem exists_owner {h : Heap} {w : World} (hr : Rel h w) : ∃ o, o ≠ 0 ∧ Bound o h := by
  obtain ⟨o, ho, k⟩ := exists_bound h w.heap.size
  exact ⟨o, ho, fun b t x e => k b t x (hr.fresh _ _ e) e⟩
theorem ACalls.owner {P : Program} {f : FuncId} {args : Array Value} {h : Heap} {R : Value → Heap → Prop} (hp : Plain P f) (k : ∀ o, o ≠ 0 → Bound o h → ACalls P f args h R) : ACalls P f args h R :=
  ⟨hp, fun β w hr => by obtain ⟨o, ho, hn⟩ := exists_owner hr.rel; exact (k o ho hn).out β w hr⟩

/-! ### the machine's world -/
def heapOf (w : World) : Heap := fun b => (w.heap[b]?).map fun o => ((0, 0), o)
theorem heapOf_rel (w : World) : RelB ⟨w.os, w.tape, w.output, w.heap.size⟩ (heapOf w) w :=
  ⟨fun b t o e => by
    unfold heapOf at e
    cases hb : w.heap[b]? with
    | none => rw [hb] at e; cases e
    | some x => rw [hb] at e; simp only [Option.map_some, Option.some.injEq, Prod.mk.injEq] at e; rw [e.2], rfl, rfl, rfl, Nat.le_refl _⟩

theorem top {f : FuncId} {args : Array Value} {w : World} (c : ACalls PR f args (heapOf w) (fun v h' => v = .bool true ∧ heapOf w = h')) :
    Calls PR f args w fun e w' => e = .returned (.bool true) ∧ _root_.Go.RowKit.Below w.heap.size w w' := by
  refine (c.out _ w (heapOf_rel w)).mono fun e w' ⟨v, h', he, hr, hv, hs⟩ => ⟨by rw [he, hv], hr.os, hr.tape, hr.out, hr.size, fun k hk => ?_⟩
  subst hs
  have h1 : heapOf w k = some ((0, 0), w.heap[k]) := by unfold heapOf; simp [hk]
  have := hr.rel _ _ _ h1
  rw [this]; simp [hk]

/-- a slice of integers that came in -/
theorem sl_of_ints {k : IntKind} {w : World} {x : Addr} {len cap : Nat} {zs : List Int} (hl : len ≤ cap) (hz : zs.length = cap)
    (hc : ∀ i, i < zs.length → w.cell? (x.add i) = some (.int k (zs.getD i 0))) : Sl (heapOf w) (0, 0) (some x) len cap 1 ((zs.take len).map (.int k)) := by
  refine ⟨by simp; omega, hl, ?_⟩
  rcases Nat.eq_zero_or_pos len with h0 | h0
  · exact .inl h0
  · right
    have c0 := hc 0 (by omega)
    have hx0 : x.add 0 = x := by simp [Addr.add]
    rw [hx0] at c0
    obtain ⟨b, off, spot⟩ := x
    unfold World.cell? at c0
    simp only [] at c0
    split at c0
    · rename_i c E fz hb
      cases spot with
      | some s => simp at c0
      | none =>
        refine ⟨b, off, c.toList, E, fz, rfl, ?_, ?_⟩
        · unfold heapOf; rw [hb]; rfl
        · apply List.ext_getElem?
          intro i
          rw [List.getElem?_take]
          by_cases hi : i < len
          · have := hc i (by omega)
            rw [addr_add] at this
            unfold World.cell? at this
            simp only [hb, Option.isSome_none, Bool.false_eq_true, if_false] at this
            rw [if_pos (by omega), List.getElem?_drop, Array.getElem?_toList, this]
            rw [List.getElem?_map, List.getElem?_take, if_pos hi]
            simp [show i < zs.length by omega]
          · rw [if_neg (by omega), List.getElem?_map, List.getElem?_take, if_neg hi]
            rfl
    · cases c0

/-! ### Has -/
theorem Has_any (h : Heap) (c n : Int) : ACalls PR 24 #[I c, I n] h (fun v h' => v = .bool (hasB c n) ∧ h = h') := by
  refine acalls_pure (acalls_of mix Try.func24 rfl rfl Try.ntmps24 Try.results24 rfl ?_); conv => whnf
  refine ACmp.split (fun h1 => ?_) (fun h1 => ?_)
  · conv => whnf
    refine ACmp.split (fun h2 => ?_) (fun h2 => ?_)
    · conv => whnf
      obtain ⟨j, hj, rfl⟩ : ∃ j : Nat, j < 5 ∧ n = (j : Int) + 1 := ⟨(n - 1).toNat, by omega, by omega⟩
      refine ⟨by omega, ?_⟩
      conv => whnf
      refine AInt.as ((fdiv_pow c (j + 1) (by omega))) ?_; conv => whnf
      refine AInt.as (and1 _) ?_; conv => whnf
      refine ACmp.dec ?_
      conv => whnf
      refine ⟨?_, Sub.refl _⟩
      rw [hasB_in c j hj, ← hasB_pow c j hj]
    · conv => whnf
      exact ⟨by rw [hasB_out c n (by omega)], Sub.refl _⟩
  · conv => whnf
    exact ⟨by rw [hasB_out c n (by omega)], Sub.refl _⟩

theorem refHas_any (h : Heap) (c n : Int) (hc : -9223372036854775808 ≤ c) (hc' : c ≤ 9223372036854775807) : ACalls PR 25 #[I c, I n] h (fun v h' => v = .bool (hasB c n) ∧ h = h') := by
  refine acalls_pure (acalls_of mix Try.func25 rfl rfl Try.ntmps25 Try.results25 rfl ?_); conv => whnf
  by_cases hin : 1 ≤ n ∧ n ≤ 5
  · refine ACmp.no (by omega) ?_; conv => whnf
    refine ACmp.no (by omega) ?_; conv => whnf
    obtain ⟨j, hj, rfl⟩ : ∃ j : Nat, j < 5 ∧ n = (j : Int) + 1 := ⟨(n - 1).toNat, by omega, by omega⟩
    refine ACmp.split (fun hneg => ?_) (fun hneg => ?_)
    · conv => whnf
      refine AInt.as (and62 c) ?_; conv => whnf
      generalize hc0 : ((2 * m5 c : Nat) : Int) = c0
      have hl := m5_lt c
      have h0 : 0 ≤ c0 := by omega
      have h1 : c0 ≤ 9223372036854775807 := by omega
      have hm : m5 c0 = m5 c := by
        subst hc0; show ((((2 * m5 c : Nat) : Int) / 2) % 32).toNat = m5 c; omega
      conv => whnf
      refine ALoop.mk (fun e h' => Sub h h' ∧ ∃ e0, ∃ k : Nat, e = updL 26 e0 [(0, I (c0 / 2 ^ k)), (1, I ((j : Int) + 1)), (5, I k)] ∧ k ≤ j + 1) (fun e => (j + 1) - natOf (e 5))
        ⟨Sub.refl _, _, 0, updL_self ⟨by rw [Int.pow_zero, Int.ediv_one]; rfl, rfl, rfl, trivial⟩, by omega⟩ ?_
      rintro e h2 ⟨s2, e0, k, rfl, hk⟩
      conv => whnf
      by_cases hkn : k < j + 1
      · refine ACmp.yes (by omega) ?_; conv => whnf
        refine ⟨by decide, ?_⟩
        conv => whnf
        have hq : (c0 / 2 ^ k).tdiv 2 = c0 / 2 ^ (k + 1) := by
          rw [Int.tdiv_eq_ediv_of_nonneg (Int.ediv_nonneg h0 (Int.le_of_lt (Int.pow_pos (by decide)))), Int.pow_succ, Int.ediv_ediv_of_nonneg (Int.le_of_lt (Int.pow_pos (by decide)))]
        have hq0 : 0 ≤ c0 / 2 ^ (k + 1) := Int.ediv_nonneg h0 (Int.le_of_lt (Int.pow_pos (by decide)))
        have hq1 : c0 / 2 ^ (k + 1) ≤ c0 := Int.ediv_le_self _ h0
        refine AArith.ok (by omega) (by omega) hq ?_; conv => whnf
        refine AArith.ok (by omega) (by omega) ((by omega : (k : Int) + 1 = ((k + 1 : Nat) : Int))) ?_; conv => whnf
        refine ⟨⟨s2, _, k + 1, updL_self ⟨rfl, rfl, rfl, trivial⟩, by omega⟩, ?_⟩
        show (j + 1) - (k + 1) < (j + 1) - k
        omega
      · refine ACmp.no (by omega) ?_; conv => whnf
        obtain rfl : k = j + 1 := by omega
        refine ⟨by decide, ?_⟩
        conv => whnf
        have hq0 : 0 ≤ c0 / 2 ^ (j + 1) := Int.ediv_nonneg h0 (Int.le_of_lt (Int.pow_pos (by decide)))
        refine AInt.as (Int.tmod_eq_emod_of_nonneg hq0) ?_; conv => whnf
        refine ACmp.dec ?_
        conv => whnf
        refine ⟨?_, s2⟩
        first
          | rw [hasB_in c0 j hj, ← hasB_pow c0 j hj]
          | rw [hasB_in c j hj, ← hm, ← hasB_pow c0 j hj]
    · conv => whnf
      have h0 : 0 ≤ c := by omega
      have h1 := hc'
      clear hc hc' hneg
      generalize c = c0 at h0 h1 ⊢
      refine ALoop.mk (fun e h' => Sub h h' ∧ ∃ e0, ∃ k : Nat, e = updL 26 e0 [(0, I (c0 / 2 ^ k)), (1, I ((j : Int) + 1)), (5, I k)] ∧ k ≤ j + 1) (fun e => (j + 1) - natOf (e 5))
        ⟨Sub.refl _, _, 0, updL_self ⟨by rw [Int.pow_zero, Int.ediv_one]; rfl, rfl, rfl, trivial⟩, by omega⟩ ?_
      rintro e h2 ⟨s2, e0, k, rfl, hk⟩
      conv => whnf
      by_cases hkn : k < j + 1
      · refine ACmp.yes (by omega) ?_; conv => whnf
        refine ⟨by decide, ?_⟩
        conv => whnf
        have hq : (c0 / 2 ^ k).tdiv 2 = c0 / 2 ^ (k + 1) := by
          rw [Int.tdiv_eq_ediv_of_nonneg (Int.ediv_nonneg h0 (Int.le_of_lt (Int.pow_pos (by decide)))), Int.pow_succ, Int.ediv_ediv_of_nonneg (Int.le_of_lt (Int.pow_pos (by decide)))]
        have hq0 : 0 ≤ c0 / 2 ^ (k + 1) := Int.ediv_nonneg h0 (Int.le_of_lt (Int.pow_pos (by decide)))
        have hq1 : c0 / 2 ^ (k + 1) ≤ c0 := Int.ediv_le_self _ h0
        refine AArith.ok (by omega) (by omega) hq ?_; conv => whnf
        refine AArith.ok (by omega) (by omega) ((by omega : (k : Int) + 1 = ((k + 1 : Nat) : Int))) ?_; conv => whnf
        refine ⟨⟨s2, _, k + 1, updL_self ⟨rfl, rfl, rfl, trivial⟩, by omega⟩, ?_⟩
        show (j + 1) - (k + 1) < (j + 1) - k
        omega
      · refine ACmp.no (by omega) ?_; conv => whnf
        obtain rfl : k = j + 1 := by omega
        refine ⟨by decide, ?_⟩
        conv => whnf
        have hq0 : 0 ≤ c0 / 2 ^ (j + 1) := Int.ediv_nonneg h0 (Int.le_of_lt (Int.pow_pos (by decide)))
        refine AInt.as (Int.tmod_eq_emod_of_nonneg hq0) ?_; conv => whnf
        refine ACmp.dec ?_
        conv => whnf
        refine ⟨?_, s2⟩
        first
          | rw [hasB_in c0 j hj, ← hasB_pow c0 j hj]
          | rw [hasB_in c j hj, ← hm, ← hasB_pow c0 j hj]
  · rw [hasB_out c n hin]
    by_cases h1 : n < 1
    · refine ACmp.yes (by omega) ?_; conv => whnf
      exact ⟨rfl, Sub.refl _⟩
    · refine ACmp.no (by omega) ?_; conv => whnf
      refine ACmp.yes (by omega) ?_; conv => whnf
      exact ⟨rfl, Sub.refl _⟩
end Go.Ah
