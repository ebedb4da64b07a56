/- How an argument that was read lies in memory: slices of structs with slices. Owners that no block has. No program in sight. -/
import Derived.Test.YtmlgbkighdiniaaEng6
import Derived.Below
import Derived.ChangeArms
import Derived.DataReads
import Derived.SizedLaws
namespace Go.Ah
set_option linter.unusedVariables false
set_option linter.unusedSimpArgs false

/-! ### an owner that no block has -/
def NoOwner (o : Nat) (h : Heap) : Prop := ∀ b t x, h b = some (t, x) → t.1 ≠ o
theorem Keep.toSub {o : Nat} {h h' : Heap} (k : Keep o h h') (n : NoOwner o h) : Sub h h' := fun b ⟨t, x⟩ e => k _ _ _ (n _ _ _ e) e
/-- no block's owner is so great -/
def Bound (o : Nat) (h : Heap) : Prop := ∀ b t x, h b = some (t, x) → t.1 < o
theorem Bound.no {o o' : Nat} {h : Heap} (k : Bound o h) (ho : o ≤ o') : NoOwner o' h := fun b t x e => by have := k b t x e; omega
theorem exists_bound (h : Heap) : ∀ n : Nat, ∃ o, o ≠ 0 ∧ ∀ b t x, b < n → h b = some (t, x) → t.1 < o
  | 0 => ⟨1, by omega, fun b t x hb => absurd hb (by omega)⟩
  | n + 1 => by
    obtain ⟨o, ho, k⟩ := exists_bound h n
    cases hn : h n with
    | none =>
      refine ⟨o, ho, fun b t x hb e => ?_⟩
      by_cases c : b = n
      · subst c; rw [hn] at e; cases e
      · exact k b t x (by omega) e
    | some y =>
      refine ⟨o + y.1.1 + 1, by omega, fun b t x hb e => ?_⟩
      by_cases c : b = n
      · subst c; rw [hn] at e; cases e; simp only []; omega
      · have := k b t x (by omega) e; omega
theorem exists_owner {h : Heap} {w : World} (hr : Rel h w) : ∃ o, o ≠ 0 ∧ Bound o h := by
  obtain ⟨o, ho, k⟩ := exists_bound h w.heap.size
  exact ⟨o, ho, fun b t x e => k b t x (hr.fresh _ _ e) e⟩
theorem ACalls.owner {P : Program} {f : FuncId} {args : Array Value} {h : Heap} {R : Value → Heap → Prop} (hp : Plain P f) (k : ∀ o, o ≠ 0 → Bound o h → ACalls P f args h R) : ACalls P f args h R :=
  ⟨hp, fun β w hr => by obtain ⟨o, ho, hn⟩ := exists_owner hr.rel; exact (k o ho hn).out β w hr⟩

/-! ### the machine's world -/
def heapOf (w : World) : Heap := fun b => (w.heap[b]?).map fun o => ((0, 0), o)
theorem heapOf_rel (w : World) : RelB ⟨w.os, w.tape, w.output, w.heap.size⟩ (heapOf w) w :=
  ⟨fun b t o e => by
    unfold heapOf at e
    cases hb : w.heap[b]? with
    | none => rw [hb] at e; cases e
    | some x => rw [hb] at e; simp only [Option.map_some, Option.some.injEq, Prod.mk.injEq] at e; rw [e.2], rfl, rfl, rfl, Nat.le_refl _⟩
theorem heapOf_tag {w : World} {b : Nat} {t : Tag} {o : Obj} (h : heapOf w b = some (t, o)) : t = (0, 0) := by
  unfold heapOf at h
  cases hb : w.heap[b]? with
  | none => rw [hb] at h; cases h
  | some x => rw [hb] at h; simp only [Option.map_some, Option.some.injEq, Prod.mk.injEq] at h; exact h.1.symm
/-- All that came in is of one owner. -/
def AllZero (h : Heap) : Prop := ∀ b t x, h b = some (t, x) → t = (0, 0)
theorem heapOf_zero (w : World) : AllZero (heapOf w) := fun b t x e => heapOf_tag e
theorem AllZero.no {h : Heap} (z : AllZero h) {o : Nat} (ho : o ≠ 0) : NoOwner o h := fun b t x e => by rw [z b t x e]; exact Ne.symm ho
/-- What came in stays. -/
def Stays (h h' : Heap) : Prop := ∀ b x, h b = some ((0, 0), x) → h' b = some ((0, 0), x)
theorem Stays.refl (h : Heap) : Stays h h := fun _ _ x => x
theorem Sub.stays {h h' : Heap} (s : Sub h h') : Stays h h' := fun _ _ x => s _ _ x
theorem Keep.stays {o : Nat} {h h' : Heap} (k : Keep o h h') (n : o ≠ 0) : Stays h h' := fun _ _ x => k _ _ _ (Ne.symm n) x
theorem KeepT.stays {t : Tag} {h h' : Heap} (k : KeepT t h h') (n : t ≠ (0, 0)) : Stays h h' := fun _ _ x => k _ _ _ (Ne.symm n) x
theorem Stays.trans {a b c : Heap} (x : Stays a b) (y : Stays b c) : Stays a c := fun _ _ z => y _ _ (x _ _ z)
/-- What is of none of these owners stays. -/
def Keeps (os : List Nat) (h h' : Heap) : Prop := ∀ b (t : Tag) x, t.1 ∉ os → h b = some (t, x) → h' b = some (t, x)
theorem Keeps.refl (os : List Nat) (h : Heap) : Keeps os h h := fun _ _ _ _ x => x
theorem Keeps.trans {os : List Nat} {a b c : Heap} (x : Keeps os a b) (y : Keeps os b c) : Keeps os a c := fun _ _ _ n z => y _ _ _ n (x _ _ _ n z)
theorem Sub.keeps {h h' : Heap} (s : Sub h h') (os : List Nat) : Keeps os h h' := fun _ _ _ _ x => s _ _ x
theorem Keep.keeps {o : Nat} {os : List Nat} {h h' : Heap} (k : Keep o h h') (m : o ∈ os) : Keeps os h h' := fun _ _ _ n x => k _ _ _ (fun c => n (c ▸ m)) x
theorem Keeps.stays {os : List Nat} {h h' : Heap} (k : Keeps os h h') (n : 0 ∉ os) : Stays h h' := fun _ _ x => k _ _ _ n x
theorem Sl.keeps {h h' : Heap} {t : Tag} {os : List Nat} {a : Option Addr} {n cap z : Nat} {cs : List Value} (s : Sl h t a n cap z cs) (k : Keeps os h h') (ho : t.1 ∉ os) : Sl h' t a n cap z cs := s.move fun _ _ e => k _ _ _ ho e
theorem Sl.stays {h h' : Heap} {a : Option Addr} {n cap z : Nat} {cs : List Value} (s : Sl h (0, 0) a n cap z cs) (k : Stays h h') : Sl h' (0, 0) a n cap z cs := s.move fun _ _ e => k _ _ e

theorem top {P : Program} {f : FuncId} {args : Array Value} {w : World} (c : ACalls P f args (heapOf w) (fun v h' => v = .bool true ∧ Stays (heapOf w) h')) :
    Calls P f args w fun e w' => e = .returned (.bool true) ∧ _root_.Go.RowKit.Below w.heap.size w w' := by
  refine (c.out _ w (heapOf_rel w)).mono fun e w' ⟨v, h', he, hr, hv, hs⟩ => ⟨by rw [he, hv], hr.os, hr.tape, hr.out, hr.size, fun k hk => ?_⟩
  have h1 : heapOf w k = some ((0, 0), w.heap[k]) := by unfold heapOf; simp [hk]
  have := hr.rel _ _ _ (hs _ _ h1)
  rw [this]; simp [hk]

/-! ### what was read -/

/-- A property of what is read that goes down to its parts. -/
structure Hered {H : Type} (P : Program) (Q : TypeId → DataW H → Prop) : Prop where
  sl : ∀ {t e : TypeId} {es rest : List (DataW H)}, P.underlying t = some (.slice e) → Q t (.slice es rest) → ∀ d ∈ es, Q e d
  st : ∀ {t : TypeId} {fs : Array Field} {ps : List (DataW H)}, P.underlying t = some (.struct fs) → Q t (.agg ps) → ∀ (i : Nat) f d, fs[i]? = some f → ps[i]? = some d → Q f.type d

/-- What came in, as far as a slice has cells. -/
def Rd {H : Type} (enc : TypeId × Value → H) (P : Program) (w : World) (Q : TypeId → DataW H → Prop) (t : TypeId) (cs : List Value) : Prop :=
  ∃ fuel d ps, DataW.trod enc P w 0 (fun _ => true) true fuel t cs = some (d, ps) ∧ Q t d

section
variable {H : Type} {enc : TypeId × Value → H} {P : Program} {w : World} {Q : TypeId → DataW H → Prop}

theorem Rd.int {t : TypeId} {k : IntKind} {cs : List Value} (ht : P.underlying t = some (.int k)) (r : Rd enc P w Q t cs) : ∃ n, cs = [.int k n] ∧ (Lit.int k n).wf = true := by
  obtain ⟨fuel, d, ps, h, q⟩ := r
  obtain ⟨n, e, _, hw⟩ := DataW.trod_int ht h
  exact ⟨n, e, hw⟩
theorem Rd.bool {t : TypeId} {cs : List Value} (ht : P.underlying t = some .bool) (r : Rd enc P w Q t cs) : ∃ b, cs = [.bool b] := by
  obtain ⟨fuel, d, ps, h, q⟩ := r
  obtain ⟨n, e, _⟩ := DataW.trod_bool ht h
  exact ⟨n, e⟩
theorem Rd.string {t : TypeId} {cs : List Value} (ht : P.underlying t = some .string) (r : Rd enc P w Q t cs) : ∃ n : List UInt8, cs = [S n] ∧ n.length ≤ maxLen ∧ Q t (.lit (.string n)) := by
  obtain ⟨fuel, d, ps, h, q⟩ := r
  obtain ⟨s, e, e2, hs⟩ := DataW.trod_string ht h
  cases e2
  exact ⟨s.data.toList, by rw [e], hs, q⟩
theorem Rd.struct {t : TypeId} {fs : Array Field} {cs : List Value} (hh : Hered P Q) (ht : P.underlying t = some (.struct fs)) (r : Rd enc P w Q t cs) :
    cs.length = P.cellsOf t ∧ ∀ (i : Nat) (f : Field), fs[i]? = some f → Rd enc P w Q f.type ((cs.drop f.offset).take (P.cellsOf f.type)) := by
  obtain ⟨fuel, d, ps, h, q⟩ := r
  obtain ⟨xs, n, _, hx, hl, hlen, hf⟩ := DataW.trod_struct ht h
  cases hx
  refine ⟨hl, fun i f hi => ?_⟩
  have hlt : i < xs.length := by rw [hlen]; exact (Array.getElem?_eq_some_iff.1 hi).1
  refine ⟨n, (xs[i]).1, (xs[i]).2, ?_, hh.st ht q i f _ hi (by simp [hlt])⟩
  rw [hf i f hi]; simp [hlt]

theorem cells_of {b off : Nat} {spot : Option Nat} {n : Nat} {cs : List Value} (h0 : 0 < n) (h : w.cells? 0 ⟨b, off, spot⟩ n = some cs) :
    spot = none ∧ ∃ (l : List Value) (E : TypeId) (fz : Nat × Nat), w.heap[b]? = some (.cells l.toArray E fz) ∧ (l.drop off).take n = cs := by
  obtain ⟨_, hl, hc⟩ := World.cells?_some h
  have c0 := hc 0 h0
  have hx0 : (⟨b, off, spot⟩ : Addr).add 0 = ⟨b, off, spot⟩ := by simp [Addr.add]
  have h1 : cs[0]? = some (cs[0]'(by omega)) := by simp
  rw [hx0, h1] at c0
  unfold World.cell? at c0
  simp only [] at c0
  split at c0
  · rename_i c E fz hb
    cases spot with
    | some s => simp at c0
    | none =>
      refine ⟨rfl, c.toList, E, fz, hb, ?_⟩
      apply List.ext_getElem?
      intro i
      rw [List.getElem?_take, List.getElem?_drop]
      by_cases hi : i < n
      · rw [if_pos hi, ← hc i hi, addr_add]
        unfold World.cell?
        simp only [hb]
        simp
      · rw [if_neg hi]; symm; rw [List.getElem?_eq_none]; omega
  · cases c0

theorem cells_split {b off : Nat} {l : List Value} {E : TypeId} {fz : Nat × Nat} (z : Nat) : ∀ (es : List (List Value)), (∀ (i : Nat) e, es[i]? = some e → (l.drop (off + i * z)).take z = e ∧ e.length = z) → (l.drop off).take (es.length * z) = es.flatten
  | [], _ => by simp
  | e :: es, h => by
    have h0 := h 0 e rfl
    rw [Nat.zero_mul, Nat.add_zero] at h0
    have ih := cells_split (b := b) (E := E) (fz := fz) (off := off + z) z es fun i e' hi => by
      have := h (i + 1) e' hi
      rw [Nat.add_mul, Nat.one_mul, Nat.add_comm (i * z) z, ← Nat.add_assoc] at this
      exact this
    rw [List.length_cons, Nat.add_mul, Nat.one_mul, Nat.add_comm, List.flatten_cons, List.take_add, h0.1, List.drop_drop, ih]

theorem Rd.slice {t e z : TypeId} {cs : List Value} (hh : Hered P Q) (ht : P.underlying t = some (.slice e)) (hz : P.cellsOf e = z) (hz0 : 0 < z) (r : Rd enc P w Q t cs) :
    ∃ (a : Option Addr) (n c : Nat) (es : List (List Value)), cs = [.slice a n c] ∧ n ≤ c ∧ c ≤ maxLen ∧ es.length = n ∧ Sl (heapOf w) (0, 0) a n c z es.flatten ∧ (∀ x ∈ es, x.length = z ∧ Rd enc P w Q e x) ∧
      ∃ ds rest : List (DataW H), ds.length = n ∧ ((c = 0 ∧ rest = []) ∨ (ds.length + rest.length = c ∧ Q t (.slice ds rest))) := by
  obtain ⟨fuel, d, ps, h, q⟩ := r
  rcases DataW.trod_slice ht h with ⟨rfl, hx⟩ | ⟨a, len, cap, elems, rest, n, _, rfl, hx, hb, hl, hm, hlen, hel, hsp, hns⟩
  · exact ⟨none, 0, 0, [], rfl, Nat.le_refl _, Nat.zero_le _, rfl, Sl.nil .., by simp, [], [], rfl, .inl ⟨rfl, rfl⟩⟩
  · cases hx
    obtain ⟨hrl, _⟩ := hsp rfl
    have each : ∀ i, i < len → ∃ cs y, w.cells? 0 (a.add (i * z)) z = some cs ∧ DataW.trod enc P w 0 (fun _ => true) true n e cs = some y ∧ elems[i]? = some y := by
      intro i hi
      have h1 := hel i hi
      rw [hz] at h1
      have h2 : elems[i]? = some (elems[i]'(by omega)) := by simp
      rw [h2] at h1
      obtain ⟨cs, hc, hy⟩ := Option.bind_eq_some_iff.1 h1
      exact ⟨cs, _, hc, hy, h2⟩
    have fin : ∀ es : List (List Value), es.length = len → Sl (heapOf w) (0, 0) (some a) len cap z es.flatten → (∀ (i : Nat) x, es[i]? = some x → w.cells? 0 (a.add (i * z)) z = some x) →
        ∃ (a' : Option Addr) (n' c : Nat) (es : List (List Value)), [Value.slice (some a) len cap] = [.slice a' n' c] ∧ n' ≤ c ∧ c ≤ maxLen ∧ es.length = n' ∧ Sl (heapOf w) (0, 0) a' n' c z es.flatten ∧ (∀ x ∈ es, x.length = z ∧ Rd enc P w Q e x) ∧
        ∃ ds rest : List (DataW H), ds.length = n' ∧ ((c = 0 ∧ rest = []) ∨ (ds.length + rest.length = c ∧ Q t (.slice ds rest))) := by
      intro es he hs hc
      refine ⟨some a, len, cap, es, rfl, hl, hm, he, hs, ?_, elems.map (·.1), rest.map (·.1), by simpa using hlen, .inr ⟨by simp [hlen, hrl]; omega, q⟩⟩
      intro x hx
      obtain ⟨i, hi⟩ := List.getElem?_of_mem hx
      have hil : i < len := by rw [← he]; exact (List.getElem?_eq_some_iff.1 hi).1
      obtain ⟨cs, y, h1, h2, h3⟩ := each i hil
      rw [hc i x hi] at h1
      cases h1
      exact ⟨(World.cells?_some (hc i x hi)).2.1, n, y.1, y.2, h2, hh.sl ht q _ (List.mem_map.2 ⟨y, List.mem_of_getElem? h3, rfl⟩)⟩
    have hes : ∃ es : List (List Value), es.length = len ∧ ∀ (i : Nat) x, es[i]? = some x → w.cells? 0 (a.add (i * z)) z = some x := by
      refine ⟨(List.range len).map fun i => (w.cells? 0 (a.add (i * z)) z).getD [], by simp, fun i x hi => ?_⟩
      have hil : i < len := by have := (List.getElem?_eq_some_iff.1 hi).1; simpa using this
      obtain ⟨cs, y, h1, _, _⟩ := each i hil
      simp [hil, h1] at hi
      rw [← hi]; exact h1
    obtain ⟨es, he, hc⟩ := hes
    refine fin es he ?_ hc
    rcases Nat.eq_zero_or_pos len with h0 | h0
    · have : es = [] := List.eq_nil_of_length_eq_zero (by omega)
      subst this; subst h0
      exact ⟨by simp, hl, .inl rfl⟩
    · obtain ⟨b, off, spot⟩ := a
      have hlen' : ∀ x ∈ es, x.length = z := fun x hx => by
        obtain ⟨i, hi⟩ := List.getElem?_of_mem hx
        exact (World.cells?_some (hc i x hi)).2.1
      have c0 := hc 0 (es[0]'(by omega)) (by simp)
      have hx0 : (⟨b, off, spot⟩ : Addr).add (0 * z) = ⟨b, off, spot⟩ := by simp [Addr.add]
      rw [hx0] at c0
      obtain ⟨rfl, l, E, fz, hbk, _⟩ := cells_of hz0 c0
      have hfl : (l.drop off).take (es.length * z) = es.flatten := by
        refine cells_split (b := b) (E := E) (fz := fz) z es fun i x hi => ?_
        have h1 := hc i x hi
        rw [addr_add] at h1
        obtain ⟨_, l', E', fz', hbk', ht'⟩ := cells_of hz0 h1
        rw [hbk] at hbk'
        have hll : l' = l := by
          have := Option.some.inj hbk'
          injection this with h1
          exact (List.toArray_inj h1).symm
        rw [hll] at ht'
        exact ⟨ht', hlen' x (List.mem_of_getElem? hi)⟩
      refine ⟨?_, hl, .inr ⟨b, off, l, E, fz, rfl, ?_, by rw [← he]; exact hfl⟩⟩
      · rw [← he, List.length_flatten]
        have : (es.map List.length) = List.replicate es.length z := by
          apply List.ext_getElem
          · simp
          · intro i h1 h2; simp only [List.getElem_map, List.getElem_replicate]; exact hlen' _ (List.getElem_mem _)
        rw [this]; simp
      · unfold heapOf; rw [hbk]; rfl
end

/-! ### each slice takes no more bytes than there are -/
def QW {H : Type} (P : Program) (t : TypeId) (d : DataW H) : Prop := ∀ n ∈ d.weights P t, n ≤ 140737488355328
theorem mem_weightsAll {H : Type} {P : Program} {e : TypeId} {d : DataW H} {n : Nat} (hn : n ∈ d.weights P e) : ∀ {l : List (DataW H)}, d ∈ l → n ∈ DataW.weightsAll P e l
  | x :: r, h => by
    simp only [DataW.weightsAll, List.mem_append]
    rcases List.mem_cons.1 h with rfl | h
    · exact .inl hn
    · exact .inr (mem_weightsAll hn h)
theorem QW.hered {H : Type} {P : Program} : Hered P (QW (H := H) P) := by
  refine ⟨fun {t e es rest} ht q d hd n hn => ?_, fun {t fs ps} ht q i f d hi hd n hn => ?_⟩
  · refine q n ?_
    simp only [DataW.weights, ht, List.mem_cons, List.mem_append]
    exact .inr (.inl (mem_weightsAll hn hd))
  · refine q n ?_
    simp only [DataW.weights, ht]
    refine DataW.weights_mem_each (j := i) (t := f.type) (d := d) ?_ hd n hn
    simp [hi]
theorem QW.bytes {H : Type} {P : Program} {t e : TypeId} {ds rest : List (DataW H)} (ht : P.underlying t = some (.slice e)) (q : QW P t (.slice ds rest)) : (ds.length + rest.length) * P.bytesOf e ≤ 140737488355328 :=
  q _ (by simp [DataW.weights, ht])
theorem QW.str {H : Type} {P : Program} {t : TypeId} {s : List UInt8} (q : QW (H := H) P t (.lit (.string s))) : s.length ≤ 140737488355328 := q _ (by simp [DataW.weights])
/-- An argument that came in, each slice of which takes no more bytes than there are. -/
theorem Rd.of {H : Type} {enc : TypeId × Value → H} {P : Program} {w : World} {ts : List TypeId} {ds : List (DataW H)} (hsz : (DataW.weightsEach P ts ds).all (· ≤ reachBytes) = true) {j : Nat} {t : TypeId} {d : DataW H} {v : Value} {ps : List MemPlace}
    (ht : ts[j]? = some t) (hd : ds[j]? = some d) (h : DataW.Trod enc P w 0 (fun _ => true) true t v d ps) : Rd enc P w (QW P) t v.cells.toList := by
  obtain ⟨fuel, h⟩ := h
  refine ⟨fuel, d, ps, h, fun n hn => ?_⟩
  have := List.all_eq_true.1 hsz _ (DataW.weights_mem_each ht hd n hn)
  have hr : reachBytes ≤ 140737488355328 := by decide
  simp only [decide_eq_true_eq] at this
  omega

end Go.Ah
