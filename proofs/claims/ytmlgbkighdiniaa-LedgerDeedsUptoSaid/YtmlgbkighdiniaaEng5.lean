/- Slices: what one reads, what one owns; indexes, slices of slices, append, clear, make. No program in sight. -/
import Derived.Test.YtmlgbkighdiniaaEng4
import Derived.Laws.Append
namespace Go.Ah
set_option linter.unusedVariables false
set_option linter.unusedSimpArgs false

/-- A slice value (a, n, cap) of elements of z cells reads cs. -/
structure Sl (h : Heap) (t : Tag) (a : Option Addr) (n cap z : Nat) (cs : List Value) : Prop where
  len : cs.length = n * z
  le : n ≤ cap
  at_ : n = 0 ∨ ∃ b off, ∃ l : List Value, ∃ E fz, a = some ⟨b, off, none⟩ ∧ h b = some (t, .cells l.toArray E fz) ∧ (l.drop off).take (n * z) = cs

theorem Sl.pos {h : Heap} {t : Tag} {a : Option Addr} {n cap z : Nat} {cs : List Value} (s : Sl h t a n cap z cs) (hn : 0 < n) :
    ∃ b off, ∃ l : List Value, ∃ E fz, a = some ⟨b, off, none⟩ ∧ h b = some (t, .cells l.toArray E fz) ∧ (l.drop off).take (n * z) = cs :=
  s.at_.resolve_left (by omega)

theorem Sl.nil (h : Heap) (t : Tag) (a : Option Addr) (cap z : Nat) : Sl h t a 0 cap z [] := ⟨by simp, Nat.zero_le _, .inl rfl⟩

/-- The same block is known elsewhere. -/
theorem Sl.move {h h' : Heap} {t : Tag} {a : Option Addr} {n cap z : Nat} {cs : List Value} (s : Sl h t a n cap z cs)
    (k : ∀ b x, h b = some (t, x) → h' b = some (t, x)) : Sl h' t a n cap z cs :=
  ⟨s.len, s.le, s.at_.imp id fun ⟨b, off, l, E, fz, e, hb, hc⟩ => ⟨b, off, l, E, fz, e, k _ _ hb, hc⟩⟩
theorem Sl.sub {h h' : Heap} {t : Tag} {a : Option Addr} {n cap z : Nat} {cs : List Value} (s : Sl h t a n cap z cs) (k : Sub h h') : Sl h' t a n cap z cs := s.move fun _ _ e => k _ _ e
theorem Sl.keep {h h' : Heap} {t : Tag} {o : Nat} {a : Option Addr} {n cap z : Nat} {cs : List Value} (s : Sl h t a n cap z cs) (k : Keep o h h') (ho : t.1 ≠ o) : Sl h' t a n cap z cs := s.move fun _ _ e => k _ _ _ ho e
theorem Sl.keepT {h h' : Heap} {t u : Tag} {a : Option Addr} {n cap z : Nat} {cs : List Value} (s : Sl h t a n cap z cs) (k : KeepT u h h') (ho : t ≠ u) : Sl h' t a n cap z cs := s.move fun _ _ e => k _ _ _ ho e

theorem get_of_take {l cs : List Value} {off m j : Nat} (h : (l.drop off).take m = cs) (hj : j < m) : l[off + j]? = cs[j]? := by
  rw [← h, List.getElem?_take, if_pos hj, List.getElem?_drop]

theorem part_of_take {l cs : List Value} {off m i z : Nat} (h : (l.drop off).take m = cs) (hi : i + z ≤ m) : (l.drop (off + i)).take z = (cs.drop i).take z := by
  rw [← h, List.drop_take, List.drop_drop, List.take_take, Nat.min_eq_left (by omega)]

section
variable {P : Program}

theorem AIdx.int {t E z n b off : Nat} {i : Int} {K : Value → Prop} (h0 : 0 ≤ i) (h1 : i < n) (hu : P.underlying t = some (.slice E)) (hz : sizeT P E = some z)
    (k : K (.pointer (some ⟨b, off + i.toNat * z, none⟩))) : AIdx P t (some ⟨b, off, none⟩) n i K :=
  ⟨⟨⟨h0, h1⟩, b, off, E, z, rfl, hu, hz, k⟩⟩
theorem AIdx.nat {t E z n b off j : Nat} {i : Int} {K : Value → Prop} (hi : i = (j : Int)) (h1 : j < n) (hu : P.underlying t = some (.slice E)) (hz : sizeT P E = some z)
    (k : K (.pointer (some ⟨b, off + j * z, none⟩))) : AIdx P t (some ⟨b, off, none⟩) n i K := by
  subst hi
  exact AIdx.int (Int.natCast_nonneg _) (by omega) hu hz (by rw [Int.toNat_natCast]; exact k)
theorem AIdxA.nat {t E z n b off j : Nat} {i : Int} {K : Value → Prop} (hi : i = (j : Int)) (h1 : j < n) (hu : P.underlying t = some (.array n E)) (hz : sizeT P E = some z)
    (k : K (.pointer (some ⟨b, off + j * z, none⟩))) : AIdxA P t b off i K := by
  subst hi
  exact ⟨⟨n, E, z, hu, hz, ⟨Int.natCast_nonneg _, by omega⟩, by rw [Int.toNat_natCast]; exact k⟩⟩

def slBase (a : Option Addr) (l m z : Nat) : Option Addr := if m = l then a else a.map (·.add (l * z))

theorem slBase_zero (a : Option Addr) (m z : Nat) : slBase a 0 m z = a := by
  unfold slBase; split
  · rfl
  · cases a with
    | none => rfl
    | some a => simp [Addr.add]

/-- s[lo:] -/
theorem ASlc.from {t E z n cap l : Nat} {a : Option Addr} {i : Int} {k : IntKind} {K : Value → Prop} (hi : i = (l : Int)) (h1 : l ≤ n) (h2 : n ≤ cap) (hu : P.underlying t = some (.slice E)) (hz : sizeT P E = some z)
    (c : K (.slice (slBase a l cap z) (n - l) (cap - l))) : ASlc P t a n cap (some (.int k i)) none none K := by
  subst hi
  exact ⟨⟨l, n, cap, .inr ⟨k, rfl⟩, .inl ⟨rfl, rfl, rfl⟩, .inl ⟨rfl, rfl⟩, h1, h2, Nat.le_refl _, E, z, hu, hz, c⟩⟩
/-- s[:hi] -/
theorem ASlc.upto {t E z n cap m : Nat} {a : Option Addr} {i : Int} {k : IntKind} {K : Value → Prop} (hi : i = (m : Int)) (h1 : m ≤ cap) (hu : P.underlying t = some (.slice E)) (hz : sizeT P E = some z)
    (c : K (.slice a m cap)) : ASlc P t a n cap none (some (.int k i)) none K := by
  subst hi
  refine ⟨⟨0, m, cap, .inl ⟨rfl, rfl⟩, .inr ⟨k, rfl⟩, .inl ⟨rfl, rfl⟩, Nat.zero_le _, h1, Nat.le_refl _, E, z, hu, hz, ?_⟩⟩
  have := slBase_zero a cap z
  unfold slBase at this
  rw [this]
  exact c
/-- s[lo:hi] -/
theorem ASlc.mid {t E z n cap l m : Nat} {a : Option Addr} {i j : Int} {k k' : IntKind} {K : Value → Prop} (hi : i = (l : Int)) (hj : j = (m : Int)) (h0 : l ≤ m) (h1 : m ≤ cap) (hu : P.underlying t = some (.slice E)) (hz : sizeT P E = some z)
    (c : K (.slice (slBase a l cap z) (m - l) (cap - l))) : ASlc P t a n cap (some (.int k i)) (some (.int k' j)) none K := by
  subst hi; subst hj
  exact ⟨⟨l, m, cap, .inr ⟨k, rfl⟩, .inr ⟨k', rfl⟩, .inl ⟨rfl, rfl⟩, h0, h1, Nat.le_refl _, E, z, hu, hz, c⟩⟩
/-- s[lo:hi:mx] -/
theorem ASlc.full {t E z n cap l m x : Nat} {a : Option Addr} {i j y : Int} {k k' k'' : IntKind} {K : Value → Prop} (hi : i = (l : Int)) (hj : j = (m : Int)) (hy : y = (x : Int)) (h0 : l ≤ m) (h1 : m ≤ x) (h2 : x ≤ cap)
    (hu : P.underlying t = some (.slice E)) (hz : sizeT P E = some z)
    (c : K (.slice (slBase a l x z) (m - l) (x - l))) : ASlc P t a n cap (some (.int k i)) (some (.int k' j)) (some (.int k'' y)) K := by
  subst hi; subst hj; subst hy
  exact ⟨⟨l, m, x, .inr ⟨k, rfl⟩, .inr ⟨k', rfl⟩, .inr ⟨k'', rfl⟩, h0, h1, h2, E, z, hu, hz, c⟩⟩

theorem Sl.slice {h : Heap} {t : Tag} {a : Option Addr} {n cap z : Nat} {cs : List Value} (s : Sl h t a n cap z cs) {l m x : Nat} (h0 : l ≤ m) (h1 : m ≤ n) (h2 : m ≤ x) :
    Sl h t (slBase a l x z) (m - l) (x - l) z ((cs.drop (l * z)).take ((m - l) * z)) := by
  refine ⟨?_, by omega, ?_⟩
  · rw [List.length_take, List.length_drop, s.len, ← Nat.sub_mul]
    exact Nat.min_eq_left (Nat.mul_le_mul_right _ (by omega))
  · by_cases hlm : m = l
    · left; omega
    · right
      obtain ⟨b, off, lst, E, fz, rfl, hb, hc⟩ := s.pos (by omega)
      refine ⟨b, off + l * z, lst, E, fz, ?_, hb, ?_⟩
      · unfold slBase; rw [if_neg (by omega)]; simp [addr_add]
      · refine part_of_take hc ?_
        rw [← Nat.add_mul]
        exact Nat.mul_le_mul_right _ (by omega)

/-- A slice that is one's own, at its array's head, no cell frozen: it may grow. -/
def Own (h : Heap) (t : Tag) (E : TypeId) (a : Option Addr) (n cap z : Nat) (cs : List Value) : Prop :=
  (n = 0 ∧ cap = 0 ∧ cs = []) ∨ ∃ b, ∃ l : List Value, a = some ⟨b, 0, none⟩ ∧ h b = some (row t l E) ∧ cap * z ≤ l.length ∧ n ≤ cap ∧ l.take (n * z) = cs

theorem Own.sl {h : Heap} {t : Tag} {E : TypeId} {a : Option Addr} {n cap z : Nat} {cs : List Value} (o : Own h t E a n cap z cs) : Sl h t a n cap z cs := by
  rcases o with ⟨rfl, rfl, rfl⟩ | ⟨b, l, rfl, hb, hl, hn, hc⟩
  · exact Sl.nil ..
  · refine ⟨?_, hn, .inr ⟨b, 0, l, E, (0, 0), rfl, hb, by simpa using hc⟩⟩
    rw [← hc, List.length_take]
    exact Nat.min_eq_left (Nat.le_trans (Nat.mul_le_mul_right _ hn) hl)

theorem Own.move {h h' : Heap} {t : Tag} {E : TypeId} {a : Option Addr} {n cap z : Nat} {cs : List Value} (s : Own h t E a n cap z cs)
    (k : ∀ b x, h b = some (t, x) → h' b = some (t, x)) : Own h' t E a n cap z cs :=
  s.imp id fun ⟨b, l, e, hb, r⟩ => ⟨b, l, e, k _ _ hb, r⟩
theorem Own.keepT {h h' : Heap} {t u : Tag} {E : TypeId} {a : Option Addr} {n cap z : Nat} {cs : List Value} (s : Own h t E a n cap z cs) (k : KeepT u h h') (ho : t ≠ u) : Own h' t E a n cap z cs := s.move fun _ _ e => k _ _ _ ho e

theorem awp_lenOf {a : Option Addr} {n cap : Nat} {h : Heap} {K : Nat → Heap → Prop} (k : K n h) : awp P (Builtin.lenOf (.slice a n cap)) h K := k

theorem awp_loadFrom {h : Heap} {b off : Nat} {K : Array Value → Heap → Prop} : ∀ (vs : List Value) (i : Nat) (acc : Array Value),
    (∀ j, j < vs.length → h.cell? ⟨b, off + i + j, none⟩ = vs[j]?) → K (acc ++ vs.toArray) h → awp P (loadCellsFrom ⟨b, off, none⟩ i vs.length acc) h K
  | [], i, acc, _, k => by
    have : acc ++ ([] : List Value).toArray = acc := by simp
    rw [this] at k; exact k
  | v :: vs, i, acc, hc, k => by
    simp only [List.length_cons, loadCellsFrom]
    refine ⟨v, ?_, ?_⟩
    · have := hc 0 (by simp)
      rw [addr_add]; simpa using this
    · refine awp_loadFrom vs (i + 1) (acc.push v) (fun j hj => ?_) ?_
      · have := hc (j + 1) (by simpa using hj)
        rw [show off + (i + 1) + j = off + i + (j + 1) by omega]; simpa using this
      · simpa using k

theorem awp_firstCells {h : Heap} {t : Tag} {a : Option Addr} {n cap z : Nat} {cs : List Value} {K : Array Value → Heap → Prop} (s : Sl h t a n cap z cs) (k : K cs.toArray h) :
    awp P (Builtin.firstCells z n (.slice a n cap)) h K := by
  rcases Nat.eq_zero_or_pos n with hn | hn
  · subst hn
    have : cs = [] := List.eq_nil_of_length_eq_zero (by rw [s.len]; simp)
    subst this
    cases a with
    | none => exact k
    | some a => simp only [Builtin.firstCells, loadCells, Nat.zero_mul, loadCellsFrom]; exact k
  · obtain ⟨b, off, l, E, fz, rfl, hb, hc⟩ := s.pos hn
    simp only [Builtin.firstCells, loadCells]
    rw [← s.len]
    refine awp_loadFrom cs 0 #[] (fun j hj => ?_) (by simpa using k)
    have hj' : j < n * z := by rw [← s.len]; exact hj
    have := get_of_take hc hj'
    unfold Heap.cell?
    rw [hb, Nat.add_zero]
    simp only [Option.isSome_none, Bool.false_eq_true, if_false, List.getElem?_toArray]
    exact this

theorem zeroCells_rep {z : List Value} (hz : z ≠ []) (n : Nat) : Builtin.zeroCells z.toArray n = (List.replicate n z).flatten.toArray := by
  have := range_rep z hz n
  simp only [Builtin.zeroCells, List.size_toArray]
  exact this

theorem awp_askRoom {n : Nat} {h : Heap} {K : Unit → Heap → Prop} (k : K () h) : awp P (askRoom n) h K := by
  unfold askRoom; split <;> exact k

def bytesT (P : Program) (t : TypeId) : Option Nat := (P.info? t).map (·.bytes)

/-- A slice of no elements. -/
theorem ABuildSl.empty {t E : TypeId} {z : Nat} {h : Heap} {K : Value → Heap → Prop} (tg : Tag)
    (ht : P.underlying t = some (.slice E)) (hz : sizeT P E = some z) (k : ∀ b, Fresh h b → K (.slice (some ⟨b, 0, none⟩) 0 0) (h.set b (row tg [] E))) : ABuildSl P t 0 #[] h K := by
  refine ⟨?_⟩
  unfold Instr.buildSlice underlying
  simp only [program, bind, Sem.bind, awp, ht, pure]
  refine awp_bind _ _ (awp_sizeOf hz ?_)
  simp only [Nat.zero_mul, Nat.not_lt_zero, gt_iff_lt, if_false, if_true, pure, Sem.bind]
  have e0 : Instr.fill (fun i => some (i * z, z)) ((Array.range 0).map ((#[] : Array Value)[· % (#[] : Array Value).size]!)) ([] : List (Nat × Value)) = some #[] := by
    unfold Instr.fill; congr 1; apply Array.ext'; simp
  have e1 : (Array.range 0).map ((#[] : Array Value)[· % (#[] : Array Value).size]!) = (([] : List Value)).toArray := by apply Array.ext'; simp
  simp only [newRow, newObj, bind, Sem.bind, awp, pure]
  refine ⟨tg, fun b hb => ?_⟩
  rw [e1]
  exact k b hb

/-- append to one's own slice. -/
theorem AAppend.own {ts0 ts1 E z by_ tt : Nat} {a xa : Option Addr} {n cap m xc : Nat} {cs xs zero : List Value} {h : Heap} {t tx : Tag} {K : Value → Heap → Prop}
    (hu : P.underlying ts0 = some (.slice E)) (hu1 : ∃ E', P.underlying ts1 = some (.slice E')) (hz : sizeT P E = some z) (hby : bytesT P E = some by_) (hzero : zeroT P E = some zero) (hzl : zero.length = z) (hzp : 0 < z)
    (o : Own h t E a n cap z cs) (x : Sl h tx xa m xc z xs) (hone : xs.all oneCell = true) (hroom : (n + m) * by_ ≤ 2 ^ 47)
    (hmax : n + m ≤ 9223372036854775807)
    (k : ∀ a' cap' h', Own h' t E a' (n + m) cap' z (cs ++ xs) → KeepT t h h' → (cap = 0 → Sub h h') → K (.slice a' (n + m) cap') h') :
    AAppend P #[ts0, ts1] tt #[.slice a n cap, .slice xa m xc] h K := by
  obtain ⟨E', hu1⟩ := hu1
  obtain ⟨i, hi, hsz⟩ := size_info hz
  have hby' : i.bytes = by_ := by unfold bytesT at hby; rw [hi] at hby; simpa using hby
  obtain ⟨i', zv, hi', hzv, hzl'⟩ := zero_info hzero
  have hii : i' = i := by rw [hi] at hi'; cases hi'; rfl
  subst hii
  refine ⟨?_⟩
  unfold Builtin.append_
  simp only [List.getElem?_toArray, List.getElem?_cons_zero, List.getElem?_cons_succ, underlying, program, bind, Sem.bind, awp, hu, hu1, pure]
  refine awp_bind _ _ (awp_sizeOf hz ?_)
  simp only [awp, hu1, Sem.bind, Bool.false_eq_true, if_false, Bool.not_false, if_true]
  refine awp_bind _ _ (awp_lenOf ?_)
  have hown := o
  have hsl := o.sl
  by_cases hcap : n + m ≤ cap
  · rw [if_pos hcap]
    refine awp_bind _ _ (awp_firstCells x ?_)
    rcases o with ⟨rfl, rfl, rfl⟩ | ⟨b, l, rfl, hb, hl, hn, hc⟩
    · obtain rfl : m = 0 := by omega
      have : xs = [] := List.eq_nil_of_length_eq_zero (by rw [x.len]; simp)
      subst this
      have hk := k a 0 h (.inl ⟨rfl, rfl, rfl⟩) (KeepT.refl _ _) (fun _ => Sub.refl _)
      cases a with
      | none => exact hk
      | some a => simp only [storeCells, pure, Sem.bind, awp]; exact hk
    · simp only []
      rw [addr_add]
      refine awp_bind _ _ (awp_storeCells (t := t) (E := E) xs 0 l h hb ?_ hone ?_)
      · refine Nat.le_trans ?_ hl; rw [x.len, Nat.zero_add, Nat.add_zero, ← Nat.add_mul]; exact Nat.mul_le_mul_right _ hcap
      · simp only [awp, Nat.zero_add, Nat.add_zero]
        refine k _ _ _ (.inr ⟨b, _, rfl, Heap.set_same _ _ _, ?_, hcap, ?_⟩) (KeepT.set hb) (fun hc0 => ?_)
        · rw [setAt_length]; exact hl
        rotate_left
        · have : xs = [] := List.eq_nil_of_length_eq_zero (by rw [x.len, show m = 0 by omega]; simp)
          subst this
          rw [setAt, Heap.set_self hb]
          exact Sub.refl _
        · have hsplit : ∀ (vs l : List Value) (off : Nat), off + vs.length ≤ l.length → (setAt l off vs).take (off + vs.length) = l.take off ++ vs := by
            intro vs
            induction vs with
            | nil => intro l off _; simp [setAt]
            | cons v vs ih =>
              intro l off hle
              simp only [List.length_cons] at hle
              rw [setAt, List.length_cons, show off + (vs.length + 1) = off + 1 + vs.length by omega, ih _ _ (by rw [List.length_set]; omega)]
              have hlt : off < l.length := by omega
              rw [List.take_succ_eq_append_getElem (by simpa using hlt), List.getElem_set_self, List.take_set_of_le (Nat.le_refl _)]
              simp
          have := hsplit xs l (n * z) (by refine Nat.le_trans ?_ hl; rw [x.len, ← Nat.add_mul]; exact Nat.mul_le_mul_right _ hcap)
          rw [x.len, ← Nat.add_mul] at this
          rw [this, hc]
  · rw [if_neg hcap]
    have hlt : cap < n + m := by omega
    have e1 : ¬ (((n + m : Nat) : Int) > IntKind.i64.max ∧ (False ∨ i'.bytes = 0)) := by
      intro c
      have : (IntKind.i64.max : Int) = 9223372036854775807 := by decide
      rw [this] at c; omega
    have hnx := nextslicecap_le hlt
    have e2 : ¬ (Builtin.nextslicecap (n + m) cap * i'.bytes > 2 ^ 48) := by
      rw [hby']
      have : Builtin.nextslicecap (n + m) cap * by_ ≤ 2 * (n + m) * by_ := Nat.mul_le_mul_right _ hnx
      have h3 : 2 * (n + m) * by_ ≤ 2 * 2 ^ 47 := by rw [Nat.mul_assoc]; exact Nat.mul_le_mul_left _ hroom
      omega
    simp only [typeInfo, program, bind, Sem.bind, awp, hi, pure, Bool.false_eq_true]
    rw [if_neg e1]
    simp only [Sem.bind, awp, hi]
    rw [if_neg e2]
    simp only [Sem.bind, awp, hi, choose, Question.forced, Bool.false_eq_true, if_false, Question.cut]
    intro tk
    have hge : n + m ≤ n + m + tk % (2 ^ 63 - (n + m)) := Nat.le_add_right _ _
    refine awp_bind _ _ (awp_askRoom ?_)
    refine awp_bind _ _ (awp_firstCells hsl ?_)
    refine awp_bind _ _ (awp_firstCells x ?_)
    simp only [zeroValue, typeInfo, program, bind, Sem.bind, awp, hi, hzv, pure, newRow, newObj]
    refine ⟨t, fun b hb => ?_⟩
    have hzne : zero ≠ [] := by intro c; subst c; simp at hzl; omega
    have hzc : zv.cells = zero.toArray := by rw [← hzl']
    have hcells : cs.toArray ++ xs.toArray ++ Builtin.zeroCells zv.cells (n + m + tk % (2 ^ 63 - (n + m)) - (n + m)) = (cs ++ xs ++ (List.replicate (n + m + tk % (2 ^ 63 - (n + m)) - (n + m)) zero).flatten).toArray := by
      rw [hzc, zeroCells_rep hzne]; simp
    rw [hcells]
    refine k _ _ _ (.inr ⟨b, _, rfl, Heap.set_same _ _ _, ?_, hge, ?_⟩) ?_ (fun _ => hb.sub _)
    · refine Nat.le_of_eq (Eq.symm ?_)
      simp only [List.length_append, List.length_flatten, List.map_replicate, List.sum_replicate_nat, hzl, hsl.len, x.len]
      rw [← Nat.add_mul, ← Nat.add_mul]; congr 1; omega
    · have hlen : (cs ++ xs).length = (n + m) * z := by rw [List.length_append, hsl.len, x.len, Nat.add_mul]
      rw [← hlen, List.take_left']
      rfl
    · intro c u y hu' hc'
      exact Heap.set_ne (hb.ne hc') hc'

theorem setAt_take : ∀ (vs l : List Value) (off : Nat), off + vs.length ≤ l.length → (setAt l off vs).take off = l.take off
  | [], l, off, _ => rfl
  | v :: vs, l, off, h => by
    simp only [List.length_cons] at h
    rw [setAt]
    have := setAt_take vs (l.set off v) (off + 1) (by rw [List.length_set]; omega)
    have h2 := congrArg (List.take off) this
    rw [List.take_take, List.take_take, Nat.min_eq_left (by omega), List.take_set_of_le (Nat.le_refl _)] at h2
    exact h2

/-- clear of one's own slice from i on. -/
theorem AClear.own {ts0 E z tt : Nat} {a : Option Addr} {n cap i : Nat} {cs zero : List Value} {h : Heap} {t : Tag} {K : Value → Heap → Prop}
    (hu : P.underlying ts0 = some (.slice E)) (hzero : zeroT P E = some zero) (hzl : zero.length = z) (hzp : 0 < z) (hone : zero.all oneCell = true)
    (o : Own h t E a n cap z cs) (hi : i ≤ n)
    (k : ∀ h', Own h' t E a i cap z (cs.take (i * z)) → KeepT t h h' → K (.tuple #[]) h') :
    AClear P #[ts0] tt #[.slice (slBase a i cap z) (n - i) (cap - i)] h K := by
  obtain ⟨inf, zv, hi', hzv, hzl'⟩ := zero_info hzero
  refine ⟨?_⟩
  unfold Builtin.clear_
  simp only [List.getElem?_toArray, List.getElem?_cons_zero, underlying, program, bind, Sem.bind, awp, hu, pure]
  rcases o with ⟨rfl, rfl, rfl⟩ | ⟨b, l, rfl, hb, hl, hn, hc⟩
  · obtain rfl : i = 0 := by omega
    have hk := k h (.inl ⟨rfl, rfl, by simp⟩) (KeepT.refl _ _)
    rw [slBase_zero]
    cases a with
    | none => exact hk
    | some a => exact hk
  · by_cases hin : n = i
    · subst hin
      have hk := k h (.inr ⟨b, l, rfl, hb, hl, hn, by rw [hc, List.take_of_length_le]; rw [← hc, List.length_take]; omega⟩) (KeepT.refl _ _)
      rw [Nat.sub_self]
      unfold slBase
      by_cases hc0 : cap = n
      · rw [if_pos hc0]; exact hk
      · rw [if_neg hc0]; exact hk
    · have hlt : i < n := by omega
      have hbase : slBase (some ⟨b, 0, none⟩) i cap z = some ⟨b, 0 + i * z, none⟩ := by
        unfold slBase; rw [if_neg (by omega)]; simp [addr_add]
      rw [hbase]
      obtain ⟨d, hd⟩ : ∃ d, n - i = d + 1 := ⟨n - i - 1, by omega⟩
      rw [hd]
      simp only [zeroValue, typeInfo, program, bind, Sem.bind, awp, hi', hzv, pure]
      have hzne : zero ≠ [] := by intro c; subst c; simp at hzl; omega
      have hzc : zv.cells = zero.toArray := by rw [← hzl']
      rw [hzc, zeroCells_rep hzne]
      have hzlen : ((List.replicate (d + 1) zero).flatten).length = (n - i) * z := by
        simp only [List.length_flatten, List.map_replicate, List.sum_replicate_nat, hzl, hd]
      have hle : i * z + (n - i) * z ≤ l.length := by
        refine Nat.le_trans ?_ hl; rw [← Nat.add_mul]; exact Nat.mul_le_mul_right _ (by omega)
      refine awp_bind _ _ (awp_storeCells (t := t) (E := E) _ 0 l h hb ?_ ?_ ?_)
      · simp only [hzlen]; omega
      · rw [List.all_eq_true]
        intro x hx
        rw [List.mem_flatten] at hx
        obtain ⟨y, hy, hxy⟩ := hx
        rw [List.mem_replicate] at hy
        rw [hy.2] at hxy
        exact List.all_eq_true.1 hone x hxy
      · simp only [awp, Nat.zero_add, Nat.add_zero]
        refine k _ (.inr ⟨b, _, rfl, Heap.set_same _ _ _, ?_, by omega, ?_⟩) (KeepT.set hb)
        · rw [setAt_length]; exact hl
        · have h1 := setAt_take ((List.replicate (d + 1) zero).flatten) l (i * z) (by rw [hzlen]; exact hle)
          refine h1.trans ?_
          rw [← hc, List.take_take, Nat.min_eq_left (Nat.mul_le_mul_right _ hi)]

/-- make of so many. -/
theorem AMakeSl.mk {ts0 E z by_ n : Nat} {i j : Int} {k1 k2 : IntKind} {zero : List Value} {h : Heap} {K : Value → Heap → Prop} (tg : Tag)
    (hu : P.underlying ts0 = some (.slice E)) (hz : sizeT P E = some z) (hby : bytesT P E = some by_) (hzero : zeroT P E = some zero) (hzl : zero.length = z) (hzp : 0 < z)
    (hi : i = (n : Int)) (hj : j = (n : Int)) (hroom : n * by_ ≤ 2 ^ 47) (hmax : n ≤ 9223372036854775807)
    (k : ∀ b, Fresh h b → K (.slice (some ⟨b, 0, none⟩) n n) (h.set b (row tg (List.replicate n zero).flatten E))) :
    AMakeSl P ts0 (.int k1 i) (.int k2 j) h K := by
  subst hi; subst hj
  obtain ⟨inf, hin, hsz⟩ := size_info hz
  have hby' : inf.bytes = by_ := by unfold bytesT at hby; rw [hin] at hby; simpa using hby
  obtain ⟨inf', zv, hi', hzv, hzl'⟩ := zero_info hzero
  have hii : inf' = inf := by rw [hin] at hi'; cases hi'; rfl
  subst hii
  have hw : IntKind.i64.wrap (n : Int) = n := i64_wrap (by omega) (by omega)
  have hzne : zero ≠ [] := by intro c; subst c; simp at hzl; omega
  have hzc : zv.cells = zero.toArray := by rw [← hzl']
  refine ⟨?_⟩
  unfold Instr.makeSlice
  simp only [underlying, program, bind, Sem.bind, awp, hu, pure, asInt, asIntOf, typeInfo, hin, hw]
  have hb1 : ¬ ((((by_ : Int) * n > 2 ^ 48))) := by
    have h2 : ((n * by_ : Nat) : Int) ≤ ((2 ^ 47 : Nat) : Int) := Int.ofNat_le.2 hroom
    rw [Int.natCast_mul, Int.mul_comm] at h2
    have h3 : ((2 ^ 47 : Nat) : Int) = 140737488355328 := by decide
    have h4 : ((2 : Int) ^ 48) = 281474976710656 := by decide
    rw [h4]; rw [h3] at h2; omega
  have hfalse : ((decide ((n : Int) < 0) || decide ((inf'.bytes : Int) * n > 2 ^ 48)) = true ∨ (n : Int) < 0) = False := by
    rw [hby']
    simp only [Bool.or_eq_true, decide_eq_true_eq]
    apply eq_false
    rintro ((c | c) | c)
    · omega
    · exact hb1 c
    · omega
  have hcond : ((decide ((n : Int) < 0) || decide ((inf'.bytes : Int) * n > 2 ^ 48)) || decide ((n : Int) < 0) || decide ((n : Int) > n)) = false := by
    rw [hby']
    have a1 : decide ((n : Int) < 0) = false := decide_eq_false (by omega)
    have a2 : decide ((by_ : Int) * n > 2 ^ 48) = false := decide_eq_false hb1
    have a3 : decide ((n : Int) > n) = false := decide_eq_false (by omega)
    rw [a1, a2, a3]; rfl
  simp only [hcond, Bool.false_eq_true, if_false, Sem.bind]
  refine awp_bind _ _ (awp_askRoom ?_)
  refine awp_bind _ _ (awp_sizeOf hz ?_)
  simp only [Int.toNat_natCast]
  by_cases hn0 : n * z = 0
  · have hn : n = 0 := by
      rcases Nat.mul_eq_zero.1 hn0 with h | h
      · exact h
      · omega
    subst hn
    simp only [hn0, if_true, pure, Sem.bind, newRow, newObj, bind, awp]
    refine ⟨tg, fun b hb => ?_⟩
    have := k b hb
    have he : (Array.range 0).map ((#[] : Array Value)[· % (#[] : Array Value).size]!) = ((List.replicate 0 zero).flatten).toArray := by apply Array.ext'; simp
    rw [he]
    exact this
  · simp only [hn0, if_false, zeroValue, typeInfo, program, pure, Sem.bind, newRow, newObj, bind, awp, hin, hzv]
    refine ⟨tg, fun b hb => ?_⟩
    have := k b hb
    have hls : zv.cells.size = zero.length := by rw [hzc]; simp
    rw [hls, hzc, ← hzl, range_rep zero hzne n]
    exact this

end
end Go.Ah
namespace Go.Ah
/-! ### an environment by what it holds -/
theorem upd_self (n : Nat) (e : Env) (t : Nat) : upd n e t (e t) = e := by
  funext s
  unfold upd
  cases Nat.blt t n with
  | false => rfl
  | true =>
    simp only [cond_true]
    cases hs : Nat.beq s t with
    | false => rfl
    | true => rw [Nat.eq_of_beq_eq_true hs]; rfl

def updL (n : Nat) (e : Env) : List (Nat × Value) → Env
  | [] => e
  | (t, v) :: r => upd n (updL n e r) t v
def holdsL (e : Env) : List (Nat × Value) → Prop
  | [] => True
  | (t, v) :: r => e t = v ∧ holdsL e r
theorem updL_self {n : Nat} {e : Env} : ∀ {l : List (Nat × Value)}, holdsL e l → e = updL n e l
  | [], _ => rfl
  | (t, v) :: r, ⟨h, hr⟩ => by
    have := updL_self (n := n) hr
    subst h
    rw [updL, ← this, upd_self]

def natOf : Value → Nat
  | .int _ n => n.toNat
  | _ => 0
end Go.Ah
