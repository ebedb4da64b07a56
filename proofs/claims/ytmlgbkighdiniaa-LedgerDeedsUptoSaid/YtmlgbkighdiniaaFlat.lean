/- Rows of elements of so many cells. No program in sight. -/
import Derived.Test.YtmlgbkighdiniaaOpn
namespace Go.Ah
set_option linter.unusedVariables false
set_option linter.unusedSimpArgs false

theorem flat_len {z : Nat} : ∀ {es : List (List Value)}, (∀ e ∈ es, e.length = z) → es.flatten.length = es.length * z
  | [], _ => by simp
  | e :: es, h => by
    rw [List.flatten_cons, List.length_append, h e (by simp), flat_len fun x hx => h x (by simp [hx]), List.length_cons, Nat.add_mul, Nat.one_mul, Nat.add_comm]
theorem flat_drop {z : Nat} : ∀ {es : List (List Value)}, (∀ e ∈ es, e.length = z) → ∀ i, es.flatten.drop (i * z) = (es.drop i).flatten
  | es, _, 0 => by simp
  | [], _, i + 1 => by simp
  | e :: es, h, i + 1 => by
    have he := h e (by simp)
    rw [List.flatten_cons, Nat.add_mul, Nat.one_mul, Nat.add_comm, ← List.drop_drop, ← he, List.drop_left, he, flat_drop (fun x hx => h x (by simp [hx])) i]
    rfl
theorem flat_take {z : Nat} : ∀ {es : List (List Value)}, (∀ e ∈ es, e.length = z) → ∀ i, es.flatten.take (i * z) = (es.take i).flatten
  | es, _, 0 => by simp
  | [], _, i + 1 => by simp
  | e :: es, h, i + 1 => by
    have he := h e (by simp)
    rw [List.flatten_cons, Nat.add_mul, Nat.one_mul, Nat.add_comm, List.take_add, ← he, List.take_left, List.drop_left, he, flat_take (fun x hx => h x (by simp [hx])) i]
    rfl
theorem flat_part {z : Nat} {es : List (List Value)} (h : ∀ e ∈ es, e.length = z) {i : Nat} {e : List Value} (hi : es[i]? = some e) : (es.flatten.drop (i * z)).take z = e := by
  have hlt := (List.getElem?_eq_some_iff.1 hi).1
  have he := h e (List.mem_of_getElem? hi)
  rw [flat_drop h, ← List.getElem_cons_drop hlt, List.flatten_cons, (List.getElem?_eq_some_iff.1 hi).2, ← he, List.take_left]
theorem flat_get {z : Nat} {es : List (List Value)} (h : ∀ e ∈ es, e.length = z) {i k : Nat} {e : List Value} (hi : es[i]? = some e) (hk : k < z) : es.flatten[i * z + k]? = e[k]? := by
  have := congrArg (·[k]?) (flat_part h hi)
  simp only [List.getElem?_take, List.getElem?_drop] at this
  rw [if_pos hk] at this; exact this
theorem flat_set {z : Nat} : ∀ {es : List (List Value)}, (∀ e ∈ es, e.length = z) → ∀ {i k : Nat} {e : List Value} (v : Value), es[i]? = some e → k < z → es.flatten.set (i * z + k) v = (es.set i (e.set k v)).flatten
  | [], _, i, k, e, v, hi, _ => by simp at hi
  | x :: es, h, 0, k, e, v, hi, hk => by
    simp at hi; subst hi
    have he := h x (by simp)
    simp only [Nat.zero_mul, Nat.zero_add, List.flatten_cons, List.set_cons_zero]
    rw [List.set_append_left _ _ (by omega)]
  | x :: es, h, i + 1, k, e, v, hi, hk => by
    have he := h x (by simp)
    have ih := flat_set (es := es) (fun y hy => h y (by simp [hy])) (i := i) (k := k) (e := e) v (by simpa using hi) hk
    simp only [List.flatten_cons, List.set_cons_succ]
    rw [List.set_append_right _ _ (by rw [he, Nat.add_mul]; omega), he, show (i + 1) * z + k - z = i * z + k by rw [Nat.add_mul]; omega, ih]

/-- One element of one's own row. -/
theorem Own.elem {h : Heap} {t : Tag} {E : TypeId} {a : Option Addr} {n cap z : Nat} {es : List (List Value)} (s : Own h t E a n cap z es.flatten) (hz : ∀ e ∈ es, e.length = z) (hn : es.length = n) (hz0 : 0 < z)
    {i : Nat} {e : List Value} (hi : es[i]? = some e) :
    ∃ b, ∃ l : List Value, a = some ⟨b, 0, none⟩ ∧ h b = some (row t l E) ∧ (l.drop (i * z)).take z = e ∧ (∀ k, k < z → l[i * z + k]? = e[k]? ∧ i * z + k < l.length) ∧
      ∀ k v, k < z → Own (h.set b (row t (l.set (i * z + k) v) E)) t E a n cap z (es.set i (e.set k v)).flatten := by
  have hlt := (List.getElem?_eq_some_iff.1 hi).1
  have hfl := flat_len hz
  rcases s with ⟨rfl, rfl, h0⟩ | ⟨b, l, rfl, hb, hl, hnc, hc⟩
  · omega
  · have hle : n * z ≤ l.length := Nat.le_trans (Nat.mul_le_mul_right _ hnc) hl
    have hin : (i + 1) * z ≤ n * z := Nat.mul_le_mul_right _ (by omega)
    rw [Nat.add_mul, Nat.one_mul] at hin
    have hg : ∀ k, k < z → l[i * z + k]? = e[k]? := by
      intro k hk
      rw [← flat_get hz hi hk, ← hc, List.getElem?_take, if_pos (by omega)]
    refine ⟨b, l, rfl, hb, ?_, fun k hk => ⟨hg k hk, by omega⟩, fun k v hk => .inr ⟨b, _, rfl, Heap.set_same _ _ _, by rw [List.length_set]; exact hl, hnc, ?_⟩⟩
    · have := part_of_take (l := l) (off := 0) (m := n * z) (i := i * z) (z := z) (cs := es.flatten) hc (by omega)
      rw [Nat.zero_add] at this
      rw [this]; exact flat_part hz hi
    · rw [← flat_set hz v hi hk, ← hc, List.take_set]
/-- One element of a row that is read. -/
theorem Sl.elem {h : Heap} {t : Tag} {a : Option Addr} {n cap z : Nat} {es : List (List Value)} (s : Sl h t a n cap z es.flatten) (hz : ∀ e ∈ es, e.length = z) (hn : es.length = n) (hz0 : 0 < z)
    {i : Nat} {e : List Value} (hi : es[i]? = some e) :
    ∃ b off, ∃ l : List Value, ∃ E fz, a = some ⟨b, off, none⟩ ∧ h b = some (t, .cells l.toArray E fz) ∧ (l.drop (off + i * z)).take z = e ∧ ∀ k, k < z → l[off + i * z + k]? = e[k]? := by
  have hlt := (List.getElem?_eq_some_iff.1 hi).1
  obtain ⟨b, off, l, E, fz, rfl, hb, hc⟩ := s.pos (by omega)
  have hin : (i + 1) * z ≤ n * z := Nat.mul_le_mul_right _ (by omega)
  rw [Nat.add_mul, Nat.one_mul] at hin
  refine ⟨b, off, l, E, fz, rfl, hb, ?_, fun k hk => ?_⟩
  · rw [part_of_take hc (by omega)]; exact flat_part hz hi
  · rw [Nat.add_assoc, get_of_take hc (by omega)]; exact flat_get hz hi hk
theorem exists_role (l : List Nat) : ∃ r, 10 ≤ r ∧ r ∉ l := by
  have : ∀ l : List Nat, ∃ m, ∀ x ∈ l, x ≤ m := by
    intro l
    induction l with
    | nil => exact ⟨0, by simp⟩
    | cons a l ih =>
      obtain ⟨m, hm⟩ := ih
      refine ⟨a + m, fun x hx => ?_⟩
      rcases List.mem_cons.1 hx with rfl | hx
      · omega
      · have := hm x hx; omega
  obtain ⟨m, hm⟩ := this l
  exact ⟨10 + m + 1, by omega, fun c => by have := hm _ c; omega⟩
end Go.Ah
