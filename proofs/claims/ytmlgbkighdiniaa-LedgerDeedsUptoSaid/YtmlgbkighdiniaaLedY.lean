/- LedgerDeeds: copies, asked. -/
import Derived.Test.YtmlgbkighdiniaaLedX
import Derived.Test.YtmlgbkighdiniaaLedH
namespace Go.Ah
open Go.Proofs
set_option linter.unusedVariables false
set_option linter.unusedSimpArgs false
set_option maxRecDepth 20000

/-! ### what is written into memory of one's own -/
theorem bytesV_set (xs : List Int) (i : Nat) (x : Int) : (bytesV xs).set i (.int .u8 x) = bytesV (xs.set i x) := by
  unfold bytesV; rw [List.map_set]
/-- A byte is written: each slice of bytes of this tag is one still. -/
theorem own_poke {h : Heap} {t : Tag} {E : TypeId} {a : Option Addr} {n c : Nat} {xs : List Int} (s : Own h t E a n c 1 (bytesV xs)) {b i : Nat} {l : List Value} {x : Int} {F : TypeId} (hb : h b = some (row t l F)) :
    ∃ ys, Own (h.set b (row t (l.set i (.int .u8 x)) F)) t E a n c 1 (bytesV ys) := by
  rcases s with ⟨e1, e2, e3⟩ | ⟨b', l', ea, hb', hl, hn, hc⟩
  · exact ⟨[], .inl ⟨e1, e2, rfl⟩⟩
  · by_cases hbb : b' = b
    · subst hbb
      rw [hb'] at hb
      simp only [row, Option.some.injEq, Prod.mk.injEq, true_and, Obj.cells.injEq] at hb
      obtain ⟨hll, rfl, _⟩ := hb
      have hll : l' = l := by simpa using hll
      subst hll
      refine ⟨xs.set i x, .inr ⟨b', _, ea, Heap.set_same _ _ _, by rw [List.length_set]; exact hl, hn, ?_⟩⟩
      rw [List.take_set, hc, bytesV_set]
    · exact ⟨xs, .inr ⟨b', l', ea, Heap.set_ne hbb hb', hl, hn, hc⟩⟩
theorem encs_set : ∀ (es : List EH) (k j : Nat) (e y : EH) (v : Value), es[k]? = some e → j < 4 → y.cells = e.cells.set j v → (encs es).set (k * 4 + j) v = encs (es.set k y)
  | [], k, j, e, y, v, he, hj, hy => by simp at he
  | x :: r, 0, j, e, y, v, he, hj, hy => by
    simp only [List.getElem?_cons_zero, Option.some.injEq] at he
    subst he
    simp only [encs, List.flatMap_cons, List.set_cons_zero, Nat.zero_mul, Nat.zero_add]
    rw [hy, List.set_append_left _ _ (by simp [EH.cells]; omega)]
  | x :: r, k + 1, j, e, y, v, he, hj, hy => by
    simp only [List.getElem?_cons_succ] at he
    have ih := encs_set r k j e y v he hj hy
    simp only [encs, List.flatMap_cons, List.set_cons_succ] at ih ⊢
    rw [List.set_append_right _ _ (by simp [EH.cells]; omega), show (k + 1) * 4 + j - x.cells.length = k * 4 + j by simp [EH.cells]; omega, ih]
theorem own_set {h : Heap} {t : Tag} {E : TypeId} {b cap n : Nat} {l : List Value} {es : List EH} (hb : h b = some (row t l E)) (hl : cap * 4 ≤ l.length) (hn : n ≤ cap) (hc : l.take (n * 4) = encs es)
    {k j : Nat} {e y : EH} {v : Value} (he : es[k]? = some e) (hj : j < 4) (hy : y.cells = e.cells.set j v) :
    Own (h.set b (row t (l.set (0 + k * 4 + j) v) E)) t E (some ⟨b, 0, none⟩) n cap 4 (encs (es.set k y)) := by
  refine .inr ⟨b, _, rfl, Heap.set_same _ _ _, by rw [List.length_set]; exact hl, hn, ?_⟩
  rw [List.take_set, hc, Nat.zero_add]
  exact encs_set es k j e y v he hj hy
/-- slices of bytes, each of this tag -/
def Pokes (h : Heap) (t : Tag) (zs : List EH) : Prop := ∀ z ∈ zs, ∃ xs, Own h t 5 z.a z.n z.c 1 (bytesV xs)
theorem Pokes.of {h : Heap} {t : Tag} {zs : List EH} (k : ∀ z ∈ zs, z.Mine h t) : Pokes h t zs := fun z hz => ⟨_, k z hz⟩
theorem Pokes.poke {h : Heap} {t : Tag} {zs : List EH} (k : Pokes h t zs) {b i : Nat} {l : List Value} {x : Int} {F : TypeId} (hb : h b = some (row t l F)) : Pokes (h.set b (row t (l.set i (.int .u8 x)) F)) t zs := fun z hz => by
  obtain ⟨xs, s⟩ := k z hz
  exact own_poke s hb
theorem Pokes.keepT {h h' : Heap} {t u : Tag} {zs : List EH} (k : Pokes h t zs) (q : KeepT u h h') (n : t ≠ u) : Pokes h' t zs := fun z hz => by
  obtain ⟨xs, s⟩ := k z hz
  exact ⟨xs, s.keepT q n⟩
/-- a byte slice's place -/
theorem own_byte {h : Heap} {t : Tag} {E : TypeId} {a : Option Addr} {n c : Nat} {xs : List Int} (s : Own h t E a n c 1 (bytesV xs)) (hn : 0 < n) : ∃ b, ∃ l : List Value, a = some ⟨b, 0, none⟩ ∧ h b = some (row t l E) ∧ n ≤ l.length ∧ ∀ k, k < n → ∃ x, l[k]? = some (.int .u8 x) := by
  have hxl : xs.length = n := by have := s.sl.len; simpa [bytesV] using this
  rcases s with ⟨e1, e2, e3⟩ | ⟨b, l, ea, hb, hl, hnc, hc⟩
  · omega
  · refine ⟨b, l, ea, hb, by omega, fun k hk => ?_⟩
    have : (l.take (n * 1))[k]? = l[k]? := by rw [List.getElem?_take, if_pos (by omega)]
    rw [← this, hc]
    exact ⟨xs[k]'(by omega), by simp [bytesV, show k < xs.length by omega]⟩

/-! ### copies -/
theorem copies_any {h : Heap} (tg td : Tag) (ht : tg ≠ (0, 1)) (hd : td ≠ (0, 1)) (htd : td ≠ tg) {t0 t1 : Tag} (h0 : t0 ≠ tg) (h1 : t1 ≠ tg) {a : Option Addr} {n c : Nat} {xs : List EH} (X : Ents h t0 t1 a n c xs)
    (hroom : n * 48 ≤ 140737488355328) (hsm : ∀ x ∈ xs, x.n ≤ 140737488355328) :
    ACalls PR 19 #[.slice a n c] h (fun v h' => ∃ a' c' zs, v = .slice a' n c' ∧ Own h' tg 34 a' n c' 4 (encs zs) ∧ zs.map EH.abs = xs.map EH.abs ∧ (∀ z ∈ zs, z.Mine h' td) ∧ (∀ z ∈ zs, z.n ≤ 140737488355328) ∧ KeepT tg h h') := by
  have hxl := X.len
  refine acalls_of mix Try.func19 rfl rfl Try.ntmps19 Try.results19 rfl ?_; conv => whnf
  refine ALoop.mk (fun e h' => ∃ e0, ∃ j : Nat, ∃ zs a2 c2, e = updL 20 e0 [(0, .slice a n c), (3, .slice a2 j c2), (4, I j)] ∧ j ≤ n ∧ Own h' tg 34 a2 j c2 4 (encs zs) ∧ zs.map EH.abs = (xs.take j).map EH.abs ∧ (∀ z ∈ zs, z.Mine h' td) ∧ (∀ z ∈ zs, z.n ≤ 140737488355328) ∧ KeepT tg h h')
    (fun e => n - natOf (e 4)) ⟨_, 0, [], none, 0, updL_self ⟨rfl, rfl, rfl, trivial⟩, by omega, .inl ⟨rfl, rfl, rfl⟩, by simp, by simp, by simp, KeepT.refl _ _⟩ ?_
  rintro e h2 ⟨e0, j, zs, a2, c2, rfl, hj, hown, habs, hgood, hsml, hkeep⟩
  conv => whnf
  have hzl : zs.length = j := by
    have := congrArg List.length habs
    simp at this; omega
  by_cases hjn : j < n
  · refine ACmp.yes (by omega) ?_; conv => whnf
    obtain ⟨y, hy⟩ : ∃ y, xs[j]? = some y := ⟨xs[j]'(by omega), by simp⟩
    have my : y ∈ xs := List.mem_of_getElem? hy
    obtain ⟨b, off, m, E, fz, rfl, hb, hc⟩ := (X.sl.keepT hkeep h0).pos (by omega)
    have g : (m.drop (off + j * 4)).take 4 = y.cells := by rw [part_of_take hc (by omega), encs_part hy]
    have gy : y.Good h2 t1 := Sl.keepT (X.good y my) hkeep h1
    have sy := hsm y my
    refine AIdx.nat (j := j) rfl (by omega) rfl rfl ?_; conv => whnf
    refine ALoad.agg rfl hb g rfl ?_; conv => whnf
    refine ACalls.mono (copyE_any _ td hd y gy sy) ?_
    rintro v h3 ⟨ax, cx, rfl, hslx, hsub3⟩
    conv => whnf
    refine ABuildSl.mk (0, 1) rfl rfl rfl rfl rfl rfl rfl fun b11 f11 => ?_; conv => whnf
    have s4 := hsub3.trans (f11.sub (row (0, 1) [I y.term, I y.index, I y.kind, .slice ax y.n cx] 34))
    refine AAppend.own (t := tg) (E := 34) (z := 4) (by_ := 48) (zero := [I 0, I 0, I 0, .slice none 0 0]) (tx := (0, 1)) (xs := [I y.term, I y.index, I y.kind, .slice ax y.n cx]) rfl ⟨_, rfl⟩ rfl rfl rfl rfl (by omega) (hown.move fun _ _ z => s4 _ _ z)
      ⟨rfl, Nat.le_refl _, .inr ⟨b11, 0, _, _, _, rfl, Heap.set_same _ _ _, rfl⟩⟩ rfl (by omega) (by omega) fun a5 cap5 h5 hown5 hk5 _ => ?_
    conv => whnf
    refine AArith.ok (by omega) (by omega) ((by omega : ((j : Nat) : Int) + 1 = ((j + 1 : Nat) : Int))) ?_; conv => whnf
    refine ⟨⟨_, j + 1, zs ++ [⟨y.term, y.index, y.kind, ax, y.n, cx, y.data⟩], a5, cap5, updL_self ⟨rfl, rfl, rfl, trivial⟩, by omega, ?_, ?_, ?_, ?_, ?_⟩, ?_⟩
    · rw [encs_append, encs_one]; exact hown5
    · rw [List.map_append, habs, List.take_succ_eq_append_getElem (by omega), (List.getElem?_eq_some_iff.1 hy).2]
      simp [EH.abs]
    · intro z hz
      rcases List.mem_append.1 hz with hz | hz
      · exact Own.keepT (Own.sub (hgood z hz) s4) hk5 htd
      · obtain rfl := List.mem_singleton.1 hz
        exact Own.keepT (Own.sub hslx (f11.sub _)) hk5 htd
    · intro z hz
      rcases List.mem_append.1 hz with hz | hz
      · exact hsml z hz
      · obtain rfl := List.mem_singleton.1 hz
        exact sy
    · exact hkeep.trans ((s4.keepT tg).trans hk5)
    · show n - (j + 1) < n - j
      omega
  · refine ACmp.no (by omega) ?_; conv => whnf
    obtain rfl : j = n := by omega
    refine ⟨a2, c2, zs, rfl, hown, ?_, hgood, hsml, hkeep⟩
    rw [habs, List.take_of_length_le (by omega)]
end Go.Ah
