/- Ledgers as they are meant: the pure model, and that each method of the program comes to it. -/
import Derived.Test.YtmlgbkighdiniaaLedG
namespace Go.Ah
open Go.Proofs
set_option linter.unusedVariables false
set_option linter.unusedSimpArgs false

/-! ### the model -/
/-- term, index, kind, data -/
abbrev Abs := Int × Int × Int × List Int
structure LG where
  bi : Int
  bt : Int
  es : List Abs
def lnew (i t : Int) : LG := ⟨i, t, []⟩
def LG.last (L : LG) : Int × Int := match L.es.getLast? with
  | some e => (e.2.1, e.1)
  | none => (L.bi, L.bt)
def achk (e : Abs) (m : Int × Int) : Int :=
  if isNum e.1 = false ∨ isNum e.2.1 = false ∨ e.2.2.1 < 0 ∨ 2 < e.2.2.1 ∨ 1200 < e.2.2.2.length then 2 else if e.2.1 ≠ m.1 + 1 then 170 else if e.1 < m.2 then 2 else 0
def aapp (m : Int × Int) : List Abs → Int
  | [] => 0
  | x :: r => if achk x m = 0 then aapp (x.2.1, x.1) r else achk x m
def LG.append (L : LG) (xs : List Abs) : Int × LG := if aapp L.last xs = 0 then (0, { L with es := L.es ++ xs }) else (aapp L.last xs, L)
def LG.spot (L : LG) (i : Int) : Option Abs := if L.bi < i then L.es[(i - L.bi - 1).toNat]? else none
def LG.reach (L : LG) (i : Int) : Bool := decide (L.bi < i ∧ i ≤ L.bi + L.es.length + 1)
def LG.cut (L : LG) (i : Int) : Int × LG := if L.reach i = true then (0, { L with es := L.es.take (i - L.bi - 1).toNat }) else (9, L)
def LG.compact (L : LG) (i : Int) : Int × LG := match L.spot i with
  | some e => (0, ⟨e.2.1, e.1, L.es.drop ((i - L.bi - 1).toNat + 1)⟩)
  | none => (9, L)
def LG.term (L : LG) (i : Int) : Int × Int := if i = L.bi then (L.bt, 0) else match L.spot i with
  | some e => (e.1, 0)
  | none => (0, 9)
def LG.get (L : LG) (i : Int) : Abs × Int := match L.spot i with
  | some e => (e, 0)
  | none => ((0, 0, 0, []), 9)
def LG.slice (L : LG) (i most : Int) : List Abs × Int :=
  if L.reach i = false then ([], 9) else if most < 0 then ([], 2) else ((L.es.drop (i - L.bi - 1).toNat).take most.toNat, 0)

structure LOk (L : LG) : Prop where
  idx : ∀ (k : Nat) e, L.es[k]? = some e → e.2.1 = L.bi + 1 + k
  lo : 0 ≤ L.bi
  top : L.bi + L.es.length ≤ 9007199254740991
  small : ∀ e ∈ L.es, e.2.2.2.length ≤ 1200

theorem LOk.new {i t : Int} (h0 : 0 ≤ i) (h1 : i ≤ 9007199254740991) : LOk (lnew i t) := ⟨fun k e he => by simp [lnew] at he, h0, by simpa [lnew] using h1, by simp [lnew]⟩
theorem okBase_bd {i t : Int} (h : okBase i t = true) : 0 ≤ i ∧ i ≤ 9007199254740991 := by
  simp [okBase, isNum] at h; omega
theorem LOk.last {L : LG} (k : LOk L) : L.last.1 = L.bi + L.es.length := by
  unfold LG.last
  cases h : L.es.getLast? with
  | none => rw [List.getLast?_eq_none_iff.1 h]; simp
  | some e =>
    rw [List.getLast?_eq_getElem?] at h
    have h1 := k.idx _ _ h
    have : L.es.length - 1 < L.es.length := (List.getElem?_eq_some_iff.1 h).1
    simp only [h1]; omega
theorem achk_zero {e : Abs} {m : Int × Int} (h : achk e m = 0) : isNum e.1 = true ∧ isNum e.2.1 = true ∧ 0 ≤ e.2.2.1 ∧ e.2.2.1 ≤ 2 ∧ e.2.2.2.length ≤ 1200 ∧ e.2.1 = m.1 + 1 ∧ m.2 ≤ e.1 := by
  unfold achk at h
  split at h
  · cases h
  · rename_i c
    split at h
    · cases h
    · rename_i c1
      split at h
      · cases h
      · rename_i c2
        simp only [not_or, Bool.not_eq_false] at c
        exact ⟨c.1, c.2.1, by omega, by omega, by omega, by omega, by omega⟩
theorem aapp_ok : ∀ (xs : List Abs) (m : Int × Int), 0 ≤ m.1 → aapp m xs = 0 → (∀ (k : Nat) e, xs[k]? = some e → e.2.1 = m.1 + 1 + k) ∧ (xs ≠ [] → m.1 + xs.length ≤ 9007199254740991) ∧ ∀ e ∈ xs, e.2.2.2.length ≤ 1200
  | [], m, h0, h => ⟨fun k e he => by simp at he, by simp, by simp⟩
  | x :: r, m, h0, h => by
    unfold aapp at h
    split at h
    · rename_i hz
      obtain ⟨z1, z2, z3, z4, z5, z6, z7⟩ := achk_zero hz
      have zn := isNum_iff.1 z2
      obtain ⟨i1, i2, i3⟩ := aapp_ok r (x.2.1, x.1) (by simp only []; omega) h
      refine ⟨fun k e he => ?_, fun _ => ?_, fun e he => ?_⟩
      · cases k with
        | zero => simp at he; subst he; rw [z6]; simp
        | succ k =>
          simp only [List.getElem?_cons_succ] at he
          have := i1 k e he
          simp only [] at this
          rw [this, z6]; omega
      · cases r with
        | nil => simp only [List.length_singleton]; omega
        | cons y r =>
          have := i2 (by simp)
          simp only [List.length_cons] at this ⊢; omega
      · rcases List.mem_cons.1 he with rfl | he
        · exact z5
        · exact i3 e he
    · rename_i hz; exact absurd h hz
theorem LOk.append {L : LG} (k : LOk L) (xs : List Abs) : LOk (L.append xs).2 := by
  unfold LG.append
  split
  · rename_i hz
    have hl := k.last
    have h0 := k.lo
    have h1 := k.top
    obtain ⟨i1, i2, i3⟩ := aapp_ok xs L.last (by omega) hz
    refine ⟨fun j e he => ?_, k.lo, ?_, fun e he => ?_⟩
    · simp only [] at he ⊢
      rw [List.getElem?_append] at he
      split at he
      · exact k.idx j e he
      · have := i1 _ e he
        rw [hl] at this; omega
    · simp only [List.length_append]
      by_cases hx : xs = []
      · subst hx; simpa using k.top
      · have := i2 hx
        omega
    · rcases List.mem_append.1 he with he | he
      · exact k.small e he
      · exact i3 e he
  · exact k
theorem LOk.cut {L : LG} (k : LOk L) (i : Int) : LOk (L.cut i).2 := by
  unfold LG.cut
  split
  · refine ⟨fun j e he => ?_, k.lo, ?_, fun e he => k.small e (List.mem_of_mem_take he)⟩
    · simp only [List.getElem?_take] at he
      split at he
      · exact k.idx j e he
      · cases he
    · have := k.top
      simp only [List.length_take]; omega
  · exact k
theorem LG.spot_some {L : LG} {i : Int} {e : Abs} (h : L.spot i = some e) : L.bi < i ∧ i ≤ L.bi + L.es.length ∧ L.es[(i - L.bi - 1).toNat]? = some e := by
  unfold LG.spot at h
  split at h
  · have := (List.getElem?_eq_some_iff.1 h).1
    exact ⟨by assumption, by omega, h⟩
  · cases h
theorem LG.spot_none {L : LG} {i : Int} (h : L.spot i = none) : ¬ (L.bi < i ∧ i ≤ L.bi + L.es.length) := by
  unfold LG.spot at h
  split at h
  · rw [List.getElem?_eq_none_iff] at h; omega
  · omega
theorem LOk.compact {L : LG} (k : LOk L) (i : Int) : LOk (L.compact i).2 := by
  unfold LG.compact
  split
  · rename_i e he
    obtain ⟨h1, h2, h3⟩ := LG.spot_some he
    have hx := k.idx _ _ h3
    have := k.top
    have := k.lo
    refine ⟨fun j x hj => ?_, ?_, ?_, fun x hx => k.small x (List.mem_of_mem_drop hx)⟩
    · simp only [List.getElem?_drop] at hj ⊢
      have := k.idx _ _ hj
      rw [hx, this]; omega
    · simp only [hx]; omega
    · simp only [hx, List.length_drop]; omega
  · exact k
theorem LOk.spot {L : LG} (k : LOk L) {i : Int} {e : Abs} (h : L.spot i = some e) : e.2.1 = i ∧ e.2.2.2.length ≤ 1200 := by
  obtain ⟨h1, h2, h3⟩ := LG.spot_some h
  have := k.idx _ _ h3
  exact ⟨by omega, k.small e (List.mem_of_getElem? h3)⟩

/-! ### what the walks speak of -/
theorem lastM_abs (L : LG) {es : List EH} (h : es.map EH.abs = L.es) : lastM L.bi L.bt es = L.last := by
  unfold lastM LG.last
  rw [← h, List.getLast?_map]
  cases es.getLast? with
  | none => rfl
  | some e => rfl
theorem chk_abs {e : EH} (m : Int × Int) (hn : e.data.length = e.n) : chk e m = achk e.abs m := by
  unfold chk achk
  rw [show e.abs.2.2.2.length = e.n from hn]
  rfl
theorem app_abs : ∀ (xs : List EH) (m : Int × Int), (∀ e ∈ xs, e.data.length = e.n) → app m xs = aapp m (xs.map EH.abs)
  | [], m, _ => rfl
  | x :: r, m, h => by
    rw [List.map_cons, app, aapp, chk_abs m (h x (by simp)), app_abs r _ fun e he => h e (List.mem_cons_of_mem _ he)]
    rfl
theorem seq_abs {L : LG} (k : LOk L) {es : List EH} (h : es.map EH.abs = L.es) : Seq L.bi es := by
  have hl : es.length = L.es.length := by rw [← h]; simp
  refine ⟨fun j e he => ?_, k.lo, by rw [hl]; exact k.top⟩
  have := k.idx j e.abs (by rw [← h]; simp [he])
  exact this
theorem spot_abs {L : LG} {es : List EH} (h : es.map EH.abs = L.es) {i : Int} {e : Abs} (hs : L.spot i = some e) : ∃ (k : Nat) (y : EH), i - L.bi - 1 = k ∧ es[k]? = some y ∧ y.abs = e := by
  obtain ⟨h1, h2, h3⟩ := LG.spot_some hs
  rw [← h, List.getElem?_map] at h3
  cases hy : es[(i - L.bi - 1).toNat]? with
  | none => rw [hy] at h3; cases h3
  | some y =>
    rw [hy] at h3
    exact ⟨_, y, by omega, hy, by simpa using h3⟩

/-- A ledger of the program, that is L. -/
def LA (h : Heap) (p o : Nat) (L : LG) : Prop := ∃ es a cap, LedAt h p o L.bi L.bt es a cap ∧ es.map EH.abs = L.es
theorem LA.keep {h h' : Heap} {p o q : Nat} {L : LG} (l : LA h p o L) (k : Keep q h h') (n : o ≠ q) : LA h' p o L := by
  obtain ⟨es, a, cap, x, y⟩ := l; exact ⟨es, a, cap, x.keep k n, y⟩
theorem LA.sub {h h' : Heap} {p o : Nat} {L : LG} (l : LA h p o L) (k : Sub h h') : LA h' p o L := by
  obtain ⟨es, a, cap, x, y⟩ := l; exact ⟨es, a, cap, x.sub k, y⟩

theorem New_c (h : Heap) (o : Nat) (ho : o ≠ 0) (i t : Int) :
    ACalls PR 13 #[I i, I t] h (fun v h' => (okBase i t = true ∧ ∃ p, v = .tuple #[.pointer (some ⟨p, 0, none⟩), I 0] ∧ LA h' p o (lnew i t) ∧ Sub h h') ∨ (okBase i t = false ∧ v = .tuple #[.pointer none, I 2] ∧ Sub h h')) := by
  refine (New_any h o ho i t).mono fun v h' q => ?_
  rcases q with ⟨a, p, b, c, d⟩ | ⟨a, b, c⟩
  · exact .inl ⟨a, p, b, ⟨[], none, 0, c, rfl⟩, d⟩
  · exact .inr ⟨a, b, c⟩

theorem Append_c {h : Heap} {p o : Nat} (ho : o ≠ 0) {L : LG} (l : LA h p o L) (k : LOk L) {t td : Tag} (ht : t.1 ≠ o) (htd : td.1 ≠ o) {xa : Option Addr} {m xc : Nat} {xs : List EH} (X : Ents h t td xa m xc xs)
    (hroom : (L.es.length + m) * 48 ≤ 140737488355328) :
    ACalls PR 15 #[.pointer (some ⟨p, 0, none⟩), .slice xa m xc] h (fun v h' => v = I (L.append (xs.map EH.abs)).1 ∧ LA h' p o (L.append (xs.map EH.abs)).2 ∧ Keep o h h') := by
  obtain ⟨es, a, cap, A, hes⟩ := l
  have hl : es.length = L.es.length := by rw [← hes]; simp
  have hap : app (lastM L.bi L.bt es) xs = aapp L.last (xs.map EH.abs) := by rw [lastM_abs L hes]; exact app_abs xs _ fun e he => (X.good e he).len
  refine (Append_any ho A (seq_abs k hes) ht htd X (by rw [hl]; exact hroom)).mono fun v h' q => ?_
  rw [hap] at q
  unfold LG.append
  rcases q with ⟨q1, q2, q3⟩ | ⟨q1, q2, es', a', cap', q3, q4, q5⟩
  · rw [if_neg q1]; exact ⟨q2, ⟨es, a, cap, A.sub q3, hes⟩, q3.keep o⟩
  · rw [if_pos q1]; exact ⟨q2, ⟨es', a', cap', q3, by rw [q4, List.map_append, hes]⟩, q5⟩

theorem Cut_c {h : Heap} {p o : Nat} {L : LG} (l : LA h p o L) (k : LOk L) (i : Int) :
    ACalls PR 21 #[.pointer (some ⟨p, 0, none⟩), I i] h (fun v h' => v = I (L.cut i).1 ∧ LA h' p o (L.cut i).2 ∧ Keep o h h') := by
  obtain ⟨es, a, cap, A, hes⟩ := l
  have hl : es.length = L.es.length := by rw [← hes]; simp
  by_cases c : L.bi < i ∧ i ≤ L.bi + L.es.length + 1
  · have hr : L.reach i = true := by rw [LG.reach, decide_eq_true c]
    refine (Cut_ok A (seq_abs k hes) i (i - L.bi - 1).toNat (by omega) (by omega)).mono fun v h' q => ?_
    unfold LG.cut; rw [if_pos hr]
    obtain ⟨q1, q2, q3⟩ := q
    exact ⟨q1, ⟨_, a, cap, q2, by rw [List.map_take, hes]⟩, q3⟩
  · have hr : ¬ L.reach i = true := by rw [LG.reach]; simp; omega
    refine (Cut_no A (seq_abs k hes) i (by rw [hl]; exact c)).mono fun v h' q => ?_
    obtain ⟨q1, rfl⟩ := q
    unfold LG.cut; rw [if_neg hr]
    exact ⟨q1, ⟨es, a, cap, A, hes⟩, Keep.refl _ _⟩

theorem Compact_c {h : Heap} {p o : Nat} (ho : o ≠ 0) {L : LG} (l : LA h p o L) (k : LOk L) (i : Int) (hroom : L.es.length * 48 ≤ 140737488355328) :
    ACalls PR 23 #[.pointer (some ⟨p, 0, none⟩), I i] h (fun v h' => v = I (L.compact i).1 ∧ LA h' p o (L.compact i).2 ∧ Keep o h h') := by
  obtain ⟨es, a, cap, A, hes⟩ := l
  have hl : es.length = L.es.length := by rw [← hes]; simp
  cases hs : L.spot i with
  | none =>
    refine (Compact_no A (seq_abs k hes) i (by rw [hl]; exact LG.spot_none hs)).mono fun v h' q => ?_
    obtain ⟨q1, rfl⟩ := q
    unfold LG.compact; rw [hs]
    exact ⟨q1, ⟨es, a, cap, A, hes⟩, Keep.refl _ _⟩
  | some e =>
    obtain ⟨j, y, hj, hy, hab⟩ := spot_abs hes hs
    refine (Compact_ok ho A (seq_abs k hes) i j y hj hy (by rw [hl]; exact hroom)).mono fun v h' q => ?_
    obtain ⟨q1, a', cap', q2, q3⟩ := q
    unfold LG.compact; rw [hs, ← hab]
    refine ⟨q1, ⟨_, a', cap', q2, ?_⟩, q3⟩
    simp only [hj, Int.toNat_natCast]
    rw [List.map_drop, hes]

theorem term_abs {L : LG} {es : List EH} (h : es.map EH.abs = L.es) (i : Int) : termR L.bi L.bt es i = L.term i := by
  unfold termR LG.term LG.spot
  by_cases c : i = L.bi
  · rw [if_pos c, if_pos c]
  · rw [if_neg c, if_neg c, ← h, List.getElem?_map]
    by_cases c1 : L.bi < i
    · rw [if_pos c1]
      cases es[(i - L.bi - 1).toNat]? with
      | none => rfl
      | some e => simp only [Option.map_some]; rw [if_pos c1]; rfl
    · rw [if_neg c1]
      cases es[(i - L.bi - 1).toNat]? with
      | none => rfl
      | some e => simp only []; rw [if_neg c1]

theorem Term_c {h : Heap} {p o : Nat} {L : LG} (l : LA h p o L) (k : LOk L) (i : Int) :
    ACalls PR 31 #[.pointer (some ⟨p, 0, none⟩), I i] h (fun v h' => v = .tuple #[I (L.term i).1, I (L.term i).2] ∧ h = h') := by
  obtain ⟨es, a, cap, A, hes⟩ := l
  have := Term_any A (seq_abs k hes) i
  rw [term_abs hes] at this
  exact this
theorem Has_c {h : Heap} {p o : Nat} {L : LG} (l : LA h p o L) (k : LOk L) (i t : Int) :
    ACalls PR 33 #[.pointer (some ⟨p, 0, none⟩), I i, I t] h (fun v h' => v = .bool (decide ((L.term i).2 = 0 ∧ (L.term i).1 = t)) ∧ h = h') := by
  obtain ⟨es, a, cap, A, hes⟩ := l
  have := Has_any A (seq_abs k hes) i t
  rw [term_abs hes] at this
  exact this
theorem First_c {h : Heap} {p o : Nat} {L : LG} (l : LA h p o L) (k : LOk L) :
    ACalls PR 29 #[.pointer (some ⟨p, 0, none⟩)] h (fun v h' => v = I (L.bi + 1) ∧ h = h') := by
  obtain ⟨es, a, cap, A, hes⟩ := l
  exact First_any A k.lo (by have := k.top; omega)
theorem Last_c {h : Heap} {p o : Nat} {L : LG} (l : LA h p o L) (k : LOk L) :
    ACalls PR 35 #[.pointer (some ⟨p, 0, none⟩)] h (fun v h' => v = .tuple #[I L.last.1, I L.last.2] ∧ h = h') := by
  obtain ⟨es, a, cap, A, hes⟩ := l
  have hl : es.length = L.es.length := by rw [← hes]; simp
  have := Last_any A (by have := k.top; have := k.lo; omega)
  rw [lastM_abs L hes] at this
  exact this
theorem Get_c {h : Heap} {p o : Nat} {L : LG} (l : LA h p o L) (k : LOk L) (tg : Tag) (ht : tg ≠ (0, 1)) (i : Int) :
    ACalls PR 30 #[.pointer (some ⟨p, 0, none⟩), I i] h (fun v h' => ∃ e : EH, v = .tuple #[.agg e.cells.toArray, I (L.get i).2] ∧ e.Mine h' tg ∧ e.abs = (L.get i).1 ∧ e.n ≤ 1200 ∧ Sub h h') := by
  obtain ⟨es, a, cap, A, hes⟩ := l
  have hl : es.length = L.es.length := by rw [← hes]; simp
  cases hs : L.spot i with
  | none =>
    refine (Get_none A (seq_abs k hes) i (by rw [hl]; exact LG.spot_none hs)).mono fun v h' q => ?_
    obtain ⟨q1, rfl⟩ := q
    unfold LG.get; rw [hs]
    exact ⟨⟨0, 0, 0, none, 0, 0, []⟩, q1, .inl ⟨rfl, rfl, rfl⟩, rfl, by simp, Sub.refl _⟩
  | some e =>
    obtain ⟨j, y, hj, hy, hab⟩ := spot_abs hes hs
    have sm := A.small y (List.mem_of_getElem? hy)
    refine (Get_some A (seq_abs k hes) tg ht i j y hj hy).mono fun v h' q => ?_
    obtain ⟨a', c', q1, q2, q3⟩ := q
    unfold LG.get; rw [hs, ← hab]
    exact ⟨⟨y.term, y.index, y.kind, a', y.n, c', y.data⟩, q1, q2, rfl, sm, q3⟩
theorem Slice_c {h : Heap} {p o : Nat} {L : LG} (l : LA h p o L) (k : LOk L) (tg td : Tag) (ht : tg ≠ (0, 1)) (hd : td ≠ (0, 1)) (hto : tg.1 ≠ o) (htd : td ≠ tg) (i most : Int) (hroom : L.es.length * 48 ≤ 140737488355328) :
    ACalls PR 34 #[.pointer (some ⟨p, 0, none⟩), I i, I most] h (fun v h' => ∃ a n c zs, v = .tuple #[.slice a n c, I (L.slice i most).2] ∧ Ents h' tg td a n c zs ∧ zs.map EH.abs = (L.slice i most).1 ∧ (∀ z ∈ zs, z.n ≤ 1200) ∧ KeepT tg h h' ∧ Own h' tg 34 a n c 4 (encs zs) ∧ ∀ z ∈ zs, z.Mine h' td) := by
  obtain ⟨es, a, cap, A, hes⟩ := l
  have hl : es.length = L.es.length := by rw [← hes]; simp
  have nil : ∀ h' : Heap, Ents h' tg td none 0 0 [] := fun h' => ⟨Sl.nil .., by simp, by simp⟩
  by_cases c : L.bi < i ∧ i ≤ L.bi + L.es.length + 1
  · have hr : L.reach i = true := by rw [LG.reach, decide_eq_true c]
    by_cases c1 : most < 0
    · refine (Slice_neg A (seq_abs k hes) i most (by rw [hl]; exact c) c1).mono fun v h' q => ?_
      obtain ⟨q1, rfl⟩ := q
      unfold LG.slice; rw [if_neg (by rw [hr]; decide), if_pos c1]
      exact ⟨none, 0, 0, [], q1, nil _, rfl, by simp, KeepT.refl _ _, .inl ⟨rfl, rfl, rfl⟩, by simp⟩
    · refine (Slice_ok A (seq_abs k hes) tg td ht hd hto htd i most (i - L.bi - 1).toNat (by omega) (by omega) (by omega) (by rw [hl]; exact hroom)).mono fun v h' q => ?_
      obtain ⟨a', n', c', zs, q1, q2, q3, q4, q5, q6, q7⟩ := q
      unfold LG.slice; rw [if_neg (by rw [hr]; decide), if_neg c1]
      exact ⟨a', n', c', zs, q1, q2, by rw [q3, List.map_take, List.map_drop, hes], q4, q5, q6, q7⟩
  · have hr : L.reach i = false := by rw [LG.reach]; simp; omega
    refine (Slice_no A (seq_abs k hes) i most (by rw [hl]; exact c)).mono fun v h' q => ?_
    obtain ⟨q1, rfl⟩ := q
    unfold LG.slice; rw [if_pos hr]
    exact ⟨none, 0, 0, [], q1, nil _, rfl, by simp, KeepT.refl _ _, .inl ⟨rfl, rfl, rfl⟩, by simp⟩
end Go.Ah
