/- The rules for loads, stores, new variables, slices. No program in sight. -/
import Derived.Test.YtmlgbkighdiniaaEng3
namespace Go.Ah
set_option linter.unusedVariables false
set_option linter.unusedSimpArgs false

section
variable {P : Program}

/-- a type of one cell -/
def scalarT (P : Program) (t : TypeId) : Bool := match P.underlying t with
  | some (.struct _) | some (.array ..) | none => false
  | _ => true
/-- a struct or an array, of so many cells -/
def aggT (P : Program) (t : TypeId) : Option Nat := match P.underlying t with
  | some (.struct _) | some (.array ..) => (P.info? t).map (·.size)
  | _ => none
/-- A row of variables, none of them frozen. -/
abbrev row (t : Tag) (l : List Value) (E : TypeId) : Tag × Obj := (t, .cells l.toArray E (0, 0))

theorem cell_row {h : Heap} {b : Nat} {t : Tag} {l : List Value} {E : TypeId} {fz : Nat × Nat} {off : Nat} {v : Value} (hb : h b = some (t, .cells l.toArray E fz)) (hv : l[off]? = some v) :
    h.cell? ⟨b, off, none⟩ = some v := by
  unfold Heap.cell?; rw [hb]; simpa using hv

theorem isAgg_scalar {t : TypeId} (h : scalarT P t = true) {K : Bool → Prop} {hp : Heap} (k : K false) : rwp P (isAgg t) hp K := by
  unfold scalarT at h
  cases hu : P.underlying t with
  | none => rw [hu] at h; cases h
  | some d =>
    rw [hu] at h
    unfold isAgg underlying
    simp only [program, bind, Sem.bind, rwp, hu]
    cases d <;> first | (simp at h; done) | exact k

theorem isAgg_agg {t : TypeId} {n : Nat} (h : aggT P t = some n) {K : Bool → Prop} {hp : Heap} (k : K true) : rwp P (isAgg t) hp K := by
  unfold aggT at h
  cases hu : P.underlying t with
  | none => rw [hu] at h; cases h
  | some d =>
    rw [hu] at h
    unfold isAgg underlying
    simp only [program, bind, Sem.bind, rwp, hu]
    cases d <;> first | (simp at h; done) | exact k

theorem rwp_bind {α β : Type} (s : Sem α) (f : α → Sem β) : ∀ {h : Heap} {K : β → Prop}, rwp P s h (fun a => rwp P (f a) h K) → rwp P (s.bind f) h K := by
  induction s with
  | pure a => intro h K k; exact k
  | load m a k ih => intro h K ⟨v, hv, q⟩; exact ⟨v, hv, ih v q⟩
  | shape r k ih => intro h K ⟨t, c, e, fz, hv, q⟩; exact ⟨t, c, e, fz, hv, ih _ q⟩
  | frozen a k ih => intro h K ⟨t, c, e, lo, hi, hv, q⟩; exact ⟨t, c, e, lo, hi, hv, ih _ q⟩
  | getObj r k ih => intro h K ⟨t, o, hv, hc, q⟩; exact ⟨t, o, hv, hc, ih _ q⟩
  | program k ih => intro h K q; exact ih _ q
  | mark m k ih => intro h K q; exact ih q
  | store m a v k ih => intro h K k; exact k.elim
  | new o k ih => intro h K k; exact k.elim
  | freeze a n k ih => intro h K k; exact k.elim
  | setObj r o k ih => intro h K k; exact k.elim
  | choose q k ih => intro h K k; exact k.elim
  | sys c k ih => intro h K k; exact k.elim
  | halt x => intro h K k; exact k.elim

theorem awp_bind {α β : Type} (s : Sem α) (f : α → Sem β) : ∀ {h : Heap} {K : β → Heap → Prop}, awp P s h (fun a h' => awp P (f a) h' K) → awp P (s.bind f) h K := by
  induction s with
  | pure a => intro h K k; exact k
  | load m a k ih => intro h K ⟨v, hv, q⟩; exact ⟨v, hv, ih v q⟩
  | shape r k ih => intro h K ⟨t, c, e, fz, hv, q⟩; exact ⟨t, c, e, fz, hv, ih _ q⟩
  | frozen a k ih => intro h K ⟨t, c, e, lo, hi, hv, q⟩; exact ⟨t, c, e, lo, hi, hv, ih _ q⟩
  | getObj r k ih => intro h K ⟨t, o, hv, hc, q⟩; exact ⟨t, o, hv, hc, ih _ q⟩
  | program k ih => intro h K q; exact ih _ q
  | mark m k ih => intro h K q; exact ih q
  | store m a v k ih => intro h K ⟨hv, t, c, e, fz, ho, q⟩; exact ⟨hv, t, c, e, fz, ho, ih q⟩
  | new o k ih => intro h K ⟨tag, q⟩; exact ⟨tag, fun b hb => ih _ (q b hb)⟩
  | freeze a n k ih =>
    intro h K q
    simp only [awp, Sem.bind] at q ⊢
    split
    · rename_i hn; rw [if_pos hn] at q; exact ih q
    · rename_i hn; rw [if_neg hn] at q; obtain ⟨t, o, hv, q⟩ := q; exact ⟨t, o, hv, ih q⟩
  | setObj r o k ih => intro h K ⟨t, o', hv, hc, q⟩; exact ⟨t, o', hv, hc, ih q⟩
  | choose q k ih =>
    intro h K q'
    simp only [awp, Sem.bind] at q' ⊢
    split
    · rename_i hq; rw [if_pos hq] at q'; exact ih _ q'
    · rename_i hq; rw [if_neg hq] at q'; exact fun n => ih _ (q' n)
  | sys c k ih => intro h K k; exact k.elim
  | halt x => intro h K k; exact k.elim

theorem awp_mono {α : Type} (s : Sem α) : ∀ {h : Heap} {K K' : α → Heap → Prop}, (∀ a h', K a h' → K' a h') → awp P s h K → awp P s h K' := by
  induction s with
  | pure a => intro h K K' hk k; exact hk _ _ k
  | load m a k ih => intro h K K' hk ⟨v, hv, q⟩; exact ⟨v, hv, ih v hk q⟩
  | shape r k ih => intro h K K' hk ⟨t, c, e, fz, hv, q⟩; exact ⟨t, c, e, fz, hv, ih _ hk q⟩
  | frozen a k ih => intro h K K' hk ⟨t, c, e, lo, hi, hv, q⟩; exact ⟨t, c, e, lo, hi, hv, ih _ hk q⟩
  | getObj r k ih => intro h K K' hk ⟨t, o, hv, hc, q⟩; exact ⟨t, o, hv, hc, ih _ hk q⟩
  | program k ih => intro h K K' hk q; exact ih _ hk q
  | mark m k ih => intro h K K' hk q; exact ih hk q
  | store m a v k ih => intro h K K' hk ⟨hv, t, c, e, fz, ho, q⟩; exact ⟨hv, t, c, e, fz, ho, ih hk q⟩
  | new o k ih => intro h K K' hk ⟨tag, q⟩; exact ⟨tag, fun b hb => ih _ hk (q b hb)⟩
  | freeze a n k ih =>
    intro h K K' hk q
    simp only [awp] at q ⊢
    split
    · rename_i hn; rw [if_pos hn] at q; exact ih hk q
    · rename_i hn; rw [if_neg hn] at q; obtain ⟨t, o, hv, q⟩ := q; exact ⟨t, o, hv, ih hk q⟩
  | setObj r o k ih => intro h K K' hk ⟨t, o', hv, hc, q⟩; exact ⟨t, o', hv, hc, ih hk q⟩
  | choose q k ih =>
    intro h K K' hk q'
    simp only [awp] at q' ⊢
    split
    · rename_i hq; rw [if_pos hq] at q'; exact ih _ hk q'
    · rename_i hq; rw [if_neg hq] at q'; exact fun n => ih _ hk (q' n)
  | sys c k ih => intro h K K' hk k; exact k.elim
  | halt x => intro h K K' hk k; exact k.elim

theorem addr_add (b off n : Nat) : (⟨b, off, none⟩ : Addr).add n = ⟨b, off + n, none⟩ := by
  unfold Addr.add; split
  · rename_i hz; rw [hz]; rfl
  · rfl

theorem rwp_loadFrom {h : Heap} {b off : Nat} {K : Array Value → Prop} : ∀ (vs : List Value) (i : Nat) (acc : Array Value),
    (∀ j, j < vs.length → h.cell? ⟨b, off + i + j, none⟩ = vs[j]?) → K (acc ++ vs.toArray) → rwp P (loadCellsFrom ⟨b, off, none⟩ i vs.length acc) h K
  | [], i, acc, _, k => by simpa [loadCellsFrom, rwp, pure] using k
  | v :: vs, i, acc, hc, k => by
    simp only [List.length_cons, loadCellsFrom]
    refine ⟨v, ?_, ?_⟩
    · have := hc 0 (by simp)
      rw [addr_add]; simpa using this
    · refine rwp_loadFrom vs (i + 1) (acc.push v) (fun j hj => ?_) ?_
      · have := hc (j + 1) (by simpa using hj)
        rw [show off + (i + 1) + j = off + i + (j + 1) by omega]; simpa using this
      · simpa using k

theorem ALoad.one {t : TypeId} {h : Heap} {b off : Nat} {tg : Tag} {l : List Value} {E : TypeId} {fz : Nat × Nat} {v : Value} {K : Value → Prop}
    (hd : scalarT P t = true) (hb : h b = some (tg, .cells l.toArray E fz)) (hv : l[off]? = some v) (k : K v) : ALoad P t ⟨b, off, none⟩ h K := by
  refine ⟨?_⟩
  unfold loadVar
  refine rwp_bind _ _ (isAgg_scalar hd ?_)
  exact ⟨v, cell_row hb hv, k⟩

theorem rwp_sizeOf {t n : Nat} (h : sizeT P t = some n) {K : Nat → Prop} {hp : Heap} (k : K n) : rwp P (sizeOf t) hp K := by
  obtain ⟨i, hi, hs⟩ := size_info h
  unfold sizeOf typeInfo
  simp only [program, bind, Sem.bind, rwp, hi, pure]
  rw [hs]; exact k
theorem awp_sizeOf {t n : Nat} (h : sizeT P t = some n) {K : Nat → Heap → Prop} {hp : Heap} (k : K n hp) : awp P (sizeOf t) hp K := by
  obtain ⟨i, hi, hs⟩ := size_info h
  unfold sizeOf typeInfo
  simp only [program, bind, Sem.bind, awp, hi, pure]
  rw [hs]; exact k

theorem agg_size {t n : Nat} (h : aggT P t = some n) : sizeT P t = some n := by
  unfold aggT at h
  split at h <;> first | exact h | cases h

theorem ALoad.agg {t n : TypeId} {h : Heap} {b off : Nat} {tg : Tag} {l vs : List Value} {E : TypeId} {fz : Nat × Nat} {K : Value → Prop}
    (hd : aggT P t = some n) (hb : h b = some (tg, .cells l.toArray E fz)) (hv : (l.drop off).take n = vs) (hn : vs.length = n) (k : forceL vs fun vs => K (.agg vs.toArray)) : ALoad P t ⟨b, off, none⟩ h K := by
  rw [forceL_iff] at k
  refine ⟨?_⟩
  unfold loadVar
  refine rwp_bind _ _ (isAgg_agg hd ?_)
  refine rwp_bind (sizeOf t) _ (rwp_sizeOf (agg_size hd) (rwp_bind _ _ ?_))
  subst hn
  refine rwp_loadFrom vs 0 #[] (fun j hj => ?_) (show K (.agg (#[] ++ vs.toArray)) from (by simpa using k))
  refine (cell_row hb ?_ : h.cell? ⟨b, off + 0 + j, none⟩ = some (vs[j])).trans (by simp [hj])
  have h1 : vs[j]? = (l.drop off)[j]? := by rw [← hv, List.getElem?_take]; simp [hj]
  rw [List.getElem?_drop] at h1
  rw [Nat.add_zero, ← h1]; simp [hj]

theorem open_row {h : Heap} {b off : Nat} {t : Tag} {l : List Value} {E : TypeId} (hb : h b = some (row t l E)) (hlt : off < l.length) :
    h.open? ⟨b, off, none⟩ = some (t, l.toArray, E, (0, 0)) := by
  unfold Heap.open?; rw [hb]; simp [hlt]

theorem Heap.set_set (h : Heap) (b : Nat) (x y : Tag × Obj) : (h.set b x).set b y = h.set b y := by
  funext c; unfold Heap.set; split <;> rfl
theorem Heap.set_self {h : Heap} {b : Nat} {x : Tag × Obj} (e : h b = some x) : h.set b x = h := by
  funext c; unfold Heap.set; split
  · rename_i hc; rw [hc, e]
  · rfl

theorem awp_storeCells {b off : Nat} {t : Tag} {E : TypeId} {K : Unit → Heap → Prop} : ∀ (vs : List Value) (i : Nat) (l : List Value) (h : Heap),
    h b = some (row t l E) → off + i + vs.length ≤ l.length → vs.all oneCell = true →
    K () (h.set b (row t (setAt l (off + i) vs) E)) → awp P (storeCells ⟨b, off, none⟩ vs i) h K
  | [], i, l, h, hb, _, _, k => by
    have : h.set b (row t l E) = h := Heap.set_self hb
    simp only [setAt, this] at k
    exact k
  | v :: vs, i, l, h, hb, hle, hone, k => by
    simp only [List.length_cons] at hle
    simp only [List.all_cons, Bool.and_eq_true] at hone
    simp only [storeCells]
    refine awp_bind _ _ ?_
    refine ⟨hone.1, t, l.toArray, E, (0, 0), ?_, ?_⟩
    · rw [addr_add]; exact open_row hb (by omega)
    · rw [addr_add]
      refine awp_storeCells (t := t) (E := E) vs (i + 1) (l.set (off + i) v) _ ?_ (by rw [List.length_set]; omega) hone.2 ?_
      · simp [Heap.set_same, row]
      · simp only [List.setIfInBounds_toArray, Heap.set_set]
        exact k

theorem AStore.one {t : TypeId} {h : Heap} {b off : Nat} {tg : Tag} {l : List Value} {E : TypeId} {v : Value} {K : Heap → Prop}
    (hd : sizeT P t = some 1) (hc : v.cells = #[v]) (h1 : oneCell v = true) (hb : h b = some (row tg l E)) (hlt : off < l.length) (k : K (h.set b (row tg (l.set off v) E))) :
    AStore P t ⟨b, off, none⟩ v h K := by
  refine ⟨?_⟩
  unfold storeVar
  refine awp_bind _ _ (awp_sizeOf hd ?_)
  rw [hc]
  simp only [List.size_toArray, List.length_cons, List.length_nil, Nat.zero_add, ne_eq, not_true_eq_false, if_false]
  exact awp_storeCells (K := fun _ h' => K h') [v] 0 l h hb (by simp; omega) (by simp [h1]) k

theorem AStore.agg {t n : TypeId} {h : Heap} {b off : Nat} {tg : Tag} {l vs : List Value} {E : TypeId} {K : Heap → Prop}
    (hd : sizeT P t = some n) (hn : vs.length = n) (h1 : vs.all oneCell = true) (hb : h b = some (row tg l E)) (hle : off + vs.length ≤ l.length) (k : K (h.set b (row tg (setAt l off vs) E))) :
    AStore P t ⟨b, off, none⟩ (.agg vs.toArray) h K := by
  refine ⟨?_⟩
  unfold storeVar
  refine awp_bind _ _ (awp_sizeOf hd ?_)
  simp only [Value.cells, List.size_toArray, hn, ne_eq, not_true_eq_false, if_false]
  exact awp_storeCells (K := fun _ h' => K h') vs 0 l h hb (by simpa using hle) h1 k

/-- A store into a row that is written out. -/
theorem AStore.one' {t : TypeId} {h : Heap} {b off : Nat} {tg : Tag} {l : List Value} {E : TypeId} {v : Value} {K : Heap → Prop}
    (hd : sizeT P t = some 1) (hc : v.cells = #[v]) (h1 : oneCell v = true) (hb : h b = some (row tg l E)) (hlt : Nat.blt off l.length = true) (k : forceL (l.set off v) fun l => K (h.set b (row tg l E))) :
    AStore P t ⟨b, off, none⟩ v h K := by
  rw [forceL_iff] at k
  exact AStore.one hd hc h1 hb (by simpa [Nat.blt_eq] using hlt) k

theorem AStore.agg' {t n : TypeId} {h : Heap} {b off : Nat} {tg : Tag} {l vs : List Value} {E : TypeId} {K : Heap → Prop}
    (hd : sizeT P t = some n) (hn : vs.length = n) (h1 : vs.all oneCell = true) (hb : h b = some (row tg l E)) (hle : Nat.ble (off + vs.length) l.length = true) (k : forceL (setAt l off vs) fun l => K (h.set b (row tg l E))) :
    AStore P t ⟨b, off, none⟩ (.agg vs.toArray) h K := by
  rw [forceL_iff] at k
  exact AStore.agg hd hn h1 hb (Nat.le_of_ble_eq_true hle) k

theorem AAlloc.mk {t : TypeId} {h : Heap} {l : List Value} {K : Value → Heap → Prop} (tg : Tag) (hz : zeroT P t = some l)
    (k : ∀ b, Fresh h b → forceL l fun l => K (.pointer (some ⟨b, 0, none⟩)) (h.set b (row tg l t))) : AAlloc P t h K := by
  simp only [forceL_iff] at k
  obtain ⟨i, v, hi, hv, hl⟩ := zero_info hz
  refine ⟨?_⟩
  unfold Instr.alloc zeroValue typeInfo
  simp only [program, bind, Sem.bind, awp, hi, hv, newVar, newRow, newObj, pure]
  refine ⟨tg, fun b hb => ?_⟩
  have := k b hb
  rw [← hl] at this
  simpa [row] using this

theorem ABox.mk {t : TypeId} {h : Heap} {l : List Value} {v : Value} {K : Value → Heap → Prop} (tg : Tag) (hv : v.cells.toList = l)
    (k : ∀ b, Fresh h b → forceL l fun l => K (.pointer (some ⟨b, 0, none⟩)) (h.set b (row tg l t))) : ABox P t v h K := by
  simp only [forceL_iff] at k
  refine ⟨?_⟩
  unfold Instr.box
  simp only [bind, Sem.bind, awp, newVar, newRow, newObj, pure]
  refine ⟨tg, fun b hb => ?_⟩
  have := k b hb
  rw [← hv] at this
  simpa [row] using this

theorem range_rep (z : List Value) (hz : z ≠ []) : ∀ (n : Nat), ((Array.range (n * z.length)).map (z.toArray[· % z.length]!)) = ((List.replicate n z).flatten).toArray := by
  intro n
  apply Array.ext'
  simp only [Array.toList_map, Array.toList_range]
  have hpos : 0 < z.length := List.length_pos_iff.2 hz
  induction n with
  | zero => simp
  | succ n ih =>
    rw [Nat.succ_mul, List.range_add, List.map_append, ih, List.replicate_succ', List.flatten_append]
    congr 1
    simp only [List.map_map, List.flatten_cons, List.flatten_nil, List.append_nil]
    apply List.ext_getElem
    · simp
    · intro i h1 h2
      simp only [List.getElem_map, List.getElem_range, Function.comp]
      have : (n * z.length + i) % z.length = i := by
        rw [Nat.mul_comm, Nat.mul_add_mod]; exact Nat.mod_eq_of_lt h2
      rw [this]
      simp [h2]

/-- A slice of literal elements. -/
theorem ABuildSl.mk {t E z : TypeId} {n : Nat} {ps : List (Nat × Value)} {h : Heap} {zero l : List Value} {K : Value → Heap → Prop} (tg : Tag)
    (ht : P.underlying t = some (.slice E)) (hz : sizeT P E = some z) (hn : Nat.ble (n * z) 16777216 = true) (h0 : Nat.beq (n * z) 0 = false) (hzero : zeroT P E = some zero) (hlen : Nat.beq zero.length z = true)
    (hf : fillL (fun i => some (i * z, z)) (List.replicate n zero).flatten ps = some l)
    (k : ∀ b, Fresh h b → forceL l fun l => K (.slice (some ⟨b, 0, none⟩) n n) (h.set b (row tg l E))) : ABuildSl P t n ps.toArray h K := by
  simp only [forceL_iff] at k
  obtain ⟨i, v, hi, hv, hl⟩ := zero_info hzero
  have hn := Nat.le_of_ble_eq_true hn
  have hlen := Nat.eq_of_beq_eq_true hlen
  have h0 : ¬ n * z = 0 := by intro c; rw [c] at h0; cases h0
  have hne : zero ≠ [] := by intro c; subst c; simp at hlen; subst hlen; simp at h0
  refine ⟨?_⟩
  unfold Instr.buildSlice underlying
  simp only [program, bind, Sem.bind, awp, ht, pure]
  refine awp_bind _ _ (awp_sizeOf hz ?_)
  have e1 : ¬ n * z > 2 ^ 24 := by omega
  simp only [if_neg e1, if_neg h0, pure, Sem.bind, zeroValue, typeInfo, program, bind, hi, hv, awp]
  have hl' : v.cells = zero.toArray := by rw [← hl]
  have hls : v.cells.size = zero.length := by rw [hl']; simp
  rw [hls, hl', ← hlen, range_rep zero hne n]
  rw [← hlen] at hf
  rw [fill_eq _ ps _ l hf]
  simp only [newRow, newObj, bind, Sem.bind, awp, pure]
  exact ⟨tg, fun b hb => k b hb⟩

theorem ALoop.mk {body : Post → Env → Heap → Prop} {Q : Post} {e : Env} {h : Heap} (I : Env → Heap → Prop) (μ : Env → Nat) (h0 : I e h)
    (round : ∀ e h, I e h → body (thenP (fun e' h' => I e' h' ∧ μ e' < μ e) Q) e h) : ALoop body Q e h := ⟨⟨I, μ, h0, round⟩⟩

theorem ADrawn.mk {n : Nat} {ops : Array Oper} {Q : Post} {e : Env} {h : Heap} (S : Heap) (D : List Nat) (hs : Sub S h) (hp : plan P ops D = true)
    (k : AText P n ops Q (Tree.ofList (List.range ops.size)) S D e h) : ADrawn P n ops Q e h := ⟨⟨S, D, _, hs, hp, k⟩⟩
/-- A region that draws its order, in a tree of orders of one's own: where more than one operation with an effect may come up, each is looked at. -/
theorem ADrawn.mkT {n : Nat} {ops : Array Oper} {Q : Post} {e : Env} {h : Heap} (S : Heap) (D : List Nat) (t : Tree) (hs : Sub S h) (hp : planT P ops D t = true)
    (k : AText P n ops Q t S D e h) : ADrawn P n ops Q e h := ⟨⟨S, D, t, hs, hp, k⟩⟩
/-- in an order of one's own -/
theorem ADrawn.mkO {n : Nat} {ops : Array Oper} {Q : Post} {e : Env} {h : Heap} (S : Heap) (D ord : List Nat) (hs : Sub S h) (hp : planO P ops D ord = true)
    (k : AText P n ops Q (Tree.ofList ord) S D e h) : ADrawn P n ops Q e h := ⟨⟨S, D, _, hs, hp, k⟩⟩

end
end Go.Ah
