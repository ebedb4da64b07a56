/- A small logic of partial heaps over the machine's own 'wp': what is known of memory is a partial function from blocks to objects (each with a tag, its owner); a rule per kind of operation. No program in sight. -/
import Derived.Calls
import Derived.Orders
import Derived.Tactics
import Derived.Laws.World
import Derived.Laws.Sem
namespace Go.Ah
set_option linter.unusedVariables false
set_option linter.unusedSimpArgs false

/-- What is known of memory: of a block its owner's tag and the object. -/
abbrev Tag := Nat × Nat
abbrev Heap := Nat → Option (Tag × Obj)

def Heap.set (h : Heap) (b : Nat) (x : Tag × Obj) : Heap := fun c => if c = b then some x else h c

theorem Heap.set_same (h : Heap) (b : Nat) (x : Tag × Obj) : (h.set b x) b = some x := by simp [Heap.set]
theorem Heap.set_ne {h : Heap} {b c : Nat} {x : Tag × Obj} {r} (hne : c ≠ b) (hc : h c = r) : (h.set b x) c = r := by simp [Heap.set, hne, hc]

def Rel (h : Heap) (w : World) : Prop := ∀ b t o, h b = some (t, o) → w.heap[b]? = some o
def Sub (h h' : Heap) : Prop := ∀ b x, h b = some x → h' b = some x
theorem Sub.refl (h : Heap) : Sub h h := fun _ _ x => x
theorem Sub.trans {a b c : Heap} (x : Sub a b) (y : Sub b c) : Sub a c := fun _ _ z => y _ _ (x _ _ z)
theorem Rel.sub {h h' : Heap} {w : World} (hr : Rel h' w) (hs : Sub h h') : Rel h w := fun b t o x => hr b t o (hs _ _ x)
theorem Rel.drew {h : Heap} {w : World} (hr : Rel h w) : Rel h { w with drawn := w.drawn + 1 } := hr

/-- What is of other owners stays. -/
def Keep (o : Nat) (h h' : Heap) : Prop := ∀ b (t : Tag) x, t.1 ≠ o → h b = some (t, x) → h' b = some (t, x)
theorem Keep.refl (o : Nat) (h : Heap) : Keep o h h := fun _ _ _ _ x => x
theorem Keep.trans {o : Nat} {a b c : Heap} (x : Keep o a b) (y : Keep o b c) : Keep o a c := fun _ _ _ n z => y _ _ _ n (x _ _ _ n z)
theorem Sub.keep {h h' : Heap} (s : Sub h h') (o : Nat) : Keep o h h' := fun _ _ _ _ x => s _ _ x
theorem Keep.get {o : Nat} {h h' : Heap} (k : Keep o h h') {b : Nat} {t : Tag} {x : Obj} (n : t.1 ≠ o) (e : h b = some (t, x)) : h' b = some (t, x) := k _ _ _ n e
/-- What bears another tag stays. -/
def KeepT (t : Tag) (h h' : Heap) : Prop := ∀ b (u : Tag) x, u ≠ t → h b = some (u, x) → h' b = some (u, x)
theorem KeepT.refl (t : Tag) (h : Heap) : KeepT t h h := fun _ _ _ _ x => x
theorem KeepT.trans {t : Tag} {a b c : Heap} (x : KeepT t a b) (y : KeepT t b c) : KeepT t a c := fun _ _ _ n z => y _ _ _ n (x _ _ _ n z)
theorem Sub.keepT {h h' : Heap} (s : Sub h h') (t : Tag) : KeepT t h h' := fun _ _ _ _ x => s _ _ x
theorem KeepT.keep {t : Tag} {h h' : Heap} (k : KeepT t h h') : Keep t.1 h h' := fun _ _ _ n e => k _ _ _ (fun c => n (by rw [c])) e
theorem KeepT.get {t : Tag} {h h' : Heap} (k : KeepT t h h') {b : Nat} {u : Tag} {x : Obj} (n : u ≠ t) (e : h b = some (u, x)) : h' b = some (u, x) := k _ _ _ n e
theorem KeepT.set {h : Heap} {b : Nat} {t : Tag} {x y : Obj} (e : h b = some (t, x)) : KeepT t h (h.set b (t, y)) := fun c u z n hc => by
  refine Heap.set_ne ?_ hc
  intro hcb; subst hcb; rw [e] at hc; cases hc; exact n rfl

/-- New: above all that is known. -/
def Fresh (h : Heap) (b : Nat) : Prop := ∀ c x, h c = some x → c < b
theorem Fresh.none {h : Heap} {b : Nat} (f : Fresh h b) : h b = none := by
  cases e : h b with
  | none => rfl
  | some x => exact absurd (f _ _ e) (Nat.lt_irrefl _)
theorem Fresh.ne {h : Heap} {b c : Nat} (f : Fresh h b) {x} (e : h c = some x) : c ≠ b := Nat.ne_of_lt (f _ _ e)
theorem Fresh.sub {h : Heap} {b : Nat} (f : Fresh h b) (x : Tag × Obj) : Sub h (h.set b x) := fun c y e => Heap.set_ne (f.ne e) e
theorem Fresh.none' {h h1 : Heap} {b : Nat} (f : Fresh h1 b) (s : Sub h h1) : h b = Option.none := by
  cases e : h b with
  | none => rfl
  | some x => have := s _ _ e; rw [f.none] at this; cases this
theorem Sub.set {h c : Heap} {b : Nat} (s : Sub h c) (hb : h b = none) (y : Tag × Obj) : Sub h (c.set b y) := by
  intro d x e
  refine Heap.set_ne ?_ (s _ _ e)
  intro hdb; subst hdb; rw [hb] at e; cases e
theorem Rel.fresh {h : Heap} {w : World} (hr : Rel h w) : Fresh h w.heap.size := by
  intro c ⟨t, o⟩ e
  have := hr c t o e
  exact (Array.getElem?_eq_some_iff.1 this).1

/-- What no run of ours changes, and how many blocks there are at least. -/
structure Base where
  os : Os
  tape : Nat → Question → Nat
  out : Array (Nat × ByteArray)
  n : Nat
structure RelB (β : Base) (h : Heap) (w : World) : Prop where
  rel : Rel h w
  os : w.os = β.os
  tape : w.tape = β.tape
  out : w.output = β.out
  size : β.n ≤ w.heap.size
theorem RelB.sub {β : Base} {h h' : Heap} {w : World} (hr : RelB β h' w) (hs : Sub h h') : RelB β h w := ⟨hr.rel.sub hs, hr.os, hr.tape, hr.out, hr.size⟩
theorem RelB.drew {β : Base} {h : Heap} {w : World} (hr : RelB β h w) : RelB β h { w with drawn := w.drawn + 1 } := ⟨hr.rel, hr.os, hr.tape, hr.out, hr.size⟩

/-! ### a run over what is known -/

def Heap.cell? (h : Heap) (a : Addr) : Option Value :=
  match h a.block with
  | some (_, .cells c _ _) => if a.spot.isSome then none else c[a.off]?
  | _ => none
theorem Rel.cell {h : Heap} {w : World} {a : Addr} {v : Value} (hr : Rel h w) (hc : h.cell? a = some v) : w.cell? a = some v := by
  unfold Heap.cell? at hc
  split at hc
  · rename_i t c e fz hb
    rw [World.cell?, hr _ _ _ hb]
    exact hc
  · cases hc

def oneCell : Value → Bool
  | .agg _ | .tuple _ => false
  | _ => true

/-- may a cell be written? -/
def Heap.open? (h : Heap) (a : Addr) : Option (Tag × Array Value × TypeId × (Nat × Nat)) :=
  match h a.block with
  | some (t, .cells c e (lo, hi)) => if a.spot.isSome then none else if a.off < c.size then if lo ≤ a.off && a.off < hi then none else some (t, c, e, (lo, hi)) else none
  | _ => none

def freezeObj (a : Addr) (n : Nat) : Obj → Obj
  | .cells c elem (lo, hi) => .cells c elem (if lo == hi then (a.off, a.off + n) else (min lo a.off, max hi (a.off + n)))
  | o => o

def isCells : Obj → Bool
  | .cells .. => true
  | _ => false

/-- What a run comes to, whatever new blocks are called and whatever the tape answers. -/
def awp {α : Type} (P : Program) : Sem α → Heap → (α → Heap → Prop) → Prop
  | .pure a, h, K => K a h
  | .load _ a k, h, K => ∃ v, h.cell? a = some v ∧ awp P (k v) h K
  | .store _ a v k, h, K => oneCell v = true ∧ ∃ t c e fz, h.open? a = some (t, c, e, fz) ∧ awp P k (h.set a.block (t, .cells (c.setIfInBounds a.off v) e fz)) K
  | .new o k, h, K => ∃ tag, ∀ b, Fresh h b → awp P (k b) (h.set b (tag, o)) K
  | .shape r k, h, K => ∃ t c e fz, h r = some (t, .cells c e fz) ∧ awp P (k (some (e, c.size))) h K
  | .freeze a n k, h, K => if n = 0 then awp P k h K else ∃ t o, h a.block = some (t, o) ∧ awp P k (h.set a.block (t, freezeObj a n o)) K
  | .frozen a k, h, K => ∃ t c e lo hi, h a.block = some (t, .cells c e (lo, hi)) ∧ awp P (k (lo ≤ a.off && a.off < hi)) h K
  | .getObj r k, h, K => ∃ t o, h r = some (t, o) ∧ isCells o = false ∧ awp P (k o) h K
  | .setObj r o k, h, K => ∃ t o', h r = some (t, o') ∧ isCells o' = false ∧ awp P k (h.set r (t, o)) K
  | .choose q k, h, K => if q.forced then awp P (k 0) h K else ∀ n, awp P (k (q.cut n)) h K
  | .program k, h, K => awp P (k P) h K
  | .mark _ k, h, K => awp P k h K
  | .sys _ _, _, _ => False
  | .halt _, _, _ => False

theorem Rel.set {h : Heap} {w w' : World} {b : Nat} {t : Tag} {o : Obj} (hr : Rel h w) (hb : w'.heap[b]? = some o)
    (ho : ∀ c, c ≠ b → w'.heap[c]? = w.heap[c]?) : Rel (h.set b (t, o)) w' := by
  intro c t' o' e
  unfold Heap.set at e
  split at e
  · rename_i hcb; subst hcb; cases e; exact hb
  · rename_i hcb; rw [ho c hcb]; exact hr c t' o' e

theorem RelB.set {β : Base} {h : Heap} {w w' : World} {b : Nat} {t : Tag} {o : Obj} (hr : RelB β h w) (hb : w'.heap[b]? = some o)
    (ho : ∀ c, c ≠ b → w'.heap[c]? = w.heap[c]?) (h1 : w'.os = w.os) (h2 : w'.tape = w.tape) (h3 : w'.output = w.output) (h4 : w.heap.size ≤ w'.heap.size) : RelB β (h.set b (t, o)) w' :=
  ⟨hr.rel.set hb ho, h1.trans hr.os, h2.trans hr.tape, h3.trans hr.out, Nat.le_trans hr.size h4⟩

theorem awp_sound {α : Type} {P : Program} (s : Sem α) : ∀ {β : Base} {h : Heap} {K : α → Heap → Prop} {w : World}, awp P s h K → RelB β h w →
    ∃ a w' h', s.run P w = .ok a w' ∧ RelB β h' w' ∧ K a h' := by
  induction s with
  | pure a => intro β h K w hk hr; exact ⟨a, w, h, rfl, hr, hk⟩
  | load m a k ih =>
    intro β h K w ⟨v, hc, hk⟩ hr
    obtain ⟨a', w', h', e, r, q⟩ := ih v hk hr
    exact ⟨a', w', h', by simp only [Sem.run, hr.rel.cell hc]; exact e, r, q⟩
  | store m a v k ih =>
    intro β h K w ⟨hv, t, c, e, fz, ho, hk⟩ hr
    obtain ⟨lo, hi⟩ := fz
    unfold Heap.open? at ho
    split at ho
    · rename_i t' c' e' lo' hi' hb
      split at ho
      · cases ho
      · rename_i hspot
        split at ho
        · rename_i hlt
          split at ho
          · cases ho
          · rename_i hfz
            simp only [Option.some.injEq, Prod.mk.injEq] at ho
            obtain ⟨rfl, rfl, rfl, rfl, rfl⟩ := ho
            have hw := hr.rel _ _ _ hb
            have hcell : w.cell? a = some (c'[a.off]) := by
              unfold World.cell?; rw [hw]; simp [hspot, hlt]
            have hfrz : w.frozen? a = false := by
              unfold World.frozen?; rw [hw]; simpa using hfz
            have hset : (w.setCell a v).heap[a.block]? = some (.cells (c'.setIfInBounds a.off v) e' (lo', hi')) := by
              have hsz := (Array.getElem?_eq_some_iff.1 hw).1
              simp only [World.setCell, Array.getElem?_modify, hw]
              simp [hspot]
            have hoth : ∀ b, b ≠ a.block → (w.setCell a v).heap[b]? = w.heap[b]? := by
              intro b hne
              simp only [World.setCell, Array.getElem?_modify]
              rw [if_neg (fun h => hne h.symm)]
            obtain ⟨a', w', h', e, r, q⟩ := ih hk (hr.set hset hoth rfl rfl rfl (by simp [World.setCell]))
            refine ⟨a', w', h', ?_, r, q⟩
            cases v <;> first | (simp [oneCell] at hv; done) | (simp only [Sem.run, hcell, hfrz]; exact e)
        · cases ho
    · cases ho
  | new o k ih =>
    intro β h K w ⟨tag, hk⟩ hr
    have hf := hr.rel.fresh
    have hset : ({ w with heap := w.heap.push o } : World).heap[w.heap.size]? = some o := by simp
    have hoth : ∀ c, c ≠ w.heap.size → ({ w with heap := w.heap.push o } : World).heap[c]? = w.heap[c]? := by
      intro c hne
      simp only [Array.getElem?_push]
      rw [if_neg hne]
    obtain ⟨a', w', h', e, r, q⟩ := ih w.heap.size (hk _ hf) (hr.set hset hoth rfl rfl rfl (by simp))
    exact ⟨a', w', h', by simp only [Sem.run]; exact e, r, q⟩
  | shape r k ih =>
    intro β h K w ⟨t, c, e, fz, hb, hk⟩ hr
    obtain ⟨a', w', h', e', r', q⟩ := ih _ hk hr
    refine ⟨a', w', h', ?_, r', q⟩
    simp only [Sem.run, World.shape?, hr.rel _ _ _ hb]; exact e'
  | freeze a n k ih =>
    intro β h K w hk hr
    simp only [awp] at hk
    by_cases hn : n = 0
    · rw [if_pos hn] at hk
      obtain ⟨a', w', h', e', r', q⟩ := ih hk hr
      exact ⟨a', w', h', by simp only [Sem.run, World.freeze, if_pos hn]; exact e', r', q⟩
    · rw [if_neg hn] at hk
      obtain ⟨t, o, hb, hk⟩ := hk
      have hw := hr.rel _ _ _ hb
      have hset : (w.freeze a n).heap[a.block]? = some (freezeObj a n o) := by
        simp only [World.freeze, if_neg hn, Array.getElem?_modify, hw]
        cases o <;> simp [freezeObj]
      have hoth : ∀ c, c ≠ a.block → (w.freeze a n).heap[c]? = w.heap[c]? := by
        intro c hne
        simp only [World.freeze, if_neg hn, Array.getElem?_modify]
        rw [if_neg (fun h => hne h.symm)]
      obtain ⟨a', w', h', e', r', q⟩ := ih hk (hr.set hset hoth (by simp only [World.freeze, if_neg hn]) (by simp only [World.freeze, if_neg hn]) (by simp only [World.freeze, if_neg hn]) (by simp [World.freeze, if_neg hn]))
      exact ⟨a', w', h', by simp only [Sem.run]; exact e', r', q⟩
  | frozen a k ih =>
    intro β h K w ⟨t, c, e, lo, hi, hb, hk⟩ hr
    obtain ⟨a', w', h', e', r', q⟩ := ih _ hk hr
    refine ⟨a', w', h', ?_, r', q⟩
    simp only [Sem.run, World.frozen?, hr.rel _ _ _ hb]; exact e'
  | getObj r k ih =>
    intro β h K w ⟨t, o, hb, hc, hk⟩ hr
    obtain ⟨a', w', h', e', r', q⟩ := ih _ hk hr
    refine ⟨a', w', h', ?_, r', q⟩
    simp only [Sem.run, hr.rel _ _ _ hb]
    cases o <;> first | (simp [isCells] at hc; done) | exact e'
  | setObj r o k ih =>
    intro β h K w ⟨t, o', hb, hc, hk⟩ hr
    have hw := hr.rel _ _ _ hb
    have hsz := (Array.getElem?_eq_some_iff.1 hw).1
    have hset : ({ w with heap := w.heap.setIfInBounds r o } : World).heap[r]? = some o := by simp [hsz]
    have hoth : ∀ c, c ≠ r → ({ w with heap := w.heap.setIfInBounds r o } : World).heap[c]? = w.heap[c]? := by
      intro c hne
      simp [Array.getElem?_setIfInBounds_ne (Ne.symm hne)]
    obtain ⟨a', w', h', e', r', q⟩ := ih hk (hr.set hset hoth rfl rfl rfl (by simp))
    refine ⟨a', w', h', ?_, r', q⟩
    simp only [Sem.run, hw]
    cases o' <;> first | (simp [isCells] at hc; done) | exact e'
  | choose q k ih =>
    intro β h K w hk hr
    simp only [awp] at hk
    by_cases hq : q.forced = true
    · rw [if_pos hq] at hk
      obtain ⟨a', w', h', e', r', q'⟩ := ih _ hk hr
      exact ⟨a', w', h', by simp only [Sem.run, hq, if_true]; exact e', r', q'⟩
    · rw [if_neg hq] at hk
      obtain ⟨a', w', h', e', r', q'⟩ := ih _ (hk (w.tape w.drawn q)) (hr.drew (w := w))
      exact ⟨a', w', h', by simp only [Sem.run, hq, if_false]; exact e', r', q'⟩
  | sys c k ih => intro β h K w hk hr; exact hk.elim
  | program k ih =>
    intro β h K w hk hr
    obtain ⟨a', w', h', e', r', q⟩ := ih _ hk hr
    exact ⟨a', w', h', by simp only [Sem.run]; exact e', r', q⟩
  | mark m k ih =>
    intro β h K w hk hr
    obtain ⟨a', w', h', e', r', q⟩ := ih hk hr
    exact ⟨a', w', h', by simp only [Sem.run]; exact e', r', q⟩
  | halt x => intro β h K w hk hr; exact hk.elim

/-- What a run that only reads comes to. -/
def rwp {α : Type} (P : Program) : Sem α → Heap → (α → Prop) → Prop
  | .pure a, _, K => K a
  | .load _ a k, h, K => ∃ v, h.cell? a = some v ∧ rwp P (k v) h K
  | .shape r k, h, K => ∃ t c e fz, h r = some (t, .cells c e fz) ∧ rwp P (k (some (e, c.size))) h K
  | .frozen a k, h, K => ∃ t c e lo hi, h a.block = some (t, .cells c e (lo, hi)) ∧ rwp P (k (lo ≤ a.off && a.off < hi)) h K
  | .getObj r k, h, K => ∃ t o, h r = some (t, o) ∧ isCells o = false ∧ rwp P (k o) h K
  | .program k, h, K => rwp P (k P) h K
  | .mark _ k, h, K => rwp P k h K
  | _, _, _ => False

theorem rwp_sound {α : Type} {P : Program} (s : Sem α) : ∀ {h : Heap} {K : α → Prop}, rwp P s h K →
    ∃ a, K a ∧ ∀ w, Rel h w → s.run P w = .ok a w := by
  induction s with
  | pure a => intro h K hk; exact ⟨a, hk, fun w hr => rfl⟩
  | load m a k ih =>
    intro h K ⟨v, hc, hk⟩
    obtain ⟨x, q, e⟩ := ih v hk
    exact ⟨x, q, fun w hr => by simp only [Sem.run, hr.cell hc]; exact e w hr⟩
  | shape r k ih =>
    intro h K ⟨t, c, e, fz, hb, hk⟩
    obtain ⟨x, q, e'⟩ := ih _ hk
    exact ⟨x, q, fun w hr => by simp only [Sem.run, World.shape?, hr _ _ _ hb]; exact e' w hr⟩
  | frozen a k ih =>
    intro h K ⟨t, c, e, lo, hi, hb, hk⟩
    obtain ⟨x, q, e'⟩ := ih _ hk
    exact ⟨x, q, fun w hr => by simp only [Sem.run, World.frozen?, hr _ _ _ hb]; exact e' w hr⟩
  | getObj r k ih =>
    intro h K ⟨t, o, hb, hc, hk⟩
    obtain ⟨x, q, e'⟩ := ih _ hk
    refine ⟨x, q, fun w hr => ?_⟩
    simp only [Sem.run, hr _ _ _ hb]
    cases o <;> first | (simp [isCells] at hc; done) | exact e' w hr
  | program k ih =>
    intro h K hk
    obtain ⟨x, q, e'⟩ := ih _ hk
    exact ⟨x, q, fun w hr => by simp only [Sem.run]; exact e' w hr⟩
  | mark m k ih =>
    intro h K hk
    obtain ⟨x, q, e'⟩ := ih hk
    exact ⟨x, q, fun w hr => by simp only [Sem.run]; exact e' w hr⟩
  | store m a v k ih => intro h K hk; exact hk.elim
  | new o k ih => intro h K hk; exact hk.elim
  | freeze a n k ih => intro h K hk; exact hk.elim
  | setObj r o k ih => intro h K hk; exact hk.elim
  | choose q k ih => intro h K hk; exact hk.elim
  | sys c k ih => intro h K hk; exact hk.elim
  | halt x => intro h K hk; exact hk.elim

end Go.Ah
