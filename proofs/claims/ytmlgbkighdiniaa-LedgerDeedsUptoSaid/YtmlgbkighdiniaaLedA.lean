/- Walks of the small functions of package ledger. -/
import Derived.Test.YtmlgbkighdiniaaOpn
import Derived.Test.YtmlgbkighdiniaaProg
namespace Go.Ah
open Go.Proofs
set_option linter.unusedVariables false
set_option linter.unusedSimpArgs false


noncomputable abbrev PR : Program := Try.prog
theorem mix : PR.follows .mixedOrders = true := by rfl

theorem acalls_pure {f : FuncId} {args : Array Value} {h : Heap} {Q : Value → Prop} (c : ACalls PR f args h (fun v h' => Q v ∧ Sub h h')) : ACalls PR f args h (fun v h' => Q v ∧ h = h') :=
  c.drop fun v h' ⟨q, s⟩ => ⟨h, s, q, rfl⟩

abbrev I (x : Int) : Value := .int .i64 x

def isNum (n : Int) : Bool := decide (1 ≤ n ∧ n ≤ 9007199254740991)

theorem number_any (n : Int) (h : Heap) : ACalls PR 36 #[I n] h (fun v h' => v = .bool (isNum n) ∧ h = h') := by
  refine acalls_pure (acalls_of mix Try.func36 rfl rfl Try.ntmps36 Try.results36 rfl ?_); conv => whnf
  refine ACmp.split (fun h1 => ?_) (fun h1 => ?_)
  · conv => whnf
    refine ACmp.dec ?_
    conv => whnf
    exact ⟨by simp [isNum, h1], Sub.refl _⟩
  · conv => whnf
    exact ⟨by simp [isNum, h1], Sub.refl _⟩

theorem none_nil (h : Heap) : ACalls PR 37 #[.pointer none] h (fun v h' => v = .bool true ∧ h = h') := by
  refine acalls_pure (acalls_of mix Try.func37 rfl rfl Try.ntmps37 Try.results37 rfl ?_); conv => whnf
  exact ⟨rfl, Sub.refl _⟩
theorem none_any (h : Heap) (p : Nat) (tg : Tag) (b : Bool) (r : List Value) (hp : h p = some (row tg (.bool b :: r) 68)) : ACalls PR 37 #[.pointer (some ⟨p, 0, none⟩)] h (fun v h' => v = .bool (!b) ∧ h = h') := by
  refine acalls_pure (acalls_of mix Try.func37 rfl rfl Try.ntmps37 Try.results37 rfl ?_); conv => whnf
  refine ALoad.one rfl hp rfl ?_; conv => whnf
  exact ⟨rfl, Sub.refl _⟩

theorem Own.sub {h h' : Heap} {t : Tag} {E : TypeId} {a : Option Addr} {n cap z : Nat} {cs : List Value} (s : Own h t E a n cap z cs) (k : Sub h h') : Own h' t E a n cap z cs := s.move fun _ _ e => k _ _ e
theorem Own.keep {h h' : Heap} {t : Tag} {o : Nat} {E : TypeId} {a : Option Addr} {n cap z : Nat} {cs : List Value} (s : Own h t E a n cap z cs) (k : Keep o h h') (ho : t.1 ≠ o) : Own h' t E a n cap z cs := s.move fun _ _ e => k _ _ _ ho e

/-- An entry as it stands in memory: its cells, and what its data are. -/
structure EH where
  term : Int
  index : Int
  kind : Int
  a : Option Addr
  n : Nat
  c : Nat
  data : List Int

def EH.cells (e : EH) : List Value := [I e.term, I e.index, I e.kind, .slice e.a e.n e.c]
def bytesV (l : List Int) : List Value := l.map (.int .u8)
/-- its data read so -/
def EH.Good (h : Heap) (t : Tag) (e : EH) : Prop := Sl h t e.a e.n e.c 1 (bytesV e.data)
/-- its data are its own -/
def EH.Mine (h : Heap) (t : Tag) (e : EH) : Prop := Own h t 5 e.a e.n e.c 1 (bytesV e.data)
/-- what it says -/
def EH.abs (e : EH) : Int × Int × Int × List Int := (e.term, e.index, e.kind, e.data)
def encs (es : List EH) : List Value := es.flatMap EH.cells

theorem EH.Good.len {h : Heap} {t : Tag} {e : EH} (g : e.Good h t) : e.data.length = e.n := by
  have := Sl.len g
  simpa [bytesV] using this

theorem encs_length : ∀ es : List EH, (encs es).length = es.length * 4
  | [] => rfl
  | e :: es => by
    have := encs_length es
    simp only [encs, List.flatMap_cons, List.length_append, List.length_cons] at this ⊢
    rw [this]; simp [EH.cells]; omega

theorem encs_drop : ∀ (es : List EH) (k : Nat), (encs es).drop (k * 4) = encs (es.drop k)
  | es, 0 => by simp
  | [], k + 1 => by simp [encs]
  | e :: es, k + 1 => by
    have := encs_drop es k
    rw [List.drop_succ_cons, ← this, Nat.add_mul, Nat.add_comm, ← List.drop_drop]
    rfl
theorem encs_take : ∀ (es : List EH) (k : Nat), (encs es).take (k * 4) = encs (es.take k)
  | es, 0 => by simp [encs]
  | [], k + 1 => by simp [encs]
  | e :: es, k + 1 => by
    have := encs_take es k
    rw [List.take_succ_cons]
    simp only [encs, List.flatMap_cons] at this ⊢
    rw [show (k + 1) * 4 = e.cells.length + k * 4 by simp [EH.cells]; omega, List.take_length_add_append, this]

theorem encs_append (x y : List EH) : encs (x ++ y) = encs x ++ encs y := by simp [encs]

theorem encs_part {es : List EH} {k : Nat} {e : EH} (h : es[k]? = some e) : ((encs es).drop (k * 4)).take 4 = e.cells := by
  rw [encs_drop]
  have hd : es.drop k = e :: es.drop (k + 1) := by
    have hk := (List.getElem?_eq_some_iff.1 h)
    obtain ⟨hk, rfl⟩ := hk
    exact List.drop_eq_getElem_cons hk
  rw [hd]
  rfl

theorem encs_get {es : List EH} {k j : Nat} {e : EH} (h : es[k]? = some e) (hj : j < 4) : (encs es)[k * 4 + j]? = e.cells[j]? := by
  have := encs_part h
  rw [← this, List.getElem?_take, if_pos hj, List.getElem?_drop]

/-- the last mark -/
def lastM (bi bt : Int) (es : List EH) : Int × Int := match es.getLast? with
  | some e => (e.index, e.term)
  | none => (bi, bt)

/-- A ledger in memory: its struct, its entries' array, their data, each with a tag of its own. -/
structure LedAt (h : Heap) (p o : Nat) (bi bt : Int) (es : List EH) (a : Option Addr) (cap : Nat) : Prop where
  str : h p = some (row (o, 0) [.bool true, I bi, I bt, .slice a es.length cap] 68)
  own : Own h (o, 1) 34 a es.length cap 4 (encs es)
  good : ∀ e ∈ es, e.Good h (o, 2)
  small : ∀ e ∈ es, e.n ≤ 1200

theorem last_any (h : Heap) (p o : Nat) (bi bt : Int) (es : List EH) (a : Option Addr) (cap : Nat) (L : LedAt h p o bi bt es a cap) (hlen : es.length ≤ 9007199254740992) :
    ACalls PR 38 #[.pointer (some ⟨p, 0, none⟩)] h (fun v h' => v = .agg #[I (lastM bi bt es).1, I (lastM bi bt es).2] ∧ h = h') := by
  have hp := L.str
  refine acalls_pure (acalls_of mix Try.func38 rfl rfl Try.ntmps38 Try.results38 rfl ?_); conv => whnf
  refine AAlloc.mk (0, 1) rfl fun r hr => ?_; conv => whnf
  refine ALoad.one rfl (hr.sub _ _ _ hp) rfl ?_; conv => whnf
  by_cases hn : es.length = 0
  · have h0 : es = [] := List.eq_nil_of_length_eq_zero hn
    subst h0
    refine ACmp.no (by simp) ?_; conv => whnf
    refine ALoad.agg rfl (hr.sub _ _ _ hp) rfl rfl ?_; conv => whnf
    refine AStore.agg' rfl rfl rfl (Heap.set_same _ _ _) rfl ?_; conv => whnf
    refine ALoad.agg rfl (Heap.set_same _ _ _) rfl rfl ?_; conv => whnf
    refine ⟨rfl, ?_⟩
    rw [Heap.set_set]
    exact hr.sub _
  · refine ACmp.yes (by omega) ?_; conv => whnf
    obtain ⟨k, hk⟩ : ∃ k, es.length = k + 1 := ⟨es.length - 1, by omega⟩
    obtain ⟨e, he⟩ : ∃ e, es[k]? = some e := ⟨es[k], by simp [hk]⟩
    have hlast : es.getLast? = some e := by rw [List.getLast?_eq_getElem?, hk]; exact he
    obtain ⟨b, off, l, E, fz, rfl, hb, hc⟩ := L.own.sl.pos (by omega)
    have g0 : l[off + k * 4 + 0]? = some (I e.term) := by
      rw [Nat.add_assoc, get_of_take hc (by omega), encs_get he (by omega)]; rfl
    have g1 : l[off + k * 4 + 1]? = some (I e.index) := by
      rw [Nat.add_assoc, get_of_take hc (by omega), encs_get he (by omega)]; rfl
    refine ADrawn.mk (h.set r (row (0, 1) [I 0, I 0] 66)) [19] (Sub.refl _) (by decide +kernel) ?_; conv => whnf
    refine ALoad.one rfl (hr.sub _ _ _ hp) rfl ?_; conv => whnf
    refine AArith.ok (by omega) (by omega) (rfl) ?_; conv => whnf
    refine AIdx.nat (j := k) (by omega) (by omega) rfl rfl ?_; conv => whnf
    refine ALoad.one rfl (hr.sub _ _ _ hb) g1 ?_; conv => whnf
    refine ALoad.one rfl (hr.sub _ _ _ hp) rfl ?_; conv => whnf
    refine AArith.ok (by omega) (by omega) (rfl) ?_; conv => whnf
    refine AIdx.nat (j := k) (by omega) (by omega) rfl rfl ?_; conv => whnf
    refine ALoad.one rfl (hr.sub _ _ _ hb) g0 ?_; conv => whnf
    refine AStore.agg' rfl rfl rfl (Heap.set_same _ _ _) rfl ?_; conv => whnf
    refine ALoad.agg rfl (Heap.set_same _ _ _) rfl rfl ?_; conv => whnf
    refine ⟨by simp [lastM, hlast], ?_⟩
    rw [Heap.set_set]
    exact hr.sub _
end Go.Ah
