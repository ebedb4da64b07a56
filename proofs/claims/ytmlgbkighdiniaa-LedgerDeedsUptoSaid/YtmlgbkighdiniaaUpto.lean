/- What came in is of bulk at most 1048576. No program in sight. -/
import Derived.Test.YtmlgbkighdiniaaOpn
namespace Go.Ah
set_option linter.unusedVariables false
set_option linter.unusedSimpArgs false

/-- how bulk goes down to the parts -/
structure BulkLaws {H : Type} (B : DataW H → Nat) (BA : List (DataW H) → Nat) : Prop where
  nil : BA [] = 0
  cons : ∀ d r, BA (d :: r) = B d + BA r
  slice : ∀ e r, B (.slice e r) = BA e + BA r + 1
  agg : ∀ ps, B (.agg ps) = BA ps + 1
  pos : ∀ d, 1 ≤ B d
def QU {H : Type} (B : DataW H → Nat) (t : TypeId) (d : DataW H) : Prop := B d ≤ 1048576
theorem bulk_part {H : Type} {B : DataW H → Nat} {BA : List (DataW H) → Nat} (hc : ∀ d r, BA (d :: r) = B d + BA r) {d : DataW H} : ∀ {ds : List (DataW H)}, d ∈ ds → B d ≤ BA ds
  | x :: r, h => by
    rw [hc]
    rcases List.mem_cons.1 h with rfl | h
    · omega
    · have := bulk_part hc h; omega
theorem BulkLaws.len {H : Type} {B : DataW H → Nat} {BA : List (DataW H) → Nat} (l : BulkLaws B BA) : ∀ ds : List (DataW H), ds.length ≤ BA ds
  | [] => by simp
  | x :: r => by
    have := l.len r
    have := l.pos x
    rw [l.cons, List.length_cons]; omega
theorem QU.hered {H : Type} {P : Program} {B : DataW H → Nat} {BA : List (DataW H) → Nat} (l : BulkLaws B BA) : Hered P (QU B) := by
  refine ⟨fun {t e es rest} ht q d hd => ?_, fun {t fs ps} ht q i f d hi hd => ?_⟩
  · have h1 := bulk_part l.cons hd
    have h2 : B (.slice es rest) ≤ 1048576 := q
    rw [l.slice] at h2
    show B d ≤ 1048576
    omega
  · have h1 := bulk_part l.cons (List.mem_of_getElem? hd)
    have h2 : B (.agg ps) ≤ 1048576 := q
    rw [l.agg] at h2
    show B d ≤ 1048576
    omega
theorem QU.len {H : Type} {B : DataW H → Nat} {BA : List (DataW H) → Nat} (l : BulkLaws B BA) {t : TypeId} {ds rest : List (DataW H)} (q : QU B t (.slice ds rest)) : ds.length ≤ 1048576 := by
  have h2 : B (.slice ds rest) ≤ 1048576 := q
  have := l.len ds
  rw [l.slice] at h2
  omega
theorem RdU.of {H : Type} {enc : TypeId × Value → H} {P : Program} {w : World} {B : DataW H → Nat} {t : TypeId} {d : DataW H} {v : Value} {ps : List MemPlace} (hb : B d ≤ 1048576)
    (h : DataW.Trod enc P w 0 (fun _ => true) true t v d ps) : Rd enc P w (QU B) t v.cells.toList := by
  obtain ⟨fuel, h⟩ := h
  exact ⟨fuel, d, ps, h, hb⟩
/-- a slice that was read, and how long it is -/
theorem Rd.sliceU {H : Type} {enc : TypeId × Value → H} {P : Program} {w : World} {B : DataW H → Nat} {BA : List (DataW H) → Nat} (l : BulkLaws B BA) {t e z : TypeId} {cs : List Value} (ht : P.underlying t = some (.slice e)) (hz : P.cellsOf e = z) (hz0 : 0 < z)
    (r : Rd enc P w (QU B) t cs) : ∃ (a : Option Addr) (n c : Nat) (es : List (List Value)), cs = [.slice a n c] ∧ n ≤ 1048576 ∧ es.length = n ∧ Sl (heapOf w) (0, 0) a n c z es.flatten ∧ (∀ x ∈ es, x.length = z ∧ Rd enc P w (QU B) e x) := by
  obtain ⟨a, n, c, es, e1, h1, h2, h3, h4, h5, ds, rest, h6, h7⟩ := r.slice (QU.hered l) ht hz hz0
  refine ⟨a, n, c, es, e1, ?_, h3, h4, h5⟩
  rcases h7 with ⟨h7, _⟩ | ⟨_, h7⟩
  · omega
  · have := QU.len l h7; omega
end Go.Ah
