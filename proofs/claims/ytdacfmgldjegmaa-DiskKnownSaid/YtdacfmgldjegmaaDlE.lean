/- What came in: bytes, integers, pieces, deeds. -/
import Derived.Test.YtdacfmgldjegmaaDlD
namespace Go.Ah
open Go.Proofs
set_option linter.unusedVariables false
set_option linter.unusedSimpArgs false
set_option maxRecDepth 20000

section
variable {H : Type} {enc : TypeId × Value → H} {w : World}
theorem flat_ints {k : IntKind} {t : TypeId} (ht : PR.underlying t = some (.int k)) : ∀ {es : List (List Value)}, (∀ x ∈ es, x.length = 1 ∧ Rd enc PR w (QW PR) t x) → ∃ zs : List Int, es.flatten = zs.map (.int k) ∧ zs.length = es.length
  | [], _ => ⟨[], rfl, rfl⟩
  | x :: es, h => by
    obtain ⟨zs, e, hl⟩ := flat_ints ht (es := es) fun y hy => h y (by simp [hy])
    obtain ⟨n, hx, _⟩ := (h x (by simp)).2.int ht
    subst hx
    exact ⟨n :: zs, by rw [List.flatten_cons, e]; rfl, by simp [hl]⟩
theorem ints_of {k : IntKind} {t e : TypeId} {cs : List Value} {by_ : Nat} (ht : PR.underlying t = some (.slice e)) (he : PR.underlying e = some (.int k)) (hc : PR.cellsOf e = 1) (hb : PR.bytesOf e = by_) (r : Rd enc PR w (QW PR) t cs) :
    ∃ (a : Option Addr) (n c : Nat) (zs : List Int), cs = [.slice a n c] ∧ n ≤ c ∧ c * by_ ≤ 140737488355328 ∧ Sl (heapOf w) (0, 0) a n c 1 (zs.map (Value.int k)) := by
  obtain ⟨a, n, c, es, rfl, hn, hm, hl, s, hx, ds, rest, hd, hq⟩ := r.slice QW.hered ht hc (Nat.succ_pos _)
  obtain ⟨zs, hz, hzl⟩ := flat_ints (enc := enc) (w := w) he hx
  rw [hz] at s
  refine ⟨a, n, c, zs, rfl, hn, ?_, s⟩
  rcases hq with ⟨h0, _⟩ | ⟨h1, h2⟩
  · rw [h0, Nat.zero_mul]; omega
  · have := QW.bytes ht h2
    rw [hb, h1] at this; exact this
theorem bytes_of {cs : List Value} (r : Rd enc PR w (QW PR) 26 cs) : ∃ a n c zs, cs = [.slice a n c] ∧ n ≤ c ∧ n ≤ 140737488355328 ∧ Sl (heapOf w) (0, 0) a n c 1 (bytesV zs) := by
  obtain ⟨a, n, c, zs, h1, h2, h3, h4⟩ := ints_of (k := .u8) (by_ := 1) Try.underlying26 Try.underlying5 (by kernel_rfl) (by kernel_rfl) r
  exact ⟨a, n, c, zs, h1, h2, by omega, h4⟩
/-! ### pieces and deeds -/
structure PH where
  a : Option Addr
  n : Nat
  c : Nat
  b : List Int
  sy : Bool
def PH.cells (x : PH) : List Value := [.slice x.a x.n x.c, .bool x.sy]
structure PH.Ok (h : Heap) (x : PH) : Prop where
  sl : Sl h (0, 0) x.a x.n x.c 1 (bytesV x.b)
  le : x.n ≤ 140737488355328
theorem pieces_list : ∀ {es : List (List Value)}, (∀ x ∈ es, x.length = 2 ∧ Rd enc PR w (QW PR) 28 x) → ∃ ps : List PH, es = ps.map PH.cells ∧ ∀ x ∈ ps, x.Ok (heapOf w)
  | [], _ => ⟨[], rfl, by simp⟩
  | x :: es, h => by
    obtain ⟨ps, e, hok⟩ := pieces_list (es := es) fun y hy => h y (by simp [hy])
    obtain ⟨hx2, hx⟩ := h x (by simp)
    obtain ⟨_, hf⟩ := hx.struct QW.hered Try.underlying28
    have f0 := hf 0 _ rfl
    have f1 := hf 1 _ rfl
    match x, hx2 with
    | [u, v], _ =>
      have f0 : Rd enc PR w (QW PR) 26 [u] := f0
      have f1 : Rd enc PR w (QW PR) 4 [v] := f1
      obtain ⟨a, n, c, zs, h1, _, h3, h4⟩ := bytes_of f0
      obtain ⟨b, h5⟩ := f1.bool Try.underlying4
      cases h1; cases h5
      exact ⟨⟨a, n, c, zs, b⟩ :: ps, by rw [e]; rfl, fun y hy => by
        rcases List.mem_cons.1 hy with rfl | hy
        · exact ⟨h4, h3⟩
        · exact hok y hy⟩
theorem pieces_of {cs : List Value} (r : Rd enc PR w (QW PR) 22 cs) : ∃ (a : Option Addr) (n c : Nat) (ps : List PH), cs = [.slice a n c] ∧ Sl (heapOf w) (0, 0) a n c 2 (ps.map PH.cells).flatten ∧ ps.length = n ∧ n ≤ 9223372036854775807 ∧ ∀ x ∈ ps, x.Ok (heapOf w) := by
  obtain ⟨a, n, c, es, rfl, hn, hm, hl, s, hx, _⟩ := r.slice QW.hered Try.underlying22 (by kernel_rfl : PR.cellsOf 28 = 2) (Nat.succ_pos _)
  obtain ⟨ps, rfl, hok⟩ := pieces_list (enc := enc) (w := w) hx
  exact ⟨a, n, c, ps, rfl, s, by simpa using hl, by unfold maxLen at hm; omega, hok⟩

structure EHd where
  kind : Int
  n_ : Int
  name : Nm
  to : Nm
  ba : Option Addr
  bn : Nat
  bc : Nat
  b : List Int
  ka : Option Addr
  kn : Nat
  kc : Nat
  keep : List Int
def EHd.cells (x : EHd) : List Value := [I x.kind, I x.n_, S x.name, S x.to, .slice x.ba x.bn x.bc, .slice x.ka x.kn x.kc]
structure EHd.Ok (h : Heap) (x : EHd) : Prop where
  sb : Sl h (0, 0) x.ba x.bn x.bc 1 (bytesV x.b)
  bn : x.bn ≤ 140737488355328
  sk : Sl h (0, 0) x.ka x.kn x.kc 1 (x.keep.map I)
  kn : x.kn * 8 ≤ 140737488355328
  nl : x.name.length ≤ 9223372036854775807
  tl : x.to.length ≤ 9223372036854775807
  nlo : -9223372036854775808 ≤ x.n_
  nhi : x.n_ ≤ 9223372036854775807
theorem deeds_list : ∀ {es : List (List Value)}, (∀ x ∈ es, x.length = 6 ∧ Rd enc PR w (QW PR) 43 x) → ∃ ps : List EHd, es = ps.map EHd.cells ∧ ∀ x ∈ ps, x.Ok (heapOf w)
  | [], _ => ⟨[], rfl, by simp⟩
  | x :: es, h => by
    obtain ⟨ps, e, hok⟩ := deeds_list (es := es) fun y hy => h y (by simp [hy])
    obtain ⟨hx2, hx⟩ := h x (by simp)
    obtain ⟨_, hf⟩ := hx.struct QW.hered Try.underlying43
    have f0 := hf 0 _ rfl
    have f1 := hf 1 _ rfl
    have f2 := hf 2 _ rfl
    have f3 := hf 3 _ rfl
    have f4 := hf 4 _ rfl
    have f5 := hf 5 _ rfl
    match x, hx2 with
    | [u0, u1, u2, u3, u4, u5], _ =>
      have f0 : Rd enc PR w (QW PR) 3 [u0] := f0
      have f1 : Rd enc PR w (QW PR) 3 [u1] := f1
      have f2 : Rd enc PR w (QW PR) 9 [u2] := f2
      have f3 : Rd enc PR w (QW PR) 9 [u3] := f3
      have f4 : Rd enc PR w (QW PR) 26 [u4] := f4
      have f5 : Rd enc PR w (QW PR) 33 [u5] := f5
      obtain ⟨k0, e0, _⟩ := f0.int Try.underlying3
      obtain ⟨k1, e1, w1⟩ := f1.int Try.underlying3
      obtain ⟨k2, e2, l2, _⟩ := f2.string Try.underlying9
      obtain ⟨k3, e3, l3, _⟩ := f3.string Try.underlying9
      obtain ⟨a4, n4, c4, z4, e4, _, b4, s4⟩ := bytes_of f4
      obtain ⟨a5, n5, c5, z5, e5, m5, b5, s5⟩ := ints_of (k := .i64) (by_ := 8) Try.underlying33 Try.underlying3 (by kernel_rfl) (by kernel_rfl) f5
      cases e0; cases e1; cases e2; cases e3; cases e4; cases e5
      have hb : -9223372036854775808 ≤ k1 ∧ k1 ≤ 9223372036854775807 := by simp [Lit.wf, IntKind.min, IntKind.max, IntKind.signed, IntKind.bits] at w1; omega
      exact ⟨⟨k0, k1, k2, k3, a4, n4, c4, z4, a5, n5, c5, z5⟩ :: ps, by rw [e]; rfl, fun y hy => by
        rcases List.mem_cons.1 hy with rfl | hy
        · exact ⟨s4, b4, s5, by simp only; omega, l2, l3, hb.1, hb.2⟩
        · exact hok y hy⟩
theorem deeds_of {cs : List Value} (r : Rd enc PR w (QW PR) 39 cs) : ∃ (a : Option Addr) (n c : Nat) (ps : List EHd), cs = [.slice a n c] ∧ Sl (heapOf w) (0, 0) a n c 6 (ps.map EHd.cells).flatten ∧ ps.length = n ∧ n ≤ 9223372036854775807 ∧ ∀ x ∈ ps, x.Ok (heapOf w) := by
  obtain ⟨a, n, c, es, rfl, hn, hm, hl, s, hx, _⟩ := r.slice QW.hered Try.underlying39 (by kernel_rfl : PR.cellsOf 43 = 6) (Nat.succ_pos _)
  obtain ⟨ps, rfl, hok⟩ := deeds_list (enc := enc) (w := w) hx
  exact ⟨a, n, c, ps, rfl, s, by simpa using hl, by unfold maxLen at hm; omega, hok⟩
end
end Go.Ah
