/- Arrays of integers that come in by value, opened. -/
import Derived.Test.YtdffkkobifnabaaCrA
import Derived.WideKeyPair
namespace Go.Ah
open Go.ChangeShapes Go.WideShapes
set_option linter.unusedVariables false

section
variable {H : Type} {enc : TypeId × Value → H} {P : Program} {k e : TypeId} {q : IntKind} {W : World} {base : Nat} {sp : Nat → Bool} {held : Bool}

theorem open_arr2 (hu : P.underlying k = some (.array 2 e)) (he : P.underlying e = some (.int q)) (h1 : P.cellsOf e = 1) (hs : P.cellsOf k = 2) {r : Reach} {b0 : Nat} {v : Value} {d : DataW H} {ps : List MemPlace} (hval : Value.okWide P W r b0 k v) (hd : DataW.Trod enc P W base sp held k v d ps) :
    ∃ a0 a1 : Int, v = .agg #[.int q a0, .int q a1] ∧ (Lit.int q a0).wf = true ∧ (Lit.int q a1).wf = true := by
  obtain ⟨c0, c1, rfl⟩ : ∃ c0 c1, v = .agg #[c0, c1] := by
    simp only [Value.okWide, hu] at hval
    obtain ⟨cs, x1, x2, _⟩ := hval
    rw [hs] at x2
    obtain ⟨l⟩ := cs
    match l, x2 with
    | [c0, c1], _ => exact ⟨c0, c1, x1⟩
  obtain ⟨fuel, hf⟩ := hd
  cases fuel with
  | zero => simp [DataW.trod] at hf
  | succ n =>
    rw [DataW.trod_step] at hf
    unfold DataW.trodStep at hf
    simp only [hu, Value.cells] at hf
    rw [if_pos (by rw [hs]; rfl)] at hf
    simp only [Option.map_eq_some_iff] at hf
    obtain ⟨xs, hx, e1⟩ := hf
    rw [show List.range 2 = [0, 1] from rfl, List.mapM_cons, List.mapM_cons, List.mapM_nil] at hx
    simp only [bind, Option.bind_eq_some_iff, pure, Option.some.injEq, h1] at hx
    obtain ⟨y0, h0, _, ⟨y1, h1, _, rfl, rfl⟩, rfl⟩ := hx
    obtain ⟨a0, ea0, rfl, w0⟩ := DataW.trod_int he h0
    obtain ⟨a1, ea1, rfl, w1⟩ := DataW.trod_int he h1
    simp at ea0 ea1
    subst ea0; subst ea1
    exact ⟨a0, a1, rfl, w0, w1⟩

theorem open_arr6 (hu : P.underlying k = some (.array 6 e)) (he : P.underlying e = some (.int q)) (h1 : P.cellsOf e = 1) (hs : P.cellsOf k = 6) {r : Reach} {b0 : Nat} {v : Value} {d : DataW H} {ps : List MemPlace} (hval : Value.okWide P W r b0 k v) (hd : DataW.Trod enc P W base sp held k v d ps) :
    ∃ a0 a1 a2 a3 a4 a5 : Int, v = .agg #[.int q a0, .int q a1, .int q a2, .int q a3, .int q a4, .int q a5] ∧ (Lit.int q a0).wf = true ∧ (Lit.int q a1).wf = true ∧ (Lit.int q a2).wf = true ∧ (Lit.int q a3).wf = true ∧ (Lit.int q a4).wf = true ∧ (Lit.int q a5).wf = true := by
  obtain ⟨c0, c1, c2, c3, c4, c5, rfl⟩ : ∃ c0 c1 c2 c3 c4 c5, v = .agg #[c0, c1, c2, c3, c4, c5] := by
    simp only [Value.okWide, hu] at hval
    obtain ⟨cs, x1, x2, _⟩ := hval
    rw [hs] at x2
    obtain ⟨l⟩ := cs
    match l, x2 with
    | [c0, c1, c2, c3, c4, c5], _ => exact ⟨c0, c1, c2, c3, c4, c5, x1⟩
  obtain ⟨fuel, hf⟩ := hd
  cases fuel with
  | zero => simp [DataW.trod] at hf
  | succ n =>
    rw [DataW.trod_step] at hf
    unfold DataW.trodStep at hf
    simp only [hu, Value.cells] at hf
    rw [if_pos (by rw [hs]; rfl)] at hf
    simp only [Option.map_eq_some_iff] at hf
    obtain ⟨xs, hx, e1⟩ := hf
    rw [show List.range 6 = [0, 1, 2, 3, 4, 5] from rfl, List.mapM_cons, List.mapM_cons, List.mapM_cons, List.mapM_cons, List.mapM_cons, List.mapM_cons, List.mapM_nil] at hx
    simp only [bind, Option.bind_eq_some_iff, pure, Option.some.injEq, h1] at hx
    obtain ⟨y0, h0, _, ⟨y1, h1, _, ⟨y2, h2, _, ⟨y3, h3, _, ⟨y4, h4, _, ⟨y5, h5, _, rfl, rfl⟩, rfl⟩, rfl⟩, rfl⟩, rfl⟩, rfl⟩ := hx
    obtain ⟨a0, ea0, rfl, w0⟩ := DataW.trod_int he h0
    obtain ⟨a1, ea1, rfl, w1⟩ := DataW.trod_int he h1
    obtain ⟨a2, ea2, rfl, w2⟩ := DataW.trod_int he h2
    obtain ⟨a3, ea3, rfl, w3⟩ := DataW.trod_int he h3
    obtain ⟨a4, ea4, rfl, w4⟩ := DataW.trod_int he h4
    obtain ⟨a5, ea5, rfl, w5⟩ := DataW.trod_int he h5
    simp at ea0 ea1 ea2 ea3 ea4 ea5
    subst ea0; subst ea1; subst ea2; subst ea3; subst ea4; subst ea5
    exact ⟨a0, a1, a2, a3, a4, a5, rfl, w0, w1, w2, w3, w4, w5⟩
end
end Go.Ah
