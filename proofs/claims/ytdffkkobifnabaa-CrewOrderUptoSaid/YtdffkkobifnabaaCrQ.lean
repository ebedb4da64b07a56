/- The law Order. -/
import Derived.Test.YtdffkkobifnabaaCrH
import Derived.Test.YtdffkkobifnabaaCrO
namespace Go.Ah
open Go.Proofs
set_option linter.unusedVariables false
set_option linter.unusedSimpArgs false

theorem all_congr {l l' : List Int} (h : ∀ x, x ∈ l ↔ x ∈ l') : l.all ok1 = l'.all ok1 := by
  rw [Bool.eq_iff_iff, List.all_eq_true, List.all_eq_true]
  exact ⟨fun k x hx => k x ((h x).2 hx), fun k x hx => k x ((h x).1 hx)⟩
theorem of_congr {l l' : List Int} (h : ∀ x, x ∈ l ↔ x ∈ l') : ofC l = ofC l' ∧ ofE l = ofE l' := by
  have ha := all_congr h
  unfold ofC ofE
  rw [← ha]
  by_cases c : l.all ok1 = true
  · have c' : l'.all ok1 = true := by rw [← ha]; exact c
    have hm : mk l = mk l' := bits_ext (mk_lt l c 0 (by omega)) (mk_lt l' c' 0 (by omega)) fun i hi => by
      rw [mk_bt' c hi, mk_bt' c' hi, decide_eq_decide]; exact h _
    rw [hm]; exact ⟨rfl, rfl⟩
  · rw [if_neg c, if_neg c, if_neg c, if_neg c]; exact ⟨rfl, rfl⟩

theorem Order_law (h : Heap) {a1 a2 : Option Addr} {n1 n2 c1 c2 : Nat} {l m : List Int} (s1 : Sl h (0, 0) a1 n1 c1 1 (l.map I)) (s2 : Sl h (0, 0) a2 n2 c2 1 (m.map I)) (hn1 : n1 ≤ 1048576) (hn2 : n2 ≤ 1048576) :
    ACalls PR 12 #[.slice a1 n1 c1, .slice a2 n2 c2] h (fun v h' => v = .bool true ∧ h = h') := by
  refine ACalls.owner ⟨_, Try.func12, rfl, rfl⟩ fun o ho hbd => ?_
  refine acalls_pure ?_
  refine acalls_of mix Try.func12 rfl rfl Try.ntmps12 Try.results12 rfl ?_; conv => whnf
  refine ACalls.mono (works_yes _) ?_; rintro _ _ ⟨rfl, rfl⟩; conv => whnf
  have t0 : ∀ r, ((0, 0) : Tag) ≠ (o, r) := fun r c => ho (congrArg Prod.fst c).symm
  refine ACalls.mono (CopyInts_any h s1 (by omega) (o, 0)) ?_; rintro _ h3 ⟨a3, c3, rfl, o3, k3⟩; conv => whnf
  refine AAppend.own (t := (o, 0)) (E := 3) (z := 1) (by_ := 8) (zero := [I 0]) (tx := (0, 0)) (xs := m.map I) rfl ⟨_, rfl⟩ rfl rfl rfl rfl (by omega) o3 (s2.sub k3) (oneCell_ints _) (by omega) (by omega) fun a4 c4 h4 o4 k4 _ => ?_
  conv => whnf
  have s14 := (s1.sub k3).keepT k4 (t0 0)
  have s24 := (s2.sub k3).keepT k4 (t0 0)
  refine ACalls.mono (CopyInts_any h4 s24 (by omega) (o, 1)) ?_; rintro _ h5 ⟨a5, c5, rfl, o5, k5⟩; conv => whnf
  refine AAppend.own (t := (o, 1)) (E := 3) (z := 1) (by_ := 8) (zero := [I 0]) (tx := (0, 0)) (xs := l.map I) rfl ⟨_, rfl⟩ rfl rfl rfl rfl (by omega) o5 (s14.sub k5) (oneCell_ints _) (by omega) (by omega) fun a6 c6 h6 o6 k6 _ => ?_
  conv => whnf
  have o46 : Own h6 (o, 0) 3 a4 (n1 + n2) c4 1 (l.map I ++ m.map I) := (o4.move fun _ _ e => k5 _ _ e).keepT k6 (by simp)
  rw [← List.map_append] at o46 o6
  refine ACalls.mono (Of_any h6 o46.sl (by omega)) ?_; rintro _ _ ⟨rfl, rfl⟩; conv => whnf
  have e1 := of_congr (l := m ++ l) (l' := l ++ m) (fun x => by simp [or_comm])
  refine ACalls.mono (Of_any h6 o6.sl (by omega)) ?_
  rw [e1.1, e1.2]
  rintro _ _ ⟨rfl, rfl⟩
  conv => whnf
  refine AAppend.own (t := (o, 0)) (E := 3) (z := 1) (by_ := 8) (zero := [I 0]) (tx := (o, 0)) (xs := (l ++ m).map I) rfl ⟨_, rfl⟩ rfl rfl rfl rfl (by omega) o46 o46.sl (oneCell_ints _) (by omega) (by omega) fun a7 c7 h7 o7 k7 _ => ?_
  conv => whnf
  rw [← List.map_append] at o7
  have e2 := of_congr (l := (l ++ m) ++ (l ++ m)) (l' := l ++ m) (fun x => ⟨fun h => (List.mem_append.1 h).elim id id, fun h => List.mem_append.2 (.inl h)⟩)
  refine ACalls.mono (Of_any h7 o7.sl (by omega)) ?_
  rw [e2.1, e2.2]
  rintro _ _ ⟨rfl, rfl⟩
  conv => whnf
  refine ACmp.yes (rfl) ?_; conv => whnf
  refine ACmp.yes (rfl) ?_; conv => whnf
  refine ACmp.yes (rfl) ?_; conv => whnf
  refine ACmp.yes (rfl) ?_; conv => whnf
  refine ⟨rfl, Keep.toSub (o := o) ?_ (hbd.no (Nat.le_refl _))⟩
  exact (k3.keep o).trans (k4.keep.trans ((k5.keep o).trans (k6.keep.trans k7.keep)))
end Go.Ah
