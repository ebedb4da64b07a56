/- What is ranked, in plain Lean. -/
import Derived.Test.YtdffkkobifnabaaCrP
namespace Go.Ah
set_option linter.unusedVariables false
set_option linter.unusedSimpArgs false

def cnt (v : Int) (l : List Int) : Nat := l.countP (fun x => decide (v ≤ x))
abbrev gd (l : List Int) (p : Nat) : Int := l.getD p 0
theorem gd_get {l : List Int} {p : Nat} (h : p < l.length) : gd l p = l[p] := by simp [gd, h]

/-- two neighbours, swapped -/
def sw (l : List Int) (j : Nat) : List Int := (l.set (j + 1) (gd l j)).set j (gd l (j + 1))
theorem sw_len (l : List Int) (j : Nat) : (sw l j).length = l.length := by simp [sw]
theorem sw_get (l : List Int) (j p : Nat) (h : j + 1 < l.length) : gd (sw l j) p = if p = j then gd l (j + 1) else if p = j + 1 then gd l j else gd l p := by
  unfold sw gd
  simp only [List.getD_eq_getElem?_getD, List.getElem?_set, List.length_set]
  by_cases e1 : j = p
  · subst e1
    rw [if_pos rfl, if_pos (by omega), if_pos rfl]; rfl
  · rw [if_neg e1, if_neg (Ne.symm e1)]
    by_cases e2 : j + 1 = p
    · subst e2
      rw [if_pos rfl, if_pos (by omega), if_pos rfl]; rfl
    · rw [if_neg e2, if_neg (Ne.symm e2)]
theorem sw_mem {l : List Int} {j : Nat} (h : j + 1 < l.length) {x : Int} (hx : x ∈ sw l j) : x ∈ l := by
  unfold sw at hx
  rcases List.mem_or_eq_of_mem_set hx with hx | hx
  · rcases List.mem_or_eq_of_mem_set hx with hx | hx
    · exact hx
    · rw [hx, gd_get (by omega)]; exact List.getElem_mem _
  · rw [hx, gd_get (by omega)]; exact List.getElem_mem _
theorem countP_pos_get {p : Int → Bool} {l : List Int} {i : Nat} (h : i < l.length) (hp : p l[i] = true) : 0 < l.countP p :=
  List.countP_pos_iff.2 ⟨_, List.getElem_mem h, hp⟩
theorem sw_cnt (v : Int) (l : List Int) (j : Nat) (h : j + 1 < l.length) : cnt v (sw l j) = cnt v l := by
  unfold cnt sw
  have h1 : j < (l.set (j + 1) (gd l j)).length := by simp; omega
  rw [List.countP_set h1, List.countP_set h]
  have e1 : (l.set (j + 1) (gd l j))[j] = l[j] := by simp
  rw [e1, gd_get (show j < l.length by omega), gd_get h]
  have p1 := @countP_pos_get (fun x => decide (v ≤ x)) l (j + 1) h
  have p2 := @countP_pos_get (fun x => decide (v ≤ x)) l j (by omega)
  have q1 : v ≤ l[j + 1] → 0 < l.countP (fun x => decide (v ≤ x)) := fun y => p1 (decide_eq_true y)
  have q2 : v ≤ l[j] → 0 < l.countP (fun x => decide (v ≤ x)) := fun y => p2 (decide_eq_true y)
  clear p1 p2
  generalize l.countP (fun x => decide (v ≤ x)) = C at q1 q2 ⊢
  by_cases a : v ≤ l[j] <;> by_cases b : v ≤ l[j + 1] <;> simp only [a, b, decide_true, decide_false, if_true, if_false, Bool.false_eq_true, true_implies, false_implies] at q1 q2 ⊢ <;> omega

def SortedTo (l : List Int) (i : Nat) : Prop := ∀ p q, p < q → q < i → gd l p ≤ gd l q
def Ins (l : List Int) (i j : Nat) : Prop := ∀ p q, p < q → q ≤ i → q ≠ j → gd l p ≤ gd l q
theorem SortedTo.ins {l : List Int} {i : Nat} (s : SortedTo l i) : Ins l i i := fun p q h1 h2 h3 => s p q h1 (by omega)
theorem Ins.zero {l : List Int} {i : Nat} (s : Ins l i 0) : SortedTo l (i + 1) := fun p q h1 h2 => s p q h1 (by omega) (by omega)
theorem Ins.stop {l : List Int} {i j : Nat} (s : Ins l i (j + 1)) (h : j + 1 ≤ i) (k : ¬ gd l (j + 1) < gd l j) : SortedTo l (i + 1) := fun p q h1 h2 => by
  by_cases e : q = j + 1
  · subst e
    by_cases e2 : p = j
    · subst e2; omega
    · have := s p j (by omega) (by omega) (by omega); omega
  · exact s p q h1 (by omega) e
theorem Ins.step {l : List Int} {i j : Nat} (s : Ins l i (j + 1)) (hi : i < l.length) (h : j + 1 ≤ i) (k : gd l (j + 1) < gd l j) : Ins (sw l j) i j := fun p q h1 h2 h3 => by
  rw [sw_get l j p (by omega), sw_get l j q (by omega), if_neg h3]
  by_cases e1 : q = j + 1
  · rw [if_pos e1]
    by_cases e2 : p = j
    · rw [if_pos e2]; omega
    · rw [if_neg e2, if_neg (by omega)]; exact s p j (by omega) (by omega) (by omega)
  · rw [if_neg e1]
    by_cases e2 : p = j
    · rw [if_pos e2]; exact s (j + 1) q (by omega) h2 e1
    · rw [if_neg e2]
      by_cases e3 : p = j + 1
      · rw [if_pos e3]; exact s j q (by omega) h2 e1
      · rw [if_neg e3]; exact s p q h1 h2 e1

/-- What is ranked: most have reached it, and nothing above it. -/
def RankOf (xs : List Int) (r : Int) : Prop :=
  (xs = [] ∧ r = 0) ∨ (xs ≠ [] ∧ ∃ s, r = (if 0 > s then 0 else s) ∧ s ∈ xs ∧ ∀ v, v ≤ s ↔ xs.length < 2 * cnt v xs)

theorem sorted_rank {l : List Int} (h0 : l ≠ []) (s : SortedTo l l.length) : ∀ v, v ≤ gd l ((l.length - 1) / 2) ↔ l.length < 2 * cnt v l := by
  intro v
  have hn : 0 < l.length := List.length_pos_iff.2 h0
  generalize hk : (l.length - 1) / 2 = k
  have hkn : k < l.length := by omega
  constructor
  · intro hv
    have h1 : cnt v l = (l.take k).countP (fun x => decide (v ≤ x)) + (l.drop k).countP (fun x => decide (v ≤ x)) := by
      unfold cnt; rw [← List.countP_append, List.take_append_drop]
    have h2 : (l.drop k).countP (fun x => decide (v ≤ x)) = (l.drop k).length := by
      rw [List.countP_eq_length]
      intro x hx
      obtain ⟨i, hi, rfl⟩ := List.mem_iff_getElem.1 hx
      rw [List.length_drop] at hi
      rw [List.getElem_drop, ← gd_get (show k + i < l.length by omega)]
      refine decide_eq_true ?_
      by_cases e : i = 0
      · subst e; exact hv
      · have := s k (k + i) (by omega) (by omega); omega
    rw [List.length_drop] at h2
    omega
  · intro hc
    refine Classical.byContradiction fun hv => ?_
    have h1 : cnt v l = (l.take (k + 1)).countP (fun x => decide (v ≤ x)) + (l.drop (k + 1)).countP (fun x => decide (v ≤ x)) := by
      unfold cnt; rw [← List.countP_append, List.take_append_drop]
    have h2 : (l.take (k + 1)).countP (fun x => decide (v ≤ x)) = 0 := by
      rw [List.countP_eq_zero]
      intro x hx
      obtain ⟨i, hi, rfl⟩ := List.mem_iff_getElem.1 hx
      rw [List.length_take] at hi
      rw [List.getElem_take, ← gd_get (show i < l.length by omega)]
      intro c
      have c := of_decide_eq_true c
      by_cases e : i = k
      · subst e; exact hv c
      · have := s i k (by omega) (by omega); omega
    have h3 := List.countP_le_length (p := fun x => decide (v ≤ x)) (l := l.drop (k + 1))
    rw [List.length_drop] at h3
    omega

theorem rank_of_sorted {xs ys : List Int} (hl : ys.length = xs.length) (hm : ∀ x ∈ ys, x ∈ xs) (hc : ∀ v, cnt v ys = cnt v xs) (s : SortedTo ys ys.length) (h0 : xs ≠ []) :
    RankOf xs (if 0 > gd ys ((ys.length - 1) / 2) then 0 else gd ys ((ys.length - 1) / 2)) := by
  have hn : 0 < xs.length := List.length_pos_iff.2 h0
  refine .inr ⟨h0, _, rfl, hm _ ?_, fun v => ?_⟩
  · rw [gd_get (by omega)]; exact List.getElem_mem _
  · rw [sorted_rank (by intro c; rw [c] at hl; simp at hl; omega) s v, hl, hc]

/-- how many of a crew have reached a number: the bits of a set -/
theorem cnt_snoc (v : Int) (l : List Int) (x : Int) : cnt v (l ++ [x]) = cnt v l + (decide (v ≤ x)).toNat := by
  unfold cnt; rw [List.countP_append, List.countP_singleton]; cases decide (v ≤ x) <;> rfl
theorem cnt_lsTo (v : Int) (f : Int → Int) (k : Nat) : ∀ j, cnt v ((lsTo k (j + 1)).map f) = cnt v ((lsTo k j).map f) + (bt k j && decide (v ≤ f ((j : Int) + 1))).toNat := fun j => by
  rw [lsTo]
  cases bt k j
  · simp
  · rw [if_pos rfl, List.map_append, List.map_singleton, cnt_snoc, Bool.true_and]
theorem cnt_ls (v : Int) (f : Int → Int) (k m : Nat) (h : ∀ j, j < 5 → bt k j = true → (bt m j = decide (v ≤ f ((j : Int) + 1)))) : cnt v ((ls k).map f) = pop (k &&& m) := by
  have e : ∀ j, j < 5 → (bt k j && decide (v ≤ f ((j : Int) + 1))) = bt (k &&& m) j := fun j hj => by
    rw [bt_and]
    cases hb : bt k j
    · rfl
    · rw [h j hj hb]
  unfold ls
  rw [cnt_lsTo, cnt_lsTo, cnt_lsTo, cnt_lsTo, cnt_lsTo, e 0 (by omega), e 1 (by omega), e 2 (by omega), e 3 (by omega), e 4 (by omega)]
  unfold pop
  have : cnt v ((lsTo k 0).map f) = 0 := rfl
  omega
theorem cnt_mono {v : Int} (f g : Int → Int) : ∀ (l : List Int), (∀ x ∈ l, f x ≤ g x) → cnt v (l.map f) ≤ cnt v (l.map g)
  | [], _ => Nat.le_refl _
  | x :: l, h => by
    have ih := cnt_mono f g (v := v) l fun y hy => h y (List.mem_cons_of_mem _ hy)
    have hx := h x (List.mem_cons_self ..)
    unfold cnt at ih ⊢
    rw [List.map_cons, List.map_cons, List.countP_cons, List.countP_cons]
    by_cases a : v ≤ f x
    · have b : v ≤ g x := by omega
      simp only [a, b, decide_true, if_true]; omega
    · simp only [a, decide_false, Bool.false_eq_true, if_false]; omega
end Go.Ah
