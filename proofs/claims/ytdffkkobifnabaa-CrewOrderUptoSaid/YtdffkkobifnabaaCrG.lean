/- The chapter's crews; the laws that hold the program to the reference. -/
import Derived.Test.YtdffkkobifnabaaCrF
namespace Go.Ah
open Go.Proofs
set_option linter.unusedVariables false
set_option linter.unusedSimpArgs false

theorem EqInts_yes (h : Heap) {t1 t2 : Tag} {a1 a2 : Option Addr} {n1 n2 c1 c2 : Nat} {xs ys : List Int} (s1 : Sl h t1 a1 n1 c1 1 (xs.map I)) (s2 : Sl h t2 a2 n2 c2 1 (ys.map I)) (hn : n1 ≤ 4611686018427387904) (e : xs = ys) :
    ACalls PR 18 #[.slice a1 n1 c1, .slice a2 n2 c2] h (fun v h' => v = .bool true ∧ h = h') :=
  (EqInts_any h s1 s2 hn).mono fun _ _ ⟨q, r⟩ => ⟨by rw [q, decide_eq_true e], r⟩
theorem Most_is (h : Heap) (a b : Int) (r : Bool) (e : decide (pop (m5 a) < 2 * pop (m5 a &&& m5 b)) = r) : ACalls PR 29 #[I a, I b] h (fun v h' => v = .bool r ∧ h = h') :=
  (Most_any h a b).mono fun _ _ ⟨q, s⟩ => ⟨by rw [q, e], s⟩
theorem Change_is (h : Heap) (a b r : Int) (ha : -9223372036854775808 ≤ a) (ha' : a ≤ 9223372036854775807) (hb : -9223372036854775808 ≤ b) (hb' : b ≤ 9223372036854775807) (e : chg a b = r) : ACalls PR 31 #[I a, I b] h (fun v h' => v = I r ∧ h = h') :=
  (Change_any h a b ha ha' hb hb').mono fun _ _ ⟨q, s⟩ => ⟨by rw [q, e], s⟩
theorem Count_is (h : Heap) (c r : Int) (e : ((pop (m5 c) : Nat) : Int) = r) : ACalls PR 21 #[I c] h (fun v h' => v = I r ∧ h = h') :=
  (Count_any h c).mono fun _ _ ⟨q, s⟩ => ⟨by rw [q, e], s⟩
theorem Has_is (h : Heap) (c n : Int) (r : Bool) (e : hasB c n = r) : ACalls PR 24 #[I c, I n] h (fun v h' => v = .bool r ∧ h = h') :=
  (Has_any h c n).mono fun _ _ ⟨q, s⟩ => ⟨by rw [q, e], s⟩
theorem Of_is (h : Heap) {t : Tag} {a : Option Addr} {n cp : Nat} {l : List Int} (s : Sl h t a n cp 1 (l.map I)) (hn : n ≤ 4611686018427387904) (x y : Int) (ex : ofC l = x) (ey : ofE l = y) :
    ACalls PR 27 #[.slice a n cp] h (fun v h' => v = .tuple #[I x, I y] ∧ h = h') :=
  (Of_any h s hn).mono fun _ _ ⟨q, r⟩ => ⟨by rw [q, ex, ey], r⟩
theorem RankOf.val {xs : List Int} {r v : Int} (h : RankOf xs r) (h1 : xs.length < 2 * cnt v xs) (h2 : ¬ xs.length < 2 * cnt (v + 1) xs) (h0 : 0 ≤ v) : r = v := by
  rcases h with ⟨rfl, _⟩ | ⟨_, s, e, _, k⟩
  · simp [cnt] at h1
  · have a := (k v).2 h1
    have b : ¬ (v + 1 ≤ s) := fun c => h2 ((k (v + 1)).1 c)
    rw [e, if_neg (by omega)]
    omega

theorem works_yes (h : Heap) : ACalls PR 23 #[] h (fun v h' => v = .bool true ∧ h = h') := by
  refine acalls_pure (acalls_of mix Try.func23 rfl rfl Try.ntmps23 Try.results23 rfl ?_); conv => whnf
  refine ABuildSl.mk (0, 1) rfl rfl rfl rfl rfl rfl rfl fun b1 f1 => ?_; conv => whnf
  have s1 := f1.sub (row (0, 1) [I 1, I 3] 3)
  have l1 : Sl (h.set b1 (row (0, 1) [I 1, I 3] 3)) (0, 1) (some ⟨b1, 0, none⟩) 2 2 1 (([1, 3] : List Int).map I) := ⟨rfl, Nat.le_refl _, .inr ⟨b1, 0, _, _, _, rfl, Heap.set_same _ _ _, rfl⟩⟩
  refine ACalls.mono (Of_is _ l1 (by omega) 10 0 (by decide) (by decide)) ?_; rintro _ _ ⟨rfl, rfl⟩; conv => whnf
  refine ACmp.yes (rfl) ?_; conv => whnf
  refine ACmp.yes (rfl) ?_; conv => whnf
  refine ACalls.mono (List_any _ 10) ?_; rintro _ h2 ⟨a, cp, t, rfl, s, k2⟩; conv => whnf
  refine ABuildSl.mk (0, 1) rfl rfl rfl rfl rfl rfl rfl fun b3 f3 => ?_; conv => whnf
  have s3 := f3.sub (row (0, 1) [I 1, I 3] 3)
  have l3 : Sl (h2.set b3 (row (0, 1) [I 1, I 3] 3)) (0, 1) (some ⟨b3, 0, none⟩) 2 2 1 (([1, 3] : List Int).map I) := ⟨rfl, Nat.le_refl _, .inr ⟨b3, 0, _, _, _, rfl, Heap.set_same _ _ _, rfl⟩⟩
  have hp : (ls (m5 10)).length ≤ 5 := by decide
  refine ACalls.mono (EqInts_yes _ (s.sub s3) l3 (by omega) (by decide)) ?_; rintro _ _ ⟨rfl, rfl⟩; conv => whnf
  refine ACalls.mono (Count_is _ 10 2 (by decide)) ?_; rintro _ _ ⟨rfl, rfl⟩; conv => whnf
  refine ACmp.yes (rfl) ?_; conv => whnf
  refine ACalls.mono (Most_is _ 14 6 true (by decide)) ?_; rintro _ _ ⟨rfl, rfl⟩; conv => whnf
  refine ACalls.mono (Most_is _ 14 2 false (by decide)) ?_; rintro _ _ ⟨rfl, rfl⟩; conv => whnf
  refine ACalls.mono (Change_is _ 14 6 0 (by omega) (by omega) (by omega) (by omega) (by decide)) ?_; rintro _ _ ⟨rfl, rfl⟩; conv => whnf
  refine ACmp.yes (rfl) ?_; conv => whnf
  refine ACalls.mono (Rank_any _ 14 0 5 7 3 0 0) ?_; rintro _ _ ⟨⟨r, rfl, hr⟩, rfl⟩; conv => whnf
  have hr5 := hr.val (v := 5) (by decide) (by decide) (by omega)
  refine ACmp.yes (hr5) ?_; conv => whnf
  exact ⟨rfl, s1.trans (k2.trans s3)⟩

theorem Checks_law (h : Heap) (c : Int) (hc : -9223372036854775808 ≤ c) (hc' : c ≤ 9223372036854775807) : ACalls PR 3 #[I c] h (fun v h' => v = .bool true ∧ h = h') := by
  refine acalls_pure (acalls_of mix Try.func3 rfl rfl Try.ntmps3 Try.results3 rfl ?_); conv => whnf
  refine ACalls.mono (Check_any h c hc hc') ?_; rintro _ _ ⟨rfl, rfl⟩; conv => whnf
  refine ACalls.mono (refCheck_any h c hc hc') ?_; rintro _ _ ⟨rfl, rfl⟩; conv => whnf
  refine ACmp.yes (rfl) ?_; conv => whnf
  refine ACalls.mono (List_any h c) ?_; rintro _ h2 ⟨a, cp, t, rfl, s, k2⟩; conv => whnf
  refine ACalls.mono (refList_any h2 c hc hc') ?_; rintro _ h3 ⟨a', cp', t', rfl, s', k3⟩; conv => whnf
  have hp : (ls (m5 c)).length ≤ 5 := by rw [ls_len _ (m5_lt c)]; exact pop_le _
  refine ACalls.mono (EqInts_yes _ (s.sub k3) s' (by omega) rfl) ?_; rintro _ _ ⟨rfl, rfl⟩; conv => whnf
  refine ACalls.mono (Count_any _ c) ?_; rintro _ _ ⟨rfl, rfl⟩; conv => whnf
  refine ACalls.mono (refCount_any _ c hc hc') ?_; rintro _ _ ⟨rfl, rfl⟩; conv => whnf
  refine ACmp.yes (rfl) ?_; conv => whnf
  refine ACalls.mono (works_yes _) ?_; rintro _ _ ⟨rfl, rfl⟩; conv => whnf
  exact ⟨rfl, k2.trans k3⟩

theorem Has_law (h : Heap) (c n : Int) (hc : -9223372036854775808 ≤ c) (hc' : c ≤ 9223372036854775807) : ACalls PR 4 #[I c, I n] h (fun v h' => v = .bool true ∧ h = h') := by
  refine acalls_pure (acalls_of mix Try.func4 rfl rfl Try.ntmps4 Try.results4 rfl ?_); conv => whnf
  cases hb : hasB c n
  all_goals (refine ACalls.mono (Has_is h c n _ hb) ?_; rintro _ _ ⟨rfl, rfl⟩; conv => whnf)
  all_goals refine ACalls.mono (refHas_any h c n hc hc') ?_
  all_goals rw [hb]
  all_goals rintro _ _ ⟨rfl, rfl⟩
  all_goals (conv => whnf)
  all_goals (refine ACalls.mono (works_yes _) ?_; rintro _ _ ⟨rfl, rfl⟩; conv => whnf)
  all_goals exact ⟨rfl, Sub.refl _⟩

theorem Of_law (h : Heap) {t : Tag} {a : Option Addr} {n cp : Nat} {l : List Int} (s : Sl h t a n cp 1 (l.map I)) (hn : n * 8 ≤ 140737488355328) : ACalls PR 5 #[.slice a n cp] h (fun v h' => v = .bool true ∧ h = h') := by
  refine acalls_pure (acalls_of mix Try.func5 rfl rfl Try.ntmps5 Try.results5 rfl ?_); conv => whnf
  refine ACalls.mono (CopyInts_any h s hn (0, 1)) ?_; rintro _ h2 ⟨a2, c2, rfl, o2, k2⟩; conv => whnf
  refine ACalls.mono (Of_any h2 o2.sl (by omega)) ?_; rintro _ _ ⟨rfl, rfl⟩; conv => whnf
  refine ACalls.mono (refOf_any h2 (s.sub k2) (by omega)) ?_; rintro _ _ ⟨rfl, rfl⟩; conv => whnf
  refine ACmp.yes (rfl) ?_; conv => whnf
  refine ACmp.yes (rfl) ?_; conv => whnf
  refine ACalls.mono (EqInts_yes h2 o2.sl (s.sub k2) (by omega) rfl) ?_; rintro _ _ ⟨rfl, rfl⟩; conv => whnf
  refine ACalls.mono (works_yes _) ?_; rintro _ _ ⟨rfl, rfl⟩; conv => whnf
  exact ⟨rfl, k2⟩
end Go.Ah
