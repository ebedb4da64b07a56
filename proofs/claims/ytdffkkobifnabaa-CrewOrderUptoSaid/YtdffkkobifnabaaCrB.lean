/- Walks: List, Count, Check, sum, Of, Most, Change, and the reference's. -/
import Derived.Test.YtdffkkobifnabaaCrA
namespace Go.Ah
open Go.Proofs
set_option linter.unusedVariables false
set_option linter.unusedSimpArgs false

theorem AArith.as {kd : IntKind} {r r' : Int} {K : Int → Prop} (e : kd.wrap r = r') (k : K r') : AArith kd r K := ⟨by rw [e]; exact k⟩
theorem AInt.raw {r : Int} {K : Int → Prop} (k : K r) : AInt r K := ⟨k⟩
theorem u64_wrap {r : Int} (h : 0 ≤ r) (h' : r < 18446744073709551616) : IntKind.u64.wrap r = r := by
  show (if (false && decide (r % 18446744073709551616 ≥ 9223372036854775808)) = true then r % 18446744073709551616 - 18446744073709551616 else r % 18446744073709551616) = r
  rw [Bool.false_and, if_neg (by simp)]; omega

theorem List_own (h : Heap) (c : Int) (o : Nat) (hn : NoOwner o h) : ACalls PR 19 #[I c] h (fun v h' => ∃ a cp, v = .slice a (ls (m5 c)).length cp ∧ Sl h' (o, 0) a (ls (m5 c)).length cp 1 ((ls (m5 c)).map I) ∧ Sub h h') := by
  refine acalls_of mix Try.func19 rfl rfl Try.ntmps19 Try.results19 rfl ?_; conv => whnf
  refine ALoop.mk (fun e h' => ∃ e0, ∃ k : Nat, ∃ a cp, e = updL 19 e0 [(0, I c), (3, .slice a (lsTo (m5 c) k).length cp), (5, I k)] ∧ k ≤ 5 ∧ Own h' (o, 0) 3 a (lsTo (m5 c) k).length cp 1 ((lsTo (m5 c) k).map I) ∧ Keep o h h')
    (fun e => 5 - natOf (e 5)) ⟨_, 0, none, 0, updL_self ⟨rfl, rfl, rfl, trivial⟩, by omega, .inl ⟨rfl, rfl, rfl⟩, Keep.refl _ _⟩ ?_
  rintro e h2 ⟨e0, k, a, cp, rfl, hk, hown, hkeep⟩
  conv => whnf
  by_cases hk5 : k < 5
  · refine ACmp.yes (by omega) ?_; conv => whnf
    refine AArith.ok (by omega) (by omega) (rfl) ?_; conv => whnf
    refine ACalls.mono (Has_any h2 c _) ?_
    rw [hasB_in c k hk5]
    rintro _ _ ⟨rfl, rfl⟩
    have hln := lsTo_len (m5 c) k
    cases hb : bt (m5 c) k
    · conv => whnf
      have e1 : lsTo (m5 c) (k + 1) = lsTo (m5 c) k := by rw [lsTo, hb]; rfl
      refine AArith.ok (by omega) (by omega) ((by omega : (k : Int) + 1 = ((k + 1 : Nat) : Int))) ?_; conv => whnf
      refine ⟨⟨_, k + 1, a, cp, updL_self ⟨rfl, by rw [e1]; rfl, rfl, trivial⟩, by omega, by rw [e1]; exact hown, hkeep⟩, ?_⟩
      show 5 - (k + 1) < 5 - k
      omega
    · conv => whnf
      have e1 : lsTo (m5 c) (k + 1) = lsTo (m5 c) k ++ [(k : Int) + 1] := by rw [lsTo, hb]; rfl
      refine AArith.ok (by omega) (by omega) (rfl) ?_; conv => whnf
      refine ABuildSl.mk (0, 1) rfl rfl rfl rfl rfl rfl rfl fun b3 f3 => ?_; conv => whnf
      have s3 := f3.sub (row (0, 1) [I ((k : Int) + 1)] 3)
      refine AAppend.own (t := (o, 0)) (E := 3) (z := 1) (by_ := 8) (zero := [I 0]) (tx := (0, 1)) (xs := [I ((k : Int) + 1)]) rfl ⟨_, rfl⟩ rfl rfl rfl rfl (by omega) (hown.move fun _ _ z => s3 _ _ z)
        ⟨rfl, Nat.le_refl _, .inr ⟨b3, 0, _, _, _, rfl, Heap.set_same _ _ _, rfl⟩⟩ rfl (by omega) (by omega) fun a5 cap5 h5 hown5 hk5 _ => ?_
      conv => whnf
      refine AArith.ok (by omega) (by omega) ((by omega : (k : Int) + 1 = ((k + 1 : Nat) : Int))) ?_; conv => whnf
      have e2 : (lsTo (m5 c) (k + 1)).length = (lsTo (m5 c) k).length + 1 := by rw [e1, List.length_append]; rfl
      refine ⟨⟨_, k + 1, a5, cap5, updL_self ⟨rfl, by rw [e2]; rfl, rfl, trivial⟩, by omega, ?_, hkeep.trans ((s3.keep o).trans hk5.keep)⟩, ?_⟩
      · rw [e2, e1, List.map_append]; exact hown5
      show 5 - (k + 1) < 5 - k
      omega
  · refine ACmp.no (by omega) ?_; conv => whnf
    obtain rfl : k = 5 := by omega
    exact ⟨a, cp, rfl, hown.sl, hkeep.toSub hn⟩
theorem List_any (h : Heap) (c : Int) : ACalls PR 19 #[I c] h (fun v h' => ∃ a cp t, v = .slice a (ls (m5 c)).length cp ∧ Sl h' t a (ls (m5 c)).length cp 1 ((ls (m5 c)).map I) ∧ Sub h h') :=
  ACalls.owner ⟨_, Try.func19, rfl, rfl⟩ fun o ho hb => (List_own h c o (hb.no (Nat.le_refl _))).mono fun _ _ ⟨a, cp, e, s, k⟩ => ⟨a, cp, _, e, s, k⟩

theorem refList_any (h : Heap) (c : Int) (hc : -9223372036854775808 ≤ c) (hc' : c ≤ 9223372036854775807) : ACalls PR 20 #[I c] h (fun v h' => ∃ a cp t, v = .slice a (ls (m5 c)).length cp ∧ Sl h' t a (ls (m5 c)).length cp 1 ((ls (m5 c)).map I) ∧ Sub h h') := by
  refine ACalls.owner ⟨_, Try.func20, rfl, rfl⟩ fun o ho hbd => ?_
  have hn := hbd.no (Nat.le_refl _)
  refine acalls_of mix Try.func20 rfl rfl Try.ntmps20 Try.results20 rfl ?_; conv => whnf
  refine ALoop.mk (fun e h' => ∃ e0, ∃ k : Nat, ∃ a cp, e = updL 17 e0 [(0, I c), (3, .slice a (lsTo (m5 c) k).length cp), (4, I ((k : Int) + 1))] ∧ k ≤ 5 ∧ Own h' (o, 0) 3 a (lsTo (m5 c) k).length cp 1 ((lsTo (m5 c) k).map I) ∧ Keep o h h')
    (fun e => 6 - natOf (e 4)) ⟨_, 0, none, 0, updL_self ⟨rfl, rfl, rfl, trivial⟩, by omega, .inl ⟨rfl, rfl, rfl⟩, Keep.refl _ _⟩ ?_
  rintro e h2 ⟨e0, k, a, cp, rfl, hk, hown, hkeep⟩
  conv => whnf
  by_cases hk5 : k < 5
  · refine ACmp.yes (by omega) ?_; conv => whnf
    refine ACalls.mono (refHas_any h2 c _ hc hc') ?_
    rw [hasB_in c k hk5]
    rintro _ _ ⟨rfl, rfl⟩
    have hln := lsTo_len (m5 c) k
    cases hb : bt (m5 c) k
    · conv => whnf
      have e1 : lsTo (m5 c) (k + 1) = lsTo (m5 c) k := by rw [lsTo, hb]; rfl
      refine AArith.ok (by omega) (by omega) ((by omega : (k : Int) + 1 + 1 = ((k + 1 : Nat) : Int) + 1)) ?_; conv => whnf
      refine ⟨⟨_, k + 1, a, cp, updL_self ⟨rfl, by rw [e1]; rfl, rfl, trivial⟩, by omega, by rw [e1]; exact hown, hkeep⟩, ?_⟩
      show 6 - (((k + 1 : Nat) : Int) + 1).toNat < 6 - ((k : Int) + 1).toNat
      omega
    · conv => whnf
      have e1 : lsTo (m5 c) (k + 1) = lsTo (m5 c) k ++ [(k : Int) + 1] := by rw [lsTo, hb]; rfl
      refine ABuildSl.mk (0, 1) rfl rfl rfl rfl rfl rfl rfl fun b3 f3 => ?_; conv => whnf
      have s3 := f3.sub (row (0, 1) [I ((k : Int) + 1)] 3)
      refine AAppend.own (t := (o, 0)) (E := 3) (z := 1) (by_ := 8) (zero := [I 0]) (tx := (0, 1)) (xs := [I ((k : Int) + 1)]) rfl ⟨_, rfl⟩ rfl rfl rfl rfl (by omega) (hown.move fun _ _ z => s3 _ _ z)
        ⟨rfl, Nat.le_refl _, .inr ⟨b3, 0, _, _, _, rfl, Heap.set_same _ _ _, rfl⟩⟩ rfl (by omega) (by omega) fun a5 cap5 h5 hown5 hk5 _ => ?_
      conv => whnf
      refine AArith.ok (by omega) (by omega) ((by omega : (k : Int) + 1 + 1 = ((k + 1 : Nat) : Int) + 1)) ?_; conv => whnf
      have e2 : (lsTo (m5 c) (k + 1)).length = (lsTo (m5 c) k).length + 1 := by rw [e1, List.length_append]; rfl
      refine ⟨⟨_, k + 1, a5, cap5, updL_self ⟨rfl, by rw [e2]; rfl, rfl, trivial⟩, by omega, ?_, hkeep.trans ((s3.keep o).trans hk5.keep)⟩, ?_⟩
      · rw [e2, e1, List.map_append]; exact hown5
      show 6 - (((k + 1 : Nat) : Int) + 1).toNat < 6 - ((k : Int) + 1).toNat
      omega
  · refine ACmp.no (by omega) ?_; conv => whnf
    obtain rfl : k = 5 := by omega
    exact ⟨a, cp, (o, 0), rfl, hown.sl, hkeep.toSub hn⟩

/-! ### Count -/
set_option maxRecDepth 20000 in
theorem ones_any (h : Heap) (k : Nat) (hk : k < 32) : ACalls PR 41 #[.int .u64 ((2 * k : Nat) : Int)] h (fun v h' => v = I (pop k) ∧ h = h') := by
  refine acalls_pure (acalls_of mix Try.func41 rfl rfl Try.ntmps41 Try.results41 rfl ?_); conv => whnf
  repeat ((first | refine AInt.raw ?_ | refine AArith.raw ?_ | refine ⟨by decide, ?_⟩); conv => whnf)
  refine ⟨congrArg (Value.int .i64) ?_, Sub.refl _⟩
  revert k
  decide +kernel

theorem Count_any (h : Heap) (c : Int) : ACalls PR 21 #[I c] h (fun v h' => v = I (pop (m5 c)) ∧ h = h') := by
  refine acalls_pure (acalls_of mix Try.func21 rfl rfl Try.ntmps21 Try.results21 rfl ?_); conv => whnf
  refine AInt.as (and62 c) ?_; conv => whnf
  have := m5_lt c
  refine AArith.as (u64_wrap (by omega) (by omega)) ?_; conv => whnf
  have c38 : ACalls PR 38 #[.int .u64 ((2 * m5 c : Nat) : Int)] h (fun v h' => v = I (pop (m5 c)) ∧ h = h') := by
    refine acalls_pure (acalls_of mix Try.func38 rfl rfl Try.ntmps38 Try.results38 rfl ?_); conv => whnf
    refine ACalls.mono (ones_any h (m5 c) (m5_lt c)) ?_; rintro _ _ ⟨rfl, rfl⟩; conv => whnf
    exact ⟨rfl, Sub.refl _⟩
  refine ACalls.mono (c38) ?_; rintro _ _ ⟨rfl, rfl⟩; conv => whnf
  exact ⟨rfl, Sub.refl _⟩
theorem refCount_any (h : Heap) (c : Int) (hc : -9223372036854775808 ≤ c) (hc' : c ≤ 9223372036854775807) : ACalls PR 22 #[I c] h (fun v h' => v = I (pop (m5 c)) ∧ h = h') := by
  refine acalls_pure (acalls_of mix Try.func22 rfl rfl Try.ntmps22 Try.results22 rfl ?_); conv => whnf
  refine ACalls.mono (refList_any h c hc hc') ?_; rintro _ h2 ⟨a, cp, t, rfl, s, s2⟩; conv => whnf
  refine ⟨?_, s2⟩
  rw [ls_len _ (m5_lt c)]

/-! ### equal, a copy -/
theorem EqInts_any (h : Heap) {t1 t2 : Tag} {a1 a2 : Option Addr} {n1 n2 c1 c2 : Nat} {xs ys : List Int} (s1 : Sl h t1 a1 n1 c1 1 (xs.map I)) (s2 : Sl h t2 a2 n2 c2 1 (ys.map I)) (hn : n1 ≤ 4611686018427387904) :
    ACalls PR 18 #[.slice a1 n1 c1, .slice a2 n2 c2] h (fun v h' => v = .bool (decide (xs = ys)) ∧ h = h') := by
  have l1 : xs.length = n1 := by simpa using s1.len
  have l2 : ys.length = n2 := by simpa using s2.len
  refine acalls_pure (acalls_of mix Try.func18 rfl rfl Try.ntmps18 Try.results18 rfl ?_); conv => whnf
  refine ACmp.split (fun hne => ?_) (fun heq => ?_)
  · conv => whnf
    refine ⟨?_, Sub.refl _⟩
    rw [decide_eq_false]
    rintro rfl
    omega
  · conv => whnf
    obtain rfl : n1 = n2 := by omega
    refine ALoop.mk (fun e h' => Sub h h' ∧ ∃ e0, ∃ k : Nat, e = updL 26 e0 [(0, .slice a1 n1 c1), (1, .slice a2 n1 c2), (5, I k)] ∧ k ≤ n1 ∧ xs.take k = ys.take k) (fun e => n1 - natOf (e 5))
      ⟨Sub.refl _, _, 0, updL_self ⟨rfl, rfl, rfl, trivial⟩, by omega, rfl⟩ ?_
    rintro e h2 ⟨sb, e0, k, rfl, hk, htk⟩
    conv => whnf
    by_cases hkn : k < n1
    · refine ACmp.yes (by omega) ?_; conv => whnf
      obtain ⟨b, off, l, E, fz, rfl, hb, hc⟩ := (s1.sub sb).pos (by omega)
      obtain ⟨b', off', l', E', fz', rfl, hb', hc'⟩ := (s2.sub sb).pos (by omega)
      have g1 : l[off + k * 1]? = some (I xs[k]) := by rw [get_of_take hc (by omega)]; simp
      have g2 : l'[off' + k * 1]? = some (I ys[k]) := by rw [get_of_take hc' (by omega)]; simp
      refine ADrawn.mk (h2) [] (Sub.refl _) (by decide +kernel) ?_; conv => whnf
      refine AIdx.nat (z := 1) (j := k) rfl hkn rfl rfl ?_; conv => whnf
      refine ALoad.one rfl hb g1 ?_; conv => whnf
      refine AIdx.nat (z := 1) (j := k) rfl hkn rfl rfl ?_; conv => whnf
      refine ALoad.one rfl hb' g2 ?_; conv => whnf
      refine ACmp.split (fun hne => ?_) (fun heq => ?_)
      · conv => whnf
        refine ⟨?_, sb⟩
        rw [decide_eq_false]
        rintro rfl
        exact hne rfl
      · conv => whnf
        have hxy : xs[k] = ys[k] := Classical.not_not.1 heq
        refine AArith.ok (by omega) (by omega) ((by omega : (k : Int) + 1 = ((k + 1 : Nat) : Int))) ?_; conv => whnf
        refine ⟨⟨sb, _, k + 1, updL_self ⟨rfl, rfl, rfl, trivial⟩, by omega, ?_⟩, ?_⟩
        · rw [List.take_succ_eq_append_getElem (by omega), List.take_succ_eq_append_getElem (by omega), htk, hxy]
        show n1 - (k + 1) < n1 - k
        omega
    · refine ACmp.no (by omega) ?_; conv => whnf
      refine ⟨?_, sb⟩
      obtain rfl : k = n1 := by omega
      rw [List.take_of_length_le (by omega), List.take_of_length_le (by omega)] at htk
      rw [decide_eq_true htk]

theorem oneCell_ints (xs : List Int) : (xs.map I).all oneCell = true := by simp [I, oneCell]
theorem CopyInts_any (h : Heap) {t1 : Tag} {a1 : Option Addr} {n1 c1 : Nat} {xs : List Int} (s1 : Sl h t1 a1 n1 c1 1 (xs.map I)) (hn : n1 * 8 ≤ 140737488355328) (tg : Tag) :
    ACalls PR 26 #[.slice a1 n1 c1] h (fun v h' => ∃ a cp, v = .slice a n1 cp ∧ Own h' tg 3 a n1 cp 1 (xs.map I) ∧ Sub h h') := by
  refine acalls_of mix Try.func26 rfl rfl Try.ntmps26 Try.results26 rfl ?_; conv => whnf
  refine AAppend.own (t := tg) (E := 3) (z := 1) (by_ := 8) (zero := [I 0]) (cs := []) rfl ⟨_, rfl⟩ rfl rfl rfl rfl (by omega) (.inl ⟨rfl, rfl, rfl⟩) s1 (oneCell_ints _) (by omega) (by omega) fun a' c' h' ho hk hsub => ?_
  conv => whnf
  refine ⟨a', c', ?_, ?_, hsub rfl⟩
  · show Value.slice a' (0 + n1) c' = _
    rw [Nat.zero_add]
  · rw [Nat.zero_add] at ho
    exact ho
end Go.Ah
