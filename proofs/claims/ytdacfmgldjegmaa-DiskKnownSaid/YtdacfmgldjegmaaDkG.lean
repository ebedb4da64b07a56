/- Walks of the disk's functions: Read, List, Arm, Crash, Boot, Dead, Turn. -/
import Derived.Test.YtdacfmgldjegmaaDkF
namespace Go.Ah
open Go.Proofs
open Go.MapKept (IsKey Stamped)
set_option linter.unusedVariables false
set_option linter.unusedSimpArgs false
set_option maxRecDepth 20000

theorem Good.read {d : DD} (g : Good d) (n : Nm) : (dread d n).1.length ≤ 262144 := by
  unfold dread
  split
  · simp
  · split
    · simp
    · rename_i f hf; exact g.len f (dfind_some hf).1

theorem Read_any {h : Heap} {p o : Nat} {D : DD} (da : DA h p o D) (g : Good D) (n : Nm) (tg : Tag) :
    ACalls PR 16 #[Ptr p, S n] h (fun v h' => ∃ a c, v = .tuple #[.slice a (dread D n).1.length c, I (dread D n).2] ∧ Own h' tg 5 a (dread D n).1.length c 1 (bytesV (dread D n).1) ∧ Sub h h') := by
  obtain ⟨m, es, clock, L, d⟩ := da
  refine acalls_of mix Try.func16 rfl rfl Try.ntmps16 Try.results16 rfl ?_; conv => whnf
  cases hd : D.dead with
  | true =>
    have e : dread D n = ([], 120) := by simp [dread, hd]
    rw [e]
    refine ACalls.mono (find_dead d hd n) ?_; rintro _ _ ⟨rfl, rfl⟩; conv => whnf
    refine ACmp.yes (by decide) ?_; conv => whnf
    exact ⟨none, 0, rfl, .inl ⟨rfl, rfl, rfl⟩, Sub.refl _⟩
  | false =>
  cases hf : dfind D.fs n with
  | none =>
    have e : dread D n = ([], 121) := by simp [dread, hd, hf]
    rw [e]
    refine ACalls.mono (find_miss d hd hf) ?_; rintro _ _ ⟨rfl, rfl⟩; conv => whnf
    refine ACmp.yes (by decide) ?_; conv => whnf
    exact ⟨none, 0, rfl, .inl ⟨rfl, rfl, rfl⟩, Sub.refl _⟩
  | some f =>
    obtain ⟨hfm, rfl⟩ := dfind_some hf
    obtain ⟨j, fp, en, hj, hej, hek, hev⟩ := d.hit hfm
    obtain ⟨fa, fn, fc, f1, fo⟩ := (d.files _ (List.mem_of_getElem? hj)).at_
    simp only at f1 fo
    have hfn : f.b.length = fn := by have := fo.sl.len; simpa [bytesV] using this
    subst hfn
    have hfl := g.len f hfm
    have e : dread D f.name = (f.b, 0) := by simp [dread, hd, hf]
    rw [e]
    refine ACalls.mono (find_hit d hd hj) ?_; rintro _ _ ⟨rfl, rfl⟩; conv => whnf
    refine ACmp.no (by decide) ?_; conv => whnf
    refine ALoad.one rfl f1 rfl ?_; conv => whnf
    refine ACalls.mono (cloneB_any _ tg fo.sl (by omega)) ?_; rintro _ h' ⟨a', c', rfl, ho, s⟩; conv => whnf
    exact ⟨a', c', rfl, ho, s⟩

theorem List_any {h : Heap} {p o : Nat} {D : DD} (da : DA h p o D) (g : Good D) :
    ACalls PR 24 #[Ptr p] h (fun v h' => ∃ a c, v = .slice a (dlist D).length c ∧ Sl h' (0, 1) a (dlist D).length c 1 ((dlist D).map S) ∧ Sub h h') := by
  obtain ⟨m, es, clock, L, d⟩ := da
  refine acalls_of mix Try.func24 rfl rfl Try.ntmps24 Try.results24 rfl ?_; conv => whnf
  have c := check_any d
  cases hd : D.dead with
  | true =>
    have e : dlist D = [] := by simp [dlist, hd]
    rw [e]
    rw [hd] at c
    refine ACalls.mono (c) ?_; rintro _ _ ⟨rfl, rfl⟩; conv => whnf
    refine ACmp.yes (by decide) ?_; conv => whnf
    exact ⟨none, 0, rfl, Sl.nil .., Sub.refl _⟩
  | false =>
    have e : dlist D = D.fs.map (·.name) := by simp [dlist, hd]
    rw [e]
    rw [hd] at c
    refine ACalls.mono (c) ?_; rintro _ _ ⟨rfl, rfl⟩; conv => whnf
    refine ACmp.no (by decide) ?_; conv => whnf
    refine ACalls.mono (names_any d g) ?_; rintro _ h' ⟨a, c', rfl, sl, s⟩; conv => whnf
    refine ⟨a, c', by simp, ?_, s⟩
    rw [List.length_map, List.map_map]; exact sl

theorem Dead_any {h : Heap} {p o : Nat} {D : DD} (da : DA h p o D) : ACalls PR 21 #[Ptr p] h (fun v h' => v = .bool D.dead ∧ h = h') := by
  obtain ⟨m, es, clock, L, d⟩ := da
  refine acalls_pure ?_
  refine acalls_of mix Try.func21 rfl rfl Try.ntmps21 Try.results21 rfl ?_; conv => whnf
  have c := check_any d
  cases hd : D.dead with
  | true =>
    rw [hd] at c
    refine ACalls.mono (c) ?_; rintro _ _ ⟨rfl, rfl⟩; conv => whnf
    refine ACmp.yes (by decide) ?_; conv => whnf
    exact ⟨rfl, Sub.refl _⟩
  | false =>
    rw [hd] at c
    refine ACalls.mono (c) ?_; rintro _ _ ⟨rfl, rfl⟩; conv => whnf
    refine ACmp.no (by decide) ?_; conv => whnf
    exact ⟨rfl, Sub.refl _⟩

theorem Crash_any {h : Heap} {p o : Nat} {D : DD} (ho : o ≠ 0) (da : DA h p o D) (g : Good D) {tk : Tag} {ka : Option Addr} {kn kc : Nat} {keep : List Int}
    (sk : Sl h tk ka kn kc 1 (keep.map I)) (hk : tk.1 ≠ o) :
    ACalls PR 14 #[Ptr p, .slice ka kn kc] h (fun v h' => v = I (dcrashed D keep).1 ∧ DA h' p o (dcrashed D keep).2 ∧ Keep o h h') := by
  obtain ⟨m, es, clock, L, d⟩ := da
  refine acalls_of mix Try.func14 rfl rfl Try.ntmps14 Try.results14 rfl ?_; conv => whnf
  have c := check_any d
  cases hd : D.dead with
  | true =>
    have e : dcrashed D keep = (120, D) := by simp [dcrashed, hd]
    rw [e]
    rw [hd] at c
    refine ACalls.mono (c) ?_; rintro _ _ ⟨rfl, rfl⟩; conv => whnf
    refine ACmp.yes (by decide) ?_; conv => whnf
    exact ⟨rfl, ⟨_, _, _, _, d⟩, Keep.refl _ _⟩
  | false =>
    have e : dcrashed D keep = (0, dcrash keep D) := by simp [dcrashed, hd]
    rw [e]
    rw [hd] at c
    refine ACalls.mono (c) ?_; rintro _ _ ⟨rfl, rfl⟩; conv => whnf
    refine ACmp.no (by decide) ?_; conv => whnf
    refine ACalls.mono (cut_any ho d g sk (.inl hk)) ?_; rintro _ h' ⟨rfl, ⟨L', d'⟩, k⟩; conv => whnf
    exact ⟨rfl, ⟨_, _, _, _, d'⟩, k⟩

theorem Boot_any {h : Heap} {p o : Nat} {D : DD} (da : DA h p o D) : ACalls PR 15 #[Ptr p] h (fun v h' => v = I 0 ∧ DA h' p o (dboot D) ∧ Keep o h h') := by
  obtain ⟨m, es, clock, L, d⟩ := da
  obtain ⟨left, ka, kn, kc, a1, a2, a3⟩ := d.at_
  refine acalls_of mix Try.func15 rfl rfl Try.ntmps15 Try.results15 rfl ?_; conv => whnf
  have c := check_any d
  cases hd : D.dead
  all_goals rw [hd] at c a1
  all_goals (refine ACalls.mono (c) ?_; rintro _ _ ⟨rfl, rfl⟩; conv => whnf)
  all_goals (refine ACmp.no (by decide) ?_; conv => whnf)
  all_goals (refine AStore.one' rfl rfl rfl a1 rfl ?_; conv => whnf)
  all_goals (refine AStore.one' rfl rfl rfl (Heap.set_same _ _ _) rfl ?_; conv => whnf)
  all_goals rw [Heap.set_set]
  all_goals have kt := KeepT.set (y := .cells [.map (some m), .bool false, .bool false, I left, .slice ka kn kc].toArray 61 (0, 0)) a1
  all_goals exact ⟨rfl, ⟨_, _, _, _, d.cells (D' := dboot D) (left := left) kt (Heap.set_same _ _ _) (by simp [dboot]) (a3.keepT kt (by simp)) rfl⟩, kt.keep⟩

theorem Arm_any {h : Heap} {p o : Nat} {D : DD} (ho : o ≠ 0) (da : DA h p o D) (n : Int) {tk : Tag} {ka : Option Addr} {kn kc : Nat} {keep : List Int}
    (sk : Sl h tk ka kn kc 1 (keep.map I)) (hk : tk.1 ≠ o) (hkn : kn * 8 ≤ 140737488355328) :
    ACalls PR 19 #[Ptr p, I n, .slice ka kn kc] h (fun v h' => v = I (darm D n keep).1 ∧ DA h' p o (darm D n keep).2 ∧ Keep o h h') := by
  obtain ⟨m, es, clock, L, d⟩ := da
  refine acalls_of mix Try.func19 rfl rfl Try.ntmps19 Try.results19 rfl ?_; conv => whnf
  have c := check_any d
  cases hd : D.dead with
  | true =>
    have e : darm D n keep = (120, D) := by simp [darm, hd]
    rw [e]
    rw [hd] at c
    refine ACalls.mono (c) ?_; rintro _ _ ⟨rfl, rfl⟩; conv => whnf
    refine ACmp.yes (by decide) ?_; conv => whnf
    exact ⟨rfl, ⟨_, _, _, _, d⟩, Keep.refl _ _⟩
  | false =>
    have e : darm D n keep = (0, { D with arm := max n (-1), keep := keep }) := by simp [darm, hd]
    rw [e]
    rw [hd] at c
    refine ACalls.mono (c) ?_; rintro _ _ ⟨rfl, rfl⟩; conv => whnf
    refine ACmp.no (by decide) ?_; conv => whnf
    have key : ∀ b : Bool, b = decide (0 ≤ n) → ∀ h2 : Heap, Dk h2 p o D m es clock L → Sub h h2 → ∀ a' c', Sl h2 (o, 3) a' kn c' 1 (keep.map I) →
        ∃ left xa xn xc, h2 p = some (row (o, 0) [.map (some m), .bool D.dead, .bool (decide (0 ≤ D.arm)), I left, .slice xa xn xc] 61) ∧
        DA (h2.set p (row (o, 0) [.map (some m), .bool D.dead, .bool b, I n, .slice a' kn c'] 61)) p o { D with arm := max n (-1), keep := keep } ∧ Keep o h (h2.set p (row (o, 0) [.map (some m), .bool D.dead, .bool b, I n, .slice a' kn c'] 61)) := by
      intro b hb h2 d2 s2 a' c' sl
      obtain ⟨left, xa, xn, xc, a1, a2, a3⟩ := d2.at_
      have kt := KeepT.set (y := .cells [.map (some m), .bool D.dead, .bool b, I n, .slice a' kn c'].toArray 61 (0, 0)) a1
      refine ⟨left, xa, xn, xc, a1, ⟨_, _, _, _, d2.cells (D' := { D with arm := max n (-1), keep := keep }) (left := n) (ka := a') (kn := kn) (kc := c') kt ?_ (fun hh => by simp only at hh ⊢; omega) (sl.keepT kt (by simp)) rfl⟩, (s2.keep o).trans kt.keep⟩
      have hb' : b = decide (0 ≤ max n (-1)) := by rw [hb]; exact decide_eq_decide.2 (by omega)
      simp only
      rw [← hb']
      exact Heap.set_same _ _ _
    by_cases hn : 0 ≤ n
    · refine ACmp.yes (by omega) ?_; conv => whnf
      refine ACalls.mono (cloneI_any _ (o, 3) sk hkn) ?_; rintro _ h2 ⟨a', c', rfl, ho2, s2⟩; conv => whnf
      obtain ⟨left, xa, xn, xc, a1, da', k'⟩ := key true (decide_eq_true hn).symm h2 (d.sub s2) s2 a' c' ho2.sl
      refine AStore.one' rfl rfl rfl a1 rfl ?_; conv => whnf
      refine AStore.one' rfl rfl rfl (Heap.set_same _ _ _) rfl ?_; conv => whnf
      refine AStore.one' rfl rfl rfl (Heap.set_same _ _ _) rfl ?_; conv => whnf
      rw [Heap.set_set, Heap.set_set]
      exact ⟨rfl, da', k'⟩
    · refine ACmp.no (by omega) ?_; conv => whnf
      refine ACalls.mono (cloneI_any _ (o, 3) sk hkn) ?_; rintro _ h2 ⟨a', c', rfl, ho2, s2⟩; conv => whnf
      obtain ⟨left, xa, xn, xc, a1, da', k'⟩ := key false (decide_eq_false hn).symm h2 (d.sub s2) s2 a' c' ho2.sl
      refine AStore.one' rfl rfl rfl a1 rfl ?_; conv => whnf
      refine AStore.one' rfl rfl rfl (Heap.set_same _ _ _) rfl ?_; conv => whnf
      refine AStore.one' rfl rfl rfl (Heap.set_same _ _ _) rfl ?_; conv => whnf
      rw [Heap.set_set, Heap.set_set]
      exact ⟨rfl, da', k'⟩

theorem AArith.as {kd : IntKind} {r r' : Int} {K : Int → Prop} (e : kd.wrap r = r') (k : K r') : AArith kd r K := by refine ⟨?_⟩; rw [e]; exact k
theorem bit_wrap : ∀ k : Nat, k < 8 → IntKind.u8.wrap (1 * 2 ^ (min k 8)) = 2 ^ k := by decide
/-- One cell of one's own slice is set. -/
theorem Own.setc {h : Heap} {t : Tag} {E : TypeId} {a : Option Addr} {n cap : Nat} {cs : List Value} (s : Own h t E a n cap 1 cs) {i : Nat} (hi : i < n) :
    ∃ b, ∃ l : List Value, a = some ⟨b, 0, none⟩ ∧ h b = some (row t l E) ∧ i < l.length ∧ l[i]? = cs[i]? ∧ ∀ v, Own (h.set b (row t (l.set i v) E)) t E a n cap 1 (cs.set i v) := by
  rcases s with ⟨rfl, rfl, rfl⟩ | ⟨b, l, rfl, hb, hl, hn, hc⟩
  · omega
  · rw [Nat.mul_one] at hl hc
    refine ⟨b, l, rfl, hb, by omega, ?_, fun v => .inr ⟨b, l.set i v, rfl, Heap.set_same _ _ _, by rw [List.length_set]; omega, hn, ?_⟩⟩
    · rw [← hc, List.getElem?_take, if_pos hi]
    · rw [Nat.mul_one, List.take_set, hc]

set_option maxHeartbeats 2000000 in
theorem Turn_any {h : Heap} {p o : Nat} {D : DD} (da : DA h p o D) (g : Good D) (n : Nm) (i k : Int) :
    ACalls PR 31 #[Ptr p, S n, I i, I k] h (fun v h' => v = I (dturn D n i k).1 ∧ DA h' p o (dturn D n i k).2 ∧ Keep o h h') := by
  obtain ⟨m, es, clock, L, d⟩ := da
  refine acalls_of mix Try.func31 rfl rfl Try.ntmps31 Try.results31 rfl ?_; conv => whnf
  cases hd : D.dead with
  | true =>
    have e : dturn D n i k = (120, D) := by simp [dturn, hd]
    rw [e]
    refine ACalls.mono (find_dead d hd n) ?_; rintro _ _ ⟨rfl, rfl⟩; conv => whnf
    refine ACmp.yes (by decide) ?_; conv => whnf
    exact ⟨rfl, ⟨_, _, _, _, d⟩, Keep.refl _ _⟩
  | false =>
  cases hf : dfind D.fs n with
  | none =>
    have e : dturn D n i k = (121, D) := by simp [dturn, hd, hf]
    rw [e]
    refine ACalls.mono (find_miss d hd hf) ?_; rintro _ _ ⟨rfl, rfl⟩; conv => whnf
    refine ACmp.yes (by decide) ?_; conv => whnf
    exact ⟨rfl, ⟨_, _, _, _, d⟩, Keep.refl _ _⟩
  | some f =>
    obtain ⟨hfm, rfl⟩ := dfind_some hf
    obtain ⟨j, fp, en, hj, hej, hek, hev⟩ := d.hit hfm
    obtain ⟨fa, fn, fc, f1, fo⟩ := (d.files _ (List.mem_of_getElem? hj)).at_
    simp only at f1 fo
    have hfn : f.b.length = fn := by have := fo.sl.len; simpa [bytesV] using this
    have bad : (i < 0 ∨ (f.b.length : Int) ≤ i ∨ k < 0 ∨ 7 < k) → dturn D f.name i k = (9, D) := fun c => by simp only [dturn, hd, hf, Bool.false_eq_true, if_false]; rw [if_pos c]
    refine ACalls.mono (find_hit d hd hj) ?_; rintro _ _ ⟨rfl, rfl⟩; conv => whnf
    refine ACmp.no (by decide) ?_; conv => whnf
    by_cases c1 : i < 0
    · rw [bad (.inl c1)]
      refine ACmp.yes (by omega) ?_; conv => whnf
      exact ⟨rfl, ⟨_, _, _, _, d⟩, Keep.refl _ _⟩
    · refine ACmp.no (by omega) ?_; conv => whnf
      refine ALoad.one rfl f1 rfl ?_; conv => whnf
      by_cases c2 : (f.b.length : Int) ≤ i
      · rw [bad (.inr (.inl c2))]
        refine ACmp.yes (by omega) ?_; conv => whnf
        exact ⟨rfl, ⟨_, _, _, _, d⟩, Keep.refl _ _⟩
      · refine ACmp.no (by omega) ?_; conv => whnf
        by_cases c3 : k < 0
        · rw [bad (.inr (.inr (.inl c3)))]
          refine ACmp.yes (by omega) ?_; conv => whnf
          exact ⟨rfl, ⟨_, _, _, _, d⟩, Keep.refl _ _⟩
        · refine ACmp.no (by omega) ?_; conv => whnf
          by_cases c4 : 7 < k
          · rw [bad (.inr (.inr (.inr c4)))]
            refine ACmp.yes (by omega) ?_; conv => whnf
            exact ⟨rfl, ⟨_, _, _, _, d⟩, Keep.refl _ _⟩
          · refine ACmp.no (by omega) ?_; conv => whnf
            have e : dturn D f.name i k = (0, { D with fs := dput ⟨f.name, f.b.set i.toNat (bitT (f.b[i.toNat]?.getD 0) k.toNat), f.s⟩ D.fs }) := by
              simp only [dturn, hd, hf, Bool.false_eq_true, if_false]; rw [if_neg (by omega)]
            rw [e]
            obtain ⟨i, rfl⟩ := Int.eq_ofNat_of_zero_le (by omega : 0 ≤ i)
            obtain ⟨k, rfl⟩ := Int.eq_ofNat_of_zero_le (by omega : 0 ≤ k)
            rw [Int.toNat_natCast, Int.toNat_natCast]
            have hi : i < f.b.length := by omega
            obtain ⟨b, l, rfl, hb, hil, hget, hset⟩ := fo.setc (i := i) (by omega)
            have hbi : (bytesV f.b)[i]? = some (.int .u8 f.b[i]) := by simp [bytesV, hi]
            refine ADrawn.mk (h) [11] (Sub.refl _) (by decide +kernel) ?_; conv => whnf
            refine ALoad.one rfl f1 rfl ?_; conv => whnf
            refine AIdx.nat (z := 1) rfl (by omega : i < fn) rfl rfl ?_; conv => whnf
            refine ALoad.one rfl hb (by rw [Nat.zero_add, Nat.mul_one, hget, hbi]) ?_; conv => whnf
            refine ⟨by omega, ?_⟩
            refine AArith.as (r' := 2 ^ k) (by rw [Int.toNat_natCast]; exact bit_wrap k (by omega)) ?_; conv => whnf
            refine AInt.as (r' := bitT f.b[i] k) rfl ?_; conv => whnf
            refine AIdx.nat (z := 1) rfl (by omega : i < fn) rfl rfl ?_; conv => whnf
            refine AStore.one rfl rfl rfl hb (by rw [Nat.zero_add, Nat.mul_one]; exact hil) ?_
            rw [Nat.zero_add, Nat.mul_one]
            conv => whnf
            have kt := KeepT.set (y := .cells (l.set i (.int .u8 (bitT f.b[i] k))).toArray 5 (0, 0)) hb
            have hgd : f.b[i]?.getD 0 = f.b[i] := by simp [hi]
            rw [hgd]
            have d4 := d.upd (D' := { D with fs := dput ⟨f.name, f.b.set i (bitT f.b[i] k), f.s⟩ D.fs }) (f' := ⟨f.name, f.b.set i (bitT f.b[i] k), f.s⟩) hj rfl kt.keepF
              ⟨some ⟨b, 0, none⟩, fn, fc, kt.get (by simp; omega) f1, by have := hset (.int .u8 (bitT f.b[i] k)); simpa [bytesV, List.map_set] using this⟩
              (dput_perm_of g.rise d.perm (f := f) (by simp [hj]) rfl) rfl rfl rfl
            exact ⟨rfl, ⟨_, _, _, _, d4⟩, kt.keep⟩
end Go.Ah
