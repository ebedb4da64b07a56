/- Walks of the disk's functions: cut, begin. -/
import Derived.Test.YtdacfmgldjegmaaDkC
namespace Go.Ah
open Go.Proofs
open Go.MapKept (IsKey Stamped)
set_option linter.unusedVariables false
set_option linter.unusedSimpArgs false
set_option maxRecDepth 20000

/-- s[:hi:mx] -/
theorem ASlc.upto3 {P : Program} {t E z n cap m x : Nat} {a : Option Addr} {i y : Int} {k k' : IntKind} {K : Value → Prop} (hi : i = (m : Int)) (hy : y = (x : Int)) (h1 : m ≤ x) (h2 : x ≤ cap) (hu : P.underlying t = some (.slice E)) (hz : sizeT P E = some z)
    (c : K (.slice a m x)) : ASlc P t a n cap none (some (.int k i)) (some (.int k' y)) K := by
  subst hi; subst hy
  refine ⟨⟨0, m, x, .inl ⟨rfl, rfl⟩, .inr ⟨k, rfl⟩, .inr ⟨k', rfl⟩, Nat.zero_le _, h1, h2, E, z, hu, hz, ?_⟩⟩
  have := slBase_zero a x z
  unfold slBase at this
  rw [this]
  exact c
theorem Own.cut {h : Heap} {t : Tag} {E : TypeId} {a : Option Addr} {n cap z k : Nat} {cs : List Value} (o : Own h t E a n cap z cs) (hk : k ≤ n) : Own h t E a k k z (cs.take (k * z)) := by
  rcases o with ⟨rfl, rfl, rfl⟩ | ⟨b, l, rfl, hb, hl, hn, hc⟩
  · exact .inl ⟨by omega, by omega, by simp⟩
  · refine .inr ⟨b, l, rfl, hb, Nat.le_trans (Nat.mul_le_mul_right _ (Nat.le_trans hk hn)) hl, Nat.le_refl _, ?_⟩
    rw [← hc, List.take_take, Nat.min_eq_left (Nat.mul_le_mul_right _ hk)]

theorem set_perm {α : Type} : ∀ {l : List α} {i : Nat} {x : α} (y : α), l[i]? = some x → (l.set i y).Perm (y :: l.eraseIdx i) ∧ l.Perm (x :: l.eraseIdx i)
  | [], _, _, _, h => by simp at h
  | a :: l, 0, x, y, h => by simp at h; subst h; simp
  | a :: l, i + 1, x, y, h => by
    have ih := set_perm (l := l) (i := i) (x := x) y (by simpa using h)
    simp only [List.set_cons_succ, List.eraseIdx_cons_succ]
    exact ⟨(ih.1.cons a).trans (.swap y a _), (ih.2.cons a).trans (.swap x a _)⟩
theorem set_perm2 {α : Type} {l l' : List α} (h : l.Perm l') {i j : Nat} {x : α} (y : α) (h1 : l[i]? = some x) (h2 : l'[j]? = some x) : (l.set i y).Perm (l'.set j y) := by
  have a := set_perm y h1
  have b := set_perm y h2
  have c : (x :: l.eraseIdx i).Perm (x :: l'.eraseIdx j) := a.2.symm.trans (h.trans b.2)
  exact a.1.trans ((c.cons_inv.cons y).trans b.1.symm)

theorem tag2_10 {o k : Nat} {x y : Obj} (e : some (((o, 2) : Tag), x) = some (((o, 10 + k) : Tag), y)) : False := by
  injection e with e; injection e with e _; injection e with _ e; omega
/-- A file is another, under the same name, at the same block. -/
theorem Dk.upd {h h' : Heap} {p o m clock : Nat} {D D' : DD} {es : List MapEntry} {L : List (DF × Nat)} (d : Dk h p o D m es clock L) {j fp : Nat} {f f' : DF} (hj : L[j]? = some (f, fp)) (hn : f'.name = f.name)
    (k : KeepF o fp h h') (hF : FAt h' o fp f') (hp : ((L.map (·.1)).set j f').Perm D'.fs) (h1 : D'.dead = D.dead) (h2 : D'.arm = D.arm) (h3 : D'.keep = D.keep) : Dk h' p o D' m es clock (L.set j (f', fp)) := by
  obtain ⟨x, hfp⟩ := (d.files _ (List.mem_of_getElem? hj)).blk
  simp only at hfp
  obtain ⟨left, ka, kn, kc, a1, a2, a3⟩ := d.at_
  have hlt := (List.getElem?_eq_some_iff.1 hj).1
  have hLj : L[j] = (f, fp) := (List.getElem?_eq_some_iff.1 hj).2
  refine ⟨⟨left, ka, kn, kc, ?_, by rw [h2]; exact a2, ?_⟩, d.map.move fun y e => k.tag hfp (by simp) (by simp; omega) e, ?_, ?_, ?_, ?_⟩
  · rw [h1, h2]; exact k.tag hfp (by simp) (by simp; omega) a1
  · rw [h3]; exact a3.move fun b y e => k.tag hfp (by simp) (by simp; omega) e
  · rw [d.ents, List.map_set]
    symm
    have : (S f'.name, Ptr fp) = (S f.name, Ptr fp) := by rw [hn]
    simp only [this]
    apply List.ext_getElem?
    intro i
    rw [List.getElem?_set]
    split
    · rename_i hi; subst hi
      simp [hlt, hLj]
    · rfl
  · intro y hy
    obtain ⟨i, hi⟩ := List.getElem?_of_mem hy
    rw [List.getElem?_set] at hi
    by_cases hij : j = i
    · rw [if_pos hij, if_pos (by simpa [hij] using hij ▸ hlt)] at hi
      cases hi; exact hF
    · rw [if_neg hij] at hi
      refine (d.files y (List.mem_of_getElem? hi)).other k hfp ?_
      intro c
      have n1 : (L.map (·.2))[j]? = some fp := by simp [hj]
      have n2 : (L.map (·.2))[i]? = some fp := by simp [hi, c]
      exact hij ((List.nodup_iff_pairwise_ne.1 d.nodup |> fun pw => by
        obtain ⟨g1, e1⟩ := List.getElem?_eq_some_iff.1 n1
        obtain ⟨g2, e2⟩ := List.getElem?_eq_some_iff.1 n2
        rcases Nat.lt_trichotomy j i with q | q | q
        · exact absurd (e1.trans e2.symm) (List.pairwise_iff_getElem.1 pw j i g1 g2 q)
        · exact q
        · exact absurd (e2.trans e1.symm) (List.pairwise_iff_getElem.1 pw i j g2 g1 q)))
  · have : (L.set j (f', fp)).map (·.2) = L.map (·.2) := by
      rw [List.map_set]
      apply List.ext_getElem?
      intro i
      rw [List.getElem?_set]
      split
      · rename_i hi; subst hi; simp [hlt, hLj]
      · rfl
    rw [this]; exact d.nodup
  · rw [List.map_set]; exact hp

/-- the first i files are cut -/
def cutTo (keep : List Int) (i : Nat) (fs : List DF) : List DF := fs.mapIdx fun j f => if j < i then cutF keep j f else f
theorem cutTo_zero (keep : List Int) (fs : List DF) : cutTo keep 0 fs = fs := by
  apply List.ext_getElem?; intro i; simp [cutTo]
theorem cutTo_all (keep : List Int) (fs : List DF) : cutTo keep fs.length fs = fs.mapIdx (cutF keep) := by
  apply List.ext_getElem?; intro i
  simp only [cutTo, List.getElem?_mapIdx]
  cases h : fs[i]? with
  | none => rfl
  | some f => simp [(List.getElem?_eq_some_iff.1 h).1]
theorem cutTo_get {keep : List Int} {i : Nat} {fs : List DF} (h : i < fs.length) : (cutTo keep i fs)[i]? = some fs[i] := by
  simp [cutTo, List.getElem?_mapIdx, h]
theorem cutTo_succ {keep : List Int} {i : Nat} {fs : List DF} (h : i < fs.length) : cutTo keep (i + 1) fs = (cutTo keep i fs).set i (cutF keep i fs[i]) := by
  apply List.ext_getElem?; intro k
  rw [List.getElem?_set]
  simp only [cutTo, List.getElem?_mapIdx, List.length_mapIdx]
  by_cases hk : i = k
  · subst hk; simp [h]
  · rw [if_neg hk]
    cases hf : fs[k]? with
    | none => rfl
    | some f =>
      simp only [Option.map_some, Option.some.injEq]
      by_cases h2 : k < i
      · rw [if_pos h2, if_pos (by omega)]
      · rw [if_neg h2, if_neg (by omega)]
theorem cutTo_len (keep : List Int) (i : Nat) (fs : List DF) : (cutTo keep i fs).length = fs.length := by simp [cutTo]

set_option maxHeartbeats 4000000 in
theorem cut_any {h : Heap} {p o m clock : Nat} {D : DD} {es : List MapEntry} {L : List (DF × Nat)} (ho : o ≠ 0) (d : Dk h p o D m es clock L) (g : Good D) {tk : Tag} {ka : Option Addr} {kn kc : Nat} {keep : List Int}
    (sk : Sl h tk ka kn kc 1 (keep.map I)) (hk : tk.1 ≠ o ∨ tk = (o, 3)) :
    ACalls PR 37 #[Ptr p, .slice ka kn kc] h (fun v h' => v = .tuple #[] ∧ (∃ L', Dk h' p o (dcrash keep D) m es clock L') ∧ Keep o h h') := by
  have hkl : keep.length = kn := by have := sk.len; simpa using this
  have hk2 : tk ≠ (o, 2) := by rcases hk with c | c <;> (intro e; rw [e] at c; simp at c)
  have hk10 : ∀ fp, tk ≠ (o, 10 + fp) := by intro fp; rcases hk with c | c <;> (intro e; rw [e] at c; simp at c); omega
  refine acalls_of mix Try.func37 rfl rfl Try.ntmps37 Try.results37 rfl ?_; conv => whnf
  refine ACalls.mono (names_any d g) ?_; rintro _ h1 ⟨na, nc, rfl, sn, s1⟩; conv => whnf
  refine ALoop.mk (fun e h2 => Keep o h h2 ∧ Sl h2 (0, 1) na D.fs.length nc 1 (D.fs.map fun f => S f.name) ∧ Sl h2 tk ka kn kc 1 (keep.map I) ∧ ∃ e0, ∃ i : Nat,
      e = updL 71 e0 [(0, Ptr p), (1, .slice ka kn kc), (8, .slice na D.fs.length nc), (9, I D.fs.length), (10, I i)] ∧ i ≤ D.fs.length ∧ ∃ L2, Dk h2 p o { D with fs := cutTo keep i D.fs } m es clock L2) (fun e => D.fs.length - natOf (e 10))
    ⟨s1.keep o, sn, sk.sub s1, _, 0, updL_self ⟨rfl, rfl, rfl, rfl, rfl, trivial⟩, by omega, L, by rw [cutTo_zero]; exact d.sub s1⟩ ?_
  rintro e h2 ⟨k2, sn2, sk2, e0, i, rfl, hi, L2, d2⟩
  conv => whnf
  by_cases hlt : i < D.fs.length
  · refine ACmp.yes (by omega) ?_; conv => whnf
    obtain ⟨nb, noff, nl, nE, nfz, rfl, nhb, nhc⟩ := sn2.pos (by omega)
    rw [Nat.mul_one] at nhc
    refine AIdx.nat rfl hlt rfl rfl ?_; conv => whnf
    refine ALoad.one rfl nhb ((get_of_take nhc (by omega : i * 1 < D.fs.length)).trans (by simp [hlt] : _ = some (S D.fs[i].name))) ?_; conv => whnf
    obtain ⟨left, xa, xn, xc, a1, a2, a3⟩ := d2.at_
    refine ALoad.one rfl a1 rfl ?_; conv => whnf
    have hget := cutTo_get (keep := keep) hlt
    obtain ⟨j, fp, en, hj, hej, hek, hev⟩ := d2.hit (f := D.fs[i]) (List.mem_of_getElem? hget)
    refine ALookup.hit d2.map rfl Try.underlying9 (List.mem_of_getElem? hej) hek ?_
    rw [hev]
    conv => whnf
    obtain ⟨fa, fn, fc, f1, f2⟩ := (d2.files _ (List.mem_of_getElem? hj)).at_
    simp only at f1 f2
    have hfn : D.fs[i].b.length = fn := by have := f2.sl.len; simpa [bytesV] using this
    have hfl := g.len D.fs[i] (List.getElem_mem hlt)
    have hfs := g.syn D.fs[i] (List.getElem_mem hlt)
    have hcl := cutN_le keep i D.fs[i]
    have h16 := g.size
    by_cases hik : i < keep.length
    · refine ACmp.yes (by omega) ?_; conv => whnf
      have hki : keep[i]? = some keep[i] := by simp [hik]
      have hcn : cutN keep i D.fs[i] = min keep[i].toNat (D.fs[i].b.length - D.fs[i].s) := by unfold cutN; rw [hki]
      obtain ⟨kb, koff, kl, kE, kfz, rfl, khb, khc⟩ := sk2.pos (by omega)
      rw [Nat.mul_one] at khc
      refine ADrawn.mk (h2) [23] (Sub.refl _) (by decide +kernel) ?_; conv => whnf
      refine ALoad.one rfl f1 rfl ?_; conv => whnf
      refine AIdx.nat rfl (by omega : i < kn) rfl rfl ?_; conv => whnf
      refine ALoad.one rfl khb ((get_of_take khc (by omega : i * 1 < kn)).trans (by simp [hik] : _ = some (I keep[i]))) ?_; conv => whnf
      refine AInt.as (r' := ((keep[i].toNat : Nat) : Int)) (by split <;> omega) ?_; conv => whnf
      refine ALoad.one rfl f1 rfl ?_; conv => whnf
      refine ALoad.one rfl f1 rfl ?_; conv => whnf
      refine AArith.ok (by omega) (by omega) (r' := ((D.fs[i].b.length - D.fs[i].s : Nat) : Int)) (by omega) ?_; conv => whnf
      refine AInt.as (r' := ((cutN keep i D.fs[i] : Nat) : Int)) (by rw [hcn]; split <;> omega) ?_; conv => whnf
      refine AArith.ok (by omega) (by omega) (r' := ((D.fs[i].s + cutN keep i D.fs[i] : Nat) : Int)) (by omega) ?_; conv => whnf
      refine AStore.one' rfl rfl rfl f1 rfl ?_; conv => whnf
      have k3 : KeepF o fp h2 (h2.set fp (row (o, 2) [.slice fa fn fc, I ((D.fs[i].s + cutN keep i D.fs[i] : Nat) : Int)] 66)) := keepF_set
      have f1' := Heap.set_same h2 fp (row (o, 2) [.slice fa fn fc, I ((D.fs[i].s + cutN keep i D.fs[i] : Nat) : Int)] 66)
      have f2' := f2.move (h' := h2.set fp (row (o, 2) [.slice fa fn fc, I ((D.fs[i].s + cutN keep i D.fs[i] : Nat) : Int)] 66)) fun b x e => Heap.set_ne (fun c => by subst c; rw [f1] at e; exact tag2_10 e) e
      generalize h2.set fp (row (o, 2) [.slice fa fn fc, I ((D.fs[i].s + cutN keep i D.fs[i] : Nat) : Int)] 66) = h3 at k3 f1' f2' ⊢
      refine ADrawn.mk (h3) [16] (Sub.refl _) (by decide +kernel) ?_; conv => whnf
      refine ALoad.one rfl f1' rfl ?_; conv => whnf
      refine ALoad.one rfl f1' rfl ?_; conv => whnf
      refine ALoad.one rfl f1' rfl ?_; conv => whnf
      refine ASlc.upto3 (m := D.fs[i].s + cutN keep i D.fs[i]) (x := D.fs[i].s + cutN keep i D.fs[i]) rfl rfl (Nat.le_refl _) (by have := f2'.sl.le; omega) rfl rfl ?_; conv => whnf
      refine AStore.one' rfl rfl rfl f1' rfl ?_; conv => whnf
      refine AArith.ok (by omega) (by omega) ((by omega : (i : Int) + 1 = ((i + 1 : Nat) : Int))) ?_; conv => whnf
      refine ⟨⟨k2.trans ((k3.trans keepF_set).keep f1 rfl), ?_, ?_, _, i + 1, updL_self ⟨rfl, rfl, rfl, rfl, rfl, trivial⟩, by omega, ?_⟩, ?_⟩
      · exact sn2.move fun b x e => (k3.trans keepF_set).tag f1 (by simp) (by simp; omega) e
      · exact sk2.move fun b x e => (k3.trans keepF_set).tag f1 hk2 (hk10 fp) e
      · refine ⟨_, d2.upd (f' := cutF keep i D.fs[i]) hj rfl (k3.trans keepF_set) ⟨fa, _, _, Heap.set_same _ _ _, ?_⟩ ?_ rfl rfl rfl⟩
        · have := (f2'.cut (k := D.fs[i].s + cutN keep i D.fs[i]) (by omega)).move (h' := h3.set fp (row (o, 2) [.slice fa (D.fs[i].s + cutN keep i D.fs[i]) (D.fs[i].s + cutN keep i D.fs[i]), I ((D.fs[i].s + cutN keep i D.fs[i] : Nat) : Int)] 66)) fun b x e => Heap.set_ne (fun c => by subst c; rw [f1'] at e; exact tag2_10 e) e
          simpa [bytesV, cutF, List.map_take] using this
        · simp only
          rw [cutTo_succ hlt]
          exact set_perm2 d2.perm _ (by simp [hj]) hget
      · show D.fs.length - (i + 1) < D.fs.length - i
        omega
    · refine ACmp.no (by omega) ?_; conv => whnf
      have hcn : cutN keep i D.fs[i] = 0 := by unfold cutN; rw [List.getElem?_eq_none (by omega)]
      have k3 : KeepF o fp h2 h2 := (Sub.refl h2).keepF _ _
      have f1' := f1
      have f2' := f2
      rw [show ((D.fs[i].s : Nat) : Int) = ((D.fs[i].s + cutN keep i D.fs[i] : Nat) : Int) by rw [hcn]; rfl] at f1'
      obtain ⟨h3, hh3⟩ : ∃ h3, h3 = h2 := ⟨h2, rfl⟩
      rw [← hh3] at f1' f2' ⊢
      rw [show KeepF o fp h2 h2 = KeepF o fp h2 h3 by rw [hh3]] at k3
      refine ADrawn.mk (h3) [16] (Sub.refl _) (by decide +kernel) ?_; conv => whnf
      refine ALoad.one rfl f1' rfl ?_; conv => whnf
      refine ALoad.one rfl f1' rfl ?_; conv => whnf
      refine ALoad.one rfl f1' rfl ?_; conv => whnf
      refine ASlc.upto3 (m := D.fs[i].s + cutN keep i D.fs[i]) (x := D.fs[i].s + cutN keep i D.fs[i]) rfl rfl (Nat.le_refl _) (by have := f2'.sl.le; omega) rfl rfl ?_; conv => whnf
      refine AStore.one' rfl rfl rfl f1' rfl ?_; conv => whnf
      refine AArith.ok (by omega) (by omega) ((by omega : (i : Int) + 1 = ((i + 1 : Nat) : Int))) ?_; conv => whnf
      refine ⟨⟨k2.trans ((k3.trans keepF_set).keep f1 rfl), ?_, ?_, _, i + 1, updL_self ⟨rfl, rfl, rfl, rfl, rfl, trivial⟩, by omega, ?_⟩, ?_⟩
      · exact sn2.move fun b x e => (k3.trans keepF_set).tag f1 (by simp) (by simp; omega) e
      · exact sk2.move fun b x e => (k3.trans keepF_set).tag f1 hk2 (hk10 fp) e
      · refine ⟨_, d2.upd (f' := cutF keep i D.fs[i]) hj rfl (k3.trans keepF_set) ⟨fa, _, _, Heap.set_same _ _ _, ?_⟩ ?_ rfl rfl rfl⟩
        · have := (f2'.cut (k := D.fs[i].s + cutN keep i D.fs[i]) (by omega)).move (h' := h3.set fp (row (o, 2) [.slice fa (D.fs[i].s + cutN keep i D.fs[i]) (D.fs[i].s + cutN keep i D.fs[i]), I ((D.fs[i].s + cutN keep i D.fs[i] : Nat) : Int)] 66)) fun b x e => Heap.set_ne (fun c => by subst c; rw [f1'] at e; exact tag2_10 e) e
          simpa [bytesV, cutF, List.map_take] using this
        · simp only
          rw [cutTo_succ hlt]
          exact set_perm2 d2.perm _ (by simp [hj]) hget
      · show D.fs.length - (i + 1) < D.fs.length - i
        omega
  · refine ACmp.no (by omega) ?_; conv => whnf
    obtain rfl : i = D.fs.length := by omega
    obtain ⟨left, xa, xn, xc, a1, a2, a3⟩ := d2.at_
    refine AStore.one' rfl rfl rfl a1 rfl ?_; conv => whnf
    refine AStore.one' rfl rfl rfl (Heap.set_same _ _ _) rfl ?_; conv => whnf
    rw [Heap.set_set]
    have kt := KeepT.set (y := .cells [.map (some m), .bool true, .bool false, I left, .slice xa xn xc].toArray 61 (0, 0)) a1
    refine ⟨rfl, ⟨L2, ⟨⟨left, xa, xn, xc, Heap.set_same _ _ _, by simp [dcrash], a3.keepT kt (by simp)⟩, d2.map.move fun x e => kt.get (by simp) e, d2.ents, fun x hx => ?_, d2.nodup, ?_⟩⟩, k2.trans kt.keep⟩
    · obtain ⟨a, n, c, f1, f2⟩ := (d2.files x hx).at_
      exact ⟨a, n, c, kt.get (by simp) f1, f2.keepT kt (by simp)⟩
    · have := d2.perm
      simp only at this
      rw [cutTo_all] at this
      exact this
end Go.Ah
