/- The document's disk: Append, Sync, Rename, Remove, Turn. -/
import Derived.Test.YtdacfmgldjegmaaDrD
namespace Go.Ah
open Go.Proofs
set_option linter.unusedVariables false
set_option linter.unusedSimpArgs false
set_option maxRecDepth 20000

theorem set_same_map {R : List RF} {i : Nat} {x y : RF} (hi : R[i]? = some x) : (R.map (·.f)).set i y.f = (R.set i y).map (·.f) := by rw [List.map_set]
/-- a file in place of the one of its name -/
theorem dput_at {fs : List DF} (hr : Rise fs) {f f' : DF} {i : Nat} (hi : fs[i]? = some f) (hn : f'.name = f.name) : fs.set i f' = dput f' fs := by
  refine rise_perm ?_ (dput_rise hr) (dput_set hr hi hn)
  have hlt := (List.getElem?_eq_some_iff.1 hi).1
  have hx := (List.getElem?_eq_some_iff.1 hi).2
  have hnm : (fs.set i f').map (·.name) = fs.map (·.name) := by
    rw [List.map_set, hn]
    apply List.ext_getElem?
    intro j
    rw [List.getElem?_set]
    split
    · rename_i hj; subst hj; simp [hlt, hx]
    · rfl
  have h1 : (fs.map (·.name)).Pairwise (· < ·) := List.pairwise_map.2 hr
  rw [← hnm] at h1
  exact List.pairwise_map.1 h1

set_option maxHeartbeats 4000000 in
theorem refSync_any {h : Heap} {q o : Nat} {D : DD} (ho : o ≠ 0) (da : RA h q o D) (g : Good D) (n : Nm) :
    ACalls PR 43 #[Ptr q, S n] h (fun v h' => v = I (dsync D n).1 ∧ RA h' q o (dsync D n).2 ∧ Keep o h h') := by
  obtain ⟨R, rl, la, lc, ka, kn, kc, d⟩ := da
  have a1 := d.at_
  refine acalls_of mix Try.func43 rfl rfl Try.ntmps43 Try.results43 rfl ?_; conv => whnf
  cases hd : D.dead with
  | true =>
    rw [hd] at a1
    have e : dsync D n = (120, D) := by simp [dsync, hd]
    rw [e]
    refine ALoad.one rfl a1 rfl ?_; conv => whnf
    exact ⟨rfl, ⟨_, _, _, _, _, _, _, d⟩, Keep.refl _ _⟩
  | false =>
  rw [hd] at a1
  refine ALoad.one rfl a1 rfl ?_; conv => whnf
  refine ACalls.mono (at_any d g n) ?_; rintro _ _ ⟨rfl, rfl⟩; conv => whnf
  cases hf : dfind D.fs n with
  | none =>
    have e : dsync D n = (121, D) := by simp [dsync, hd, hf]
    rw [e, rat_none d.fs hf]
    refine ACmp.yes (by omega) ?_; conv => whnf
    exact ⟨rfl, ⟨_, _, _, _, _, _, _, d⟩, Keep.refl _ _⟩
  | some f =>
    obtain ⟨i, x, hr, hx, rfl⟩ := rat_some d.fs hf
    obtain ⟨hfm, hfn⟩ := dfind_some hf
    have hlt := (List.getElem?_eq_some_iff.1 hx).1
    rw [hr]
    refine ACmp.no (by omega) ?_; conv => whnf
    cases hgo : (dgone D).1 with
    | true =>
      have e : dsync D n = (120, (dgone D).2) := by simp [dsync, hd, hf, hgo]
      rw [e]
      refine ACalls.mono (refgone_go ho hd ⟨_, _, _, _, _, _, _, d⟩ g hgo) ?_; rintro _ h2 ⟨rfl, d2, k2⟩; conv => whnf
      exact ⟨rfl, d2, k2⟩
    | false =>
      have e : dsync D n = (0, { (dgone D).2 with fs := dput ⟨n, x.f.b, x.f.b.length⟩ D.fs }) := by simp [dsync, hd, hf, hgo]
      rw [e]
      obtain ⟨gf, gd, gk, _, _⟩ := gone_fs hgo
      refine ACalls.mono (refgone_no d g hgo) ?_; rintro _ h2 ⟨rfl, d2, k2⟩; conv => whnf
      have b1 := d2.at_
      obtain ⟨b, l, rfl, hb, hp, hg, hu⟩ := d2.upd hx
      have hxl := (d2.ok x (List.mem_of_getElem? hx)).len
      refine ADrawn.mk (h2) [16] (Sub.refl _) (by decide +kernel) ?_; conv => whnf
      refine ALoad.one rfl b1 rfl ?_; conv => whnf
      refine ALoad.one rfl b1 rfl ?_; conv => whnf
      refine AIdx.nat (z := 3) rfl hlt rfl rfl ?_; conv => whnf
      refine ALoad.one rfl hb (by rw [Nat.zero_add]; exact (hg 1 (by omega)).1) ?_; conv => whnf
      refine AIdx.nat (z := 3) rfl hlt rfl rfl ?_; conv => whnf
      refine AStore.one rfl rfl rfl hb (by rw [Nat.zero_add]; exact (hg 2 (by omega)).2) ?_
      simp only [Nat.zero_add]
      conv => whnf
      have hfx : D.fs[i]? = some x.f := by rw [← d.fs]; simp [hx]
      have d4 := hu 2 (I x.n) ⟨⟨n, x.f.b, x.f.b.length⟩, x.a, x.n, x.c, x.ro⟩ (by omega) (by simp only [RF.cells, hfn, hxl]; rfl) rfl (d2.ok x (List.mem_of_getElem? hx))
        { (dgone D).2 with fs := dput ⟨n, x.f.b, x.f.b.length⟩ D.fs } (by rw [gf]; exact (dput_at g.rise hfx hfn.symm).symm) rfl rfl rfl
      exact ⟨rfl, ⟨_, _, _, _, _, _, _, d4⟩, k2.keep.trans (KeepT.set hb).keep⟩

set_option maxHeartbeats 4000000 in
theorem refRemove_any {h : Heap} {q o : Nat} {D : DD} (ho : o ≠ 0) (da : RA h q o D) (g : Good D) (n : Nm) :
    ACalls PR 45 #[Ptr q, S n] h (fun v h' => v = I (dremove D n).1 ∧ RA h' q o (dremove D n).2 ∧ Keep o h h') := by
  obtain ⟨R, rl, la, lc, ka, kn, kc, d⟩ := da
  have a1 := d.at_
  have h16 := g.size
  have hlen := d.len
  refine acalls_of mix Try.func45 rfl rfl Try.ntmps45 Try.results45 rfl ?_; conv => whnf
  cases hd : D.dead with
  | true =>
    rw [hd] at a1
    have e : dremove D n = (120, D) := by simp [dremove, hd]
    rw [e]
    refine ALoad.one rfl a1 rfl ?_; conv => whnf
    exact ⟨rfl, ⟨_, _, _, _, _, _, _, d⟩, Keep.refl _ _⟩
  | false =>
  rw [hd] at a1
  refine ALoad.one rfl a1 rfl ?_; conv => whnf
  refine ACalls.mono (at_any d g n) ?_; rintro _ _ ⟨rfl, rfl⟩; conv => whnf
  cases hf : dfind D.fs n with
  | none =>
    have e : dremove D n = (121, D) := by simp [dremove, hd, hf]
    rw [e, rat_none d.fs hf]
    refine ACmp.yes (by omega) ?_; conv => whnf
    exact ⟨rfl, ⟨_, _, _, _, _, _, _, d⟩, Keep.refl _ _⟩
  | some f =>
    obtain ⟨i, x, hr, hx, rfl⟩ := rat_some d.fs hf
    obtain ⟨hfm, hfn⟩ := dfind_some hf
    have hlt := (List.getElem?_eq_some_iff.1 hx).1
    rw [hr]
    refine ACmp.no (by omega) ?_; conv => whnf
    cases hgo : (dgone D).1 with
    | true =>
      have e : dremove D n = (120, (dgone D).2) := by simp [dremove, hd, hf, hgo]
      rw [e]
      refine ACalls.mono (refgone_go ho hd ⟨_, _, _, _, _, _, _, d⟩ g hgo) ?_; rintro _ h2 ⟨rfl, d2, k2⟩; conv => whnf
      exact ⟨rfl, d2, k2⟩
    | false =>
      have e : dremove D n = (0, { (dgone D).2 with fs := dout n D.fs }) := by simp [dremove, hd, hf, hgo]
      rw [e]
      obtain ⟨gf, gd, gk, _, _⟩ := gone_fs hgo
      refine ACalls.mono (refgone_no d g hgo) ?_; rintro _ h2 ⟨rfl, d2, k2⟩; conv => whnf
      refine ACalls.mono (drop_any ho d2 (by omega) hlt) ?_; rintro _ h3 ⟨rfl, ⟨rn, la', lc', d3, _⟩, k3⟩; conv => whnf
      have hfx : D.fs[i]? = some x.f := by rw [← d.fs]; simp [hx]
      have : ({ (dgone D).2 with fs := (dgone D).2.fs.eraseIdx i } : DD) = { (dgone D).2 with fs := dout n D.fs } := by rw [gf, erase_dout g.rise hfx, hfn]
      rw [this] at d3
      exact ⟨rfl, ⟨_, _, _, _, _, _, _, d3⟩, k2.keep.trans k3⟩

theorem rise_ro {R : List RF} {rl : Nat} (hn : (rl :: R.map (·.ro)).Nodup) {i j : Nat} {x y : RF} (hi : R[i]? = some x) (hj : R[j]? = some y) (h : x.ro = y.ro) : i = j := by
  rw [List.nodup_cons] at hn
  have pw := List.nodup_iff_pairwise_ne.1 hn.2
  have n1 : (R.map (·.ro))[i]? = some x.ro := by simp [hi]
  have n2 : (R.map (·.ro))[j]? = some x.ro := by simp [hj, h]
  obtain ⟨g1, e1⟩ := List.getElem?_eq_some_iff.1 n1
  obtain ⟨g2, e2⟩ := List.getElem?_eq_some_iff.1 n2
  rcases Nat.lt_trichotomy i j with q | q | q
  · exact absurd (e1.trans e2.symm) (List.pairwise_iff_getElem.1 pw i j g1 g2 q)
  · exact q
  · exact absurd (e2.trans e1.symm) (List.pairwise_iff_getElem.1 pw j i g2 g1 q)

set_option maxHeartbeats 4000000 in
theorem refRename_any {h : Heap} {q o : Nat} {D : DD} (ho : o ≠ 0) (da : RA h q o D) (g : Good D) (n m : Nm) (hml : m.length ≤ 9223372036854775807) :
    ACalls PR 44 #[Ptr q, S n, S m] h (fun v h' => v = I (drename D n m).1 ∧ RA h' q o (drename D n m).2 ∧ Keep o h h') := by
  obtain ⟨R, rl, la, lc, ka, kn, kc, d⟩ := da
  have a1 := d.at_
  have h16 := g.size
  have hlen := d.len
  refine acalls_of mix Try.func44 rfl rfl Try.ntmps44 Try.results44 rfl ?_; conv => whnf
  cases hd : D.dead with
  | true =>
    rw [hd] at a1
    have e : drename D n m = (120, D) := by simp [drename, hd]
    rw [e]
    refine ALoad.one rfl a1 rfl ?_; conv => whnf
    exact ⟨rfl, ⟨_, _, _, _, _, _, _, d⟩, Keep.refl _ _⟩
  | false =>
  rw [hd] at a1
  refine ALoad.one rfl a1 rfl ?_; conv => whnf
  refine ACalls.mono (at_any d g n) ?_; rintro _ _ ⟨rfl, rfl⟩; conv => whnf
  cases hf : dfind D.fs n with
  | none =>
    have e : drename D n m = (121, D) := by simp [drename, hd, hf]
    rw [e, rat_none d.fs hf]
    refine ACmp.yes (by omega) ?_; conv => whnf
    exact ⟨rfl, ⟨_, _, _, _, _, _, _, d⟩, Keep.refl _ _⟩
  | some f =>
    obtain ⟨i, x, hr, hx, rfl⟩ := rat_some d.fs hf
    obtain ⟨hfm, hfn⟩ := dfind_some hf
    have hlt := (List.getElem?_eq_some_iff.1 hx).1
    rw [hr]
    refine ACmp.no (by omega) ?_; conv => whnf
    have cn := refName_any m hml h
    cases hnm : nmOk m with
    | false =>
      have e : drename D n m = (121, D) := by simp [drename, hd, hf, hnm]
      rw [e]
      rw [hnm] at cn
      refine ACalls.mono (cn) ?_; rintro _ _ ⟨rfl, rfl⟩; conv => whnf
      exact ⟨rfl, ⟨_, _, _, _, _, _, _, d⟩, Keep.refl _ _⟩
    | true =>
    rw [hnm] at cn
    refine ACalls.mono (cn) ?_; rintro _ _ ⟨rfl, rfl⟩; conv => whnf
    cases hgo : (dgone D).1 with
    | true =>
      have e : drename D n m = (120, (dgone D).2) := by simp [drename, hd, hf, hgo, hnm]
      rw [e]
      refine ACalls.mono (refgone_go ho hd ⟨_, _, _, _, _, _, _, d⟩ g hgo) ?_; rintro _ h2 ⟨rfl, d2, k2⟩; conv => whnf
      exact ⟨rfl, d2, k2⟩
    | false =>
      have e : drename D n m = (0, { (dgone D).2 with fs := dput ⟨m, x.f.b, x.f.s⟩ (dout n D.fs) }) := by simp [drename, hd, hf, hgo, hnm]
      rw [e]
      obtain ⟨gf, gd, gk, _, _⟩ := gone_fs hgo
      refine ACalls.mono (refgone_no d g hgo) ?_; rintro _ h2 ⟨rfl, d2, k2⟩; conv => whnf
      have b1 := d2.at_
      obtain ⟨b, l, rfl, hb, hp, hg, hu⟩ := d2.upd hx
      refine ALoad.one rfl b1 rfl ?_; conv => whnf
      refine AIdx.nat (z := 3) rfl hlt rfl rfl ?_; conv => whnf
      refine ALoad.agg (n := 3) (vs := x.cells) rfl hb (by rw [Nat.zero_add]; exact hp) rfl ?_; conv => whnf
      refine AAlloc.mk (0, 1) rfl fun b8 f8 => ?_; conv => whnf
      refine AStore.agg' rfl rfl rfl (Heap.set_same _ _ _) rfl ?_; conv => whnf
      rw [Heap.set_set]
      have s8 := f8.sub (row (0, 1) [S x.f.name, .slice x.a x.n x.c, I x.f.s] 76)
      have k8 := Heap.set_same h2 b8 (row (0, 1) [S x.f.name, .slice x.a x.n x.c, I x.f.s] 76)
      have d8 : Rd' (h2.set b8 (row (0, 1) [S x.f.name, .slice x.a x.n x.c, I x.f.s] 76)) q o _ R rl _ lc ka kn kc := d2.move fun _ _ _ _ e => s8 _ _ e
      generalize h2.set b8 (row (0, 1) [S x.f.name, .slice x.a x.n x.c, I x.f.s] 76) = h3 at s8 k8 d8 ⊢
      refine ACalls.mono (drop_any ho d8 (by omega) hlt) ?_; rintro _ h4 ⟨rfl, ⟨rn, la', lc', d4, okk⟩, k4⟩; conv => whnf
      have k8' := k4.get (by simp; exact fun c => ho c.symm) k8
      refine AStore.one' rfl rfl rfl k8' rfl ?_; conv => whnf
      have kt := KeepT.set (y := .cells [S m, .slice x.a x.n x.c, I x.f.s].toArray 76 (0, 0)) k8'
      have d5 : Rd' (h4.set b8 (row (0, 1) [S m, .slice x.a x.n x.c, I x.f.s] 76)) q o _ (R.eraseIdx i) rn la' lc' ka kn kc := d4.move fun b t y ht e => kt _ _ _ (fun c => by rw [c] at ht; exact ho ht.symm) e
      have ok5 : RF.Ok (h4.set b8 (row (0, 1) [S m, .slice x.a x.n x.c, I x.f.s] 76)) o ⟨⟨m, x.f.b, x.f.s⟩, x.a, x.n, x.c, x.ro⟩ := Own.keepT (okk x (List.mem_of_getElem? hx)) kt (fun c => by injection c with c _; exact ho c)
      refine ALoad.agg rfl (Heap.set_same _ _ _) rfl rfl ?_; conv => whnf
      have hfx : D.fs[i]? = some x.f := by rw [← d.fs]; simp [hx]
      have hout : (dgone D).2.fs.eraseIdx i = dout n D.fs := by rw [gf, erase_dout g.rise hfx, hfn]
      rw [hout] at d5
      have hel : (R.eraseIdx i).length = R.length - 1 := List.length_eraseIdx_of_lt hlt
      have hro := d.big x.ro (by simp; exact .inr ⟨x, List.mem_of_getElem? hx, rfl⟩)
      have hynd : ∀ z ∈ rout m (R.eraseIdx i), z.ro ≠ x.ro := fun z hz c => by
        have hz1 := (List.mem_filter.1 hz).1
        have hnd := d.nodup
        rw [List.nodup_cons] at hnd
        have := (nodup_erase hnd.2 (by simp [hx] : (R.map (·.ro))[i]? = some x.ro)).1
        rw [← map_eraseIdx] at this
        exact this (List.mem_map.2 ⟨z, hz1, c⟩)
      refine ACalls.mono (put_any ho d5 (by omega) (dout_rise g.rise) ⟨⟨m, x.f.b, x.f.s⟩, x.a, x.n, x.c, x.ro⟩ ok5 hro hynd) ?_; rintro _ h6 ⟨rfl, d6, k6⟩; conv => whnf
      refine ⟨rfl, d6, fun b t y ht e => ?_⟩
      have e2 := k2.keep _ _ _ ht e
      exact k6 _ _ _ ht (Heap.set_ne (fun c => by subst c; rw [f8.none] at e2; cases e2) (k4 _ _ _ ht (s8 _ _ e2)))

set_option maxHeartbeats 4000000 in
theorem refTurn_any {h : Heap} {q o : Nat} {D : DD} (da : RA h q o D) (g : Good D) (n : Nm) (j k : Int) :
    ACalls PR 32 #[Ptr q, S n, I j, I k] h (fun v h' => v = I (dturn D n j k).1 ∧ RA h' q o (dturn D n j k).2 ∧ Keep o h h') := by
  obtain ⟨R, rl, la, lc, ka, kn, kc, d⟩ := da
  have a1 := d.at_
  refine acalls_of mix Try.func32 rfl rfl Try.ntmps32 Try.results32 rfl ?_; conv => whnf
  cases hd : D.dead with
  | true =>
    rw [hd] at a1
    have e : dturn D n j k = (120, D) := by simp [dturn, hd]
    rw [e]
    refine ALoad.one rfl a1 rfl ?_; conv => whnf
    exact ⟨rfl, ⟨_, _, _, _, _, _, _, d⟩, Keep.refl _ _⟩
  | false =>
  have a1d := a1
  rw [hd] at a1
  refine ALoad.one rfl a1 rfl ?_; conv => whnf
  refine ACalls.mono (at_any d g n) ?_; rintro _ _ ⟨rfl, rfl⟩; conv => whnf
  cases hf : dfind D.fs n with
  | none =>
    have e : dturn D n j k = (121, D) := by simp [dturn, hd, hf]
    rw [e, rat_none d.fs hf]
    refine ACmp.yes (by omega) ?_; conv => whnf
    exact ⟨rfl, ⟨_, _, _, _, _, _, _, d⟩, Keep.refl _ _⟩
  | some f =>
    obtain ⟨i, x, hr, hx, rfl⟩ := rat_some d.fs hf
    obtain ⟨hfm, hfn⟩ := dfind_some hf
    have hlt := (List.getElem?_eq_some_iff.1 hx).1
    have ok := d.ok x (List.mem_of_getElem? hx)
    have hxl := ok.len
    obtain ⟨b, l, rfl, hb, hp, hg, hu⟩ := d.get hx
    have hl1 := (hg 1 (by omega)).1
    have bad : (j < 0 ∨ (x.f.b.length : Int) ≤ j ∨ k < 0 ∨ 7 < k) → dturn D n j k = (9, D) := fun c => by simp only [dturn, hd, hf, Bool.false_eq_true, if_false]; rw [if_pos c]
    rw [hr]
    refine ACmp.no (by omega) ?_; conv => whnf
    by_cases c1 : j < 0
    · rw [bad (.inl c1)]
      refine ACmp.yes (by omega) ?_; conv => whnf
      exact ⟨rfl, ⟨_, _, _, _, _, _, _, d⟩, Keep.refl _ _⟩
    · refine ACmp.no (by omega) ?_; conv => whnf
      refine ALoad.one rfl a1 rfl ?_; conv => whnf
      refine AIdx.nat (z := 3) rfl hlt rfl rfl ?_; conv => whnf
      refine ALoad.one rfl hb (by rw [Nat.zero_add]; exact hl1) ?_; conv => whnf
      by_cases c2 : (x.f.b.length : Int) ≤ j
      · rw [bad (.inr (.inl c2))]
        refine ACmp.yes (by omega) ?_; conv => whnf
        exact ⟨rfl, ⟨_, _, _, _, _, _, _, d⟩, Keep.refl _ _⟩
      · refine ACmp.no (by omega) ?_; conv => whnf
        by_cases c3 : k < 0
        · rw [bad (.inr (.inr (.inl c3)))]
          refine ACmp.yes (by omega) ?_; conv => whnf
          exact ⟨rfl, ⟨_, _, _, _, _, _, _, d⟩, Keep.refl _ _⟩
        · refine ACmp.no (by omega) ?_; conv => whnf
          by_cases c4 : 7 < k
          · rw [bad (.inr (.inr (.inr c4)))]
            refine ACmp.yes (by omega) ?_; conv => whnf
            exact ⟨rfl, ⟨_, _, _, _, _, _, _, d⟩, Keep.refl _ _⟩
          · refine ACmp.no (by omega) ?_; conv => whnf
            have e : dturn D n j k = (0, { D with fs := dput ⟨n, x.f.b.set j.toNat (bitT (x.f.b[j.toNat]?.getD 0) k.toNat), x.f.s⟩ D.fs }) := by
              simp only [dturn, hd, hf, Bool.false_eq_true, if_false]; rw [if_neg (by omega)]
            rw [e]
            obtain ⟨j, rfl⟩ := Int.eq_ofNat_of_zero_le (by omega : 0 ≤ j)
            obtain ⟨k, rfl⟩ := Int.eq_ofNat_of_zero_le (by omega : 0 ≤ k)
            rw [Int.toNat_natCast, Int.toNat_natCast]
            have hj : j < x.f.b.length := by omega
            obtain ⟨b2, l2, hxa, hb2, hil, hget, hset⟩ := Own.setc ok (i := j) (by omega)
            have hl1' : l[i * 3 + 1]? = some (.slice (some ⟨b2, 0, none⟩) x.n x.c) := by rw [(hg 1 (by omega)).1, RF.cells, hxa]; rfl
            have hbi : (bytesV x.f.b)[j]? = some (.int .u8 x.f.b[j]) := by simp [bytesV, hj]
            refine ADrawn.mk (h) [24] (Sub.refl _) (by decide +kernel) ?_; conv => whnf
            refine ALoad.one rfl a1 rfl ?_; conv => whnf
            refine AIdx.nat (z := 3) rfl hlt rfl rfl ?_; conv => whnf
            refine ALoad.one rfl hb (by rw [Nat.zero_add]; exact hl1') ?_; conv => whnf
            refine ALoad.one rfl a1 rfl ?_; conv => whnf
            refine AIdx.nat (z := 3) rfl hlt rfl rfl ?_; conv => whnf
            refine ALoad.one rfl hb (by rw [Nat.zero_add]; exact hl1') ?_; conv => whnf
            refine AIdx.nat (z := 1) rfl (by omega : j < x.n) rfl rfl ?_; conv => whnf
            refine ALoad.one rfl hb2 (by rw [Nat.zero_add, Nat.mul_one, hget, hbi]) ?_; conv => whnf
            refine ⟨by omega, ?_⟩
            refine AArith.as (r' := 2 ^ k) (by rw [Int.toNat_natCast]; exact bit_wrap k (by omega)) ?_; conv => whnf
            refine AInt.as (r' := bitT x.f.b[j] k) rfl ?_; conv => whnf
            refine AIdx.nat (z := 1) rfl (by omega : j < x.n) rfl rfl ?_; conv => whnf
            refine AStore.one rfl rfl rfl hb2 (by rw [Nat.zero_add, Nat.mul_one]; exact hil) ?_
            simp only [Nat.zero_add, Nat.mul_one]
            conv => whnf
            have kt := KeepT.set (y := .cells (l2.set j (.int .u8 (bitT x.f.b[j] k))).toArray 5 (0, 0)) hb2
            have hgd : x.f.b[j]?.getD 0 = x.f.b[j] := by simp [hj]
            rw [hgd]
            have hfx : D.fs[i]? = some x.f := by rw [← d.fs]; simp [hx]
            have hgx := (List.getElem?_eq_some_iff.1 hx).2
            have big := d.big
            have hro := big x.ro (by simp; exact .inr ⟨x, List.mem_of_getElem? hx, rfl⟩)
            have hnd := d.nodup
            have hrl : rl ≠ x.ro := by
              rw [List.nodup_cons] at hnd
              intro c; exact hnd.1 (List.mem_map.2 ⟨x, List.mem_of_getElem? hx, c.symm⟩)
            have hros : (R.set i ⟨⟨n, x.f.b.set j (bitT x.f.b[j] k), x.f.s⟩, x.a, x.n, x.c, x.ro⟩).map (·.ro) = R.map (·.ro) := by
              rw [List.map_set]
              apply List.ext_getElem?
              intro jj
              rw [List.getElem?_set]
              split
              · rename_i hjj; subst hjj; simp [hlt, hgx]
              · rfl
            refine ⟨rfl, ⟨R.set i ⟨⟨n, x.f.b.set j (bitT x.f.b[j] k), x.f.s⟩, x.a, x.n, x.c, x.ro⟩, rl, some ⟨b, 0, none⟩, lc, ka, kn, kc, ⟨?_, ?_, ?_, ?_, ?_, ?_, ?_⟩⟩, kt.keep⟩
            · rw [List.length_set]; exact kt.get (by simp; omega) a1d
            · have hrc : rcells (R.set i ⟨⟨n, x.f.b.set j (bitT x.f.b[j] k), x.f.s⟩, x.a, x.n, x.c, x.ro⟩) = rcells R := by
                unfold rcells
                congr 1
                rw [List.map_set]
                apply List.ext_getElem?
                intro jj
                rw [List.getElem?_set]
                split
                · rename_i hjj; subst hjj; simp [hlt, hgx, RF.cells, hfn]
                · rfl
              rw [hrc, List.length_set]
              exact d.row_.keepT kt (by intro c; injection c with _ c; exact hrl c)
            · exact d.keep.keepT kt (by simp; omega)
            · intro z hz
              obtain ⟨pz, hpz⟩ := List.getElem?_of_mem hz
              rw [List.getElem?_set] at hpz
              by_cases hip : i = pz
              · rw [if_pos hip, if_pos (by omega)] at hpz
                cases hpz
                have := hset (.int .u8 (bitT x.f.b[j] k))
                unfold RF.Ok
                simpa [bytesV, List.map_set] using this
              · rw [if_neg hip] at hpz
                exact Own.keepT (d.ok z (List.mem_of_getElem? hpz)) kt (by intro c; injection c with _ c; exact hip (rise_ro hnd hx hpz c.symm))
            · rw [List.map_set, d.fs]
              exact dput_at g.rise hfx hfn.symm
            · rw [hros]; exact hnd
            · rw [hros]; exact big
end Go.Ah
