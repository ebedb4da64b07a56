/- The document's disk: Crash, gone, put, drop. -/
import Derived.Test.YtdacfmgldjegmaaDrA
namespace Go.Ah
open Go.Proofs
set_option linter.unusedVariables false
set_option linter.unusedSimpArgs false
set_option maxRecDepth 20000

theorem Rd'.upd {h : Heap} {q o : Nat} {D : DD} {R : List RF} {rl : Nat} {la : Option Addr} {lc : Nat} {ka : Option Addr} {kn kc : Nat} (d : Rd' h q o D R rl la lc ka kn kc) {i : Nat} {x : RF} (hi : R[i]? = some x) :
    ∃ b, ∃ l : List Value, la = some ⟨b, 0, none⟩ ∧ h b = some (row (o, rl) l 76) ∧ (l.drop (i * 3)).take 3 = x.cells ∧ (∀ k, k < 3 → l[i * 3 + k]? = x.cells[k]? ∧ i * 3 + k < l.length) ∧
      ∀ (k : Nat) (v : Value) (y : RF), k < 3 → y.cells = x.cells.set k v → y.ro = x.ro → y.Ok h o → ∀ D' : DD, D'.fs = D.fs.set i y.f → D'.dead = D.dead → D'.arm = D.arm → D'.keep = D.keep →
        Rd' (h.set b (row (o, rl) (l.set (i * 3 + k) v) 76)) q o D' (R.set i y) rl la lc ka kn kc := by
  obtain ⟨b, l, h1, h2, h3, h4, h5⟩ := d.get hi
  refine ⟨b, l, h1, h2, h3, h4, fun k v y hk hy hro hok D' e1 e2 e3 e4 => ?_⟩
  have hlt := (List.getElem?_eq_some_iff.1 hi).1
  have hx := (List.getElem?_eq_some_iff.1 hi).2
  have kt : KeepT (o, rl) h (h.set b (row (o, rl) (l.set (i * 3 + k) v) 76)) := KeepT.set h2
  have big := d.big
  have hrl := big rl (by simp)
  have hnd := d.nodup
  rw [List.nodup_cons] at hnd
  have hros : (R.set i y).map (·.ro) = R.map (·.ro) := by
    rw [List.map_set]
    apply List.ext_getElem?
    intro j
    rw [List.getElem?_set]
    split
    · rename_i hj; subst hj; simp [hlt, hx, hro]
    · rfl
  have hne : ∀ z ∈ R, ((o, z.ro) : Tag) ≠ (o, rl) := fun z hz c => by
    have : z.ro = rl := by injection c
    exact hnd.1 (List.mem_map.2 ⟨z, hz, this⟩)
  refine ⟨?_, ?_, ?_, ?_, ?_, ?_, ?_⟩
  · rw [e2, e3, List.length_set]; exact kt.get (by simp; omega) d.at_
  · rw [List.length_set]; exact h5 k v y hk hy
  · rw [e4]; exact d.keep.keepT kt (by simp; omega)
  · intro z hz
    rcases List.mem_or_eq_of_mem_set hz with hz | rfl
    · exact (d.ok z hz).keepT kt (hne z hz)
    · exact Own.keepT hok kt (by rw [hro]; exact hne x (List.mem_of_getElem? hi))
  · rw [List.map_set, d.fs, e1]
  · rw [hros]; exact d.nodup
  · rw [hros]; exact d.big

set_option maxHeartbeats 4000000 in
theorem refCrash_any {h : Heap} {q o : Nat} {D : DD} (ho : o ≠ 0) (da : RA h q o D) (g : Good D) {tk : Tag} {ka' : Option Addr} {kn' kc' : Nat} {keep : List Int}
    (sk : Sl h tk ka' kn' kc' 1 (keep.map I)) (hk : tk.1 ≠ o ∨ tk = (o, 3)) :
    ACalls PR 47 #[Ptr q, .slice ka' kn' kc'] h (fun v h' => v = I (dcrashed D keep).1 ∧ RA h' q o (dcrashed D keep).2 ∧ Keep o h h') := by
  obtain ⟨R, rl, la, lc, ka, kn, kc, d⟩ := da
  have a1 := d.at_
  have h16 := g.size
  have hlen := d.len
  have hkl : keep.length = kn' := by have := sk.len; simpa using this
  have hkt : ∀ r : Nat, 10 ≤ r → tk ≠ (o, r) := by intro r hr; rcases hk with c | c <;> (intro e; rw [e] at c; simp at c); omega
  have hk0 : tk ≠ (o, 0) := by rcases hk with c | c <;> (intro e; rw [e] at c; simp at c)
  refine acalls_of mix Try.func47 rfl rfl Try.ntmps47 Try.results47 rfl ?_; conv => whnf
  cases hd : D.dead with
  | true =>
    have e : dcrashed D keep = (120, D) := by simp [dcrashed, hd]
    rw [e]
    rw [hd] at a1
    refine ALoad.one rfl a1 rfl ?_; conv => whnf
    exact ⟨rfl, ⟨_, _, _, _, _, _, _, d⟩, Keep.refl _ _⟩
  | false =>
  have e : dcrashed D keep = (0, dcrash keep D) := by simp [dcrashed, hd]
  rw [e]
  rw [hd] at a1
  refine ALoad.one rfl a1 rfl ?_; conv => whnf
  refine ALoop.mk (fun e h2 => Keep o h h2 ∧ Sl h2 tk ka' kn' kc' 1 (keep.map I) ∧ ∃ e0, ∃ i : Nat, e = updL 96 e0 [(0, Ptr q), (1, .slice ka' kn' kc'), (5, I i)] ∧ i ≤ R.length ∧
      ∃ R2, R2.length = R.length ∧ Rd' h2 q o { D with fs := cutTo keep i D.fs } R2 rl la lc ka kn kc) (fun e => R.length - natOf (e 5))
    ⟨Keep.refl _ _, sk, _, 0, updL_self ⟨rfl, rfl, rfl, trivial⟩, by omega, R, rfl, by rw [cutTo_zero]; exact d⟩ ?_
  rintro e h2 ⟨k2, sk2, e0, i, rfl, hi, R2, hR2, d2⟩
  have b1 := d2.at_
  rw [hR2] at b1
  conv => whnf
  refine ALoad.one rfl b1 rfl ?_; conv => whnf
  by_cases hlt : i < R.length
  · refine ACmp.yes (by omega) ?_; conv => whnf
    have hltD : i < D.fs.length := by omega
    have hget := cutTo_get (keep := keep) hltD
    obtain ⟨x2, hx⟩ : ∃ x2, R2[i]? = some x2 := ⟨R2[i]'(by omega), by simp⟩
    have hxf : x2.f = D.fs[i] := by
      have h1 : (R2.map (·.f))[i]? = some D.fs[i] := by rw [d2.fs]; exact hget
      rw [List.getElem?_map, hx] at h1; simpa using h1
    obtain ⟨b, l, rfl, hb, hp, hg, hu⟩ := d2.upd hx
    have hxn := (d2.ok _ (List.mem_of_getElem? hx)).len
    rw [hxf] at hxn
    have hfl := g.len D.fs[i] (List.getElem_mem hltD)
    have hfs := g.syn D.fs[i] (List.getElem_mem hltD)
    have hcl := cutN_le keep i D.fs[i]
    have hrl := d2.big rl (by simp)
    have g1 := (hg 1 (by omega)).1
    have g2 := (hg 2 (by omega)).1
    have hl2 := (hg 2 (by omega)).2
    have hxs : x2.cells = [S D.fs[i].name, .slice x2.a x2.n x2.c, I D.fs[i].s] := by unfold RF.cells; rw [hxf]
    rw [hxs] at g1 g2
    by_cases hik : i < keep.length
    · refine ACmp.yes (by omega) ?_; conv => whnf
      have hki : keep[i]? = some keep[i] := by simp [hik]
      have hcn : cutN keep i D.fs[i] = min keep[i].toNat (D.fs[i].b.length - D.fs[i].s) := by unfold cutN; rw [hki]
      obtain ⟨kb, koff, kl, kE, kfz, rfl, khb, khc⟩ := sk2.pos (by omega)
      rw [Nat.mul_one] at khc
      refine ADrawn.mk (h2) [] (Sub.refl _) (by decide +kernel) ?_; conv => whnf
      refine AIdx.nat (z := 1) rfl (by omega : i < kn') rfl rfl ?_; conv => whnf
      refine ALoad.one rfl khb ((get_of_take khc (by omega : i * 1 < kn')).trans (by simp [hik] : _ = some (I keep[i]))) ?_; conv => whnf
      refine AInt.as (r' := ((keep[i].toNat : Nat) : Int)) (by split <;> omega) ?_; conv => whnf
      refine ALoad.one rfl b1 rfl ?_; conv => whnf
      refine AIdx.nat (z := 3) rfl hlt rfl rfl ?_; conv => whnf
      refine ALoad.one rfl hb (by rw [Nat.zero_add]; exact g1) ?_; conv => whnf
      refine ALoad.one rfl b1 rfl ?_; conv => whnf
      refine AIdx.nat (z := 3) rfl hlt rfl rfl ?_; conv => whnf
      refine ALoad.one rfl hb (by rw [Nat.zero_add]; exact g2) ?_; conv => whnf
      refine AArith.ok (by omega) (by omega) (r' := ((D.fs[i].b.length - D.fs[i].s : Nat) : Int)) (by omega) ?_; conv => whnf
      refine AInt.as (r' := ((cutN keep i D.fs[i] : Nat) : Int)) (by rw [hcn]; split <;> omega) ?_; conv => whnf
      refine ADrawn.mk (h2) [17] (Sub.refl _) (by decide +kernel) ?_; conv => whnf
      refine ALoad.one rfl b1 rfl ?_; conv => whnf
      refine ALoad.one rfl b1 rfl ?_; conv => whnf
      refine AIdx.nat (z := 3) rfl hlt rfl rfl ?_; conv => whnf
      refine ALoad.one rfl hb (by rw [Nat.zero_add]; exact g2) ?_; conv => whnf
      refine AArith.ok (by omega) (by omega) (r' := ((D.fs[i].s + cutN keep i D.fs[i] : Nat) : Int)) (by omega) ?_; conv => whnf
      refine AIdx.nat (z := 3) rfl hlt rfl rfl ?_; conv => whnf
      refine AStore.one rfl rfl rfl hb (by rw [Nat.zero_add]; exact hl2) ?_
      rw [Nat.zero_add]
      conv => whnf
      have d3 := hu 2 (I ((D.fs[i].s + cutN keep i D.fs[i] : Nat) : Int)) ⟨⟨D.fs[i].name, D.fs[i].b, D.fs[i].s + cutN keep i D.fs[i]⟩, x2.a, x2.n, x2.c, x2.ro⟩ (by omega) (by rw [hxs]; rfl) rfl
        (by have := d2.ok _ (List.mem_of_getElem? hx); unfold RF.Ok at this ⊢; rw [hxf] at this; exact this) { D with fs := (cutTo keep i D.fs).set i ⟨D.fs[i].name, D.fs[i].b, D.fs[i].s + cutN keep i D.fs[i]⟩ } rfl rfl rfl rfl
      have k3 := k2.trans (KeepT.set (y := .cells (l.set (i * 3 + 2) (I ((D.fs[i].s + cutN keep i D.fs[i] : Nat) : Int))).toArray 76 (0, 0)) hb).keep
      have sk3 := sk2.keepT (KeepT.set (y := .cells (l.set (i * 3 + 2) (I ((D.fs[i].s + cutN keep i D.fs[i] : Nat) : Int))).toArray 76 (0, 0)) hb) (hkt rl hrl)
      generalize h2.set b (row (o, rl) (l.set (i * 3 + 2) (I ((D.fs[i].s + cutN keep i D.fs[i] : Nat) : Int))) 76) = h3 at d3 k3 sk3 ⊢
      have hx3 : (R2.set i ⟨⟨D.fs[i].name, D.fs[i].b, D.fs[i].s + cutN keep i D.fs[i]⟩, x2.a, x2.n, x2.c, x2.ro⟩)[i]? = some ⟨⟨D.fs[i].name, D.fs[i].b, D.fs[i].s + cutN keep i D.fs[i]⟩, x2.a, x2.n, x2.c, x2.ro⟩ := by simp [hR2, hlt]
      have hR3l : (R2.set i ⟨⟨D.fs[i].name, D.fs[i].b, D.fs[i].s + cutN keep i D.fs[i]⟩, x2.a, x2.n, x2.c, x2.ro⟩).length = R.length := by rw [List.length_set, hR2]
      generalize R2.set i ⟨⟨D.fs[i].name, D.fs[i].b, D.fs[i].s + cutN keep i D.fs[i]⟩, x2.a, x2.n, x2.c, x2.ro⟩ = R3 at d3 hx3 hR3l
      have c1 := d3.at_
      rw [hR3l] at c1
      obtain ⟨b', l3, hbb, hb3, hp3, hg3, _⟩ := d3.upd hx3
      obtain rfl : b = b' := by injection hbb with hbb; injection hbb
      have f1 := (hg3 1 (by omega)).1
      have f2 := (hg3 2 (by omega)).1
      simp only [RF.cells] at f1 f2
      have ok3 := d3.ok _ (List.mem_of_getElem? hx3)
      unfold RF.Ok at ok3
      simp only at ok3
      refine ADrawn.mk (h3) [25] (Sub.refl _) (by decide +kernel) ?_; conv => whnf
      refine ALoad.one rfl c1 rfl ?_; conv => whnf
      refine ALoad.one rfl c1 rfl ?_; conv => whnf
      refine AIdx.nat (z := 3) rfl hlt rfl rfl ?_; conv => whnf
      refine ALoad.one rfl hb3 (by rw [Nat.zero_add]; exact f1) ?_; conv => whnf
      refine ALoad.one rfl c1 rfl ?_; conv => whnf
      refine AIdx.nat (z := 3) rfl hlt rfl rfl ?_; conv => whnf
      refine ALoad.one rfl hb3 (by rw [Nat.zero_add]; exact f2) ?_; conv => whnf
      refine ASlc.upto (m := D.fs[i].s + cutN keep i D.fs[i]) rfl (by have := ok3.sl.le; omega) rfl rfl ?_; conv => whnf
      have sb : Sl h3 (o, x2.ro) x2.a (D.fs[i].s + cutN keep i D.fs[i]) x2.c 1 (bytesV (D.fs[i].b.take (D.fs[i].s + cutN keep i D.fs[i]))) := by
        have := ok3.sl.slice (l := 0) (m := D.fs[i].s + cutN keep i D.fs[i]) (x := x2.c) (by omega) (by omega) (by have := ok3.sl.le; omega)
        rw [slBase_zero] at this
        simpa [bytesV, List.map_take] using this
      refine ACalls.mono (copyB_any _ (o, x2.ro) sb (by omega)) ?_; rintro _ h4 ⟨na, nc, rfl, no, s4⟩; conv => whnf
      refine ⟨s4, ?_⟩; conv => whnf
      have d4 : Rd' h4 q o _ R3 rl (some ⟨b, 0, none⟩) lc ka kn kc := d3.move fun _ _ _ _ e => s4 _ _ e
      obtain ⟨b', l4, hbb, hb4, hp4, hg4, hu4⟩ := d4.upd hx3
      obtain rfl : b = b' := by injection hbb with hbb; injection hbb
      refine AIdx.nat (z := 3) rfl hlt rfl rfl ?_; conv => whnf
      refine AStore.one rfl rfl rfl hb4 (by rw [Nat.zero_add]; exact (hg4 1 (by omega)).2) ?_
      rw [Nat.zero_add]
      conv => whnf
      refine AArith.ok (by omega) (by omega) ((by omega : (i : Int) + 1 = ((i + 1 : Nat) : Int))) ?_; conv => whnf
      have kt4 := KeepT.set (y := .cells (l4.set (i * 3 + 1) (.slice na (D.fs[i].s + cutN keep i D.fs[i]) nc)).toArray 76 (0, 0)) hb4
      refine ⟨⟨(k3.trans (s4.keep o)).trans kt4.keep, (sk3.sub s4).keepT kt4 (hkt rl hrl), _, i + 1, updL_self ⟨rfl, rfl, rfl, trivial⟩, by omega, R3.set i ⟨cutF keep i D.fs[i], na, D.fs[i].s + cutN keep i D.fs[i], nc, x2.ro⟩, by rw [List.length_set, hR3l], ?_⟩, ?_⟩
      · refine hu4 1 _ ⟨cutF keep i D.fs[i], na, D.fs[i].s + cutN keep i D.fs[i], nc, x2.ro⟩ (by omega) rfl rfl no _ ?_ rfl rfl rfl
        simp only
        rw [List.set_set, cutTo_succ hltD]
      · show R.length - (i + 1) < R.length - i
        omega
    · refine ACmp.no (by omega) ?_; conv => whnf
      have hcn : cutN keep i D.fs[i] = 0 := by unfold cutN; rw [List.getElem?_eq_none (by omega)]
      refine ADrawn.mk (h2) [17] (Sub.refl _) (by decide +kernel) ?_; conv => whnf
      refine ALoad.one rfl b1 rfl ?_; conv => whnf
      refine ALoad.one rfl b1 rfl ?_; conv => whnf
      refine AIdx.nat (z := 3) rfl hlt rfl rfl ?_; conv => whnf
      refine ALoad.one rfl hb (by rw [Nat.zero_add]; exact g2) ?_; conv => whnf
      refine AArith.ok (by omega) (by omega) (r' := ((D.fs[i].s + cutN keep i D.fs[i] : Nat) : Int)) (by omega) ?_; conv => whnf
      refine AIdx.nat (z := 3) rfl hlt rfl rfl ?_; conv => whnf
      refine AStore.one rfl rfl rfl hb (by rw [Nat.zero_add]; exact hl2) ?_
      rw [Nat.zero_add]
      conv => whnf
      have d3 := hu 2 (I ((D.fs[i].s + cutN keep i D.fs[i] : Nat) : Int)) ⟨⟨D.fs[i].name, D.fs[i].b, D.fs[i].s + cutN keep i D.fs[i]⟩, x2.a, x2.n, x2.c, x2.ro⟩ (by omega) (by rw [hxs]; rfl) rfl
        (by have := d2.ok _ (List.mem_of_getElem? hx); unfold RF.Ok at this ⊢; rw [hxf] at this; exact this) { D with fs := (cutTo keep i D.fs).set i ⟨D.fs[i].name, D.fs[i].b, D.fs[i].s + cutN keep i D.fs[i]⟩ } rfl rfl rfl rfl
      have k3 := k2.trans (KeepT.set (y := .cells (l.set (i * 3 + 2) (I ((D.fs[i].s + cutN keep i D.fs[i] : Nat) : Int))).toArray 76 (0, 0)) hb).keep
      have sk3 := sk2.keepT (KeepT.set (y := .cells (l.set (i * 3 + 2) (I ((D.fs[i].s + cutN keep i D.fs[i] : Nat) : Int))).toArray 76 (0, 0)) hb) (hkt rl hrl)
      generalize h2.set b (row (o, rl) (l.set (i * 3 + 2) (I ((D.fs[i].s + cutN keep i D.fs[i] : Nat) : Int))) 76) = h3 at d3 k3 sk3 ⊢
      have hx3 : (R2.set i ⟨⟨D.fs[i].name, D.fs[i].b, D.fs[i].s + cutN keep i D.fs[i]⟩, x2.a, x2.n, x2.c, x2.ro⟩)[i]? = some ⟨⟨D.fs[i].name, D.fs[i].b, D.fs[i].s + cutN keep i D.fs[i]⟩, x2.a, x2.n, x2.c, x2.ro⟩ := by simp [hR2, hlt]
      have hR3l : (R2.set i ⟨⟨D.fs[i].name, D.fs[i].b, D.fs[i].s + cutN keep i D.fs[i]⟩, x2.a, x2.n, x2.c, x2.ro⟩).length = R.length := by rw [List.length_set, hR2]
      generalize R2.set i ⟨⟨D.fs[i].name, D.fs[i].b, D.fs[i].s + cutN keep i D.fs[i]⟩, x2.a, x2.n, x2.c, x2.ro⟩ = R3 at d3 hx3 hR3l
      have c1 := d3.at_
      rw [hR3l] at c1
      obtain ⟨b', l3, hbb, hb3, hp3, hg3, _⟩ := d3.upd hx3
      obtain rfl : b = b' := by injection hbb with hbb; injection hbb
      have f1 := (hg3 1 (by omega)).1
      have f2 := (hg3 2 (by omega)).1
      simp only [RF.cells] at f1 f2
      have ok3 := d3.ok _ (List.mem_of_getElem? hx3)
      unfold RF.Ok at ok3
      simp only at ok3
      refine ADrawn.mk (h3) [25] (Sub.refl _) (by decide +kernel) ?_; conv => whnf
      refine ALoad.one rfl c1 rfl ?_; conv => whnf
      refine ALoad.one rfl c1 rfl ?_; conv => whnf
      refine AIdx.nat (z := 3) rfl hlt rfl rfl ?_; conv => whnf
      refine ALoad.one rfl hb3 (by rw [Nat.zero_add]; exact f1) ?_; conv => whnf
      refine ALoad.one rfl c1 rfl ?_; conv => whnf
      refine AIdx.nat (z := 3) rfl hlt rfl rfl ?_; conv => whnf
      refine ALoad.one rfl hb3 (by rw [Nat.zero_add]; exact f2) ?_; conv => whnf
      refine ASlc.upto (m := D.fs[i].s + cutN keep i D.fs[i]) rfl (by have := ok3.sl.le; omega) rfl rfl ?_; conv => whnf
      have sb : Sl h3 (o, x2.ro) x2.a (D.fs[i].s + cutN keep i D.fs[i]) x2.c 1 (bytesV (D.fs[i].b.take (D.fs[i].s + cutN keep i D.fs[i]))) := by
        have := ok3.sl.slice (l := 0) (m := D.fs[i].s + cutN keep i D.fs[i]) (x := x2.c) (by omega) (by omega) (by have := ok3.sl.le; omega)
        rw [slBase_zero] at this
        simpa [bytesV, List.map_take] using this
      refine ACalls.mono (copyB_any _ (o, x2.ro) sb (by omega)) ?_; rintro _ h4 ⟨na, nc, rfl, no, s4⟩; conv => whnf
      refine ⟨s4, ?_⟩; conv => whnf
      have d4 : Rd' h4 q o _ R3 rl (some ⟨b, 0, none⟩) lc ka kn kc := d3.move fun _ _ _ _ e => s4 _ _ e
      obtain ⟨b', l4, hbb, hb4, hp4, hg4, hu4⟩ := d4.upd hx3
      obtain rfl : b = b' := by injection hbb with hbb; injection hbb
      refine AIdx.nat (z := 3) rfl hlt rfl rfl ?_; conv => whnf
      refine AStore.one rfl rfl rfl hb4 (by rw [Nat.zero_add]; exact (hg4 1 (by omega)).2) ?_
      rw [Nat.zero_add]
      conv => whnf
      refine AArith.ok (by omega) (by omega) ((by omega : (i : Int) + 1 = ((i + 1 : Nat) : Int))) ?_; conv => whnf
      have kt4 := KeepT.set (y := .cells (l4.set (i * 3 + 1) (.slice na (D.fs[i].s + cutN keep i D.fs[i]) nc)).toArray 76 (0, 0)) hb4
      refine ⟨⟨(k3.trans (s4.keep o)).trans kt4.keep, (sk3.sub s4).keepT kt4 (hkt rl hrl), _, i + 1, updL_self ⟨rfl, rfl, rfl, trivial⟩, by omega, R3.set i ⟨cutF keep i D.fs[i], na, D.fs[i].s + cutN keep i D.fs[i], nc, x2.ro⟩, by rw [List.length_set, hR3l], ?_⟩, ?_⟩
      · refine hu4 1 _ ⟨cutF keep i D.fs[i], na, D.fs[i].s + cutN keep i D.fs[i], nc, x2.ro⟩ (by omega) rfl rfl no _ ?_ rfl rfl rfl
        simp only
        rw [List.set_set, cutTo_succ hltD]
      · show R.length - (i + 1) < R.length - i
        omega
  · refine ACmp.no (by omega) ?_; conv => whnf
    obtain rfl : i = R.length := by omega
    refine AStore.one' rfl rfl rfl b1 rfl ?_; conv => whnf
    refine AStore.one' rfl rfl rfl (Heap.set_same _ _ _) rfl ?_; conv => whnf
    rw [Heap.set_set]
    have kt := KeepT.set (y := .cells [.slice la R.length lc, .bool true, I (-1), .slice ka kn kc].toArray 72 (0, 0)) b1
    refine ⟨rfl, ⟨R2, rl, la, lc, ka, kn, kc, d2.cells (D' := dcrash keep D) kt (by rw [hR2]; exact Heap.set_same _ _ _) (d2.keep.keepT kt (by simp)) ?_⟩, k2.trans kt.keep⟩
    simp only [dcrash]
    rw [hlen, cutTo_all]
end Go.Ah
