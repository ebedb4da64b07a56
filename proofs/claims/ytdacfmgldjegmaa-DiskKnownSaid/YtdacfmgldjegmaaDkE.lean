/- Walks of the disk's functions: begin, Append. -/
import Derived.Test.YtdacfmgldjegmaaDkD
namespace Go.Ah
open Go.Proofs
open Go.MapKept (IsKey Stamped)
set_option linter.unusedVariables false
set_option linter.unusedSimpArgs false
set_option maxRecDepth 20000

/-- A disk at a block. -/
def DA (h : Heap) (p o : Nat) (D : DD) : Prop := ∃ m es clock L, Dk h p o D m es clock L
theorem DA.sub {h h' : Heap} {p o : Nat} {D : DD} (d : DA h p o D) (k : Sub h h') : DA h' p o D := by
  obtain ⟨m, es, clock, L, d⟩ := d; exact ⟨m, es, clock, L, d.sub k⟩
theorem DA.keep {h h' : Heap} {p o q : Nat} {D : DD} (d : DA h p o D) (k : Keep q h h') (n : o ≠ q) : DA h' p o D := by
  obtain ⟨m, es, clock, L, d⟩ := d; exact ⟨m, es, clock, L, d.keep k n⟩

/-- The disk's own cells are others. -/
theorem Dk.cells {h : Heap} {p o m clock : Nat} {D D' : DD} {es : List MapEntry} {L : List (DF × Nat)} (d : Dk h p o D m es clock L) {left : Int} {ka : Option Addr} {kn kc : Nat} {h' : Heap} (k : KeepT (o, 0) h h')
    (hp : h' p = some (row (o, 0) [.map (some m), .bool D'.dead, .bool (decide (0 ≤ D'.arm)), I left, .slice ka kn kc] 61)) (hl : 0 ≤ D'.arm → left = D'.arm) (sk : Sl h' (o, 3) ka kn kc 1 (D'.keep.map I)) (hf : D'.fs = D.fs) : Dk h' p o D' m es clock L := by
  refine ⟨⟨left, ka, kn, kc, hp, hl, sk⟩, d.map.move fun x e => k.get (by simp) e, d.ents, fun x hx => ?_, d.nodup, hf ▸ d.perm⟩
  obtain ⟨a, n, c, f1, f2⟩ := (d.files x hx).at_
  exact ⟨a, n, c, k.get (by simp) f1, f2.keepT k (by simp)⟩

theorem begin_no {h : Heap} {p o m clock : Nat} {D : DD} {es : List MapEntry} {L : List (DF × Nat)} (d : Dk h p o D m es clock L) (g : Good D) (hg : (dgone D).1 = false) :
    ACalls PR 35 #[Ptr p] h (fun v h' => v = I 0 ∧ Dk h' p o (dgone D).2 m es clock L ∧ KeepT (o, 0) h h') := by
  obtain ⟨left, ka, kn, kc, a1, a2, a3⟩ := d.at_
  have ha := g.armed
  have hn0 : D.arm ≠ 0 := (gone_fs hg).2.2.2.1
  refine acalls_of mix Try.func35 rfl rfl Try.ntmps35 Try.results35 rfl ?_; conv => whnf
  by_cases hp : 0 ≤ D.arm
  · have hl := a2 hp
    rw [decide_eq_true hp] at a1
    have e : (dgone D).2 = { D with arm := D.arm - 1 } := by unfold dgone; rw [if_neg hn0, if_pos (by omega)]
    refine ALoad.one rfl a1 rfl ?_; conv => whnf
    refine ALoad.one rfl a1 rfl ?_; conv => whnf
    refine ACmp.yes (by omega) ?_; conv => whnf
    refine ALoad.one rfl a1 rfl ?_; conv => whnf
    refine AArith.ok (by omega) (by omega) (rfl) ?_; conv => whnf
    refine AStore.one' rfl rfl rfl a1 rfl ?_; conv => whnf
    have kt := KeepT.set (y := .cells [.map (some m), .bool D.dead, .bool true, I (left - 1), .slice ka kn kc].toArray 61 (0, 0)) a1
    refine ⟨rfl, ?_, kt⟩
    rw [e]
    refine d.cells (left := left - 1) (ka := ka) (kn := kn) (kc := kc) kt ?_ (fun _ => by simp only []; omega) (a3.keepT kt (by simp)) rfl
    have hd : decide (0 ≤ D.arm - 1) = true := decide_eq_true (by omega)
    simp only [hd]
    exact Heap.set_same _ _ _
  · rw [decide_eq_false hp] at a1
    have e : (dgone D).2 = D := by unfold dgone; rw [if_neg hn0, if_neg (by omega)]
    refine ALoad.one rfl a1 rfl ?_; conv => whnf
    refine ⟨rfl, ?_, KeepT.refl _ _⟩
    rw [e]; exact d
theorem begin_go {h : Heap} {p o m clock : Nat} {D : DD} {es : List MapEntry} {L : List (DF × Nat)} (ho : o ≠ 0) (d : Dk h p o D m es clock L) (g : Good D) (hg : (dgone D).1 = true) :
    ACalls PR 35 #[Ptr p] h (fun v h' => v = I 120 ∧ DA h' p o (dgone D).2 ∧ Keep o h h') := by
  obtain ⟨left, ka, kn, kc, a1, a2, a3⟩ := d.at_
  have h0 : D.arm = 0 := by
    unfold dgone at hg
    split at hg
    · assumption
    · cases hg
  have e : (dgone D).2 = dcrash D.keep D := by unfold dgone; rw [if_pos h0]
  have hl := a2 (by omega)
  rw [decide_eq_true (by omega : 0 ≤ D.arm)] at a1
  refine acalls_of mix Try.func35 rfl rfl Try.ntmps35 Try.results35 rfl ?_; conv => whnf
  refine ALoad.one rfl a1 rfl ?_; conv => whnf
  refine ALoad.one rfl a1 rfl ?_; conv => whnf
  refine ACmp.no (by omega) ?_; conv => whnf
  refine ALoad.one rfl a1 rfl ?_; conv => whnf
  refine ACalls.mono (cut_any ho d g a3 (.inr rfl)) ?_; rintro _ h' ⟨rfl, ⟨L', d'⟩, k⟩; conv => whnf
  refine ⟨rfl, ?_, k⟩
  rw [e]; exact ⟨_, _, _, _, d'⟩

theorem set_val_self {es : List MapEntry} {j : Nat} {e : MapEntry} {v : Value} (he : es[j]? = some e) (hv : e.val = v) : es.set j { e with val := v } = es := by
  subst hv
  apply List.ext_getElem?
  intro i
  rw [List.getElem?_set]
  split
  · rename_i hi; subst hi
    rw [if_pos (List.getElem?_eq_some_iff.1 he).1]; exact he.symm
  · rfl
theorem Dk.fresh {h : Heap} {p o m clock : Nat} {D : DD} {es : List MapEntry} {L : List (DF × Nat)} (d : Dk h p o D m es clock L) {b : Nat} (hb : h b = none) : ∀ x ∈ L, x.2 ≠ b := by
  intro x hx c
  obtain ⟨y, hy⟩ := (d.files x hx).blk
  rw [c, hb] at hy; cases hy

/-- a put of one that is there -/
theorem dput_set {fs : List DF} (hr : Rise fs) {f f' : DF} {j : Nat} (hj : fs[j]? = some f) (hn : f'.name = f.name) : (fs.set j f').Perm (dput f' fs) := by
  refine (set_perm f' hj).1.trans (List.Perm.trans (.cons _ ?_) (dput_perm f' fs).symm)
  rw [hn]
  have hm := List.mem_of_getElem? hj
  have h1 : fs.Perm (f :: fs.eraseIdx j) := (set_perm f' hj).2
  have h2 : (dout f.name fs).Perm (dout f.name (f :: fs.eraseIdx j)) := h1.filter _
  refine .trans ?_ h2.symm
  have h3 : dout f.name (f :: fs.eraseIdx j) = dout f.name (fs.eraseIdx j) := by simp [dout]
  rw [h3]
  have hne : ∀ x ∈ fs.eraseIdx j, x.name ≠ f.name := by
    intro x hx c
    have hnd := rise_nodup hr
    have h4 : (fs.map (·.name)).Perm (f.name :: (fs.eraseIdx j).map (·.name)) := by simpa using h1.map (·.name)
    have h5 := (h4.nodup_iff).1 hnd
    rw [List.nodup_cons] at h5
    exact h5.1 (List.mem_map.2 ⟨x, hx, c⟩)
  have : dout f.name (fs.eraseIdx j) = fs.eraseIdx j := by
    unfold dout
    rw [List.filter_eq_self]
    intro x hx; simpa using hne x hx
  rw [this]
theorem dput_perm_of {fs : List DF} {L1 : List DF} (hr : Rise fs) (hp : L1.Perm fs) {f f' : DF} {j : Nat} (hj : L1[j]? = some f) (hn : f'.name = f.name) : (L1.set j f').Perm (dput f' fs) := by
  obtain ⟨i, hi⟩ := List.getElem?_of_mem (hp.mem_iff.1 (List.mem_of_getElem? hj))
  exact (set_perm2 hp f' hj hi).trans (dput_set hr hi hn)

theorem oneCell_bytes (xs : List Int) : (bytesV xs).all oneCell = true := by
  simp [bytesV, oneCell]
theorem oneCell_ints (xs : List Int) : (xs.map I).all oneCell = true := by
  simp [oneCell]

set_option maxHeartbeats 4000000 in
theorem Append_any {h : Heap} {p o : Nat} {D : DD} (ho : o ≠ 0) (da : DA h p o D) (g : Good D) (n : Nm) (hnl : n.length ≤ 9223372036854775807) {tb : Tag} {ba : Option Addr} {bn bc : Nat} {b : List Int}
    (sb : Sl h tb ba bn bc 1 (bytesV b)) (hb : tb.1 ≠ o) (hbn : bn ≤ 140737488355328) :
    ACalls PR 12 #[Ptr p, S n, .slice ba bn bc] h (fun v h' => v = I (dappend D n b).1 ∧ DA h' p o (dappend D n b).2 ∧ Keep o h h') := by
  obtain ⟨m, es, clock, L, d⟩ := da
  have hbl : b.length = bn := by have := sb.len; simpa [bytesV] using this
  refine acalls_of mix Try.func12 rfl rfl Try.ntmps12 Try.results12 rfl ?_; conv => whnf
  cases hd : D.dead with
  | true =>
    have e : dappend D n b = (120, D) := by simp [dappend, hd]
    rw [e]
    refine ACalls.mono (find_dead d hd n) ?_; rintro _ _ ⟨rfl, rfl⟩; conv => whnf
    refine ACmp.no (by decide) ?_; conv => whnf
    refine ACmp.no (by decide) ?_; conv => whnf
    refine ACmp.no (by decide) ?_; conv => whnf
    refine ACmp.yes (by decide) ?_; conv => whnf
    exact ⟨rfl, ⟨_, _, _, _, d⟩, Keep.refl _ _⟩
  | false =>
  cases hf : dfind D.fs n with
  | none =>
    refine ACalls.mono (find_miss d hd hf) ?_; rintro _ _ ⟨rfl, rfl⟩; conv => whnf
    refine ACmp.yes (by decide) ?_; conv => whnf
    cases hnm : nmOk n with
    | false =>
      have e : dappend D n b = (121, D) := by simp [dappend, hd, hnm]
      rw [e]
      have cn := named_any n hnl h
      rw [hnm] at cn
      refine ACalls.mono (cn) ?_; rintro _ _ ⟨rfl, rfl⟩; conv => whnf
      exact ⟨rfl, ⟨_, _, _, _, d⟩, Keep.refl _ _⟩
    | true =>
    have cn := named_any n hnl h
    rw [hnm] at cn
    refine ACalls.mono (cn) ?_; rintro _ _ ⟨rfl, rfl⟩; conv => whnf
    refine ACmp.yes (by decide) ?_; conv => whnf
    obtain ⟨left, ka, kn, kc, a1, a2, a3⟩ := d.at_
    refine ALoad.one rfl a1 rfl ?_; conv => whnf
    refine ALenMap.len d.map ?_; conv => whnf
    have hlen := d.len
    have hlenf := d.lenfs
    by_cases h16 : D.fs.length = 16
    · have e : dappend D n b = (5, D) := by simp [dappend, hd, hnm, hf, h16]
      rw [e]
      refine ACmp.yes (by omega) ?_; conv => whnf
      exact ⟨rfl, ⟨_, _, _, _, d⟩, Keep.refl _ _⟩
    · refine ACmp.no (by omega) ?_; conv => whnf
      refine ACmp.yes (by decide) ?_; conv => whnf
      refine ABox.mk (o, 2) rfl fun fp ff => ?_; conv => whnf
      have s1 := ff.sub (row (o, 2) [.slice none 0 0, I 0] 66)
      have f1 := Heap.set_same h fp (row (o, 2) [.slice none 0 0, I 0] 66)
      have hfr := d.fresh ff.none
      have d1 := d.sub s1
      have sb1 := sb.sub s1
      generalize h.set fp (row (o, 2) [.slice none 0 0, I 0] 66) = h1 at s1 f1 d1 sb1 ⊢
      refine ALoad.one rfl f1 rfl ?_; conv => whnf
      refine AArith.ok (by omega) (by omega) (rfl) ?_; conv => whnf
      by_cases hlim : 262144 < b.length
      · have e : dappend D n b = (5, D) := by simp [dappend, hd, hnm, hf, hlim]
        rw [e]
        refine ACmp.yes (by omega) ?_; conv => whnf
        exact ⟨rfl, ⟨_, _, _, _, d1⟩, s1.keep o⟩
      · refine ACmp.no (by omega) ?_; conv => whnf
        cases hgo : (dgone D).1 with
        | true =>
          have e : dappend D n b = (120, (dgone D).2) := by simp [dappend, hd, hnm, hf, hlim, hgo, h16]
          rw [e]
          refine ACalls.mono (begin_go ho d1 g hgo) ?_; rintro _ h2 ⟨rfl, d2, k2⟩; conv => whnf
          refine ACmp.yes (by decide) ?_; conv => whnf
          exact ⟨rfl, d2, (s1.keep o).trans k2⟩
        | false =>
          have e : dappend D n b = (0, { (dgone D).2 with fs := dput ⟨n, b, 0⟩ D.fs }) := by simp [dappend, hd, hnm, hf, hlim, hgo, h16]
          rw [e]
          obtain ⟨gf, gd, gk, _, _⟩ := gone_fs hgo
          refine ACalls.mono (begin_no d1 g hgo) ?_; rintro _ h2 ⟨rfl, d2, k2⟩; conv => whnf
          refine ACmp.no (by decide) ?_; conv => whnf
          have f2 := k2.get (by simp) f1
          refine ALoad.one rfl f2 rfl ?_; conv => whnf
          refine AAppend.own (t := (o, 10 + fp)) (E := 5) (z := 1) (by_ := 1) (zero := [.int .u8 0]) (cs := []) rfl ⟨_, rfl⟩ rfl rfl rfl rfl (by omega) (.inl ⟨rfl, rfl, rfl⟩) (sb1.keepT k2 (fun c => hb (by rw [c]))) (oneCell_bytes _) (by omega) (by omega) fun a' c' h3 ho3 hk3 hs3 => ?_
          conv => whnf
          have s3 := hs3 rfl
          have f3 := s3 _ _ f2
          refine AStore.one' rfl rfl rfl f3 rfl ?_; conv => whnf
          have d3 := d2.sub s3
          have kf : KeepF o fp h3 (h3.set fp (row (o, 2) [.slice a' (0 + bn) c', I 0] 66)) := keepF_set
          have f4 := Heap.set_same h3 fp (row (o, 2) [.slice a' (0 + bn) c', I 0] 66)
          have ho4 := ho3.move (h' := h3.set fp (row (o, 2) [.slice a' (0 + bn) c', I 0] 66)) fun b x e => Heap.set_ne (fun c => by subst c; rw [f3] at e; exact tag2_10 e) e
          have d4 : Dk (h3.set fp (row (o, 2) [.slice a' (0 + bn) c', I 0] 66)) p o (dgone D).2 m es clock L := by
            obtain ⟨l4, xa, xn, xc, b1, b2, b3⟩ := d3.at_
            refine ⟨⟨l4, xa, xn, xc, kf.tag f3 (by simp) (by simp; omega) b1, b2, b3.move fun b x e => kf.tag f3 (by simp) (by simp; omega) e⟩, d3.map.move fun x e => kf.tag f3 (by simp) (by simp; omega) e, d3.ents, fun x hx => (d3.files x hx).other kf f3 (hfr x hx), d3.nodup, d3.perm⟩
          have F4 : FAt (h3.set fp (row (o, 2) [.slice a' (0 + bn) c', I 0] 66)) o fp ⟨n, b, 0⟩ := ⟨a', 0 + bn, c', f4, ho4⟩
          have k4 : Keep o h (h3.set fp (row (o, 2) [.slice a' (0 + bn) c', I 0] 66)) := ((s1.keep o).trans k2.keep).trans ((s3.keep o).trans (kf.keep f3 rfl))
          generalize h3.set fp (row (o, 2) [.slice a' (0 + bn) c', I 0] 66) = h4 at d4 F4 k4 ⊢
          obtain ⟨l4, xa, xn, xc, b1, b2, b3⟩ := d4.at_
          refine ALoad.one rfl b1 rfl ?_; conv => whnf
          refine AMapUpd.miss d4.map rfl Try.underlying9 trivial (d4.miss (by rw [gf]; exact hf)) fun m5 => ?_
          conv => whnf
          have kt : KeepT (o, 1) h4 (h4.set m ((o, 1), .map (es ++ [(⟨S n, Ptr fp, clock⟩ : MapEntry)]).toArray (clock + 1))) := KeepT.set d4.map.at_
          refine ⟨rfl, ⟨m, _, _, L ++ [(⟨n, b, 0⟩, fp)], ⟨⟨l4, xa, xn, xc, kt.get (by simp) b1, b2, b3.keepT kt (by simp)⟩, m5, ?_, ?_, ?_, ?_⟩⟩, k4.trans kt.keep⟩
          · rw [List.map_append, List.map_append, d4.ents]; rfl
          · intro x hx
            rcases List.mem_append.1 hx with hx | hx
            · obtain ⟨a, n', c, q1, q2⟩ := (d4.files x hx).at_
              exact ⟨a, n', c, kt.get (by simp) q1, q2.keepT kt (by simp; omega)⟩
            · simp only [List.mem_singleton] at hx; subst hx
              obtain ⟨a, n', c, q1, q2⟩ := F4.at_
              exact ⟨a, n', c, kt.get (by simp) q1, q2.keepT kt (by simp; omega)⟩
          · rw [List.map_append, List.nodup_append]
            refine ⟨d4.nodup, by simp, ?_⟩
            intro a ha b' hb' c
            obtain ⟨x, hx, rfl⟩ := List.mem_map.1 ha
            simp only [List.map_cons, List.map_nil, List.mem_singleton] at hb'
            exact hfr x hx (c.trans hb')
          · rw [List.map_append]
            have hp := d4.perm
            rw [gf] at hp
            refine (List.perm_append_comm).trans ?_
            show ((⟨n, b, 0⟩ : DF) :: L.map (·.1)).Perm (dput ⟨n, b, 0⟩ D.fs)
            refine (List.Perm.cons _ hp).trans ?_
            have := dput_perm ⟨n, b, 0⟩ D.fs
            rw [show dout (DF.mk n b 0).name D.fs = D.fs from dout_none hf] at this
            exact this.symm
  | some f =>
    obtain ⟨hfm, rfl⟩ := dfind_some hf
    obtain ⟨j, fp, en, hj, hej, hek, hev⟩ := d.hit hfm
    have hnm := g.names f hfm
    obtain ⟨fa, fn, fc, f1, fo⟩ := (d.files _ (List.mem_of_getElem? hj)).at_
    simp only at f1 fo
    have hfn : f.b.length = fn := by have := fo.sl.len; simpa [bytesV] using this
    have hfl := g.len f hfm
    refine ACalls.mono (find_hit d hd hj) ?_; rintro _ _ ⟨rfl, rfl⟩; conv => whnf
    refine ACmp.no (by decide) ?_; conv => whnf
    refine ACmp.no (by decide) ?_; conv => whnf
    refine ACmp.no (by decide) ?_; conv => whnf
    refine ACmp.no (by decide) ?_; conv => whnf
    refine ALoad.one rfl f1 rfl ?_; conv => whnf
    refine AArith.ok (by omega) (by omega) (rfl) ?_; conv => whnf
    by_cases hlim : 262144 < f.b.length + b.length
    · have e : dappend D f.name b = (5, D) := by simp [dappend, hd, hnm, hf, hlim]
      rw [e]
      refine ACmp.yes (by omega) ?_; conv => whnf
      exact ⟨rfl, ⟨_, _, _, _, d⟩, Keep.refl _ _⟩
    · refine ACmp.no (by omega) ?_; conv => whnf
      cases hgo : (dgone D).1 with
      | true =>
        have e : dappend D f.name b = (120, (dgone D).2) := by simp [dappend, hd, hnm, hf, hlim, hgo]
        rw [e]
        refine ACalls.mono (begin_go ho d g hgo) ?_; rintro _ h2 ⟨rfl, d2, k2⟩; conv => whnf
        refine ACmp.yes (by decide) ?_; conv => whnf
        exact ⟨rfl, d2, k2⟩
      | false =>
        have e : dappend D f.name b = (0, { (dgone D).2 with fs := dput ⟨f.name, f.b ++ b, f.s⟩ D.fs }) := by simp [dappend, hd, hnm, hf, hlim, hgo]
        rw [e]
        obtain ⟨gf, gd, gk, _, _⟩ := gone_fs hgo
        refine ACalls.mono (begin_no d g hgo) ?_; rintro _ h2 ⟨rfl, d2, k2⟩; conv => whnf
        refine ACmp.no (by decide) ?_; conv => whnf
        have f2 := k2.get (by simp) f1
        refine ALoad.one rfl f2 rfl ?_; conv => whnf
        refine AAppend.own (t := (o, 10 + fp)) (E := 5) (z := 1) (by_ := 1) (zero := [.int .u8 0]) rfl ⟨_, rfl⟩ rfl rfl rfl rfl (by omega) (fo.keepT k2 (by simp)) (sb.keepT k2 (fun c => hb (by rw [c]))) (oneCell_bytes _) (by omega) (by omega) fun a' c' h3 ho3 hk3 hs3 => ?_
        conv => whnf
        have f3 := hk3.get (by simp; omega) f2
        refine AStore.one' rfl rfl rfl f3 rfl ?_; conv => whnf
        have kf : KeepF o fp h2 (h3.set fp (row (o, 2) [.slice a' (fn + bn) c', I f.s] 66)) := hk3.keepF.trans keepF_set
        have f4 := Heap.set_same h3 fp (row (o, 2) [.slice a' (fn + bn) c', I f.s] 66)
        have ho4 := ho3.move (h' := h3.set fp (row (o, 2) [.slice a' (fn + bn) c', I f.s] 66)) fun b x e => Heap.set_ne (fun c => by subst c; rw [f3] at e; exact tag2_10 e) e
        have d4 := d2.upd (D' := { (dgone D).2 with fs := dput ⟨f.name, f.b ++ b, f.s⟩ D.fs }) (f' := ⟨f.name, f.b ++ b, f.s⟩) hj rfl kf ⟨a', fn + bn, c', f4, by simpa [bytesV] using ho4⟩
          (dput_perm_of g.rise (by have := d2.perm; rw [gf] at this; exact this) (f := f) (by simp [hj]) rfl) rfl rfl rfl
        have k4 : Keep o h (h3.set fp (row (o, 2) [.slice a' (fn + bn) c', I f.s] 66)) := k2.keep.trans (kf.keep f2 rfl)
        generalize h3.set fp (row (o, 2) [.slice a' (fn + bn) c', I f.s] 66) = h4 at d4 k4 ⊢
        obtain ⟨l4, xa, xn, xc, b1, b2, b3⟩ := d4.at_
        refine ALoad.one rfl b1 rfl ?_; conv => whnf
        refine AMapUpd.hit d4.map rfl Try.underlying9 hej hek ?_
        rw [set_val_self hej hev, Heap.set_self d4.map.at_]
        intro m5
        conv => whnf
        exact ⟨rfl, ⟨_, _, _, _, d4⟩, k4⟩
end Go.Ah
