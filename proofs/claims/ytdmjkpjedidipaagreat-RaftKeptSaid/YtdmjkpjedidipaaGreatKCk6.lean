/- Texts that the law leans on, one behind the other. -/
import Derived.Test.YtdmjkpjedidipaaGreatKCk5
namespace Go.Ah
open Go.Proofs
set_option linter.unusedVariables false
set_option linter.unusedSimpArgs false
set_option maxRecDepth 20000
theorem Ents.keeps {h h' : Heap} {t td : Tag} {os : List Nat} {a : Option Addr} {n c : Nat} {es : List EH} (X : Ents h t td a n c es) (k : Keeps os h h') (h1 : t.1 ∉ os) (h2 : td.1 ∉ os) : Ents h' t td a n c es :=
 ⟨X.sl.keeps k h1, fun e he => Sl.keeps (X.good e he) k h2, X.small⟩
set_option maxHeartbeats 16000000 in
theorem append_any {h : Heap} {p o oo : Nat} {c : CoreM} (ap : Apart o oo) (k : PCore h p o oo c) (lk : LogOk c) (x : PH) (g : Given h o oo x) (hx0 : 0 ≤ x.index) (hx1 : x.index ≤ 9007199254740991) (he : x.es.length ≤ 8) (hsm : ∀ e ∈ x.es, e.n ≤ 1200)
  (hroom : (c.log.es.length + 8) * 48 ≤ 140737488355328) (hoe : c.out.entries.length ≤ 1000000) (hp : c.out.posts.length ≤ 1000000000) :
  ACalls PR 138 #[Ptr p, .agg x.cells.toArray] h (fun v h' => v = .tuple #[] ∧ PCore h' p o oo (c.append x.abs) ∧ Keeps [o, o + 1, oo] h h') := by
 obtain ⟨cx, k⟩ := k
 have hlo := lk.lo.lo
 have htop := lk.lo.top
 have hlast := lk.lo.last
 obtain ⟨⟨t1, t2, t3, ok, tn1, tn2, tn3⟩, hby, _, _, hn1⟩ := g
 have hxl : x.es.length = x.e.n := ok.len.1
 rw [CoreM.append_eq]
 refine acalls_of mix Tryz.func138 rfl rfl Tryz.ntmps138 Tryz.results138 rfl ?_; conv=>whnf
 refine ABox.mkN (0, 1) ([Ptr p]) rfl fun b2 h1 n1 s1 k1 => ?_; conv=>whnf
 refine ABox.mkN (0, 1) (x.cells) rfl fun b3 h2 n2 s2 k3 => ?_; conv=>whnf
 have k2 := s2 _ _ k1
 have q := k.sub (s1.trans s2)
 have X2 := ok.es.sub (s1.trans s2)
 have s12 := s1.trans s2
 clear s1 s2 k1 n1 n2
 obtain ⟨stop, hstop⟩ : ∃ stop : Int, stop = x.index + x.e.n := ⟨_, rfl⟩
 refine ALoad.one rfl k3 rfl ?_; conv=>whnf
 refine ALoad.one rfl k3 rfl ?_; conv=>whnf
 refine AArith.ok (by omega) (by omega) (rfl) ?_; conv=>whnf
 rw [← hstop]
 refine ADrawn.mk (h2) [] (Sub.refl _) (by decide +kernel) ?_; conv=>whnf
 refine ALoad.one rfl k3 rfl ?_; conv=>whnf
 refine ALoad.one rfl k3 rfl ?_; conv=>whnf
 refine ALoad.one rfl k3 rfl ?_; conv=>whnf
 refine ALoad.one rfl k2 rfl ?_; conv=>whnf
 refine ALoad.one rfl q.str rfl ?_; conv=>whnf
 refine ACalls.mono (First_c q.log lk.lo) ?_; rintro _ _ ⟨rfl, rfl⟩; conv=>whnf
 refine AArith.ok (r' := c.log.bi) (by omega) (by omega) (by omega) ?_; conv=>whnf
 have ne0 : ∀ {r : Nat} {b : Nat}, (0 : Nat) ∉ [o, o + 1, oo] := by have := ap.c; have := ap.d; simp; omega
 by_cases c1 : x.index < c.log.bi
 ·refine ACmp.yes (c1) ?_; conv=>whnf
  rw [show aIndex c x.abs = c.log.bi from if_pos c1, show aTerm c x.abs = c.log.bt from if_pos c1, show aList c x.abs = (x.es.map EH.abs).drop (c.log.bi - x.index).toNat from if_pos c1]
  obtain ⟨kd, hkd⟩ : ∃ kd : Nat, kd = if (c.log.bi - x.index).toNat < x.e.n then (c.log.bi - x.index).toNat else x.e.n := ⟨_, rfl⟩
  have hkd1 : kd ≤ x.e.n := by rw [hkd]; split <;> omega
  have hdrop : (x.es.map EH.abs).drop (c.log.bi - x.index).toNat = (x.es.drop kd).map EH.abs := by
   rw [← List.map_drop, hkd]
   split
   ·rfl
   ·rw [List.drop_of_length_le (by omega), List.drop_of_length_le (by omega)]
  rw [hdrop]
  refine AArith.ok (by omega) (by omega) (rfl) ?_; conv=>whnf
  refine AInt.as (show _ = (kd : Int) from ?_) ?_
  ·rw [hkd]; split <;> split <;> omega
  conv=>whnf
  refine ASlc.from (z := 4) (l := kd) rfl hkd1 X2.sl.le rfl rfl ?_; conv=>whnf
  refine ALoad.one rfl k2 rfl ?_; conv=>whnf
  refine ALoad.one rfl q.str rfl ?_; conv=>whnf
  refine ACalls.mono (Term_c q.log lk.lo c.log.bi) ?_; rintro _ _ ⟨rfl, rfl⟩; conv=>whnf
  rw [show (c.log.term c.log.bi).1 = c.log.bt by unfold LG.term; rw [if_pos rfl]]
  have XL := X2.from hkd1
  have hls : ∀ e ∈ x.es.drop kd, e.n ≤ 1200 := fun e he => hsm e (List.mem_of_mem_drop he)
  have hll : (x.es.drop kd).length = x.e.n - kd := by rw [List.length_drop]; omega
  obtain ⟨la, hla⟩ : ∃ la, la = slBase x.e.a kd x.e.c 4 := ⟨_, rfl⟩
  rw [← hla] at XL ⊢
  refine ALoad.one rfl k2 rfl ?_; conv=>whnf
  refine ALoad.one rfl q.str rfl ?_; conv=>whnf
  have hcall : ACalls PR 122 #[Ptr cx.log, I c.log.bi, I c.log.bt] h2 (fun v h' => v = .bool (c.has c.log.bi c.log.bt) ∧ h2 = h') := Has_c q.log lk.lo c.log.bi c.log.bt
  by_cases hh : c.has c.log.bi c.log.bt = true
  ·rw [hh] at hcall
   refine ACalls.mono (hcall) ?_; rintro _ _ ⟨rfl, rfl⟩; conv=>whnf
   by_cases hln : (x.e.n - kd) = 0
   ·refine ACmp.no ((by omega)) ?_; conv=>whnf
    rw [if_neg (by rw [hh, List.length_eq_zero_iff.1 (by omega : (x.es.drop kd).length = 0)]; simp [headLow])]
    have A : AsksE 180 [Ptr b2] (x.es.drop kd) (fun e => !c.has e.index e.term) h2 := by
     intro e he h' s
     refine acalls_pure (acalls_of mix Tryz.func180 rfl rfl Tryz.ntmps180 Tryz.results180 rfl ?_); conv=>whnf
     refine ABox.mkN (0, 1) (e.cells) rfl fun b5 h5 n5 s5 k5 => ?_; conv=>whnf
     refine ADrawn.mk (h5) [] (Sub.refl _) (by decide +kernel) ?_; conv=>whnf
     refine ALoad.one rfl (s5 _ _ (s _ _ k2)) rfl ?_; conv=>whnf
     refine ALoad.one rfl (s5 _ _ (s _ _ q.str)) rfl ?_; conv=>whnf
     refine ALoad.one rfl k5 rfl ?_; conv=>whnf
     refine ALoad.one rfl k5 rfl ?_; conv=>whnf
     refine ACalls.mono (Has_c (q.sub (s.trans s5)).log lk.lo e.index e.term) ?_; rintro _ _ ⟨rfl, rfl⟩; conv=>whnf
     refine ⟨Sub.refl _, ?_⟩; conv=>whnf
     exact ⟨rfl, s5⟩
    refine ACalls.mono (IndexFuncE_any A XL (by omega)) ?_
    rintro _ _ ⟨⟨kf, hkf, hpf, ⟨hkn, rfl, e0, he0, hP⟩ | ⟨hkn, rfl⟩⟩, rfl⟩
    ·conv=>whnf
     refine ACmp.yes ((by omega)) ?_; conv=>whnf
     have hfr : c.log.fresh ((x.es.drop kd).map EH.abs) = ((x.es.drop kd).map EH.abs).drop kf := fresh_of (fun j e hj hje => by
       rw [List.getElem?_map] at hje
       cases hz : (x.es.drop kd)[j]? with
       | none => rw [hz] at hje; cases hje
       | some z =>
        rw [hz] at hje; cases hje
        have := hpf j z hj hz
        show c.has z.index z.term = true
        simpa using this) (.inr ⟨e0.abs, by rw [List.getElem?_map, he0]; rfl, by show c.has e0.index e0.term = false; simpa using hP⟩)
     refine ASlc.from (z := 4) (l := kf) rfl (by omega) XL.sl.le rfl rfl ?_; conv=>whnf
     have XF := XL.from (l := kf) (by omega)
     generalize slBase la kf (x.e.c - kd) 4 = fa at XF ⊢
     obtain ⟨fn, hfn⟩ : ∃ fn, fn = (x.e.n - kd) - kf := ⟨_, rfl⟩
     obtain ⟨fc, hfc⟩ : ∃ fc, fc = (x.e.c - kd) - kf := ⟨_, rfl⟩
     obtain ⟨fes, hfes⟩ : ∃ fes, fes = (x.es.drop kd).drop kf := ⟨_, rfl⟩
     rw [← hfn, ← hfc, ← hfes] at XF
     rw [← hfn, ← hfc]
     have hfl : fes.length = fn := XF.len
     have hfs : ∀ y ∈ fes, y.n ≤ 1200 := fun y hy => hls y (by rw [hfes] at hy; exact List.mem_of_mem_drop hy)
     have he0' : fes[0]? = some e0 := by rw [hfes, List.getElem?_drop, Nat.add_zero]; exact he0
     obtain ⟨fr, hfr2⟩ : ∃ r, fes = e0 :: r := by
      cases fes with
      | nil => simp at he0'
      | cons z r => simp at he0'; exact ⟨r, by rw [he0']⟩
     have hfr3 : c.log.fresh ((x.es.drop kd).map EH.abs) = e0.abs :: fr.map EH.abs := by rw [hfr, ← List.map_drop, ← hfes, hfr2]; rfl
     have hfr4 : fes.map EH.abs = e0.abs :: fr.map EH.abs := by rw [hfr2]; rfl
     refine ALoad.one rfl k2 rfl ?_; conv=>whnf
     refine ALoad.one rfl q.str rfl ?_; conv=>whnf
     refine ACalls.mono (Last_c q.log lk.lo) ?_; rintro _ _ ⟨rfl, rfl⟩; conv=>whnf
     obtain ⟨bg, og, lg, Eg, fzg, ega, hbg, hcg⟩ := XF.sl.pos (by omega)
     have gi : lg[og + 0 * 4 + 1]? = some (I e0.index) := by
      rw [Nat.add_assoc, get_of_take hcg (by omega), encs_get he0' (by omega)]; rfl
     have ega' := ega
     subst ega
     refine AIdx.nat (n := fn) (z := 4) (j := 0) rfl (by omega) rfl rfl ?_; conv=>whnf
     refine ALoad.one rfl hbg gi ?_; conv=>whnf
     have hcut : c.cutAt e0.abs = if e0.index ≤ c.log.last.1 then { c with log := (c.log.cut e0.index).2, out := { c.out with cut := e0.index } } else c := rfl
     by_cases cl : e0.index ≤ c.log.last.1
     ·refine ACmp.yes (cl) ?_; conv=>whnf
      rw [if_pos cl] at hcut
      refine ADrawn.mk (h2) [8] (Sub.refl _) (by decide +kernel) ?_; conv=>whnf
      refine ALoad.one rfl k2 rfl ?_; conv=>whnf
      refine ALoad.one rfl q.str rfl ?_; conv=>whnf
      refine AIdx.nat (n := fn) (z := 4) (j := 0) rfl (by omega) rfl rfl ?_; conv=>whnf
      refine ALoad.one rfl hbg gi ?_; conv=>whnf
      refine ACalls.mono (Cut_c q.log lk.lo e0.index) ?_; rintro _ h3 ⟨rfl, l3, kk3⟩; conv=>whnf
      have k23 := kk3.get (by simp) k2
      have k33 := kk3.get (by simp) k3
      have q3 := kk3.get (by simp) q.str
      have hbg3 := kk3.get (fun c => tn1 (by rw [c]; simp)) hbg
      refine ADrawn.mk (h3) [8] (Sub.refl _) (by decide +kernel) ?_; conv=>whnf
      refine ALoad.one rfl k23 rfl ?_; conv=>whnf
      refine AIdx.nat (n := fn) (z := 4) (j := 0) rfl (by omega) rfl rfl ?_; conv=>whnf
      refine ALoad.one rfl hbg3 gi ?_; conv=>whnf
      refine AStore.oneN rfl rfl rfl (q3) rfl (coreCells { c with log := (c.log.cut e0.index).2, out := { c.out with cut := e0.index } } cx) rfl fun h4 t4 k4 a4 e4 => ?_; conv=>whnf
      have q4 : CoreX 81 LA h4 p o oo { c with log := (c.log.cut e0.index).2, out := { c.out with cut := e0.index } } cx := ⟨k4, (q.sd.move fun b y e => kk3.get (by simp) e).keepT t4 (by simp), KeepT.log l3 t4, (q.rd.move fun b y e => kk3.get (by simp) e).keepT t4 (by simp), by
       have z := (q.out.move fun b t y ht e => kk3 _ _ _ (by rw [ht]; exact ap.b.symm) e : OutOk h3 oo c.out cx.ox).keepT ap.a t4
       exact ⟨z.od, z.oe, z.ed, z.ea, z.es, z.op, z.ps, z.pa, z.qr⟩⟩
      obtain ⟨DCv, hDC⟩ : ∃ D : CoreM, D = { c with log := (c.log.cut e0.index).2, out := { c.out with cut := e0.index } } := ⟨_, rfl⟩
      rw [← hDC] at q4 hcut
      have KK4 : Keeps [o, o + 1, oo] h h4 := (s12.keeps _).trans ((kk3.keeps (by simp)).trans (t4.keep.keeps (by simp)))
      have K24 := t4.get (tag_ne ap.c) k23
      have K34 := t4.get (tag_ne ap.c) k33
      have XF4 := XF.keeps (((kk3.keeps (by simp) : Keeps [o, o + 1, oo] h2 h3)).trans (t4.keep.keeps (by simp))) tn1 tn2
      have lk4 : LOk DCv.log := by rw [hDC]; exact lk.lo.cut _
      have hcl : DCv.log.es.length ≤ c.log.es.length := by
       rw [hDC]; simp only [LG.cut]; split
       ·simp only [List.length_take]; omega
       ·exact Nat.le_refl _
      have hpc : DCv.out.posts.length ≤ 1000000000 := by rw [hDC]; exact hp
      have hec : DCv.out.entries.length ≤ 1000000 := by rw [hDC]; exact hoe
      have hrc : c.appendRest ((x.es.drop kd).map EH.abs) = { ({ DCv with log := (DCv.log.append (fes.map EH.abs)).2 } : CoreM) with out := { ({ DCv with log := (DCv.log.append (fes.map EH.abs)).2 } : CoreM).out with entries := ({ DCv with log := (DCv.log.append (fes.map EH.abs)).2 } : CoreM).out.entries ++ fes.map EH.abs } } := by
       rw [appendRest_cons hfr3, hcut, hfr4]
      obtain ⟨fa, hfa⟩ : ∃ fa : Option Addr, fa = some ⟨bg, og, none⟩ := ⟨_, rfl⟩
      rw [← hfa] at XF4 ⊢
      have lkD : LOk DCv.log := lk4
      refine ALoad.one rfl K24 rfl ?_; conv=>whnf
      refine ALoad.one rfl q4.str rfl ?_; conv=>whnf
      have hfn8 : fn ≤ 8 := by omega
      refine ACalls.mono (Append_c (by omega : o + 1 ≠ 0) q4.log lkD (t := t1) (td := t2) (fun c => tn1 (by rw [c]; simp)) (fun c => tn2 (by rw [c]; simp)) XF4 (by omega)) ?_; rintro _ h5 ⟨rfl, l5, kk5⟩; conv=>whnf
      have k25 := kk5.get (by simp) K24
      have k35 := kk5.get (by simp) K34
      have q5' := kk5.get (by simp) q4.str
      obtain ⟨d2, hd2⟩ : ∃ d2 : CoreM, d2 = { DCv with log := (DCv.log.append (fes.map EH.abs)).2 } := ⟨_, rfl⟩
      have q5 : CoreX 81 LA h5 p o oo d2 cx := by
       rw [hd2]
       exact ⟨q5', q4.sd.move fun b y e => kk5.get (by simp) e, l5, q4.rd.move fun b y e => kk5.get (by simp) e, q4.out.move fun b t y ht e => kk5 _ _ _ (by rw [ht]; exact ap.b.symm) e⟩
      have KK5 : Keeps [o, o + 1, oo] h h5 := KK4.trans (kk5.keeps (by simp))
      have X5 := XF4.keeps (kk5.keeps (by simp) : Keeps [o, o + 1, oo] _ h5) tn1 tn2
      have ho2 : d2.out = DCv.out := by rw [hd2]
      refine ALoop.mk (fun e h' => ∃ e0, ∃ j : Nat, ∃ cj : CX, e = updL 184 e0 [(2, Ptr b2), (3, Ptr b3), (4, I stop), (141, .slice fa fn fc), (142, I fn), (143, I j)] ∧ j ≤ fn ∧
        CoreX 81 LA h' p o oo { d2 with out := { d2.out with entries := d2.out.entries ++ (fes.take j).map EH.abs } } cj ∧ Keeps [o, o + 1, oo] h h' ∧ h' b2 = some (row (0, 1) [Ptr p] 27) ∧ h' b3 = some (row (0, 1) x.cells 49) ∧ Ents h' t1 t2 fa fn fc fes) (fun e => fn - natOf (e 143))
       ⟨_, 0, cx, updL_self ⟨rfl, rfl, rfl, rfl, rfl, rfl, trivial⟩, by omega, by rw [List.take_zero, List.map_nil, List.append_nil]; exact q5, KK5, k25, k35, X5⟩ ?_
      rintro e h6 ⟨e0, j, cj, rfl, hj, q6, KK6, k26, k36, X6⟩
      conv=>whnf
      by_cases hjn : j < fn
      ·refine ACmp.yes (by omega) ?_; conv=>whnf
       obtain ⟨y, hy⟩ : ∃ y, fes[j]? = some y := ⟨fes[j]'(by omega), by simp⟩
       have my := List.mem_of_getElem? hy
       have hyn : y.n ≤ 1200 := hfs y my
       obtain ⟨bf, off, lf, Ef, fzf, efa, hbf, hcf⟩ := X6.sl.pos (by omega)
       have g0 : (lf.drop (off + j * 4)).take 4 = y.cells := by rw [part_of_take hcf (by omega), encs_part hy]
       subst efa
       refine AIdx.nat (z := 4) (j := j) rfl hjn rfl rfl ?_; conv=>whnf
       refine ALoad.agg rfl hbf g0 rfl ?_; conv=>whnf
       refine AAlloc.mkN (0, 1) (entry0z) rfl fun b16 h7 n7 s7 k7 => ?_; conv=>whnf
       refine AStore.aggN rfl rfl rfl (k7) rfl (y.cells) rfl fun h8 t8 k8 a8 e8 => ?_; conv=>whnf
       have s68 : Sub h6 h8 := a8 h6 s7 n7
       refine ALoad.one rfl k8 rfl ?_; conv=>whnf
       refine ACalls.mono (cloneB_any h8 (oo, 2) (Sl.sub (X6.good y my) s68) (by omega)) ?_
       rintro v h9 ⟨a', c', rfl, ow9, s9⟩
       conv=>whnf
       refine AStore.oneN rfl rfl rfl ((s9 _ _ k8)) rfl ([I y.term, I y.index, I y.kind, .slice a' y.n c']) rfl fun h10 t10 k10 a10 e10 => ?_; conv=>whnf
       have s610 : Sub h6 h10 := a10 h6 (s68.trans s9) n7
       have ow10 := ow9.keepT t10 (fun c => ap.d (congrArg Prod.fst c))
       obtain ⟨en, hen⟩ : ∃ en : EH, en = ⟨y.term, y.index, y.kind, a', y.n, c', y.data⟩ := ⟨_, rfl⟩
       have hea : en.abs = y.abs := by rw [hen]; rfl
       have hnn : en.n ≤ 1200 := by rw [hen]; exact hyn
       rw [show [I y.term, I y.index, I y.kind, Value.slice a' y.n c'] = en.cells by rw [hen]; rfl] at k10
       have m10 : en.Mine h10 (oo, 2) := by rw [hen]; exact ow10
       have q10 := q6.sub s610
       have k210 := s610 _ _ k26
       have k310 := s610 _ _ k36
       have hel2 : cj.ox.es.length = (DCv.out.entries ++ (fes.take j).map EH.abs).length := by
        have e : cj.ox.es.map EH.abs = d2.out.entries ++ (fes.take j).map EH.abs := q6.out.ea
        rw [← ho2, ← e, List.length_map]
       have hel : cj.ox.es.length = cj.ox.oe.n := by
        have := q6.out.oe.sl.len
        rw [encs_length] at this; omega
       have hel3 : cj.ox.oe.n ≤ 1000008 := by
        rw [← hel, hel2, List.length_append, List.length_map, List.length_take]; omega
       clear t8 a8 e8 k7 n7 s7 t10 a10 e10 k8
       refine ADrawn.mk ((few h10 [b2, p, b16])) [12] (few_sub _ _) (by decide +kernel) ?_; conv=>whnf
       refine ALoad.one rfl ((few_at (by simp)).trans k210) rfl ?_; conv=>whnf
       refine ALoad.one rfl ((few_at (by simp)).trans k210) rfl ?_; conv=>whnf
       refine ALoad.one rfl ((few_at (by simp)).trans q10.str) rfl ?_; conv=>whnf
       refine ALoad.agg rfl ((few_at (by simp)).trans k10) rfl rfl ?_; conv=>whnf
       refine ABuildSl.mkN (0, 1) en.cells rfl rfl rfl rfl rfl rfl (by rw [hen]; rfl) fun b17 h11 n11 s11 k11 => ?_; conv=>whnf
       refine ⟨(few_sub _ _).trans s11, ?_⟩; conv=>whnf
       refine AAppend.own (t := (oo, 1)) (E := 59) (z := 4) (by_ := 48) (zero := entry0z) (tx := (0, 1)) (xs := en.cells) rfl ⟨_, rfl⟩ rfl rfl rfl rfl (by omega) (q10.out.oe.move fun _ _ e => s11 _ _ e)
        ⟨rfl, Nat.le_refl _, .inr ⟨b17, 0, _, _, _, rfl, k11, rfl⟩⟩ (by rw [hen]; rfl) (by omega) (by omega) fun a12 c12 h12 ow12 t12 _ => ?_
       conv=>whnf
       have p12 := t12.get (u := (o, 0)) (fun c => ap.a (congrArg Prod.fst c)) (s11 _ _ q10.str)
       have e12 := t12.get (u := (0, 1)) (fun c => ap.d (congrArg Prod.fst c).symm) (s11 _ _ k10)
       have k212 := t12.get (u := (0, 1)) (fun c => ap.d (congrArg Prod.fst c).symm) (s11 _ _ k210)
       have k312 := t12.get (u := (0, 1)) (fun c => ap.d (congrArg Prod.fst c).symm) (s11 _ _ k310)
       refine ⟨few_get fun z hz w hw => ?_, ?_⟩
       ·simp only [List.mem_cons, List.not_mem_nil, or_false] at hz
        rcases hz with rfl | rfl | rfl
        ·rw [k210] at hw; cases hw; exact k212
        ·rw [q10.str] at hw; cases hw; exact p12
        ·rw [k10] at hw; cases hw; exact e12
       conv=>whnf
       refine AStore.oneN rfl rfl rfl (p12) rfl (coreCells { ({ d2 with out := { d2.out with entries := d2.out.entries ++ (fes.take j).map EH.abs } } : CoreM) with out := { ({ d2 with out := { d2.out with entries := d2.out.entries ++ (fes.take j).map EH.abs } } : CoreM).out with entries := ({ d2 with out := { d2.out with entries := d2.out.entries ++ (fes.take j).map EH.abs } } : CoreM).out.entries ++ [en.abs] } } { cj with ox := { cj.ox with oe := ⟨a12, cj.ox.oe.n + 1, c12⟩, es := cj.ox.es ++ [en] } }) rfl fun h13 t13 k13 a13 e13 => ?_; conv=>whnf
       have q13 := CoreX.pushE ap (q10.sub s11) t12 ow12 (Own.sub m10 s11) hnn t13 k13
       have KK13 : Keeps [o, o + 1, oo] h6 h13 := ((s610.trans s11).keeps _).trans ((t12.keep.keeps (by simp)).trans (t13.keep.keeps (by simp)))
       have hsucc : d2.out.entries ++ (fes.take j).map EH.abs ++ [en.abs] = d2.out.entries ++ (fes.take (j + 1)).map EH.abs := by
        rw [List.take_succ_eq_append_getElem (show j < fes.length by omega), (List.getElem?_eq_some_iff.1 hy).2, List.map_append, List.append_assoc, hea]; rfl
       simp only [hsucc] at q13
       refine AArith.ok (by omega) (by omega) ((by omega : (j : Int) + 1 = ((j + 1 : Nat) : Int))) ?_; conv=>whnf
       refine ⟨⟨_, j + 1, _, updL_self ⟨rfl, rfl, rfl, rfl, rfl, rfl, trivial⟩, by omega, q13, KK6.trans KK13, t13.get (tag_ne ap.c) k212, t13.get (tag_ne ap.c) k312, X6.keeps KK13 tn1 tn2⟩, ?_⟩
       show fn - (j + 1) < fn - j
       omega
      ·refine ACmp.no (by omega) ?_; conv=>whnf
       obtain rfl : j = fn := by omega
       rw [List.take_of_length_le (by omega)] at q6
       obtain ⟨DDv, hDD⟩ : ∃ D : CoreM, D = { d2 with out := { d2.out with entries := d2.out.entries ++ fes.map EH.abs } } := ⟨_, rfl⟩
       rw [← hDD] at q6
       have HR : c.appendRest ((x.es.drop kd).map EH.abs) = DDv := by rw [hDD, hd2]; exact hrc
       have hpp : DDv.out.posts.length ≤ 1000000000 := by rw [hDD, hd2]; exact hpc
       refine ADrawn.mk (h6) [12] (Sub.refl _) (by decide +kernel) ?_; conv=>whnf
       refine ALoad.one rfl k26 rfl ?_; conv=>whnf
       refine ALoad.one rfl k26 rfl ?_; conv=>whnf
       refine ALoad.one rfl q6.str rfl ?_; conv=>whnf
       refine ALoad.one rfl k36 rfl ?_; conv=>whnf
       refine AInt.as (rfl) ?_; conv=>whnf
       refine AInt.as (rfl) ?_; conv=>whnf
       refine AStore.oneN rfl rfl rfl (q6.str) rfl (coreCells { DDv with commit := if DDv.commit < (if stop < x.commit then stop else x.commit) then (if stop < x.commit then stop else x.commit) else DDv.commit } cj) rfl fun hY tY kY aY eY => ?_; conv=>whnf
       have qY := q6.set' ap.a tY kY
       have kY2 := tY.get (tag_ne ap.c) k26
       have kY3 := tY.get (tag_ne ap.c) k36
       refine ALoad.one rfl kY2 rfl ?_; conv=>whnf
       refine ALoad.one rfl kY3 rfl ?_; conv=>whnf
       refine ALoad.one rfl kY3 rfl ?_; conv=>whnf
       refine ACalls.mono (say_any ap.a ap.b ap.c ap.d ⟨_, qY⟩ x.src { post1 with kind := 4, ok := true, index := stop, hint := x.hint } (made0 rfl rfl rfl rfl) hpp) ?_; rintro _ hZ ⟨rfl, kZ, kkZ⟩; conv=>whnf
       refine ⟨rfl, ?_, KK6.trans ((tY.keep.keeps (by simp)).trans (kkZ.mono (by simp)))⟩
       have hst : x.abs.index + (x.abs.entries.length : Int) = stop := by rw [hstop, ← hxl]; simp [PH.abs]
       unfold CoreM.appendOk
       rw [HR]
       simp only [hst]
       exact kZ
     ·refine ACmp.no (cl) ?_; conv=>whnf
      rw [if_neg cl] at hcut
      have hrc : c.appendRest ((x.es.drop kd).map EH.abs) = { ({ c with log := (c.log.append (fes.map EH.abs)).2 } : CoreM) with out := { ({ c with log := (c.log.append (fes.map EH.abs)).2 } : CoreM).out with entries := ({ c with log := (c.log.append (fes.map EH.abs)).2 } : CoreM).out.entries ++ fes.map EH.abs } } := by
       rw [appendRest_cons hfr3, hcut, hfr4]
      have KK2 : Keeps [o, o + 1, oo] h h2 := s12.keeps _
      obtain ⟨fa, hfa⟩ : ∃ fa : Option Addr, fa = some ⟨bg, og, none⟩ := ⟨_, rfl⟩
      rw [← hfa] at XF ⊢
      have lkD : LOk c.log := lk.lo
      refine ALoad.one rfl k2 rfl ?_; conv=>whnf
      refine ALoad.one rfl q.str rfl ?_; conv=>whnf
      have hfn8 : fn ≤ 8 := by omega
      refine ACalls.mono (Append_c (by omega : o + 1 ≠ 0) q.log lkD (t := t1) (td := t2) (fun c => tn1 (by rw [c]; simp)) (fun c => tn2 (by rw [c]; simp)) XF (by omega)) ?_; rintro _ h5 ⟨rfl, l5, kk5⟩; conv=>whnf
      have k25 := kk5.get (by simp) k2
      have k35 := kk5.get (by simp) k3
      have q5' := kk5.get (by simp) q.str
      obtain ⟨d2, hd2⟩ : ∃ d2 : CoreM, d2 = { c with log := (c.log.append (fes.map EH.abs)).2 } := ⟨_, rfl⟩
      have q5 : CoreX 81 LA h5 p o oo d2 cx := by
       rw [hd2]
       exact ⟨q5', q.sd.move fun b y e => kk5.get (by simp) e, l5, q.rd.move fun b y e => kk5.get (by simp) e, q.out.move fun b t y ht e => kk5 _ _ _ (by rw [ht]; exact ap.b.symm) e⟩
      have KK5 : Keeps [o, o + 1, oo] h h5 := KK2.trans (kk5.keeps (by simp))
      have X5 := XF.keeps (kk5.keeps (by simp) : Keeps [o, o + 1, oo] _ h5) tn1 tn2
      have ho2 : d2.out = c.out := by rw [hd2]
      refine ALoop.mk (fun e h' => ∃ e0, ∃ j : Nat, ∃ cj : CX, e = updL 184 e0 [(2, Ptr b2), (3, Ptr b3), (4, I stop), (141, .slice fa fn fc), (142, I fn), (143, I j)] ∧ j ≤ fn ∧
        CoreX 81 LA h' p o oo { d2 with out := { d2.out with entries := d2.out.entries ++ (fes.take j).map EH.abs } } cj ∧ Keeps [o, o + 1, oo] h h' ∧ h' b2 = some (row (0, 1) [Ptr p] 27) ∧ h' b3 = some (row (0, 1) x.cells 49) ∧ Ents h' t1 t2 fa fn fc fes) (fun e => fn - natOf (e 143))
       ⟨_, 0, cx, updL_self ⟨rfl, rfl, rfl, rfl, rfl, rfl, trivial⟩, by omega, by rw [List.take_zero, List.map_nil, List.append_nil]; exact q5, KK5, k25, k35, X5⟩ ?_
      rintro e h6 ⟨e0, j, cj, rfl, hj, q6, KK6, k26, k36, X6⟩
      conv=>whnf
      by_cases hjn : j < fn
      ·refine ACmp.yes (by omega) ?_; conv=>whnf
       obtain ⟨y, hy⟩ : ∃ y, fes[j]? = some y := ⟨fes[j]'(by omega), by simp⟩
       have my := List.mem_of_getElem? hy
       have hyn : y.n ≤ 1200 := hfs y my
       obtain ⟨bf, off, lf, Ef, fzf, efa, hbf, hcf⟩ := X6.sl.pos (by omega)
       have g0 : (lf.drop (off + j * 4)).take 4 = y.cells := by rw [part_of_take hcf (by omega), encs_part hy]
       subst efa
       refine AIdx.nat (z := 4) (j := j) rfl hjn rfl rfl ?_; conv=>whnf
       refine ALoad.agg rfl hbf g0 rfl ?_; conv=>whnf
       refine AAlloc.mkN (0, 1) (entry0z) rfl fun b16 h7 n7 s7 k7 => ?_; conv=>whnf
       refine AStore.aggN rfl rfl rfl (k7) rfl (y.cells) rfl fun h8 t8 k8 a8 e8 => ?_; conv=>whnf
       have s68 : Sub h6 h8 := a8 h6 s7 n7
       refine ALoad.one rfl k8 rfl ?_; conv=>whnf
       refine ACalls.mono (cloneB_any h8 (oo, 2) (Sl.sub (X6.good y my) s68) (by omega)) ?_
       rintro v h9 ⟨a', c', rfl, ow9, s9⟩
       conv=>whnf
       refine AStore.oneN rfl rfl rfl ((s9 _ _ k8)) rfl ([I y.term, I y.index, I y.kind, .slice a' y.n c']) rfl fun h10 t10 k10 a10 e10 => ?_; conv=>whnf
       have s610 : Sub h6 h10 := a10 h6 (s68.trans s9) n7
       have ow10 := ow9.keepT t10 (fun c => ap.d (congrArg Prod.fst c))
       obtain ⟨en, hen⟩ : ∃ en : EH, en = ⟨y.term, y.index, y.kind, a', y.n, c', y.data⟩ := ⟨_, rfl⟩
       have hea : en.abs = y.abs := by rw [hen]; rfl
       have hnn : en.n ≤ 1200 := by rw [hen]; exact hyn
       rw [show [I y.term, I y.index, I y.kind, Value.slice a' y.n c'] = en.cells by rw [hen]; rfl] at k10
       have m10 : en.Mine h10 (oo, 2) := by rw [hen]; exact ow10
       have q10 := q6.sub s610
       have k210 := s610 _ _ k26
       have k310 := s610 _ _ k36
       have hel2 : cj.ox.es.length = (c.out.entries ++ (fes.take j).map EH.abs).length := by
        have e : cj.ox.es.map EH.abs = d2.out.entries ++ (fes.take j).map EH.abs := q6.out.ea
        rw [← ho2, ← e, List.length_map]
       have hel : cj.ox.es.length = cj.ox.oe.n := by
        have := q6.out.oe.sl.len
        rw [encs_length] at this; omega
       have hel3 : cj.ox.oe.n ≤ 1000008 := by
        rw [← hel, hel2, List.length_append, List.length_map, List.length_take]; omega
       clear t8 a8 e8 k7 n7 s7 t10 a10 e10 k8
       refine ADrawn.mk ((few h10 [b2, p, b16])) [12] (few_sub _ _) (by decide +kernel) ?_; conv=>whnf
       refine ALoad.one rfl ((few_at (by simp)).trans k210) rfl ?_; conv=>whnf
       refine ALoad.one rfl ((few_at (by simp)).trans k210) rfl ?_; conv=>whnf
       refine ALoad.one rfl ((few_at (by simp)).trans q10.str) rfl ?_; conv=>whnf
       refine ALoad.agg rfl ((few_at (by simp)).trans k10) rfl rfl ?_; conv=>whnf
       refine ABuildSl.mkN (0, 1) en.cells rfl rfl rfl rfl rfl rfl (by rw [hen]; rfl) fun b17 h11 n11 s11 k11 => ?_; conv=>whnf
       refine ⟨(few_sub _ _).trans s11, ?_⟩; conv=>whnf
       refine AAppend.own (t := (oo, 1)) (E := 59) (z := 4) (by_ := 48) (zero := entry0z) (tx := (0, 1)) (xs := en.cells) rfl ⟨_, rfl⟩ rfl rfl rfl rfl (by omega) (q10.out.oe.move fun _ _ e => s11 _ _ e)
        ⟨rfl, Nat.le_refl _, .inr ⟨b17, 0, _, _, _, rfl, k11, rfl⟩⟩ (by rw [hen]; rfl) (by omega) (by omega) fun a12 c12 h12 ow12 t12 _ => ?_
       conv=>whnf
       have p12 := t12.get (u := (o, 0)) (fun c => ap.a (congrArg Prod.fst c)) (s11 _ _ q10.str)
       have e12 := t12.get (u := (0, 1)) (fun c => ap.d (congrArg Prod.fst c).symm) (s11 _ _ k10)
       have k212 := t12.get (u := (0, 1)) (fun c => ap.d (congrArg Prod.fst c).symm) (s11 _ _ k210)
       have k312 := t12.get (u := (0, 1)) (fun c => ap.d (congrArg Prod.fst c).symm) (s11 _ _ k310)
       refine ⟨few_get fun z hz w hw => ?_, ?_⟩
       ·simp only [List.mem_cons, List.not_mem_nil, or_false] at hz
        rcases hz with rfl | rfl | rfl
        ·rw [k210] at hw; cases hw; exact k212
        ·rw [q10.str] at hw; cases hw; exact p12
        ·rw [k10] at hw; cases hw; exact e12
       conv=>whnf
       refine AStore.oneN rfl rfl rfl (p12) rfl (coreCells { ({ d2 with out := { d2.out with entries := d2.out.entries ++ (fes.take j).map EH.abs } } : CoreM) with out := { ({ d2 with out := { d2.out with entries := d2.out.entries ++ (fes.take j).map EH.abs } } : CoreM).out with entries := ({ d2 with out := { d2.out with entries := d2.out.entries ++ (fes.take j).map EH.abs } } : CoreM).out.entries ++ [en.abs] } } { cj with ox := { cj.ox with oe := ⟨a12, cj.ox.oe.n + 1, c12⟩, es := cj.ox.es ++ [en] } }) rfl fun h13 t13 k13 a13 e13 => ?_; conv=>whnf
       have q13 := CoreX.pushE ap (q10.sub s11) t12 ow12 (Own.sub m10 s11) hnn t13 k13
       have KK13 : Keeps [o, o + 1, oo] h6 h13 := ((s610.trans s11).keeps _).trans ((t12.keep.keeps (by simp)).trans (t13.keep.keeps (by simp)))
       have hsucc : d2.out.entries ++ (fes.take j).map EH.abs ++ [en.abs] = d2.out.entries ++ (fes.take (j + 1)).map EH.abs := by
        rw [List.take_succ_eq_append_getElem (show j < fes.length by omega), (List.getElem?_eq_some_iff.1 hy).2, List.map_append, List.append_assoc, hea]; rfl
       simp only [hsucc] at q13
       refine AArith.ok (by omega) (by omega) ((by omega : (j : Int) + 1 = ((j + 1 : Nat) : Int))) ?_; conv=>whnf
       refine ⟨⟨_, j + 1, _, updL_self ⟨rfl, rfl, rfl, rfl, rfl, rfl, trivial⟩, by omega, q13, KK6.trans KK13, t13.get (tag_ne ap.c) k212, t13.get (tag_ne ap.c) k312, X6.keeps KK13 tn1 tn2⟩, ?_⟩
       show fn - (j + 1) < fn - j
       omega
      ·refine ACmp.no (by omega) ?_; conv=>whnf
       obtain rfl : j = fn := by omega
       rw [List.take_of_length_le (by omega)] at q6
       obtain ⟨DDv, hDD⟩ : ∃ D : CoreM, D = { d2 with out := { d2.out with entries := d2.out.entries ++ fes.map EH.abs } } := ⟨_, rfl⟩
       rw [← hDD] at q6
       have HR : c.appendRest ((x.es.drop kd).map EH.abs) = DDv := by rw [hDD, hd2]; exact hrc
       have hpp : DDv.out.posts.length ≤ 1000000000 := by rw [hDD, hd2]; exact hp
       refine ADrawn.mk (h6) [12] (Sub.refl _) (by decide +kernel) ?_; conv=>whnf
       refine ALoad.one rfl k26 rfl ?_; conv=>whnf
       refine ALoad.one rfl k26 rfl ?_; conv=>whnf
       refine ALoad.one rfl q6.str rfl ?_; conv=>whnf
       refine ALoad.one rfl k36 rfl ?_; conv=>whnf
       refine AInt.as (rfl) ?_; conv=>whnf
       refine AInt.as (rfl) ?_; conv=>whnf
       refine AStore.oneN rfl rfl rfl (q6.str) rfl (coreCells { DDv with commit := if DDv.commit < (if stop < x.commit then stop else x.commit) then (if stop < x.commit then stop else x.commit) else DDv.commit } cj) rfl fun hY tY kY aY eY => ?_; conv=>whnf
       have qY := q6.set' ap.a tY kY
       have kY2 := tY.get (tag_ne ap.c) k26
       have kY3 := tY.get (tag_ne ap.c) k36
       refine ALoad.one rfl kY2 rfl ?_; conv=>whnf
       refine ALoad.one rfl kY3 rfl ?_; conv=>whnf
       refine ALoad.one rfl kY3 rfl ?_; conv=>whnf
       refine ACalls.mono (say_any ap.a ap.b ap.c ap.d ⟨_, qY⟩ x.src { post1 with kind := 4, ok := true, index := stop, hint := x.hint } (made0 rfl rfl rfl rfl) hpp) ?_; rintro _ hZ ⟨rfl, kZ, kkZ⟩; conv=>whnf
       refine ⟨rfl, ?_, KK6.trans ((tY.keep.keeps (by simp)).trans (kkZ.mono (by simp)))⟩
       have hst : x.abs.index + (x.abs.entries.length : Int) = stop := by rw [hstop, ← hxl]; simp [PH.abs]
       unfold CoreM.appendOk
       rw [HR]
       simp only [hst]
       exact kZ
    ·conv=>whnf
     refine ACmp.no ((by omega)) ?_; conv=>whnf
     have hfr : c.log.fresh ((x.es.drop kd).map EH.abs) = [] := by
      rw [fresh_of (k := ((x.es.drop kd).map EH.abs).length) (fun j e hj hje => by
       rw [List.getElem?_map] at hje
       cases hz : (x.es.drop kd)[j]? with
       | none => rw [hz] at hje; cases hje
       | some z =>
        rw [hz] at hje; cases hje
        have := hpf j z (by have := (List.getElem?_eq_some_iff.1 hz).1; omega) hz
        show c.has z.index z.term = true
        simpa using this) (.inl rfl), List.drop_length]
     have HR := appendRest_nil hfr
     have KK2 : Keeps [o, o + 1, oo] h h2 := s12.keeps _
     refine ADrawn.mk (h2) [12] (Sub.refl _) (by decide +kernel) ?_; conv=>whnf
     refine ALoad.one rfl k2 rfl ?_; conv=>whnf
     refine ALoad.one rfl k2 rfl ?_; conv=>whnf
     refine ALoad.one rfl q.str rfl ?_; conv=>whnf
     refine ALoad.one rfl k3 rfl ?_; conv=>whnf
     refine AInt.as (rfl) ?_; conv=>whnf
     refine AInt.as (rfl) ?_; conv=>whnf
     refine AStore.oneN rfl rfl rfl (q.str) rfl (coreCells { c with commit := if c.commit < (if stop < x.commit then stop else x.commit) then (if stop < x.commit then stop else x.commit) else c.commit } cx) rfl fun hY tY kY aY eY => ?_; conv=>whnf
     have qY := q.set' ap.a tY kY
     have kY2 := tY.get (tag_ne ap.c) k2
     have kY3 := tY.get (tag_ne ap.c) k3
     refine ALoad.one rfl kY2 rfl ?_; conv=>whnf
     refine ALoad.one rfl kY3 rfl ?_; conv=>whnf
     refine ALoad.one rfl kY3 rfl ?_; conv=>whnf
     refine ACalls.mono (say_any ap.a ap.b ap.c ap.d ⟨_, qY⟩ x.src { post1 with kind := 4, ok := true, index := stop, hint := x.hint } (made0 rfl rfl rfl rfl) hp) ?_; rintro _ hZ ⟨rfl, kZ, kkZ⟩; conv=>whnf
     refine ⟨rfl, ?_, KK2.trans ((tY.keep.keeps (by simp)).trans (kkZ.mono (by simp)))⟩
     have hst : x.abs.index + (x.abs.entries.length : Int) = stop := by rw [hstop, ← hxl]; simp [PH.abs]
     unfold CoreM.appendOk
     rw [HR]
     simp only [hst]
     exact kZ
   ·refine ACmp.yes ((by omega)) ?_; conv=>whnf
    obtain ⟨y0, hy0⟩ : ∃ y, (x.es.drop kd)[0]? = some y := ⟨(x.es.drop kd)[0]'(by omega), by simp⟩
    obtain ⟨yr, hyr⟩ : ∃ r, (x.es.drop kd) = y0 :: r := by
     cases hc : (x.es.drop kd) with
     | nil => rw [hc] at hy0; simp at hy0
     | cons z r => rw [hc] at hy0; simp at hy0; exact ⟨r, by rw [hy0]⟩
    have hhl : headLow c.log.bt ((x.es.drop kd).map EH.abs) = decide (y0.term < c.log.bt) := by rw [hyr]; rfl
    obtain ⟨bg, og, lg, Eg, fzg, ega, hbg, hcg⟩ := XL.sl.pos (by omega)
    have gi : lg[og + 0 * 4]? = some (I y0.term) := by
     rw [get_of_take hcg (by omega)]
     exact encs_get hy0 (show 0 < 4 by omega)
    rw [ega]
    refine AIdx.nat (n := (x.e.n - kd)) (z := 4) (j := 0) rfl (by omega) rfl rfl ?_; conv=>whnf
    refine ALoad.one rfl hbg gi ?_; conv=>whnf
    rw [← ega]
    by_cases clt : y0.term < c.log.bt
    ·refine ACmp.yes (clt) ?_; conv=>whnf
     rw [if_pos (.inr (by rw [hhl]; exact decide_eq_true clt))]
     refine ALoad.one rfl k2 rfl ?_; conv=>whnf
     refine ALoad.one rfl q.str rfl ?_; conv=>whnf
     refine ACalls.mono (Last_c q.log lk.lo) ?_; rintro _ _ ⟨rfl, rfl⟩; conv=>whnf
     refine ALoad.one rfl k2 rfl ?_; conv=>whnf
     refine ALoad.one rfl k3 rfl ?_; conv=>whnf
     refine AArith.ok (by omega) (by omega) (rfl) ?_; conv=>whnf
     refine AInt.as (rfl) ?_; conv=>whnf
     refine ALoad.one rfl k3 rfl ?_; conv=>whnf
     refine ACalls.mono (say_any ap.a ap.b ap.c ap.d ⟨_, q⟩ x.src { post1 with kind := 4, index := (if c.log.last.1 < c.log.bi - 1 then c.log.last.1 else c.log.bi - 1), hint := x.hint } (made0 rfl rfl rfl rfl) hp) ?_; rintro _ hB ⟨rfl, kB, kkB⟩; conv=>whnf
     exact ⟨rfl, kB, (s12.keeps _).trans (kkB.mono (by simp))⟩
    ·refine ACmp.no (clt) ?_; conv=>whnf
     rw [if_neg (by rw [hh, hhl, decide_eq_false clt]; simp)]
     have A : AsksE 180 [Ptr b2] (x.es.drop kd) (fun e => !c.has e.index e.term) h2 := by
      intro e he h' s
      refine acalls_pure (acalls_of mix Tryz.func180 rfl rfl Tryz.ntmps180 Tryz.results180 rfl ?_); conv=>whnf
      refine ABox.mkN (0, 1) (e.cells) rfl fun b5 h5 n5 s5 k5 => ?_; conv=>whnf
      refine ADrawn.mk (h5) [] (Sub.refl _) (by decide +kernel) ?_; conv=>whnf
      refine ALoad.one rfl (s5 _ _ (s _ _ k2)) rfl ?_; conv=>whnf
      refine ALoad.one rfl (s5 _ _ (s _ _ q.str)) rfl ?_; conv=>whnf
      refine ALoad.one rfl k5 rfl ?_; conv=>whnf
      refine ALoad.one rfl k5 rfl ?_; conv=>whnf
      refine ACalls.mono (Has_c (q.sub (s.trans s5)).log lk.lo e.index e.term) ?_; rintro _ _ ⟨rfl, rfl⟩; conv=>whnf
      refine ⟨Sub.refl _, ?_⟩; conv=>whnf
      exact ⟨rfl, s5⟩
     refine ACalls.mono (IndexFuncE_any A XL (by omega)) ?_
     rintro _ _ ⟨⟨kf, hkf, hpf, ⟨hkn, rfl, e0, he0, hP⟩ | ⟨hkn, rfl⟩⟩, rfl⟩
     ·conv=>whnf
      refine ACmp.yes ((by omega)) ?_; conv=>whnf
      have hfr : c.log.fresh ((x.es.drop kd).map EH.abs) = ((x.es.drop kd).map EH.abs).drop kf := fresh_of (fun j e hj hje => by
        rw [List.getElem?_map] at hje
        cases hz : (x.es.drop kd)[j]? with
        | none => rw [hz] at hje; cases hje
        | some z =>
         rw [hz] at hje; cases hje
         have := hpf j z hj hz
         show c.has z.index z.term = true
         simpa using this) (.inr ⟨e0.abs, by rw [List.getElem?_map, he0]; rfl, by show c.has e0.index e0.term = false; simpa using hP⟩)
      refine ASlc.from (z := 4) (l := kf) rfl (by omega) XL.sl.le rfl rfl ?_; conv=>whnf
      have XF := XL.from (l := kf) (by omega)
      generalize slBase la kf (x.e.c - kd) 4 = fa at XF ⊢
      obtain ⟨fn, hfn⟩ : ∃ fn, fn = (x.e.n - kd) - kf := ⟨_, rfl⟩
      obtain ⟨fc, hfc⟩ : ∃ fc, fc = (x.e.c - kd) - kf := ⟨_, rfl⟩
      obtain ⟨fes, hfes⟩ : ∃ fes, fes = (x.es.drop kd).drop kf := ⟨_, rfl⟩
      rw [← hfn, ← hfc, ← hfes] at XF
      rw [← hfn, ← hfc]
      have hfl : fes.length = fn := XF.len
      have hfs : ∀ y ∈ fes, y.n ≤ 1200 := fun y hy => hls y (by rw [hfes] at hy; exact List.mem_of_mem_drop hy)
      have he0' : fes[0]? = some e0 := by rw [hfes, List.getElem?_drop, Nat.add_zero]; exact he0
      obtain ⟨fr, hfr2⟩ : ∃ r, fes = e0 :: r := by
       cases fes with
       | nil => simp at he0'
       | cons z r => simp at he0'; exact ⟨r, by rw [he0']⟩
      have hfr3 : c.log.fresh ((x.es.drop kd).map EH.abs) = e0.abs :: fr.map EH.abs := by rw [hfr, ← List.map_drop, ← hfes, hfr2]; rfl
      have hfr4 : fes.map EH.abs = e0.abs :: fr.map EH.abs := by rw [hfr2]; rfl
      refine ALoad.one rfl k2 rfl ?_; conv=>whnf
      refine ALoad.one rfl q.str rfl ?_; conv=>whnf
      refine ACalls.mono (Last_c q.log lk.lo) ?_; rintro _ _ ⟨rfl, rfl⟩; conv=>whnf
      obtain ⟨bg, og, lg, Eg, fzg, ega, hbg, hcg⟩ := XF.sl.pos (by omega)
      have gi : lg[og + 0 * 4 + 1]? = some (I e0.index) := by
       rw [Nat.add_assoc, get_of_take hcg (by omega), encs_get he0' (by omega)]; rfl
      have ega' := ega
      subst ega
      refine AIdx.nat (n := fn) (z := 4) (j := 0) rfl (by omega) rfl rfl ?_; conv=>whnf
      refine ALoad.one rfl hbg gi ?_; conv=>whnf
      have hcut : c.cutAt e0.abs = if e0.index ≤ c.log.last.1 then { c with log := (c.log.cut e0.index).2, out := { c.out with cut := e0.index } } else c := rfl
      by_cases cl : e0.index ≤ c.log.last.1
      ·refine ACmp.yes (cl) ?_; conv=>whnf
       rw [if_pos cl] at hcut
       refine ADrawn.mk (h2) [8] (Sub.refl _) (by decide +kernel) ?_; conv=>whnf
       refine ALoad.one rfl k2 rfl ?_; conv=>whnf
       refine ALoad.one rfl q.str rfl ?_; conv=>whnf
       refine AIdx.nat (n := fn) (z := 4) (j := 0) rfl (by omega) rfl rfl ?_; conv=>whnf
       refine ALoad.one rfl hbg gi ?_; conv=>whnf
       refine ACalls.mono (Cut_c q.log lk.lo e0.index) ?_; rintro _ h3 ⟨rfl, l3, kk3⟩; conv=>whnf
       have k23 := kk3.get (by simp) k2
       have k33 := kk3.get (by simp) k3
       have q3 := kk3.get (by simp) q.str
       have hbg3 := kk3.get (fun c => tn1 (by rw [c]; simp)) hbg
       refine ADrawn.mk (h3) [8] (Sub.refl _) (by decide +kernel) ?_; conv=>whnf
       refine ALoad.one rfl k23 rfl ?_; conv=>whnf
       refine AIdx.nat (n := fn) (z := 4) (j := 0) rfl (by omega) rfl rfl ?_; conv=>whnf
       refine ALoad.one rfl hbg3 gi ?_; conv=>whnf
       refine AStore.oneN rfl rfl rfl (q3) rfl (coreCells { c with log := (c.log.cut e0.index).2, out := { c.out with cut := e0.index } } cx) rfl fun h4 t4 k4 a4 e4 => ?_; conv=>whnf
       have q4 : CoreX 81 LA h4 p o oo { c with log := (c.log.cut e0.index).2, out := { c.out with cut := e0.index } } cx := ⟨k4, (q.sd.move fun b y e => kk3.get (by simp) e).keepT t4 (by simp), KeepT.log l3 t4, (q.rd.move fun b y e => kk3.get (by simp) e).keepT t4 (by simp), by
        have z := (q.out.move fun b t y ht e => kk3 _ _ _ (by rw [ht]; exact ap.b.symm) e : OutOk h3 oo c.out cx.ox).keepT ap.a t4
        exact ⟨z.od, z.oe, z.ed, z.ea, z.es, z.op, z.ps, z.pa, z.qr⟩⟩
       obtain ⟨DCv, hDC⟩ : ∃ D : CoreM, D = { c with log := (c.log.cut e0.index).2, out := { c.out with cut := e0.index } } := ⟨_, rfl⟩
       rw [← hDC] at q4 hcut
       have KK4 : Keeps [o, o + 1, oo] h h4 := (s12.keeps _).trans ((kk3.keeps (by simp)).trans (t4.keep.keeps (by simp)))
       have K24 := t4.get (tag_ne ap.c) k23
       have K34 := t4.get (tag_ne ap.c) k33
       have XF4 := XF.keeps (((kk3.keeps (by simp) : Keeps [o, o + 1, oo] h2 h3)).trans (t4.keep.keeps (by simp))) tn1 tn2
       have lk4 : LOk DCv.log := by rw [hDC]; exact lk.lo.cut _
       have hcl : DCv.log.es.length ≤ c.log.es.length := by
        rw [hDC]; simp only [LG.cut]; split
        ·simp only [List.length_take]; omega
        ·exact Nat.le_refl _
       have hpc : DCv.out.posts.length ≤ 1000000000 := by rw [hDC]; exact hp
       have hec : DCv.out.entries.length ≤ 1000000 := by rw [hDC]; exact hoe
       have hrc : c.appendRest ((x.es.drop kd).map EH.abs) = { ({ DCv with log := (DCv.log.append (fes.map EH.abs)).2 } : CoreM) with out := { ({ DCv with log := (DCv.log.append (fes.map EH.abs)).2 } : CoreM).out with entries := ({ DCv with log := (DCv.log.append (fes.map EH.abs)).2 } : CoreM).out.entries ++ fes.map EH.abs } } := by
        rw [appendRest_cons hfr3, hcut, hfr4]
       obtain ⟨fa, hfa⟩ : ∃ fa : Option Addr, fa = some ⟨bg, og, none⟩ := ⟨_, rfl⟩
       rw [← hfa] at XF4 ⊢
       have lkD : LOk DCv.log := lk4
       refine ALoad.one rfl K24 rfl ?_; conv=>whnf
       refine ALoad.one rfl q4.str rfl ?_; conv=>whnf
       have hfn8 : fn ≤ 8 := by omega
       refine ACalls.mono (Append_c (by omega : o + 1 ≠ 0) q4.log lkD (t := t1) (td := t2) (fun c => tn1 (by rw [c]; simp)) (fun c => tn2 (by rw [c]; simp)) XF4 (by omega)) ?_; rintro _ h5 ⟨rfl, l5, kk5⟩; conv=>whnf
       have k25 := kk5.get (by simp) K24
       have k35 := kk5.get (by simp) K34
       have q5' := kk5.get (by simp) q4.str
       obtain ⟨d2, hd2⟩ : ∃ d2 : CoreM, d2 = { DCv with log := (DCv.log.append (fes.map EH.abs)).2 } := ⟨_, rfl⟩
       have q5 : CoreX 81 LA h5 p o oo d2 cx := by
        rw [hd2]
        exact ⟨q5', q4.sd.move fun b y e => kk5.get (by simp) e, l5, q4.rd.move fun b y e => kk5.get (by simp) e, q4.out.move fun b t y ht e => kk5 _ _ _ (by rw [ht]; exact ap.b.symm) e⟩
       have KK5 : Keeps [o, o + 1, oo] h h5 := KK4.trans (kk5.keeps (by simp))
       have X5 := XF4.keeps (kk5.keeps (by simp) : Keeps [o, o + 1, oo] _ h5) tn1 tn2
       have ho2 : d2.out = DCv.out := by rw [hd2]
       refine ALoop.mk (fun e h' => ∃ e0, ∃ j : Nat, ∃ cj : CX, e = updL 184 e0 [(2, Ptr b2), (3, Ptr b3), (4, I stop), (141, .slice fa fn fc), (142, I fn), (143, I j)] ∧ j ≤ fn ∧
         CoreX 81 LA h' p o oo { d2 with out := { d2.out with entries := d2.out.entries ++ (fes.take j).map EH.abs } } cj ∧ Keeps [o, o + 1, oo] h h' ∧ h' b2 = some (row (0, 1) [Ptr p] 27) ∧ h' b3 = some (row (0, 1) x.cells 49) ∧ Ents h' t1 t2 fa fn fc fes) (fun e => fn - natOf (e 143))
        ⟨_, 0, cx, updL_self ⟨rfl, rfl, rfl, rfl, rfl, rfl, trivial⟩, by omega, by rw [List.take_zero, List.map_nil, List.append_nil]; exact q5, KK5, k25, k35, X5⟩ ?_
       rintro e h6 ⟨e0, j, cj, rfl, hj, q6, KK6, k26, k36, X6⟩
       conv=>whnf
       by_cases hjn : j < fn
       ·refine ACmp.yes (by omega) ?_; conv=>whnf
        obtain ⟨y, hy⟩ : ∃ y, fes[j]? = some y := ⟨fes[j]'(by omega), by simp⟩
        have my := List.mem_of_getElem? hy
        have hyn : y.n ≤ 1200 := hfs y my
        obtain ⟨bf, off, lf, Ef, fzf, efa, hbf, hcf⟩ := X6.sl.pos (by omega)
        have g0 : (lf.drop (off + j * 4)).take 4 = y.cells := by rw [part_of_take hcf (by omega), encs_part hy]
        subst efa
        refine AIdx.nat (z := 4) (j := j) rfl hjn rfl rfl ?_; conv=>whnf
        refine ALoad.agg rfl hbf g0 rfl ?_; conv=>whnf
        refine AAlloc.mkN (0, 1) (entry0z) rfl fun b16 h7 n7 s7 k7 => ?_; conv=>whnf
        refine AStore.aggN rfl rfl rfl (k7) rfl (y.cells) rfl fun h8 t8 k8 a8 e8 => ?_; conv=>whnf
        have s68 : Sub h6 h8 := a8 h6 s7 n7
        refine ALoad.one rfl k8 rfl ?_; conv=>whnf
        refine ACalls.mono (cloneB_any h8 (oo, 2) (Sl.sub (X6.good y my) s68) (by omega)) ?_
        rintro v h9 ⟨a', c', rfl, ow9, s9⟩
        conv=>whnf
        refine AStore.oneN rfl rfl rfl ((s9 _ _ k8)) rfl ([I y.term, I y.index, I y.kind, .slice a' y.n c']) rfl fun h10 t10 k10 a10 e10 => ?_; conv=>whnf
        have s610 : Sub h6 h10 := a10 h6 (s68.trans s9) n7
        have ow10 := ow9.keepT t10 (fun c => ap.d (congrArg Prod.fst c))
        obtain ⟨en, hen⟩ : ∃ en : EH, en = ⟨y.term, y.index, y.kind, a', y.n, c', y.data⟩ := ⟨_, rfl⟩
        have hea : en.abs = y.abs := by rw [hen]; rfl
        have hnn : en.n ≤ 1200 := by rw [hen]; exact hyn
        rw [show [I y.term, I y.index, I y.kind, Value.slice a' y.n c'] = en.cells by rw [hen]; rfl] at k10
        have m10 : en.Mine h10 (oo, 2) := by rw [hen]; exact ow10
        have q10 := q6.sub s610
        have k210 := s610 _ _ k26
        have k310 := s610 _ _ k36
        have hel2 : cj.ox.es.length = (DCv.out.entries ++ (fes.take j).map EH.abs).length := by
         have e : cj.ox.es.map EH.abs = d2.out.entries ++ (fes.take j).map EH.abs := q6.out.ea
         rw [← ho2, ← e, List.length_map]
        have hel : cj.ox.es.length = cj.ox.oe.n := by
         have := q6.out.oe.sl.len
         rw [encs_length] at this; omega
        have hel3 : cj.ox.oe.n ≤ 1000008 := by
         rw [← hel, hel2, List.length_append, List.length_map, List.length_take]; omega
        clear t8 a8 e8 k7 n7 s7 t10 a10 e10 k8
        refine ADrawn.mk ((few h10 [b2, p, b16])) [12] (few_sub _ _) (by decide +kernel) ?_; conv=>whnf
        refine ALoad.one rfl ((few_at (by simp)).trans k210) rfl ?_; conv=>whnf
        refine ALoad.one rfl ((few_at (by simp)).trans k210) rfl ?_; conv=>whnf
        refine ALoad.one rfl ((few_at (by simp)).trans q10.str) rfl ?_; conv=>whnf
        refine ALoad.agg rfl ((few_at (by simp)).trans k10) rfl rfl ?_; conv=>whnf
        refine ABuildSl.mkN (0, 1) en.cells rfl rfl rfl rfl rfl rfl (by rw [hen]; rfl) fun b17 h11 n11 s11 k11 => ?_; conv=>whnf
        refine ⟨(few_sub _ _).trans s11, ?_⟩; conv=>whnf
        refine AAppend.own (t := (oo, 1)) (E := 59) (z := 4) (by_ := 48) (zero := entry0z) (tx := (0, 1)) (xs := en.cells) rfl ⟨_, rfl⟩ rfl rfl rfl rfl (by omega) (q10.out.oe.move fun _ _ e => s11 _ _ e)
         ⟨rfl, Nat.le_refl _, .inr ⟨b17, 0, _, _, _, rfl, k11, rfl⟩⟩ (by rw [hen]; rfl) (by omega) (by omega) fun a12 c12 h12 ow12 t12 _ => ?_
        conv=>whnf
        have p12 := t12.get (u := (o, 0)) (fun c => ap.a (congrArg Prod.fst c)) (s11 _ _ q10.str)
        have e12 := t12.get (u := (0, 1)) (fun c => ap.d (congrArg Prod.fst c).symm) (s11 _ _ k10)
        have k212 := t12.get (u := (0, 1)) (fun c => ap.d (congrArg Prod.fst c).symm) (s11 _ _ k210)
        have k312 := t12.get (u := (0, 1)) (fun c => ap.d (congrArg Prod.fst c).symm) (s11 _ _ k310)
        refine ⟨few_get fun z hz w hw => ?_, ?_⟩
        ·simp only [List.mem_cons, List.not_mem_nil, or_false] at hz
         rcases hz with rfl | rfl | rfl
         ·rw [k210] at hw; cases hw; exact k212
         ·rw [q10.str] at hw; cases hw; exact p12
         ·rw [k10] at hw; cases hw; exact e12
        conv=>whnf
        refine AStore.oneN rfl rfl rfl (p12) rfl (coreCells { ({ d2 with out := { d2.out with entries := d2.out.entries ++ (fes.take j).map EH.abs } } : CoreM) with out := { ({ d2 with out := { d2.out with entries := d2.out.entries ++ (fes.take j).map EH.abs } } : CoreM).out with entries := ({ d2 with out := { d2.out with entries := d2.out.entries ++ (fes.take j).map EH.abs } } : CoreM).out.entries ++ [en.abs] } } { cj with ox := { cj.ox with oe := ⟨a12, cj.ox.oe.n + 1, c12⟩, es := cj.ox.es ++ [en] } }) rfl fun h13 t13 k13 a13 e13 => ?_; conv=>whnf
        have q13 := CoreX.pushE ap (q10.sub s11) t12 ow12 (Own.sub m10 s11) hnn t13 k13
        have KK13 : Keeps [o, o + 1, oo] h6 h13 := ((s610.trans s11).keeps _).trans ((t12.keep.keeps (by simp)).trans (t13.keep.keeps (by simp)))
        have hsucc : d2.out.entries ++ (fes.take j).map EH.abs ++ [en.abs] = d2.out.entries ++ (fes.take (j + 1)).map EH.abs := by
         rw [List.take_succ_eq_append_getElem (show j < fes.length by omega), (List.getElem?_eq_some_iff.1 hy).2, List.map_append, List.append_assoc, hea]; rfl
        simp only [hsucc] at q13
        refine AArith.ok (by omega) (by omega) ((by omega : (j : Int) + 1 = ((j + 1 : Nat) : Int))) ?_; conv=>whnf
        refine ⟨⟨_, j + 1, _, updL_self ⟨rfl, rfl, rfl, rfl, rfl, rfl, trivial⟩, by omega, q13, KK6.trans KK13, t13.get (tag_ne ap.c) k212, t13.get (tag_ne ap.c) k312, X6.keeps KK13 tn1 tn2⟩, ?_⟩
        show fn - (j + 1) < fn - j
        omega
       ·refine ACmp.no (by omega) ?_; conv=>whnf
        obtain rfl : j = fn := by omega
        rw [List.take_of_length_le (by omega)] at q6
        obtain ⟨DDv, hDD⟩ : ∃ D : CoreM, D = { d2 with out := { d2.out with entries := d2.out.entries ++ fes.map EH.abs } } := ⟨_, rfl⟩
        rw [← hDD] at q6
        have HR : c.appendRest ((x.es.drop kd).map EH.abs) = DDv := by rw [hDD, hd2]; exact hrc
        have hpp : DDv.out.posts.length ≤ 1000000000 := by rw [hDD, hd2]; exact hpc
        refine ADrawn.mk (h6) [12] (Sub.refl _) (by decide +kernel) ?_; conv=>whnf
        refine ALoad.one rfl k26 rfl ?_; conv=>whnf
        refine ALoad.one rfl k26 rfl ?_; conv=>whnf
        refine ALoad.one rfl q6.str rfl ?_; conv=>whnf
        refine ALoad.one rfl k36 rfl ?_; conv=>whnf
        refine AInt.as (rfl) ?_; conv=>whnf
        refine AInt.as (rfl) ?_; conv=>whnf
        refine AStore.oneN rfl rfl rfl (q6.str) rfl (coreCells { DDv with commit := if DDv.commit < (if stop < x.commit then stop else x.commit) then (if stop < x.commit then stop else x.commit) else DDv.commit } cj) rfl fun hY tY kY aY eY => ?_; conv=>whnf
        have qY := q6.set' ap.a tY kY
        have kY2 := tY.get (tag_ne ap.c) k26
        have kY3 := tY.get (tag_ne ap.c) k36
        refine ALoad.one rfl kY2 rfl ?_; conv=>whnf
        refine ALoad.one rfl kY3 rfl ?_; conv=>whnf
        refine ALoad.one rfl kY3 rfl ?_; conv=>whnf
        refine ACalls.mono (say_any ap.a ap.b ap.c ap.d ⟨_, qY⟩ x.src { post1 with kind := 4, ok := true, index := stop, hint := x.hint } (made0 rfl rfl rfl rfl) hpp) ?_; rintro _ hZ ⟨rfl, kZ, kkZ⟩; conv=>whnf
        refine ⟨rfl, ?_, KK6.trans ((tY.keep.keeps (by simp)).trans (kkZ.mono (by simp)))⟩
        have hst : x.abs.index + (x.abs.entries.length : Int) = stop := by rw [hstop, ← hxl]; simp [PH.abs]
        unfold CoreM.appendOk
        rw [HR]
        simp only [hst]
        exact kZ
      ·refine ACmp.no (cl) ?_; conv=>whnf
       rw [if_neg cl] at hcut
       have hrc : c.appendRest ((x.es.drop kd).map EH.abs) = { ({ c with log := (c.log.append (fes.map EH.abs)).2 } : CoreM) with out := { ({ c with log := (c.log.append (fes.map EH.abs)).2 } : CoreM).out with entries := ({ c with log := (c.log.append (fes.map EH.abs)).2 } : CoreM).out.entries ++ fes.map EH.abs } } := by
        rw [appendRest_cons hfr3, hcut, hfr4]
       have KK2 : Keeps [o, o + 1, oo] h h2 := s12.keeps _
       obtain ⟨fa, hfa⟩ : ∃ fa : Option Addr, fa = some ⟨bg, og, none⟩ := ⟨_, rfl⟩
       rw [← hfa] at XF ⊢
       have lkD : LOk c.log := lk.lo
       refine ALoad.one rfl k2 rfl ?_; conv=>whnf
       refine ALoad.one rfl q.str rfl ?_; conv=>whnf
       have hfn8 : fn ≤ 8 := by omega
       refine ACalls.mono (Append_c (by omega : o + 1 ≠ 0) q.log lkD (t := t1) (td := t2) (fun c => tn1 (by rw [c]; simp)) (fun c => tn2 (by rw [c]; simp)) XF (by omega)) ?_; rintro _ h5 ⟨rfl, l5, kk5⟩; conv=>whnf
       have k25 := kk5.get (by simp) k2
       have k35 := kk5.get (by simp) k3
       have q5' := kk5.get (by simp) q.str
       obtain ⟨d2, hd2⟩ : ∃ d2 : CoreM, d2 = { c with log := (c.log.append (fes.map EH.abs)).2 } := ⟨_, rfl⟩
       have q5 : CoreX 81 LA h5 p o oo d2 cx := by
        rw [hd2]
        exact ⟨q5', q.sd.move fun b y e => kk5.get (by simp) e, l5, q.rd.move fun b y e => kk5.get (by simp) e, q.out.move fun b t y ht e => kk5 _ _ _ (by rw [ht]; exact ap.b.symm) e⟩
       have KK5 : Keeps [o, o + 1, oo] h h5 := KK2.trans (kk5.keeps (by simp))
       have X5 := XF.keeps (kk5.keeps (by simp) : Keeps [o, o + 1, oo] _ h5) tn1 tn2
       have ho2 : d2.out = c.out := by rw [hd2]
       refine ALoop.mk (fun e h' => ∃ e0, ∃ j : Nat, ∃ cj : CX, e = updL 184 e0 [(2, Ptr b2), (3, Ptr b3), (4, I stop), (141, .slice fa fn fc), (142, I fn), (143, I j)] ∧ j ≤ fn ∧
         CoreX 81 LA h' p o oo { d2 with out := { d2.out with entries := d2.out.entries ++ (fes.take j).map EH.abs } } cj ∧ Keeps [o, o + 1, oo] h h' ∧ h' b2 = some (row (0, 1) [Ptr p] 27) ∧ h' b3 = some (row (0, 1) x.cells 49) ∧ Ents h' t1 t2 fa fn fc fes) (fun e => fn - natOf (e 143))
        ⟨_, 0, cx, updL_self ⟨rfl, rfl, rfl, rfl, rfl, rfl, trivial⟩, by omega, by rw [List.take_zero, List.map_nil, List.append_nil]; exact q5, KK5, k25, k35, X5⟩ ?_
       rintro e h6 ⟨e0, j, cj, rfl, hj, q6, KK6, k26, k36, X6⟩
       conv=>whnf
       by_cases hjn : j < fn
       ·refine ACmp.yes (by omega) ?_; conv=>whnf
        obtain ⟨y, hy⟩ : ∃ y, fes[j]? = some y := ⟨fes[j]'(by omega), by simp⟩
        have my := List.mem_of_getElem? hy
        have hyn : y.n ≤ 1200 := hfs y my
        obtain ⟨bf, off, lf, Ef, fzf, efa, hbf, hcf⟩ := X6.sl.pos (by omega)
        have g0 : (lf.drop (off + j * 4)).take 4 = y.cells := by rw [part_of_take hcf (by omega), encs_part hy]
        subst efa
        refine AIdx.nat (z := 4) (j := j) rfl hjn rfl rfl ?_; conv=>whnf
        refine ALoad.agg rfl hbf g0 rfl ?_; conv=>whnf
        refine AAlloc.mkN (0, 1) (entry0z) rfl fun b16 h7 n7 s7 k7 => ?_; conv=>whnf
        refine AStore.aggN rfl rfl rfl (k7) rfl (y.cells) rfl fun h8 t8 k8 a8 e8 => ?_; conv=>whnf
        have s68 : Sub h6 h8 := a8 h6 s7 n7
        refine ALoad.one rfl k8 rfl ?_; conv=>whnf
        refine ACalls.mono (cloneB_any h8 (oo, 2) (Sl.sub (X6.good y my) s68) (by omega)) ?_
        rintro v h9 ⟨a', c', rfl, ow9, s9⟩
        conv=>whnf
        refine AStore.oneN rfl rfl rfl ((s9 _ _ k8)) rfl ([I y.term, I y.index, I y.kind, .slice a' y.n c']) rfl fun h10 t10 k10 a10 e10 => ?_; conv=>whnf
        have s610 : Sub h6 h10 := a10 h6 (s68.trans s9) n7
        have ow10 := ow9.keepT t10 (fun c => ap.d (congrArg Prod.fst c))
        obtain ⟨en, hen⟩ : ∃ en : EH, en = ⟨y.term, y.index, y.kind, a', y.n, c', y.data⟩ := ⟨_, rfl⟩
        have hea : en.abs = y.abs := by rw [hen]; rfl
        have hnn : en.n ≤ 1200 := by rw [hen]; exact hyn
        rw [show [I y.term, I y.index, I y.kind, Value.slice a' y.n c'] = en.cells by rw [hen]; rfl] at k10
        have m10 : en.Mine h10 (oo, 2) := by rw [hen]; exact ow10
        have q10 := q6.sub s610
        have k210 := s610 _ _ k26
        have k310 := s610 _ _ k36
        have hel2 : cj.ox.es.length = (c.out.entries ++ (fes.take j).map EH.abs).length := by
         have e : cj.ox.es.map EH.abs = d2.out.entries ++ (fes.take j).map EH.abs := q6.out.ea
         rw [← ho2, ← e, List.length_map]
        have hel : cj.ox.es.length = cj.ox.oe.n := by
         have := q6.out.oe.sl.len
         rw [encs_length] at this; omega
        have hel3 : cj.ox.oe.n ≤ 1000008 := by
         rw [← hel, hel2, List.length_append, List.length_map, List.length_take]; omega
        clear t8 a8 e8 k7 n7 s7 t10 a10 e10 k8
        refine ADrawn.mk ((few h10 [b2, p, b16])) [12] (few_sub _ _) (by decide +kernel) ?_; conv=>whnf
        refine ALoad.one rfl ((few_at (by simp)).trans k210) rfl ?_; conv=>whnf
        refine ALoad.one rfl ((few_at (by simp)).trans k210) rfl ?_; conv=>whnf
        refine ALoad.one rfl ((few_at (by simp)).trans q10.str) rfl ?_; conv=>whnf
        refine ALoad.agg rfl ((few_at (by simp)).trans k10) rfl rfl ?_; conv=>whnf
        refine ABuildSl.mkN (0, 1) en.cells rfl rfl rfl rfl rfl rfl (by rw [hen]; rfl) fun b17 h11 n11 s11 k11 => ?_; conv=>whnf
        refine ⟨(few_sub _ _).trans s11, ?_⟩; conv=>whnf
        refine AAppend.own (t := (oo, 1)) (E := 59) (z := 4) (by_ := 48) (zero := entry0z) (tx := (0, 1)) (xs := en.cells) rfl ⟨_, rfl⟩ rfl rfl rfl rfl (by omega) (q10.out.oe.move fun _ _ e => s11 _ _ e)
         ⟨rfl, Nat.le_refl _, .inr ⟨b17, 0, _, _, _, rfl, k11, rfl⟩⟩ (by rw [hen]; rfl) (by omega) (by omega) fun a12 c12 h12 ow12 t12 _ => ?_
        conv=>whnf
        have p12 := t12.get (u := (o, 0)) (fun c => ap.a (congrArg Prod.fst c)) (s11 _ _ q10.str)
        have e12 := t12.get (u := (0, 1)) (fun c => ap.d (congrArg Prod.fst c).symm) (s11 _ _ k10)
        have k212 := t12.get (u := (0, 1)) (fun c => ap.d (congrArg Prod.fst c).symm) (s11 _ _ k210)
        have k312 := t12.get (u := (0, 1)) (fun c => ap.d (congrArg Prod.fst c).symm) (s11 _ _ k310)
        refine ⟨few_get fun z hz w hw => ?_, ?_⟩
        ·simp only [List.mem_cons, List.not_mem_nil, or_false] at hz
         rcases hz with rfl | rfl | rfl
         ·rw [k210] at hw; cases hw; exact k212
         ·rw [q10.str] at hw; cases hw; exact p12
         ·rw [k10] at hw; cases hw; exact e12
        conv=>whnf
        refine AStore.oneN rfl rfl rfl (p12) rfl (coreCells { ({ d2 with out := { d2.out with entries := d2.out.entries ++ (fes.take j).map EH.abs } } : CoreM) with out := { ({ d2 with out := { d2.out with entries := d2.out.entries ++ (fes.take j).map EH.abs } } : CoreM).out with entries := ({ d2 with out := { d2.out with entries := d2.out.entries ++ (fes.take j).map EH.abs } } : CoreM).out.entries ++ [en.abs] } } { cj with ox := { cj.ox with oe := ⟨a12, cj.ox.oe.n + 1, c12⟩, es := cj.ox.es ++ [en] } }) rfl fun h13 t13 k13 a13 e13 => ?_; conv=>whnf
        have q13 := CoreX.pushE ap (q10.sub s11) t12 ow12 (Own.sub m10 s11) hnn t13 k13
        have KK13 : Keeps [o, o + 1, oo] h6 h13 := ((s610.trans s11).keeps _).trans ((t12.keep.keeps (by simp)).trans (t13.keep.keeps (by simp)))
        have hsucc : d2.out.entries ++ (fes.take j).map EH.abs ++ [en.abs] = d2.out.entries ++ (fes.take (j + 1)).map EH.abs := by
         rw [List.take_succ_eq_append_getElem (show j < fes.length by omega), (List.getElem?_eq_some_iff.1 hy).2, List.map_append, List.append_assoc, hea]; rfl
        simp only [hsucc] at q13
        refine AArith.ok (by omega) (by omega) ((by omega : (j : Int) + 1 = ((j + 1 : Nat) : Int))) ?_; conv=>whnf
        refine ⟨⟨_, j + 1, _, updL_self ⟨rfl, rfl, rfl, rfl, rfl, rfl, trivial⟩, by omega, q13, KK6.trans KK13, t13.get (tag_ne ap.c) k212, t13.get (tag_ne ap.c) k312, X6.keeps KK13 tn1 tn2⟩, ?_⟩
        show fn - (j + 1) < fn - j
        omega
       ·refine ACmp.no (by omega) ?_; conv=>whnf
        obtain rfl : j = fn := by omega
        rw [List.take_of_length_le (by omega)] at q6
        obtain ⟨DDv, hDD⟩ : ∃ D : CoreM, D = { d2 with out := { d2.out with entries := d2.out.entries ++ fes.map EH.abs } } := ⟨_, rfl⟩
        rw [← hDD] at q6
        have HR : c.appendRest ((x.es.drop kd).map EH.abs) = DDv := by rw [hDD, hd2]; exact hrc
        have hpp : DDv.out.posts.length ≤ 1000000000 := by rw [hDD, hd2]; exact hp
        refine ADrawn.mk (h6) [12] (Sub.refl _) (by decide +kernel) ?_; conv=>whnf
        refine ALoad.one rfl k26 rfl ?_; conv=>whnf
        refine ALoad.one rfl k26 rfl ?_; conv=>whnf
        refine ALoad.one rfl q6.str rfl ?_; conv=>whnf
        refine ALoad.one rfl k36 rfl ?_; conv=>whnf
        refine AInt.as (rfl) ?_; conv=>whnf
        refine AInt.as (rfl) ?_; conv=>whnf
        refine AStore.oneN rfl rfl rfl (q6.str) rfl (coreCells { DDv with commit := if DDv.commit < (if stop < x.commit then stop else x.commit) then (if stop < x.commit then stop else x.commit) else DDv.commit } cj) rfl fun hY tY kY aY eY => ?_; conv=>whnf
        have qY := q6.set' ap.a tY kY
        have kY2 := tY.get (tag_ne ap.c) k26
        have kY3 := tY.get (tag_ne ap.c) k36
        refine ALoad.one rfl kY2 rfl ?_; conv=>whnf
        refine ALoad.one rfl kY3 rfl ?_; conv=>whnf
        refine ALoad.one rfl kY3 rfl ?_; conv=>whnf
        refine ACalls.mono (say_any ap.a ap.b ap.c ap.d ⟨_, qY⟩ x.src { post1 with kind := 4, ok := true, index := stop, hint := x.hint } (made0 rfl rfl rfl rfl) hpp) ?_; rintro _ hZ ⟨rfl, kZ, kkZ⟩; conv=>whnf
        refine ⟨rfl, ?_, KK6.trans ((tY.keep.keeps (by simp)).trans (kkZ.mono (by simp)))⟩
        have hst : x.abs.index + (x.abs.entries.length : Int) = stop := by rw [hstop, ← hxl]; simp [PH.abs]
        unfold CoreM.appendOk
        rw [HR]
        simp only [hst]
        exact kZ
     ·conv=>whnf
      refine ACmp.no ((by omega)) ?_; conv=>whnf
      have hfr : c.log.fresh ((x.es.drop kd).map EH.abs) = [] := by
       rw [fresh_of (k := ((x.es.drop kd).map EH.abs).length) (fun j e hj hje => by
        rw [List.getElem?_map] at hje
        cases hz : (x.es.drop kd)[j]? with
        | none => rw [hz] at hje; cases hje
        | some z =>
         rw [hz] at hje; cases hje
         have := hpf j z (by have := (List.getElem?_eq_some_iff.1 hz).1; omega) hz
         show c.has z.index z.term = true
         simpa using this) (.inl rfl), List.drop_length]
      have HR := appendRest_nil hfr
      have KK2 : Keeps [o, o + 1, oo] h h2 := s12.keeps _
      refine ADrawn.mk (h2) [12] (Sub.refl _) (by decide +kernel) ?_; conv=>whnf
      refine ALoad.one rfl k2 rfl ?_; conv=>whnf
      refine ALoad.one rfl k2 rfl ?_; conv=>whnf
      refine ALoad.one rfl q.str rfl ?_; conv=>whnf
      refine ALoad.one rfl k3 rfl ?_; conv=>whnf
      refine AInt.as (rfl) ?_; conv=>whnf
      refine AInt.as (rfl) ?_; conv=>whnf
      refine AStore.oneN rfl rfl rfl (q.str) rfl (coreCells { c with commit := if c.commit < (if stop < x.commit then stop else x.commit) then (if stop < x.commit then stop else x.commit) else c.commit } cx) rfl fun hY tY kY aY eY => ?_; conv=>whnf
      have qY := q.set' ap.a tY kY
      have kY2 := tY.get (tag_ne ap.c) k2
      have kY3 := tY.get (tag_ne ap.c) k3
      refine ALoad.one rfl kY2 rfl ?_; conv=>whnf
      refine ALoad.one rfl kY3 rfl ?_; conv=>whnf
      refine ALoad.one rfl kY3 rfl ?_; conv=>whnf
      refine ACalls.mono (say_any ap.a ap.b ap.c ap.d ⟨_, qY⟩ x.src { post1 with kind := 4, ok := true, index := stop, hint := x.hint } (made0 rfl rfl rfl rfl) hp) ?_; rintro _ hZ ⟨rfl, kZ, kkZ⟩; conv=>whnf
      refine ⟨rfl, ?_, KK2.trans ((tY.keep.keeps (by simp)).trans (kkZ.mono (by simp)))⟩
      have hst : x.abs.index + (x.abs.entries.length : Int) = stop := by rw [hstop, ← hxl]; simp [PH.abs]
      unfold CoreM.appendOk
      rw [HR]
      simp only [hst]
      exact kZ
  ·rw [Bool.eq_false_iff.2 hh] at hcall
   refine ACalls.mono (hcall) ?_; rintro _ _ ⟨rfl, rfl⟩; conv=>whnf
   rw [if_pos (.inl (Bool.eq_false_iff.2 hh))]
   refine ALoad.one rfl k2 rfl ?_; conv=>whnf
   refine ALoad.one rfl q.str rfl ?_; conv=>whnf
   refine ACalls.mono (Last_c q.log lk.lo) ?_; rintro _ _ ⟨rfl, rfl⟩; conv=>whnf
   refine ALoad.one rfl k2 rfl ?_; conv=>whnf
   refine ALoad.one rfl k3 rfl ?_; conv=>whnf
   refine AArith.ok (by omega) (by omega) (rfl) ?_; conv=>whnf
   refine AInt.as (rfl) ?_; conv=>whnf
   refine ALoad.one rfl k3 rfl ?_; conv=>whnf
   refine ACalls.mono (say_any ap.a ap.b ap.c ap.d ⟨_, q⟩ x.src { post1 with kind := 4, index := (if c.log.last.1 < c.log.bi - 1 then c.log.last.1 else c.log.bi - 1), hint := x.hint } (made0 rfl rfl rfl rfl) hp) ?_; rintro _ hB ⟨rfl, kB, kkB⟩; conv=>whnf
   exact ⟨rfl, kB, (s12.keeps _).trans (kkB.mono (by simp))⟩
 ·refine ACmp.no (c1) ?_; conv=>whnf
  rw [show aIndex c x.abs = x.index from if_neg c1, show aTerm c x.abs = x.logTerm from if_neg c1, show aList c x.abs = x.es.map EH.abs from if_neg c1]
  have XL := X2
  have hls := hsm
  have hll : x.es.length = x.e.n := hxl
  refine ALoad.one rfl k2 rfl ?_; conv=>whnf
  refine ALoad.one rfl q.str rfl ?_; conv=>whnf
  have hcall : ACalls PR 122 #[Ptr cx.log, I x.index, I x.logTerm] h2 (fun v h' => v = .bool (c.has x.index x.logTerm) ∧ h2 = h') := Has_c q.log lk.lo x.index x.logTerm
  by_cases hh : c.has x.index x.logTerm = true
  ·rw [hh] at hcall
   refine ACalls.mono (hcall) ?_; rintro _ _ ⟨rfl, rfl⟩; conv=>whnf
   by_cases hln : x.e.n = 0
   ·refine ACmp.no ((by omega)) ?_; conv=>whnf
    rw [if_neg (by rw [hh, List.length_eq_zero_iff.1 (by omega : x.es.length = 0)]; simp [headLow])]
    have A : AsksE 180 [Ptr b2] x.es (fun e => !c.has e.index e.term) h2 := by
     intro e he h' s
     refine acalls_pure (acalls_of mix Tryz.func180 rfl rfl Tryz.ntmps180 Tryz.results180 rfl ?_); conv=>whnf
     refine ABox.mkN (0, 1) (e.cells) rfl fun b5 h5 n5 s5 k5 => ?_; conv=>whnf
     refine ADrawn.mk (h5) [] (Sub.refl _) (by decide +kernel) ?_; conv=>whnf
     refine ALoad.one rfl (s5 _ _ (s _ _ k2)) rfl ?_; conv=>whnf
     refine ALoad.one rfl (s5 _ _ (s _ _ q.str)) rfl ?_; conv=>whnf
     refine ALoad.one rfl k5 rfl ?_; conv=>whnf
     refine ALoad.one rfl k5 rfl ?_; conv=>whnf
     refine ACalls.mono (Has_c (q.sub (s.trans s5)).log lk.lo e.index e.term) ?_; rintro _ _ ⟨rfl, rfl⟩; conv=>whnf
     refine ⟨Sub.refl _, ?_⟩; conv=>whnf
     exact ⟨rfl, s5⟩
    refine ACalls.mono (IndexFuncE_any A XL (by omega)) ?_
    rintro _ _ ⟨⟨kf, hkf, hpf, ⟨hkn, rfl, e0, he0, hP⟩ | ⟨hkn, rfl⟩⟩, rfl⟩
    ·conv=>whnf
     refine ACmp.yes ((by omega)) ?_; conv=>whnf
     have hfr : c.log.fresh (x.es.map EH.abs) = (x.es.map EH.abs).drop kf := fresh_of (fun j e hj hje => by
       rw [List.getElem?_map] at hje
       cases hz : x.es[j]? with
       | none => rw [hz] at hje; cases hje
       | some z =>
        rw [hz] at hje; cases hje
        have := hpf j z hj hz
        show c.has z.index z.term = true
        simpa using this) (.inr ⟨e0.abs, by rw [List.getElem?_map, he0]; rfl, by show c.has e0.index e0.term = false; simpa using hP⟩)
     refine ASlc.from (z := 4) (l := kf) rfl (by omega) XL.sl.le rfl rfl ?_; conv=>whnf
     have XF := XL.from (l := kf) (by omega)
     generalize slBase x.e.a kf x.e.c 4 = fa at XF ⊢
     obtain ⟨fn, hfn⟩ : ∃ fn, fn = x.e.n - kf := ⟨_, rfl⟩
     obtain ⟨fc, hfc⟩ : ∃ fc, fc = x.e.c - kf := ⟨_, rfl⟩
     obtain ⟨fes, hfes⟩ : ∃ fes, fes = x.es.drop kf := ⟨_, rfl⟩
     rw [← hfn, ← hfc, ← hfes] at XF
     rw [← hfn, ← hfc]
     have hfl : fes.length = fn := XF.len
     have hfs : ∀ y ∈ fes, y.n ≤ 1200 := fun y hy => hls y (by rw [hfes] at hy; exact List.mem_of_mem_drop hy)
     have he0' : fes[0]? = some e0 := by rw [hfes, List.getElem?_drop, Nat.add_zero]; exact he0
     obtain ⟨fr, hfr2⟩ : ∃ r, fes = e0 :: r := by
      cases fes with
      | nil => simp at he0'
      | cons z r => simp at he0'; exact ⟨r, by rw [he0']⟩
     have hfr3 : c.log.fresh (x.es.map EH.abs) = e0.abs :: fr.map EH.abs := by rw [hfr, ← List.map_drop, ← hfes, hfr2]; rfl
     have hfr4 : fes.map EH.abs = e0.abs :: fr.map EH.abs := by rw [hfr2]; rfl
     refine ALoad.one rfl k2 rfl ?_; conv=>whnf
     refine ALoad.one rfl q.str rfl ?_; conv=>whnf
     refine ACalls.mono (Last_c q.log lk.lo) ?_; rintro _ _ ⟨rfl, rfl⟩; conv=>whnf
     obtain ⟨bg, og, lg, Eg, fzg, ega, hbg, hcg⟩ := XF.sl.pos (by omega)
     have gi : lg[og + 0 * 4 + 1]? = some (I e0.index) := by
      rw [Nat.add_assoc, get_of_take hcg (by omega), encs_get he0' (by omega)]; rfl
     have ega' := ega
     subst ega
     refine AIdx.nat (n := fn) (z := 4) (j := 0) rfl (by omega) rfl rfl ?_; conv=>whnf
     refine ALoad.one rfl hbg gi ?_; conv=>whnf
     have hcut : c.cutAt e0.abs = if e0.index ≤ c.log.last.1 then { c with log := (c.log.cut e0.index).2, out := { c.out with cut := e0.index } } else c := rfl
     by_cases cl : e0.index ≤ c.log.last.1
     ·refine ACmp.yes (cl) ?_; conv=>whnf
      rw [if_pos cl] at hcut
      refine ADrawn.mk (h2) [8] (Sub.refl _) (by decide +kernel) ?_; conv=>whnf
      refine ALoad.one rfl k2 rfl ?_; conv=>whnf
      refine ALoad.one rfl q.str rfl ?_; conv=>whnf
      refine AIdx.nat (n := fn) (z := 4) (j := 0) rfl (by omega) rfl rfl ?_; conv=>whnf
      refine ALoad.one rfl hbg gi ?_; conv=>whnf
      refine ACalls.mono (Cut_c q.log lk.lo e0.index) ?_; rintro _ h3 ⟨rfl, l3, kk3⟩; conv=>whnf
      have k23 := kk3.get (by simp) k2
      have k33 := kk3.get (by simp) k3
      have q3 := kk3.get (by simp) q.str
      have hbg3 := kk3.get (fun c => tn1 (by rw [c]; simp)) hbg
      refine ADrawn.mk (h3) [8] (Sub.refl _) (by decide +kernel) ?_; conv=>whnf
      refine ALoad.one rfl k23 rfl ?_; conv=>whnf
      refine AIdx.nat (n := fn) (z := 4) (j := 0) rfl (by omega) rfl rfl ?_; conv=>whnf
      refine ALoad.one rfl hbg3 gi ?_; conv=>whnf
      refine AStore.oneN rfl rfl rfl (q3) rfl (coreCells { c with log := (c.log.cut e0.index).2, out := { c.out with cut := e0.index } } cx) rfl fun h4 t4 k4 a4 e4 => ?_; conv=>whnf
      have q4 : CoreX 81 LA h4 p o oo { c with log := (c.log.cut e0.index).2, out := { c.out with cut := e0.index } } cx := ⟨k4, (q.sd.move fun b y e => kk3.get (by simp) e).keepT t4 (by simp), KeepT.log l3 t4, (q.rd.move fun b y e => kk3.get (by simp) e).keepT t4 (by simp), by
       have z := (q.out.move fun b t y ht e => kk3 _ _ _ (by rw [ht]; exact ap.b.symm) e : OutOk h3 oo c.out cx.ox).keepT ap.a t4
       exact ⟨z.od, z.oe, z.ed, z.ea, z.es, z.op, z.ps, z.pa, z.qr⟩⟩
      obtain ⟨DCv, hDC⟩ : ∃ D : CoreM, D = { c with log := (c.log.cut e0.index).2, out := { c.out with cut := e0.index } } := ⟨_, rfl⟩
      rw [← hDC] at q4 hcut
      have KK4 : Keeps [o, o + 1, oo] h h4 := (s12.keeps _).trans ((kk3.keeps (by simp)).trans (t4.keep.keeps (by simp)))
      have K24 := t4.get (tag_ne ap.c) k23
      have K34 := t4.get (tag_ne ap.c) k33
      have XF4 := XF.keeps (((kk3.keeps (by simp) : Keeps [o, o + 1, oo] h2 h3)).trans (t4.keep.keeps (by simp))) tn1 tn2
      have lk4 : LOk DCv.log := by rw [hDC]; exact lk.lo.cut _
      have hcl : DCv.log.es.length ≤ c.log.es.length := by
       rw [hDC]; simp only [LG.cut]; split
       ·simp only [List.length_take]; omega
       ·exact Nat.le_refl _
      have hpc : DCv.out.posts.length ≤ 1000000000 := by rw [hDC]; exact hp
      have hec : DCv.out.entries.length ≤ 1000000 := by rw [hDC]; exact hoe
      have hrc : c.appendRest (x.es.map EH.abs) = { ({ DCv with log := (DCv.log.append (fes.map EH.abs)).2 } : CoreM) with out := { ({ DCv with log := (DCv.log.append (fes.map EH.abs)).2 } : CoreM).out with entries := ({ DCv with log := (DCv.log.append (fes.map EH.abs)).2 } : CoreM).out.entries ++ fes.map EH.abs } } := by
       rw [appendRest_cons hfr3, hcut, hfr4]
      obtain ⟨fa, hfa⟩ : ∃ fa : Option Addr, fa = some ⟨bg, og, none⟩ := ⟨_, rfl⟩
      rw [← hfa] at XF4 ⊢
      have lkD : LOk DCv.log := lk4
      refine ALoad.one rfl K24 rfl ?_; conv=>whnf
      refine ALoad.one rfl q4.str rfl ?_; conv=>whnf
      have hfn8 : fn ≤ 8 := by omega
      refine ACalls.mono (Append_c (by omega : o + 1 ≠ 0) q4.log lkD (t := t1) (td := t2) (fun c => tn1 (by rw [c]; simp)) (fun c => tn2 (by rw [c]; simp)) XF4 (by omega)) ?_; rintro _ h5 ⟨rfl, l5, kk5⟩; conv=>whnf
      have k25 := kk5.get (by simp) K24
      have k35 := kk5.get (by simp) K34
      have q5' := kk5.get (by simp) q4.str
      obtain ⟨d2, hd2⟩ : ∃ d2 : CoreM, d2 = { DCv with log := (DCv.log.append (fes.map EH.abs)).2 } := ⟨_, rfl⟩
      have q5 : CoreX 81 LA h5 p o oo d2 cx := by
       rw [hd2]
       exact ⟨q5', q4.sd.move fun b y e => kk5.get (by simp) e, l5, q4.rd.move fun b y e => kk5.get (by simp) e, q4.out.move fun b t y ht e => kk5 _ _ _ (by rw [ht]; exact ap.b.symm) e⟩
      have KK5 : Keeps [o, o + 1, oo] h h5 := KK4.trans (kk5.keeps (by simp))
      have X5 := XF4.keeps (kk5.keeps (by simp) : Keeps [o, o + 1, oo] _ h5) tn1 tn2
      have ho2 : d2.out = DCv.out := by rw [hd2]
      refine ALoop.mk (fun e h' => ∃ e0, ∃ j : Nat, ∃ cj : CX, e = updL 184 e0 [(2, Ptr b2), (3, Ptr b3), (4, I stop), (141, .slice fa fn fc), (142, I fn), (143, I j)] ∧ j ≤ fn ∧
        CoreX 81 LA h' p o oo { d2 with out := { d2.out with entries := d2.out.entries ++ (fes.take j).map EH.abs } } cj ∧ Keeps [o, o + 1, oo] h h' ∧ h' b2 = some (row (0, 1) [Ptr p] 27) ∧ h' b3 = some (row (0, 1) x.cells 49) ∧ Ents h' t1 t2 fa fn fc fes) (fun e => fn - natOf (e 143))
       ⟨_, 0, cx, updL_self ⟨rfl, rfl, rfl, rfl, rfl, rfl, trivial⟩, by omega, by rw [List.take_zero, List.map_nil, List.append_nil]; exact q5, KK5, k25, k35, X5⟩ ?_
      rintro e h6 ⟨e0, j, cj, rfl, hj, q6, KK6, k26, k36, X6⟩
      conv=>whnf
      by_cases hjn : j < fn
      ·refine ACmp.yes (by omega) ?_; conv=>whnf
       obtain ⟨y, hy⟩ : ∃ y, fes[j]? = some y := ⟨fes[j]'(by omega), by simp⟩
       have my := List.mem_of_getElem? hy
       have hyn : y.n ≤ 1200 := hfs y my
       obtain ⟨bf, off, lf, Ef, fzf, efa, hbf, hcf⟩ := X6.sl.pos (by omega)
       have g0 : (lf.drop (off + j * 4)).take 4 = y.cells := by rw [part_of_take hcf (by omega), encs_part hy]
       subst efa
       refine AIdx.nat (z := 4) (j := j) rfl hjn rfl rfl ?_; conv=>whnf
       refine ALoad.agg rfl hbf g0 rfl ?_; conv=>whnf
       refine AAlloc.mkN (0, 1) (entry0z) rfl fun b16 h7 n7 s7 k7 => ?_; conv=>whnf
       refine AStore.aggN rfl rfl rfl (k7) rfl (y.cells) rfl fun h8 t8 k8 a8 e8 => ?_; conv=>whnf
       have s68 : Sub h6 h8 := a8 h6 s7 n7
       refine ALoad.one rfl k8 rfl ?_; conv=>whnf
       refine ACalls.mono (cloneB_any h8 (oo, 2) (Sl.sub (X6.good y my) s68) (by omega)) ?_
       rintro v h9 ⟨a', c', rfl, ow9, s9⟩
       conv=>whnf
       refine AStore.oneN rfl rfl rfl ((s9 _ _ k8)) rfl ([I y.term, I y.index, I y.kind, .slice a' y.n c']) rfl fun h10 t10 k10 a10 e10 => ?_; conv=>whnf
       have s610 : Sub h6 h10 := a10 h6 (s68.trans s9) n7
       have ow10 := ow9.keepT t10 (fun c => ap.d (congrArg Prod.fst c))
       obtain ⟨en, hen⟩ : ∃ en : EH, en = ⟨y.term, y.index, y.kind, a', y.n, c', y.data⟩ := ⟨_, rfl⟩
       have hea : en.abs = y.abs := by rw [hen]; rfl
       have hnn : en.n ≤ 1200 := by rw [hen]; exact hyn
       rw [show [I y.term, I y.index, I y.kind, Value.slice a' y.n c'] = en.cells by rw [hen]; rfl] at k10
       have m10 : en.Mine h10 (oo, 2) := by rw [hen]; exact ow10
       have q10 := q6.sub s610
       have k210 := s610 _ _ k26
       have k310 := s610 _ _ k36
       have hel2 : cj.ox.es.length = (DCv.out.entries ++ (fes.take j).map EH.abs).length := by
        have e : cj.ox.es.map EH.abs = d2.out.entries ++ (fes.take j).map EH.abs := q6.out.ea
        rw [← ho2, ← e, List.length_map]
       have hel : cj.ox.es.length = cj.ox.oe.n := by
        have := q6.out.oe.sl.len
        rw [encs_length] at this; omega
       have hel3 : cj.ox.oe.n ≤ 1000008 := by
        rw [← hel, hel2, List.length_append, List.length_map, List.length_take]; omega
       clear t8 a8 e8 k7 n7 s7 t10 a10 e10 k8
       refine ADrawn.mk ((few h10 [b2, p, b16])) [12] (few_sub _ _) (by decide +kernel) ?_; conv=>whnf
       refine ALoad.one rfl ((few_at (by simp)).trans k210) rfl ?_; conv=>whnf
       refine ALoad.one rfl ((few_at (by simp)).trans k210) rfl ?_; conv=>whnf
       refine ALoad.one rfl ((few_at (by simp)).trans q10.str) rfl ?_; conv=>whnf
       refine ALoad.agg rfl ((few_at (by simp)).trans k10) rfl rfl ?_; conv=>whnf
       refine ABuildSl.mkN (0, 1) en.cells rfl rfl rfl rfl rfl rfl (by rw [hen]; rfl) fun b17 h11 n11 s11 k11 => ?_; conv=>whnf
       refine ⟨(few_sub _ _).trans s11, ?_⟩; conv=>whnf
       refine AAppend.own (t := (oo, 1)) (E := 59) (z := 4) (by_ := 48) (zero := entry0z) (tx := (0, 1)) (xs := en.cells) rfl ⟨_, rfl⟩ rfl rfl rfl rfl (by omega) (q10.out.oe.move fun _ _ e => s11 _ _ e)
        ⟨rfl, Nat.le_refl _, .inr ⟨b17, 0, _, _, _, rfl, k11, rfl⟩⟩ (by rw [hen]; rfl) (by omega) (by omega) fun a12 c12 h12 ow12 t12 _ => ?_
       conv=>whnf
       have p12 := t12.get (u := (o, 0)) (fun c => ap.a (congrArg Prod.fst c)) (s11 _ _ q10.str)
       have e12 := t12.get (u := (0, 1)) (fun c => ap.d (congrArg Prod.fst c).symm) (s11 _ _ k10)
       have k212 := t12.get (u := (0, 1)) (fun c => ap.d (congrArg Prod.fst c).symm) (s11 _ _ k210)
       have k312 := t12.get (u := (0, 1)) (fun c => ap.d (congrArg Prod.fst c).symm) (s11 _ _ k310)
       refine ⟨few_get fun z hz w hw => ?_, ?_⟩
       ·simp only [List.mem_cons, List.not_mem_nil, or_false] at hz
        rcases hz with rfl | rfl | rfl
        ·rw [k210] at hw; cases hw; exact k212
        ·rw [q10.str] at hw; cases hw; exact p12
        ·rw [k10] at hw; cases hw; exact e12
       conv=>whnf
       refine AStore.oneN rfl rfl rfl (p12) rfl (coreCells { ({ d2 with out := { d2.out with entries := d2.out.entries ++ (fes.take j).map EH.abs } } : CoreM) with out := { ({ d2 with out := { d2.out with entries := d2.out.entries ++ (fes.take j).map EH.abs } } : CoreM).out with entries := ({ d2 with out := { d2.out with entries := d2.out.entries ++ (fes.take j).map EH.abs } } : CoreM).out.entries ++ [en.abs] } } { cj with ox := { cj.ox with oe := ⟨a12, cj.ox.oe.n + 1, c12⟩, es := cj.ox.es ++ [en] } }) rfl fun h13 t13 k13 a13 e13 => ?_; conv=>whnf
       have q13 := CoreX.pushE ap (q10.sub s11) t12 ow12 (Own.sub m10 s11) hnn t13 k13
       have KK13 : Keeps [o, o + 1, oo] h6 h13 := ((s610.trans s11).keeps _).trans ((t12.keep.keeps (by simp)).trans (t13.keep.keeps (by simp)))
       have hsucc : d2.out.entries ++ (fes.take j).map EH.abs ++ [en.abs] = d2.out.entries ++ (fes.take (j + 1)).map EH.abs := by
        rw [List.take_succ_eq_append_getElem (show j < fes.length by omega), (List.getElem?_eq_some_iff.1 hy).2, List.map_append, List.append_assoc, hea]; rfl
       simp only [hsucc] at q13
       refine AArith.ok (by omega) (by omega) ((by omega : (j : Int) + 1 = ((j + 1 : Nat) : Int))) ?_; conv=>whnf
       refine ⟨⟨_, j + 1, _, updL_self ⟨rfl, rfl, rfl, rfl, rfl, rfl, trivial⟩, by omega, q13, KK6.trans KK13, t13.get (tag_ne ap.c) k212, t13.get (tag_ne ap.c) k312, X6.keeps KK13 tn1 tn2⟩, ?_⟩
       show fn - (j + 1) < fn - j
       omega
      ·refine ACmp.no (by omega) ?_; conv=>whnf
       obtain rfl : j = fn := by omega
       rw [List.take_of_length_le (by omega)] at q6
       obtain ⟨DDv, hDD⟩ : ∃ D : CoreM, D = { d2 with out := { d2.out with entries := d2.out.entries ++ fes.map EH.abs } } := ⟨_, rfl⟩
       rw [← hDD] at q6
       have HR : c.appendRest (x.es.map EH.abs) = DDv := by rw [hDD, hd2]; exact hrc
       have hpp : DDv.out.posts.length ≤ 1000000000 := by rw [hDD, hd2]; exact hpc
       refine ADrawn.mk (h6) [12] (Sub.refl _) (by decide +kernel) ?_; conv=>whnf
       refine ALoad.one rfl k26 rfl ?_; conv=>whnf
       refine ALoad.one rfl k26 rfl ?_; conv=>whnf
       refine ALoad.one rfl q6.str rfl ?_; conv=>whnf
       refine ALoad.one rfl k36 rfl ?_; conv=>whnf
       refine AInt.as (rfl) ?_; conv=>whnf
       refine AInt.as (rfl) ?_; conv=>whnf
       refine AStore.oneN rfl rfl rfl (q6.str) rfl (coreCells { DDv with commit := if DDv.commit < (if stop < x.commit then stop else x.commit) then (if stop < x.commit then stop else x.commit) else DDv.commit } cj) rfl fun hY tY kY aY eY => ?_; conv=>whnf
       have qY := q6.set' ap.a tY kY
       have kY2 := tY.get (tag_ne ap.c) k26
       have kY3 := tY.get (tag_ne ap.c) k36
       refine ALoad.one rfl kY2 rfl ?_; conv=>whnf
       refine ALoad.one rfl kY3 rfl ?_; conv=>whnf
       refine ALoad.one rfl kY3 rfl ?_; conv=>whnf
       refine ACalls.mono (say_any ap.a ap.b ap.c ap.d ⟨_, qY⟩ x.src { post1 with kind := 4, ok := true, index := stop, hint := x.hint } (made0 rfl rfl rfl rfl) hpp) ?_; rintro _ hZ ⟨rfl, kZ, kkZ⟩; conv=>whnf
       refine ⟨rfl, ?_, KK6.trans ((tY.keep.keeps (by simp)).trans (kkZ.mono (by simp)))⟩
       have hst : x.abs.index + (x.abs.entries.length : Int) = stop := by rw [hstop, ← hxl]; simp [PH.abs]
       unfold CoreM.appendOk
       rw [HR]
       simp only [hst]
       exact kZ
     ·refine ACmp.no (cl) ?_; conv=>whnf
      rw [if_neg cl] at hcut
      have hrc : c.appendRest (x.es.map EH.abs) = { ({ c with log := (c.log.append (fes.map EH.abs)).2 } : CoreM) with out := { ({ c with log := (c.log.append (fes.map EH.abs)).2 } : CoreM).out with entries := ({ c with log := (c.log.append (fes.map EH.abs)).2 } : CoreM).out.entries ++ fes.map EH.abs } } := by
       rw [appendRest_cons hfr3, hcut, hfr4]
      have KK2 : Keeps [o, o + 1, oo] h h2 := s12.keeps _
      obtain ⟨fa, hfa⟩ : ∃ fa : Option Addr, fa = some ⟨bg, og, none⟩ := ⟨_, rfl⟩
      rw [← hfa] at XF ⊢
      have lkD : LOk c.log := lk.lo
      refine ALoad.one rfl k2 rfl ?_; conv=>whnf
      refine ALoad.one rfl q.str rfl ?_; conv=>whnf
      have hfn8 : fn ≤ 8 := by omega
      refine ACalls.mono (Append_c (by omega : o + 1 ≠ 0) q.log lkD (t := t1) (td := t2) (fun c => tn1 (by rw [c]; simp)) (fun c => tn2 (by rw [c]; simp)) XF (by omega)) ?_; rintro _ h5 ⟨rfl, l5, kk5⟩; conv=>whnf
      have k25 := kk5.get (by simp) k2
      have k35 := kk5.get (by simp) k3
      have q5' := kk5.get (by simp) q.str
      obtain ⟨d2, hd2⟩ : ∃ d2 : CoreM, d2 = { c with log := (c.log.append (fes.map EH.abs)).2 } := ⟨_, rfl⟩
      have q5 : CoreX 81 LA h5 p o oo d2 cx := by
       rw [hd2]
       exact ⟨q5', q.sd.move fun b y e => kk5.get (by simp) e, l5, q.rd.move fun b y e => kk5.get (by simp) e, q.out.move fun b t y ht e => kk5 _ _ _ (by rw [ht]; exact ap.b.symm) e⟩
      have KK5 : Keeps [o, o + 1, oo] h h5 := KK2.trans (kk5.keeps (by simp))
      have X5 := XF.keeps (kk5.keeps (by simp) : Keeps [o, o + 1, oo] _ h5) tn1 tn2
      have ho2 : d2.out = c.out := by rw [hd2]
      refine ALoop.mk (fun e h' => ∃ e0, ∃ j : Nat, ∃ cj : CX, e = updL 184 e0 [(2, Ptr b2), (3, Ptr b3), (4, I stop), (141, .slice fa fn fc), (142, I fn), (143, I j)] ∧ j ≤ fn ∧
        CoreX 81 LA h' p o oo { d2 with out := { d2.out with entries := d2.out.entries ++ (fes.take j).map EH.abs } } cj ∧ Keeps [o, o + 1, oo] h h' ∧ h' b2 = some (row (0, 1) [Ptr p] 27) ∧ h' b3 = some (row (0, 1) x.cells 49) ∧ Ents h' t1 t2 fa fn fc fes) (fun e => fn - natOf (e 143))
       ⟨_, 0, cx, updL_self ⟨rfl, rfl, rfl, rfl, rfl, rfl, trivial⟩, by omega, by rw [List.take_zero, List.map_nil, List.append_nil]; exact q5, KK5, k25, k35, X5⟩ ?_
      rintro e h6 ⟨e0, j, cj, rfl, hj, q6, KK6, k26, k36, X6⟩
      conv=>whnf
      by_cases hjn : j < fn
      ·refine ACmp.yes (by omega) ?_; conv=>whnf
       obtain ⟨y, hy⟩ : ∃ y, fes[j]? = some y := ⟨fes[j]'(by omega), by simp⟩
       have my := List.mem_of_getElem? hy
       have hyn : y.n ≤ 1200 := hfs y my
       obtain ⟨bf, off, lf, Ef, fzf, efa, hbf, hcf⟩ := X6.sl.pos (by omega)
       have g0 : (lf.drop (off + j * 4)).take 4 = y.cells := by rw [part_of_take hcf (by omega), encs_part hy]
       subst efa
       refine AIdx.nat (z := 4) (j := j) rfl hjn rfl rfl ?_; conv=>whnf
       refine ALoad.agg rfl hbf g0 rfl ?_; conv=>whnf
       refine AAlloc.mkN (0, 1) (entry0z) rfl fun b16 h7 n7 s7 k7 => ?_; conv=>whnf
       refine AStore.aggN rfl rfl rfl (k7) rfl (y.cells) rfl fun h8 t8 k8 a8 e8 => ?_; conv=>whnf
       have s68 : Sub h6 h8 := a8 h6 s7 n7
       refine ALoad.one rfl k8 rfl ?_; conv=>whnf
       refine ACalls.mono (cloneB_any h8 (oo, 2) (Sl.sub (X6.good y my) s68) (by omega)) ?_
       rintro v h9 ⟨a', c', rfl, ow9, s9⟩
       conv=>whnf
       refine AStore.oneN rfl rfl rfl ((s9 _ _ k8)) rfl ([I y.term, I y.index, I y.kind, .slice a' y.n c']) rfl fun h10 t10 k10 a10 e10 => ?_; conv=>whnf
       have s610 : Sub h6 h10 := a10 h6 (s68.trans s9) n7
       have ow10 := ow9.keepT t10 (fun c => ap.d (congrArg Prod.fst c))
       obtain ⟨en, hen⟩ : ∃ en : EH, en = ⟨y.term, y.index, y.kind, a', y.n, c', y.data⟩ := ⟨_, rfl⟩
       have hea : en.abs = y.abs := by rw [hen]; rfl
       have hnn : en.n ≤ 1200 := by rw [hen]; exact hyn
       rw [show [I y.term, I y.index, I y.kind, Value.slice a' y.n c'] = en.cells by rw [hen]; rfl] at k10
       have m10 : en.Mine h10 (oo, 2) := by rw [hen]; exact ow10
       have q10 := q6.sub s610
       have k210 := s610 _ _ k26
       have k310 := s610 _ _ k36
       have hel2 : cj.ox.es.length = (c.out.entries ++ (fes.take j).map EH.abs).length := by
        have e : cj.ox.es.map EH.abs = d2.out.entries ++ (fes.take j).map EH.abs := q6.out.ea
        rw [← ho2, ← e, List.length_map]
       have hel : cj.ox.es.length = cj.ox.oe.n := by
        have := q6.out.oe.sl.len
        rw [encs_length] at this; omega
       have hel3 : cj.ox.oe.n ≤ 1000008 := by
        rw [← hel, hel2, List.length_append, List.length_map, List.length_take]; omega
       clear t8 a8 e8 k7 n7 s7 t10 a10 e10 k8
       refine ADrawn.mk ((few h10 [b2, p, b16])) [12] (few_sub _ _) (by decide +kernel) ?_; conv=>whnf
       refine ALoad.one rfl ((few_at (by simp)).trans k210) rfl ?_; conv=>whnf
       refine ALoad.one rfl ((few_at (by simp)).trans k210) rfl ?_; conv=>whnf
       refine ALoad.one rfl ((few_at (by simp)).trans q10.str) rfl ?_; conv=>whnf
       refine ALoad.agg rfl ((few_at (by simp)).trans k10) rfl rfl ?_; conv=>whnf
       refine ABuildSl.mkN (0, 1) en.cells rfl rfl rfl rfl rfl rfl (by rw [hen]; rfl) fun b17 h11 n11 s11 k11 => ?_; conv=>whnf
       refine ⟨(few_sub _ _).trans s11, ?_⟩; conv=>whnf
       refine AAppend.own (t := (oo, 1)) (E := 59) (z := 4) (by_ := 48) (zero := entry0z) (tx := (0, 1)) (xs := en.cells) rfl ⟨_, rfl⟩ rfl rfl rfl rfl (by omega) (q10.out.oe.move fun _ _ e => s11 _ _ e)
        ⟨rfl, Nat.le_refl _, .inr ⟨b17, 0, _, _, _, rfl, k11, rfl⟩⟩ (by rw [hen]; rfl) (by omega) (by omega) fun a12 c12 h12 ow12 t12 _ => ?_
       conv=>whnf
       have p12 := t12.get (u := (o, 0)) (fun c => ap.a (congrArg Prod.fst c)) (s11 _ _ q10.str)
       have e12 := t12.get (u := (0, 1)) (fun c => ap.d (congrArg Prod.fst c).symm) (s11 _ _ k10)
       have k212 := t12.get (u := (0, 1)) (fun c => ap.d (congrArg Prod.fst c).symm) (s11 _ _ k210)
       have k312 := t12.get (u := (0, 1)) (fun c => ap.d (congrArg Prod.fst c).symm) (s11 _ _ k310)
       refine ⟨few_get fun z hz w hw => ?_, ?_⟩
       ·simp only [List.mem_cons, List.not_mem_nil, or_false] at hz
        rcases hz with rfl | rfl | rfl
        ·rw [k210] at hw; cases hw; exact k212
        ·rw [q10.str] at hw; cases hw; exact p12
        ·rw [k10] at hw; cases hw; exact e12
       conv=>whnf
       refine AStore.oneN rfl rfl rfl (p12) rfl (coreCells { ({ d2 with out := { d2.out with entries := d2.out.entries ++ (fes.take j).map EH.abs } } : CoreM) with out := { ({ d2 with out := { d2.out with entries := d2.out.entries ++ (fes.take j).map EH.abs } } : CoreM).out with entries := ({ d2 with out := { d2.out with entries := d2.out.entries ++ (fes.take j).map EH.abs } } : CoreM).out.entries ++ [en.abs] } } { cj with ox := { cj.ox with oe := ⟨a12, cj.ox.oe.n + 1, c12⟩, es := cj.ox.es ++ [en] } }) rfl fun h13 t13 k13 a13 e13 => ?_; conv=>whnf
       have q13 := CoreX.pushE ap (q10.sub s11) t12 ow12 (Own.sub m10 s11) hnn t13 k13
       have KK13 : Keeps [o, o + 1, oo] h6 h13 := ((s610.trans s11).keeps _).trans ((t12.keep.keeps (by simp)).trans (t13.keep.keeps (by simp)))
       have hsucc : d2.out.entries ++ (fes.take j).map EH.abs ++ [en.abs] = d2.out.entries ++ (fes.take (j + 1)).map EH.abs := by
        rw [List.take_succ_eq_append_getElem (show j < fes.length by omega), (List.getElem?_eq_some_iff.1 hy).2, List.map_append, List.append_assoc, hea]; rfl
       simp only [hsucc] at q13
       refine AArith.ok (by omega) (by omega) ((by omega : (j : Int) + 1 = ((j + 1 : Nat) : Int))) ?_; conv=>whnf
       refine ⟨⟨_, j + 1, _, updL_self ⟨rfl, rfl, rfl, rfl, rfl, rfl, trivial⟩, by omega, q13, KK6.trans KK13, t13.get (tag_ne ap.c) k212, t13.get (tag_ne ap.c) k312, X6.keeps KK13 tn1 tn2⟩, ?_⟩
       show fn - (j + 1) < fn - j
       omega
      ·refine ACmp.no (by omega) ?_; conv=>whnf
       obtain rfl : j = fn := by omega
       rw [List.take_of_length_le (by omega)] at q6
       obtain ⟨DDv, hDD⟩ : ∃ D : CoreM, D = { d2 with out := { d2.out with entries := d2.out.entries ++ fes.map EH.abs } } := ⟨_, rfl⟩
       rw [← hDD] at q6
       have HR : c.appendRest (x.es.map EH.abs) = DDv := by rw [hDD, hd2]; exact hrc
       have hpp : DDv.out.posts.length ≤ 1000000000 := by rw [hDD, hd2]; exact hp
       refine ADrawn.mk (h6) [12] (Sub.refl _) (by decide +kernel) ?_; conv=>whnf
       refine ALoad.one rfl k26 rfl ?_; conv=>whnf
       refine ALoad.one rfl k26 rfl ?_; conv=>whnf
       refine ALoad.one rfl q6.str rfl ?_; conv=>whnf
       refine ALoad.one rfl k36 rfl ?_; conv=>whnf
       refine AInt.as (rfl) ?_; conv=>whnf
       refine AInt.as (rfl) ?_; conv=>whnf
       refine AStore.oneN rfl rfl rfl (q6.str) rfl (coreCells { DDv with commit := if DDv.commit < (if stop < x.commit then stop else x.commit) then (if stop < x.commit then stop else x.commit) else DDv.commit } cj) rfl fun hY tY kY aY eY => ?_; conv=>whnf
       have qY := q6.set' ap.a tY kY
       have kY2 := tY.get (tag_ne ap.c) k26
       have kY3 := tY.get (tag_ne ap.c) k36
       refine ALoad.one rfl kY2 rfl ?_; conv=>whnf
       refine ALoad.one rfl kY3 rfl ?_; conv=>whnf
       refine ALoad.one rfl kY3 rfl ?_; conv=>whnf
       refine ACalls.mono (say_any ap.a ap.b ap.c ap.d ⟨_, qY⟩ x.src { post1 with kind := 4, ok := true, index := stop, hint := x.hint } (made0 rfl rfl rfl rfl) hpp) ?_; rintro _ hZ ⟨rfl, kZ, kkZ⟩; conv=>whnf
       refine ⟨rfl, ?_, KK6.trans ((tY.keep.keeps (by simp)).trans (kkZ.mono (by simp)))⟩
       have hst : x.abs.index + (x.abs.entries.length : Int) = stop := by rw [hstop, ← hxl]; simp [PH.abs]
       unfold CoreM.appendOk
       rw [HR]
       simp only [hst]
       exact kZ
    ·conv=>whnf
     refine ACmp.no ((by omega)) ?_; conv=>whnf
     have hfr : c.log.fresh (x.es.map EH.abs) = [] := by
      rw [fresh_of (k := (x.es.map EH.abs).length) (fun j e hj hje => by
       rw [List.getElem?_map] at hje
       cases hz : x.es[j]? with
       | none => rw [hz] at hje; cases hje
       | some z =>
        rw [hz] at hje; cases hje
        have := hpf j z (by have := (List.getElem?_eq_some_iff.1 hz).1; omega) hz
        show c.has z.index z.term = true
        simpa using this) (.inl rfl), List.drop_length]
     have HR := appendRest_nil hfr
     have KK2 : Keeps [o, o + 1, oo] h h2 := s12.keeps _
     refine ADrawn.mk (h2) [12] (Sub.refl _) (by decide +kernel) ?_; conv=>whnf
     refine ALoad.one rfl k2 rfl ?_; conv=>whnf
     refine ALoad.one rfl k2 rfl ?_; conv=>whnf
     refine ALoad.one rfl q.str rfl ?_; conv=>whnf
     refine ALoad.one rfl k3 rfl ?_; conv=>whnf
     refine AInt.as (rfl) ?_; conv=>whnf
     refine AInt.as (rfl) ?_; conv=>whnf
     refine AStore.oneN rfl rfl rfl (q.str) rfl (coreCells { c with commit := if c.commit < (if stop < x.commit then stop else x.commit) then (if stop < x.commit then stop else x.commit) else c.commit } cx) rfl fun hY tY kY aY eY => ?_; conv=>whnf
     have qY := q.set' ap.a tY kY
     have kY2 := tY.get (tag_ne ap.c) k2
     have kY3 := tY.get (tag_ne ap.c) k3
     refine ALoad.one rfl kY2 rfl ?_; conv=>whnf
     refine ALoad.one rfl kY3 rfl ?_; conv=>whnf
     refine ALoad.one rfl kY3 rfl ?_; conv=>whnf
     refine ACalls.mono (say_any ap.a ap.b ap.c ap.d ⟨_, qY⟩ x.src { post1 with kind := 4, ok := true, index := stop, hint := x.hint } (made0 rfl rfl rfl rfl) hp) ?_; rintro _ hZ ⟨rfl, kZ, kkZ⟩; conv=>whnf
     refine ⟨rfl, ?_, KK2.trans ((tY.keep.keeps (by simp)).trans (kkZ.mono (by simp)))⟩
     have hst : x.abs.index + (x.abs.entries.length : Int) = stop := by rw [hstop, ← hxl]; simp [PH.abs]
     unfold CoreM.appendOk
     rw [HR]
     simp only [hst]
     exact kZ
   ·refine ACmp.yes ((by omega)) ?_; conv=>whnf
    obtain ⟨y0, hy0⟩ : ∃ y, x.es[0]? = some y := ⟨x.es[0]'(by omega), by simp⟩
    obtain ⟨yr, hyr⟩ : ∃ r, x.es = y0 :: r := by
     cases hc : x.es with
     | nil => rw [hc] at hy0; simp at hy0
     | cons z r => rw [hc] at hy0; simp at hy0; exact ⟨r, by rw [hy0]⟩
    have hhl : headLow x.logTerm (x.es.map EH.abs) = decide (y0.term < x.logTerm) := by rw [hyr]; rfl
    obtain ⟨bg, og, lg, Eg, fzg, ega, hbg, hcg⟩ := XL.sl.pos (by omega)
    have gi : lg[og + 0 * 4]? = some (I y0.term) := by
     rw [get_of_take hcg (by omega)]
     exact encs_get hy0 (show 0 < 4 by omega)
    rw [ega]
    refine AIdx.nat (n := x.e.n) (z := 4) (j := 0) rfl (by omega) rfl rfl ?_; conv=>whnf
    refine ALoad.one rfl hbg gi ?_; conv=>whnf
    rw [← ega]
    by_cases clt : y0.term < x.logTerm
    ·refine ACmp.yes (clt) ?_; conv=>whnf
     rw [if_pos (.inr (by rw [hhl]; exact decide_eq_true clt))]
     refine ALoad.one rfl k2 rfl ?_; conv=>whnf
     refine ALoad.one rfl q.str rfl ?_; conv=>whnf
     refine ACalls.mono (Last_c q.log lk.lo) ?_; rintro _ _ ⟨rfl, rfl⟩; conv=>whnf
     refine ALoad.one rfl k2 rfl ?_; conv=>whnf
     refine ALoad.one rfl k3 rfl ?_; conv=>whnf
     refine AArith.ok (by omega) (by omega) (rfl) ?_; conv=>whnf
     refine AInt.as (rfl) ?_; conv=>whnf
     refine ALoad.one rfl k3 rfl ?_; conv=>whnf
     refine ACalls.mono (say_any ap.a ap.b ap.c ap.d ⟨_, q⟩ x.src { post1 with kind := 4, index := (if c.log.last.1 < x.index - 1 then c.log.last.1 else x.index - 1), hint := x.hint } (made0 rfl rfl rfl rfl) hp) ?_; rintro _ hB ⟨rfl, kB, kkB⟩; conv=>whnf
     exact ⟨rfl, kB, (s12.keeps _).trans (kkB.mono (by simp))⟩
    ·refine ACmp.no (clt) ?_; conv=>whnf
     rw [if_neg (by rw [hh, hhl, decide_eq_false clt]; simp)]
     have A : AsksE 180 [Ptr b2] x.es (fun e => !c.has e.index e.term) h2 := by
      intro e he h' s
      refine acalls_pure (acalls_of mix Tryz.func180 rfl rfl Tryz.ntmps180 Tryz.results180 rfl ?_); conv=>whnf
      refine ABox.mkN (0, 1) (e.cells) rfl fun b5 h5 n5 s5 k5 => ?_; conv=>whnf
      refine ADrawn.mk (h5) [] (Sub.refl _) (by decide +kernel) ?_; conv=>whnf
      refine ALoad.one rfl (s5 _ _ (s _ _ k2)) rfl ?_; conv=>whnf
      refine ALoad.one rfl (s5 _ _ (s _ _ q.str)) rfl ?_; conv=>whnf
      refine ALoad.one rfl k5 rfl ?_; conv=>whnf
      refine ALoad.one rfl k5 rfl ?_; conv=>whnf
      refine ACalls.mono (Has_c (q.sub (s.trans s5)).log lk.lo e.index e.term) ?_; rintro _ _ ⟨rfl, rfl⟩; conv=>whnf
      refine ⟨Sub.refl _, ?_⟩; conv=>whnf
      exact ⟨rfl, s5⟩
     refine ACalls.mono (IndexFuncE_any A XL (by omega)) ?_
     rintro _ _ ⟨⟨kf, hkf, hpf, ⟨hkn, rfl, e0, he0, hP⟩ | ⟨hkn, rfl⟩⟩, rfl⟩
     ·conv=>whnf
      refine ACmp.yes ((by omega)) ?_; conv=>whnf
      have hfr : c.log.fresh (x.es.map EH.abs) = (x.es.map EH.abs).drop kf := fresh_of (fun j e hj hje => by
        rw [List.getElem?_map] at hje
        cases hz : x.es[j]? with
        | none => rw [hz] at hje; cases hje
        | some z =>
         rw [hz] at hje; cases hje
         have := hpf j z hj hz
         show c.has z.index z.term = true
         simpa using this) (.inr ⟨e0.abs, by rw [List.getElem?_map, he0]; rfl, by show c.has e0.index e0.term = false; simpa using hP⟩)
      refine ASlc.from (z := 4) (l := kf) rfl (by omega) XL.sl.le rfl rfl ?_; conv=>whnf
      have XF := XL.from (l := kf) (by omega)
      generalize slBase x.e.a kf x.e.c 4 = fa at XF ⊢
      obtain ⟨fn, hfn⟩ : ∃ fn, fn = x.e.n - kf := ⟨_, rfl⟩
      obtain ⟨fc, hfc⟩ : ∃ fc, fc = x.e.c - kf := ⟨_, rfl⟩
      obtain ⟨fes, hfes⟩ : ∃ fes, fes = x.es.drop kf := ⟨_, rfl⟩
      rw [← hfn, ← hfc, ← hfes] at XF
      rw [← hfn, ← hfc]
      have hfl : fes.length = fn := XF.len
      have hfs : ∀ y ∈ fes, y.n ≤ 1200 := fun y hy => hls y (by rw [hfes] at hy; exact List.mem_of_mem_drop hy)
      have he0' : fes[0]? = some e0 := by rw [hfes, List.getElem?_drop, Nat.add_zero]; exact he0
      obtain ⟨fr, hfr2⟩ : ∃ r, fes = e0 :: r := by
       cases fes with
       | nil => simp at he0'
       | cons z r => simp at he0'; exact ⟨r, by rw [he0']⟩
      have hfr3 : c.log.fresh (x.es.map EH.abs) = e0.abs :: fr.map EH.abs := by rw [hfr, ← List.map_drop, ← hfes, hfr2]; rfl
      have hfr4 : fes.map EH.abs = e0.abs :: fr.map EH.abs := by rw [hfr2]; rfl
      refine ALoad.one rfl k2 rfl ?_; conv=>whnf
      refine ALoad.one rfl q.str rfl ?_; conv=>whnf
      refine ACalls.mono (Last_c q.log lk.lo) ?_; rintro _ _ ⟨rfl, rfl⟩; conv=>whnf
      obtain ⟨bg, og, lg, Eg, fzg, ega, hbg, hcg⟩ := XF.sl.pos (by omega)
      have gi : lg[og + 0 * 4 + 1]? = some (I e0.index) := by
       rw [Nat.add_assoc, get_of_take hcg (by omega), encs_get he0' (by omega)]; rfl
      have ega' := ega
      subst ega
      refine AIdx.nat (n := fn) (z := 4) (j := 0) rfl (by omega) rfl rfl ?_; conv=>whnf
      refine ALoad.one rfl hbg gi ?_; conv=>whnf
      have hcut : c.cutAt e0.abs = if e0.index ≤ c.log.last.1 then { c with log := (c.log.cut e0.index).2, out := { c.out with cut := e0.index } } else c := rfl
      by_cases cl : e0.index ≤ c.log.last.1
      ·refine ACmp.yes (cl) ?_; conv=>whnf
       rw [if_pos cl] at hcut
       refine ADrawn.mk (h2) [8] (Sub.refl _) (by decide +kernel) ?_; conv=>whnf
       refine ALoad.one rfl k2 rfl ?_; conv=>whnf
       refine ALoad.one rfl q.str rfl ?_; conv=>whnf
       refine AIdx.nat (n := fn) (z := 4) (j := 0) rfl (by omega) rfl rfl ?_; conv=>whnf
       refine ALoad.one rfl hbg gi ?_; conv=>whnf
       refine ACalls.mono (Cut_c q.log lk.lo e0.index) ?_; rintro _ h3 ⟨rfl, l3, kk3⟩; conv=>whnf
       have k23 := kk3.get (by simp) k2
       have k33 := kk3.get (by simp) k3
       have q3 := kk3.get (by simp) q.str
       have hbg3 := kk3.get (fun c => tn1 (by rw [c]; simp)) hbg
       refine ADrawn.mk (h3) [8] (Sub.refl _) (by decide +kernel) ?_; conv=>whnf
       refine ALoad.one rfl k23 rfl ?_; conv=>whnf
       refine AIdx.nat (n := fn) (z := 4) (j := 0) rfl (by omega) rfl rfl ?_; conv=>whnf
       refine ALoad.one rfl hbg3 gi ?_; conv=>whnf
       refine AStore.oneN rfl rfl rfl (q3) rfl (coreCells { c with log := (c.log.cut e0.index).2, out := { c.out with cut := e0.index } } cx) rfl fun h4 t4 k4 a4 e4 => ?_; conv=>whnf
       have q4 : CoreX 81 LA h4 p o oo { c with log := (c.log.cut e0.index).2, out := { c.out with cut := e0.index } } cx := ⟨k4, (q.sd.move fun b y e => kk3.get (by simp) e).keepT t4 (by simp), KeepT.log l3 t4, (q.rd.move fun b y e => kk3.get (by simp) e).keepT t4 (by simp), by
        have z := (q.out.move fun b t y ht e => kk3 _ _ _ (by rw [ht]; exact ap.b.symm) e : OutOk h3 oo c.out cx.ox).keepT ap.a t4
        exact ⟨z.od, z.oe, z.ed, z.ea, z.es, z.op, z.ps, z.pa, z.qr⟩⟩
       obtain ⟨DCv, hDC⟩ : ∃ D : CoreM, D = { c with log := (c.log.cut e0.index).2, out := { c.out with cut := e0.index } } := ⟨_, rfl⟩
       rw [← hDC] at q4 hcut
       have KK4 : Keeps [o, o + 1, oo] h h4 := (s12.keeps _).trans ((kk3.keeps (by simp)).trans (t4.keep.keeps (by simp)))
       have K24 := t4.get (tag_ne ap.c) k23
       have K34 := t4.get (tag_ne ap.c) k33
       have XF4 := XF.keeps (((kk3.keeps (by simp) : Keeps [o, o + 1, oo] h2 h3)).trans (t4.keep.keeps (by simp))) tn1 tn2
       have lk4 : LOk DCv.log := by rw [hDC]; exact lk.lo.cut _
       have hcl : DCv.log.es.length ≤ c.log.es.length := by
        rw [hDC]; simp only [LG.cut]; split
        ·simp only [List.length_take]; omega
        ·exact Nat.le_refl _
       have hpc : DCv.out.posts.length ≤ 1000000000 := by rw [hDC]; exact hp
       have hec : DCv.out.entries.length ≤ 1000000 := by rw [hDC]; exact hoe
       have hrc : c.appendRest (x.es.map EH.abs) = { ({ DCv with log := (DCv.log.append (fes.map EH.abs)).2 } : CoreM) with out := { ({ DCv with log := (DCv.log.append (fes.map EH.abs)).2 } : CoreM).out with entries := ({ DCv with log := (DCv.log.append (fes.map EH.abs)).2 } : CoreM).out.entries ++ fes.map EH.abs } } := by
        rw [appendRest_cons hfr3, hcut, hfr4]
       obtain ⟨fa, hfa⟩ : ∃ fa : Option Addr, fa = some ⟨bg, og, none⟩ := ⟨_, rfl⟩
       rw [← hfa] at XF4 ⊢
       have lkD : LOk DCv.log := lk4
       refine ALoad.one rfl K24 rfl ?_; conv=>whnf
       refine ALoad.one rfl q4.str rfl ?_; conv=>whnf
       have hfn8 : fn ≤ 8 := by omega
       refine ACalls.mono (Append_c (by omega : o + 1 ≠ 0) q4.log lkD (t := t1) (td := t2) (fun c => tn1 (by rw [c]; simp)) (fun c => tn2 (by rw [c]; simp)) XF4 (by omega)) ?_; rintro _ h5 ⟨rfl, l5, kk5⟩; conv=>whnf
       have k25 := kk5.get (by simp) K24
       have k35 := kk5.get (by simp) K34
       have q5' := kk5.get (by simp) q4.str
       obtain ⟨d2, hd2⟩ : ∃ d2 : CoreM, d2 = { DCv with log := (DCv.log.append (fes.map EH.abs)).2 } := ⟨_, rfl⟩
       have q5 : CoreX 81 LA h5 p o oo d2 cx := by
        rw [hd2]
        exact ⟨q5', q4.sd.move fun b y e => kk5.get (by simp) e, l5, q4.rd.move fun b y e => kk5.get (by simp) e, q4.out.move fun b t y ht e => kk5 _ _ _ (by rw [ht]; exact ap.b.symm) e⟩
       have KK5 : Keeps [o, o + 1, oo] h h5 := KK4.trans (kk5.keeps (by simp))
       have X5 := XF4.keeps (kk5.keeps (by simp) : Keeps [o, o + 1, oo] _ h5) tn1 tn2
       have ho2 : d2.out = DCv.out := by rw [hd2]
       refine ALoop.mk (fun e h' => ∃ e0, ∃ j : Nat, ∃ cj : CX, e = updL 184 e0 [(2, Ptr b2), (3, Ptr b3), (4, I stop), (141, .slice fa fn fc), (142, I fn), (143, I j)] ∧ j ≤ fn ∧
         CoreX 81 LA h' p o oo { d2 with out := { d2.out with entries := d2.out.entries ++ (fes.take j).map EH.abs } } cj ∧ Keeps [o, o + 1, oo] h h' ∧ h' b2 = some (row (0, 1) [Ptr p] 27) ∧ h' b3 = some (row (0, 1) x.cells 49) ∧ Ents h' t1 t2 fa fn fc fes) (fun e => fn - natOf (e 143))
        ⟨_, 0, cx, updL_self ⟨rfl, rfl, rfl, rfl, rfl, rfl, trivial⟩, by omega, by rw [List.take_zero, List.map_nil, List.append_nil]; exact q5, KK5, k25, k35, X5⟩ ?_
       rintro e h6 ⟨e0, j, cj, rfl, hj, q6, KK6, k26, k36, X6⟩
       conv=>whnf
       by_cases hjn : j < fn
       ·refine ACmp.yes (by omega) ?_; conv=>whnf
        obtain ⟨y, hy⟩ : ∃ y, fes[j]? = some y := ⟨fes[j]'(by omega), by simp⟩
        have my := List.mem_of_getElem? hy
        have hyn : y.n ≤ 1200 := hfs y my
        obtain ⟨bf, off, lf, Ef, fzf, efa, hbf, hcf⟩ := X6.sl.pos (by omega)
        have g0 : (lf.drop (off + j * 4)).take 4 = y.cells := by rw [part_of_take hcf (by omega), encs_part hy]
        subst efa
        refine AIdx.nat (z := 4) (j := j) rfl hjn rfl rfl ?_; conv=>whnf
        refine ALoad.agg rfl hbf g0 rfl ?_; conv=>whnf
        refine AAlloc.mkN (0, 1) (entry0z) rfl fun b16 h7 n7 s7 k7 => ?_; conv=>whnf
        refine AStore.aggN rfl rfl rfl (k7) rfl (y.cells) rfl fun h8 t8 k8 a8 e8 => ?_; conv=>whnf
        have s68 : Sub h6 h8 := a8 h6 s7 n7
        refine ALoad.one rfl k8 rfl ?_; conv=>whnf
        refine ACalls.mono (cloneB_any h8 (oo, 2) (Sl.sub (X6.good y my) s68) (by omega)) ?_
        rintro v h9 ⟨a', c', rfl, ow9, s9⟩
        conv=>whnf
        refine AStore.oneN rfl rfl rfl ((s9 _ _ k8)) rfl ([I y.term, I y.index, I y.kind, .slice a' y.n c']) rfl fun h10 t10 k10 a10 e10 => ?_; conv=>whnf
        have s610 : Sub h6 h10 := a10 h6 (s68.trans s9) n7
        have ow10 := ow9.keepT t10 (fun c => ap.d (congrArg Prod.fst c))
        obtain ⟨en, hen⟩ : ∃ en : EH, en = ⟨y.term, y.index, y.kind, a', y.n, c', y.data⟩ := ⟨_, rfl⟩
        have hea : en.abs = y.abs := by rw [hen]; rfl
        have hnn : en.n ≤ 1200 := by rw [hen]; exact hyn
        rw [show [I y.term, I y.index, I y.kind, Value.slice a' y.n c'] = en.cells by rw [hen]; rfl] at k10
        have m10 : en.Mine h10 (oo, 2) := by rw [hen]; exact ow10
        have q10 := q6.sub s610
        have k210 := s610 _ _ k26
        have k310 := s610 _ _ k36
        have hel2 : cj.ox.es.length = (DCv.out.entries ++ (fes.take j).map EH.abs).length := by
         have e : cj.ox.es.map EH.abs = d2.out.entries ++ (fes.take j).map EH.abs := q6.out.ea
         rw [← ho2, ← e, List.length_map]
        have hel : cj.ox.es.length = cj.ox.oe.n := by
         have := q6.out.oe.sl.len
         rw [encs_length] at this; omega
        have hel3 : cj.ox.oe.n ≤ 1000008 := by
         rw [← hel, hel2, List.length_append, List.length_map, List.length_take]; omega
        clear t8 a8 e8 k7 n7 s7 t10 a10 e10 k8
        refine ADrawn.mk ((few h10 [b2, p, b16])) [12] (few_sub _ _) (by decide +kernel) ?_; conv=>whnf
        refine ALoad.one rfl ((few_at (by simp)).trans k210) rfl ?_; conv=>whnf
        refine ALoad.one rfl ((few_at (by simp)).trans k210) rfl ?_; conv=>whnf
        refine ALoad.one rfl ((few_at (by simp)).trans q10.str) rfl ?_; conv=>whnf
        refine ALoad.agg rfl ((few_at (by simp)).trans k10) rfl rfl ?_; conv=>whnf
        refine ABuildSl.mkN (0, 1) en.cells rfl rfl rfl rfl rfl rfl (by rw [hen]; rfl) fun b17 h11 n11 s11 k11 => ?_; conv=>whnf
        refine ⟨(few_sub _ _).trans s11, ?_⟩; conv=>whnf
        refine AAppend.own (t := (oo, 1)) (E := 59) (z := 4) (by_ := 48) (zero := entry0z) (tx := (0, 1)) (xs := en.cells) rfl ⟨_, rfl⟩ rfl rfl rfl rfl (by omega) (q10.out.oe.move fun _ _ e => s11 _ _ e)
         ⟨rfl, Nat.le_refl _, .inr ⟨b17, 0, _, _, _, rfl, k11, rfl⟩⟩ (by rw [hen]; rfl) (by omega) (by omega) fun a12 c12 h12 ow12 t12 _ => ?_
        conv=>whnf
        have p12 := t12.get (u := (o, 0)) (fun c => ap.a (congrArg Prod.fst c)) (s11 _ _ q10.str)
        have e12 := t12.get (u := (0, 1)) (fun c => ap.d (congrArg Prod.fst c).symm) (s11 _ _ k10)
        have k212 := t12.get (u := (0, 1)) (fun c => ap.d (congrArg Prod.fst c).symm) (s11 _ _ k210)
        have k312 := t12.get (u := (0, 1)) (fun c => ap.d (congrArg Prod.fst c).symm) (s11 _ _ k310)
        refine ⟨few_get fun z hz w hw => ?_, ?_⟩
        ·simp only [List.mem_cons, List.not_mem_nil, or_false] at hz
         rcases hz with rfl | rfl | rfl
         ·rw [k210] at hw; cases hw; exact k212
         ·rw [q10.str] at hw; cases hw; exact p12
         ·rw [k10] at hw; cases hw; exact e12
        conv=>whnf
        refine AStore.oneN rfl rfl rfl (p12) rfl (coreCells { ({ d2 with out := { d2.out with entries := d2.out.entries ++ (fes.take j).map EH.abs } } : CoreM) with out := { ({ d2 with out := { d2.out with entries := d2.out.entries ++ (fes.take j).map EH.abs } } : CoreM).out with entries := ({ d2 with out := { d2.out with entries := d2.out.entries ++ (fes.take j).map EH.abs } } : CoreM).out.entries ++ [en.abs] } } { cj with ox := { cj.ox with oe := ⟨a12, cj.ox.oe.n + 1, c12⟩, es := cj.ox.es ++ [en] } }) rfl fun h13 t13 k13 a13 e13 => ?_; conv=>whnf
        have q13 := CoreX.pushE ap (q10.sub s11) t12 ow12 (Own.sub m10 s11) hnn t13 k13
        have KK13 : Keeps [o, o + 1, oo] h6 h13 := ((s610.trans s11).keeps _).trans ((t12.keep.keeps (by simp)).trans (t13.keep.keeps (by simp)))
        have hsucc : d2.out.entries ++ (fes.take j).map EH.abs ++ [en.abs] = d2.out.entries ++ (fes.take (j + 1)).map EH.abs := by
         rw [List.take_succ_eq_append_getElem (show j < fes.length by omega), (List.getElem?_eq_some_iff.1 hy).2, List.map_append, List.append_assoc, hea]; rfl
        simp only [hsucc] at q13
        refine AArith.ok (by omega) (by omega) ((by omega : (j : Int) + 1 = ((j + 1 : Nat) : Int))) ?_; conv=>whnf
        refine ⟨⟨_, j + 1, _, updL_self ⟨rfl, rfl, rfl, rfl, rfl, rfl, trivial⟩, by omega, q13, KK6.trans KK13, t13.get (tag_ne ap.c) k212, t13.get (tag_ne ap.c) k312, X6.keeps KK13 tn1 tn2⟩, ?_⟩
        show fn - (j + 1) < fn - j
        omega
       ·refine ACmp.no (by omega) ?_; conv=>whnf
        obtain rfl : j = fn := by omega
        rw [List.take_of_length_le (by omega)] at q6
        obtain ⟨DDv, hDD⟩ : ∃ D : CoreM, D = { d2 with out := { d2.out with entries := d2.out.entries ++ fes.map EH.abs } } := ⟨_, rfl⟩
        rw [← hDD] at q6
        have HR : c.appendRest (x.es.map EH.abs) = DDv := by rw [hDD, hd2]; exact hrc
        have hpp : DDv.out.posts.length ≤ 1000000000 := by rw [hDD, hd2]; exact hpc
        refine ADrawn.mk (h6) [12] (Sub.refl _) (by decide +kernel) ?_; conv=>whnf
        refine ALoad.one rfl k26 rfl ?_; conv=>whnf
        refine ALoad.one rfl k26 rfl ?_; conv=>whnf
        refine ALoad.one rfl q6.str rfl ?_; conv=>whnf
        refine ALoad.one rfl k36 rfl ?_; conv=>whnf
        refine AInt.as (rfl) ?_; conv=>whnf
        refine AInt.as (rfl) ?_; conv=>whnf
        refine AStore.oneN rfl rfl rfl (q6.str) rfl (coreCells { DDv with commit := if DDv.commit < (if stop < x.commit then stop else x.commit) then (if stop < x.commit then stop else x.commit) else DDv.commit } cj) rfl fun hY tY kY aY eY => ?_; conv=>whnf
        have qY := q6.set' ap.a tY kY
        have kY2 := tY.get (tag_ne ap.c) k26
        have kY3 := tY.get (tag_ne ap.c) k36
        refine ALoad.one rfl kY2 rfl ?_; conv=>whnf
        refine ALoad.one rfl kY3 rfl ?_; conv=>whnf
        refine ALoad.one rfl kY3 rfl ?_; conv=>whnf
        refine ACalls.mono (say_any ap.a ap.b ap.c ap.d ⟨_, qY⟩ x.src { post1 with kind := 4, ok := true, index := stop, hint := x.hint } (made0 rfl rfl rfl rfl) hpp) ?_; rintro _ hZ ⟨rfl, kZ, kkZ⟩; conv=>whnf
        refine ⟨rfl, ?_, KK6.trans ((tY.keep.keeps (by simp)).trans (kkZ.mono (by simp)))⟩
        have hst : x.abs.index + (x.abs.entries.length : Int) = stop := by rw [hstop, ← hxl]; simp [PH.abs]
        unfold CoreM.appendOk
        rw [HR]
        simp only [hst]
        exact kZ
      ·refine ACmp.no (cl) ?_; conv=>whnf
       rw [if_neg cl] at hcut
       have hrc : c.appendRest (x.es.map EH.abs) = { ({ c with log := (c.log.append (fes.map EH.abs)).2 } : CoreM) with out := { ({ c with log := (c.log.append (fes.map EH.abs)).2 } : CoreM).out with entries := ({ c with log := (c.log.append (fes.map EH.abs)).2 } : CoreM).out.entries ++ fes.map EH.abs } } := by
        rw [appendRest_cons hfr3, hcut, hfr4]
       have KK2 : Keeps [o, o + 1, oo] h h2 := s12.keeps _
       obtain ⟨fa, hfa⟩ : ∃ fa : Option Addr, fa = some ⟨bg, og, none⟩ := ⟨_, rfl⟩
       rw [← hfa] at XF ⊢
       have lkD : LOk c.log := lk.lo
       refine ALoad.one rfl k2 rfl ?_; conv=>whnf
       refine ALoad.one rfl q.str rfl ?_; conv=>whnf
       have hfn8 : fn ≤ 8 := by omega
       refine ACalls.mono (Append_c (by omega : o + 1 ≠ 0) q.log lkD (t := t1) (td := t2) (fun c => tn1 (by rw [c]; simp)) (fun c => tn2 (by rw [c]; simp)) XF (by omega)) ?_; rintro _ h5 ⟨rfl, l5, kk5⟩; conv=>whnf
       have k25 := kk5.get (by simp) k2
       have k35 := kk5.get (by simp) k3
       have q5' := kk5.get (by simp) q.str
       obtain ⟨d2, hd2⟩ : ∃ d2 : CoreM, d2 = { c with log := (c.log.append (fes.map EH.abs)).2 } := ⟨_, rfl⟩
       have q5 : CoreX 81 LA h5 p o oo d2 cx := by
        rw [hd2]
        exact ⟨q5', q.sd.move fun b y e => kk5.get (by simp) e, l5, q.rd.move fun b y e => kk5.get (by simp) e, q.out.move fun b t y ht e => kk5 _ _ _ (by rw [ht]; exact ap.b.symm) e⟩
       have KK5 : Keeps [o, o + 1, oo] h h5 := KK2.trans (kk5.keeps (by simp))
       have X5 := XF.keeps (kk5.keeps (by simp) : Keeps [o, o + 1, oo] _ h5) tn1 tn2
       have ho2 : d2.out = c.out := by rw [hd2]
       refine ALoop.mk (fun e h' => ∃ e0, ∃ j : Nat, ∃ cj : CX, e = updL 184 e0 [(2, Ptr b2), (3, Ptr b3), (4, I stop), (141, .slice fa fn fc), (142, I fn), (143, I j)] ∧ j ≤ fn ∧
         CoreX 81 LA h' p o oo { d2 with out := { d2.out with entries := d2.out.entries ++ (fes.take j).map EH.abs } } cj ∧ Keeps [o, o + 1, oo] h h' ∧ h' b2 = some (row (0, 1) [Ptr p] 27) ∧ h' b3 = some (row (0, 1) x.cells 49) ∧ Ents h' t1 t2 fa fn fc fes) (fun e => fn - natOf (e 143))
        ⟨_, 0, cx, updL_self ⟨rfl, rfl, rfl, rfl, rfl, rfl, trivial⟩, by omega, by rw [List.take_zero, List.map_nil, List.append_nil]; exact q5, KK5, k25, k35, X5⟩ ?_
       rintro e h6 ⟨e0, j, cj, rfl, hj, q6, KK6, k26, k36, X6⟩
       conv=>whnf
       by_cases hjn : j < fn
       ·refine ACmp.yes (by omega) ?_; conv=>whnf
        obtain ⟨y, hy⟩ : ∃ y, fes[j]? = some y := ⟨fes[j]'(by omega), by simp⟩
        have my := List.mem_of_getElem? hy
        have hyn : y.n ≤ 1200 := hfs y my
        obtain ⟨bf, off, lf, Ef, fzf, efa, hbf, hcf⟩ := X6.sl.pos (by omega)
        have g0 : (lf.drop (off + j * 4)).take 4 = y.cells := by rw [part_of_take hcf (by omega), encs_part hy]
        subst efa
        refine AIdx.nat (z := 4) (j := j) rfl hjn rfl rfl ?_; conv=>whnf
        refine ALoad.agg rfl hbf g0 rfl ?_; conv=>whnf
        refine AAlloc.mkN (0, 1) (entry0z) rfl fun b16 h7 n7 s7 k7 => ?_; conv=>whnf
        refine AStore.aggN rfl rfl rfl (k7) rfl (y.cells) rfl fun h8 t8 k8 a8 e8 => ?_; conv=>whnf
        have s68 : Sub h6 h8 := a8 h6 s7 n7
        refine ALoad.one rfl k8 rfl ?_; conv=>whnf
        refine ACalls.mono (cloneB_any h8 (oo, 2) (Sl.sub (X6.good y my) s68) (by omega)) ?_
        rintro v h9 ⟨a', c', rfl, ow9, s9⟩
        conv=>whnf
        refine AStore.oneN rfl rfl rfl ((s9 _ _ k8)) rfl ([I y.term, I y.index, I y.kind, .slice a' y.n c']) rfl fun h10 t10 k10 a10 e10 => ?_; conv=>whnf
        have s610 : Sub h6 h10 := a10 h6 (s68.trans s9) n7
        have ow10 := ow9.keepT t10 (fun c => ap.d (congrArg Prod.fst c))
        obtain ⟨en, hen⟩ : ∃ en : EH, en = ⟨y.term, y.index, y.kind, a', y.n, c', y.data⟩ := ⟨_, rfl⟩
        have hea : en.abs = y.abs := by rw [hen]; rfl
        have hnn : en.n ≤ 1200 := by rw [hen]; exact hyn
        rw [show [I y.term, I y.index, I y.kind, Value.slice a' y.n c'] = en.cells by rw [hen]; rfl] at k10
        have m10 : en.Mine h10 (oo, 2) := by rw [hen]; exact ow10
        have q10 := q6.sub s610
        have k210 := s610 _ _ k26
        have k310 := s610 _ _ k36
        have hel2 : cj.ox.es.length = (c.out.entries ++ (fes.take j).map EH.abs).length := by
         have e : cj.ox.es.map EH.abs = d2.out.entries ++ (fes.take j).map EH.abs := q6.out.ea
         rw [← ho2, ← e, List.length_map]
        have hel : cj.ox.es.length = cj.ox.oe.n := by
         have := q6.out.oe.sl.len
         rw [encs_length] at this; omega
        have hel3 : cj.ox.oe.n ≤ 1000008 := by
         rw [← hel, hel2, List.length_append, List.length_map, List.length_take]; omega
        clear t8 a8 e8 k7 n7 s7 t10 a10 e10 k8
        refine ADrawn.mk ((few h10 [b2, p, b16])) [12] (few_sub _ _) (by decide +kernel) ?_; conv=>whnf
        refine ALoad.one rfl ((few_at (by simp)).trans k210) rfl ?_; conv=>whnf
        refine ALoad.one rfl ((few_at (by simp)).trans k210) rfl ?_; conv=>whnf
        refine ALoad.one rfl ((few_at (by simp)).trans q10.str) rfl ?_; conv=>whnf
        refine ALoad.agg rfl ((few_at (by simp)).trans k10) rfl rfl ?_; conv=>whnf
        refine ABuildSl.mkN (0, 1) en.cells rfl rfl rfl rfl rfl rfl (by rw [hen]; rfl) fun b17 h11 n11 s11 k11 => ?_; conv=>whnf
        refine ⟨(few_sub _ _).trans s11, ?_⟩; conv=>whnf
        refine AAppend.own (t := (oo, 1)) (E := 59) (z := 4) (by_ := 48) (zero := entry0z) (tx := (0, 1)) (xs := en.cells) rfl ⟨_, rfl⟩ rfl rfl rfl rfl (by omega) (q10.out.oe.move fun _ _ e => s11 _ _ e)
         ⟨rfl, Nat.le_refl _, .inr ⟨b17, 0, _, _, _, rfl, k11, rfl⟩⟩ (by rw [hen]; rfl) (by omega) (by omega) fun a12 c12 h12 ow12 t12 _ => ?_
        conv=>whnf
        have p12 := t12.get (u := (o, 0)) (fun c => ap.a (congrArg Prod.fst c)) (s11 _ _ q10.str)
        have e12 := t12.get (u := (0, 1)) (fun c => ap.d (congrArg Prod.fst c).symm) (s11 _ _ k10)
        have k212 := t12.get (u := (0, 1)) (fun c => ap.d (congrArg Prod.fst c).symm) (s11 _ _ k210)
        have k312 := t12.get (u := (0, 1)) (fun c => ap.d (congrArg Prod.fst c).symm) (s11 _ _ k310)
        refine ⟨few_get fun z hz w hw => ?_, ?_⟩
        ·simp only [List.mem_cons, List.not_mem_nil, or_false] at hz
         rcases hz with rfl | rfl | rfl
         ·rw [k210] at hw; cases hw; exact k212
         ·rw [q10.str] at hw; cases hw; exact p12
         ·rw [k10] at hw; cases hw; exact e12
        conv=>whnf
        refine AStore.oneN rfl rfl rfl (p12) rfl (coreCells { ({ d2 with out := { d2.out with entries := d2.out.entries ++ (fes.take j).map EH.abs } } : CoreM) with out := { ({ d2 with out := { d2.out with entries := d2.out.entries ++ (fes.take j).map EH.abs } } : CoreM).out with entries := ({ d2 with out := { d2.out with entries := d2.out.entries ++ (fes.take j).map EH.abs } } : CoreM).out.entries ++ [en.abs] } } { cj with ox := { cj.ox with oe := ⟨a12, cj.ox.oe.n + 1, c12⟩, es := cj.ox.es ++ [en] } }) rfl fun h13 t13 k13 a13 e13 => ?_; conv=>whnf
        have q13 := CoreX.pushE ap (q10.sub s11) t12 ow12 (Own.sub m10 s11) hnn t13 k13
        have KK13 : Keeps [o, o + 1, oo] h6 h13 := ((s610.trans s11).keeps _).trans ((t12.keep.keeps (by simp)).trans (t13.keep.keeps (by simp)))
        have hsucc : d2.out.entries ++ (fes.take j).map EH.abs ++ [en.abs] = d2.out.entries ++ (fes.take (j + 1)).map EH.abs := by
         rw [List.take_succ_eq_append_getElem (show j < fes.length by omega), (List.getElem?_eq_some_iff.1 hy).2, List.map_append, List.append_assoc, hea]; rfl
        simp only [hsucc] at q13
        refine AArith.ok (by omega) (by omega) ((by omega : (j : Int) + 1 = ((j + 1 : Nat) : Int))) ?_; conv=>whnf
        refine ⟨⟨_, j + 1, _, updL_self ⟨rfl, rfl, rfl, rfl, rfl, rfl, trivial⟩, by omega, q13, KK6.trans KK13, t13.get (tag_ne ap.c) k212, t13.get (tag_ne ap.c) k312, X6.keeps KK13 tn1 tn2⟩, ?_⟩
        show fn - (j + 1) < fn - j
        omega
       ·refine ACmp.no (by omega) ?_; conv=>whnf
        obtain rfl : j = fn := by omega
        rw [List.take_of_length_le (by omega)] at q6
        obtain ⟨DDv, hDD⟩ : ∃ D : CoreM, D = { d2 with out := { d2.out with entries := d2.out.entries ++ fes.map EH.abs } } := ⟨_, rfl⟩
        rw [← hDD] at q6
        have HR : c.appendRest (x.es.map EH.abs) = DDv := by rw [hDD, hd2]; exact hrc
        have hpp : DDv.out.posts.length ≤ 1000000000 := by rw [hDD, hd2]; exact hp
        refine ADrawn.mk (h6) [12] (Sub.refl _) (by decide +kernel) ?_; conv=>whnf
        refine ALoad.one rfl k26 rfl ?_; conv=>whnf
        refine ALoad.one rfl k26 rfl ?_; conv=>whnf
        refine ALoad.one rfl q6.str rfl ?_; conv=>whnf
        refine ALoad.one rfl k36 rfl ?_; conv=>whnf
        refine AInt.as (rfl) ?_; conv=>whnf
        refine AInt.as (rfl) ?_; conv=>whnf
        refine AStore.oneN rfl rfl rfl (q6.str) rfl (coreCells { DDv with commit := if DDv.commit < (if stop < x.commit then stop else x.commit) then (if stop < x.commit then stop else x.commit) else DDv.commit } cj) rfl fun hY tY kY aY eY => ?_; conv=>whnf
        have qY := q6.set' ap.a tY kY
        have kY2 := tY.get (tag_ne ap.c) k26
        have kY3 := tY.get (tag_ne ap.c) k36
        refine ALoad.one rfl kY2 rfl ?_; conv=>whnf
        refine ALoad.one rfl kY3 rfl ?_; conv=>whnf
        refine ALoad.one rfl kY3 rfl ?_; conv=>whnf
        refine ACalls.mono (say_any ap.a ap.b ap.c ap.d ⟨_, qY⟩ x.src { post1 with kind := 4, ok := true, index := stop, hint := x.hint } (made0 rfl rfl rfl rfl) hpp) ?_; rintro _ hZ ⟨rfl, kZ, kkZ⟩; conv=>whnf
        refine ⟨rfl, ?_, KK6.trans ((tY.keep.keeps (by simp)).trans (kkZ.mono (by simp)))⟩
        have hst : x.abs.index + (x.abs.entries.length : Int) = stop := by rw [hstop, ← hxl]; simp [PH.abs]
        unfold CoreM.appendOk
        rw [HR]
        simp only [hst]
        exact kZ
     ·conv=>whnf
      refine ACmp.no ((by omega)) ?_; conv=>whnf
      have hfr : c.log.fresh (x.es.map EH.abs) = [] := by
       rw [fresh_of (k := (x.es.map EH.abs).length) (fun j e hj hje => by
        rw [List.getElem?_map] at hje
        cases hz : x.es[j]? with
        | none => rw [hz] at hje; cases hje
        | some z =>
         rw [hz] at hje; cases hje
         have := hpf j z (by have := (List.getElem?_eq_some_iff.1 hz).1; omega) hz
         show c.has z.index z.term = true
         simpa using this) (.inl rfl), List.drop_length]
      have HR := appendRest_nil hfr
      have KK2 : Keeps [o, o + 1, oo] h h2 := s12.keeps _
      refine ADrawn.mk (h2) [12] (Sub.refl _) (by decide +kernel) ?_; conv=>whnf
      refine ALoad.one rfl k2 rfl ?_; conv=>whnf
      refine ALoad.one rfl k2 rfl ?_; conv=>whnf
      refine ALoad.one rfl q.str rfl ?_; conv=>whnf
      refine ALoad.one rfl k3 rfl ?_; conv=>whnf
      refine AInt.as (rfl) ?_; conv=>whnf
      refine AInt.as (rfl) ?_; conv=>whnf
      refine AStore.oneN rfl rfl rfl (q.str) rfl (coreCells { c with commit := if c.commit < (if stop < x.commit then stop else x.commit) then (if stop < x.commit then stop else x.commit) else c.commit } cx) rfl fun hY tY kY aY eY => ?_; conv=>whnf
      have qY := q.set' ap.a tY kY
      have kY2 := tY.get (tag_ne ap.c) k2
      have kY3 := tY.get (tag_ne ap.c) k3
      refine ALoad.one rfl kY2 rfl ?_; conv=>whnf
      refine ALoad.one rfl kY3 rfl ?_; conv=>whnf
      refine ALoad.one rfl kY3 rfl ?_; conv=>whnf
      refine ACalls.mono (say_any ap.a ap.b ap.c ap.d ⟨_, qY⟩ x.src { post1 with kind := 4, ok := true, index := stop, hint := x.hint } (made0 rfl rfl rfl rfl) hp) ?_; rintro _ hZ ⟨rfl, kZ, kkZ⟩; conv=>whnf
      refine ⟨rfl, ?_, KK2.trans ((tY.keep.keeps (by simp)).trans (kkZ.mono (by simp)))⟩
      have hst : x.abs.index + (x.abs.entries.length : Int) = stop := by rw [hstop, ← hxl]; simp [PH.abs]
      unfold CoreM.appendOk
      rw [HR]
      simp only [hst]
      exact kZ
  ·rw [Bool.eq_false_iff.2 hh] at hcall
   refine ACalls.mono (hcall) ?_; rintro _ _ ⟨rfl, rfl⟩; conv=>whnf
   rw [if_pos (.inl (Bool.eq_false_iff.2 hh))]
   refine ALoad.one rfl k2 rfl ?_; conv=>whnf
   refine ALoad.one rfl q.str rfl ?_; conv=>whnf
   refine ACalls.mono (Last_c q.log lk.lo) ?_; rintro _ _ ⟨rfl, rfl⟩; conv=>whnf
   refine ALoad.one rfl k2 rfl ?_; conv=>whnf
   refine ALoad.one rfl k3 rfl ?_; conv=>whnf
   refine AArith.ok (by omega) (by omega) (rfl) ?_; conv=>whnf
   refine AInt.as (rfl) ?_; conv=>whnf
   refine ALoad.one rfl k3 rfl ?_; conv=>whnf
   refine ACalls.mono (say_any ap.a ap.b ap.c ap.d ⟨_, q⟩ x.src { post1 with kind := 4, index := (if c.log.last.1 < x.index - 1 then c.log.last.1 else x.index - 1), hint := x.hint } (made0 rfl rfl rfl rfl) hp) ?_; rintro _ hB ⟨rfl, kB, kkB⟩; conv=>whnf
   exact ⟨rfl, kB, (s12.keeps _).trans (kkB.mono (by simp))⟩
end Go.Ah
namespace Go.Ah
open Go.Proofs
set_option linter.unusedVariables false
set_option linter.unusedSimpArgs false
set_option maxRecDepth 20000
theorem Five.get_set (f : Five) (n m v : Int) (h1 : 1 ≤ m) (h2 : m ≤ 5) : (f.set n v).get m = if m = n then v else f.get m := by
 have : m = 1 ∨ m = 2 ∨ m = 3 ∨ m = 4 ∨ m = 5 := by omega
 rcases this with rfl | rfl | rfl | rfl | rfl <;> simp [Five.set, Five.get, eq_comm]
theorem rank_more (c : CoreM) : c.rank.log = c.log ∧ c.rank.snap = c.snap ∧ c.rank.self = c.self ∧ c.rank.out = c.out ∧ (c.rank.next = c.next ∨ c.rank.next = five0) ∧ (c.rank.state = 2 → c.rank.next = c.next) ∧ (c.rank.reads = c.reads ∨ c.rank.reads = []) := by
 rw [CoreM.rank_eq]
 unfold CoreM.ranked
 split
 ·exact ⟨rfl, rfl, rfl, rfl, .inl rfl, fun _ => rfl, .inl rfl⟩
 ·split
  ·exact ⟨rfl, rfl, rfl, rfl, .inr rfl, (fun h => by cases h), .inr rfl⟩
  ·exact ⟨rfl, rfl, rfl, rfl, .inl rfl, fun _ => rfl, .inl rfl⟩
def CoreM.told1 (c : CoreM) (p : PostM) : CoreM := { c with heard := c.heard.set p.src (maxI (c.heard.get p.src) p.hint) }
def CoreM.told2 (c : CoreM) (p : PostM) : CoreM := { c.told1 p with mtch := c.mtch.set p.src (maxI (c.mtch.get p.src) (minI p.index c.log.last.1)) }
def CoreM.told3 (c : CoreM) (p : PostM) : CoreM := { c.told2 p with next := c.next.set p.src (maxI (c.next.get p.src) ((c.told2 p).mtch.get p.src + 1)) }
def CoreM.told4 (c : CoreM) (p : PostM) : CoreM := { c.told1 p with next := c.next.set p.src (maxI (minI (c.next.get p.src - 1) (p.index + 1)) (c.mtch.get p.src + 1)) }
theorem CoreM.told_yes {c : CoreM} {p : PostM} (h : p.ok = true ∨ p.kind = 6) : c.told p = (if (c.told3 p).rank.state = 2 ∧ (c.told3 p).rank.next.get p.src ≤ c.log.last.1 then (c.told3 p).rank.send p.src else (c.told3 p).rank).confirm := by
 unfold CoreM.told; simp only []; rw [if_pos h]; rfl
theorem CoreM.told_no {c : CoreM} {p : PostM} (h : ¬(p.ok = true ∨ p.kind = 6)) : c.told p = ((c.told4 p).send p.src).confirm := by
 unfold CoreM.told; simp only []; rw [if_neg h]; rfl
set_option maxHeartbeats 8000000 in
theorem told_any {h : Heap} {p o oo : Nat} {c : CoreM} (ap : Apart o oo) (k : PCore h p o oo c) (lk : LogOk c) (nk : NextOk c) (mk : MtchOk c) (hs1 : 1 ≤ c.self) (hs2 : c.self ≤ 5) (x : PH) (hx1 : 1 ≤ x.src) (hx2 : x.src ≤ 5)
  (hi0 : 0 ≤ x.index) (hi1 : x.index ≤ 9007199254740991) (hro : c.out.reads = []) (hrl : c.reads.length ≤ 100000000) (hp : c.out.posts.length ≤ 999999990) :
  ACalls PR 139 #[Ptr p, .agg x.cells.toArray] h (fun v h' => v = .tuple #[] ∧ PCore h' p o oo (c.told x.abs) ∧ Keeps [o, o + 1, oo] h h') := by
 obtain ⟨cx, k⟩ := k
 have hlast := lk.lo.last
 have htop := lk.lo.top
 have hlo := lk.lo.lo
 obtain ⟨m, hm⟩ : ∃ m : Nat, x.src = m := ⟨x.src.toNat, by omega⟩
 have hm2 : x.src.toNat = m := by omega
 refine acalls_of mix Tryz.func139 rfl rfl Tryz.ntmps139 Tryz.results139 rfl ?_; conv=>whnf
 refine ABox.mkN (0, 1) (x.cells) rfl fun b3 h1 n1 s1 k1 => ?_; conv=>whnf
 have q := k.sub s1
 refine ALoad.one rfl k1 rfl ?_; conv=>whnf
 refine ADrawn.mk (h1) [16] (Sub.refl _) (by decide +kernel) ?_; conv=>whnf
 refine AIdxA.nat (n := 6) (z := 1) (j := m) (by omega) (by omega) rfl rfl ?_; conv=>whnf
 refine ALoad.one rfl q.str (by have := heard_cell c cx hx1 hx2; rw [show 0 + 14 + 13 + m * 1 = 27 + x.src.toNat by omega]; exact this) ?_; conv=>whnf
 refine ALoad.one rfl k1 rfl ?_; conv=>whnf
 refine AInt.as (show _ = maxI (c.heard.get x.src) x.hint from rfl) ?_; conv=>whnf
 refine AIdxA.nat (n := 6) (z := 1) (j := m) (by omega) (by omega) rfl rfl ?_; conv=>whnf
 refine AStore.oneN rfl rfl rfl q.str (by have := heard_cell c cx hx1 hx2; rw [show 0 + 14 + 13 + m * 1 = 27 + x.src.toNat by omega]; exact Nat.ble_eq_true_of_le (List.getElem?_eq_some_iff.1 this).1) (coreCells (c.told1 x.abs) cx) (by rw [show 0 + 14 + 13 + m * 1 = 27 + x.src.toNat by omega]; exact heard_set c cx hx1 hx2 _) fun h2 t2 k2 a2 e2 => ?_; conv=>whnf
 have q2 := q.set' (c' := c.told1 x.abs) ap.a t2 k2
 have k12 := t2.get (tag_ne ap.c) k1
 have kk2 : Keeps [o, o + 1, oo] h h2 := (s1.keeps _).trans (t2.keep.keeps (by simp))
 obtain ⟨c1, hc1⟩ : ∃ c1, c1 = c.told1 x.abs := ⟨_, rfl⟩
 have f1 : c1.log = c.log := by rw [hc1]; rfl
 have f2 : c1.mtch = c.mtch := by rw [hc1]; rfl
 have f3 : c1.next = c.next := by rw [hc1]; rfl
 rw [← hc1] at q2
 refine ALoad.one rfl q2.str rfl ?_; conv=>whnf
 refine ACalls.mono (Last_c q2.log (by rw [f1]; exact lk.lo)) ?_; rintro _ _ ⟨rfl, rfl⟩; conv=>whnf
 rw [f1]
 refine ALoad.one rfl k12 rfl ?_; conv=>whnf
 cases hok : x.ok with
 | true =>
  conv=>whnf
  have HY : x.abs.ok = true ∨ x.abs.kind = 6 := .inl hok
  refine ADrawn.mk (h2) [18] (Sub.refl _) (by decide +kernel) ?_; conv=>whnf
  refine AIdxA.nat (n := 6) (z := 1) (j := m) (by omega) (by omega) rfl rfl ?_; conv=>whnf
  refine ALoad.one rfl q2.str (by have := mtch_cell c1 cx hx1 hx2; rw [show 0 + 14 + 7 + m * 1 = 21 + x.src.toNat by omega]; exact this) ?_; conv=>whnf
  refine ALoad.one rfl k12 rfl ?_; conv=>whnf
  refine AInt.as (show _ = minI x.index c.log.last.1 from rfl) ?_; conv=>whnf
  rw [f2]
  refine AInt.as (show _ = maxI (c.mtch.get x.src) (minI x.index c.log.last.1) from rfl) ?_; conv=>whnf
  refine AIdxA.nat (n := 6) (z := 1) (j := m) (by omega) (by omega) rfl rfl ?_; conv=>whnf
  refine AStore.oneN rfl rfl rfl q2.str (by have := mtch_cell c1 cx hx1 hx2; rw [show 0 + 14 + 7 + m * 1 = 21 + x.src.toNat by omega]; exact Nat.ble_eq_true_of_le (List.getElem?_eq_some_iff.1 this).1) (coreCells (c.told2 x.abs) cx) (by rw [show 0 + 14 + 7 + m * 1 = 21 + x.src.toNat by omega]; rw [mtch_set c1 cx hx1 hx2 _, hc1]; rfl) fun h3 t3 k3 a3 e3 => ?_; conv=>whnf
  have q3 := q2.set' (c' := c.told2 x.abs) ap.a t3 k3 (by rw [hc1]; rfl) (by rw [hc1]; rfl) (by rw [hc1]; rfl) (by rw [hc1]; rfl) (by rw [hc1]; rfl) (by rw [hc1]; rfl) (by rw [hc1]; rfl)
  have k13 := t3.get (tag_ne ap.c) k12
  have kk3 := kk2.trans (t3.keep.keeps (by simp) : Keeps [o, o + 1, oo] h2 h3)
  obtain ⟨c2, hc2⟩ : ∃ c2, c2 = c.told2 x.abs := ⟨_, rfl⟩
  have g2 : c2.next = c.next := by rw [hc2]; rfl
  have g3 : c2.mtch.get x.src = maxI (c.mtch.get x.src) (minI x.index c.log.last.1) := by
   rw [hc2]; show (c.mtch.set x.src _).get x.src = _
   rw [Five.get_set _ _ _ _ hx1 hx2, if_pos rfl]; rfl
  have hmk := mk x.src hx1 hx2
  have hnk := nk x.src hx1 hx2
  have g4 : 0 ≤ c2.mtch.get x.src ∧ c2.mtch.get x.src ≤ 9007199254740991 := by
   rw [g3]; unfold maxI minI; split <;> split <;> omega
  rw [← hc2] at q3
  refine ADrawn.mk (h3) [22] (Sub.refl _) (by decide +kernel) ?_; conv=>whnf
  refine AIdxA.nat (n := 6) (z := 1) (j := m) (by omega) (by omega) rfl rfl ?_; conv=>whnf
  refine ALoad.one rfl q3.str (by have := next_cell c2 cx hx1 hx2; rw [show 0 + 14 + 1 + m * 1 = 15 + x.src.toNat by omega]; exact this) ?_; conv=>whnf
  refine AIdxA.nat (n := 6) (z := 1) (j := m) (by omega) (by omega) rfl rfl ?_; conv=>whnf
  refine ALoad.one rfl q3.str (by have := mtch_cell c2 cx hx1 hx2; rw [show 0 + 14 + 7 + m * 1 = 21 + x.src.toNat by omega]; exact this) ?_; conv=>whnf
  refine AArith.ok (by omega) (by omega) (rfl) ?_; conv=>whnf
  rw [g2]
  refine AInt.as (show _ = maxI (c.next.get x.src) (c2.mtch.get x.src + 1) from rfl) ?_; conv=>whnf
  refine AIdxA.nat (n := 6) (z := 1) (j := m) (by omega) (by omega) rfl rfl ?_; conv=>whnf
  refine AStore.oneN rfl rfl rfl q3.str (by have := next_cell c2 cx hx1 hx2; rw [show 0 + 14 + 1 + m * 1 = 15 + x.src.toNat by omega]; exact Nat.ble_eq_true_of_le (List.getElem?_eq_some_iff.1 this).1) (coreCells (c.told3 x.abs) cx) (by rw [show 0 + 14 + 1 + m * 1 = 15 + x.src.toNat by omega]; rw [next_set c2 cx hx1 hx2 _, hc2]; rfl) fun h4 t4 k4 a4 e4 => ?_; conv=>whnf
  have q4 := q3.set' (c' := c.told3 x.abs) ap.a t4 k4 (by rw [hc2]; rfl) (by rw [hc2]; rfl) (by rw [hc2]; rfl) (by rw [hc2]; rfl) (by rw [hc2]; rfl) (by rw [hc2]; rfl) (by rw [hc2]; rfl)
  have kk4 := kk3.trans (t4.keep.keeps (by simp) : Keeps [o, o + 1, oo] h3 h4)
  obtain ⟨c3, hc3⟩ : ∃ c3, c3 = c.told3 x.abs := ⟨_, rfl⟩
  have lk3 : LogOk c3 := by rw [hc3]; exact lk.same rfl rfl
  have nk3 : NextOk c3 := by
   intro n n1 n2
   have e : c3.next = c.next.set x.src (maxI (c.next.get x.src) (c2.mtch.get x.src + 1)) := by rw [hc3, hc2]; rfl
   rw [e, Five.get_set _ _ _ _ n1 n2]
   split
   ·unfold maxI; split <;> omega
   ·exact nk n n1 n2
  have p3 : c3.out = c.out := by rw [hc3]; rfl
  have r3 : c3.reads = c.reads := by rw [hc3]; rfl
  have l3 : c3.log = c.log := by rw [hc3]; rfl
  have s3 : c3.self = c.self := by rw [hc3]; rfl
  rw [CoreM.told_yes (p := x.abs) HY, ← hc3]
  rw [← hc3] at q4
  refine ACalls.mono (rank_any ap ⟨_, q4⟩ lk3 (by rw [s3]; exact hs1) (by rw [s3]; exact hs2)) ?_; rintro _ h5 ⟨rfl, ⟨cx5, q5⟩, kk5⟩; conv=>whnf
  obtain ⟨rm1, rm2, rm3, rm4, rm5, rm6, rm7⟩ := rank_more c3
  have KK5 := kk4.trans (kk5.keeps (by simp) : Keeps [o, o + 1, oo] h4 h5)
  obtain ⟨d, hd⟩ : ∃ d, d = c3.rank := ⟨_, rfl⟩
  rw [← hd] at q5 rm1 rm2 rm3 rm4 rm5 rm6 rm7 ⊢
  have lkd : LogOk d := lk3.same rm1 rm2
  have hrd : d.out.reads.length + d.reads.length ≤ 1000000000 := by
   rw [rm4, p3, hro]
   rcases rm7 with e | e
   ·rw [e, r3]; simp; omega
   ·rw [e]; simp
  have sd : d.self = c.self := rm3.trans s3
  refine ALoad.one rfl q5.str rfl ?_; conv=>whnf
  by_cases c5 : d.state = 2
  ·refine ACmp.yes (c5) ?_; conv=>whnf
   refine AIdxA.nat (n := 6) (z := 1) (j := m) (by omega) (by omega) rfl rfl ?_; conv=>whnf
   refine ALoad.one rfl q5.str (by have := next_cell d cx5 hx1 hx2; rw [show 0 + 14 + 1 + m * 1 = 15 + x.src.toNat by omega]; exact this) ?_; conv=>whnf
   by_cases c6 : d.next.get x.src ≤ c.log.last.1
   ·refine ACmp.yes (c6) ?_; conv=>whnf
    rw [if_pos ⟨c5, c6⟩]
    have hn5 := nk3 x.src hx1 hx2
    rw [← rm6 c5] at hn5
    refine ACalls.mono (send_any ap ⟨_, q5⟩ lkd.lo hx1 hx2 hn5.1 hn5.2 (by rw [rm4, p3]; omega) lkd.snap lkd.room) ?_; rintro _ h6 ⟨rfl, k6, kk6⟩; conv=>whnf
    obtain ⟨z1, z2, z3, z4⟩ := send_same d x.src
    obtain ⟨y1, y2, y3, y4, y5, y6, y7, y8⟩ := send_more d x.src
    have lk6 : LogOk (d.send x.src) := lkd.same z1 z3
    have hrs : (d.send x.src).out.reads = d.out.reads := by unfold CoreM.send; split <;> rfl
    have KK6 := KK5.trans (kk6.mono (by simp) : Keeps [o, o + 1, oo] h5 h6)
    have hr6 : (d.send x.src).out.reads.length + (d.send x.src).reads.length ≤ 1000000000 := by rw [hrs, y7]; exact hrd
    have s6 : (d.send x.src).self = c.self := y1.trans sd
    refine ACalls.mono (confirm_any ap k6 lk6 (by rw [s6]; exact hs1) (by rw [s6]; exact hs2) hr6) ?_; rintro _ h7 ⟨rfl, k7, kk7⟩; conv=>whnf
    exact ⟨rfl, k7, KK6.trans (kk7.mono (by simp))⟩
   ·refine ACmp.no (c6) ?_; conv=>whnf
    rw [if_neg fun c => c6 c.2]
    have k6 : PCore h5 p o oo d := ⟨_, q5⟩
    refine ACalls.mono (confirm_any ap k6 lkd (by rw [sd]; exact hs1) (by rw [sd]; exact hs2) hrd) ?_; rintro _ h7 ⟨rfl, k7, kk7⟩; conv=>whnf
    exact ⟨rfl, k7, KK5.trans (kk7.mono (by simp))⟩
  ·refine ACmp.no (c5) ?_; conv=>whnf
   rw [if_neg fun c => c5 c.1]
   have k6 : PCore h5 p o oo d := ⟨_, q5⟩
   refine ACalls.mono (confirm_any ap k6 lkd (by rw [sd]; exact hs1) (by rw [sd]; exact hs2) hrd) ?_; rintro _ h7 ⟨rfl, k7, kk7⟩; conv=>whnf
   exact ⟨rfl, k7, KK5.trans (kk7.mono (by simp))⟩
 | false =>
  conv=>whnf
  refine ALoad.one rfl k12 rfl ?_; conv=>whnf
  by_cases ck : x.kind = 6
  ·refine ACmp.yes (ck) ?_; conv=>whnf
   have HY : x.abs.ok = true ∨ x.abs.kind = 6 := .inr ck
   refine ADrawn.mk (h2) [18] (Sub.refl _) (by decide +kernel) ?_; conv=>whnf
   refine AIdxA.nat (n := 6) (z := 1) (j := m) (by omega) (by omega) rfl rfl ?_; conv=>whnf
   refine ALoad.one rfl q2.str (by have := mtch_cell c1 cx hx1 hx2; rw [show 0 + 14 + 7 + m * 1 = 21 + x.src.toNat by omega]; exact this) ?_; conv=>whnf
   refine ALoad.one rfl k12 rfl ?_; conv=>whnf
   refine AInt.as (show _ = minI x.index c.log.last.1 from rfl) ?_; conv=>whnf
   rw [f2]
   refine AInt.as (show _ = maxI (c.mtch.get x.src) (minI x.index c.log.last.1) from rfl) ?_; conv=>whnf
   refine AIdxA.nat (n := 6) (z := 1) (j := m) (by omega) (by omega) rfl rfl ?_; conv=>whnf
   refine AStore.oneN rfl rfl rfl q2.str (by have := mtch_cell c1 cx hx1 hx2; rw [show 0 + 14 + 7 + m * 1 = 21 + x.src.toNat by omega]; exact Nat.ble_eq_true_of_le (List.getElem?_eq_some_iff.1 this).1) (coreCells (c.told2 x.abs) cx) (by rw [show 0 + 14 + 7 + m * 1 = 21 + x.src.toNat by omega]; rw [mtch_set c1 cx hx1 hx2 _, hc1]; rfl) fun h3 t3 k3 a3 e3 => ?_; conv=>whnf
   have q3 := q2.set' (c' := c.told2 x.abs) ap.a t3 k3 (by rw [hc1]; rfl) (by rw [hc1]; rfl) (by rw [hc1]; rfl) (by rw [hc1]; rfl) (by rw [hc1]; rfl) (by rw [hc1]; rfl) (by rw [hc1]; rfl)
   have k13 := t3.get (tag_ne ap.c) k12
   have kk3 := kk2.trans (t3.keep.keeps (by simp) : Keeps [o, o + 1, oo] h2 h3)
   obtain ⟨c2, hc2⟩ : ∃ c2, c2 = c.told2 x.abs := ⟨_, rfl⟩
   have g2 : c2.next = c.next := by rw [hc2]; rfl
   have g3 : c2.mtch.get x.src = maxI (c.mtch.get x.src) (minI x.index c.log.last.1) := by
    rw [hc2]; show (c.mtch.set x.src _).get x.src = _
    rw [Five.get_set _ _ _ _ hx1 hx2, if_pos rfl]; rfl
   have hmk := mk x.src hx1 hx2
   have hnk := nk x.src hx1 hx2
   have g4 : 0 ≤ c2.mtch.get x.src ∧ c2.mtch.get x.src ≤ 9007199254740991 := by
    rw [g3]; unfold maxI minI; split <;> split <;> omega
   rw [← hc2] at q3
   refine ADrawn.mk (h3) [22] (Sub.refl _) (by decide +kernel) ?_; conv=>whnf
   refine AIdxA.nat (n := 6) (z := 1) (j := m) (by omega) (by omega) rfl rfl ?_; conv=>whnf
   refine ALoad.one rfl q3.str (by have := next_cell c2 cx hx1 hx2; rw [show 0 + 14 + 1 + m * 1 = 15 + x.src.toNat by omega]; exact this) ?_; conv=>whnf
   refine AIdxA.nat (n := 6) (z := 1) (j := m) (by omega) (by omega) rfl rfl ?_; conv=>whnf
   refine ALoad.one rfl q3.str (by have := mtch_cell c2 cx hx1 hx2; rw [show 0 + 14 + 7 + m * 1 = 21 + x.src.toNat by omega]; exact this) ?_; conv=>whnf
   refine AArith.ok (by omega) (by omega) (rfl) ?_; conv=>whnf
   rw [g2]
   refine AInt.as (show _ = maxI (c.next.get x.src) (c2.mtch.get x.src + 1) from rfl) ?_; conv=>whnf
   refine AIdxA.nat (n := 6) (z := 1) (j := m) (by omega) (by omega) rfl rfl ?_; conv=>whnf
   refine AStore.oneN rfl rfl rfl q3.str (by have := next_cell c2 cx hx1 hx2; rw [show 0 + 14 + 1 + m * 1 = 15 + x.src.toNat by omega]; exact Nat.ble_eq_true_of_le (List.getElem?_eq_some_iff.1 this).1) (coreCells (c.told3 x.abs) cx) (by rw [show 0 + 14 + 1 + m * 1 = 15 + x.src.toNat by omega]; rw [next_set c2 cx hx1 hx2 _, hc2]; rfl) fun h4 t4 k4 a4 e4 => ?_; conv=>whnf
   have q4 := q3.set' (c' := c.told3 x.abs) ap.a t4 k4 (by rw [hc2]; rfl) (by rw [hc2]; rfl) (by rw [hc2]; rfl) (by rw [hc2]; rfl) (by rw [hc2]; rfl) (by rw [hc2]; rfl) (by rw [hc2]; rfl)
   have kk4 := kk3.trans (t4.keep.keeps (by simp) : Keeps [o, o + 1, oo] h3 h4)
   obtain ⟨c3, hc3⟩ : ∃ c3, c3 = c.told3 x.abs := ⟨_, rfl⟩
   have lk3 : LogOk c3 := by rw [hc3]; exact lk.same rfl rfl
   have nk3 : NextOk c3 := by
    intro n n1 n2
    have e : c3.next = c.next.set x.src (maxI (c.next.get x.src) (c2.mtch.get x.src + 1)) := by rw [hc3, hc2]; rfl
    rw [e, Five.get_set _ _ _ _ n1 n2]
    split
    ·unfold maxI; split <;> omega
    ·exact nk n n1 n2
   have p3 : c3.out = c.out := by rw [hc3]; rfl
   have r3 : c3.reads = c.reads := by rw [hc3]; rfl
   have l3 : c3.log = c.log := by rw [hc3]; rfl
   have s3 : c3.self = c.self := by rw [hc3]; rfl
   rw [CoreM.told_yes (p := x.abs) HY, ← hc3]
   rw [← hc3] at q4
   refine ACalls.mono (rank_any ap ⟨_, q4⟩ lk3 (by rw [s3]; exact hs1) (by rw [s3]; exact hs2)) ?_; rintro _ h5 ⟨rfl, ⟨cx5, q5⟩, kk5⟩; conv=>whnf
   obtain ⟨rm1, rm2, rm3, rm4, rm5, rm6, rm7⟩ := rank_more c3
   have KK5 := kk4.trans (kk5.keeps (by simp) : Keeps [o, o + 1, oo] h4 h5)
   obtain ⟨d, hd⟩ : ∃ d, d = c3.rank := ⟨_, rfl⟩
   rw [← hd] at q5 rm1 rm2 rm3 rm4 rm5 rm6 rm7 ⊢
   have lkd : LogOk d := lk3.same rm1 rm2
   have hrd : d.out.reads.length + d.reads.length ≤ 1000000000 := by
    rw [rm4, p3, hro]
    rcases rm7 with e | e
    ·rw [e, r3]; simp; omega
    ·rw [e]; simp
   have sd : d.self = c.self := rm3.trans s3
   refine ALoad.one rfl q5.str rfl ?_; conv=>whnf
   by_cases c5 : d.state = 2
   ·refine ACmp.yes (c5) ?_; conv=>whnf
    refine AIdxA.nat (n := 6) (z := 1) (j := m) (by omega) (by omega) rfl rfl ?_; conv=>whnf
    refine ALoad.one rfl q5.str (by have := next_cell d cx5 hx1 hx2; rw [show 0 + 14 + 1 + m * 1 = 15 + x.src.toNat by omega]; exact this) ?_; conv=>whnf
    by_cases c6 : d.next.get x.src ≤ c.log.last.1
    ·refine ACmp.yes (c6) ?_; conv=>whnf
     rw [if_pos ⟨c5, c6⟩]
     have hn5 := nk3 x.src hx1 hx2
     rw [← rm6 c5] at hn5
     refine ACalls.mono (send_any ap ⟨_, q5⟩ lkd.lo hx1 hx2 hn5.1 hn5.2 (by rw [rm4, p3]; omega) lkd.snap lkd.room) ?_; rintro _ h6 ⟨rfl, k6, kk6⟩; conv=>whnf
     obtain ⟨z1, z2, z3, z4⟩ := send_same d x.src
     obtain ⟨y1, y2, y3, y4, y5, y6, y7, y8⟩ := send_more d x.src
     have lk6 : LogOk (d.send x.src) := lkd.same z1 z3
     have hrs : (d.send x.src).out.reads = d.out.reads := by unfold CoreM.send; split <;> rfl
     have KK6 := KK5.trans (kk6.mono (by simp) : Keeps [o, o + 1, oo] h5 h6)
     have hr6 : (d.send x.src).out.reads.length + (d.send x.src).reads.length ≤ 1000000000 := by rw [hrs, y7]; exact hrd
     have s6 : (d.send x.src).self = c.self := y1.trans sd
     refine ACalls.mono (confirm_any ap k6 lk6 (by rw [s6]; exact hs1) (by rw [s6]; exact hs2) hr6) ?_; rintro _ h7 ⟨rfl, k7, kk7⟩; conv=>whnf
     exact ⟨rfl, k7, KK6.trans (kk7.mono (by simp))⟩
    ·refine ACmp.no (c6) ?_; conv=>whnf
     rw [if_neg fun c => c6 c.2]
     have k6 : PCore h5 p o oo d := ⟨_, q5⟩
     refine ACalls.mono (confirm_any ap k6 lkd (by rw [sd]; exact hs1) (by rw [sd]; exact hs2) hrd) ?_; rintro _ h7 ⟨rfl, k7, kk7⟩; conv=>whnf
     exact ⟨rfl, k7, KK5.trans (kk7.mono (by simp))⟩
   ·refine ACmp.no (c5) ?_; conv=>whnf
    rw [if_neg fun c => c5 c.1]
    have k6 : PCore h5 p o oo d := ⟨_, q5⟩
    refine ACalls.mono (confirm_any ap k6 lkd (by rw [sd]; exact hs1) (by rw [sd]; exact hs2) hrd) ?_; rintro _ h7 ⟨rfl, k7, kk7⟩; conv=>whnf
    exact ⟨rfl, k7, KK5.trans (kk7.mono (by simp))⟩
  ·refine ACmp.no (ck) ?_; conv=>whnf
   rw [CoreM.told_no (p := x.abs) (by show ¬(x.ok = true ∨ x.kind = 6); rw [hok]; simpa using ck)]
   have hmk := mk x.src hx1 hx2
   have hnk := nk x.src hx1 hx2
   refine ADrawn.mk (h2) [27] (Sub.refl _) (by decide +kernel) ?_; conv=>whnf
   refine AIdxA.nat (n := 6) (z := 1) (j := m) (by omega) (by omega) rfl rfl ?_; conv=>whnf
   refine ALoad.one rfl q2.str (by have := next_cell c1 cx hx1 hx2; rw [show 0 + 14 + 1 + m * 1 = 15 + x.src.toNat by omega]; exact this) ?_; conv=>whnf
   rw [f3]
   refine AArith.ok (by omega) (by omega) (rfl) ?_; conv=>whnf
   refine ALoad.one rfl k12 rfl ?_; conv=>whnf
   refine AArith.ok (by omega) (by omega) (rfl) ?_; conv=>whnf
   refine AInt.as (show _ = minI (c.next.get x.src - 1) (x.index + 1) from rfl) ?_; conv=>whnf
   refine AIdxA.nat (n := 6) (z := 1) (j := m) (by omega) (by omega) rfl rfl ?_; conv=>whnf
   refine ALoad.one rfl q2.str (by have := mtch_cell c1 cx hx1 hx2; rw [show 0 + 14 + 7 + m * 1 = 21 + x.src.toNat by omega]; exact this) ?_; conv=>whnf
   rw [f2]
   refine AArith.ok (by omega) (by omega) (rfl) ?_; conv=>whnf
   refine AInt.as (show _ = maxI (minI (c.next.get x.src - 1) (x.index + 1)) (c.mtch.get x.src + 1) from rfl) ?_; conv=>whnf
   refine AIdxA.nat (n := 6) (z := 1) (j := m) (by omega) (by omega) rfl rfl ?_; conv=>whnf
   refine AStore.oneN rfl rfl rfl q2.str (by have := next_cell c1 cx hx1 hx2; rw [show 0 + 14 + 1 + m * 1 = 15 + x.src.toNat by omega]; exact Nat.ble_eq_true_of_le (List.getElem?_eq_some_iff.1 this).1) (coreCells (c.told4 x.abs) cx) (by rw [show 0 + 14 + 1 + m * 1 = 15 + x.src.toNat by omega]; rw [next_set c1 cx hx1 hx2 _, hc1]; rfl) fun h3 t3 k3 a3 e3 => ?_; conv=>whnf
   have q3 := q2.set' (c' := c.told4 x.abs) ap.a t3 k3 (by rw [hc1]; rfl) (by rw [hc1]; rfl) (by rw [hc1]; rfl) (by rw [hc1]; rfl) (by rw [hc1]; rfl) (by rw [hc1]; rfl) (by rw [hc1]; rfl)
   have kk3 := kk2.trans (t3.keep.keeps (by simp) : Keeps [o, o + 1, oo] h2 h3)
   obtain ⟨d, hd⟩ : ∃ d, d = c.told4 x.abs := ⟨_, rfl⟩
   have lkd : LogOk d := by rw [hd]; exact lk.same rfl rfl
   have nkd : 0 ≤ d.next.get x.src ∧ d.next.get x.src ≤ 9007199254740992 := by
    rw [hd]; show 0 ≤ (c.next.set x.src _).get x.src ∧ (c.next.set x.src _).get x.src ≤ _
    rw [Five.get_set _ _ _ _ hx1 hx2, if_pos rfl]
    show 0 ≤ maxI (minI (c.next.get x.src - 1) (x.index + 1)) (c.mtch.get x.src + 1) ∧ maxI (minI (c.next.get x.src - 1) (x.index + 1)) (c.mtch.get x.src + 1) ≤ _
    unfold maxI minI; split <;> split <;> omega
   have pd : d.out = c.out := by rw [hd]; rfl
   have rd : d.reads = c.reads := by rw [hd]; rfl
   have sd : d.self = c.self := by rw [hd]; rfl
   rw [← hd] at q3 ⊢
   refine ACalls.mono (send_any ap ⟨_, q3⟩ lkd.lo hx1 hx2 nkd.1 nkd.2 (by rw [pd]; omega) lkd.snap lkd.room) ?_; rintro _ h6 ⟨rfl, k6, kk6⟩; conv=>whnf
   obtain ⟨z1, z2, z3, z4⟩ := send_same d x.src
   obtain ⟨y1, y2, y3, y4, y5, y6, y7, y8⟩ := send_more d x.src
   have lk6 : LogOk (d.send x.src) := lkd.same z1 z3
   have hrs : (d.send x.src).out.reads = d.out.reads := by unfold CoreM.send; split <;> rfl
   have KK6 := kk3.trans (kk6.mono (by simp) : Keeps [o, o + 1, oo] h3 h6)
   have hr6 : (d.send x.src).out.reads.length + (d.send x.src).reads.length ≤ 1000000000 := by rw [hrs, y7, pd, rd, hro]; simp; omega
   have s6 : (d.send x.src).self = c.self := y1.trans sd
   refine ACalls.mono (confirm_any ap k6 lk6 (by rw [s6]; exact hs1) (by rw [s6]; exact hs2) hr6) ?_; rintro _ h7 ⟨rfl, k7, kk7⟩; conv=>whnf
   exact ⟨rfl, k7, KK6.trans (kk7.mono (by simp))⟩
end Go.Ah
