/- The chapter's ledger: works. -/
import Derived.Test.YtmlgbkighdiniaaLedG
namespace Go.Ah
open Go.Proofs
set_option linter.unusedVariables false
set_option linter.unusedSimpArgs false

theorem lawlast_yes {h : Heap} {p o : Nat} {bi bt : Int} {es : List EH} {a : Option Addr} {cap : Nat} (L : LedAt h p o bi bt es a cap) (hlen : es.length ≤ 9007199254740992) {i t : Int} (e : lastM bi bt es = (i, t)) :
    ACalls PR 16 #[.pointer (some ⟨p, 0, none⟩), I i, I t] h (fun v h' => v = .bool true ∧ h = h') :=
  (lawlast_any L hlen i t).mono fun v h' ⟨q, r⟩ => ⟨by rw [q, decide_eq_true e], r⟩
theorem Has_yes {h : Heap} {p o : Nat} {bi bt : Int} {es : List EH} {a : Option Addr} {cap : Nat} (L : LedAt h p o bi bt es a cap) (S : Seq bi es) {i t : Int} (e : termR bi bt es i = (t, 0)) :
    ACalls PR 33 #[.pointer (some ⟨p, 0, none⟩), I i, I t] h (fun v h' => v = .bool true ∧ h = h') :=
  (Has_any L S i t).mono fun v h' ⟨q, r⟩ => ⟨by rw [q, decide_eq_true (by rw [e]; exact ⟨rfl, rfl⟩)], r⟩
theorem Has_no {h : Heap} {p o : Nat} {bi bt : Int} {es : List EH} {a : Option Addr} {cap : Nat} (L : LedAt h p o bi bt es a cap) (S : Seq bi es) {i t : Int} (e : ¬ termR bi bt es i = (t, 0)) :
    ACalls PR 33 #[.pointer (some ⟨p, 0, none⟩), I i, I t] h (fun v h' => v = .bool false ∧ h = h') :=
  (Has_any L S i t).mono fun v h' ⟨q, r⟩ => ⟨by rw [q, decide_eq_false (by rintro ⟨c1, c2⟩; exact e (Prod.ext c2 c1))], r⟩
theorem same_yes (h : Heap) {t1 t2 : Tag} (x y : EH) (gx : x.Good h t1) (gy : y.Good h t2) (hn : x.n ≤ 4611686018427387904) (e : x.abs = y.abs) :
    ACalls PR 32 #[x.val, y.val] h (fun v h' => v = .bool true ∧ h = h') :=
  (same_any h x y gx gy hn).mono fun v h' ⟨q, r⟩ => ⟨by rw [q, decide_eq_true e], r⟩
theorem alike_yes (h : Heap) {t1 td1 t2 td2 : Tag} {a1 a2 : Option Addr} {n1 n2 c1 c2 : Nat} {xs ys : List EH} (s1 : Ents h t1 td1 a1 n1 c1 xs) (s2 : Ents h t2 td2 a2 n2 c2 ys) (hn : n1 ≤ 4611686018427387904) (e : xs.map EH.abs = ys.map EH.abs) :
    ACalls PR 25 #[.slice a1 n1 c1, .slice a2 n2 c2] h (fun v h' => v = .bool true ∧ h = h') :=
  (alike_any h s1 s2 hn).mono fun v h' ⟨q, r⟩ => ⟨by rw [q, decide_eq_true e], r⟩

set_option maxHeartbeats 2000000 in
theorem works_keep (h : Heap) : ACalls PR 11 #[] h (fun v h' => v = .bool true ∧ Keep 7 h h') := by
  refine acalls_of mix Try.func11 rfl rfl Try.ntmps11 Try.results11 rfl ?_; conv => whnf
  refine ACalls.mono (New_ok h 7 (by omega) 4 2 (by decide)) ?_; rintro _ h1 ⟨p, rfl, L1, s1⟩; conv => whnf
  refine ACmp.no (by simp) ?_; conv => whnf
  refine ACalls.mono (First_any L1 (by omega) (by omega)) ?_; rintro _ _ ⟨rfl, rfl⟩; conv => whnf
  refine ACmp.no (by simp) ?_; conv => whnf
  refine ACalls.mono (lawlast_yes L1 (by simp) (i := 4) (t := 2) rfl) ?_; rintro _ _ ⟨rfl, rfl⟩; conv => whnf
  refine ACalls.mono (one_any _ (0, 2) (by simp) 5 2) ?_; rintro _ h2 ⟨a1, c1, rfl, g1, s2⟩; conv => whnf
  refine ACalls.mono (one_any _ (0, 2) (by simp) 6 3) ?_; rintro _ h3 ⟨a2, c2, rfl, g2, s3⟩; conv => whnf
  refine ABuildSl.mk (0, 1) rfl rfl rfl rfl rfl rfl rfl fun b4 f4 => ?_; conv => whnf
  generalize hx : (⟨2, 5, 1, a1, 2, c1, [b8 5, b8 2]⟩ : EH) = x1
  generalize hy : (⟨3, 6, 1, a2, 2, c2, [b8 6, b8 3]⟩ : EH) = x2
  have s4 := f4.sub (row (0, 1) (x1.cells ++ x2.cells) 34)
  have X : Ents (h3.set b4 (row (0, 1) (x1.cells ++ x2.cells) 34)) (0, 1) (0, 2) (some ⟨b4, 0, none⟩) 2 2 [x1, x2] :=
    Ents.two (Heap.set_same _ _ _) (by subst hx; exact Sl.sub (Sl.sub g1 s3) s4) (by subst hy; exact Sl.sub g2 s4) (by subst hx; simp) (by subst hy; simp)
  have L4 := L1.sub (s2.trans (s3.trans s4))
  have happ : app (lastM 4 2 []) [x1, x2] = 0 := by subst hx; subst hy; simp [app, chk, isNum, lastM]
  have hcells : [I 2, I 5, I 1, .slice a1 2 c1, I 3, I 6, I 1, .slice a2 2 c2] = x1.cells ++ x2.cells := by subst hx; subst hy; rfl
  rw [show ([Value.int IntKind.i64 2, Value.int IntKind.i64 5, Value.int IntKind.i64 1, Value.slice a1 2 c1, Value.int IntKind.i64 3, Value.int IntKind.i64 6, Value.int IntKind.i64 1, Value.slice a2 2 c2] : List Value) = x1.cells ++ x2.cells from hcells]
  refine ACalls.mono (Append_ok (by omega) L4 (Seq.nil (by omega) (by omega)) (by simp) (by simp) X (by simp) happ) ?_; rintro _ h5 ⟨rfl, es5, a5, cap5, L5, habs5, k5⟩; conv => whnf
  rw [List.nil_append] at habs5
  have S5 : Seq 4 es5 := (Seq.append (bt := 2) (Seq.nil (by omega) (by omega)) happ).congr (by rw [List.nil_append]; exact habs5.symm)
  have hlen5 : es5.length = 2 := abs_len habs5
  have hl5 : lastM 4 2 es5 = (6, 3) := by rw [lastM_congr habs5]; subst hx; subst hy; rfl
  refine ACmp.no (by simp) ?_; conv => whnf
  refine ACalls.mono (lawlast_yes L5 (by omega) (i := 6) (t := 3) hl5) ?_; rintro _ _ ⟨rfl, rfl⟩; conv => whnf
  have ht6 : termR 4 2 es5 6 = (3, 0) := by rw [termR_congr habs5]; subst hx; subst hy; rfl
  refine ACalls.mono (Has_yes L5 S5 (i := 6) (t := 3) ht6) ?_; rintro _ _ ⟨rfl, rfl⟩; conv => whnf
  refine ACalls.mono (Has_yes L5 S5 (i := 4) (t := 2) rfl) ?_; rintro _ _ ⟨rfl, rfl⟩; conv => whnf
  refine ACalls.mono (one_any _ (0, 2) (by simp) 8 3) ?_; rintro _ h6 ⟨a6, c6, rfl, g6, s6⟩; conv => whnf
  refine ABuildSl.mk (0, 1) rfl rfl rfl rfl rfl rfl rfl fun b7 f7 => ?_; conv => whnf
  have s7 := f7.sub (row (0, 1) [I 3, I 8, I 1, .slice a6 2 c6] 34)
  have X7 : Ents (h6.set b7 (row (0, 1) [I 3, I 8, I 1, .slice a6 2 c6] 34)) (0, 1) (0, 2) (some ⟨b7, 0, none⟩) 1 1 [⟨3, 8, 1, a6, 2, c6, [b8 8, b8 3]⟩] :=
    Ents.one (Heap.set_same _ _ _) (Sl.sub g6 s7) (by simp)
  have L7 := L5.sub (s6.trans s7)
  have happ7 : app (lastM 4 2 es5) [⟨3, 8, 1, a6, 2, c6, [b8 8, b8 3]⟩] = 170 := by rw [hl5]; simp [app, chk, isNum]
  refine ACalls.mono (Append_bad (by omega) L7 S5 (by simp) (by simp) X7 (by omega) (by rw [happ7]; decide)) ?_
  rw [happ7]
  rintro _ _ ⟨rfl, rfl⟩
  conv => whnf
  refine ACmp.no (by simp) ?_; conv => whnf
  refine ACalls.mono (Cut_ok L7 S5 6 1 (by omega) (by omega)) ?_; rintro _ h8 ⟨rfl, L8, k8⟩; conv => whnf
  refine ACmp.no (by simp) ?_; conv => whnf
  have habs8 : (es5.take 1).map EH.abs = [x1].map EH.abs := by rw [List.map_take, habs5]; rfl
  have hl8 : lastM 4 2 (es5.take 1) = (5, 2) := by rw [lastM_congr habs8]; subst hx; rfl
  have S8 := S5.take 1
  have hlen8 : (es5.take 1).length = 1 := abs_len habs8
  refine ACalls.mono (lawlast_yes L8 (by omega) (i := 5) (t := 2) hl8) ?_; rintro _ _ ⟨rfl, rfl⟩; conv => whnf
  obtain ⟨e, he, hea⟩ : ∃ e, (es5.take 1)[0]? = some e ∧ e.abs = x1.abs := by
    obtain ⟨y, hy', hab⟩ := abs_some (k := 0) (x := x1) habs8.symm rfl
    exact ⟨y, hy', hab.symm⟩
  have hei : e.term = 2 ∧ e.index = 5 := by subst hx; simp only [EH.abs, Prod.mk.injEq] at hea; exact ⟨hea.1, hea.2.1⟩
  have heg : e.Good h8 (7, 2) := L8.good e (List.mem_of_getElem? he)
  have hesm : e.n ≤ 1200 := L8.small e (List.mem_of_getElem? he)
  refine ACalls.mono (Get_some L8 S8 (0, 2) (by simp) 5 0 e (by omega) he) ?_; rintro _ h9 ⟨a9, c9, rfl, g9, s9⟩; conv => whnf
  refine AAlloc.mk (0, 1) rfl fun b3 f3 => ?_; conv => whnf
  refine AStore.agg' rfl rfl rfl (Heap.set_same _ _ _) rfl ?_; conv => whnf
  rw [Heap.set_set]
  have s10 := f3.sub (row (0, 1) [I e.term, I e.index, I e.kind, .slice a9 e.n c9] 34)
  have k3 := Heap.set_same h9 b3 (row (0, 1) [I e.term, I e.index, I e.kind, .slice a9 e.n c9] 34)
  have L10 := L8.sub (s9.trans s10)
  refine ADrawn.mk (two _ b3 b3) [] (two_sub _ _ _) (by decide +kernel) ?_; conv => whnf
  refine ACmp.yes (by simp) ?_; conv => whnf
  refine ALoad.agg rfl ((two_l _ _ _).trans k3) rfl rfl ?_; conv => whnf
  refine ACalls.mono (one_any _ (0, 2) (by simp) 5 2) ?_
  rintro _ h11 ⟨a11, c11, rfl, g11, s11⟩
  refine ⟨(two_sub _ _ _).trans s11, ?_⟩
  conv => whnf
  refine ACalls.mono (same_yes _ (⟨e.term, e.index, e.kind, a9, e.n, c9, e.data⟩ : EH) (⟨2, 5, 1, a11, 2, c11, [b8 5, b8 2]⟩ : EH) (Sl.sub g9.sl (s10.trans s11)) g11 (by simp; omega) ?_) ?_
  · subst hx; exact hea
  rintro _ _ ⟨rfl, rfl⟩
  refine ⟨(two_sub _ _ _).trans s11, ?_⟩
  conv => whnf
  refine ACalls.mono (Compact_ok (by omega) (L10.sub s11) S8 5 0 e (by omega) he (by omega)) ?_
  rintro _ h12 ⟨rfl, a12, c12, L12, k12⟩
  refine ⟨two_get (fun y hy => ?_) (fun y hy => ?_), ?_⟩
  · rw [k3] at hy; cases hy; exact k12.get (by simp) (s11 _ _ k3)
  · rw [k3] at hy; cases hy; exact k12.get (by simp) (s11 _ _ k3)
  conv => whnf
  refine ACmp.yes (by simp) ?_; conv => whnf
  have hd : (es5.take 1).drop (0 + 1) = [] := by rw [List.drop_eq_nil_of_le]; omega
  rw [hd, hei.1, hei.2] at L12
  refine ACalls.mono (First_any L12 (by omega) (by omega)) ?_
  rintro _ _ ⟨rfl, rfl⟩
  refine ⟨two_get (fun y hy => ?_) (fun y hy => ?_), ?_⟩
  · rw [k3] at hy; cases hy; exact k12.get (by simp) (s11 _ _ k3)
  · rw [k3] at hy; cases hy; exact k12.get (by simp) (s11 _ _ k3)
  conv => whnf
  refine ACmp.yes (by simp) ?_; conv => whnf
  refine ACalls.mono (lawlast_yes L12 (by simp) (i := 5) (t := 2) rfl) ?_
  rintro _ _ ⟨rfl, rfl⟩
  refine ⟨two_get (fun y hy => ?_) (fun y hy => ?_), ?_⟩
  · rw [k3] at hy; cases hy; exact k12.get (by simp) (s11 _ _ k3)
  · rw [k3] at hy; cases hy; exact k12.get (by simp) (s11 _ _ k3)
  conv => whnf
  refine ⟨rfl, ?_⟩
  exact ((s1.trans (s2.trans (s3.trans s4))).keep 7).trans (k5.trans (((s6.trans s7).keep 7).trans (k8.trans (((s9.trans (s10.trans s11)).keep 7).trans k12))))
theorem works_any (h : Heap) (hno : NoOwner 7 h) : ACalls PR 11 #[] h (fun v h' => v = .bool true ∧ h = h') :=
  acalls_pure ((works_keep h).mono fun _ _ ⟨q, k⟩ => ⟨q, k.toSub hno⟩)
end Go.Ah
