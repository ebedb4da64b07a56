/- Texts that the law leans on, one behind the other. -/
import Derived.Test.YtdmjkpjedidipaaGreatKCk8
namespace Go.Ah
open Go.Proofs
set_option linter.unusedVariables false
set_option linter.unusedSimpArgs false
set_option maxRecDepth 20000
def kvG {α : Type} (f : α → Value) (l : List (Int × α)) : List (Value × Value) := l.map fun y => (I y.1, f y.2)
theorem kvG_miss {α : Type} {f : α → Value} {k : Int} : ∀ {l : List (Int × α)} {es : List MapEntry}, es.map kv = kvG f l → alook k l = none → ∀ e ∈ es, e.key ≠ I k
 | [], es, h, _, e, he => by
  have : es = [] := List.map_eq_nil_iff.1 h
  rw [this] at he; cases he
 | (j, y) :: l, es, h, hn, e, he => by
  cases es with
  | nil => cases he
  | cons e1 es =>
   simp only [kvG, List.map_cons, List.cons.injEq, Prod.mk.injEq, kv] at h
   obtain ⟨⟨h1, h2⟩, h3⟩ := h
   unfold alook at hn
   split at hn
   ·cases hn
   rename_i hj
   rcases List.mem_cons.1 he with rfl | he
   ·rw [h1]; intro c; simp only [Value.int.injEq, true_and] at c; exact hj c
   ·exact kvG_miss (f := f) h3 hn e he
theorem kvG_hit {α : Type} {f : α → Value} {k : Int} {o : α} : ∀ {l : List (Int × α)} {es : List MapEntry}, es.map kv = kvG f l → alook k l = some o →
  ∃ (j : Nat) (e : MapEntry), es[j]? = some e ∧ e.key = I k ∧ e.val = f o ∧ ∀ x : α, (es.set j { e with val := f x }).map kv = kvG f (aset k x l)
 | [], es, h, hn => by cases hn
 | (j, y) :: l, es, h, hn => by
  cases es with
  | nil => simp [kvG] at h
  | cons e1 es =>
   simp only [kvG, List.map_cons, List.cons.injEq, Prod.mk.injEq, kv] at h
   obtain ⟨⟨h1, h2⟩, h3⟩ := h
   unfold alook at hn
   split at hn
   ·rename_i hj
    cases hn
    refine ⟨0, e1, rfl, by rw [h1, hj], h2, fun x => ?_⟩
    unfold aset
    rw [if_pos hj]
    simp only [List.set_cons_zero, List.map_cons, kvG, kv, h1]
    rw [show es.map (fun e => (e.key, e.val)) = l.map (fun y => (I y.1, f y.2)) from h3]
   ·rename_i hj
    obtain ⟨i, e, a, b, c, d⟩ := kvG_hit (f := f) h3 hn
    refine ⟨i + 1, e, a, b, c, fun x => ?_⟩
    unfold aset
    rw [if_neg hj]
    simp only [List.set_cons_succ, List.map_cons, kvG, kv, h1, h2]
    have := d x
    unfold kvG at this
    rw [show (es.set i { e with val := f x }).map (fun e => (e.key, e.val)) = _ from this]
theorem kvG_new {α : Type} {f : α → Value} {k : Int} {x : α} {clock : Nat} : ∀ {l : List (Int × α)} {es : List MapEntry}, es.map kv = kvG f l → alook k l = none → (es ++ [(⟨I k, f x, clock⟩ : MapEntry)]).map kv = kvG f (aset k x l)
 | [], es, h, _ => by
  have : es = [] := List.map_eq_nil_iff.1 h
  rw [this]; rfl
 | (j, y) :: l, es, h, hn => by
  cases es with
  | nil => simp [kvG] at h
  | cons e1 es =>
   simp only [kvG, List.map_cons, List.cons.injEq] at h
   unfold alook at hn
   split at hn
   ·cases hn
   rename_i hj
   unfold aset
   rw [if_neg hj]
   have := kvG_new (f := f) (x := x) (clock := clock) (es := es) h.2 hn
   simp only [List.cons_append, List.map_cons, kvG] at this ⊢
   rw [this, h.1]
theorem alook_map {α β : Type} (f : α → β) (k : Int) : ∀ l : List (Int × α), alook k (l.map fun y => (y.1, f y.2)) = (alook k l).map f
 | [] => rfl
 | (j, y) :: l => by
  rw [List.map_cons]
  unfold alook
  simp only []
  split
  ·rfl
  ·exact alook_map f k l
theorem aset_map {α β : Type} (f : α → β) (k : Int) (x : α) : ∀ l : List (Int × α), (aset k x l).map (fun y => (y.1, f y.2)) = aset k (f x) (l.map fun y => (y.1, f y.2))
 | [] => rfl
 | (j, y) :: l => by
  rw [List.map_cons]
  unfold aset
  simp only []
  split
  ·rfl
  ·rw [List.map_cons, aset_map f k x l]
theorem aset_mem {α : Type} {k : Int} {x : α} {y : Int × α} : ∀ {l : List (Int × α)}, y ∈ aset k x l → y.2 = x ∨ y ∈ l
 | [], h => by rw [List.mem_singleton.1 h]; exact .inl rfl
 | (j, z) :: l, h => by
  unfold aset at h
  split at h
  ·rcases List.mem_cons.1 h with rfl | h
   ·exact .inl rfl
   ·exact .inr (List.mem_cons_of_mem _ h)
  ·rcases List.mem_cons.1 h with rfl | h
   ·exact .inr (by simp)
   ·exact (aset_mem h).imp id (List.mem_cons_of_mem _)
theorem alook_mem {α : Type} {k : Int} {x : α} : ∀ {l : List (Int × α)}, alook k l = some x → (k, x) ∈ l
 | [], h => by cases h
 | (j, z) :: l, h => by
  unfold alook at h
  split at h
  ·rename_i e; cases h; rw [e]; simp
  ·exact List.mem_cons_of_mem _ (alook_mem h)
theorem AMapUpd.hitN {P : Program} {t kt et : TypeId} {d : TypeDesc} {h : Heap} {r clock : Nat} {tg : Tag} {es : List MapEntry} {k x : Value} {K : Heap → Prop} {j : Nat} {e : MapEntry} (m : MapAt h r tg d es clock)
  (ht : P.underlying t = some (.map kt et)) (hd : P.underlying kt = some d) (hj : es[j]? = some e) (hk : e.key = k)
  (c : ∀ h2, MapAt h2 r tg d (es.set j { e with val := x }) clock → KeepT tg h h2 → K h2) : AMapUpd P t r k x h K :=
 AMapUpd.hit m ht hd hj hk fun mm => c _ mm (KeepT.set m.at_)
theorem AMapUpd.missN {P : Program} {t kt et : TypeId} {d : TypeDesc} {h : Heap} {r clock : Nat} {tg : Tag} {es : List MapEntry} {k x : Value} {K : Heap → Prop} (m : MapAt h r tg d es clock)
  (ht : P.underlying t = some (.map kt et)) (hd : P.underlying kt = some d) (hik : Go.MapKept.IsKey d k) (hk : ∀ e ∈ es, e.key ≠ k)
  (c : ∀ h2, MapAt h2 r tg d (es ++ [(⟨k, x, clock⟩ : MapEntry)]) (clock + 1) → KeepT tg h h2 → K h2) : AMapUpd P t r k x h K :=
 AMapUpd.miss m ht hd hik hk fun mm => c _ mm (KeepT.set m.at_)
theorem Idle.x {T : TypeId} {LP : Heap → Nat → Nat → LG → Prop} {h : Heap} {p o : Nat} {c : CoreM} (k : Idle T LP h p o c) : ∃ x, CoreX T LP h p o 1 c x := k.all 1
theorem state_i {h : Heap} {p o : Nat} {c : CoreM} (k : PIdle h p o c) : ACalls PR 18 #[Ptr p] h (fun v h' => v = I c.state ∧ h = h') := by
 obtain ⟨x, k⟩ := k.x; exact State_any k
theorem term_i {h : Heap} {p o : Nat} {c : CoreM} (k : PIdle h p o c) : ACalls PR 17 #[Ptr p] h (fun v h' => v = I c.term ∧ h = h') := by
 obtain ⟨x, k⟩ := k.x; exact CTerm_any k
theorem commit_i {h : Heap} {p o : Nat} {c : CoreM} (k : PIdle h p o c) : ACalls PR 14 #[Ptr p] h (fun v h' => v = I c.commit ∧ h = h') := by
 obtain ⟨x, k⟩ := k.x; exact Commit_any k
variable {h h' : Heap} {N p : Nat} {x : NetM} {v : NX}
theorem NetX.same (k : NetX h N p x v) (kt : KeepT (N, 0) h h') (hs : h' p = some (row (N, 0) (netCells x v) 41)) : NetX h' N p x v :=
 k.move' (fun b t y _ n e => kt _ _ _ n e) hs rfl rfl rfl rfl rfl rfl rfl
theorem NetX.ledSet (k : NetX h N p x v) (kt : KeepT (N, 1) h h') {e1 : List MapEntry} {k1 : Nat} {l : List (Int × Int)} (m : MapAt h' v.m1 (N, 1) (.int .i64) e1 k1) (e : e1.map kv = kvI l) :
  NetX h' N p { x with leaders := l } { v with e1 := e1, k1 := k1 } := by
 have mv : ∀ b (t : Tag) y, t ≠ (N, 1) → h b = some (t, y) → h' b = some (t, y) := fun b t y n e => kt _ _ _ n e
 refine ⟨k.n0, mv _ _ _ (by simp) k.str, k.sz3, k.sz5, fun n n1 n2 => ?_, k.none, fun n n1 n2 => ?_, k.ml.move fun _ _ e => mv _ _ _ (by simp) e, k.pa, fun y hy => ?_, k.mb, m, e, k.cho.move fun _ e => mv _ _ _ (by simp) e, k.choE, k.choA, fun y hy => Sl.move (k.choG y hy) fun _ _ e => mv _ _ _ (by simp) e⟩
 ·obtain ⟨b, hb, id⟩ := k.cores n n1 n2
  exact ⟨b, hb, id.move fun _ t _ ht e => mv _ _ _ (fun c => by rw [c] at ht; simp only at ht; omega) e⟩
 ·obtain ⟨q1, t1, q2, q3⟩ := k.kept n n1 n2
  exact ⟨q1, t1, q2, q3.move fun _ t _ ht e => mv _ _ _ (by rcases ht with rfl | rfl | rfl <;> (intro c; have := congrArg Prod.fst c; have := congrArg Prod.snd c; simp only at *; omega)) e⟩
 ·obtain ⟨r, hr⟩ := k.ps y hy
  exact ⟨r, hr.move fun _ t _ ht e => mv _ _ _ (by rcases ht with rfl | rfl | rfl <;> simp) e⟩
theorem NetX.choSet (k : NetX h N p x v) (kt : KeepT (N, 2) h h') {e2 : List MapEntry} {k2 : Nat} {l : List (Int × EH)} (m : MapAt h' v.m2 (N, 2) (.int .i64) e2 k2) (e : e2.map kv = kvE l) {l' : List (Int × Abs)} (el : l.map (fun y => (y.1, y.2.abs)) = l') (g : ∀ y ∈ l, y.2.Good h (N + 1, 2)) :
  NetX h' N p { x with chosen := l' } { v with e2 := e2, k2 := k2, ch := l } := by
 have mv : ∀ b (t : Tag) y, t ≠ (N, 2) → h b = some (t, y) → h' b = some (t, y) := fun b t y n e => kt _ _ _ n e
 refine ⟨k.n0, mv _ _ _ (by simp) k.str, k.sz3, k.sz5, fun n n1 n2 => ?_, k.none, fun n n1 n2 => ?_, k.ml.move fun _ _ e => mv _ _ _ (by simp) e, k.pa, fun y hy => ?_, k.mb, k.led.move fun _ e => mv _ _ _ (by simp) e, k.ledE, m, e, el, fun y hy => Sl.move (g y hy) fun _ _ e => mv _ _ _ (by simp) e⟩
 ·obtain ⟨b, hb, id⟩ := k.cores n n1 n2
  exact ⟨b, hb, id.move fun _ t _ ht e => mv _ _ _ (fun c => by rw [c] at ht; simp only at ht; omega) e⟩
 ·obtain ⟨q1, t1, q2, q3⟩ := k.kept n n1 n2
  exact ⟨q1, t1, q2, q3.move fun _ t _ ht e => mv _ _ _ (by rcases ht with rfl | rfl | rfl <;> (intro c; have := congrArg Prod.fst c; have := congrArg Prod.snd c; simp only at *; omega)) e⟩
 ·obtain ⟨r, hr⟩ := k.ps y hy
  exact ⟨r, hr.move fun _ t _ ht e => mv _ _ _ (by rcases ht with rfl | rfl | rfl <;> simp) e⟩
structure LookOk (x : NetM) (n : Int) : Prop where
  f1 : (x.cores.get n).state = 2 → ∀ o, alook (x.cores.get n).term x.leaders = some o → o = n
  f2 : x.commits.get n ≤ (x.cores.get n).commit
  f3 : x.terms.get n ≤ (x.cores.get n).term
  es : (lookEs (x.cores.get n).commit (x.kept.get n).entries (true, x.chosen)).1 = true
  top : (x.cores.get n).commit ≤ (x.kept.get n).snap.index + (x.kept.get n).entries.length
  s0 : 0 ≤ (x.kept.get n).snap.index
  s1 : (x.kept.get n).snap.index ≤ 1000000000
  len : (x.kept.get n).entries.length ≤ 1000000000
  fine : x.fine = true
theorem lookEs_false (commit : Int) : ∀ (l : List Abs) (ch : List (Int × Abs)), (lookEs commit l (false, ch)).1 = false
 | [], ch => rfl
 | e :: l, ch => by
  unfold lookEs
  split
  ·rfl
  ·exact lookEs_false commit l _
theorem lookEs_head {commit : Int} {e : Abs} {l : List Abs} {ch : List (Int × Abs)} (k : (lookEs commit (e :: l) (true, ch)).1 = true) (hc : ¬ commit < e.2.1) :
  agreeE (alook e.2.1 ch) e = true ∧ lookEs commit (e :: l) (true, ch) = lookEs commit l (true, aset e.2.1 e ch) := by
 have e1 : lookEs commit (e :: l) (true, ch) = lookEs commit l (true && agreeE (alook e.2.1 ch) e, aset e.2.1 e ch) := if_neg hc
 rw [e1] at k ⊢
 cases ha : agreeE (alook e.2.1 ch) e with
 | true => exact ⟨rfl, rfl⟩
 | false => rw [ha] at k; simp only [Bool.and_false] at k; rw [lookEs_false] at k; cases k
theorem look_eq (x : NetM) (n : Int) (k : LookOk x n) : x.look n = { x with
  leaders := if (x.cores.get n).state = 2 then aset (x.cores.get n).term n x.leaders else x.leaders,
  chosen := (lookEs (x.cores.get n).commit (x.kept.get n).entries (true, x.chosen)).2,
  commits := x.commits.set n (x.cores.get n).commit, terms := x.terms.set n (x.cores.get n).term } := by
 have f1 : (if (x.cores.get n).state = 2 then agreeI (alook (x.cores.get n).term x.leaders) n else true) = true := by
  split
  ·rename_i h2
   cases ho : alook (x.cores.get n).term x.leaders with
   | none => rfl
   | some o => exact decide_eq_true (k.f1 h2 o ho)
  ·rfl
 have f2 : (decide (x.commits.get n ≤ (x.cores.get n).commit) && decide (x.terms.get n ≤ (x.cores.get n).term)) = true := by
  rw [decide_eq_true k.f2, decide_eq_true k.f3]; rfl
 unfold NetM.look
 simp only []
 rw [k.fine, f1, f2, Bool.true_and, Bool.true_and, k.es, decide_eq_true k.top, Bool.and_self]
set_option maxHeartbeats 4000000 in
theorem look_any (k : NetX h N p x v) {n : Int} (n1 : 1 ≤ n) (n2 : n ≤ x.size) (ok : LookOk x n) :
  ACalls PR 124 #[Ptr p, I n] h (fun r h' => r = .tuple #[] ∧ (∃ v', NetX h' N p (x.look n) v') ∧ Low N h h') := by
 rw [look_eq x n ok]
 have hN := k.n0
 have hs5 := k.sz5
 have n5 : n ≤ 5 := by omega
 obtain ⟨m, hm⟩ : ∃ m : Nat, n = m := ⟨n.toNat, by omega⟩
 obtain ⟨b, hb, id⟩ := k.cores n n1 n2
 obtain ⟨ka, t1, kt1, kok⟩ := k.kept n n1 n5
 obtain ⟨c, hc⟩ : ∃ c, c = x.cores.get n := ⟨_, rfl⟩
 obtain ⟨s, hs⟩ : ∃ s, s = v.ke.get n := ⟨_, rfl⟩
 rw [← hs] at ka kok
 have o1 := ok.f1; have o2 := ok.f2; have o3 := ok.f3; have o4 := ok.es; have o5 := ok.top; have o6 := ok.s0; have o7 := ok.s1; have o8 := ok.len
 rw [← ka] at o4 o5 o6 o7 o8 ⊢
 rw [← hc] at o1 o2 o3 o4 o5 id ⊢
 have hsl : s.es.length = s.e.n := kok.es.len
 have hlen : s.abs.entries.length = s.e.n := by show (s.es.map EH.abs).length = _; rw [List.length_map, hsl]
 have hse : s.abs.entries = s.es.map EH.abs := rfl
 have hsi : s.abs.snap.index = s.si := rfl
 rw [hlen, hsi] at o5
 rw [hsi] at o6 o7
 rw [hlen] at o8
 have hcore : (netCells x v)[0 + 2 + m * 1]? = some (Ptr b) := by
  have := core_cell x v n1 n5
  rw [hb] at this
  rw [show 0 + 2 + m * 1 = 2 + n.toNat by omega]; exact this
 have t01 : ((0, 1) : Tag) ≠ (N, 0) := fun c => by have := congrArg Prod.fst c; simp only at this; omega
 refine acalls_of mix Tryz.func124 rfl rfl Tryz.ntmps124 Tryz.results124 rfl ?_; conv=>whnf
 refine AIdxA.nat (n := 6) (z := 1) (j := m) (by omega) (by omega) rfl rfl ?_; conv=>whnf
 refine ALoad.one rfl k.str hcore ?_; conv=>whnf
 refine ACalls.mono (state_i id) ?_; rintro _ _ ⟨rfl, rfl⟩; conv=>whnf
 by_cases c2 : c.state = 2
 ·refine ACmp.yes (c2) ?_; conv=>whnf
  rw [if_pos c2]
  refine ADrawn.mk (h) [] (Sub.refl _) (by decide +kernel) ?_; conv=>whnf
  refine ALoad.one rfl k.str rfl ?_; conv=>whnf
  refine ACalls.mono (term_i id) ?_; rintro _ _ ⟨rfl, rfl⟩; conv=>whnf
  refine ⟨Sub.refl _, ?_⟩; conv=>whnf
  cases ho : alook c.term x.leaders with
  | none =>
   refine ALookup.miss k.led rfl rfl rfl rfl (kvG_miss (f := I) k.ledE ho) ?_
   conv=>whnf
   refine ALoad.one rfl k.str rfl ?_; conv=>whnf
   have EE : (v.e1 ++ [(⟨I c.term, I n, v.k1⟩ : MapEntry)]).map kv = kvI (aset c.term n x.leaders) := kvG_new (f := I) k.ledE ho
   refine AStore.oneN rfl rfl rfl (k.str) rfl (netCells x v) rfl fun h2 t2 q2 a2 e2 => ?_; conv=>whnf
   have k2 := k.same t2 q2
   have id2 : PIdle h2 b (N + 2 * n.toNat) c := id.move fun _ t _ ht e => t2 _ _ _ (fun c => by rw [c] at ht; simp only at ht; omega) e
   refine ADrawn.mkO (h2) [7] [0, 1, 2, 3, 4, 6, 5, 7] (Sub.refl _) (by decide +kernel) ?_; conv=>whnf
   refine ALoad.one rfl k2.str rfl ?_; conv=>whnf
   refine ACalls.mono (term_i id2) ?_; rintro _ _ ⟨rfl, rfl⟩; conv=>whnf
   refine ⟨Sub.refl _, ?_⟩; conv=>whnf
   refine AMapUpd.missN k2.led rfl rfl rfl (kvG_miss (f := I) k2.ledE ho) fun h3 mm t3 => ?_; conv=>whnf
   have K1 := k2.ledSet t3 mm EE
   have L1 : Low N h h3 := Low.trans (show Low N h h2 from fun b t y ht e => t2 _ _ _ (fun c => by rw [c] at ht; simp at ht) e) fun b t y ht e => t3 _ _ _ (fun c => by rw [c] at ht; simp at ht) e
   have id1 : PIdle h3 b (N + 2 * n.toNat) c := by
    obtain ⟨b', hb', id'⟩ := K1.cores n n1 n2
    have hb2 : v.cp.get n = some b' := hb'
    rw [hb] at hb2; cases hb2; rw [hc]; exact id'
   have hcm : (netCells { x with leaders := aset c.term n x.leaders } { v with e1 := (v.e1 ++ [(⟨I c.term, I n, v.k1⟩ : MapEntry)]), k1 := (v.k1 + 1) })[0 + 54 + m * 1]? = some (I (x.commits.get n)) := by
    rw [show 0 + 54 + m * 1 = 54 + n.toNat by omega]; exact cm_cell { x with leaders := aset c.term n x.leaders } { v with e1 := (v.e1 ++ [(⟨I c.term, I n, v.k1⟩ : MapEntry)]), k1 := (v.k1 + 1) } n1 n5
   have htm : (netCells { x with leaders := aset c.term n x.leaders } { v with e1 := (v.e1 ++ [(⟨I c.term, I n, v.k1⟩ : MapEntry)]), k1 := (v.k1 + 1) })[0 + 60 + m * 1]? = some (I (x.terms.get n)) := by
    rw [show 0 + 60 + m * 1 = 60 + n.toNat by omega]; exact tm_cell { x with leaders := aset c.term n x.leaders } { v with e1 := (v.e1 ++ [(⟨I c.term, I n, v.k1⟩ : MapEntry)]), k1 := (v.k1 + 1) } n1 n5
   refine ADrawn.mkO (h3) [29] [0, 1, 2, 3, 4, 5, 6, 8, 9, 10, 11, 12, 13, 7, 14, 15, 16, 17, 19, 20, 21, 22, 23, 24, 18, 25, 26, 27, 28, 29] (Sub.refl _) (by decide +kernel) ?_; conv=>whnf
   refine ALoad.one rfl K1.str rfl ?_; conv=>whnf
   refine AIdxA.nat (n := 6) (z := 1) (j := m) (by omega) (by omega) rfl rfl ?_; conv=>whnf
   refine ALoad.one rfl K1.str hcm ?_; conv=>whnf
   refine ACalls.mono (commit_i id1) ?_; rintro _ _ ⟨rfl, rfl⟩; conv=>whnf
   refine ⟨Sub.refl _, ?_⟩; conv=>whnf
   refine ACmp.yes (o2) ?_; conv=>whnf
   refine AIdxA.nat (n := 6) (z := 1) (j := m) (by omega) (by omega) rfl rfl ?_; conv=>whnf
   refine ALoad.one rfl K1.str htm ?_; conv=>whnf
   refine ACalls.mono (term_i id1) ?_; rintro _ _ ⟨rfl, rfl⟩; conv=>whnf
   refine ⟨Sub.refl _, ?_⟩; conv=>whnf
   refine ACmp.yes (o3) ?_; conv=>whnf
   refine AStore.oneN rfl rfl rfl (K1.str) rfl (netCells { x with leaders := aset c.term n x.leaders } { v with e1 := (v.e1 ++ [(⟨I c.term, I n, v.k1⟩ : MapEntry)]), k1 := (v.k1 + 1) }) rfl fun h2 t2 q2 a2 e2 => ?_; conv=>whnf
   have K2 := K1.same t2 q2
   have L2 : Low N h h2 := L1.trans fun b t y ht e => t2 _ _ _ (fun c => by rw [c] at ht; simp at ht) e
   refine AIdxA.nat (n := 6) (z := 7) (j := m) (by omega) (by omega) rfl rfl ?_; conv=>whnf
   have hke : ((netCells { x with leaders := aset c.term n x.leaders } { v with e1 := (v.e1 ++ [(⟨I c.term, I n, v.k1⟩ : MapEntry)]), k1 := (v.k1 + 1) }).drop (0 + 8 + m * 7)).take 7 = s.cells := by
    rw [show 0 + 8 + m * 7 = 8 + n.toNat * 7 by omega, kept_cells { x with leaders := aset c.term n x.leaders } { v with e1 := (v.e1 ++ [(⟨I c.term, I n, v.k1⟩ : MapEntry)]), k1 := (v.k1 + 1) } n1 n5, hs]
   refine ALoad.agg rfl q2 hke rfl ?_; conv=>whnf
   refine AAlloc.mkN (0, 1) ([I 0, I 0, I 0, I 0, I 0, .slice none 0 0, .slice none 0 0]) rfl fun b7 h3 n3 s3 q3 => ?_; conv=>whnf
   refine AStore.aggN rfl rfl rfl (q3) rfl (s.cells) rfl fun h4 t4 q4 a4 e4 => ?_; conv=>whnf
   have K4 := (K2.sub s3).local t4
   have L4 : Low N h h4 := L2.trans (Sub.low (a4 h2 s3 n3))
   clear t2 q2 a2 e2 K2 L2 n3 s3 q3 t4 a4 e4
   refine ALoop.mk (fun e h' => ∃ (e0 : Env) (j : Nat) (ch : List (Int × Abs)) (v' : NX), e = updL 172 e0 [(0, Ptr p), (1, I n), (4, Ptr b), (7, Ptr b7), (8, I j)] ∧ j ≤ s.e.n ∧ Low N h h' ∧ h' b7 = some (row (0, 1) s.cells 34) ∧
     NetX h' N p { { x with leaders := aset c.term n x.leaders } with chosen := ch } v' ∧ v'.cp = v.cp ∧ v'.ke = v.ke ∧ lookEs c.commit s.abs.entries (true, x.chosen) = lookEs c.commit ((s.es.drop j).map EH.abs) (true, ch))
    (fun e => s.e.n - natOf (e 8)) ⟨_, 0, x.chosen, { v with e1 := (v.e1 ++ [(⟨I c.term, I n, v.k1⟩ : MapEntry)]), k1 := (v.k1 + 1) }, updL_self ⟨rfl, rfl, rfl, rfl, rfl, trivial⟩, by omega, L4, q4, K4, rfl, rfl, by rw [List.drop_zero, hse]⟩ ?_
   clear q4 K4 L4
   rintro e h' ⟨e0, j, ch, v', rfl, hj, L5, q5, K5, vc, vk, st⟩
   have hcm : ∀ y, (netCells { { x with leaders := aset c.term n x.leaders } with chosen := y } v')[0 + 54 + m * 1]? = some (I (x.commits.get n)) := fun y => by
    rw [show 0 + 54 + m * 1 = 54 + n.toNat by omega]; exact cm_cell _ v' n1 n5
   have id5 : PIdle h' b (N + 2 * n.toNat) c := by
    obtain ⟨b', hb', id'⟩ := K5.cores n n1 n2
    rw [vc, hb] at hb'; cases hb'; rw [hc]; exact id'
   conv=>whnf
   refine ALoad.one rfl q5 rfl ?_; conv=>whnf
   by_cases hjn : j < s.e.n
   ·refine ACmp.yes (by omega) ?_; conv=>whnf
    obtain ⟨y, hy⟩ : ∃ y, s.es[j]? = some y := ⟨s.es[j]'(by omega), by simp⟩
    have hdj : s.es.drop j = y :: s.es.drop (j + 1) := by
     obtain ⟨h0, h1⟩ := List.getElem?_eq_some_iff.1 hy
     rw [← h1]; exact (List.getElem_cons_drop h0).symm
    have my := List.mem_of_getElem? hy
    obtain ⟨ka5, t15, kt15, kok5⟩ := K5.kept n n1 n5
    rw [vk, ← hs] at kok5
    obtain ⟨bb, off, l, E, fz, ea, hbb, hcc⟩ := kok5.es.sl.pos (by omega)
    have gp : (l.drop (off + j * 4)).take 4 = y.cells := by rw [part_of_take hcc (by omega), encs_part hy]
    refine ALoad.one rfl q5 rfl ?_; conv=>whnf
    rw [ea]
    refine AIdx.nat rfl hjn rfl rfl ?_; conv=>whnf
    refine ALoad.agg rfl hbb gp rfl ?_; conv=>whnf
    refine AAlloc.mkN (0, 1) ([I 0, I 0, I 0, .slice none 0 0]) rfl fun b9 h10 n10 s10 q10 => ?_; conv=>whnf
    refine AStore.aggN rfl rfl rfl (q10) rfl (y.cells) rfl fun h11 t11 q11 a11 e11 => ?_; conv=>whnf
    have s11 : Sub h' h11 := a11 h' s10 n10
    have K11 := K5.sub s11
    have L11 : Low N h h11 := L5.trans s11.low
    have id11 := id5.move fun _ _ _ _ e => s11 _ _ e
    have q511 := s11 _ _ q5
    have gy : y.Good h11 (N + 1, 2) := Sl.sub (kok5.es.good y my) s11
    have hyn := kok5.es.small y my
    clear K5 id5 L5 q5 hbb n10 s10 q10 t11 a11 e11 s11 kok5 ka5
    rw [hdj, List.map_cons] at st
    have hya : y.abs.2.1 = y.index := rfl
    refine ADrawn.mk (h11) [] (Sub.refl _) (by decide +kernel) ?_; conv=>whnf
    refine ALoad.one rfl q11 rfl ?_; conv=>whnf
    refine ACalls.mono (commit_i id11) ?_; rintro _ _ ⟨rfl, rfl⟩; conv=>whnf
    refine ⟨Sub.refl _, ?_⟩; conv=>whnf
    by_cases c1 : c.commit < y.index
    ·refine ACmp.yes (c1) ?_; conv=>whnf
     have FIN : (lookEs c.commit s.abs.entries (true, x.chosen)).2 = ch := by
      rw [st]; unfold lookEs; rw [if_pos (by rw [hya]; exact c1)]
     have h6 := h11
     have K6 := K11
     have q6 := q511
     have L6 := L11
     have id6 : PIdle h11 b (N + 2 * n.toNat) c := by
      obtain ⟨b', hb', id'⟩ := K6.cores n n1 n2
      rw [vc, hb] at hb'; cases hb'; rw [hc]; exact id'
     refine ADrawn.mk (h11) [19] (Sub.refl _) (by decide +kernel) ?_; conv=>whnf
     refine ALoad.one rfl K6.str rfl ?_; conv=>whnf
     refine ALoad.one rfl q6 rfl ?_; conv=>whnf
     refine ALoad.one rfl q6 rfl ?_; conv=>whnf
     refine AArith.ok (by omega) (by omega) (rfl) ?_; conv=>whnf
     refine ACalls.mono (commit_i id6) ?_; rintro _ _ ⟨rfl, rfl⟩; conv=>whnf
     refine ⟨Sub.refl _, ?_⟩; conv=>whnf
     refine ACmp.yes (o5) ?_; conv=>whnf
     refine AStore.oneN rfl rfl rfl (K6.str) rfl (netCells { { x with leaders := aset c.term n x.leaders } with chosen := ch } v') rfl fun h7 t7 q7 a7 e7 => ?_; conv=>whnf
     have K7 := K6.same t7 q7
     have L7 : Low N h h7 := L6.trans fun b t y ht e => t7 _ _ _ (fun c => by rw [c] at ht; simp at ht) e
     have id7 : PIdle h7 b (N + 2 * n.toNat) c := id6.move fun _ t _ ht e => t7 _ _ _ (fun c => by rw [c] at ht; simp only at ht; omega) e
     refine ADrawn.mkO (h7) [7] [0, 1, 2, 4, 5, 3, 6, 7] (Sub.refl _) (by decide +kernel) ?_; conv=>whnf
     refine ACalls.mono (commit_i id7) ?_; rintro _ _ ⟨rfl, rfl⟩; conv=>whnf
     refine ⟨Sub.refl _, ?_⟩; conv=>whnf
     refine AIdxA.nat (n := 6) (z := 1) (j := m) (by omega) (by omega) rfl rfl ?_; conv=>whnf
     refine AStore.oneN rfl rfl rfl K7.str (by have := hcm ch; exact Nat.ble_eq_true_of_le (List.getElem?_eq_some_iff.1 this).1) (netCells { { x with leaders := aset c.term n x.leaders } with chosen := ch, commits := x.commits.set n c.commit } v') (by rw [show 0 + 54 + m * 1 = 54 + n.toNat by omega]; exact cm_set { { x with leaders := aset c.term n x.leaders } with chosen := ch } v' n1 n5 _) fun h8 t8 q8 a8 e8 => ?_; conv=>whnf
     have K8 : NetX h8 N p { { x with leaders := aset c.term n x.leaders } with chosen := ch, commits := x.commits.set n c.commit } v' := K7.move' (fun b t y _ n e => t8 _ _ _ n e) q8 rfl rfl rfl rfl rfl rfl rfl
     have L8 : Low N h h8 := L7.trans fun b t y ht e => t8 _ _ _ (fun c => by rw [c] at ht; simp at ht) e
     have id8 : PIdle h8 b (N + 2 * n.toNat) c := id7.move fun _ t _ ht e => t8 _ _ _ (fun c => by rw [c] at ht; simp only at ht; omega) e
     have htm : (netCells { { x with leaders := aset c.term n x.leaders } with chosen := ch, commits := x.commits.set n c.commit } v')[0 + 60 + m * 1]? = some (I (x.terms.get n)) := by
      rw [show 0 + 60 + m * 1 = 60 + n.toNat by omega]; exact tm_cell _ v' n1 n5
     refine ADrawn.mkO (h8) [7] [0, 1, 2, 4, 5, 3, 6, 7] (Sub.refl _) (by decide +kernel) ?_; conv=>whnf
     refine ACalls.mono (term_i id8) ?_; rintro _ _ ⟨rfl, rfl⟩; conv=>whnf
     refine ⟨Sub.refl _, ?_⟩; conv=>whnf
     refine AIdxA.nat (n := 6) (z := 1) (j := m) (by omega) (by omega) rfl rfl ?_; conv=>whnf
     refine AStore.oneN rfl rfl rfl K8.str (by exact Nat.ble_eq_true_of_le (List.getElem?_eq_some_iff.1 htm).1) (netCells { { x with leaders := aset c.term n x.leaders } with chosen := ch, commits := x.commits.set n c.commit, terms := x.terms.set n c.term } v') (by rw [show 0 + 60 + m * 1 = 60 + n.toNat by omega]; exact tm_set { { x with leaders := aset c.term n x.leaders } with chosen := ch, commits := x.commits.set n c.commit } v' n1 n5 _) fun h9 t9 q9 a9 e9 => ?_; conv=>whnf
     have K9 : NetX h9 N p { { x with leaders := aset c.term n x.leaders } with chosen := ch, commits := x.commits.set n c.commit, terms := x.terms.set n c.term } v' := K8.move' (fun b t y _ n e => t9 _ _ _ n e) q9 rfl rfl rfl rfl rfl rfl rfl
     refine ⟨rfl, ⟨v', ?_⟩, L8.trans fun b t y ht e => t9 _ _ _ (fun c => by rw [c] at ht; simp at ht) e⟩
     rw [FIN]
     exact K9
    refine ACmp.no (c1) ?_; conv=>whnf
    have o4' := o4
    rw [st] at o4'
    obtain ⟨ag, st'⟩ := lookEs_head o4' (by rw [hya]; exact c1)
    rw [hya] at ag st'
    rw [show ch = v'.ch.map (fun z => (z.1, z.2.abs)) from K11.choA.symm, alook_map] at ag
    refine ADrawn.mk (h11) [] (Sub.refl _) (by decide +kernel) ?_; conv=>whnf
    refine ALoad.one rfl K11.str rfl ?_; conv=>whnf
    refine ALoad.one rfl q11 rfl ?_; conv=>whnf
    cases ho : alook y.index v'.ch with
    | none =>
     refine ALookup.miss K11.cho rfl rfl rfl rfl (kvG_miss (f := fun e : EH => .agg e.cells.toArray) K11.choE ho) ?_
     conv=>whnf
     refine AAlloc.mkN (0, 1) ([I 0, I 0, I 0, .slice none 0 0]) rfl fun b10 h12 n12 s12 q12 => ?_; conv=>whnf
     refine ⟨s12, ?_⟩; conv=>whnf
     refine AStore.aggN rfl rfl rfl (q12) rfl ([I 0, I 0, I 0, .slice none 0 0]) rfl fun h13 t13 q13' a13 e13 => ?_; conv=>whnf
     have s13 : Sub h11 h13 := a13 h11 s12 n12
     refine ⟨s13, ?_⟩; conv=>whnf
     have K13 := K11.sub s13
     refine ALoad.one rfl K13.str rfl ?_; conv=>whnf
     refine AStore.oneN rfl rfl rfl (K13.str) rfl (netCells { { x with leaders := aset c.term n x.leaders } with chosen := ch } v') rfl fun h14 t14 q14 a14 e14 => ?_; conv=>whnf
     have K14 := K13.same t14 q14
     have L14 : Low N h h14 := (L11.trans s13.low).trans fun b t y ht e => t14 _ _ _ (fun c => by rw [c] at ht; simp at ht) e
     have q514 := t14.get t01 (s13 _ _ q511)
     have q914 := t14.get t01 (s13 _ _ q11)
     have gy14 : y.Good h14 (N + 1, 2) := Sl.keepT (Sl.sub gy s13) t14 (by simp)
     have EE := kvG_new (f := fun e : EH => .agg e.cells.toArray) (x := y) (clock := v'.k2) K14.choE ho
     refine ADrawn.mk (h14) [7] (Sub.refl _) (by decide +kernel) ?_; conv=>whnf
     refine ALoad.one rfl K14.str rfl ?_; conv=>whnf
     refine ALoad.one rfl q914 rfl ?_; conv=>whnf
     refine ALoad.agg rfl q914 rfl rfl ?_; conv=>whnf
     refine AMapUpd.miss K14.cho rfl rfl rfl (kvG_miss (f := fun e : EH => .agg e.cells.toArray) K14.choE ho) fun mm => ?_; conv=>whnf
     have KK := K14.choSet (KeepT.set K14.cho.at_) (l' := aset y.index y.abs ch) mm EE ((aset_map EH.abs y.index y v'.ch).trans (congrArg (aset y.index y.abs) K14.choA)) (fun z hz => (aset_mem hz).elim (fun e => by rw [e]; exact gy14) (K14.choG z))
     refine AArith.ok (by omega) (by omega) ((by omega : (j : Int) + 1 = ((j + 1 : Nat) : Int))) ?_; conv=>whnf
     refine ⟨⟨_, j + 1, aset y.index y.abs ch, _, updL_self ⟨rfl, rfl, rfl, rfl, rfl, trivial⟩, by omega, L14.trans fun b t y ht e => KeepT.set K14.cho.at_ _ _ _ (fun c => by rw [c] at ht; simp at ht) e, KeepT.set K14.cho.at_ _ _ _ (fun c => by have := congrArg Prod.fst c; simp only at this; omega) q514, KK, vc, vk, by rw [st, st']⟩, ?_⟩
     show s.e.n - (j + 1) < s.e.n - j
     omega
    | some old =>
     rw [ho] at ag
     have ag' : old.abs = y.abs := of_decide_eq_true ag
     obtain ⟨i, e1, g1, g2, g3, g4⟩ := kvG_hit (f := fun e : EH => .agg e.cells.toArray) K11.choE ho
     refine ALookup.hit K11.cho rfl rfl (List.mem_of_getElem? g1) g2 ?_
     rw [g3]
     conv=>whnf
     refine AAlloc.mkN (0, 1) ([I 0, I 0, I 0, .slice none 0 0]) rfl fun b10 h12 n12 s12 q12 => ?_; conv=>whnf
     refine ⟨s12, ?_⟩; conv=>whnf
     refine AStore.aggN rfl rfl rfl (q12) rfl (old.cells) rfl fun h13 t13 q13' a13 e13 => ?_; conv=>whnf
     have s13 : Sub h11 h13 := a13 h11 s12 n12
     refine ⟨s13, ?_⟩; conv=>whnf
     have K13 := K11.sub s13
     refine ALoad.one rfl K13.str rfl ?_; conv=>whnf
     refine ALoad.agg rfl q13' rfl rfl ?_; conv=>whnf
     refine ALoad.agg rfl (s13 _ _ q11) rfl rfl ?_; conv=>whnf
     have hon : old.n ≤ 4611686018427387904 := by
      have h1 : old.data.length = old.n := by have := (K11.choG _ (alook_mem ho)).len; simpa [bytesV] using this
      have h2 : y.data.length = y.n := by have := gy.len; simpa [bytesV] using this
      have h3 : old.data = y.data := congrArg (·.2.2.2) ag'
      rw [h3] at h1; omega
     refine ACalls.mono (like_any (K13.choG _ (alook_mem ho)) (Sl.sub gy s13) hon) ?_; rintro _ _ ⟨rfl, rfl⟩; conv=>whnf
     rw [decide_eq_true ag']
     conv=>whnf
     refine AStore.oneN rfl rfl rfl (K13.str) rfl (netCells { { x with leaders := aset c.term n x.leaders } with chosen := ch } v') rfl fun h14 t14 q14 a14 e14 => ?_; conv=>whnf
     have K14 := K13.same t14 q14
     have L14 : Low N h h14 := (L11.trans s13.low).trans fun b t y ht e => t14 _ _ _ (fun c => by rw [c] at ht; simp at ht) e
     have q514 := t14.get t01 (s13 _ _ q511)
     have q914 := t14.get t01 (s13 _ _ q11)
     have gy14 : y.Good h14 (N + 1, 2) := Sl.keepT (Sl.sub gy s13) t14 (by simp)
     have EE := g4 y
     refine ADrawn.mk (h14) [7] (Sub.refl _) (by decide +kernel) ?_; conv=>whnf
     refine ALoad.one rfl K14.str rfl ?_; conv=>whnf
     refine ALoad.one rfl q914 rfl ?_; conv=>whnf
     refine ALoad.agg rfl q914 rfl rfl ?_; conv=>whnf
     refine AMapUpd.hit K14.cho rfl rfl g1 g2 fun mm => ?_; conv=>whnf
     have KK := K14.choSet (KeepT.set K14.cho.at_) (l' := aset y.index y.abs ch) mm EE ((aset_map EH.abs y.index y v'.ch).trans (congrArg (aset y.index y.abs) K14.choA)) (fun z hz => (aset_mem hz).elim (fun e => by rw [e]; exact gy14) (K14.choG z))
     refine AArith.ok (by omega) (by omega) ((by omega : (j : Int) + 1 = ((j + 1 : Nat) : Int))) ?_; conv=>whnf
     refine ⟨⟨_, j + 1, aset y.index y.abs ch, _, updL_self ⟨rfl, rfl, rfl, rfl, rfl, trivial⟩, by omega, L14.trans fun b t y ht e => KeepT.set K14.cho.at_ _ _ _ (fun c => by rw [c] at ht; simp at ht) e, KeepT.set K14.cho.at_ _ _ _ (fun c => by have := congrArg Prod.fst c; simp only at this; omega) q514, KK, vc, vk, by rw [st, st']⟩, ?_⟩
     show s.e.n - (j + 1) < s.e.n - j
     omega
   ·refine ACmp.no (by omega) ?_; conv=>whnf
    have FIN : (lookEs c.commit s.abs.entries (true, x.chosen)).2 = ch := by
     rw [st, List.drop_of_length_le (by omega)]; rfl
    have K6 := K5
    have q6 := q5
    have L6 := L5
    have id6 : PIdle h' b (N + 2 * n.toNat) c := by
     obtain ⟨b', hb', id'⟩ := K6.cores n n1 n2
     rw [vc, hb] at hb'; cases hb'; rw [hc]; exact id'
    refine ADrawn.mk (h') [19] (Sub.refl _) (by decide +kernel) ?_; conv=>whnf
    refine ALoad.one rfl K6.str rfl ?_; conv=>whnf
    refine ALoad.one rfl q6 rfl ?_; conv=>whnf
    refine ALoad.one rfl q6 rfl ?_; conv=>whnf
    refine AArith.ok (by omega) (by omega) (rfl) ?_; conv=>whnf
    refine ACalls.mono (commit_i id6) ?_; rintro _ _ ⟨rfl, rfl⟩; conv=>whnf
    refine ⟨Sub.refl _, ?_⟩; conv=>whnf
    refine ACmp.yes (o5) ?_; conv=>whnf
    refine AStore.oneN rfl rfl rfl (K6.str) rfl (netCells { { x with leaders := aset c.term n x.leaders } with chosen := ch } v') rfl fun h7 t7 q7 a7 e7 => ?_; conv=>whnf
    have K7 := K6.same t7 q7
    have L7 : Low N h h7 := L6.trans fun b t y ht e => t7 _ _ _ (fun c => by rw [c] at ht; simp at ht) e
    have id7 : PIdle h7 b (N + 2 * n.toNat) c := id6.move fun _ t _ ht e => t7 _ _ _ (fun c => by rw [c] at ht; simp only at ht; omega) e
    refine ADrawn.mkO (h7) [7] [0, 1, 2, 4, 5, 3, 6, 7] (Sub.refl _) (by decide +kernel) ?_; conv=>whnf
    refine ACalls.mono (commit_i id7) ?_; rintro _ _ ⟨rfl, rfl⟩; conv=>whnf
    refine ⟨Sub.refl _, ?_⟩; conv=>whnf
    refine AIdxA.nat (n := 6) (z := 1) (j := m) (by omega) (by omega) rfl rfl ?_; conv=>whnf
    refine AStore.oneN rfl rfl rfl K7.str (by have := hcm ch; exact Nat.ble_eq_true_of_le (List.getElem?_eq_some_iff.1 this).1) (netCells { { x with leaders := aset c.term n x.leaders } with chosen := ch, commits := x.commits.set n c.commit } v') (by rw [show 0 + 54 + m * 1 = 54 + n.toNat by omega]; exact cm_set { { x with leaders := aset c.term n x.leaders } with chosen := ch } v' n1 n5 _) fun h8 t8 q8 a8 e8 => ?_; conv=>whnf
    have K8 : NetX h8 N p { { x with leaders := aset c.term n x.leaders } with chosen := ch, commits := x.commits.set n c.commit } v' := K7.move' (fun b t y _ n e => t8 _ _ _ n e) q8 rfl rfl rfl rfl rfl rfl rfl
    have L8 : Low N h h8 := L7.trans fun b t y ht e => t8 _ _ _ (fun c => by rw [c] at ht; simp at ht) e
    have id8 : PIdle h8 b (N + 2 * n.toNat) c := id7.move fun _ t _ ht e => t8 _ _ _ (fun c => by rw [c] at ht; simp only at ht; omega) e
    have htm : (netCells { { x with leaders := aset c.term n x.leaders } with chosen := ch, commits := x.commits.set n c.commit } v')[0 + 60 + m * 1]? = some (I (x.terms.get n)) := by
     rw [show 0 + 60 + m * 1 = 60 + n.toNat by omega]; exact tm_cell _ v' n1 n5
    refine ADrawn.mkO (h8) [7] [0, 1, 2, 4, 5, 3, 6, 7] (Sub.refl _) (by decide +kernel) ?_; conv=>whnf
    refine ACalls.mono (term_i id8) ?_; rintro _ _ ⟨rfl, rfl⟩; conv=>whnf
    refine ⟨Sub.refl _, ?_⟩; conv=>whnf
    refine AIdxA.nat (n := 6) (z := 1) (j := m) (by omega) (by omega) rfl rfl ?_; conv=>whnf
    refine AStore.oneN rfl rfl rfl K8.str (by exact Nat.ble_eq_true_of_le (List.getElem?_eq_some_iff.1 htm).1) (netCells { { x with leaders := aset c.term n x.leaders } with chosen := ch, commits := x.commits.set n c.commit, terms := x.terms.set n c.term } v') (by rw [show 0 + 60 + m * 1 = 60 + n.toNat by omega]; exact tm_set { { x with leaders := aset c.term n x.leaders } with chosen := ch, commits := x.commits.set n c.commit } v' n1 n5 _) fun h9 t9 q9 a9 e9 => ?_; conv=>whnf
    have K9 : NetX h9 N p { { x with leaders := aset c.term n x.leaders } with chosen := ch, commits := x.commits.set n c.commit, terms := x.terms.set n c.term } v' := K8.move' (fun b t y _ n e => t9 _ _ _ n e) q9 rfl rfl rfl rfl rfl rfl rfl
    refine ⟨rfl, ⟨v', ?_⟩, L8.trans fun b t y ht e => t9 _ _ _ (fun c => by rw [c] at ht; simp at ht) e⟩
    rw [FIN]
    exact K9
  | some o =>
   have hon := (o1 c2 o ho).symm
   subst hon
   obtain ⟨i, e1, g1, g2, g3, g4⟩ := kvG_hit (f := I) k.ledE ho
   refine ALookup.hit k.led rfl rfl (List.mem_of_getElem? g1) g2 ?_
   rw [g3]
   conv=>whnf
   refine ALoad.one rfl k.str rfl ?_; conv=>whnf
   refine ACmp.yes (rfl) ?_; conv=>whnf
   have EE : (v.e1.set i { e1 with val := I n }).map kv = kvI (aset c.term n x.leaders) := g4 n
   refine AStore.oneN rfl rfl rfl (k.str) rfl (netCells x v) rfl fun h2 t2 q2 a2 e2 => ?_; conv=>whnf
   have k2 := k.same t2 q2
   have id2 : PIdle h2 b (N + 2 * n.toNat) c := id.move fun _ t _ ht e => t2 _ _ _ (fun c => by rw [c] at ht; simp only at ht; omega) e
   refine ADrawn.mkO (h2) [7] [0, 1, 2, 3, 4, 6, 5, 7] (Sub.refl _) (by decide +kernel) ?_; conv=>whnf
   refine ALoad.one rfl k2.str rfl ?_; conv=>whnf
   refine ACalls.mono (term_i id2) ?_; rintro _ _ ⟨rfl, rfl⟩; conv=>whnf
   refine ⟨Sub.refl _, ?_⟩; conv=>whnf
   refine AMapUpd.hitN k2.led rfl rfl g1 g2 fun h3 mm t3 => ?_; conv=>whnf
   have K1 := k2.ledSet t3 mm EE
   have L1 : Low N h h3 := Low.trans (show Low N h h2 from fun b t y ht e => t2 _ _ _ (fun c => by rw [c] at ht; simp at ht) e) fun b t y ht e => t3 _ _ _ (fun c => by rw [c] at ht; simp at ht) e
   have id1 : PIdle h3 b (N + 2 * n.toNat) c := by
    obtain ⟨b', hb', id'⟩ := K1.cores n n1 n2
    have hb2 : v.cp.get n = some b' := hb'
    rw [hb] at hb2; cases hb2; rw [hc]; exact id'
   have hcm : (netCells { x with leaders := aset c.term n x.leaders } { v with e1 := (v.e1.set i { e1 with val := I n }), k1 := v.k1 })[0 + 54 + m * 1]? = some (I (x.commits.get n)) := by
    rw [show 0 + 54 + m * 1 = 54 + n.toNat by omega]; exact cm_cell { x with leaders := aset c.term n x.leaders } { v with e1 := (v.e1.set i { e1 with val := I n }), k1 := v.k1 } n1 n5
   have htm : (netCells { x with leaders := aset c.term n x.leaders } { v with e1 := (v.e1.set i { e1 with val := I n }), k1 := v.k1 })[0 + 60 + m * 1]? = some (I (x.terms.get n)) := by
    rw [show 0 + 60 + m * 1 = 60 + n.toNat by omega]; exact tm_cell { x with leaders := aset c.term n x.leaders } { v with e1 := (v.e1.set i { e1 with val := I n }), k1 := v.k1 } n1 n5
   refine ADrawn.mkO (h3) [29] [0, 1, 2, 3, 4, 5, 6, 8, 9, 10, 11, 12, 13, 7, 14, 15, 16, 17, 19, 20, 21, 22, 23, 24, 18, 25, 26, 27, 28, 29] (Sub.refl _) (by decide +kernel) ?_; conv=>whnf
   refine ALoad.one rfl K1.str rfl ?_; conv=>whnf
   refine AIdxA.nat (n := 6) (z := 1) (j := m) (by omega) (by omega) rfl rfl ?_; conv=>whnf
   refine ALoad.one rfl K1.str hcm ?_; conv=>whnf
   refine ACalls.mono (commit_i id1) ?_; rintro _ _ ⟨rfl, rfl⟩; conv=>whnf
   refine ⟨Sub.refl _, ?_⟩; conv=>whnf
   refine ACmp.yes (o2) ?_; conv=>whnf
   refine AIdxA.nat (n := 6) (z := 1) (j := m) (by omega) (by omega) rfl rfl ?_; conv=>whnf
   refine ALoad.one rfl K1.str htm ?_; conv=>whnf
   refine ACalls.mono (term_i id1) ?_; rintro _ _ ⟨rfl, rfl⟩; conv=>whnf
   refine ⟨Sub.refl _, ?_⟩; conv=>whnf
   refine ACmp.yes (o3) ?_; conv=>whnf
   refine AStore.oneN rfl rfl rfl (K1.str) rfl (netCells { x with leaders := aset c.term n x.leaders } { v with e1 := (v.e1.set i { e1 with val := I n }), k1 := v.k1 }) rfl fun h2 t2 q2 a2 e2 => ?_; conv=>whnf
   have K2 := K1.same t2 q2
   have L2 : Low N h h2 := L1.trans fun b t y ht e => t2 _ _ _ (fun c => by rw [c] at ht; simp at ht) e
   refine AIdxA.nat (n := 6) (z := 7) (j := m) (by omega) (by omega) rfl rfl ?_; conv=>whnf
   have hke : ((netCells { x with leaders := aset c.term n x.leaders } { v with e1 := (v.e1.set i { e1 with val := I n }), k1 := v.k1 }).drop (0 + 8 + m * 7)).take 7 = s.cells := by
    rw [show 0 + 8 + m * 7 = 8 + n.toNat * 7 by omega, kept_cells { x with leaders := aset c.term n x.leaders } { v with e1 := (v.e1.set i { e1 with val := I n }), k1 := v.k1 } n1 n5, hs]
   refine ALoad.agg rfl q2 hke rfl ?_; conv=>whnf
   refine AAlloc.mkN (0, 1) ([I 0, I 0, I 0, I 0, I 0, .slice none 0 0, .slice none 0 0]) rfl fun b7 h3 n3 s3 q3 => ?_; conv=>whnf
   refine AStore.aggN rfl rfl rfl (q3) rfl (s.cells) rfl fun h4 t4 q4 a4 e4 => ?_; conv=>whnf
   have K4 := (K2.sub s3).local t4
   have L4 : Low N h h4 := L2.trans (Sub.low (a4 h2 s3 n3))
   clear t2 q2 a2 e2 K2 L2 n3 s3 q3 t4 a4 e4
   refine ALoop.mk (fun e h' => ∃ (e0 : Env) (j : Nat) (ch : List (Int × Abs)) (v' : NX), e = updL 172 e0 [(0, Ptr p), (1, I n), (4, Ptr b), (7, Ptr b7), (8, I j)] ∧ j ≤ s.e.n ∧ Low N h h' ∧ h' b7 = some (row (0, 1) s.cells 34) ∧
     NetX h' N p { { x with leaders := aset c.term n x.leaders } with chosen := ch } v' ∧ v'.cp = v.cp ∧ v'.ke = v.ke ∧ lookEs c.commit s.abs.entries (true, x.chosen) = lookEs c.commit ((s.es.drop j).map EH.abs) (true, ch))
    (fun e => s.e.n - natOf (e 8)) ⟨_, 0, x.chosen, { v with e1 := (v.e1.set i { e1 with val := I n }), k1 := v.k1 }, updL_self ⟨rfl, rfl, rfl, rfl, rfl, trivial⟩, by omega, L4, q4, K4, rfl, rfl, by rw [List.drop_zero, hse]⟩ ?_
   clear q4 K4 L4
   rintro e h' ⟨e0, j, ch, v', rfl, hj, L5, q5, K5, vc, vk, st⟩
   have hcm : ∀ y, (netCells { { x with leaders := aset c.term n x.leaders } with chosen := y } v')[0 + 54 + m * 1]? = some (I (x.commits.get n)) := fun y => by
    rw [show 0 + 54 + m * 1 = 54 + n.toNat by omega]; exact cm_cell _ v' n1 n5
   have id5 : PIdle h' b (N + 2 * n.toNat) c := by
    obtain ⟨b', hb', id'⟩ := K5.cores n n1 n2
    rw [vc, hb] at hb'; cases hb'; rw [hc]; exact id'
   conv=>whnf
   refine ALoad.one rfl q5 rfl ?_; conv=>whnf
   by_cases hjn : j < s.e.n
   ·refine ACmp.yes (by omega) ?_; conv=>whnf
    obtain ⟨y, hy⟩ : ∃ y, s.es[j]? = some y := ⟨s.es[j]'(by omega), by simp⟩
    have hdj : s.es.drop j = y :: s.es.drop (j + 1) := by
     obtain ⟨h0, h1⟩ := List.getElem?_eq_some_iff.1 hy
     rw [← h1]; exact (List.getElem_cons_drop h0).symm
    have my := List.mem_of_getElem? hy
    obtain ⟨ka5, t15, kt15, kok5⟩ := K5.kept n n1 n5
    rw [vk, ← hs] at kok5
    obtain ⟨bb, off, l, E, fz, ea, hbb, hcc⟩ := kok5.es.sl.pos (by omega)
    have gp : (l.drop (off + j * 4)).take 4 = y.cells := by rw [part_of_take hcc (by omega), encs_part hy]
    refine ALoad.one rfl q5 rfl ?_; conv=>whnf
    rw [ea]
    refine AIdx.nat rfl hjn rfl rfl ?_; conv=>whnf
    refine ALoad.agg rfl hbb gp rfl ?_; conv=>whnf
    refine AAlloc.mkN (0, 1) ([I 0, I 0, I 0, .slice none 0 0]) rfl fun b9 h10 n10 s10 q10 => ?_; conv=>whnf
    refine AStore.aggN rfl rfl rfl (q10) rfl (y.cells) rfl fun h11 t11 q11 a11 e11 => ?_; conv=>whnf
    have s11 : Sub h' h11 := a11 h' s10 n10
    have K11 := K5.sub s11
    have L11 : Low N h h11 := L5.trans s11.low
    have id11 := id5.move fun _ _ _ _ e => s11 _ _ e
    have q511 := s11 _ _ q5
    have gy : y.Good h11 (N + 1, 2) := Sl.sub (kok5.es.good y my) s11
    have hyn := kok5.es.small y my
    clear K5 id5 L5 q5 hbb n10 s10 q10 t11 a11 e11 s11 kok5 ka5
    rw [hdj, List.map_cons] at st
    have hya : y.abs.2.1 = y.index := rfl
    refine ADrawn.mk (h11) [] (Sub.refl _) (by decide +kernel) ?_; conv=>whnf
    refine ALoad.one rfl q11 rfl ?_; conv=>whnf
    refine ACalls.mono (commit_i id11) ?_; rintro _ _ ⟨rfl, rfl⟩; conv=>whnf
    refine ⟨Sub.refl _, ?_⟩; conv=>whnf
    by_cases c1 : c.commit < y.index
    ·refine ACmp.yes (c1) ?_; conv=>whnf
     have FIN : (lookEs c.commit s.abs.entries (true, x.chosen)).2 = ch := by
      rw [st]; unfold lookEs; rw [if_pos (by rw [hya]; exact c1)]
     have h6 := h11
     have K6 := K11
     have q6 := q511
     have L6 := L11
     have id6 : PIdle h11 b (N + 2 * n.toNat) c := by
      obtain ⟨b', hb', id'⟩ := K6.cores n n1 n2
      rw [vc, hb] at hb'; cases hb'; rw [hc]; exact id'
     refine ADrawn.mk (h11) [19] (Sub.refl _) (by decide +kernel) ?_; conv=>whnf
     refine ALoad.one rfl K6.str rfl ?_; conv=>whnf
     refine ALoad.one rfl q6 rfl ?_; conv=>whnf
     refine ALoad.one rfl q6 rfl ?_; conv=>whnf
     refine AArith.ok (by omega) (by omega) (rfl) ?_; conv=>whnf
     refine ACalls.mono (commit_i id6) ?_; rintro _ _ ⟨rfl, rfl⟩; conv=>whnf
     refine ⟨Sub.refl _, ?_⟩; conv=>whnf
     refine ACmp.yes (o5) ?_; conv=>whnf
     refine AStore.oneN rfl rfl rfl (K6.str) rfl (netCells { { x with leaders := aset c.term n x.leaders } with chosen := ch } v') rfl fun h7 t7 q7 a7 e7 => ?_; conv=>whnf
     have K7 := K6.same t7 q7
     have L7 : Low N h h7 := L6.trans fun b t y ht e => t7 _ _ _ (fun c => by rw [c] at ht; simp at ht) e
     have id7 : PIdle h7 b (N + 2 * n.toNat) c := id6.move fun _ t _ ht e => t7 _ _ _ (fun c => by rw [c] at ht; simp only at ht; omega) e
     refine ADrawn.mkO (h7) [7] [0, 1, 2, 4, 5, 3, 6, 7] (Sub.refl _) (by decide +kernel) ?_; conv=>whnf
     refine ACalls.mono (commit_i id7) ?_; rintro _ _ ⟨rfl, rfl⟩; conv=>whnf
     refine ⟨Sub.refl _, ?_⟩; conv=>whnf
     refine AIdxA.nat (n := 6) (z := 1) (j := m) (by omega) (by omega) rfl rfl ?_; conv=>whnf
     refine AStore.oneN rfl rfl rfl K7.str (by have := hcm ch; exact Nat.ble_eq_true_of_le (List.getElem?_eq_some_iff.1 this).1) (netCells { { x with leaders := aset c.term n x.leaders } with chosen := ch, commits := x.commits.set n c.commit } v') (by rw [show 0 + 54 + m * 1 = 54 + n.toNat by omega]; exact cm_set { { x with leaders := aset c.term n x.leaders } with chosen := ch } v' n1 n5 _) fun h8 t8 q8 a8 e8 => ?_; conv=>whnf
     have K8 : NetX h8 N p { { x with leaders := aset c.term n x.leaders } with chosen := ch, commits := x.commits.set n c.commit } v' := K7.move' (fun b t y _ n e => t8 _ _ _ n e) q8 rfl rfl rfl rfl rfl rfl rfl
     have L8 : Low N h h8 := L7.trans fun b t y ht e => t8 _ _ _ (fun c => by rw [c] at ht; simp at ht) e
     have id8 : PIdle h8 b (N + 2 * n.toNat) c := id7.move fun _ t _ ht e => t8 _ _ _ (fun c => by rw [c] at ht; simp only at ht; omega) e
     have htm : (netCells { { x with leaders := aset c.term n x.leaders } with chosen := ch, commits := x.commits.set n c.commit } v')[0 + 60 + m * 1]? = some (I (x.terms.get n)) := by
      rw [show 0 + 60 + m * 1 = 60 + n.toNat by omega]; exact tm_cell _ v' n1 n5
     refine ADrawn.mkO (h8) [7] [0, 1, 2, 4, 5, 3, 6, 7] (Sub.refl _) (by decide +kernel) ?_; conv=>whnf
     refine ACalls.mono (term_i id8) ?_; rintro _ _ ⟨rfl, rfl⟩; conv=>whnf
     refine ⟨Sub.refl _, ?_⟩; conv=>whnf
     refine AIdxA.nat (n := 6) (z := 1) (j := m) (by omega) (by omega) rfl rfl ?_; conv=>whnf
     refine AStore.oneN rfl rfl rfl K8.str (by exact Nat.ble_eq_true_of_le (List.getElem?_eq_some_iff.1 htm).1) (netCells { { x with leaders := aset c.term n x.leaders } with chosen := ch, commits := x.commits.set n c.commit, terms := x.terms.set n c.term } v') (by rw [show 0 + 60 + m * 1 = 60 + n.toNat by omega]; exact tm_set { { x with leaders := aset c.term n x.leaders } with chosen := ch, commits := x.commits.set n c.commit } v' n1 n5 _) fun h9 t9 q9 a9 e9 => ?_; conv=>whnf
     have K9 : NetX h9 N p { { x with leaders := aset c.term n x.leaders } with chosen := ch, commits := x.commits.set n c.commit, terms := x.terms.set n c.term } v' := K8.move' (fun b t y _ n e => t9 _ _ _ n e) q9 rfl rfl rfl rfl rfl rfl rfl
     refine ⟨rfl, ⟨v', ?_⟩, L8.trans fun b t y ht e => t9 _ _ _ (fun c => by rw [c] at ht; simp at ht) e⟩
     rw [FIN]
     exact K9
    refine ACmp.no (c1) ?_; conv=>whnf
    have o4' := o4
    rw [st] at o4'
    obtain ⟨ag, st'⟩ := lookEs_head o4' (by rw [hya]; exact c1)
    rw [hya] at ag st'
    rw [show ch = v'.ch.map (fun z => (z.1, z.2.abs)) from K11.choA.symm, alook_map] at ag
    refine ADrawn.mk (h11) [] (Sub.refl _) (by decide +kernel) ?_; conv=>whnf
    refine ALoad.one rfl K11.str rfl ?_; conv=>whnf
    refine ALoad.one rfl q11 rfl ?_; conv=>whnf
    cases ho : alook y.index v'.ch with
    | none =>
     refine ALookup.miss K11.cho rfl rfl rfl rfl (kvG_miss (f := fun e : EH => .agg e.cells.toArray) K11.choE ho) ?_
     conv=>whnf
     refine AAlloc.mkN (0, 1) ([I 0, I 0, I 0, .slice none 0 0]) rfl fun b10 h12 n12 s12 q12 => ?_; conv=>whnf
     refine ⟨s12, ?_⟩; conv=>whnf
     refine AStore.aggN rfl rfl rfl (q12) rfl ([I 0, I 0, I 0, .slice none 0 0]) rfl fun h13 t13 q13' a13 e13 => ?_; conv=>whnf
     have s13 : Sub h11 h13 := a13 h11 s12 n12
     refine ⟨s13, ?_⟩; conv=>whnf
     have K13 := K11.sub s13
     refine ALoad.one rfl K13.str rfl ?_; conv=>whnf
     refine AStore.oneN rfl rfl rfl (K13.str) rfl (netCells { { x with leaders := aset c.term n x.leaders } with chosen := ch } v') rfl fun h14 t14 q14 a14 e14 => ?_; conv=>whnf
     have K14 := K13.same t14 q14
     have L14 : Low N h h14 := (L11.trans s13.low).trans fun b t y ht e => t14 _ _ _ (fun c => by rw [c] at ht; simp at ht) e
     have q514 := t14.get t01 (s13 _ _ q511)
     have q914 := t14.get t01 (s13 _ _ q11)
     have gy14 : y.Good h14 (N + 1, 2) := Sl.keepT (Sl.sub gy s13) t14 (by simp)
     have EE := kvG_new (f := fun e : EH => .agg e.cells.toArray) (x := y) (clock := v'.k2) K14.choE ho
     refine ADrawn.mk (h14) [7] (Sub.refl _) (by decide +kernel) ?_; conv=>whnf
     refine ALoad.one rfl K14.str rfl ?_; conv=>whnf
     refine ALoad.one rfl q914 rfl ?_; conv=>whnf
     refine ALoad.agg rfl q914 rfl rfl ?_; conv=>whnf
     refine AMapUpd.miss K14.cho rfl rfl rfl (kvG_miss (f := fun e : EH => .agg e.cells.toArray) K14.choE ho) fun mm => ?_; conv=>whnf
     have KK := K14.choSet (KeepT.set K14.cho.at_) (l' := aset y.index y.abs ch) mm EE ((aset_map EH.abs y.index y v'.ch).trans (congrArg (aset y.index y.abs) K14.choA)) (fun z hz => (aset_mem hz).elim (fun e => by rw [e]; exact gy14) (K14.choG z))
     refine AArith.ok (by omega) (by omega) ((by omega : (j : Int) + 1 = ((j + 1 : Nat) : Int))) ?_; conv=>whnf
     refine ⟨⟨_, j + 1, aset y.index y.abs ch, _, updL_self ⟨rfl, rfl, rfl, rfl, rfl, trivial⟩, by omega, L14.trans fun b t y ht e => KeepT.set K14.cho.at_ _ _ _ (fun c => by rw [c] at ht; simp at ht) e, KeepT.set K14.cho.at_ _ _ _ (fun c => by have := congrArg Prod.fst c; simp only at this; omega) q514, KK, vc, vk, by rw [st, st']⟩, ?_⟩
     show s.e.n - (j + 1) < s.e.n - j
     omega
    | some old =>
     rw [ho] at ag
     have ag' : old.abs = y.abs := of_decide_eq_true ag
     obtain ⟨i, e1, g1, g2, g3, g4⟩ := kvG_hit (f := fun e : EH => .agg e.cells.toArray) K11.choE ho
     refine ALookup.hit K11.cho rfl rfl (List.mem_of_getElem? g1) g2 ?_
     rw [g3]
     conv=>whnf
     refine AAlloc.mkN (0, 1) ([I 0, I 0, I 0, .slice none 0 0]) rfl fun b10 h12 n12 s12 q12 => ?_; conv=>whnf
     refine ⟨s12, ?_⟩; conv=>whnf
     refine AStore.aggN rfl rfl rfl (q12) rfl (old.cells) rfl fun h13 t13 q13' a13 e13 => ?_; conv=>whnf
     have s13 : Sub h11 h13 := a13 h11 s12 n12
     refine ⟨s13, ?_⟩; conv=>whnf
     have K13 := K11.sub s13
     refine ALoad.one rfl K13.str rfl ?_; conv=>whnf
     refine ALoad.agg rfl q13' rfl rfl ?_; conv=>whnf
     refine ALoad.agg rfl (s13 _ _ q11) rfl rfl ?_; conv=>whnf
     have hon : old.n ≤ 4611686018427387904 := by
      have h1 : old.data.length = old.n := by have := (K11.choG _ (alook_mem ho)).len; simpa [bytesV] using this
      have h2 : y.data.length = y.n := by have := gy.len; simpa [bytesV] using this
      have h3 : old.data = y.data := congrArg (·.2.2.2) ag'
      rw [h3] at h1; omega
     refine ACalls.mono (like_any (K13.choG _ (alook_mem ho)) (Sl.sub gy s13) hon) ?_; rintro _ _ ⟨rfl, rfl⟩; conv=>whnf
     rw [decide_eq_true ag']
     conv=>whnf
     refine AStore.oneN rfl rfl rfl (K13.str) rfl (netCells { { x with leaders := aset c.term n x.leaders } with chosen := ch } v') rfl fun h14 t14 q14 a14 e14 => ?_; conv=>whnf
     have K14 := K13.same t14 q14
     have L14 : Low N h h14 := (L11.trans s13.low).trans fun b t y ht e => t14 _ _ _ (fun c => by rw [c] at ht; simp at ht) e
     have q514 := t14.get t01 (s13 _ _ q511)
     have q914 := t14.get t01 (s13 _ _ q11)
     have gy14 : y.Good h14 (N + 1, 2) := Sl.keepT (Sl.sub gy s13) t14 (by simp)
     have EE := g4 y
     refine ADrawn.mk (h14) [7] (Sub.refl _) (by decide +kernel) ?_; conv=>whnf
     refine ALoad.one rfl K14.str rfl ?_; conv=>whnf
     refine ALoad.one rfl q914 rfl ?_; conv=>whnf
     refine ALoad.agg rfl q914 rfl rfl ?_; conv=>whnf
     refine AMapUpd.hit K14.cho rfl rfl g1 g2 fun mm => ?_; conv=>whnf
     have KK := K14.choSet (KeepT.set K14.cho.at_) (l' := aset y.index y.abs ch) mm EE ((aset_map EH.abs y.index y v'.ch).trans (congrArg (aset y.index y.abs) K14.choA)) (fun z hz => (aset_mem hz).elim (fun e => by rw [e]; exact gy14) (K14.choG z))
     refine AArith.ok (by omega) (by omega) ((by omega : (j : Int) + 1 = ((j + 1 : Nat) : Int))) ?_; conv=>whnf
     refine ⟨⟨_, j + 1, aset y.index y.abs ch, _, updL_self ⟨rfl, rfl, rfl, rfl, rfl, trivial⟩, by omega, L14.trans fun b t y ht e => KeepT.set K14.cho.at_ _ _ _ (fun c => by rw [c] at ht; simp at ht) e, KeepT.set K14.cho.at_ _ _ _ (fun c => by have := congrArg Prod.fst c; simp only at this; omega) q514, KK, vc, vk, by rw [st, st']⟩, ?_⟩
     show s.e.n - (j + 1) < s.e.n - j
     omega
   ·refine ACmp.no (by omega) ?_; conv=>whnf
    have FIN : (lookEs c.commit s.abs.entries (true, x.chosen)).2 = ch := by
     rw [st, List.drop_of_length_le (by omega)]; rfl
    have K6 := K5
    have q6 := q5
    have L6 := L5
    have id6 : PIdle h' b (N + 2 * n.toNat) c := by
     obtain ⟨b', hb', id'⟩ := K6.cores n n1 n2
     rw [vc, hb] at hb'; cases hb'; rw [hc]; exact id'
    refine ADrawn.mk (h') [19] (Sub.refl _) (by decide +kernel) ?_; conv=>whnf
    refine ALoad.one rfl K6.str rfl ?_; conv=>whnf
    refine ALoad.one rfl q6 rfl ?_; conv=>whnf
    refine ALoad.one rfl q6 rfl ?_; conv=>whnf
    refine AArith.ok (by omega) (by omega) (rfl) ?_; conv=>whnf
    refine ACalls.mono (commit_i id6) ?_; rintro _ _ ⟨rfl, rfl⟩; conv=>whnf
    refine ⟨Sub.refl _, ?_⟩; conv=>whnf
    refine ACmp.yes (o5) ?_; conv=>whnf
    refine AStore.oneN rfl rfl rfl (K6.str) rfl (netCells { { x with leaders := aset c.term n x.leaders } with chosen := ch } v') rfl fun h7 t7 q7 a7 e7 => ?_; conv=>whnf
    have K7 := K6.same t7 q7
    have L7 : Low N h h7 := L6.trans fun b t y ht e => t7 _ _ _ (fun c => by rw [c] at ht; simp at ht) e
    have id7 : PIdle h7 b (N + 2 * n.toNat) c := id6.move fun _ t _ ht e => t7 _ _ _ (fun c => by rw [c] at ht; simp only at ht; omega) e
    refine ADrawn.mkO (h7) [7] [0, 1, 2, 4, 5, 3, 6, 7] (Sub.refl _) (by decide +kernel) ?_; conv=>whnf
    refine ACalls.mono (commit_i id7) ?_; rintro _ _ ⟨rfl, rfl⟩; conv=>whnf
    refine ⟨Sub.refl _, ?_⟩; conv=>whnf
    refine AIdxA.nat (n := 6) (z := 1) (j := m) (by omega) (by omega) rfl rfl ?_; conv=>whnf
    refine AStore.oneN rfl rfl rfl K7.str (by have := hcm ch; exact Nat.ble_eq_true_of_le (List.getElem?_eq_some_iff.1 this).1) (netCells { { x with leaders := aset c.term n x.leaders } with chosen := ch, commits := x.commits.set n c.commit } v') (by rw [show 0 + 54 + m * 1 = 54 + n.toNat by omega]; exact cm_set { { x with leaders := aset c.term n x.leaders } with chosen := ch } v' n1 n5 _) fun h8 t8 q8 a8 e8 => ?_; conv=>whnf
    have K8 : NetX h8 N p { { x with leaders := aset c.term n x.leaders } with chosen := ch, commits := x.commits.set n c.commit } v' := K7.move' (fun b t y _ n e => t8 _ _ _ n e) q8 rfl rfl rfl rfl rfl rfl rfl
    have L8 : Low N h h8 := L7.trans fun b t y ht e => t8 _ _ _ (fun c => by rw [c] at ht; simp at ht) e
    have id8 : PIdle h8 b (N + 2 * n.toNat) c := id7.move fun _ t _ ht e => t8 _ _ _ (fun c => by rw [c] at ht; simp only at ht; omega) e
    have htm : (netCells { { x with leaders := aset c.term n x.leaders } with chosen := ch, commits := x.commits.set n c.commit } v')[0 + 60 + m * 1]? = some (I (x.terms.get n)) := by
     rw [show 0 + 60 + m * 1 = 60 + n.toNat by omega]; exact tm_cell _ v' n1 n5
    refine ADrawn.mkO (h8) [7] [0, 1, 2, 4, 5, 3, 6, 7] (Sub.refl _) (by decide +kernel) ?_; conv=>whnf
    refine ACalls.mono (term_i id8) ?_; rintro _ _ ⟨rfl, rfl⟩; conv=>whnf
    refine ⟨Sub.refl _, ?_⟩; conv=>whnf
    refine AIdxA.nat (n := 6) (z := 1) (j := m) (by omega) (by omega) rfl rfl ?_; conv=>whnf
    refine AStore.oneN rfl rfl rfl K8.str (by exact Nat.ble_eq_true_of_le (List.getElem?_eq_some_iff.1 htm).1) (netCells { { x with leaders := aset c.term n x.leaders } with chosen := ch, commits := x.commits.set n c.commit, terms := x.terms.set n c.term } v') (by rw [show 0 + 60 + m * 1 = 60 + n.toNat by omega]; exact tm_set { { x with leaders := aset c.term n x.leaders } with chosen := ch, commits := x.commits.set n c.commit } v' n1 n5 _) fun h9 t9 q9 a9 e9 => ?_; conv=>whnf
    have K9 : NetX h9 N p { { x with leaders := aset c.term n x.leaders } with chosen := ch, commits := x.commits.set n c.commit, terms := x.terms.set n c.term } v' := K8.move' (fun b t y _ n e => t9 _ _ _ n e) q9 rfl rfl rfl rfl rfl rfl rfl
    refine ⟨rfl, ⟨v', ?_⟩, L8.trans fun b t y ht e => t9 _ _ _ (fun c => by rw [c] at ht; simp at ht) e⟩
    rw [FIN]
    exact K9
 ·refine ACmp.no (c2) ?_; conv=>whnf
  rw [if_neg c2]
  have L1 := Low.refl N h
  have K1 := k
  have id1 : PIdle h b (N + 2 * n.toNat) c := by
   obtain ⟨b', hb', id'⟩ := K1.cores n n1 n2
   have hb2 : v.cp.get n = some b' := hb'
   rw [hb] at hb2; cases hb2; rw [hc]; exact id'
  have hcm : (netCells x v)[0 + 54 + m * 1]? = some (I (x.commits.get n)) := by
   rw [show 0 + 54 + m * 1 = 54 + n.toNat by omega]; exact cm_cell x v n1 n5
  have htm : (netCells x v)[0 + 60 + m * 1]? = some (I (x.terms.get n)) := by
   rw [show 0 + 60 + m * 1 = 60 + n.toNat by omega]; exact tm_cell x v n1 n5
  refine ADrawn.mkO (h) [29] [0, 1, 2, 3, 4, 5, 6, 8, 9, 10, 11, 12, 13, 7, 14, 15, 16, 17, 19, 20, 21, 22, 23, 24, 18, 25, 26, 27, 28, 29] (Sub.refl _) (by decide +kernel) ?_; conv=>whnf
  refine ALoad.one rfl K1.str rfl ?_; conv=>whnf
  refine AIdxA.nat (n := 6) (z := 1) (j := m) (by omega) (by omega) rfl rfl ?_; conv=>whnf
  refine ALoad.one rfl K1.str hcm ?_; conv=>whnf
  refine ACalls.mono (commit_i id1) ?_; rintro _ _ ⟨rfl, rfl⟩; conv=>whnf
  refine ⟨Sub.refl _, ?_⟩; conv=>whnf
  refine ACmp.yes (o2) ?_; conv=>whnf
  refine AIdxA.nat (n := 6) (z := 1) (j := m) (by omega) (by omega) rfl rfl ?_; conv=>whnf
  refine ALoad.one rfl K1.str htm ?_; conv=>whnf
  refine ACalls.mono (term_i id1) ?_; rintro _ _ ⟨rfl, rfl⟩; conv=>whnf
  refine ⟨Sub.refl _, ?_⟩; conv=>whnf
  refine ACmp.yes (o3) ?_; conv=>whnf
  refine AStore.oneN rfl rfl rfl (K1.str) rfl (netCells x v) rfl fun h2 t2 q2 a2 e2 => ?_; conv=>whnf
  have K2 := K1.same t2 q2
  have L2 : Low N h h2 := L1.trans fun b t y ht e => t2 _ _ _ (fun c => by rw [c] at ht; simp at ht) e
  refine AIdxA.nat (n := 6) (z := 7) (j := m) (by omega) (by omega) rfl rfl ?_; conv=>whnf
  have hke : ((netCells x v).drop (0 + 8 + m * 7)).take 7 = s.cells := by
   rw [show 0 + 8 + m * 7 = 8 + n.toNat * 7 by omega, kept_cells x v n1 n5, hs]
  refine ALoad.agg rfl q2 hke rfl ?_; conv=>whnf
  refine AAlloc.mkN (0, 1) ([I 0, I 0, I 0, I 0, I 0, .slice none 0 0, .slice none 0 0]) rfl fun b7 h3 n3 s3 q3 => ?_; conv=>whnf
  refine AStore.aggN rfl rfl rfl (q3) rfl (s.cells) rfl fun h4 t4 q4 a4 e4 => ?_; conv=>whnf
  have K4 := (K2.sub s3).local t4
  have L4 : Low N h h4 := L2.trans (Sub.low (a4 h2 s3 n3))
  clear t2 q2 a2 e2 K2 L2 n3 s3 q3 t4 a4 e4
  refine ALoop.mk (fun e h' => ∃ (e0 : Env) (j : Nat) (ch : List (Int × Abs)) (v' : NX), e = updL 172 e0 [(0, Ptr p), (1, I n), (4, Ptr b), (7, Ptr b7), (8, I j)] ∧ j ≤ s.e.n ∧ Low N h h' ∧ h' b7 = some (row (0, 1) s.cells 34) ∧
    NetX h' N p { x with chosen := ch } v' ∧ v'.cp = v.cp ∧ v'.ke = v.ke ∧ lookEs c.commit s.abs.entries (true, x.chosen) = lookEs c.commit ((s.es.drop j).map EH.abs) (true, ch))
   (fun e => s.e.n - natOf (e 8)) ⟨_, 0, x.chosen, v, updL_self ⟨rfl, rfl, rfl, rfl, rfl, trivial⟩, by omega, L4, q4, K4, rfl, rfl, by rw [List.drop_zero, hse]⟩ ?_
  clear q4 K4 L4
  rintro e h' ⟨e0, j, ch, v', rfl, hj, L5, q5, K5, vc, vk, st⟩
  have hcm : ∀ y, (netCells { x with chosen := y } v')[0 + 54 + m * 1]? = some (I (x.commits.get n)) := fun y => by
   rw [show 0 + 54 + m * 1 = 54 + n.toNat by omega]; exact cm_cell _ v' n1 n5
  have id5 : PIdle h' b (N + 2 * n.toNat) c := by
   obtain ⟨b', hb', id'⟩ := K5.cores n n1 n2
   rw [vc, hb] at hb'; cases hb'; rw [hc]; exact id'
  conv=>whnf
  refine ALoad.one rfl q5 rfl ?_; conv=>whnf
  by_cases hjn : j < s.e.n
  ·refine ACmp.yes (by omega) ?_; conv=>whnf
   obtain ⟨y, hy⟩ : ∃ y, s.es[j]? = some y := ⟨s.es[j]'(by omega), by simp⟩
   have hdj : s.es.drop j = y :: s.es.drop (j + 1) := by
    obtain ⟨h0, h1⟩ := List.getElem?_eq_some_iff.1 hy
    rw [← h1]; exact (List.getElem_cons_drop h0).symm
   have my := List.mem_of_getElem? hy
   obtain ⟨ka5, t15, kt15, kok5⟩ := K5.kept n n1 n5
   rw [vk, ← hs] at kok5
   obtain ⟨bb, off, l, E, fz, ea, hbb, hcc⟩ := kok5.es.sl.pos (by omega)
   have gp : (l.drop (off + j * 4)).take 4 = y.cells := by rw [part_of_take hcc (by omega), encs_part hy]
   refine ALoad.one rfl q5 rfl ?_; conv=>whnf
   rw [ea]
   refine AIdx.nat rfl hjn rfl rfl ?_; conv=>whnf
   refine ALoad.agg rfl hbb gp rfl ?_; conv=>whnf
   refine AAlloc.mkN (0, 1) ([I 0, I 0, I 0, .slice none 0 0]) rfl fun b9 h10 n10 s10 q10 => ?_; conv=>whnf
   refine AStore.aggN rfl rfl rfl (q10) rfl (y.cells) rfl fun h11 t11 q11 a11 e11 => ?_; conv=>whnf
   have s11 : Sub h' h11 := a11 h' s10 n10
   have K11 := K5.sub s11
   have L11 : Low N h h11 := L5.trans s11.low
   have id11 := id5.move fun _ _ _ _ e => s11 _ _ e
   have q511 := s11 _ _ q5
   have gy : y.Good h11 (N + 1, 2) := Sl.sub (kok5.es.good y my) s11
   have hyn := kok5.es.small y my
   clear K5 id5 L5 q5 hbb n10 s10 q10 t11 a11 e11 s11 kok5 ka5
   rw [hdj, List.map_cons] at st
   have hya : y.abs.2.1 = y.index := rfl
   refine ADrawn.mk (h11) [] (Sub.refl _) (by decide +kernel) ?_; conv=>whnf
   refine ALoad.one rfl q11 rfl ?_; conv=>whnf
   refine ACalls.mono (commit_i id11) ?_; rintro _ _ ⟨rfl, rfl⟩; conv=>whnf
   refine ⟨Sub.refl _, ?_⟩; conv=>whnf
   by_cases c1 : c.commit < y.index
   ·refine ACmp.yes (c1) ?_; conv=>whnf
    have FIN : (lookEs c.commit s.abs.entries (true, x.chosen)).2 = ch := by
     rw [st]; unfold lookEs; rw [if_pos (by rw [hya]; exact c1)]
    have h6 := h11
    have K6 := K11
    have q6 := q511
    have L6 := L11
    have id6 : PIdle h11 b (N + 2 * n.toNat) c := by
     obtain ⟨b', hb', id'⟩ := K6.cores n n1 n2
     rw [vc, hb] at hb'; cases hb'; rw [hc]; exact id'
    refine ADrawn.mk (h11) [19] (Sub.refl _) (by decide +kernel) ?_; conv=>whnf
    refine ALoad.one rfl K6.str rfl ?_; conv=>whnf
    refine ALoad.one rfl q6 rfl ?_; conv=>whnf
    refine ALoad.one rfl q6 rfl ?_; conv=>whnf
    refine AArith.ok (by omega) (by omega) (rfl) ?_; conv=>whnf
    refine ACalls.mono (commit_i id6) ?_; rintro _ _ ⟨rfl, rfl⟩; conv=>whnf
    refine ⟨Sub.refl _, ?_⟩; conv=>whnf
    refine ACmp.yes (o5) ?_; conv=>whnf
    refine AStore.oneN rfl rfl rfl (K6.str) rfl (netCells { x with chosen := ch } v') rfl fun h7 t7 q7 a7 e7 => ?_; conv=>whnf
    have K7 := K6.same t7 q7
    have L7 : Low N h h7 := L6.trans fun b t y ht e => t7 _ _ _ (fun c => by rw [c] at ht; simp at ht) e
    have id7 : PIdle h7 b (N + 2 * n.toNat) c := id6.move fun _ t _ ht e => t7 _ _ _ (fun c => by rw [c] at ht; simp only at ht; omega) e
    refine ADrawn.mkO (h7) [7] [0, 1, 2, 4, 5, 3, 6, 7] (Sub.refl _) (by decide +kernel) ?_; conv=>whnf
    refine ACalls.mono (commit_i id7) ?_; rintro _ _ ⟨rfl, rfl⟩; conv=>whnf
    refine ⟨Sub.refl _, ?_⟩; conv=>whnf
    refine AIdxA.nat (n := 6) (z := 1) (j := m) (by omega) (by omega) rfl rfl ?_; conv=>whnf
    refine AStore.oneN rfl rfl rfl K7.str (by have := hcm ch; exact Nat.ble_eq_true_of_le (List.getElem?_eq_some_iff.1 this).1) (netCells { x with chosen := ch, commits := x.commits.set n c.commit } v') (by rw [show 0 + 54 + m * 1 = 54 + n.toNat by omega]; exact cm_set { x with chosen := ch } v' n1 n5 _) fun h8 t8 q8 a8 e8 => ?_; conv=>whnf
    have K8 : NetX h8 N p { x with chosen := ch, commits := x.commits.set n c.commit } v' := K7.move' (fun b t y _ n e => t8 _ _ _ n e) q8 rfl rfl rfl rfl rfl rfl rfl
    have L8 : Low N h h8 := L7.trans fun b t y ht e => t8 _ _ _ (fun c => by rw [c] at ht; simp at ht) e
    have id8 : PIdle h8 b (N + 2 * n.toNat) c := id7.move fun _ t _ ht e => t8 _ _ _ (fun c => by rw [c] at ht; simp only at ht; omega) e
    have htm : (netCells { x with chosen := ch, commits := x.commits.set n c.commit } v')[0 + 60 + m * 1]? = some (I (x.terms.get n)) := by
     rw [show 0 + 60 + m * 1 = 60 + n.toNat by omega]; exact tm_cell _ v' n1 n5
    refine ADrawn.mkO (h8) [7] [0, 1, 2, 4, 5, 3, 6, 7] (Sub.refl _) (by decide +kernel) ?_; conv=>whnf
    refine ACalls.mono (term_i id8) ?_; rintro _ _ ⟨rfl, rfl⟩; conv=>whnf
    refine ⟨Sub.refl _, ?_⟩; conv=>whnf
    refine AIdxA.nat (n := 6) (z := 1) (j := m) (by omega) (by omega) rfl rfl ?_; conv=>whnf
    refine AStore.oneN rfl rfl rfl K8.str (by exact Nat.ble_eq_true_of_le (List.getElem?_eq_some_iff.1 htm).1) (netCells { x with chosen := ch, commits := x.commits.set n c.commit, terms := x.terms.set n c.term } v') (by rw [show 0 + 60 + m * 1 = 60 + n.toNat by omega]; exact tm_set { x with chosen := ch, commits := x.commits.set n c.commit } v' n1 n5 _) fun h9 t9 q9 a9 e9 => ?_; conv=>whnf
    have K9 : NetX h9 N p { x with chosen := ch, commits := x.commits.set n c.commit, terms := x.terms.set n c.term } v' := K8.move' (fun b t y _ n e => t9 _ _ _ n e) q9 rfl rfl rfl rfl rfl rfl rfl
    refine ⟨rfl, ⟨v', ?_⟩, L8.trans fun b t y ht e => t9 _ _ _ (fun c => by rw [c] at ht; simp at ht) e⟩
    rw [FIN]
    exact K9
   refine ACmp.no (c1) ?_; conv=>whnf
   have o4' := o4
   rw [st] at o4'
   obtain ⟨ag, st'⟩ := lookEs_head o4' (by rw [hya]; exact c1)
   rw [hya] at ag st'
   rw [show ch = v'.ch.map (fun z => (z.1, z.2.abs)) from K11.choA.symm, alook_map] at ag
   refine ADrawn.mk (h11) [] (Sub.refl _) (by decide +kernel) ?_; conv=>whnf
   refine ALoad.one rfl K11.str rfl ?_; conv=>whnf
   refine ALoad.one rfl q11 rfl ?_; conv=>whnf
   cases ho : alook y.index v'.ch with
   | none =>
    refine ALookup.miss K11.cho rfl rfl rfl rfl (kvG_miss (f := fun e : EH => .agg e.cells.toArray) K11.choE ho) ?_
    conv=>whnf
    refine AAlloc.mkN (0, 1) ([I 0, I 0, I 0, .slice none 0 0]) rfl fun b10 h12 n12 s12 q12 => ?_; conv=>whnf
    refine ⟨s12, ?_⟩; conv=>whnf
    refine AStore.aggN rfl rfl rfl (q12) rfl ([I 0, I 0, I 0, .slice none 0 0]) rfl fun h13 t13 q13' a13 e13 => ?_; conv=>whnf
    have s13 : Sub h11 h13 := a13 h11 s12 n12
    refine ⟨s13, ?_⟩; conv=>whnf
    have K13 := K11.sub s13
    refine ALoad.one rfl K13.str rfl ?_; conv=>whnf
    refine AStore.oneN rfl rfl rfl (K13.str) rfl (netCells { x with chosen := ch } v') rfl fun h14 t14 q14 a14 e14 => ?_; conv=>whnf
    have K14 := K13.same t14 q14
    have L14 : Low N h h14 := (L11.trans s13.low).trans fun b t y ht e => t14 _ _ _ (fun c => by rw [c] at ht; simp at ht) e
    have q514 := t14.get t01 (s13 _ _ q511)
    have q914 := t14.get t01 (s13 _ _ q11)
    have gy14 : y.Good h14 (N + 1, 2) := Sl.keepT (Sl.sub gy s13) t14 (by simp)
    have EE := kvG_new (f := fun e : EH => .agg e.cells.toArray) (x := y) (clock := v'.k2) K14.choE ho
    refine ADrawn.mk (h14) [7] (Sub.refl _) (by decide +kernel) ?_; conv=>whnf
    refine ALoad.one rfl K14.str rfl ?_; conv=>whnf
    refine ALoad.one rfl q914 rfl ?_; conv=>whnf
    refine ALoad.agg rfl q914 rfl rfl ?_; conv=>whnf
    refine AMapUpd.miss K14.cho rfl rfl rfl (kvG_miss (f := fun e : EH => .agg e.cells.toArray) K14.choE ho) fun mm => ?_; conv=>whnf
    have KK := K14.choSet (KeepT.set K14.cho.at_) (l' := aset y.index y.abs ch) mm EE ((aset_map EH.abs y.index y v'.ch).trans (congrArg (aset y.index y.abs) K14.choA)) (fun z hz => (aset_mem hz).elim (fun e => by rw [e]; exact gy14) (K14.choG z))
    refine AArith.ok (by omega) (by omega) ((by omega : (j : Int) + 1 = ((j + 1 : Nat) : Int))) ?_; conv=>whnf
    refine ⟨⟨_, j + 1, aset y.index y.abs ch, _, updL_self ⟨rfl, rfl, rfl, rfl, rfl, trivial⟩, by omega, L14.trans fun b t y ht e => KeepT.set K14.cho.at_ _ _ _ (fun c => by rw [c] at ht; simp at ht) e, KeepT.set K14.cho.at_ _ _ _ (fun c => by have := congrArg Prod.fst c; simp only at this; omega) q514, KK, vc, vk, by rw [st, st']⟩, ?_⟩
    show s.e.n - (j + 1) < s.e.n - j
    omega
   | some old =>
    rw [ho] at ag
    have ag' : old.abs = y.abs := of_decide_eq_true ag
    obtain ⟨i, e1, g1, g2, g3, g4⟩ := kvG_hit (f := fun e : EH => .agg e.cells.toArray) K11.choE ho
    refine ALookup.hit K11.cho rfl rfl (List.mem_of_getElem? g1) g2 ?_
    rw [g3]
    conv=>whnf
    refine AAlloc.mkN (0, 1) ([I 0, I 0, I 0, .slice none 0 0]) rfl fun b10 h12 n12 s12 q12 => ?_; conv=>whnf
    refine ⟨s12, ?_⟩; conv=>whnf
    refine AStore.aggN rfl rfl rfl (q12) rfl (old.cells) rfl fun h13 t13 q13' a13 e13 => ?_; conv=>whnf
    have s13 : Sub h11 h13 := a13 h11 s12 n12
    refine ⟨s13, ?_⟩; conv=>whnf
    have K13 := K11.sub s13
    refine ALoad.one rfl K13.str rfl ?_; conv=>whnf
    refine ALoad.agg rfl q13' rfl rfl ?_; conv=>whnf
    refine ALoad.agg rfl (s13 _ _ q11) rfl rfl ?_; conv=>whnf
    have hon : old.n ≤ 4611686018427387904 := by
     have h1 : old.data.length = old.n := by have := (K11.choG _ (alook_mem ho)).len; simpa [bytesV] using this
     have h2 : y.data.length = y.n := by have := gy.len; simpa [bytesV] using this
     have h3 : old.data = y.data := congrArg (·.2.2.2) ag'
     rw [h3] at h1; omega
    refine ACalls.mono (like_any (K13.choG _ (alook_mem ho)) (Sl.sub gy s13) hon) ?_; rintro _ _ ⟨rfl, rfl⟩; conv=>whnf
    rw [decide_eq_true ag']
    conv=>whnf
    refine AStore.oneN rfl rfl rfl (K13.str) rfl (netCells { x with chosen := ch } v') rfl fun h14 t14 q14 a14 e14 => ?_; conv=>whnf
    have K14 := K13.same t14 q14
    have L14 : Low N h h14 := (L11.trans s13.low).trans fun b t y ht e => t14 _ _ _ (fun c => by rw [c] at ht; simp at ht) e
    have q514 := t14.get t01 (s13 _ _ q511)
    have q914 := t14.get t01 (s13 _ _ q11)
    have gy14 : y.Good h14 (N + 1, 2) := Sl.keepT (Sl.sub gy s13) t14 (by simp)
    have EE := g4 y
    refine ADrawn.mk (h14) [7] (Sub.refl _) (by decide +kernel) ?_; conv=>whnf
    refine ALoad.one rfl K14.str rfl ?_; conv=>whnf
    refine ALoad.one rfl q914 rfl ?_; conv=>whnf
    refine ALoad.agg rfl q914 rfl rfl ?_; conv=>whnf
    refine AMapUpd.hit K14.cho rfl rfl g1 g2 fun mm => ?_; conv=>whnf
    have KK := K14.choSet (KeepT.set K14.cho.at_) (l' := aset y.index y.abs ch) mm EE ((aset_map EH.abs y.index y v'.ch).trans (congrArg (aset y.index y.abs) K14.choA)) (fun z hz => (aset_mem hz).elim (fun e => by rw [e]; exact gy14) (K14.choG z))
    refine AArith.ok (by omega) (by omega) ((by omega : (j : Int) + 1 = ((j + 1 : Nat) : Int))) ?_; conv=>whnf
    refine ⟨⟨_, j + 1, aset y.index y.abs ch, _, updL_self ⟨rfl, rfl, rfl, rfl, rfl, trivial⟩, by omega, L14.trans fun b t y ht e => KeepT.set K14.cho.at_ _ _ _ (fun c => by rw [c] at ht; simp at ht) e, KeepT.set K14.cho.at_ _ _ _ (fun c => by have := congrArg Prod.fst c; simp only at this; omega) q514, KK, vc, vk, by rw [st, st']⟩, ?_⟩
    show s.e.n - (j + 1) < s.e.n - j
    omega
  ·refine ACmp.no (by omega) ?_; conv=>whnf
   have FIN : (lookEs c.commit s.abs.entries (true, x.chosen)).2 = ch := by
    rw [st, List.drop_of_length_le (by omega)]; rfl
   have K6 := K5
   have q6 := q5
   have L6 := L5
   have id6 : PIdle h' b (N + 2 * n.toNat) c := by
    obtain ⟨b', hb', id'⟩ := K6.cores n n1 n2
    rw [vc, hb] at hb'; cases hb'; rw [hc]; exact id'
   refine ADrawn.mk (h') [19] (Sub.refl _) (by decide +kernel) ?_; conv=>whnf
   refine ALoad.one rfl K6.str rfl ?_; conv=>whnf
   refine ALoad.one rfl q6 rfl ?_; conv=>whnf
   refine ALoad.one rfl q6 rfl ?_; conv=>whnf
   refine AArith.ok (by omega) (by omega) (rfl) ?_; conv=>whnf
   refine ACalls.mono (commit_i id6) ?_; rintro _ _ ⟨rfl, rfl⟩; conv=>whnf
   refine ⟨Sub.refl _, ?_⟩; conv=>whnf
   refine ACmp.yes (o5) ?_; conv=>whnf
   refine AStore.oneN rfl rfl rfl (K6.str) rfl (netCells { x with chosen := ch } v') rfl fun h7 t7 q7 a7 e7 => ?_; conv=>whnf
   have K7 := K6.same t7 q7
   have L7 : Low N h h7 := L6.trans fun b t y ht e => t7 _ _ _ (fun c => by rw [c] at ht; simp at ht) e
   have id7 : PIdle h7 b (N + 2 * n.toNat) c := id6.move fun _ t _ ht e => t7 _ _ _ (fun c => by rw [c] at ht; simp only at ht; omega) e
   refine ADrawn.mkO (h7) [7] [0, 1, 2, 4, 5, 3, 6, 7] (Sub.refl _) (by decide +kernel) ?_; conv=>whnf
   refine ACalls.mono (commit_i id7) ?_; rintro _ _ ⟨rfl, rfl⟩; conv=>whnf
   refine ⟨Sub.refl _, ?_⟩; conv=>whnf
   refine AIdxA.nat (n := 6) (z := 1) (j := m) (by omega) (by omega) rfl rfl ?_; conv=>whnf
   refine AStore.oneN rfl rfl rfl K7.str (by have := hcm ch; exact Nat.ble_eq_true_of_le (List.getElem?_eq_some_iff.1 this).1) (netCells { x with chosen := ch, commits := x.commits.set n c.commit } v') (by rw [show 0 + 54 + m * 1 = 54 + n.toNat by omega]; exact cm_set { x with chosen := ch } v' n1 n5 _) fun h8 t8 q8 a8 e8 => ?_; conv=>whnf
   have K8 : NetX h8 N p { x with chosen := ch, commits := x.commits.set n c.commit } v' := K7.move' (fun b t y _ n e => t8 _ _ _ n e) q8 rfl rfl rfl rfl rfl rfl rfl
   have L8 : Low N h h8 := L7.trans fun b t y ht e => t8 _ _ _ (fun c => by rw [c] at ht; simp at ht) e
   have id8 : PIdle h8 b (N + 2 * n.toNat) c := id7.move fun _ t _ ht e => t8 _ _ _ (fun c => by rw [c] at ht; simp only at ht; omega) e
   have htm : (netCells { x with chosen := ch, commits := x.commits.set n c.commit } v')[0 + 60 + m * 1]? = some (I (x.terms.get n)) := by
    rw [show 0 + 60 + m * 1 = 60 + n.toNat by omega]; exact tm_cell _ v' n1 n5
   refine ADrawn.mkO (h8) [7] [0, 1, 2, 4, 5, 3, 6, 7] (Sub.refl _) (by decide +kernel) ?_; conv=>whnf
   refine ACalls.mono (term_i id8) ?_; rintro _ _ ⟨rfl, rfl⟩; conv=>whnf
   refine ⟨Sub.refl _, ?_⟩; conv=>whnf
   refine AIdxA.nat (n := 6) (z := 1) (j := m) (by omega) (by omega) rfl rfl ?_; conv=>whnf
   refine AStore.oneN rfl rfl rfl K8.str (by exact Nat.ble_eq_true_of_le (List.getElem?_eq_some_iff.1 htm).1) (netCells { x with chosen := ch, commits := x.commits.set n c.commit, terms := x.terms.set n c.term } v') (by rw [show 0 + 60 + m * 1 = 60 + n.toNat by omega]; exact tm_set { x with chosen := ch, commits := x.commits.set n c.commit } v' n1 n5 _) fun h9 t9 q9 a9 e9 => ?_; conv=>whnf
   have K9 : NetX h9 N p { x with chosen := ch, commits := x.commits.set n c.commit, terms := x.terms.set n c.term } v' := K8.move' (fun b t y _ n e => t9 _ _ _ n e) q9 rfl rfl rfl rfl rfl rfl rfl
   refine ⟨rfl, ⟨v', ?_⟩, L8.trans fun b t y ht e => t9 _ _ _ (fun c => by rw [c] at ht; simp at ht) e⟩
   rw [FIN]
   exact K9
end Go.Ah
