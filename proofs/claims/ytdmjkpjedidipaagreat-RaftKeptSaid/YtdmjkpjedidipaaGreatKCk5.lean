/- Texts that the law leans on, one behind the other. -/
import Derived.Test.YtdmjkpjedidipaaGreatKCk4
namespace Go.Ah
open Go.Proofs
set_option linter.unusedVariables false
set_option linter.unusedSimpArgs false
set_option maxRecDepth 20000
def cmpI (a b : Int) : Int := if a < b then -1 else if b < a then 1 else 0
theorem nan_any (h : Heap) (a : Int) : ACalls PR 178 #[I a] h (fun v h' => v = .bool false ∧ h = h') := by
 refine acalls_pure (acalls_of mix Tryz.func178 rfl rfl Tryz.ntmps178 Tryz.results178 rfl ?_); conv=>whnf
 refine ACmp.no ((by simp)) ?_; conv=>whnf
 exact ⟨rfl, Sub.refl _⟩
theorem compare_any (h : Heap) (a b : Int) : ACalls PR 133 #[I a, I b] h (fun v h' => v = I (cmpI a b) ∧ h = h') := by
 refine acalls_pure (acalls_of mix Tryz.func133 rfl rfl Tryz.ntmps133 Tryz.results133 rfl ?_); conv=>whnf
 refine ACalls.mono (nan_any h a) ?_; rintro _ _ ⟨rfl, rfl⟩; conv=>whnf
 refine ACalls.mono (nan_any h b) ?_; rintro _ _ ⟨rfl, rfl⟩; conv=>whnf
 unfold cmpI
 by_cases c1 : a < b
 ·refine ACmp.yes (c1) ?_; conv=>whnf
  exact ⟨by rw [if_pos c1], Sub.refl _⟩
 ·refine ACmp.no (c1) ?_; conv=>whnf
  by_cases c2 : b < a
  ·refine ACmp.yes (c2) ?_; conv=>whnf
   exact ⟨by rw [if_neg c1, if_pos c2], Sub.refl _⟩
  ·refine ACmp.no (c2) ?_; conv=>whnf
   exact ⟨by rw [if_neg c1, if_neg c2], Sub.refl _⟩
theorem or2_any {h : Heap} {t : Tag} {b : Nat} {a c : Int} (k : h b = some (row t [I a, I c] 3)) : ACalls PR 179 #[.slice (some ⟨b, 0, none⟩) 2 2] h (fun v h' => v = I (if a ≠ 0 then a else c) ∧ h = h') := by
 refine acalls_pure (acalls_of mix Tryz.func179 rfl rfl Tryz.ntmps179 Tryz.results179 rfl ?_); conv=>whnf
 refine ALoop.mk (fun e h' => h = h' ∧ ∃ e0, ∃ j : Nat, e = updL 18 e0 [(0, .slice (some ⟨b, 0, none⟩) 2 2), (3, I 0), (6, .slice (some ⟨b, 0, none⟩) 2 2), (7, I 2), (8, I j)] ∧ j ≤ 2 ∧ (1 ≤ j → a = 0) ∧ (2 ≤ j → c = 0)) (fun e => 2 - natOf (e 8))
  ⟨rfl, _, 0, updL_self ⟨rfl, rfl, rfl, rfl, rfl, trivial⟩, by omega, by omega, by omega⟩ ?_
 rintro e _ ⟨rfl, e0, j, rfl, hj, h1, h2⟩
 conv=>whnf
 have : j = 0 ∨ j = 1 ∨ j = 2 := by omega
 rcases this with rfl | rfl | rfl
 ·refine ACmp.yes (by omega) ?_; conv=>whnf
  refine AIdx.nat (n := 2) (z := 1) (j := 0) rfl (by omega) rfl rfl ?_; conv=>whnf
  refine ALoad.one rfl k rfl ?_; conv=>whnf
  by_cases c0 : a ≠ 0
  ·refine ACmp.yes (c0) ?_; conv=>whnf
   exact ⟨by rw [if_pos c0], Sub.refl _⟩
  ·refine ACmp.no (c0) ?_; conv=>whnf
   refine AArith.ok (by omega) (by omega) (rfl) ?_; conv=>whnf
   refine ⟨⟨rfl, _, 1, updL_self ⟨rfl, rfl, rfl, rfl, rfl, trivial⟩, by omega, fun _ => Classical.not_not.1 c0, fun h => absurd h (by omega)⟩, ?_⟩
   show 2 - 1 < 2 - 0
   omega
 ·refine ACmp.yes (by omega) ?_; conv=>whnf
  refine AIdx.nat (n := 2) (z := 1) (j := 1) rfl (by omega) rfl rfl ?_; conv=>whnf
  refine ALoad.one rfl k rfl ?_; conv=>whnf
  by_cases c0 : c ≠ 0
  ·refine ACmp.yes (c0) ?_; conv=>whnf
   exact ⟨by rw [if_neg (by have := h1 (by omega); omega)], Sub.refl _⟩
  ·refine ACmp.no (c0) ?_; conv=>whnf
   refine AArith.ok (by omega) (by omega) (rfl) ?_; conv=>whnf
   refine ⟨⟨rfl, _, 2, updL_self ⟨rfl, rfl, rfl, rfl, rfl, trivial⟩, by omega, fun _ => h1 (by omega), fun _ => Classical.not_not.1 c0⟩, ?_⟩
   show 2 - 2 < 2 - 1
   omega
 ·refine ACmp.no (by omega) ?_; conv=>whnf
  have := h1 (by omega)
  have := h2 (by omega)
  exact ⟨by rw [if_neg (by omega), this], Sub.refl _⟩
theorem fresh_iff (lt t i l : Int) : 0 ≤ (if cmpI lt t ≠ 0 then cmpI lt t else cmpI i l) ↔ (t < lt ∨ (lt = t ∧ l ≤ i)) := by
 unfold cmpI
 by_cases c1 : lt < t
 ·simp [c1]; try omega
 ·by_cases c2 : t < lt
  ·simp [c1, c2]
  ·by_cases c3 : i < l
   ·simp [c1, c2, c3]; try omega
   ·by_cases c4 : l < i
    ·simp [c1, c2, c3, c4]; try omega
    ·simp [c1, c2, c3, c4]; try omega
structure Given (h : Heap) (o oo : Nat) (x : PH) : Prop where
  ok : ∃ t1 t2 t3 : Tag, x.Ok h t1 t2 t3 ∧ t1.1 ∉ [o, o + 1, oo] ∧ t2.1 ∉ [o, o + 1, oo] ∧ t3.1 ∉ [o, o + 1, oo]
  by_ : ∀ e ∈ x.es, ∀ z ∈ e.data, 0 ≤ z ∧ z < 256
  sc0 : -9223372036854775808 ≤ x.sc
  sc1 : x.sc ≤ 9223372036854775807
  n1 : x.e.n ≤ 1000000
theorem Given.keeps {h h' : Heap} {o oo : Nat} {x : PH} (g : Given h o oo x) (k : Keeps [o, o + 1, oo] h h') : Given h' o oo x := by
 obtain ⟨⟨t1, t2, t3, ok, n1, n2, n3⟩, a, b, c, d⟩ := g
 exact ⟨⟨t1, t2, t3, ⟨⟨ok.es.sl.keeps k n1, fun e he => Sl.keeps (ok.es.good e he) k n2, ok.es.small⟩, ok.sd.keeps k n3⟩, n1, n2, n3⟩, a, b, c, d⟩
theorem Given.sub {h h' : Heap} {o oo : Nat} {x : PH} (g : Given h o oo x) (k : Sub h h') : Given h' o oo x := g.keeps (k.keeps _)
theorem made0 {h : Heap} {oo r : Nat} {x : PH} (h1 : x.e = slv0) (h2 : x.es = []) (h3 : x.d = slv0) (h4 : x.data = []) : x.Made h oo r :=
 ⟨by rw [h1, h2]; exact .inl ⟨rfl, rfl, rfl⟩, by rw [h2]; simp, by rw [h2]; simp, by rw [h3, h4]; exact .inl ⟨rfl, rfl, rfl⟩⟩
theorem refuse_any {h : Heap} {p o oo : Nat} {c : CoreM} (ap : Apart o oo) (k : PCore h p o oo c) (x : PH) (hp : c.out.posts.length ≤ 1000000000) :
  ACalls PR 134 #[Ptr p, .agg x.cells.toArray] h (fun v h' => v = .tuple #[] ∧ PCore h' p o oo (c.refuse x.abs) ∧ Keeps [o, oo] h h') := by
 refine acalls_of mix Tryz.func134 rfl rfl Tryz.ntmps134 Tryz.results134 rfl ?_; conv=>whnf
 refine ABox.mkN (0, 1) (x.cells) rfl fun b1 h1 n1 s1 k1 => ?_; conv=>whnf
 have q := k.sub s1
 refine ALoad.one rfl k1 rfl ?_; conv=>whnf
 by_cases c1 : x.kind = 1
 ·refine ACmp.yes (c1) ?_; conv=>whnf
  rw [show c.refuse x.abs = c.say x.src { post0 with kind := 2 } from if_pos c1]
  refine ALoad.one rfl k1 rfl ?_; conv=>whnf
  refine ACalls.mono (say_any ap.a ap.b ap.c ap.d q x.src { post1 with kind := 2 } (made0 rfl rfl rfl rfl) hp) ?_; rintro _ h2 ⟨rfl, k2, kk2⟩; conv=>whnf
  exact ⟨rfl, k2, (s1.keeps _).trans kk2⟩
 ·refine ACmp.no (c1) ?_; conv=>whnf
  by_cases c2 : x.kind = 3
  ·refine ACmp.yes (c2) ?_; conv=>whnf
   rw [show c.refuse x.abs = c.say x.src { post0 with kind := 4 } from (if_neg c1).trans (if_pos c2)]
   refine ALoad.one rfl k1 rfl ?_; conv=>whnf
   refine ACalls.mono (say_any ap.a ap.b ap.c ap.d q x.src { post1 with kind := 4 } (made0 rfl rfl rfl rfl) hp) ?_; rintro _ h2 ⟨rfl, k2, kk2⟩; conv=>whnf
   exact ⟨rfl, k2, (s1.keeps _).trans kk2⟩
  ·refine ACmp.no (c2) ?_; conv=>whnf
   rw [show c.refuse x.abs = c from (if_neg c1).trans (if_neg c2)]
   exact ⟨rfl, q, s1.keeps _⟩
set_option maxHeartbeats 2000000 in
theorem asked_any {h : Heap} {p o oo : Nat} {c : CoreM} (ap : Apart o oo) (k : PCore h p o oo c) (lo : LOk c.log) (x : PH) (draw : Int) (hd : 0 ≤ draw) (hp : c.out.posts.length ≤ 1000000000) :
  ACalls PR 135 #[Ptr p, .agg x.cells.toArray, I draw] h (fun v h' => v = .tuple #[] ∧ PCore h' p o oo (c.asked x.abs draw) ∧ Keeps [o, oo] h h') := by
 obtain ⟨cx, k⟩ := k
 rw [CoreM.asked_eq]
 refine acalls_of mix Tryz.func135 rfl rfl Tryz.ntmps135 Tryz.results135 rfl ?_; conv=>whnf
 refine ABox.mkN (0, 1) (x.cells) rfl fun b1 h1 n1 s1 k1 => ?_; conv=>whnf
 have q := k.sub s1
 refine ALoad.one rfl q.str rfl ?_; conv=>whnf
 refine ACalls.mono (Last_c q.log lo) ?_; rintro _ _ ⟨rfl, rfl⟩; conv=>whnf
 refine ADrawn.mkO (h1) [] [0, 1, 2, 4, 5, 6, 3, 7, 8, 9, 10, 11] (Sub.refl _) (by decide +kernel) ?_; conv=>whnf
 refine ALoad.one rfl k1 rfl ?_; conv=>whnf
 refine ALoad.one rfl k1 rfl ?_; conv=>whnf
 refine ACalls.mono (compare_any h1 x.logTerm c.log.last.2) ?_; rintro _ _ ⟨rfl, rfl⟩; conv=>whnf
 refine ⟨Sub.refl _, ?_⟩; conv=>whnf
 refine ACalls.mono (compare_any h1 x.index c.log.last.1) ?_; rintro _ _ ⟨rfl, rfl⟩; conv=>whnf
 refine ⟨Sub.refl _, ?_⟩; conv=>whnf
 refine ABuildSl.mkN (0, 1) [I (cmpI x.logTerm c.log.last.2), I (cmpI x.index c.log.last.1)] rfl rfl rfl rfl rfl rfl rfl fun b2 h2 n2 s2 k2 => ?_; conv=>whnf
 refine ⟨s2, ?_⟩; conv=>whnf
 refine ACalls.mono (or2_any k2) ?_; rintro _ _ ⟨rfl, rfl⟩; conv=>whnf
 refine ⟨s2, ?_⟩; conv=>whnf
 have q2 := q.sub s2
 have k12 := s2 _ _ k1
 have hf := fresh_iff x.logTerm c.log.last.2 x.index c.log.last.1
 generalize (if cmpI x.logTerm c.log.last.2 ≠ 0 then cmpI x.logTerm c.log.last.2 else cmpI x.index c.log.last.1) = rr at hf ⊢
 have hao : c.askedOk x.abs = ((decide (c.log.last.2 < x.logTerm) || (decide (x.logTerm = c.log.last.2) && decide (c.log.last.1 ≤ x.index))) && (decide (c.vote = 0) || decide (c.vote = x.src))) := rfl
 cases hfr : (decide (c.log.last.2 < x.logTerm) || (decide (x.logTerm = c.log.last.2) && decide (c.log.last.1 ≤ x.index))) with
 | false =>
  refine ACmp.no ((by rw [hf]; simp at hfr; omega)) ?_; conv=>whnf
  refine ADrawn.mk (h2) [] (Sub.refl _) (by decide +kernel) ?_; conv=>whnf
  have NB := hfr
  have hno : c.askedOk x.abs = false := by rw [hao, NB]; simp
  rw [hno, if_neg (by simp)]
  refine ALoad.one rfl k12 rfl ?_; conv=>whnf
  refine ACalls.mono (say_any ap.a ap.b ap.c ap.d ⟨_, q2⟩ x.src { post1 with kind := 2, ok := false } (made0 rfl rfl rfl rfl) hp) ?_; rintro _ h3 ⟨rfl, k3, kk3⟩; conv=>whnf
  exact ⟨rfl, k3, ((s1.trans s2).keeps _).trans kk3⟩
 | true =>
  refine ACmp.yes ((by rw [hf]; simp at hfr; omega)) ?_; conv=>whnf
  refine ADrawn.mk (h2) [] (Sub.refl _) (by decide +kernel) ?_; conv=>whnf
  refine ALoad.one rfl q2.str rfl ?_; conv=>whnf
  by_cases c2 : c.vote = 0
  ·refine ACmp.yes (c2) ?_; conv=>whnf
   have VB := c2
   have hyes : c.askedOk x.abs = true := by rw [hao, hfr]; simp [VB]
   rw [hyes, if_pos rfl]
   refine ADrawn.mkO ((two h2 p b1)) [8] [0, 1, 2, 3, 4, 5, 6, 7, 8, 9, 10, 11] (two_sub _ _ _) (by decide +kernel) ?_; conv=>whnf
   refine ALoad.one rfl ((two_r _ _ _).trans k12) rfl ?_; conv=>whnf
   refine ACalls.mono (waits_any h2 draw hd) ?_; rintro _ _ ⟨rfl, rfl⟩; conv=>whnf
   refine ⟨two_sub _ _ _, ?_⟩; conv=>whnf
   refine AStore.oneN rfl rfl rfl (q2.str) rfl (coreCells { c with vote := x.src } cx) rfl fun h3 t3 k3 a3 e3 => ?_; conv=>whnf
   refine AStore.oneN rfl rfl rfl (k3) rfl (coreCells { c with vote := x.src, wait := waits draw } cx) rfl fun h4 t4 k4 a4 e4 => ?_; conv=>whnf
   refine ⟨(fun b y e => by cases e), ?_⟩; conv=>whnf
   refine AStore.oneN rfl rfl rfl (k4) rfl (coreCells { c with vote := x.src, wait := waits draw, out := { c.out with hard := true } } cx) rfl fun h5 t5 k5 a5 e5 => ?_; conv=>whnf
   have tt := t3.trans (t4.trans t5)
   have k15 := tt.get (tag_ne ap.c) k12
   have q5 : CoreX 81 LA h5 p o oo { c with vote := x.src, wait := waits draw, out := { c.out with hard := true } } cx := ⟨k5, q2.sd.keepT tt (by simp), KeepT.log q2.log tt, q2.rd.keepT tt (by simp), by
    have z := q2.out.keepT ap.a tt
    exact ⟨z.od, z.oe, z.ed, z.ea, z.es, z.op, z.ps, z.pa, z.qr⟩⟩
   refine ALoad.one rfl k15 rfl ?_; conv=>whnf
   refine ACalls.mono (say_any ap.a ap.b ap.c ap.d ⟨_, q5⟩ x.src { post1 with kind := 2, ok := true } (made0 rfl rfl rfl rfl) hp) ?_; rintro _ h6 ⟨rfl, k6, kk6⟩; conv=>whnf
   exact ⟨rfl, k6, ((s1.trans s2).keeps _).trans ((tt.keep.keeps (by simp)).trans kk6)⟩
  ·refine ACmp.no (c2) ?_; conv=>whnf
   refine ALoad.one rfl q2.str rfl ?_; conv=>whnf
   refine ALoad.one rfl k12 rfl ?_; conv=>whnf
   by_cases c3 : c.vote = x.src
   ·refine ACmp.yes (c3) ?_; conv=>whnf
    have VB := c3
    have hyes : c.askedOk x.abs = true := by rw [hao, hfr]; simp [VB]
    rw [hyes, if_pos rfl]
    refine ADrawn.mkO ((two h2 p b1)) [8] [0, 1, 2, 3, 4, 5, 6, 7, 8, 9, 10, 11] (two_sub _ _ _) (by decide +kernel) ?_; conv=>whnf
    refine ALoad.one rfl ((two_r _ _ _).trans k12) rfl ?_; conv=>whnf
    refine ACalls.mono (waits_any h2 draw hd) ?_; rintro _ _ ⟨rfl, rfl⟩; conv=>whnf
    refine ⟨two_sub _ _ _, ?_⟩; conv=>whnf
    refine AStore.oneN rfl rfl rfl (q2.str) rfl (coreCells { c with vote := x.src } cx) rfl fun h3 t3 k3 a3 e3 => ?_; conv=>whnf
    refine AStore.oneN rfl rfl rfl (k3) rfl (coreCells { c with vote := x.src, wait := waits draw } cx) rfl fun h4 t4 k4 a4 e4 => ?_; conv=>whnf
    refine ⟨(fun b y e => by cases e), ?_⟩; conv=>whnf
    refine AStore.oneN rfl rfl rfl (k4) rfl (coreCells { c with vote := x.src, wait := waits draw, out := { c.out with hard := true } } cx) rfl fun h5 t5 k5 a5 e5 => ?_; conv=>whnf
    have tt := t3.trans (t4.trans t5)
    have k15 := tt.get (tag_ne ap.c) k12
    have q5 : CoreX 81 LA h5 p o oo { c with vote := x.src, wait := waits draw, out := { c.out with hard := true } } cx := ⟨k5, q2.sd.keepT tt (by simp), KeepT.log q2.log tt, q2.rd.keepT tt (by simp), by
     have z := q2.out.keepT ap.a tt
     exact ⟨z.od, z.oe, z.ed, z.ea, z.es, z.op, z.ps, z.pa, z.qr⟩⟩
    refine ALoad.one rfl k15 rfl ?_; conv=>whnf
    refine ACalls.mono (say_any ap.a ap.b ap.c ap.d ⟨_, q5⟩ x.src { post1 with kind := 2, ok := true } (made0 rfl rfl rfl rfl) hp) ?_; rintro _ h6 ⟨rfl, k6, kk6⟩; conv=>whnf
    exact ⟨rfl, k6, ((s1.trans s2).keeps _).trans ((tt.keep.keeps (by simp)).trans kk6)⟩
   ·refine ACmp.no (c3) ?_; conv=>whnf
    have NB : (decide (c.vote = 0) || decide (c.vote = x.src)) = false := by simp [c2, c3]
    have hno : c.askedOk x.abs = false := by rw [hao, NB]; simp
    rw [hno, if_neg (by simp)]
    refine ALoad.one rfl k12 rfl ?_; conv=>whnf
    refine ACalls.mono (say_any ap.a ap.b ap.c ap.d ⟨_, q2⟩ x.src { post1 with kind := 2, ok := false } (made0 rfl rfl rfl rfl) hp) ?_; rintro _ h3 ⟨rfl, k3, kk3⟩; conv=>whnf
    exact ⟨rfl, k3, ((s1.trans s2).keeps _).trans kk3⟩
end Go.Ah
namespace Go.Ah
open Go.Proofs
set_option linter.unusedVariables false
set_option linter.unusedSimpArgs false
set_option maxRecDepth 20000
theorem or_vput : ∀ a : Nat, a < 64 → ∀ n : Nat, n < 6 → 1 ≤ n → ((a ||| 2 ^ n : Nat) : Int) = vput (a : Int) (n : Int) := by decide +kernel
theorem CoreM.voted_no {c : CoreM} {p : PostM} (h : c.state ≠ 1 ∨ p.ok = false) : c.voted p = c := if_pos h
theorem CoreM.voted_yes {c : CoreM} {p : PostM} (h : ¬(c.state ≠ 1 ∨ p.ok = false)) : c.voted p = if ({ c with votes := vput c.votes p.src } : CoreM).elected = true then ({ c with votes := vput c.votes p.src } : CoreM).lead else { c with votes := vput c.votes p.src } := if_neg h
set_option maxHeartbeats 2000000 in
theorem voted_any {h : Heap} {p o oo : Nat} {c : CoreM} (ap : Apart o oo) (k : PCore h p o oo c) (lk : LogOk c) (hs1 : 1 ≤ c.self) (hs2 : c.self ≤ 5) (hv1 : 0 ≤ c.votes) (hv2 : c.votes < 64) (x : PH) (hx1 : 1 ≤ x.src) (hx2 : x.src ≤ 5)
  (hroom : (c.log.es.length + 1) * 48 ≤ 140737488355328) (he : c.out.entries.length ≤ 1000000000) (hp : c.out.posts.length ≤ 999999990) :
  ACalls PR 136 #[Ptr p, .agg x.cells.toArray] h (fun v h' => v = .tuple #[] ∧ PCore h' p o oo (c.voted x.abs) ∧ Keeps [o, o + 1, oo] h h') := by
 obtain ⟨cx, k⟩ := k
 obtain ⟨a, ha⟩ : ∃ a : Nat, c.votes = a := ⟨c.votes.toNat, by omega⟩
 obtain ⟨n, hn⟩ : ∃ n : Nat, x.src = n := ⟨x.src.toNat, by omega⟩
 refine acalls_of mix Tryz.func136 rfl rfl Tryz.ntmps136 Tryz.results136 rfl ?_; conv=>whnf
 refine ABox.mkN (0, 1) (x.cells) rfl fun b1 h1 n1 s1 k1 => ?_; conv=>whnf
 have q := k.sub s1
 refine ALoad.one rfl q.str rfl ?_; conv=>whnf
 by_cases c1 : c.state ≠ 1
 ·refine ACmp.yes (c1) ?_; conv=>whnf
  rw [CoreM.voted_no (.inl c1)]
  exact ⟨rfl, ⟨_, q⟩, s1.keeps _⟩
 refine ACmp.no (c1) ?_; conv=>whnf
 refine ALoad.one rfl k1 rfl ?_; conv=>whnf
 cases c2 : x.ok with
 | false =>
  conv=>whnf
  rw [CoreM.voted_no (.inr c2)]
  exact ⟨rfl, ⟨_, q⟩, s1.keeps _⟩
 | true =>
 conv=>whnf
 rw [CoreM.voted_yes (by show ¬(c.state ≠ 1 ∨ x.ok = false); rw [c2]; simpa using c1)]
 refine ADrawn.mk ((two h1 p b1)) [12] (two_sub _ _ _) (by decide +kernel) ?_; conv=>whnf
 refine ALoad.one rfl ((two_l _ _ _).trans q.str) rfl ?_; conv=>whnf
 refine ALoad.one rfl ((two_r _ _ _).trans k1) rfl ?_; conv=>whnf
 rw [hn, ha]
 refine ⟨by omega, ?_⟩
 refine AArith.as (shl_one n (by omega)) ?_; conv=>whnf
 refine AInt.as ((or_bits a (by omega) n (by omega)).1.trans (or_vput a (by omega) n (by omega) (by omega))) ?_; conv=>whnf
 rw [← ha, ← hn]
 refine AStore.oneN rfl rfl rfl (q.str) rfl (coreCells { c with votes := vput c.votes x.src } cx) rfl fun h2 t2 k2 a2 e2 => ?_; conv=>whnf
 obtain ⟨g, hg⟩ : ∃ g : CoreM, g = { c with votes := vput c.votes x.src } := ⟨_, rfl⟩
 rw [show ({ c with votes := vput c.votes x.abs.src } : CoreM) = g from hg.symm]
 rw [← hg] at k2
 have q2 : CoreX 81 LA h2 p o oo g cx := by
  rw [hg] at k2 ⊢
  exact ⟨k2, q.sd.keepT t2 (by simp), KeepT.log q.log t2, q.rd.keepT t2 (by simp), q.out.keepT ap.a t2⟩
 have lk2 : LogOk g := by rw [hg]; exact lk.same rfl rfl
 have g1 : g.self = c.self := by rw [hg]
 have g2 : g.log = c.log := by rw [hg]
 have g3 : g.out = c.out := by rw [hg]
 have kk2 : Keeps [o, o + 1, oo] h h2 := (s1.keeps _).trans (t2.keep.keeps (by simp))
 refine ACalls.mono (crewNow_any q2 lk2.lo lk2.by_) ?_; rintro _ _ ⟨rfl, rfl⟩; conv=>whnf
 refine ALoad.one rfl q2.str rfl ?_; conv=>whnf
 refine ACalls.mono (Most_any h2 g.crewNow.1 g.votes) ?_
 rw [mostOf_set (p := hasB g.votes) (fun n _ _ => rfl), show mostOf g.crewNow.1 (hasB g.votes) = g.elected from rfl]
 cases hel : g.elected with
 | false =>
  rintro _ _ ⟨rfl, rfl⟩
  conv=>whnf
  rw [if_neg (by simp)]
  exact ⟨rfl, ⟨_, q2⟩, kk2⟩
 | true =>
  rintro _ _ ⟨rfl, rfl⟩
  conv=>whnf
  rw [if_pos rfl]
  refine ACalls.mono (lead_any ap ⟨_, q2⟩ lk2 (by rw [g1]; exact hs1) (by rw [g1]; exact hs2) (by rw [g2]; exact hroom) (by rw [g3]; exact he) (by rw [g3]; exact hp)) ?_; rintro _ h7 ⟨rfl, k7, kk7⟩; conv=>whnf
  exact ⟨rfl, k7, kk2.trans kk7⟩
end Go.Ah
namespace Go.Ah
open Go.Proofs
set_option linter.unusedVariables false
set_option linter.unusedSimpArgs false
set_option maxRecDepth 20000
def CoreM.installed (c : CoreM) (s : SnapM) (l : LG) : CoreM := { c with log := l, snap := s, commit := s.index, out := { c.out with snap := s } }
theorem CoreM.install_no {c : CoreM} {p : PostM} (h : ¬ c.commit < p.snap.index) : c.install p = c.say p.src { post0 with kind := 6, index := c.commit, hint := p.hint } := by
 unfold CoreM.install; rw [if_neg h]
theorem CoreM.install_yes {c : CoreM} {p : PostM} (h : c.commit < p.snap.index) : c.install p = (c.installed p.snap (if c.has p.snap.index p.snap.term = true ∧ (c.log.compact p.snap.index).1 = 0 then (c.log.compact p.snap.index).2 else lnew p.snap.index p.snap.term)).say p.src { post0 with kind := 6, index := p.snap.index, hint := p.hint } := by
 unfold CoreM.install; rw [if_pos h]; rfl
set_option maxHeartbeats 4000000 in
theorem install_any {h : Heap} {p o oo : Nat} {c : CoreM} (ap : Apart o oo) (k : PCore h p o oo c) (lo : LOk c.log) (x : PH) (g : Given h o oo x) (hb : okBase x.si x.st = true) (hdn : x.d.n ≤ 140737488355328)
  (hroom : c.log.es.length * 48 ≤ 140737488355328) (hp : c.out.posts.length ≤ 1000000000) :
  ACalls PR 137 #[Ptr p, .agg x.cells.toArray] h (fun v h' => v = .tuple #[] ∧ PCore h' p o oo (c.install x.abs) ∧ Keeps [o, o + 1, oo] h h') := by
 obtain ⟨cx, k⟩ := k
 refine acalls_of mix Tryz.func137 rfl rfl Tryz.ntmps137 Tryz.results137 rfl ?_; conv=>whnf
 refine ABox.mkN (0, 1) (x.cells) rfl fun b1 h1 n1 s1 k1 => ?_; conv=>whnf
 refine ALoad.agg rfl k1 rfl rfl ?_; conv=>whnf
 refine AAlloc.mkN (0, 1) ([I 0, I 0, I 0, .slice none 0 0]) rfl fun b4 h2 n2 s2 k2 => ?_; conv=>whnf
 refine AStore.aggN rfl rfl rfl (k2) rfl ([I x.si, I x.st, I x.sc, .slice x.d.a x.d.n x.d.c]) rfl fun h3 t3 k4 a3 e3 => ?_; conv=>whnf
 have b14 : b1 ≠ b4 := fun c => by rw [c, n2] at k1; cases k1
 have k13 := e3 _ _ b14 (s2 _ _ k1)
 have hb4 : h b4 = none := by
  cases e : h b4 with
  | none => rfl
  | some y => rw [s1 _ _ e] at n2; cases n2
 have s3 : Sub h h3 := a3 h (s1.trans s2) hb4
 have q := k.sub s3
 have g3 := g.sub s3
 clear s1 s2 k1 k2 n1 n2 t3 a3 e3
 refine ADrawn.mk (h3) [] (Sub.refl _) (by decide +kernel) ?_; conv=>whnf
 refine ALoad.one rfl k4 rfl ?_; conv=>whnf
 refine ALoad.one rfl q.str rfl ?_; conv=>whnf
 by_cases c1 : c.commit < x.si
 ·refine ACmp.yes (c1) ?_; conv=>whnf
  rw [CoreM.install_yes (p := x.abs) c1]
  obtain ⟨L, hL⟩ : ∃ L, L = (if c.has x.abs.snap.index x.abs.snap.term = true ∧ (c.log.compact x.abs.snap.index).1 = 0 then (c.log.compact x.abs.snap.index).2 else lnew x.abs.snap.index x.abs.snap.term) := ⟨_, rfl⟩
  rw [← hL]
  refine ADrawn.mk ((two h3 p b4)) [] (two_sub _ _ _) (by decide +kernel) ?_; conv=>whnf
  refine ALoad.one rfl ((two_l _ _ _).trans q.str) rfl ?_; conv=>whnf
  refine ALoad.one rfl ((two_r _ _ _).trans k4) rfl ?_; conv=>whnf
  refine ALoad.one rfl ((two_r _ _ _).trans k4) rfl ?_; conv=>whnf
  have hcall : ACalls PR 122 #[Ptr cx.log, I x.si, I x.st] h3 (fun v h' => v = .bool (c.has x.si x.st) ∧ h3 = h') := Has_c q.log lo x.si x.st
  by_cases hh : c.has x.si x.st = true
  ·rw [hh] at hcall
   refine ACalls.mono (hcall) ?_; rintro _ _ ⟨rfl, rfl⟩; conv=>whnf
   refine ⟨two_sub _ _ _, ?_⟩; conv=>whnf
   refine ALoad.one rfl ((two_l _ _ _).trans q.str) rfl ?_; conv=>whnf
   refine ALoad.one rfl ((two_r _ _ _).trans k4) rfl ?_; conv=>whnf
   refine ACalls.mono (Compact_c (by omega) q.log lo x.si hroom) ?_; rintro _ h4 ⟨rfl, l4, kk4⟩; conv=>whnf
   have k44 := kk4.get (by simp) k4
   have k14 := kk4.get (by simp) k13
   have q4 := kk4.get (by simp) q.str
   have rd4 := q.rd.move fun b y e => kk4.get (by simp) e
   have o4 := q.out.move fun b t y ht e => kk4 _ _ _ (by rw [ht]; exact ap.b.symm) e
   refine ⟨two_get (fun y hy => ?_) (fun y hy => ?_), ?_⟩
   ·rw [q.str] at hy; cases hy; exact q4
   ·rw [k4] at hy; cases hy; exact k44
   conv=>whnf
   have KK4 : Keeps [o, o + 1, oo] h3 h4 := kk4.keeps (by simp)
   by_cases hc : (c.log.compact x.si).1 = 0
   ·refine ACmp.no ((by simpa using hc)) ?_; conv=>whnf
    have hL2 : L = (c.log.compact x.si).2 := hL.trans (if_pos ⟨hh, hc⟩)
    obtain ⟨h5, lp, rfl, k45, k15, q5, l5, rd5, o5, kk5⟩ : ∃ (h5 : Heap) (lp : Nat), h5 = h4 ∧ h5 b4 = some (row (0, 1) [I x.si, I x.st, I x.sc, .slice x.d.a x.d.n x.d.c] 31) ∧ h5 b1 = some (row (0, 1) x.cells 49) ∧
      h5 p = some (row (o, 0) (coreCells { c with log := L } { cx with log := lp }) 81) ∧ LA h5 lp (o + 1) L ∧ Own h5 (o, 4) 3 cx.rd.a cx.rd.n cx.rd.c 1 (c.reads.map I) ∧ OutOk h5 oo c.out cx.ox ∧ Keeps [o, o + 1, oo] h3 h5 :=
     ⟨h4, cx.log, rfl, k44, k14, q4, by rw [hL2]; exact l4, rd4, o4, KK4⟩
    obtain ⟨⟨t1, t2, t3, ok, tn1, tn2, tn3⟩, _, _, _, _⟩ := g3.keeps kk5
    refine ADrawn.mkO ((one h5 b4)) [] [0, 1, 2, 4, 5, 3, 6, 7, 8, 9, 10, 11] (one_sub _ _) (by decide +kernel) ?_; conv=>whnf
    refine ALoad.agg rfl ((one_at _ _).trans k45) rfl rfl ?_; conv=>whnf
    refine ALoad.one rfl ((one_at _ _).trans k45) rfl ?_; conv=>whnf
    refine ACalls.mono (cloned_any h5 (o, 3) (fun c => ap.c (congrArg Prod.fst c)) (i := x.si) (tm := x.st) (cr := x.sc) (d := x.d) ok.sd hdn) ?_
    rintro v h6 ⟨a6, c6, rfl, ow6, s6⟩
    refine ⟨(one_sub _ _).trans s6, ?_⟩; conv=>whnf
    refine AStore.aggN rfl rfl rfl ((s6 _ _ q5)) rfl (coreCells { c with snap := ⟨x.si, x.st, x.sc, x.data⟩, log := L } { cx with log := lp, sd := ⟨a6, x.d.n, c6⟩ }) rfl fun h7 t7 k7 a7 e7 => ?_; conv=>whnf
    have b4p : b4 ≠ p := ne_of_tag k45 q5 (tag_ne ap.c)
    refine ⟨one_get fun y hy => e7 _ _ b4p (s6 _ _ hy), ?_⟩; conv=>whnf
    refine AStore.oneN rfl rfl rfl (k7) rfl (coreCells { c with snap := ⟨x.si, x.st, x.sc, x.data⟩, log := L, commit := x.si } { cx with log := lp, sd := ⟨a6, x.d.n, c6⟩ }) rfl fun h8 t8 k8 a8 e8 => ?_; conv=>whnf
    refine ⟨one_get fun y hy => e8 _ _ b4p (e7 _ _ b4p (s6 _ _ hy)), ?_⟩; conv=>whnf
    have tt := t7.trans t8
    have k48 := e8 _ _ b4p (e7 _ _ b4p (s6 _ _ k45))
    have k18 := tt.get (tag_ne ap.c) (s6 _ _ k15)
    refine ALoad.agg rfl k48 rfl rfl ?_; conv=>whnf
    have okd : Sl h8 t3 x.d.a x.d.n x.d.c 1 (bytesV x.data) := (ok.sd.sub s6).keepT tt (fun c => tn3 (by rw [c]; simp))
    refine ACalls.mono (cloned_any h8 (oo, 6) (fun c => ap.d (congrArg Prod.fst c)) (i := x.si) (tm := x.st) (cr := x.sc) (d := x.d) okd hdn) ?_
    rintro v h9 ⟨a9, c9, rfl, ow9, s9⟩
    conv=>whnf
    refine AStore.aggN rfl rfl rfl ((s9 _ _ k8)) rfl (coreCells (c.installed ⟨x.si, x.st, x.sc, x.data⟩ L) { cx with log := lp, sd := ⟨a6, x.d.n, c6⟩, ox := { cx.ox with od := ⟨a9, x.d.n, c9⟩ } }) rfl fun hA tA kA aA eA => ?_; conv=>whnf
    have k1A := eA _ _ (ne_of_tag (s9 _ _ k18) (s9 _ _ k8) (tag_ne ap.c)) (s9 _ _ k18)
    have go : ∀ (t : Tag) b y, t ≠ (o, 0) → h5 b = some (t, y) → hA b = some (t, y) := fun t b y ht e => tA _ _ _ ht (s9 _ _ (tt _ _ _ ht (s6 _ _ e)))
    have neo : ∀ r s : Nat, ((oo, r) : Tag) ≠ (o, s) := fun r s c => ap.a (congrArg Prod.fst c).symm
    have qA : CoreX 81 LA hA p o oo (c.installed ⟨x.si, x.st, x.sc, x.data⟩ L) { cx with log := lp, sd := ⟨a6, x.d.n, c6⟩, ox := { cx.ox with od := ⟨a9, x.d.n, c9⟩ } } := by
     refine ⟨kA, ((ow6.keepT tt (by simp)).sub s9).keepT tA (by simp), Moves.move l5 fun b t y ht e => go t b y (fun c => by rw [c] at ht; simp at ht) e, rd5.move fun b y e => go _ b y (by simp) e, ?_⟩
     refine ⟨ow9.keepT tA (neo 6 0), o5.oe.move fun b y e => go _ b y (neo 1 0) e, fun y hy => Own.move (o5.ed y hy) fun b y e => go _ b y (neo 2 0) e, o5.ea, o5.es, o5.op.move fun b y e => go _ b y (neo 3 0) e, fun i y hy => (o5.ps i y hy).move fun b t z ht hr e => go t b z (fun c => by rw [c] at ht; exact ap.a ht) e, o5.pa, o5.qr.move fun b y e => go _ b y (neo 7 0) e⟩
    have kkA : Keeps [o, o + 1, oo] h hA := (s3.keeps _).trans (kk5.trans fun b t y ht e => go t b y (fun c => ht (by rw [c]; simp)) e)
    refine ADrawn.mk (hA) [10] (Sub.refl _) (by decide +kernel) ?_; conv=>whnf
    refine ALoad.one rfl k1A rfl ?_; conv=>whnf
    refine ALoad.one rfl qA.str rfl ?_; conv=>whnf
    refine ALoad.one rfl k1A rfl ?_; conv=>whnf
    refine ACalls.mono (say_any ap.a ap.b ap.c ap.d ⟨_, qA⟩ x.src { post1 with kind := 6, index := x.si, hint := x.hint } (made0 rfl rfl rfl rfl) hp) ?_; rintro _ hB ⟨rfl, kB, kkB⟩; conv=>whnf
    exact ⟨rfl, kB, kkA.trans (kkB.mono (by simp))⟩
   ·refine ACmp.yes (hc) ?_; conv=>whnf
    have hLn : L = lnew x.si x.st := hL.trans (if_neg fun c => hc c.2)
    refine ALoad.one rfl k44 rfl ?_; conv=>whnf
    refine ALoad.one rfl k44 rfl ?_; conv=>whnf
    refine ACalls.mono (New_c h4 (o + 1) (by omega) x.si x.st) ?_
    rintro v h4' (⟨_, lp, rfl, l4', s4'⟩ | ⟨hb', _⟩)
    ·conv=>whnf
     refine AStore.oneN rfl rfl rfl ((s4' _ _ q4)) rfl (coreCells { c with log := L } { cx with log := lp }) rfl fun h5 t5 q5 a5 e5 => ?_; conv=>whnf
     have k45 := t5.get (tag_ne ap.c) (s4' _ _ k44)
     have k15 := t5.get (tag_ne ap.c) (s4' _ _ k14)
     have kk5 : Keeps [o, o + 1, oo] h3 h5 := KK4.trans ((s4'.keeps _).trans (t5.keep.keeps (by simp)))
     have l5 : LA h5 lp (o + 1) L := by rw [hLn]; exact KeepT.log l4' t5
     have rd5 := (rd4.move fun _ _ e => s4' _ _ e).keepT t5 (by simp)
     have o5 := (o4.move fun b t y _ e => s4' _ _ e).keepT ap.a t5
     obtain ⟨⟨t1, t2, t3, ok, tn1, tn2, tn3⟩, _, _, _, _⟩ := g3.keeps kk5
     refine ADrawn.mkO ((one h5 b4)) [] [0, 1, 2, 4, 5, 3, 6, 7, 8, 9, 10, 11] (one_sub _ _) (by decide +kernel) ?_; conv=>whnf
     refine ALoad.agg rfl ((one_at _ _).trans k45) rfl rfl ?_; conv=>whnf
     refine ALoad.one rfl ((one_at _ _).trans k45) rfl ?_; conv=>whnf
     refine ACalls.mono (cloned_any h5 (o, 3) (fun c => ap.c (congrArg Prod.fst c)) (i := x.si) (tm := x.st) (cr := x.sc) (d := x.d) ok.sd hdn) ?_
     rintro v h6 ⟨a6, c6, rfl, ow6, s6⟩
     refine ⟨(one_sub _ _).trans s6, ?_⟩; conv=>whnf
     refine AStore.aggN rfl rfl rfl ((s6 _ _ q5)) rfl (coreCells { c with snap := ⟨x.si, x.st, x.sc, x.data⟩, log := L } { cx with log := lp, sd := ⟨a6, x.d.n, c6⟩ }) rfl fun h7 t7 k7 a7 e7 => ?_; conv=>whnf
     have b4p : b4 ≠ p := ne_of_tag k45 q5 (tag_ne ap.c)
     refine ⟨one_get fun y hy => e7 _ _ b4p (s6 _ _ hy), ?_⟩; conv=>whnf
     refine AStore.oneN rfl rfl rfl (k7) rfl (coreCells { c with snap := ⟨x.si, x.st, x.sc, x.data⟩, log := L, commit := x.si } { cx with log := lp, sd := ⟨a6, x.d.n, c6⟩ }) rfl fun h8 t8 k8 a8 e8 => ?_; conv=>whnf
     refine ⟨one_get fun y hy => e8 _ _ b4p (e7 _ _ b4p (s6 _ _ hy)), ?_⟩; conv=>whnf
     have tt := t7.trans t8
     have k48 := e8 _ _ b4p (e7 _ _ b4p (s6 _ _ k45))
     have k18 := tt.get (tag_ne ap.c) (s6 _ _ k15)
     refine ALoad.agg rfl k48 rfl rfl ?_; conv=>whnf
     have okd : Sl h8 t3 x.d.a x.d.n x.d.c 1 (bytesV x.data) := (ok.sd.sub s6).keepT tt (fun c => tn3 (by rw [c]; simp))
     refine ACalls.mono (cloned_any h8 (oo, 6) (fun c => ap.d (congrArg Prod.fst c)) (i := x.si) (tm := x.st) (cr := x.sc) (d := x.d) okd hdn) ?_
     rintro v h9 ⟨a9, c9, rfl, ow9, s9⟩
     conv=>whnf
     refine AStore.aggN rfl rfl rfl ((s9 _ _ k8)) rfl (coreCells (c.installed ⟨x.si, x.st, x.sc, x.data⟩ L) { cx with log := lp, sd := ⟨a6, x.d.n, c6⟩, ox := { cx.ox with od := ⟨a9, x.d.n, c9⟩ } }) rfl fun hA tA kA aA eA => ?_; conv=>whnf
     have k1A := eA _ _ (ne_of_tag (s9 _ _ k18) (s9 _ _ k8) (tag_ne ap.c)) (s9 _ _ k18)
     have go : ∀ (t : Tag) b y, t ≠ (o, 0) → h5 b = some (t, y) → hA b = some (t, y) := fun t b y ht e => tA _ _ _ ht (s9 _ _ (tt _ _ _ ht (s6 _ _ e)))
     have neo : ∀ r s : Nat, ((oo, r) : Tag) ≠ (o, s) := fun r s c => ap.a (congrArg Prod.fst c).symm
     have qA : CoreX 81 LA hA p o oo (c.installed ⟨x.si, x.st, x.sc, x.data⟩ L) { cx with log := lp, sd := ⟨a6, x.d.n, c6⟩, ox := { cx.ox with od := ⟨a9, x.d.n, c9⟩ } } := by
      refine ⟨kA, ((ow6.keepT tt (by simp)).sub s9).keepT tA (by simp), Moves.move l5 fun b t y ht e => go t b y (fun c => by rw [c] at ht; simp at ht) e, rd5.move fun b y e => go _ b y (by simp) e, ?_⟩
      refine ⟨ow9.keepT tA (neo 6 0), o5.oe.move fun b y e => go _ b y (neo 1 0) e, fun y hy => Own.move (o5.ed y hy) fun b y e => go _ b y (neo 2 0) e, o5.ea, o5.es, o5.op.move fun b y e => go _ b y (neo 3 0) e, fun i y hy => (o5.ps i y hy).move fun b t z ht hr e => go t b z (fun c => by rw [c] at ht; exact ap.a ht) e, o5.pa, o5.qr.move fun b y e => go _ b y (neo 7 0) e⟩
     have kkA : Keeps [o, o + 1, oo] h hA := (s3.keeps _).trans (kk5.trans fun b t y ht e => go t b y (fun c => ht (by rw [c]; simp)) e)
     refine ADrawn.mk (hA) [10] (Sub.refl _) (by decide +kernel) ?_; conv=>whnf
     refine ALoad.one rfl k1A rfl ?_; conv=>whnf
     refine ALoad.one rfl qA.str rfl ?_; conv=>whnf
     refine ALoad.one rfl k1A rfl ?_; conv=>whnf
     refine ACalls.mono (say_any ap.a ap.b ap.c ap.d ⟨_, qA⟩ x.src { post1 with kind := 6, index := x.si, hint := x.hint } (made0 rfl rfl rfl rfl) hp) ?_; rintro _ hB ⟨rfl, kB, kkB⟩; conv=>whnf
     exact ⟨rfl, kB, kkA.trans (kkB.mono (by simp))⟩
    ·rw [hb] at hb'; cases hb'
  ·rw [Bool.eq_false_iff.2 hh] at hcall
   refine ACalls.mono (hcall) ?_; rintro _ _ ⟨rfl, rfl⟩; conv=>whnf
   refine ⟨two_sub _ _ _, ?_⟩; conv=>whnf
   have hLn : L = lnew x.si x.st := hL.trans (if_neg fun c => hh c.1)
   refine ALoad.one rfl k4 rfl ?_; conv=>whnf
   refine ALoad.one rfl k4 rfl ?_; conv=>whnf
   refine ACalls.mono (New_c h3 (o + 1) (by omega) x.si x.st) ?_
   rintro v h4' (⟨_, lp, rfl, l4', s4'⟩ | ⟨hb', _⟩)
   ·conv=>whnf
    refine AStore.oneN rfl rfl rfl ((s4' _ _ q.str)) rfl (coreCells { c with log := L } { cx with log := lp }) rfl fun h5 t5 q5 a5 e5 => ?_; conv=>whnf
    have k45 := t5.get (tag_ne ap.c) (s4' _ _ k4)
    have k15 := t5.get (tag_ne ap.c) (s4' _ _ k13)
    have kk5 : Keeps [o, o + 1, oo] h3 h5 := (Keeps.refl _ h3).trans ((s4'.keeps _).trans (t5.keep.keeps (by simp)))
    have l5 : LA h5 lp (o + 1) L := by rw [hLn]; exact KeepT.log l4' t5
    have rd5 := (q.rd.move fun _ _ e => s4' _ _ e).keepT t5 (by simp)
    have o5 := (q.out.move fun b t y _ e => s4' _ _ e).keepT ap.a t5
    obtain ⟨⟨t1, t2, t3, ok, tn1, tn2, tn3⟩, _, _, _, _⟩ := g3.keeps kk5
    refine ADrawn.mkO ((one h5 b4)) [] [0, 1, 2, 4, 5, 3, 6, 7, 8, 9, 10, 11] (one_sub _ _) (by decide +kernel) ?_; conv=>whnf
    refine ALoad.agg rfl ((one_at _ _).trans k45) rfl rfl ?_; conv=>whnf
    refine ALoad.one rfl ((one_at _ _).trans k45) rfl ?_; conv=>whnf
    refine ACalls.mono (cloned_any h5 (o, 3) (fun c => ap.c (congrArg Prod.fst c)) (i := x.si) (tm := x.st) (cr := x.sc) (d := x.d) ok.sd hdn) ?_
    rintro v h6 ⟨a6, c6, rfl, ow6, s6⟩
    refine ⟨(one_sub _ _).trans s6, ?_⟩; conv=>whnf
    refine AStore.aggN rfl rfl rfl ((s6 _ _ q5)) rfl (coreCells { c with snap := ⟨x.si, x.st, x.sc, x.data⟩, log := L } { cx with log := lp, sd := ⟨a6, x.d.n, c6⟩ }) rfl fun h7 t7 k7 a7 e7 => ?_; conv=>whnf
    have b4p : b4 ≠ p := ne_of_tag k45 q5 (tag_ne ap.c)
    refine ⟨one_get fun y hy => e7 _ _ b4p (s6 _ _ hy), ?_⟩; conv=>whnf
    refine AStore.oneN rfl rfl rfl (k7) rfl (coreCells { c with snap := ⟨x.si, x.st, x.sc, x.data⟩, log := L, commit := x.si } { cx with log := lp, sd := ⟨a6, x.d.n, c6⟩ }) rfl fun h8 t8 k8 a8 e8 => ?_; conv=>whnf
    refine ⟨one_get fun y hy => e8 _ _ b4p (e7 _ _ b4p (s6 _ _ hy)), ?_⟩; conv=>whnf
    have tt := t7.trans t8
    have k48 := e8 _ _ b4p (e7 _ _ b4p (s6 _ _ k45))
    have k18 := tt.get (tag_ne ap.c) (s6 _ _ k15)
    refine ALoad.agg rfl k48 rfl rfl ?_; conv=>whnf
    have okd : Sl h8 t3 x.d.a x.d.n x.d.c 1 (bytesV x.data) := (ok.sd.sub s6).keepT tt (fun c => tn3 (by rw [c]; simp))
    refine ACalls.mono (cloned_any h8 (oo, 6) (fun c => ap.d (congrArg Prod.fst c)) (i := x.si) (tm := x.st) (cr := x.sc) (d := x.d) okd hdn) ?_
    rintro v h9 ⟨a9, c9, rfl, ow9, s9⟩
    conv=>whnf
    refine AStore.aggN rfl rfl rfl ((s9 _ _ k8)) rfl (coreCells (c.installed ⟨x.si, x.st, x.sc, x.data⟩ L) { cx with log := lp, sd := ⟨a6, x.d.n, c6⟩, ox := { cx.ox with od := ⟨a9, x.d.n, c9⟩ } }) rfl fun hA tA kA aA eA => ?_; conv=>whnf
    have k1A := eA _ _ (ne_of_tag (s9 _ _ k18) (s9 _ _ k8) (tag_ne ap.c)) (s9 _ _ k18)
    have go : ∀ (t : Tag) b y, t ≠ (o, 0) → h5 b = some (t, y) → hA b = some (t, y) := fun t b y ht e => tA _ _ _ ht (s9 _ _ (tt _ _ _ ht (s6 _ _ e)))
    have neo : ∀ r s : Nat, ((oo, r) : Tag) ≠ (o, s) := fun r s c => ap.a (congrArg Prod.fst c).symm
    have qA : CoreX 81 LA hA p o oo (c.installed ⟨x.si, x.st, x.sc, x.data⟩ L) { cx with log := lp, sd := ⟨a6, x.d.n, c6⟩, ox := { cx.ox with od := ⟨a9, x.d.n, c9⟩ } } := by
     refine ⟨kA, ((ow6.keepT tt (by simp)).sub s9).keepT tA (by simp), Moves.move l5 fun b t y ht e => go t b y (fun c => by rw [c] at ht; simp at ht) e, rd5.move fun b y e => go _ b y (by simp) e, ?_⟩
     refine ⟨ow9.keepT tA (neo 6 0), o5.oe.move fun b y e => go _ b y (neo 1 0) e, fun y hy => Own.move (o5.ed y hy) fun b y e => go _ b y (neo 2 0) e, o5.ea, o5.es, o5.op.move fun b y e => go _ b y (neo 3 0) e, fun i y hy => (o5.ps i y hy).move fun b t z ht hr e => go t b z (fun c => by rw [c] at ht; exact ap.a ht) e, o5.pa, o5.qr.move fun b y e => go _ b y (neo 7 0) e⟩
    have kkA : Keeps [o, o + 1, oo] h hA := (s3.keeps _).trans (kk5.trans fun b t y ht e => go t b y (fun c => ht (by rw [c]; simp)) e)
    refine ADrawn.mk (hA) [10] (Sub.refl _) (by decide +kernel) ?_; conv=>whnf
    refine ALoad.one rfl k1A rfl ?_; conv=>whnf
    refine ALoad.one rfl qA.str rfl ?_; conv=>whnf
    refine ALoad.one rfl k1A rfl ?_; conv=>whnf
    refine ACalls.mono (say_any ap.a ap.b ap.c ap.d ⟨_, qA⟩ x.src { post1 with kind := 6, index := x.si, hint := x.hint } (made0 rfl rfl rfl rfl) hp) ?_; rintro _ hB ⟨rfl, kB, kkB⟩; conv=>whnf
    exact ⟨rfl, kB, kkA.trans (kkB.mono (by simp))⟩
   ·rw [hb] at hb'; cases hb'
 ·refine ACmp.no (c1) ?_; conv=>whnf
  rw [CoreM.install_no (p := x.abs) c1]
  refine ADrawn.mk (h3) [10] (Sub.refl _) (by decide +kernel) ?_; conv=>whnf
  refine ALoad.one rfl k13 rfl ?_; conv=>whnf
  refine ALoad.one rfl q.str rfl ?_; conv=>whnf
  refine ALoad.one rfl k13 rfl ?_; conv=>whnf
  refine ACalls.mono (say_any ap.a ap.b ap.c ap.d ⟨_, q⟩ x.src { post1 with kind := 6, index := c.commit, hint := x.hint } (made0 rfl rfl rfl rfl) hp) ?_; rintro _ hB ⟨rfl, kB, kkB⟩; conv=>whnf
  exact ⟨rfl, kB, (s3.keeps _).trans (kkB.mono (by simp))⟩
end Go.Ah
namespace Go.Ah
open Go.Proofs
set_option linter.unusedVariables false
set_option linter.unusedSimpArgs false
theorem fresh_of {L : LG} {l : List Abs} {k : Nat} (h1 : ∀ j e, j < k → l[j]? = some e → decide ((L.term e.2.1).2 = 0 ∧ (L.term e.2.1).1 = e.1) = true) (h2 : k = l.length ∨ ∃ e, l[k]? = some e ∧ decide ((L.term e.2.1).2 = 0 ∧ (L.term e.2.1).1 = e.1) = false) : L.fresh l = l.drop k := by
 induction l generalizing k with
 | nil => simp [LG.fresh]
 | cons e r ih =>
  cases k with
  | zero =>
   rcases h2 with h2 | ⟨e', he, hf⟩
   ·simp at h2
   ·simp at he; subst he
    unfold LG.fresh
    rw [if_neg (by simpa using hf)]; rfl
  | succ k =>
   have h0 := h1 0 e (by omega) rfl
   unfold LG.fresh
   rw [if_pos (by simpa using h0)]
   exact ih (fun j e' hj he => h1 (j + 1) e' (by omega) (by simpa using he)) (h2.imp (by simp) (fun ⟨e', he, hf⟩ => ⟨e', by simpa using he, hf⟩))
def CoreM.appendOk (c : CoreM) (p : PostM) (l : List Abs) : CoreM :=
  let stop := p.index + p.entries.length
  let d := c.appendRest l
  let m := if stop < p.commit then stop else p.commit
  ({ d with commit := if d.commit < m then m else d.commit }).say p.src { post0 with kind := 4, ok := true, index := stop, hint := p.hint }
def CoreM.appendNo (c : CoreM) (p : PostM) (i : Int) : CoreM := c.say p.src { post0 with kind := 4, index := if c.log.last.1 < i - 1 then c.log.last.1 else i - 1, hint := p.hint }
def aList (c : CoreM) (p : PostM) : List Abs := if p.index < c.log.bi then p.entries.drop (c.log.bi - p.index).toNat else p.entries
def aIndex (c : CoreM) (p : PostM) : Int := if p.index < c.log.bi then c.log.bi else p.index
def aTerm (c : CoreM) (p : PostM) : Int := if p.index < c.log.bi then c.log.bt else p.logTerm
theorem CoreM.append_eq (c : CoreM) (p : PostM) : c.append p = if c.has (aIndex c p) (aTerm c p) = false ∨ headLow (aTerm c p) (aList c p) = true then c.appendNo p (aIndex c p) else c.appendOk p (aList c p) := by
 unfold CoreM.append aList aIndex aTerm CoreM.appendNo CoreM.appendOk
 by_cases h : p.index < c.log.bi <;> simp [h]
theorem appendRest_nil {c : CoreM} {l : List Abs} (h : c.log.fresh l = []) : c.appendRest l = c := by unfold CoreM.appendRest; rw [h]
def CoreM.cutAt (c : CoreM) (e : Abs) : CoreM := if e.2.1 ≤ c.log.last.1 then { c with log := (c.log.cut e.2.1).2, out := { c.out with cut := e.2.1 } } else c
theorem appendRest_cons {c : CoreM} {l : List Abs} {e : Abs} {r : List Abs} (h : c.log.fresh l = e :: r) : c.appendRest l = { c.cutAt e with log := ((c.cutAt e).log.append (e :: r)).2, out := { (c.cutAt e).out with entries := (c.cutAt e).out.entries ++ e :: r } } := by
 unfold CoreM.appendRest CoreM.cutAt; rw [h]
end Go.Ah
namespace Go.Ah
open Go.Proofs
set_option linter.unusedVariables false
set_option linter.unusedSimpArgs false
set_option maxRecDepth 20000
def few (h : Heap) (l : List Nat) : Heap := fun c => if c ∈ l then h c else none
theorem few_sub (h : Heap) (l : List Nat) : Sub (few h l) h := by
 intro c x e; unfold few at e; split at e
 ·exact e
 ·cases e
theorem few_get {h h' : Heap} {l : List Nat} (k : ∀ c ∈ l, ∀ x, h c = some x → h' c = some x) : Sub (few h l) h' := by
 intro c x e; unfold few at e; split at e
 ·exact k c (by assumption) _ e
 ·cases e
theorem few_at {h : Heap} {l : List Nat} {c : Nat} (m : c ∈ l) : few h l c = h c := by unfold few; rw [if_pos m]
theorem Ents.from {h : Heap} {t td : Tag} {a : Option Addr} {n c : Nat} {es : List EH} (X : Ents h t td a n c es) {l : Nat} (hl : l ≤ n) : Ents h t td (slBase a l c 4) (n - l) (c - l) (es.drop l) := by
 refine ⟨?_, fun e he => X.good e (List.mem_of_mem_drop he), fun e he => X.small e (List.mem_of_mem_drop he)⟩
 have := X.sl.slice (l := l) (m := n) (x := c) hl (Nat.le_refl _) X.sl.le
 have hx := X.len
 rw [encs_drop] at this
 rw [List.take_of_length_le] at this
 ·exact this
 ·rw [encs_length, List.length_drop]; omega
theorem CoreX.pushE {T : TypeId} {LP : Heap → Nat → Nat → LG → Prop} [Moves LP] {h8 h11 h12 : Heap} {p o oo : Nat} {c : CoreM} {cx : CX} (ap : Apart o oo) (q : CoreX T LP h8 p o oo c cx) {en : EH} {a11 : Option Addr} {c11 : Nat}
  (t11 : KeepT (oo, 1) h8 h11) (ow : Own h11 (oo, 1) 59 a11 (cx.ox.oe.n + 1) c11 4 (encs cx.ox.es ++ en.cells)) (m : en.Mine h8 (oo, 2)) (hn : en.n ≤ 1200) (t12 : KeepT (o, 0) h11 h12)
  (k12 : h12 p = some (row (o, 0) (coreCells { c with out := { c.out with entries := c.out.entries ++ [en.abs] } } { cx with ox := { cx.ox with oe := ⟨a11, cx.ox.oe.n + 1, c11⟩, es := cx.ox.es ++ [en] } }) T)) :
  CoreX T LP h12 p o oo { c with out := { c.out with entries := c.out.entries ++ [en.abs] } } { cx with ox := { cx.ox with oe := ⟨a11, cx.ox.oe.n + 1, c11⟩, es := cx.ox.es ++ [en] } } := by
 have ne1 : ∀ r : Nat, ((o, r) : Tag) ≠ (oo, 1) := fun r c => ap.a (congrArg Prod.fst c)
 have neo : ∀ r s : Nat, ((oo, r) : Tag) ≠ (o, s) := fun r s c => ap.a (congrArg Prod.fst c).symm
 refine ⟨k12, (q.sd.keepT t11 (ne1 3)).keepT t12 (by simp), KeepT.log (Moves.move q.log fun _ t _ ht e => t11 _ _ _ (fun c => by rw [c] at ht; exact ap.b ht.symm) e) t12, (q.rd.keepT t11 (ne1 4)).keepT t12 (by simp), ?_⟩
 have go : ∀ r : Nat, r ≠ 1 → ∀ b y, h8 b = some ((oo, r), y) → h12 b = some ((oo, r), y) := fun r hr b y e => t12.get (neo r 0) (t11.get (fun c => hr (congrArg Prod.snd c)) e)
 have o8 := q.out
 refine ⟨o8.od.move fun _ _ e => go 6 (by decide) _ _ e, ?_, ?_, ?_, ?_, o8.op.move fun _ _ e => go 3 (by decide) _ _ e, fun i y hy => (o8.ps i y hy).move fun b t z ht hr e => ?_, o8.pa, o8.qr.move fun _ _ e => go 7 (by decide) _ _ e⟩
 ·have := ow.keepT t12 (neo 1 0)
  rw [show encs (cx.ox.es ++ [en]) = encs cx.ox.es ++ en.cells by simp [encs]]
  exact this
 ·intro y hy
  rcases List.mem_append.1 hy with hy | hy
  ·exact Own.move (o8.ed y hy) fun _ _ e => go 2 (by decide) _ _ e
  ·rw [List.mem_singleton.1 hy]
   exact Own.move m fun _ _ e => go 2 (by decide) _ _ e
 ·simp only [List.map_append, List.map_cons, List.map_nil, o8.ea]
 ·intro y hy
  rcases List.mem_append.1 hy with hy | hy
  ·exact o8.es y hy
  ·rw [List.mem_singleton.1 hy]; exact hn
 ·obtain ⟨t1, t2⟩ := t
  simp only at ht hr; subst ht
  exact go t2 (by omega) b z e
theorem CoreX.set' {T : TypeId} {LP : Heap → Nat → Nat → LG → Prop} [Moves LP] {h h' : Heap} {p o oo : Nat} {c c' : CoreM} {x : CX} (k : CoreX T LP h p o oo c x) (ho : o ≠ oo) (t : KeepT (o, 0) h h') (e : h' p = some (row (o, 0) (coreCells c' x) T))
  (h2 : c'.snap.data = c.snap.data := by rfl) (h4 : c'.log = c.log := by rfl) (h6 : c'.reads = c.reads := by rfl)
  (h8 : c'.out.snap.data = c.out.snap.data := by rfl) (h9 : c'.out.entries = c.out.entries := by rfl) (h10 : c'.out.posts = c.out.posts := by rfl) (h11 : c'.out.reads = c.out.reads := by rfl) :
  CoreX T LP h' p o oo c' x := by
 have q := k.out.keepT ho t
 refine ⟨e, by rw [h2]; exact k.sd.keepT t (by simp), by rw [h4]; exact KeepT.log k.log t, by rw [h6]; exact k.rd.keepT t (by simp), ?_⟩
 exact ⟨by rw [h8]; exact q.od, q.oe, q.ed, by rw [h9]; exact q.ea, q.es, q.op, q.ps, by rw [h10]; exact q.pa, by rw [h11]; exact q.qr⟩
end Go.Ah
