/- Texts that the law leans on, one behind the other. -/
import Derived.Test.YtdmjkpjedidipaaGreatKCk6
namespace Go.Ah
open Go.Proofs
set_option linter.unusedVariables false
set_option linter.unusedSimpArgs false
set_option maxRecDepth 20000
structure Checked (x : PH) : Prop where
  k1 : 1 ≤ x.kind
  k6 : x.kind ≤ 6
  s1 : 1 ≤ x.src
  s2 : x.src ≤ 5
  d1 : 1 ≤ x.dst
  d2 : x.dst ≤ 5
  tm : 0 ≤ x.term ∧ x.term ≤ 9007199254740991
  ix : 0 ≤ x.index ∧ x.index ≤ 9007199254740991
  cm : 0 ≤ x.commit ∧ x.commit ≤ 9007199254740991
  hi : 0 ≤ x.hint ∧ x.hint ≤ 9007199254740991
  el : x.es.length ≤ 8
  en : ∀ e ∈ x.es, e.data.length ≤ 1200
  sn : x.kind = 5 → okBase x.si x.st = true ∧ x.data.length ≤ 8192
theorem entriesMay_small {top : Int} : ∀ (l : List Abs) (i t : Int), entriesMay top i t l = true → ∀ e ∈ l, e.2.2.2.length ≤ 1200
 | [], _, _, _, e, he => by cases he
 | y :: r, i, t, h, e, he => by
  unfold entriesMay at h
  simp only [Bool.and_eq_true, decide_eq_true_eq] at h
  rcases List.mem_cons.1 he with rfl | he
  ·exact h.1.2
  ·exact entriesMay_small r _ _ h.2 e he
theorem check_facts {x : PH} (h : x.abs.check = true) (hst : x.kind = 5 → 1 ≤ x.st) : Checked x := by
 rw [check_eq] at h
 simp only [Bool.and_eq_true, decide_eq_true_eq, Bool.or_eq_true, numB, List.length_map] at h
 obtain ⟨⟨⟨⟨⟨⟨a1, a2⟩, b1, b2, b3, b4, b5⟩, ⟨⟨⟨c1, c2⟩, c3⟩, c4⟩, c5, c6⟩, d⟩, e1, e2⟩, f⟩ := h
 refine ⟨a1, a2, b1, b2, b3, b4, c1, c2, c3, c4, e1, fun e he => ?_, fun h5 => ?_⟩
 ·exact entriesMay_small _ _ _ e2 e.abs (List.mem_map_of_mem he)
 ·rcases f with f | f
  ·exact absurd h5 f
  ·rw [snapMay_eq] at f
   simp only [Bool.and_eq_true, decide_eq_true_eq] at f
   refine ⟨?_, f.2⟩
   have h1 : isNum x.abs.snap.index = true := isNum_iff.2 (by show 1 ≤ x.si ∧ x.si ≤ 9007199254740991; omega)
   have h2 : isNum x.abs.snap.term = true := isNum_iff.2 (by have := hst h5; show 1 ≤ x.st ∧ x.st ≤ 9007199254740991; omega)
   unfold okBase
   rw [show isNum x.si = true from h1, show isNum x.st = true from h2]; simp
theorem takes_facts {c : CoreM} {x : PH} (h : c.takes x.abs = true) : Checked x := by
 rw [takes_eq] at h
 simp only [Bool.and_eq_true, Bool.not_eq_true', Bool.or_eq_false_iff, Bool.and_eq_false_iff, decide_eq_false_iff_not] at h
 exact check_facts h.1.1.1.1 fun h5 => h.1.2.2.elim (fun c => absurd h5 c) (fun c => by omega)
theorem given_len {h : Heap} {o oo : Nat} {x : PH} (g : Given h o oo x) (e : EH) (he : e ∈ x.es) : e.data.length = e.n := by
 obtain ⟨⟨t1, t2, t3, ok, _⟩, _⟩ := g
 have := (ok.es.good e he).len
 simpa [bytesV] using this
structure TOk (c : CoreM) : Prop where
  lk : LogOk c
  nk : NextOk c
  mt : MtchOk c
  s1 : 1 ≤ c.self
  s2 : c.self ≤ 5
  v1 : 0 ≤ c.votes
  v2 : c.votes < 64
  es : c.log.es.length ≤ 1000000000
  rd : c.reads.length ≤ 100000000
  o1 : c.out.reads = []
  o2 : c.out.entries = []
  o3 : c.out.posts = []
theorem COk.t {c : CoreM} (k : COk c) : TOk c := ⟨k.lk, k.nk, k.mt, k.s1, k.s2, k.v1, k.v2, k.es, k.rd, by rw [k.out]; rfl, by rw [k.out]; rfl, by rw [k.out]; rfl⟩
theorem five0_get (n : Int) : five0.get n = 0 := by simp [five0, Five.get]
theorem TOk.learn {c : CoreM} (k : TOk c) (t : Int) : TOk (c.learn t) :=
 ⟨k.lk.same rfl rfl, fun n _ _ => by show 0 ≤ five0.get n ∧ five0.get n ≤ _; rw [five0_get]; omega, fun n _ _ => by show 0 ≤ five0.get n ∧ five0.get n ≤ _; rw [five0_get]; omega, k.s1, k.s2, by show (0 : Int) ≤ 0; omega, by show (0 : Int) < 64; omega, k.es, by show ([] : List Int).length ≤ _; simp, k.o1, k.o2, k.o3⟩
def CoreM.heardOf (c : CoreM) (p : PostM) (draw : Int) : CoreM := { c.follow with head := p.src, quiet := 0, wait := waits draw }
def CoreM.takeIn (c : CoreM) (p : PostM) (draw : Int) : CoreM := if p.term < c.term then c.refuse p else if c.term < p.term then (c.learn p.term).take1 p draw else c.take1 p draw
theorem CoreM.take_eq (c : CoreM) (p : PostM) (draw : Int) : c.take p draw = if p.kind = 1 ∧ c.led = true then c else c.takeIn p draw := rfl
set_option maxHeartbeats 8000000 in
theorem take_any {h : Heap} {p o oo : Nat} {c : CoreM} (ap : Apart o oo) (k : PCore h p o oo c) (ok : TOk c) (x : PH) (g : Given h o oo x) (ch : Checked x) (draw : Int) (hd0 : 0 ≤ draw) :
  ACalls PR 63 #[Ptr p, .agg x.cells.toArray, I draw] h (fun v h' => v = .tuple #[] ∧ PCore h' p o oo (c.takeIn x.abs draw) ∧ Keeps [o, o + 1, oo] h h') := by
 obtain ⟨cx, k⟩ := k
 have hxd : x.data.length = x.d.n := g.ok.elim fun _ ⟨_, _, ok, _⟩ => ok.len.2
 refine acalls_of mix Tryz.func63 rfl rfl Tryz.ntmps63 Tryz.results63 rfl ?_; conv=>whnf
 refine ABox.mkN (0, 1) (x.cells) rfl fun b4 h1 n1 s1 k4 => ?_; conv=>whnf
 have q := k.sub s1
 have g1 := g.sub s1
 refine ADrawn.mkO (h1) [] [0, 1, 2, 3, 4, 5, 6] (Sub.refl _) (by decide +kernel) ?_; conv=>whnf
 refine ALoad.one rfl k4 rfl ?_; conv=>whnf
 refine ALoad.one rfl q.str rfl ?_; conv=>whnf
 refine ACalls.mono (compare_any h1 x.term c.term) ?_; rintro _ _ ⟨rfl, rfl⟩; conv=>whnf
 refine ⟨Sub.refl _, ?_⟩; conv=>whnf
 have K1 : Keeps [o, o + 1, oo] h h1 := s1.keeps _
 by_cases c1 : x.term < c.term
 ·rw [show cmpI x.term c.term = -1 from if_pos c1]
  conv=>whnf
  refine ACmp.no ((by decide)) ?_; conv=>whnf
  refine ACmp.yes (rfl) ?_; conv=>whnf
  refine ALoad.agg rfl k4 rfl rfl ?_; conv=>whnf
  refine ACalls.mono (refuse_any ap ⟨_, q⟩ x (by rw [ok.o3]; simp)) ?_; rintro _ h2 ⟨rfl, k2, kk2⟩; conv=>whnf
  refine ⟨rfl, ?_, K1.trans (kk2.mono (by simp))⟩
  rw [show c.takeIn x.abs draw = c.refuse x.abs from if_pos c1]; exact k2
 ·by_cases c2 : c.term < x.term
  ·rw [show cmpI x.term c.term = 1 from (if_neg c1).trans (if_pos c2)]
   conv=>whnf
   refine ACmp.yes (rfl) ?_; conv=>whnf
   refine ALoad.one rfl k4 rfl ?_; conv=>whnf
   refine ACalls.mono (learn_any ap.a ⟨_, q⟩ x.term) ?_; rintro _ h2 ⟨rfl, ⟨cx2, k2⟩, kk2⟩; conv=>whnf
   have hres : c.takeIn x.abs draw = (c.learn x.term).take1 x.abs draw := (if_neg c1).trans (if_pos c2)
   have k42 := kk2.get (Ne.symm ap.c) k4
   have KK2 := K1.trans (kk2.keeps (by simp) : Keeps [o, o + 1, oo] h1 h2)
   have ok2 := ok.learn x.term
   refine ALoad.one rfl k42 rfl ?_; conv=>whnf
   by_cases e1 : x.kind = 1
   ·refine ACmp.yes (e1) ?_; conv=>whnf
    refine ALoad.agg rfl k42 rfl rfl ?_; conv=>whnf
    refine ACalls.mono (asked_any ap ⟨_, k2⟩ ok2.lk.lo x draw hd0 (by rw [ok2.o3]; simp)) ?_; rintro _ hz ⟨rfl, kz, kkz⟩; conv=>whnf
    refine ⟨rfl, ?_, KK2.trans (kkz.mono (by simp))⟩
    rw [hres, show ((c.learn x.term)).take1 x.abs draw = ((c.learn x.term)).asked x.abs draw from if_pos e1]; exact kz
   refine ACmp.no (e1) ?_; conv=>whnf
   by_cases e2 : x.kind = 2
   ·refine ACmp.yes (e2) ?_; conv=>whnf
    refine ALoad.agg rfl k42 rfl rfl ?_; conv=>whnf
    refine ACalls.mono (voted_any ap ⟨_, k2⟩ ok2.lk ok2.s1 ok2.s2 ok2.v1 ok2.v2 x ch.s1 ch.s2 (by have := ok2.es; omega) (by rw [ok2.o2]; simp) (by rw [ok2.o3]; simp)) ?_; rintro _ hz ⟨rfl, kz, kkz⟩; conv=>whnf
    refine ⟨rfl, ?_, KK2.trans kkz⟩
    rw [hres, show ((c.learn x.term)).take1 x.abs draw = ((c.learn x.term)).voted x.abs from (if_neg e1).trans (if_pos e2)]; exact kz
   refine ACmp.no (e2) ?_; conv=>whnf
   by_cases e3 : x.kind = 3
   ·refine ACmp.yes (e3) ?_; conv=>whnf
    have E35 : x.abs.kind = 3 ∨ x.abs.kind = 5 := .inl e3
    refine ALoad.one rfl (k2).str rfl ?_; conv=>whnf
    by_cases s2 : ((c.learn x.term)).state = 2
    ·refine ACmp.yes (s2) ?_; conv=>whnf
     refine ⟨rfl, ?_, KK2⟩
     rw [hres, show ((c.learn x.term)).take1 x.abs draw = (c.learn x.term) from (if_neg e1).trans ((if_neg e2).trans ((if_pos E35).trans (if_pos s2)))]; exact ⟨_, k2⟩
    refine ACmp.no (s2) ?_; conv=>whnf
    refine ACalls.mono (follow_any ap.a ⟨_, k2⟩) ?_; rintro _ hf ⟨rfl, ⟨cxf, qf⟩, kkf⟩; conv=>whnf
    have k4f := kkf.get (Ne.symm ap.c) k42
    refine ADrawn.mkO ((few hf [b4])) [9] [0, 1, 2, 3, 4, 5, 6, 7, 8, 9, 10, 11, 12, 13, 14, 15] (few_sub _ _) (by decide +kernel) ?_; conv=>whnf
    refine ALoad.one rfl ((few_at (by simp)).trans k4f) rfl ?_; conv=>whnf
    refine ACalls.mono (waits_any hf draw hd0) ?_; rintro _ _ ⟨rfl, rfl⟩; conv=>whnf
    refine ⟨few_sub _ _, ?_⟩; conv=>whnf
    refine AStore.oneN rfl rfl rfl (qf.str) rfl (coreCells { ((c.learn x.term)).follow with head := x.src } cxf) rfl fun hg tg kg ag eg => ?_; conv=>whnf
    refine AStore.oneN rfl rfl rfl (kg) rfl (coreCells { ((c.learn x.term)).follow with head := x.src, quiet := 0 } cxf) rfl fun hh th kh ah eh => ?_; conv=>whnf
    refine ⟨(fun b y e => by cases e), ?_⟩; conv=>whnf
    refine AStore.oneN rfl rfl rfl (kh) rfl (coreCells (((c.learn x.term)).heardOf x.abs draw) cxf) rfl fun hi ti ki ai ei => ?_; conv=>whnf
    refine ⟨(fun b y e => by cases e), ?_⟩; conv=>whnf
    have tt := tg.trans (th.trans ti)
    have qi := qf.set' (c' := ((c.learn x.term)).heardOf x.abs draw) ap.a tt ki
    have k4i := tt.get (tag_ne ap.c) k4f
    have KI := KK2.trans ((kkf.trans tt.keep).keeps (by simp))
    have gi := g.keeps KI
    have lki : LogOk (((c.learn x.term)).heardOf x.abs draw) := ok2.lk.same rfl rfl
    refine ALoad.one rfl k4i rfl ?_; conv=>whnf
    refine ACmp.no ((by rw [e3]; decide)) ?_; conv=>whnf
    refine ALoad.agg rfl k4i rfl rfl ?_; conv=>whnf
    refine ACalls.mono (append_any ap ⟨_, qi⟩ lki x gi ch.ix.1 ch.ix.2 ch.el (fun e he => by have := ch.en e he; have hl := given_len g e he; omega) (by have := ok2.es; show (((c.learn x.term)).log.es.length + 8) * 48 ≤ _; omega) (by show ((c.learn x.term)).out.entries.length ≤ _; rw [ok2.o2]; simp) (by show ((c.learn x.term)).out.posts.length ≤ _; rw [ok2.o3]; simp)) ?_; rintro _ hz ⟨rfl, kz, kkz⟩; conv=>whnf
    refine ⟨rfl, ?_, KI.trans kkz⟩
    rw [hres, show ((c.learn x.term)).take1 x.abs draw = (((c.learn x.term)).heardOf x.abs draw).append x.abs from (if_neg e1).trans ((if_neg e2).trans ((if_pos E35).trans ((if_neg s2).trans (if_neg (by show ¬ x.kind = 5; rw [e3]; decide)))))]; exact kz
   refine ACmp.no (e3) ?_; conv=>whnf
   by_cases e5 : x.kind = 5
   ·refine ACmp.yes (e5) ?_; conv=>whnf
    have E35 : x.abs.kind = 3 ∨ x.abs.kind = 5 := .inr e5
    refine ALoad.one rfl (k2).str rfl ?_; conv=>whnf
    by_cases s2 : ((c.learn x.term)).state = 2
    ·refine ACmp.yes (s2) ?_; conv=>whnf
     refine ⟨rfl, ?_, KK2⟩
     rw [hres, show ((c.learn x.term)).take1 x.abs draw = (c.learn x.term) from (if_neg e1).trans ((if_neg e2).trans ((if_pos E35).trans (if_pos s2)))]; exact ⟨_, k2⟩
    refine ACmp.no (s2) ?_; conv=>whnf
    refine ACalls.mono (follow_any ap.a ⟨_, k2⟩) ?_; rintro _ hf ⟨rfl, ⟨cxf, qf⟩, kkf⟩; conv=>whnf
    have k4f := kkf.get (Ne.symm ap.c) k42
    refine ADrawn.mkO ((few hf [b4])) [9] [0, 1, 2, 3, 4, 5, 6, 7, 8, 9, 10, 11, 12, 13, 14, 15] (few_sub _ _) (by decide +kernel) ?_; conv=>whnf
    refine ALoad.one rfl ((few_at (by simp)).trans k4f) rfl ?_; conv=>whnf
    refine ACalls.mono (waits_any hf draw hd0) ?_; rintro _ _ ⟨rfl, rfl⟩; conv=>whnf
    refine ⟨few_sub _ _, ?_⟩; conv=>whnf
    refine AStore.oneN rfl rfl rfl (qf.str) rfl (coreCells { ((c.learn x.term)).follow with head := x.src } cxf) rfl fun hg tg kg ag eg => ?_; conv=>whnf
    refine AStore.oneN rfl rfl rfl (kg) rfl (coreCells { ((c.learn x.term)).follow with head := x.src, quiet := 0 } cxf) rfl fun hh th kh ah eh => ?_; conv=>whnf
    refine ⟨(fun b y e => by cases e), ?_⟩; conv=>whnf
    refine AStore.oneN rfl rfl rfl (kh) rfl (coreCells (((c.learn x.term)).heardOf x.abs draw) cxf) rfl fun hi ti ki ai ei => ?_; conv=>whnf
    refine ⟨(fun b y e => by cases e), ?_⟩; conv=>whnf
    have tt := tg.trans (th.trans ti)
    have qi := qf.set' (c' := ((c.learn x.term)).heardOf x.abs draw) ap.a tt ki
    have k4i := tt.get (tag_ne ap.c) k4f
    have KI := KK2.trans ((kkf.trans tt.keep).keeps (by simp))
    have gi := g.keeps KI
    have lki : LogOk (((c.learn x.term)).heardOf x.abs draw) := ok2.lk.same rfl rfl
    refine ALoad.one rfl k4i rfl ?_; conv=>whnf
    refine ACmp.yes (e5) ?_; conv=>whnf
    refine ALoad.agg rfl k4i rfl rfl ?_; conv=>whnf
    obtain ⟨hob, hdl⟩ := ch.sn e5
    refine ACalls.mono (install_any ap ⟨_, qi⟩ lki.lo x gi hob (by omega) (by have := ok2.es; show ((c.learn x.term)).log.es.length * 48 ≤ _; omega) (by show ((c.learn x.term)).out.posts.length ≤ _; rw [ok2.o3]; simp)) ?_; rintro _ hz ⟨rfl, kz, kkz⟩; conv=>whnf
    refine ⟨rfl, ?_, KI.trans kkz⟩
    rw [hres, show ((c.learn x.term)).take1 x.abs draw = (((c.learn x.term)).heardOf x.abs draw).install x.abs from (if_neg e1).trans ((if_neg e2).trans ((if_pos E35).trans ((if_neg s2).trans (if_pos e5))))]; exact kz
   refine ACmp.no (e5) ?_; conv=>whnf
   have E35 : ¬(x.abs.kind = 3 ∨ x.abs.kind = 5) := fun c => c.elim e3 e5
   refine ALoad.one rfl (k2).str rfl ?_; conv=>whnf
   by_cases s2 : ((c.learn x.term)).state = 2
   ·refine ACmp.yes (s2) ?_; conv=>whnf
    refine ALoad.agg rfl k42 rfl rfl ?_; conv=>whnf
    refine ACalls.mono (told_any ap ⟨_, k2⟩ ok2.lk ok2.nk ok2.mt ok2.s1 ok2.s2 x ch.s1 ch.s2 ch.ix.1 ch.ix.2 ok2.o1 ok2.rd (by rw [ok2.o3]; simp)) ?_; rintro _ hz ⟨rfl, kz, kkz⟩; conv=>whnf
    refine ⟨rfl, ?_, KK2.trans kkz⟩
    rw [hres, show ((c.learn x.term)).take1 x.abs draw = ((c.learn x.term)).told x.abs from (if_neg e1).trans ((if_neg e2).trans ((if_neg E35).trans (if_pos s2)))]; exact kz
   ·refine ACmp.no (s2) ?_; conv=>whnf
    refine ⟨rfl, ?_, KK2⟩
    rw [hres, show ((c.learn x.term)).take1 x.abs draw = (c.learn x.term) from (if_neg e1).trans ((if_neg e2).trans ((if_neg E35).trans (if_neg s2)))]; exact ⟨_, k2⟩
  ·rw [show cmpI x.term c.term = 0 from (if_neg c1).trans (if_neg c2)]
   conv=>whnf
   refine ACmp.no ((by decide)) ?_; conv=>whnf
   refine ACmp.no ((by decide)) ?_; conv=>whnf
   have hres : c.takeIn x.abs draw = c.take1 x.abs draw := (if_neg c1).trans (if_neg c2)
   refine ALoad.one rfl k4 rfl ?_; conv=>whnf
   by_cases e1 : x.kind = 1
   ·refine ACmp.yes (e1) ?_; conv=>whnf
    refine ALoad.agg rfl k4 rfl rfl ?_; conv=>whnf
    refine ACalls.mono (asked_any ap ⟨_, q⟩ ok.lk.lo x draw hd0 (by rw [ok.o3]; simp)) ?_; rintro _ hz ⟨rfl, kz, kkz⟩; conv=>whnf
    refine ⟨rfl, ?_, K1.trans (kkz.mono (by simp))⟩
    rw [hres, show (c).take1 x.abs draw = (c).asked x.abs draw from if_pos e1]; exact kz
   refine ACmp.no (e1) ?_; conv=>whnf
   by_cases e2 : x.kind = 2
   ·refine ACmp.yes (e2) ?_; conv=>whnf
    refine ALoad.agg rfl k4 rfl rfl ?_; conv=>whnf
    refine ACalls.mono (voted_any ap ⟨_, q⟩ ok.lk ok.s1 ok.s2 ok.v1 ok.v2 x ch.s1 ch.s2 (by have := ok.es; omega) (by rw [ok.o2]; simp) (by rw [ok.o3]; simp)) ?_; rintro _ hz ⟨rfl, kz, kkz⟩; conv=>whnf
    refine ⟨rfl, ?_, K1.trans kkz⟩
    rw [hres, show (c).take1 x.abs draw = (c).voted x.abs from (if_neg e1).trans (if_pos e2)]; exact kz
   refine ACmp.no (e2) ?_; conv=>whnf
   by_cases e3 : x.kind = 3
   ·refine ACmp.yes (e3) ?_; conv=>whnf
    have E35 : x.abs.kind = 3 ∨ x.abs.kind = 5 := .inl e3
    refine ALoad.one rfl (q).str rfl ?_; conv=>whnf
    by_cases s2 : (c).state = 2
    ·refine ACmp.yes (s2) ?_; conv=>whnf
     refine ⟨rfl, ?_, K1⟩
     rw [hres, show (c).take1 x.abs draw = c from (if_neg e1).trans ((if_neg e2).trans ((if_pos E35).trans (if_pos s2)))]; exact ⟨_, q⟩
    refine ACmp.no (s2) ?_; conv=>whnf
    refine ACalls.mono (follow_any ap.a ⟨_, q⟩) ?_; rintro _ hf ⟨rfl, ⟨cxf, qf⟩, kkf⟩; conv=>whnf
    have k4f := kkf.get (Ne.symm ap.c) k4
    refine ADrawn.mkO ((few hf [b4])) [9] [0, 1, 2, 3, 4, 5, 6, 7, 8, 9, 10, 11, 12, 13, 14, 15] (few_sub _ _) (by decide +kernel) ?_; conv=>whnf
    refine ALoad.one rfl ((few_at (by simp)).trans k4f) rfl ?_; conv=>whnf
    refine ACalls.mono (waits_any hf draw hd0) ?_; rintro _ _ ⟨rfl, rfl⟩; conv=>whnf
    refine ⟨few_sub _ _, ?_⟩; conv=>whnf
    refine AStore.oneN rfl rfl rfl (qf.str) rfl (coreCells { (c).follow with head := x.src } cxf) rfl fun hg tg kg ag eg => ?_; conv=>whnf
    refine AStore.oneN rfl rfl rfl (kg) rfl (coreCells { (c).follow with head := x.src, quiet := 0 } cxf) rfl fun hh th kh ah eh => ?_; conv=>whnf
    refine ⟨(fun b y e => by cases e), ?_⟩; conv=>whnf
    refine AStore.oneN rfl rfl rfl (kh) rfl (coreCells ((c).heardOf x.abs draw) cxf) rfl fun hi ti ki ai ei => ?_; conv=>whnf
    refine ⟨(fun b y e => by cases e), ?_⟩; conv=>whnf
    have tt := tg.trans (th.trans ti)
    have qi := qf.set' (c' := (c).heardOf x.abs draw) ap.a tt ki
    have k4i := tt.get (tag_ne ap.c) k4f
    have KI := K1.trans ((kkf.trans tt.keep).keeps (by simp))
    have gi := g.keeps KI
    have lki : LogOk ((c).heardOf x.abs draw) := ok.lk.same rfl rfl
    refine ALoad.one rfl k4i rfl ?_; conv=>whnf
    refine ACmp.no ((by rw [e3]; decide)) ?_; conv=>whnf
    refine ALoad.agg rfl k4i rfl rfl ?_; conv=>whnf
    refine ACalls.mono (append_any ap ⟨_, qi⟩ lki x gi ch.ix.1 ch.ix.2 ch.el (fun e he => by have := ch.en e he; have hl := given_len g e he; omega) (by have := ok.es; show ((c).log.es.length + 8) * 48 ≤ _; omega) (by show (c).out.entries.length ≤ _; rw [ok.o2]; simp) (by show (c).out.posts.length ≤ _; rw [ok.o3]; simp)) ?_; rintro _ hz ⟨rfl, kz, kkz⟩; conv=>whnf
    refine ⟨rfl, ?_, KI.trans kkz⟩
    rw [hres, show (c).take1 x.abs draw = ((c).heardOf x.abs draw).append x.abs from (if_neg e1).trans ((if_neg e2).trans ((if_pos E35).trans ((if_neg s2).trans (if_neg (by show ¬ x.kind = 5; rw [e3]; decide)))))]; exact kz
   refine ACmp.no (e3) ?_; conv=>whnf
   by_cases e5 : x.kind = 5
   ·refine ACmp.yes (e5) ?_; conv=>whnf
    have E35 : x.abs.kind = 3 ∨ x.abs.kind = 5 := .inr e5
    refine ALoad.one rfl (q).str rfl ?_; conv=>whnf
    by_cases s2 : (c).state = 2
    ·refine ACmp.yes (s2) ?_; conv=>whnf
     refine ⟨rfl, ?_, K1⟩
     rw [hres, show (c).take1 x.abs draw = c from (if_neg e1).trans ((if_neg e2).trans ((if_pos E35).trans (if_pos s2)))]; exact ⟨_, q⟩
    refine ACmp.no (s2) ?_; conv=>whnf
    refine ACalls.mono (follow_any ap.a ⟨_, q⟩) ?_; rintro _ hf ⟨rfl, ⟨cxf, qf⟩, kkf⟩; conv=>whnf
    have k4f := kkf.get (Ne.symm ap.c) k4
    refine ADrawn.mkO ((few hf [b4])) [9] [0, 1, 2, 3, 4, 5, 6, 7, 8, 9, 10, 11, 12, 13, 14, 15] (few_sub _ _) (by decide +kernel) ?_; conv=>whnf
    refine ALoad.one rfl ((few_at (by simp)).trans k4f) rfl ?_; conv=>whnf
    refine ACalls.mono (waits_any hf draw hd0) ?_; rintro _ _ ⟨rfl, rfl⟩; conv=>whnf
    refine ⟨few_sub _ _, ?_⟩; conv=>whnf
    refine AStore.oneN rfl rfl rfl (qf.str) rfl (coreCells { (c).follow with head := x.src } cxf) rfl fun hg tg kg ag eg => ?_; conv=>whnf
    refine AStore.oneN rfl rfl rfl (kg) rfl (coreCells { (c).follow with head := x.src, quiet := 0 } cxf) rfl fun hh th kh ah eh => ?_; conv=>whnf
    refine ⟨(fun b y e => by cases e), ?_⟩; conv=>whnf
    refine AStore.oneN rfl rfl rfl (kh) rfl (coreCells ((c).heardOf x.abs draw) cxf) rfl fun hi ti ki ai ei => ?_; conv=>whnf
    refine ⟨(fun b y e => by cases e), ?_⟩; conv=>whnf
    have tt := tg.trans (th.trans ti)
    have qi := qf.set' (c' := (c).heardOf x.abs draw) ap.a tt ki
    have k4i := tt.get (tag_ne ap.c) k4f
    have KI := K1.trans ((kkf.trans tt.keep).keeps (by simp))
    have gi := g.keeps KI
    have lki : LogOk ((c).heardOf x.abs draw) := ok.lk.same rfl rfl
    refine ALoad.one rfl k4i rfl ?_; conv=>whnf
    refine ACmp.yes (e5) ?_; conv=>whnf
    refine ALoad.agg rfl k4i rfl rfl ?_; conv=>whnf
    obtain ⟨hob, hdl⟩ := ch.sn e5
    refine ACalls.mono (install_any ap ⟨_, qi⟩ lki.lo x gi hob (by omega) (by have := ok.es; show (c).log.es.length * 48 ≤ _; omega) (by show (c).out.posts.length ≤ _; rw [ok.o3]; simp)) ?_; rintro _ hz ⟨rfl, kz, kkz⟩; conv=>whnf
    refine ⟨rfl, ?_, KI.trans kkz⟩
    rw [hres, show (c).take1 x.abs draw = ((c).heardOf x.abs draw).install x.abs from (if_neg e1).trans ((if_neg e2).trans ((if_pos E35).trans ((if_neg s2).trans (if_pos e5))))]; exact kz
   refine ACmp.no (e5) ?_; conv=>whnf
   have E35 : ¬(x.abs.kind = 3 ∨ x.abs.kind = 5) := fun c => c.elim e3 e5
   refine ALoad.one rfl (q).str rfl ?_; conv=>whnf
   by_cases s2 : (c).state = 2
   ·refine ACmp.yes (s2) ?_; conv=>whnf
    refine ALoad.agg rfl k4 rfl rfl ?_; conv=>whnf
    refine ACalls.mono (told_any ap ⟨_, q⟩ ok.lk ok.nk ok.mt ok.s1 ok.s2 x ch.s1 ch.s2 ch.ix.1 ch.ix.2 ok.o1 ok.rd (by rw [ok.o3]; simp)) ?_; rintro _ hz ⟨rfl, kz, kkz⟩; conv=>whnf
    refine ⟨rfl, ?_, K1.trans kkz⟩
    rw [hres, show (c).take1 x.abs draw = (c).told x.abs from (if_neg e1).trans ((if_neg e2).trans ((if_neg E35).trans (if_pos s2)))]; exact kz
   ·refine ACmp.no (s2) ?_; conv=>whnf
    refine ⟨rfl, ?_, K1⟩
    rw [hres, show (c).take1 x.abs draw = c from (if_neg e1).trans ((if_neg e2).trans ((if_neg E35).trans (if_neg s2)))]; exact ⟨_, q⟩
set_option maxHeartbeats 4000000 in
theorem Take_any {h : Heap} {p o oo : Nat} {c : CoreM} (ap : Apart o oo) (k : PCore h p o oo c) (ok : COk c) (x : PH) (g : Given h o oo x) (draw : Int) :
  ACalls PR 25 #[Ptr p, .agg x.cells.toArray, I draw] h (fun v h' => ((c.takes x.abs = false ∨ draw < 0) ∧ v = .tuple #[.agg (outCells out0 ox0).toArray, I 2] ∧ Sub h h') ∨ (c.takes x.abs = true ∧ 0 ≤ draw ∧ ∃ u, v = .tuple #[u, I 0] ∧ Told p o oo (c.take x.abs draw) h u h')) := by
 obtain ⟨cx, k0⟩ := k
 refine acalls_of mix Tryz.func25 rfl rfl Tryz.ntmps25 Tryz.results25 rfl ?_; conv=>whnf
 refine ABox.mkN (0, 1) (x.cells) rfl fun b4 h1 n1 s1 k1 => ?_; conv=>whnf
 refine AAlloc.mkN (0, 1) (outCells out0 ox0) rfl fun b6 h2 n2 s2 k2 => ?_; conv=>whnf
 have s12 := s1.trans s2
 have k12 := s2 _ _ k1
 have k := k0.sub s12
 have g2 := g.sub s12
 have n26 : h b6 = none := by
  cases e : h b6 with
  | none => rfl
  | some y => rw [s1 _ _ e] at n2; cases n2
 refine ACalls.mono (none_core k) ?_; rintro _ _ ⟨rfl, rfl⟩; conv=>whnf
 refine ALoad.agg rfl k12 rfl rfl ?_; conv=>whnf
 obtain ⟨⟨t1, t2, t3, pk, tn1, tn2, tn3⟩, hby, hsc0, hsc1, hn1⟩ := id g2
 refine ACalls.mono (takes_any k pk hby hsc0 hsc1 (by omega)) ?_
 cases htk : c.takes x.abs with
 | false =>
  rintro _ _ ⟨rfl, rfl⟩
  conv=>whnf
  refine AStore.aggN rfl rfl rfl (k2) rfl (outCells out0 ox0) rfl fun h3 t3 k3 a3 e3 => ?_; conv=>whnf
  refine ALoad.agg rfl k3 rfl rfl ?_; conv=>whnf
  exact .inl ⟨.inl rfl, rfl, a3 h s12 n26⟩
 | true =>
 rintro _ _ ⟨rfl, rfl⟩
 conv=>whnf
 by_cases c0 : draw < 0
 ·refine ACmp.yes (c0) ?_; conv=>whnf
  refine AStore.aggN rfl rfl rfl (k2) rfl (outCells out0 ox0) rfl fun h3 t3 k3 a3 e3 => ?_; conv=>whnf
  refine ALoad.agg rfl k3 rfl rfl ?_; conv=>whnf
  exact .inl ⟨.inr c0, rfl, a3 h s12 n26⟩
 refine ACmp.no (c0) ?_; conv=>whnf
 have ch : Checked x := takes_facts htk
 have kb : ∀ {h' : Heap}, Keeps [o, o + 1, oo] h2 h' → h' b6 = some (row (0, 1) (outCells out0 ox0) 65) := fun kk => kk _ _ _ (by have := ap.c; have := ap.d; simp; omega) k2
 refine ALoad.one rfl k.str rfl ?_; conv=>whnf
 by_cases c1 : c.state = 2
 ·refine ACmp.yes (c1) ?_; conv=>whnf
  have HL : c.led = true := by simp [CoreM.led, c1]
  refine ALoad.one rfl k12 rfl ?_; conv=>whnf
  by_cases e1 : x.kind = 1
  ·refine ACmp.no ((by simpa using e1)) ?_; conv=>whnf
   have hte : c.take x.abs draw = c := (CoreM.take_eq c x.abs draw).trans (if_pos ⟨e1, HL⟩)
   rw [hte]
   have KR := Keeps.refl [o, o + 1, oo] h2
   refine ACalls.mono (done_any ap.a ap.c ap.d ⟨_, k⟩) ?_; rintro _ h5 ⟨ox, rfl, o5, q5, kk5⟩; conv=>whnf
   refine AStore.aggN rfl rfl rfl ((kk5.get (Ne.symm ap.c) (kb KR))) rfl (outCells _ ox) rfl fun h6 t6 k6 a6 e6 => ?_; conv=>whnf
   refine ALoad.agg rfl k6 rfl rfl ?_; conv=>whnf
   exact .inr ⟨rfl, by omega, _, rfl, told_end ap n26 ((s12.keeps _).trans KR) kk5 o5 q5 t6 e6⟩
  ·refine ACmp.yes (e1) ?_; conv=>whnf
   have NL : ¬(x.abs.kind = 1 ∧ c.led = true) := fun c => e1 c.1
   have hte : c.take x.abs draw = c.takeIn x.abs draw := (CoreM.take_eq c x.abs draw).trans (if_neg NL)
   rw [hte]
   refine ALoad.agg rfl k12 rfl rfl ?_; conv=>whnf
   refine ACalls.mono (take_any ap ⟨_, k⟩ ok.t x g2 ch draw (by omega)) ?_; rintro _ h4 ⟨rfl, k4, kk4⟩; conv=>whnf
   refine ACalls.mono (done_any ap.a ap.c ap.d k4) ?_; rintro _ h5 ⟨ox, rfl, o5, q5, kk5⟩; conv=>whnf
   refine AStore.aggN rfl rfl rfl ((kk5.get (Ne.symm ap.c) (kb kk4))) rfl (outCells _ ox) rfl fun h6 t6 k6 a6 e6 => ?_; conv=>whnf
   refine ALoad.agg rfl k6 rfl rfl ?_; conv=>whnf
   exact .inr ⟨rfl, by omega, _, rfl, told_end ap n26 ((s12.keeps _).trans kk4) kk5 o5 q5 t6 e6⟩
 ·refine ACmp.no (c1) ?_; conv=>whnf
  refine ALoad.one rfl k.str rfl ?_; conv=>whnf
  by_cases c2 : c.quiet < 10
  ·refine ACmp.yes (c2) ?_; conv=>whnf
   refine ALoad.one rfl k.str rfl ?_; conv=>whnf
   by_cases c3 : c.head = 0
   ·refine ACmp.no ((by simpa using c3)) ?_; conv=>whnf
    have HF : c.led = false := by simp [CoreM.led, c1, c3]
    refine ALoad.one rfl k12 rfl ?_; conv=>whnf
    have NL : ¬(x.abs.kind = 1 ∧ c.led = true) := fun c => by rw [HF] at c; cases c.2
    by_cases e1 : x.kind = 1
    ·refine ACmp.no ((by simpa using e1)) ?_; conv=>whnf
     have hte : c.take x.abs draw = c.takeIn x.abs draw := (CoreM.take_eq c x.abs draw).trans (if_neg NL)
     rw [hte]
     refine ALoad.agg rfl k12 rfl rfl ?_; conv=>whnf
     refine ACalls.mono (take_any ap ⟨_, k⟩ ok.t x g2 ch draw (by omega)) ?_; rintro _ h4 ⟨rfl, k4, kk4⟩; conv=>whnf
     refine ACalls.mono (done_any ap.a ap.c ap.d k4) ?_; rintro _ h5 ⟨ox, rfl, o5, q5, kk5⟩; conv=>whnf
     refine AStore.aggN rfl rfl rfl ((kk5.get (Ne.symm ap.c) (kb kk4))) rfl (outCells _ ox) rfl fun h6 t6 k6 a6 e6 => ?_; conv=>whnf
     refine ALoad.agg rfl k6 rfl rfl ?_; conv=>whnf
     exact .inr ⟨rfl, by omega, _, rfl, told_end ap n26 ((s12.keeps _).trans kk4) kk5 o5 q5 t6 e6⟩
    ·refine ACmp.yes (e1) ?_; conv=>whnf
     have hte : c.take x.abs draw = c.takeIn x.abs draw := (CoreM.take_eq c x.abs draw).trans (if_neg NL)
     rw [hte]
     refine ALoad.agg rfl k12 rfl rfl ?_; conv=>whnf
     refine ACalls.mono (take_any ap ⟨_, k⟩ ok.t x g2 ch draw (by omega)) ?_; rintro _ h4 ⟨rfl, k4, kk4⟩; conv=>whnf
     refine ACalls.mono (done_any ap.a ap.c ap.d k4) ?_; rintro _ h5 ⟨ox, rfl, o5, q5, kk5⟩; conv=>whnf
     refine AStore.aggN rfl rfl rfl ((kk5.get (Ne.symm ap.c) (kb kk4))) rfl (outCells _ ox) rfl fun h6 t6 k6 a6 e6 => ?_; conv=>whnf
     refine ALoad.agg rfl k6 rfl rfl ?_; conv=>whnf
     exact .inr ⟨rfl, by omega, _, rfl, told_end ap n26 ((s12.keeps _).trans kk4) kk5 o5 q5 t6 e6⟩
   ·refine ACmp.yes (c3) ?_; conv=>whnf
    have HL : c.led = true := by simp [CoreM.led, c2, c3]
    refine ALoad.one rfl k12 rfl ?_; conv=>whnf
    by_cases e1 : x.kind = 1
    ·refine ACmp.no ((by simpa using e1)) ?_; conv=>whnf
     have hte : c.take x.abs draw = c := (CoreM.take_eq c x.abs draw).trans (if_pos ⟨e1, HL⟩)
     rw [hte]
     have KR := Keeps.refl [o, o + 1, oo] h2
     refine ACalls.mono (done_any ap.a ap.c ap.d ⟨_, k⟩) ?_; rintro _ h5 ⟨ox, rfl, o5, q5, kk5⟩; conv=>whnf
     refine AStore.aggN rfl rfl rfl ((kk5.get (Ne.symm ap.c) (kb KR))) rfl (outCells _ ox) rfl fun h6 t6 k6 a6 e6 => ?_; conv=>whnf
     refine ALoad.agg rfl k6 rfl rfl ?_; conv=>whnf
     exact .inr ⟨rfl, by omega, _, rfl, told_end ap n26 ((s12.keeps _).trans KR) kk5 o5 q5 t6 e6⟩
    ·refine ACmp.yes (e1) ?_; conv=>whnf
     have NL : ¬(x.abs.kind = 1 ∧ c.led = true) := fun c => e1 c.1
     have hte : c.take x.abs draw = c.takeIn x.abs draw := (CoreM.take_eq c x.abs draw).trans (if_neg NL)
     rw [hte]
     refine ALoad.agg rfl k12 rfl rfl ?_; conv=>whnf
     refine ACalls.mono (take_any ap ⟨_, k⟩ ok.t x g2 ch draw (by omega)) ?_; rintro _ h4 ⟨rfl, k4, kk4⟩; conv=>whnf
     refine ACalls.mono (done_any ap.a ap.c ap.d k4) ?_; rintro _ h5 ⟨ox, rfl, o5, q5, kk5⟩; conv=>whnf
     refine AStore.aggN rfl rfl rfl ((kk5.get (Ne.symm ap.c) (kb kk4))) rfl (outCells _ ox) rfl fun h6 t6 k6 a6 e6 => ?_; conv=>whnf
     refine ALoad.agg rfl k6 rfl rfl ?_; conv=>whnf
     exact .inr ⟨rfl, by omega, _, rfl, told_end ap n26 ((s12.keeps _).trans kk4) kk5 o5 q5 t6 e6⟩
  ·refine ACmp.no (c2) ?_; conv=>whnf
   have HF : c.led = false := by simp [CoreM.led, c1, c2]
   refine ALoad.one rfl k12 rfl ?_; conv=>whnf
   have NL : ¬(x.abs.kind = 1 ∧ c.led = true) := fun c => by rw [HF] at c; cases c.2
   by_cases e1 : x.kind = 1
   ·refine ACmp.no ((by simpa using e1)) ?_; conv=>whnf
    have hte : c.take x.abs draw = c.takeIn x.abs draw := (CoreM.take_eq c x.abs draw).trans (if_neg NL)
    rw [hte]
    refine ALoad.agg rfl k12 rfl rfl ?_; conv=>whnf
    refine ACalls.mono (take_any ap ⟨_, k⟩ ok.t x g2 ch draw (by omega)) ?_; rintro _ h4 ⟨rfl, k4, kk4⟩; conv=>whnf
    refine ACalls.mono (done_any ap.a ap.c ap.d k4) ?_; rintro _ h5 ⟨ox, rfl, o5, q5, kk5⟩; conv=>whnf
    refine AStore.aggN rfl rfl rfl ((kk5.get (Ne.symm ap.c) (kb kk4))) rfl (outCells _ ox) rfl fun h6 t6 k6 a6 e6 => ?_; conv=>whnf
    refine ALoad.agg rfl k6 rfl rfl ?_; conv=>whnf
    exact .inr ⟨rfl, by omega, _, rfl, told_end ap n26 ((s12.keeps _).trans kk4) kk5 o5 q5 t6 e6⟩
   ·refine ACmp.yes (e1) ?_; conv=>whnf
    have hte : c.take x.abs draw = c.takeIn x.abs draw := (CoreM.take_eq c x.abs draw).trans (if_neg NL)
    rw [hte]
    refine ALoad.agg rfl k12 rfl rfl ?_; conv=>whnf
    refine ACalls.mono (take_any ap ⟨_, k⟩ ok.t x g2 ch draw (by omega)) ?_; rintro _ h4 ⟨rfl, k4, kk4⟩; conv=>whnf
    refine ACalls.mono (done_any ap.a ap.c ap.d k4) ?_; rintro _ h5 ⟨ox, rfl, o5, q5, kk5⟩; conv=>whnf
    refine AStore.aggN rfl rfl rfl ((kk5.get (Ne.symm ap.c) (kb kk4))) rfl (outCells _ ox) rfl fun h6 t6 k6 a6 e6 => ?_; conv=>whnf
    refine ALoad.agg rfl k6 rfl rfl ?_; conv=>whnf
    exact .inr ⟨rfl, by omega, _, rfl, told_end ap n26 ((s12.keeps _).trans kk4) kk5 o5 q5 t6 e6⟩
end Go.Ah
namespace Go.Ah
open Go.Proofs
set_option linter.unusedVariables false
set_option linter.unusedSimpArgs false
set_option maxRecDepth 20000
theorem m5_andNot (a b : Int) : m5 (IntKind.i64.wrap ((BitVec.ofInt 64 a &&& ~~~(BitVec.ofInt 64 b)).toNat : Int)) = m5 a &&& (31 ^^^ m5 b) := by
 rw [m5_wrap, m5_nat]
 have ha := m5_toNat a
 have hb := m5_toNat b
 rw [m5_nat] at ha hb
 rw [← ha, ← hb]
 apply Nat.eq_of_testBit_eq
 intro i
 have e1 : ∀ N : Nat, (N / 2 % 32).testBit i = (decide (i < 5) && N.testBit (i + 1)) := fun N => by
  rw [show (32 : Nat) = 2 ^ 5 from rfl, Nat.testBit_mod_two_pow, Nat.testBit_div_two]
 rw [Nat.testBit_and, Nat.testBit_xor, e1, e1, e1]
 have e2 : (BitVec.ofInt 64 a &&& ~~~(BitVec.ofInt 64 b)).toNat.testBit (i + 1) = ((BitVec.ofInt 64 a).toNat.testBit (i + 1) && (decide (i + 1 < 64) && !(BitVec.ofInt 64 b).toNat.testBit (i + 1))) := by
  rw [BitVec.testBit_toNat, BitVec.testBit_toNat, BitVec.testBit_toNat, BitVec.getLsbD_and, BitVec.getLsbD_not]
 rw [e2]
 have e3 : (31 : Nat).testBit i = decide (i < 5) := by
  rw [show (31 : Nat) = 2 ^ 5 - 1 from rfl, Nat.testBit_two_pow_sub_one]
 rw [e3]
 by_cases h : i < 5
 ·simp [h, show i + 1 < 64 by omega]
 ·simp [h]
theorem ls_andNot : ∀ k, k < 32 → ∀ j, j < 32 → ls (k &&& (31 ^^^ j)) = (ls k).filter fun n => !bt j (n - 1).toNat := by decide +kernel
theorem settled_any {h : Heap} {p o oo : Nat} {c : CoreM} {x : CX} (k : CoreX 81 LA h p o oo c x) (lo : LOk c.log) :
  ACalls PR 64 #[Ptr p] h (fun v h' => v = .bool c.settled ∧ h = h') := by
 refine acalls_pure (acalls_of mix Tryz.func64 rfl rfl Tryz.ntmps64 Tryz.results64 rfl ?_); conv=>whnf
 refine ADrawn.mk (h) [] (Sub.refl _) (by decide +kernel) ?_; conv=>whnf
 refine ALoad.one rfl k.str rfl ?_; conv=>whnf
 refine ALoad.one rfl k.str rfl ?_; conv=>whnf
 refine ALoad.one rfl k.str rfl ?_; conv=>whnf
 refine ACalls.mono (Has_c k.log lo c.commit c.term) ?_; rintro _ _ ⟨rfl, rfl⟩; conv=>whnf
 refine ⟨Sub.refl _, ?_⟩; conv=>whnf
 exact ⟨rfl, Sub.refl _⟩
theorem crewIn_range {L : LG} (by_ : ∀ e ∈ L.es, e.2.2.1 = 2 → ∀ x ∈ e.2.2.2, 0 ≤ x ∧ x < 256) : ∀ (k : Nat) r, crewIn L k = some r → 0 ≤ r.1 ∧ r.1 ≤ 255
 | 0, r, h => by simp [crewIn] at h
 | k + 1, r, h => by
  unfold crewIn at h
  cases he : L.es[k]? with
  | none => rw [he] at h; exact crewIn_range by_ k r h
  | some e =>
   rw [he] at h
   simp only [] at h
   by_cases h2 : e.2.2.1 = 2
   ·rw [if_pos h2] at h
    cases h
    show 0 ≤ crewNum e ∧ crewNum e ≤ 255
    have := by_ e (List.mem_of_getElem? he) h2
    unfold crewNum
    split
    ·rename_i x hx
     have := this x (by rw [hx]; simp)
     omega
    ·omega
   ·rw [if_neg h2] at h; exact crewIn_range by_ k r h
theorem crew_range {c : CoreM} (by_ : ∀ e ∈ c.log.es, e.2.2.1 = 2 → ∀ x ∈ e.2.2.2, 0 ≤ x ∧ x < 256) (fc : 0 ≤ c.first ∧ c.first ≤ 255) (sc : 0 ≤ c.snap.crew ∧ c.snap.crew ≤ 255) (i : Int) : 0 ≤ (c.crewUpTo i).1 ∧ (c.crewUpTo i).1 ≤ 255 := by
 unfold CoreM.crewUpTo
 cases h : crewIn c.log (i - c.log.bi).toNat with
 | some r => exact crewIn_range by_ _ _ h
 | none =>
  simp only []
  split
  ·exact sc
  ·exact fc
theorem crewNum_range {data : List Int} (hb : ∀ z ∈ data, 0 ≤ z ∧ z < 256) : 0 ≤ crewNum (0, 0, 0, data) ∧ crewNum (0, 0, 0, data) ≤ 255 := by
 unfold crewNum
 split
 ·rename_i x hx
  have hx : data = [x] := hx
  have := hb x (by rw [hx]; simp)
  omega
 ·omega
theorem changes_eq (c : CoreM) (data : List Int) : c.changes data = (crewOk (0, 0, 0, data) && decide (chg c.crewNow.1 (crewNum (0, 0, 0, data)) = 0) && decide (c.crewNow.2 ≤ c.commit) && c.settled) := rfl
theorem changes_any {h : Heap} {p o oo : Nat} {c : CoreM} {x : CX} (k : CoreX 81 LA h p o oo c x) (lk : LogOk c) (fc : 0 ≤ c.first ∧ c.first ≤ 255) (sc : 0 ≤ c.snap.crew ∧ c.snap.crew ≤ 255) {t : Tag} {d : SlV} {data : List Int} (g : Sl h t d.a d.n d.c 1 (bytesV data)) (hb : ∀ z ∈ data, 0 ≤ z ∧ z < 256) :
  ACalls PR 52 #[Ptr p, .slice d.a d.n d.c] h (fun v h' => v = .bool (c.changes data) ∧ h = h') := by
 have h1 := crew_range lk.by_ fc sc c.log.last.1
 have h2 := crewNum_range hb
 refine acalls_pure (acalls_of mix Tryz.func52 rfl rfl Tryz.ntmps52 Tryz.results52 rfl ?_); conv=>whnf
 refine ACalls.mono (crewNow_any k lk.lo lk.by_) ?_; rintro _ _ ⟨rfl, rfl⟩; conv=>whnf
 refine ACalls.mono (crewOf_any h (⟨0, 0, 0, d.a, d.n, d.c, data⟩ : EH) g hb) ?_
 rw [changes_eq]
 show ∀ v h', _ ∧ _ → _
 cases e1 : crewOk (0, 0, 0, data) with
 | false =>
  rintro _ _ ⟨rfl, rfl⟩
  rw [show crewOk (EH.abs ⟨0, 0, 0, d.a, d.n, d.c, data⟩) = false from e1]
  conv=>whnf
  exact ⟨by simp, Sub.refl _⟩
 | true =>
  rintro _ _ ⟨rfl, rfl⟩
  rw [show crewOk (EH.abs ⟨0, 0, 0, d.a, d.n, d.c, data⟩) = true from e1]
  conv=>whnf
  rw [show crewNum (EH.abs ⟨0, 0, 0, d.a, d.n, d.c, data⟩) = crewNum (0, 0, 0, data) from rfl]
  refine ACalls.mono (Change_any h c.crewNow.1 (crewNum (0, 0, 0, data)) (by unfold CoreM.crewNow; omega) (by unfold CoreM.crewNow; omega) (by omega) (by omega)) ?_; rintro _ _ ⟨rfl, rfl⟩; conv=>whnf
  by_cases e2 : chg c.crewNow.1 (crewNum (0, 0, 0, data)) = 0
  ·refine ACmp.yes (e2) ?_; conv=>whnf
   refine ALoad.one rfl k.str rfl ?_; conv=>whnf
   by_cases e3 : c.crewNow.2 ≤ c.commit
   ·refine ACmp.yes (e3) ?_; conv=>whnf
    refine ACalls.mono (settled_any k lk.lo) ?_; rintro _ _ ⟨rfl, rfl⟩; conv=>whnf
    exact ⟨by simp [e2, e3], Sub.refl _⟩
   ·refine ACmp.no (e3) ?_; conv=>whnf
    exact ⟨by simp [e3], Sub.refl _⟩
  ·refine ACmp.no (e2) ?_; conv=>whnf
   exact ⟨by simp [e2], Sub.refl _⟩
end Go.Ah
namespace Go.Ah
open Go.Proofs
set_option linter.unusedVariables false
set_option linter.unusedSimpArgs false
set_option maxRecDepth 20000
def CoreM.asks (c : CoreM) : CoreM := { c with round := c.round + 1, reads := c.reads ++ [c.round + 1] }
set_option maxHeartbeats 4000000 in
theorem Read_any {h : Heap} {p o oo : Nat} {c : CoreM} (ap : Apart o oo) (k : PCore h p o oo c) (ok : COk c) :
  ACalls PR 26 #[Ptr p] h (fun v h' => (c.readE ≠ 0 ∧ v = .tuple #[I 0, .agg (outCells out0 ox0).toArray, I c.readE] ∧ Sub h h') ∨ (c.readE = 0 ∧ ∃ u, v = .tuple #[I (c.round + 1), u, I 0] ∧ Told p o oo c.read h u h')) := by
 obtain ⟨cx, k0⟩ := k
 have hr1 := ok.r1
 have hr2 := ok.r2
 have hrd := ok.rd
 have hout := ok.out
 refine acalls_of mix Tryz.func26 rfl rfl Tryz.ntmps26 Tryz.results26 rfl ?_; conv=>whnf
 refine AAlloc.mkN (0, 1) (outCells out0 ox0) rfl fun b3 h1 n1 s1 k1 => ?_; conv=>whnf
 have k := k0.sub s1
 refine ACalls.mono (none_core k) ?_; rintro _ _ ⟨rfl, rfl⟩; conv=>whnf
 refine ALoad.one rfl k.str rfl ?_; conv=>whnf
 by_cases c1 : c.state = 2
 ·refine ACmp.no ((by simpa using c1)) ?_; conv=>whnf
  refine ACalls.mono (settled_any k ok.lk.lo) ?_
  cases hs : c.settled with
  | false =>
   rintro _ _ ⟨rfl, rfl⟩
   conv=>whnf
   refine AStore.aggN rfl rfl rfl (k1) rfl (outCells out0 ox0) rfl fun h3 t3 k3 a3 e3 => ?_; conv=>whnf
   refine ALoad.agg rfl k3 rfl rfl ?_; conv=>whnf
   have he : c.readE = 202 := by unfold CoreM.readE; rw [if_neg (by simpa using c1), if_pos hs]
   exact .inl ⟨by rw [he]; decide, by rw [he]; rfl, a3 h s1 n1⟩
  | true =>
   rintro _ _ ⟨rfl, rfl⟩
   conv=>whnf
   have he : c.readE = 0 := by unfold CoreM.readE; rw [if_neg (by simpa using c1), if_neg (by rw [hs]; simp)]
   refine ALoad.one rfl k.str rfl ?_; conv=>whnf
   refine AArith.ok (by omega) (by omega) (rfl) ?_; conv=>whnf
   refine AStore.oneTo rfl rfl rfl (k.str) rfl (coreCells { c with round := c.round + 1 } cx) rfl ?_; conv=>whnf
   have k2 := k.set ap.a { c with round := c.round + 1 } cx
   have kk2 := k.setKeep (coreCells { c with round := c.round + 1 } cx)
   generalize h1.set p (row (o, 0) (coreCells { c with round := c.round + 1 } cx) 81) = h2 at k2 kk2 ⊢
   have hrl : cx.rd.n = c.reads.length := by have := k2.rd.sl.len; simpa using this.symm
   refine ADrawn.mk ((one h2 p)) [16] (one_sub _ _) (by decide +kernel) ?_; conv=>whnf
   refine ALoad.one rfl ((one_at _ _).trans k2.str) rfl ?_; conv=>whnf
   refine ALoad.one rfl ((one_at _ _).trans k2.str) rfl ?_; conv=>whnf
   refine ABuildSl.mkN (0, 1) [I (c.round + 1)] rfl rfl rfl rfl rfl rfl rfl fun b6 h5 n5 s5 k6 => ?_; conv=>whnf
   refine ⟨(one_sub _ _).trans s5, ?_⟩; conv=>whnf
   refine AAppend.own (t := (o, 4)) (E := 3) (z := 1) (by_ := 8) (zero := [I 0]) (tx := (0, 1)) (xs := [I (c.round + 1)]) rfl ⟨_, rfl⟩ rfl rfl rfl rfl (by omega) (k2.rd.move fun _ _ e => s5 _ _ e)
    ⟨rfl, Nat.le_refl _, .inr ⟨b6, 0, _, _, _, rfl, k6, rfl⟩⟩ rfl (by omega) (by omega) fun a7 c7 h7 ow7 t7 _ => ?_
   conv=>whnf
   have p7 := t7.get (u := (o, 0)) (by simp) (s5 _ _ k2.str)
   refine ⟨one_get fun y hy => ?_, ?_⟩
   ·rw [k2.str] at hy; cases hy; exact p7
   conv=>whnf
   refine AStore.oneN rfl rfl rfl (p7) rfl (coreCells c.asks { cx with rd := ⟨a7, cx.rd.n + 1, c7⟩ }) rfl fun h8 t8 k8 a8 e8 => ?_; conv=>whnf
   have q8 : CoreX 81 LA h8 p o oo c.asks { cx with rd := ⟨a7, cx.rd.n + 1, c7⟩ } := by
    refine ⟨k8, ((k2.sd.move fun _ _ e => s5 _ _ e).keepT t7 (by simp)).keepT t8 (by simp), KeepT.log (KeepT.log (Moves.move k2.log fun _ _ _ _ e => s5 _ _ e) t7) t8, ?_, ?_⟩
    ·have := ow7.keepT t8 (by simp)
     show Own h8 (o, 4) 3 a7 (cx.rd.n + 1) c7 1 ((c.reads ++ [c.round + 1]).map I)
     rw [List.map_append]; exact this
    ·exact ((k2.out.move fun b t y _ e => s5 _ _ e).keepT ap.a t7).keepT ap.a t8
   have KK8 : Keeps [o, o + 1, oo] h1 h8 := ((kk2.trans (s5.keep o)).trans (t7.keep.trans t8.keep)).keeps (by simp)
   refine ALoad.one rfl q8.str rfl ?_; conv=>whnf
   have lk8 : LogOk c.asks := ok.lk.same rfl rfl
   refine ACalls.mono (sendAll_any ap ⟨_, q8⟩ lk8 ok.nk (by show c.out.posts.length ≤ _; rw [hout]; simp [out0])) ?_; rintro _ h9 ⟨rfl, k9, kk9⟩; conv=>whnf
   obtain ⟨y1, y2, y3, y4, y5, y6, y7, y8⟩ := sends_more c.asks.others c.asks
   have hsr : ∀ (l : List Int) (d : CoreM), (l.foldl CoreM.send d).out.reads = d.out.reads := by
    intro l
    induction l with
    | nil => intro d; rfl
    | cons n l ih => intro d; rw [List.foldl_cons, ih]; unfold CoreM.send; split <;> rfl
   refine ACalls.mono (confirm_any ap k9 lk8.sendAll (by unfold CoreM.sendAll; rw [y1]; exact ok.s1) (by unfold CoreM.sendAll; rw [y1]; exact ok.s2) (by unfold CoreM.sendAll; rw [hsr, y7]; show c.out.reads.length + (c.reads ++ [c.round + 1]).length ≤ _; rw [hout, List.length_append]; simp [out0]; omega)) ?_; rintro _ h10 ⟨rfl, k10, kk10⟩; conv=>whnf
   have KK : Keeps [o, o + 1, oo] h1 h10 := KK8.trans ((kk9.mono (by simp)).trans (kk10.mono (by simp)))
   have kb : h10 b3 = some (row (0, 1) (outCells out0 ox0) 65) := KK _ _ _ (by have := ap.c; have := ap.d; simp; omega) k1
   refine ACalls.mono (done_any ap.a ap.c ap.d k10) ?_; rintro _ h11 ⟨ox, rfl, o11, q11, kk11⟩; conv=>whnf
   refine AStore.aggN rfl rfl rfl ((kk11.get (Ne.symm ap.c) kb)) rfl (outCells _ ox) rfl fun h12 t12 k12 a12 e12 => ?_; conv=>whnf
   refine ALoad.agg rfl k12 rfl rfl ?_; conv=>whnf
   exact .inr ⟨he, _, rfl, told_end ap n1 ((s1.keeps _).trans KK) kk11 o11 q11 t12 e12⟩
 ·refine ACmp.yes (c1) ?_; conv=>whnf
  refine AStore.aggN rfl rfl rfl (k1) rfl (outCells out0 ox0) rfl fun h3 t3 k3 a3 e3 => ?_; conv=>whnf
  refine ALoad.agg rfl k3 rfl rfl ?_; conv=>whnf
  have he : c.readE = 200 := by unfold CoreM.readE; rw [if_pos c1]
  exact .inl ⟨by rw [he]; decide, by rw [he]; rfl, a3 h s1 n1⟩
end Go.Ah
namespace Go.Ah
open Go.Proofs
set_option linter.unusedVariables false
set_option linter.unusedSimpArgs false
set_option maxRecDepth 20000
theorem listSome_any (h : Heap) (c : Int) (N : Nat) : ACalls PR 55 #[I c] h (fun v h' => ∃ a cp f, v = .slice a (ls (m5 c)).length cp ∧ Sl h' (f, 0) a (ls (m5 c)).length cp 1 ((ls (m5 c)).map I) ∧ N < f ∧ Sub h h') := by
 refine ACalls.owner ⟨_, Tryz.func55, rfl, rfl⟩ fun o0 ho0 bnd => ?_
 refine (List_own h c (o0 + N + 1) (bnd.no (by omega))).mono ?_
 rintro v h' ⟨a, cp, e, ow, s⟩
 exact ⟨a, cp, _, e, ow.sl, by omega, s⟩
def CoreM.fresh1 (index : Int) (x : CoreM) (n : Int) : CoreM := { x with next := x.next.set n index, mtch := x.mtch.set n 0, heard := x.heard.set n 0 }
theorem freshes (index : Int) : ∀ (l : List Int) (c : CoreM), (∀ n ∈ l, 1 ≤ n ∧ n ≤ 5) → ∃ a b d, l.foldl (CoreM.fresh1 index) c = { c with next := a, mtch := b, heard := d } ∧ ∀ n : Int, 1 ≤ n → n ≤ 5 → (a.get n = c.next.get n ∨ a.get n = index) ∧ (b.get n = c.mtch.get n ∨ b.get n = 0)
 | [], c, _ => ⟨c.next, c.mtch, c.heard, rfl, fun n _ _ => ⟨.inl rfl, .inl rfl⟩⟩
 | m :: l, c, hl => by
  obtain ⟨a, b, d, e, h⟩ := freshes index l (c.fresh1 index m) fun n hn => hl n (by simp [hn])
  refine ⟨a, b, d, by rw [List.foldl_cons, e]; rfl, fun n h1 h2 => ?_⟩
  obtain ⟨x, y⟩ := h n h1 h2
  have ex : (c.fresh1 index m).next.get n = if n = m then index else c.next.get n := Five.get_set _ _ _ _ h1 h2
  have ey : (c.fresh1 index m).mtch.get n = if n = m then 0 else c.mtch.get n := Five.get_set _ _ _ _ h1 h2
  rw [ex] at x; rw [ey] at y
  by_cases hm : n = m
  ·rw [if_pos hm] at x y
   exact ⟨.inr (by rcases x with x | x <;> exact x), .inr (by rcases y with y | y <;> exact y)⟩
  ·rw [if_neg hm] at x y
   exact ⟨x, y⟩
theorem ls_in (k : Int) : ∀ n ∈ ls (m5 k), 1 ≤ n ∧ n ≤ 5 := fun n hn => by
 have := List.all_eq_true.1 (ls_ok (m5 k) (m5_lt _)) n hn
 simpa [ok1] using this
theorem foldl_pick {P : Int → Bool} {f : CoreM → Int → CoreM} : ∀ (l : List Int) (c : CoreM), l.foldl (fun x n => if P n = true then x else f x n) c = (l.filter fun n => !P n).foldl f c
 | [], c => rfl
 | n :: l, c => by
  rw [List.foldl_cons, foldl_pick l]
  cases h : P n <;> simp [h]
theorem ls_new (now was : Int) : ls (m5 (IntKind.i64.wrap ((BitVec.ofInt 64 now &&& ~~~(BitVec.ofInt 64 was)).toNat : Int))) = (ls (m5 now)).filter fun n => !hasB was n := by
 rw [m5_andNot, ls_andNot _ (m5_lt _) _ (m5_lt _)]
 refine List.filter_congr fun n hn => ?_
 have := ls_in now n hn
 unfold hasB
 rw [decide_eq_true (by omega), Bool.true_and]
theorem CoreM.propose_eq (c : CoreM) (kind : Int) (data : List Int) : c.propose kind data = (((ls (m5 (IntKind.i64.wrap ((BitVec.ofInt 64 (c.put kind data).crewNow.1 &&& ~~~(BitVec.ofInt 64 c.crewNow.1)).toNat : Int)))).foldl (CoreM.fresh1 (c.log.last.1 + 1)) (c.put kind data)).sendAll).rank := by
 rw [ls_new, ← foldl_pick (P := hasB c.crewNow.1) (f := CoreM.fresh1 (c.log.last.1 + 1))]
 rfl
set_option maxHeartbeats 8000000 in
theorem Propose_any {h : Heap} {p o oo : Nat} {c : CoreM} (ap : Apart o oo) (k : PCore h p o oo c) (ok : COk c) (kind : Int) {t : Tag} {d : SlV} {data : List Int} (g : Sl h t d.a d.n d.c 1 (bytesV data)) (hb : ∀ z ∈ data, 0 ≤ z ∧ z < 256) :
  ACalls PR 21 #[Ptr p, I kind, .slice d.a d.n d.c] h (fun v h' => (c.proposeE kind data ≠ 0 ∧ v = .tuple #[I 0, .agg (outCells out0 ox0).toArray, I (c.proposeE kind data)] ∧ Sub h h') ∨
   (c.proposeE kind data = 0 ∧ ∃ u, v = .tuple #[I (c.log.last.1 + 1), u, I 0] ∧ Told p o oo (c.propose kind data) h u h')) := by
 obtain ⟨cx, k0⟩ := k
 have hdl : data.length = d.n := by have := g.len; simpa [bytesV] using this
 have hl := ok.lk.lo.last
 have ht := ok.lk.lo.top
 have hl0 := ok.lk.lo.lo
 have hm1 := ok.m1
 have hm2 := ok.m2
 have hes := ok.es
 have hout := ok.out
 obtain ⟨E, hE⟩ : ∃ E, E = c.proposeE kind data := ⟨_, rfl⟩
 have hE' := hE
 unfold CoreM.proposeE at hE'
 rw [← hE]
 refine acalls_of mix Tryz.func21 rfl rfl Tryz.ntmps21 Tryz.results21 rfl ?_; conv=>whnf
 refine AAlloc.mkN (0, 1) (outCells out0 ox0) rfl fun b7 h1 n1 s1 k1 => ?_; conv=>whnf
 have k := k0.sub s1
 refine ACalls.mono (none_core k) ?_; rintro _ _ ⟨rfl, rfl⟩; conv=>whnf
 refine ALoad.one rfl k.str rfl ?_; conv=>whnf
 refine ACalls.mono (Last_c k.log ok.lk.lo) ?_; rintro _ _ ⟨rfl, rfl⟩; conv=>whnf
 refine ALoad.one rfl k.str rfl ?_; conv=>whnf
 by_cases c1 : c.state ≠ 2
 ·refine ACmp.yes (c1) ?_; conv=>whnf
  have HC := hE'.trans (if_pos c1)
  refine AStore.aggN rfl rfl rfl (k1) rfl (outCells out0 ox0) rfl fun h3 t3 k3 a3 e3 => ?_; conv=>whnf
  refine ALoad.agg rfl k3 rfl rfl ?_; conv=>whnf
  exact .inl ⟨by rw [HC]; decide, by rw [HC]; rfl, a3 h s1 n1⟩
 refine ACmp.no (c1) ?_; conv=>whnf
 rw [if_neg c1] at hE'
 by_cases ck1 : kind = 1
 ·refine ACmp.no ((by simpa using ck1)) ?_; conv=>whnf
  have c2 : ¬(kind ≠ 1 ∧ kind ≠ 2) := fun c => c.1 ck1
  rw [if_neg c2] at hE'
  by_cases c3 : 1200 < data.length
  ·refine ACmp.yes ((by omega)) ?_; conv=>whnf
   have HF : 1200 < data.length ∨ c.log.last.1 = 9007199254740991 := .inl c3
   have HC := hE'.trans (if_pos HF)
   refine AStore.aggN rfl rfl rfl (k1) rfl (outCells out0 ox0) rfl fun h3 t3 k3 a3 e3 => ?_; conv=>whnf
   refine ALoad.agg rfl k3 rfl rfl ?_; conv=>whnf
   exact .inl ⟨by rw [HC]; decide, by rw [HC]; rfl, a3 h s1 n1⟩
  refine ACmp.no ((by omega)) ?_; conv=>whnf
  by_cases c4 : c.log.last.1 = 9007199254740991
  ·refine ACmp.yes (c4) ?_; conv=>whnf
   have HF : 1200 < data.length ∨ c.log.last.1 = 9007199254740991 := .inr c4
   have HC := hE'.trans (if_pos HF)
   refine AStore.aggN rfl rfl rfl (k1) rfl (outCells out0 ox0) rfl fun h3 t3 k3 a3 e3 => ?_; conv=>whnf
   refine ALoad.agg rfl k3 rfl rfl ?_; conv=>whnf
   exact .inl ⟨by rw [HC]; decide, by rw [HC]; rfl, a3 h s1 n1⟩
  refine ACmp.no (c4) ?_; conv=>whnf
  rw [if_neg (by omega)] at hE'
  refine ALoad.one rfl k.str rfl ?_; conv=>whnf
  refine AArith.ok (by omega) (by omega) (rfl) ?_; conv=>whnf
  by_cases c5 : 64 ≤ c.log.last.1 - c.commit
  ·refine ACmp.yes (c5) ?_; conv=>whnf
   have HC := hE'.trans (if_pos c5)
   refine AStore.aggN rfl rfl rfl (k1) rfl (outCells out0 ox0) rfl fun h3 t3 k3 a3 e3 => ?_; conv=>whnf
   refine ALoad.agg rfl k3 rfl rfl ?_; conv=>whnf
   exact .inl ⟨by rw [HC]; decide, by rw [HC]; rfl, a3 h s1 n1⟩
  refine ACmp.no (c5) ?_; conv=>whnf
  rw [if_neg c5] at hE'
  refine ACmp.no ((by omega)) ?_; conv=>whnf
  have HZ := hE'.trans (if_neg fun c => absurd c.1 (by omega))
  refine ACalls.mono (crewNow_any k ok.lk.lo ok.lk.by_) ?_; rintro _ _ ⟨rfl, rfl⟩; conv=>whnf
  refine ACalls.mono (put_any ap ⟨_, k⟩ ok.lk.lo (by omega) (by omega) kind (g.sub s1) (by omega) (by rw [hout]; simp [out0])) ?_; rintro _ h2 ⟨rfl, ⟨cx2, k2⟩, kk2⟩; conv=>whnf
  obtain ⟨dd, hdd⟩ : ∃ dd, dd = c.put kind data := ⟨_, rfl⟩
  obtain ⟨p1, p2, p3, p4, p5, p6, p7, p8⟩ := put_same c kind data
  have lk2 : LogOk dd := by rw [hdd]; exact ok.lk.put (by omega) (fun _ => hb)
  rw [CoreM.propose_eq, ← hdd]
  rw [← hdd] at k2 p1 p2 p3 p4 p5 p6 p7 p8
  refine ACalls.mono (crewNow_any k2 lk2.lo lk2.by_) ?_; rintro _ _ ⟨rfl, rfl⟩; conv=>whnf
  refine AInt.as rfl ?_; conv=>whnf
  refine ACalls.mono (listSome_any h2 (IntKind.i64.wrap ((BitVec.ofInt 64 dd.crewNow.1 &&& ~~~(BitVec.ofInt 64 c.crewNow.1)).toNat : Int)) (o + oo + 2)) ?_
  rintro v h3 ⟨al, cp, f, rfl, sl, hf, s3⟩
  conv=>whnf
  have hin := ls_in (IntKind.i64.wrap ((BitVec.ofInt 64 dd.crewNow.1 &&& ~~~(BitVec.ofInt 64 c.crewNow.1)).toNat : Int))
  have hll5 : (ls (m5 (IntKind.i64.wrap ((BitVec.ofInt 64 dd.crewNow.1 &&& ~~~(BitVec.ofInt 64 c.crewNow.1)).toNat : Int)))).length ≤ 5 := lsTo_len _ 5
  generalize ls (m5 (IntKind.i64.wrap ((BitVec.ofInt 64 dd.crewNow.1 &&& ~~~(BitVec.ofInt 64 c.crewNow.1)).toNat : Int))) = ll at sl hin hll5 ⊢
  refine ALoop.mk (fun e h' => ∃ e0, ∃ j : Nat, e = updL 122 e0 [(0, Ptr p), (7, Ptr b7), (13, I (c.log.last.1 + 1)), (89, .slice al ll.length cp), (90, I ll.length), (91, I j)] ∧ j ≤ ll.length ∧ PCore h' p o oo ((ll.take j).foldl (CoreM.fresh1 (c.log.last.1 + 1)) dd) ∧ Keeps [o, o + 1, oo] h1 h' ∧ Sl h' (f, 0) al ll.length cp 1 (ll.map I)) (fun e => ll.length - natOf (e 91))
   ⟨_, 0, updL_self ⟨rfl, rfl, rfl, rfl, rfl, rfl, trivial⟩, by omega, ⟨_, k2.sub s3⟩, kk2.trans (s3.keeps _), sl⟩ ?_
  rintro e h4 ⟨e0, j, rfl, hj, ⟨cx4, k4⟩, kk4, s4⟩
  conv=>whnf
  by_cases hjn : j < ll.length
  ·refine ACmp.yes (by omega) ?_; conv=>whnf
   obtain ⟨n, hn⟩ : ∃ n, ll[j]? = some n := ⟨ll[j]'hjn, by simp⟩
   obtain ⟨hn1, hn2⟩ := hin n (List.mem_of_getElem? hn)
   obtain ⟨m, hm⟩ : ∃ m : Nat, n = m := ⟨n.toNat, by omega⟩
   obtain ⟨b, off, l, E, fz, rfl, hbb, hc⟩ := s4.pos (by omega)
   have g0 : l[off + j * 1]? = some (I n) := by rw [get_of_take hc (by omega), Nat.mul_one]; simp [hn]
   refine AIdx.nat (z := 1) (j := j) rfl hjn rfl rfl ?_; conv=>whnf
   refine ALoad.one rfl hbb g0 ?_; conv=>whnf
   obtain ⟨e4, he4⟩ : ∃ e4, e4 = (ll.take j).foldl (CoreM.fresh1 (c.log.last.1 + 1)) dd := ⟨_, rfl⟩
   rw [← he4] at k4
   refine ADrawn.mkO (h4) [11] [0, 1, 2, 3, 4, 5, 6, 7, 8, 9, 10, 12, 13, 14, 17, 18, 19, 11, 15, 16, 20, 21] (Sub.refl _) (by decide +kernel) ?_; conv=>whnf
   refine AIdxA.nat (n := 6) (z := 1) (j := m) (by omega) (by omega) rfl rfl ?_; conv=>whnf
   refine AStore.oneN rfl rfl rfl k4.str (by have := next_cell e4 cx4 hn1 hn2; rw [show 0 + 14 + 1 + m * 1 = 15 + n.toNat by omega]; exact Nat.ble_eq_true_of_le (List.getElem?_eq_some_iff.1 this).1) (coreCells { e4 with next := e4.next.set n (c.log.last.1 + 1) } cx4) (by rw [show 0 + 14 + 1 + m * 1 = 15 + n.toNat by omega]; exact next_set e4 cx4 hn1 hn2 _) fun h5 t5 k5 a5 x5 => ?_; conv=>whnf
   refine AIdxA.nat (n := 6) (z := 1) (j := m) (by omega) (by omega) rfl rfl ?_; conv=>whnf
   refine AStore.oneN rfl rfl rfl k5 (by have := mtch_cell { e4 with next := e4.next.set n (c.log.last.1 + 1) } cx4 hn1 hn2; rw [show 0 + 14 + 7 + m * 1 = 21 + n.toNat by omega]; exact Nat.ble_eq_true_of_le (List.getElem?_eq_some_iff.1 this).1) (coreCells { e4 with next := e4.next.set n (c.log.last.1 + 1), mtch := e4.mtch.set n 0 } cx4) (by rw [show 0 + 14 + 7 + m * 1 = 21 + n.toNat by omega]; exact mtch_set { e4 with next := e4.next.set n (c.log.last.1 + 1) } cx4 hn1 hn2 _) fun h6 t6 k6 a6 x6 => ?_; conv=>whnf
   refine ⟨(fun b y e => by cases e), ?_⟩; conv=>whnf
   refine AIdxA.nat (n := 6) (z := 1) (j := m) (by omega) (by omega) rfl rfl ?_; conv=>whnf
   refine AStore.oneN rfl rfl rfl k6 (by have := heard_cell { e4 with next := e4.next.set n (c.log.last.1 + 1), mtch := e4.mtch.set n 0 } cx4 hn1 hn2; rw [show 0 + 14 + 13 + m * 1 = 27 + n.toNat by omega]; exact Nat.ble_eq_true_of_le (List.getElem?_eq_some_iff.1 this).1) (coreCells (e4.fresh1 (c.log.last.1 + 1) n) cx4) (by rw [show 0 + 14 + 13 + m * 1 = 27 + n.toNat by omega]; exact heard_set { e4 with next := e4.next.set n (c.log.last.1 + 1), mtch := e4.mtch.set n 0 } cx4 hn1 hn2 _) fun h7 t7 k7 a7 x7 => ?_; conv=>whnf
   refine ⟨(fun b y e => by cases e), ?_⟩; conv=>whnf
   have tt := t5.trans (t6.trans t7)
   have q7 := k4.set' (c' := e4.fresh1 (c.log.last.1 + 1) n) ap.a tt k7
   refine AArith.ok (by omega) (by omega) ((by omega : (j : Int) + 1 = ((j + 1 : Nat) : Int))) ?_; conv=>whnf
   have kt7 : Keeps [o, o + 1, oo] h4 h7 := tt.keep.keeps (by simp)
   refine ⟨⟨_, j + 1, updL_self ⟨rfl, rfl, rfl, rfl, rfl, rfl, trivial⟩, by omega, ?_, kk4.trans kt7, s4.keeps kt7 (by simp; omega)⟩, ?_⟩
   ·rw [List.take_succ_eq_append_getElem hjn, (List.getElem?_eq_some_iff.1 hn).2, List.foldl_append]
    rw [he4] at q7
    exact ⟨_, q7⟩
   ·show ll.length - (j + 1) < ll.length - j
    omega
  ·refine ACmp.no (by omega) ?_; conv=>whnf
   rw [List.take_of_length_le (by omega)] at k4
   obtain ⟨fa, fb, fd, fe, fh⟩ := freshes (c.log.last.1 + 1) ll dd hin
   obtain ⟨e4, he4⟩ : ∃ e4, e4 = ll.foldl (CoreM.fresh1 (c.log.last.1 + 1)) dd := ⟨_, rfl⟩
   rw [← he4] at k4 ⊢
   rw [← he4] at fe
   have lk4 : LogOk e4 := by rw [fe]; exact lk2.same rfl rfl
   have nk4 : NextOk e4 := fun n h1 h2 => by
    rw [fe]; show 0 ≤ fa.get n ∧ fa.get n ≤ _
    have := ok.nk n h1 h2
    rcases (fh n h1 h2).1 with z | z <;> rw [z]
    ·rw [p1]; exact this
    ·omega
   have o4 : e4.out.posts.length ≤ 999999990 := by rw [fe]; show dd.out.posts.length ≤ _; rw [p4, hout]; simp [out0]
   have sf4 : e4.self = c.self := by rw [fe]; exact p3
   refine ACalls.mono (sendAll_any ap ⟨_, k4⟩ lk4 nk4 o4) ?_; rintro _ h8 ⟨rfl, k8, kk8⟩; conv=>whnf
   obtain ⟨y1, _⟩ := sends_more e4.others e4
   refine ACalls.mono (rank_any ap k8 lk4.sendAll (by unfold CoreM.sendAll; rw [y1, sf4]; exact ok.s1) (by unfold CoreM.sendAll; rw [y1, sf4]; exact ok.s2)) ?_; rintro _ h9 ⟨rfl, k9, kk9⟩; conv=>whnf
   have KK : Keeps [o, o + 1, oo] h1 h9 := kk4.trans ((kk8.mono (by simp)).trans (kk9.keeps (by simp)))
   have kb : h9 b7 = some (row (0, 1) (outCells out0 ox0) 65) := KK _ _ _ (by have := ap.c; have := ap.d; simp; omega) k1
   refine ACalls.mono (done_any ap.a ap.c ap.d k9) ?_; rintro _ h11 ⟨ox, rfl, o11, q11, kk11⟩; conv=>whnf
   refine AStore.aggN rfl rfl rfl ((kk11.get (Ne.symm ap.c) kb)) rfl (outCells _ ox) rfl fun h12 t12 k12 a12 e12 => ?_; conv=>whnf
   refine ALoad.agg rfl k12 rfl rfl ?_; conv=>whnf
   exact .inr ⟨HZ, _, rfl, told_end ap n1 ((s1.keeps _).trans KK) kk11 o11 q11 t12 e12⟩
 ·refine ACmp.yes (ck1) ?_; conv=>whnf
  by_cases ck2 : kind = 2
  ·refine ACmp.no ((by simpa using ck2)) ?_; conv=>whnf
   have c2 : ¬(kind ≠ 1 ∧ kind ≠ 2) := fun c => c.2 ck2
   rw [if_neg c2] at hE'
   by_cases c3 : 1200 < data.length
   ·refine ACmp.yes ((by omega)) ?_; conv=>whnf
    have HF : 1200 < data.length ∨ c.log.last.1 = 9007199254740991 := .inl c3
    have HC := hE'.trans (if_pos HF)
    refine AStore.aggN rfl rfl rfl (k1) rfl (outCells out0 ox0) rfl fun h3 t3 k3 a3 e3 => ?_; conv=>whnf
    refine ALoad.agg rfl k3 rfl rfl ?_; conv=>whnf
    exact .inl ⟨by rw [HC]; decide, by rw [HC]; rfl, a3 h s1 n1⟩
   refine ACmp.no ((by omega)) ?_; conv=>whnf
   by_cases c4 : c.log.last.1 = 9007199254740991
   ·refine ACmp.yes (c4) ?_; conv=>whnf
    have HF : 1200 < data.length ∨ c.log.last.1 = 9007199254740991 := .inr c4
    have HC := hE'.trans (if_pos HF)
    refine AStore.aggN rfl rfl rfl (k1) rfl (outCells out0 ox0) rfl fun h3 t3 k3 a3 e3 => ?_; conv=>whnf
    refine ALoad.agg rfl k3 rfl rfl ?_; conv=>whnf
    exact .inl ⟨by rw [HC]; decide, by rw [HC]; rfl, a3 h s1 n1⟩
   refine ACmp.no (c4) ?_; conv=>whnf
   rw [if_neg (by omega)] at hE'
   refine ALoad.one rfl k.str rfl ?_; conv=>whnf
   refine AArith.ok (by omega) (by omega) (rfl) ?_; conv=>whnf
   by_cases c5 : 64 ≤ c.log.last.1 - c.commit
   ·refine ACmp.yes (c5) ?_; conv=>whnf
    have HC := hE'.trans (if_pos c5)
    refine AStore.aggN rfl rfl rfl (k1) rfl (outCells out0 ox0) rfl fun h3 t3 k3 a3 e3 => ?_; conv=>whnf
    refine ALoad.agg rfl k3 rfl rfl ?_; conv=>whnf
    exact .inl ⟨by rw [HC]; decide, by rw [HC]; rfl, a3 h s1 n1⟩
   refine ACmp.no (c5) ?_; conv=>whnf
   rw [if_neg c5] at hE'
   refine ACmp.yes (ck2) ?_; conv=>whnf
   have hch := changes_any k ok.lk ok.fc ok.sc (g.sub s1) hb
   refine ACalls.mono hch ?_
   clear hch
   cases hcc : c.changes data with
   | false =>
    rintro _ _ ⟨rfl, rfl⟩
    conv=>whnf
    have HC := hE'.trans (if_pos ⟨ck2, hcc⟩)
    refine AStore.aggN rfl rfl rfl (k1) rfl (outCells out0 ox0) rfl fun h3 t3 k3 a3 e3 => ?_; conv=>whnf
    refine ALoad.agg rfl k3 rfl rfl ?_; conv=>whnf
    exact .inl ⟨by rw [HC]; decide, by rw [HC]; rfl, a3 h s1 n1⟩
   | true =>
    rintro _ _ ⟨rfl, rfl⟩
    conv=>whnf
    have HZ := hE'.trans (if_neg fun c => by rw [hcc] at c; cases c.2)
    refine ACalls.mono (crewNow_any k ok.lk.lo ok.lk.by_) ?_; rintro _ _ ⟨rfl, rfl⟩; conv=>whnf
    refine ACalls.mono (put_any ap ⟨_, k⟩ ok.lk.lo (by omega) (by omega) kind (g.sub s1) (by omega) (by rw [hout]; simp [out0])) ?_; rintro _ h2 ⟨rfl, ⟨cx2, k2⟩, kk2⟩; conv=>whnf
    obtain ⟨dd, hdd⟩ : ∃ dd, dd = c.put kind data := ⟨_, rfl⟩
    obtain ⟨p1, p2, p3, p4, p5, p6, p7, p8⟩ := put_same c kind data
    have lk2 : LogOk dd := by rw [hdd]; exact ok.lk.put (by omega) (fun _ => hb)
    rw [CoreM.propose_eq, ← hdd]
    rw [← hdd] at k2 p1 p2 p3 p4 p5 p6 p7 p8
    refine ACalls.mono (crewNow_any k2 lk2.lo lk2.by_) ?_; rintro _ _ ⟨rfl, rfl⟩; conv=>whnf
    refine AInt.as rfl ?_; conv=>whnf
    refine ACalls.mono (listSome_any h2 (IntKind.i64.wrap ((BitVec.ofInt 64 dd.crewNow.1 &&& ~~~(BitVec.ofInt 64 c.crewNow.1)).toNat : Int)) (o + oo + 2)) ?_
    rintro v h3 ⟨al, cp, f, rfl, sl, hf, s3⟩
    conv=>whnf
    have hin := ls_in (IntKind.i64.wrap ((BitVec.ofInt 64 dd.crewNow.1 &&& ~~~(BitVec.ofInt 64 c.crewNow.1)).toNat : Int))
    have hll5 : (ls (m5 (IntKind.i64.wrap ((BitVec.ofInt 64 dd.crewNow.1 &&& ~~~(BitVec.ofInt 64 c.crewNow.1)).toNat : Int)))).length ≤ 5 := lsTo_len _ 5
    generalize ls (m5 (IntKind.i64.wrap ((BitVec.ofInt 64 dd.crewNow.1 &&& ~~~(BitVec.ofInt 64 c.crewNow.1)).toNat : Int))) = ll at sl hin hll5 ⊢
    refine ALoop.mk (fun e h' => ∃ e0, ∃ j : Nat, e = updL 122 e0 [(0, Ptr p), (7, Ptr b7), (13, I (c.log.last.1 + 1)), (89, .slice al ll.length cp), (90, I ll.length), (91, I j)] ∧ j ≤ ll.length ∧ PCore h' p o oo ((ll.take j).foldl (CoreM.fresh1 (c.log.last.1 + 1)) dd) ∧ Keeps [o, o + 1, oo] h1 h' ∧ Sl h' (f, 0) al ll.length cp 1 (ll.map I)) (fun e => ll.length - natOf (e 91))
     ⟨_, 0, updL_self ⟨rfl, rfl, rfl, rfl, rfl, rfl, trivial⟩, by omega, ⟨_, k2.sub s3⟩, kk2.trans (s3.keeps _), sl⟩ ?_
    rintro e h4 ⟨e0, j, rfl, hj, ⟨cx4, k4⟩, kk4, s4⟩
    conv=>whnf
    by_cases hjn : j < ll.length
    ·refine ACmp.yes (by omega) ?_; conv=>whnf
     obtain ⟨n, hn⟩ : ∃ n, ll[j]? = some n := ⟨ll[j]'hjn, by simp⟩
     obtain ⟨hn1, hn2⟩ := hin n (List.mem_of_getElem? hn)
     obtain ⟨m, hm⟩ : ∃ m : Nat, n = m := ⟨n.toNat, by omega⟩
     obtain ⟨b, off, l, E, fz, rfl, hbb, hc⟩ := s4.pos (by omega)
     have g0 : l[off + j * 1]? = some (I n) := by rw [get_of_take hc (by omega), Nat.mul_one]; simp [hn]
     refine AIdx.nat (z := 1) (j := j) rfl hjn rfl rfl ?_; conv=>whnf
     refine ALoad.one rfl hbb g0 ?_; conv=>whnf
     obtain ⟨e4, he4⟩ : ∃ e4, e4 = (ll.take j).foldl (CoreM.fresh1 (c.log.last.1 + 1)) dd := ⟨_, rfl⟩
     rw [← he4] at k4
     refine ADrawn.mkO (h4) [11] [0, 1, 2, 3, 4, 5, 6, 7, 8, 9, 10, 12, 13, 14, 17, 18, 19, 11, 15, 16, 20, 21] (Sub.refl _) (by decide +kernel) ?_; conv=>whnf
     refine AIdxA.nat (n := 6) (z := 1) (j := m) (by omega) (by omega) rfl rfl ?_; conv=>whnf
     refine AStore.oneN rfl rfl rfl k4.str (by have := next_cell e4 cx4 hn1 hn2; rw [show 0 + 14 + 1 + m * 1 = 15 + n.toNat by omega]; exact Nat.ble_eq_true_of_le (List.getElem?_eq_some_iff.1 this).1) (coreCells { e4 with next := e4.next.set n (c.log.last.1 + 1) } cx4) (by rw [show 0 + 14 + 1 + m * 1 = 15 + n.toNat by omega]; exact next_set e4 cx4 hn1 hn2 _) fun h5 t5 k5 a5 x5 => ?_; conv=>whnf
     refine AIdxA.nat (n := 6) (z := 1) (j := m) (by omega) (by omega) rfl rfl ?_; conv=>whnf
     refine AStore.oneN rfl rfl rfl k5 (by have := mtch_cell { e4 with next := e4.next.set n (c.log.last.1 + 1) } cx4 hn1 hn2; rw [show 0 + 14 + 7 + m * 1 = 21 + n.toNat by omega]; exact Nat.ble_eq_true_of_le (List.getElem?_eq_some_iff.1 this).1) (coreCells { e4 with next := e4.next.set n (c.log.last.1 + 1), mtch := e4.mtch.set n 0 } cx4) (by rw [show 0 + 14 + 7 + m * 1 = 21 + n.toNat by omega]; exact mtch_set { e4 with next := e4.next.set n (c.log.last.1 + 1) } cx4 hn1 hn2 _) fun h6 t6 k6 a6 x6 => ?_; conv=>whnf
     refine ⟨(fun b y e => by cases e), ?_⟩; conv=>whnf
     refine AIdxA.nat (n := 6) (z := 1) (j := m) (by omega) (by omega) rfl rfl ?_; conv=>whnf
     refine AStore.oneN rfl rfl rfl k6 (by have := heard_cell { e4 with next := e4.next.set n (c.log.last.1 + 1), mtch := e4.mtch.set n 0 } cx4 hn1 hn2; rw [show 0 + 14 + 13 + m * 1 = 27 + n.toNat by omega]; exact Nat.ble_eq_true_of_le (List.getElem?_eq_some_iff.1 this).1) (coreCells (e4.fresh1 (c.log.last.1 + 1) n) cx4) (by rw [show 0 + 14 + 13 + m * 1 = 27 + n.toNat by omega]; exact heard_set { e4 with next := e4.next.set n (c.log.last.1 + 1), mtch := e4.mtch.set n 0 } cx4 hn1 hn2 _) fun h7 t7 k7 a7 x7 => ?_; conv=>whnf
     refine ⟨(fun b y e => by cases e), ?_⟩; conv=>whnf
     have tt := t5.trans (t6.trans t7)
     have q7 := k4.set' (c' := e4.fresh1 (c.log.last.1 + 1) n) ap.a tt k7
     refine AArith.ok (by omega) (by omega) ((by omega : (j : Int) + 1 = ((j + 1 : Nat) : Int))) ?_; conv=>whnf
     have kt7 : Keeps [o, o + 1, oo] h4 h7 := tt.keep.keeps (by simp)
     refine ⟨⟨_, j + 1, updL_self ⟨rfl, rfl, rfl, rfl, rfl, rfl, trivial⟩, by omega, ?_, kk4.trans kt7, s4.keeps kt7 (by simp; omega)⟩, ?_⟩
     ·rw [List.take_succ_eq_append_getElem hjn, (List.getElem?_eq_some_iff.1 hn).2, List.foldl_append]
      rw [he4] at q7
      exact ⟨_, q7⟩
     ·show ll.length - (j + 1) < ll.length - j
      omega
    ·refine ACmp.no (by omega) ?_; conv=>whnf
     rw [List.take_of_length_le (by omega)] at k4
     obtain ⟨fa, fb, fd, fe, fh⟩ := freshes (c.log.last.1 + 1) ll dd hin
     obtain ⟨e4, he4⟩ : ∃ e4, e4 = ll.foldl (CoreM.fresh1 (c.log.last.1 + 1)) dd := ⟨_, rfl⟩
     rw [← he4] at k4 ⊢
     rw [← he4] at fe
     have lk4 : LogOk e4 := by rw [fe]; exact lk2.same rfl rfl
     have nk4 : NextOk e4 := fun n h1 h2 => by
      rw [fe]; show 0 ≤ fa.get n ∧ fa.get n ≤ _
      have := ok.nk n h1 h2
      rcases (fh n h1 h2).1 with z | z <;> rw [z]
      ·rw [p1]; exact this
      ·omega
     have o4 : e4.out.posts.length ≤ 999999990 := by rw [fe]; show dd.out.posts.length ≤ _; rw [p4, hout]; simp [out0]
     have sf4 : e4.self = c.self := by rw [fe]; exact p3
     refine ACalls.mono (sendAll_any ap ⟨_, k4⟩ lk4 nk4 o4) ?_; rintro _ h8 ⟨rfl, k8, kk8⟩; conv=>whnf
     obtain ⟨y1, _⟩ := sends_more e4.others e4
     refine ACalls.mono (rank_any ap k8 lk4.sendAll (by unfold CoreM.sendAll; rw [y1, sf4]; exact ok.s1) (by unfold CoreM.sendAll; rw [y1, sf4]; exact ok.s2)) ?_; rintro _ h9 ⟨rfl, k9, kk9⟩; conv=>whnf
     have KK : Keeps [o, o + 1, oo] h1 h9 := kk4.trans ((kk8.mono (by simp)).trans (kk9.keeps (by simp)))
     have kb : h9 b7 = some (row (0, 1) (outCells out0 ox0) 65) := KK _ _ _ (by have := ap.c; have := ap.d; simp; omega) k1
     refine ACalls.mono (done_any ap.a ap.c ap.d k9) ?_; rintro _ h11 ⟨ox, rfl, o11, q11, kk11⟩; conv=>whnf
     refine AStore.aggN rfl rfl rfl ((kk11.get (Ne.symm ap.c) kb)) rfl (outCells _ ox) rfl fun h12 t12 k12 a12 e12 => ?_; conv=>whnf
     refine ALoad.agg rfl k12 rfl rfl ?_; conv=>whnf
     exact .inr ⟨HZ, _, rfl, told_end ap n1 ((s1.keeps _).trans KK) kk11 o11 q11 t12 e12⟩
  ·refine ACmp.yes (ck2) ?_; conv=>whnf
   have HC := hE'.trans (if_pos ⟨ck1, ck2⟩)
   refine AStore.aggN rfl rfl rfl (k1) rfl (outCells out0 ox0) rfl fun h3 t3 k3 a3 e3 => ?_; conv=>whnf
   refine ALoad.agg rfl k3 rfl rfl ?_; conv=>whnf
   exact .inl ⟨by rw [HC]; decide, by rw [HC]; rfl, a3 h s1 n1⟩
end Go.Ah
namespace Go.Ah
open Go.Proofs
set_option linter.unusedVariables false
set_option linter.unusedSimpArgs false
set_option maxRecDepth 20000
def Idle (T : TypeId) (LP : Heap → Nat → Nat → LG → Prop) (h : Heap) (p o : Nat) (c : CoreM) : Prop :=
  ∃ x : CX, h p = some (row (o, 0) (coreCells c x) T) ∧ Own h (o, 3) 5 x.sd.a x.sd.n x.sd.c 1 (bytesV c.snap.data) ∧ LP h x.log (o + 1) c.log ∧ Own h (o, 4) 3 x.rd.a x.rd.n x.rd.c 1 (c.reads.map I) ∧ c.out = out0 ∧ ∀ h' oo, OutOk h' oo out0 x.ox
abbrev PIdle := Idle 81 LA
theorem Idle.all {T : TypeId} {LP : Heap → Nat → Nat → LG → Prop} {h : Heap} {p o : Nat} {c : CoreM} (k : Idle T LP h p o c) (oo : Nat) : CoreAt T LP h p o oo c := by
 obtain ⟨x, a, b, d, e, f, g⟩ := k
 exact ⟨x, a, b, d, e, by rw [f]; exact g h oo⟩
theorem own_two {h : Heap} {t u : Tag} {E : TypeId} {a a' : Option Addr} {n n' cap cap' z : Nat} {cs : List Value} (hn : t ≠ u) (ha : a = a') (hn2 : n = n') (hc : cap = cap') (x : Own h t E a n cap z cs) (y : Own h u E a' n' cap' z cs) : n = 0 ∧ cap = 0 ∧ cs = [] := by
 subst ha; subst hn2; subst hc
 rcases x with x | ⟨b, l, rfl, hb, _⟩
 ·exact x
 ·rcases y with y | ⟨b', l', e, hb', _⟩
  ·exact y
  ·cases e
   rw [hb] at hb'
   exact absurd (by cases hb'; rfl) hn
theorem Idle.of {T : TypeId} {LP : Heap → Nat → Nat → LG → Prop} {h : Heap} {p o : Nat} {c : CoreM} (k : ∀ oo, oo ≠ 0 → CoreAt T LP h p o oo c) (hc : c.out = out0) : Idle T LP h p o c := by
 obtain ⟨x, k1⟩ := k 1 (by omega)
 obtain ⟨y, k2⟩ := k 2 (by omega)
 have e := k1.str.symm.trans k2.str
 have e2 : coreCells c x = coreCells c y := by
  have := Option.some.inj e
  simp only [row, Prod.mk.injEq, Obj.cells.injEq, true_and, and_true] at this
  simpa using this
 simp only [coreCells, List.cons.injEq, Value.slice.injEq, true_and, and_true] at e2
 obtain ⟨_, _, _, _, _, _, d1, d2, d3, d4⟩ := e2
 have o1 := k1.out
 have o2 := k2.out
 rw [hc] at o1 o2
 have ne : ∀ r s : Nat, ((1, r) : Tag) ≠ (2, s) := fun r s c => by cases c
 have e3 : x.ox.es = [] := List.map_eq_nil_iff.1 o1.ea
 have e4 : x.ox.ps = [] := List.map_eq_nil_iff.1 o1.pa
 have e5 : y.ox.es = [] := List.map_eq_nil_iff.1 o2.ea
 have e6 : y.ox.ps = [] := List.map_eq_nil_iff.1 o2.pa
 have w1 := own_two (ne 6 6) d1.1 d1.2.1 d1.2.2 o1.od o2.od
 have w2 := o1.oe; have w2' := o2.oe
 have w3 := o1.op; have w3' := o2.op
 rw [e3] at w2; rw [e5] at w2'; rw [e4] at w3; rw [e6] at w3'
 have w2 := own_two (ne 1 1) d2.1 d2.2.1 d2.2.2 w2 w2'
 have w3 := own_two (ne 3 3) d3.1 d3.2.1 d3.2.2 w3 w3'
 have w4 := own_two (ne 7 7) d4.1 d4.2.1 d4.2.2 o1.qr o2.qr
 refine ⟨x, k1.str, k1.sd, k1.log, k1.rd, hc, fun h' oo => ⟨.inl ⟨w1.1, w1.2.1, rfl⟩, by rw [e3]; exact .inl ⟨w2.1, w2.2.1, rfl⟩, by rw [e3]; simp, by rw [e3]; rfl, by rw [e3]; simp, by rw [e4]; exact .inl ⟨w3.1, w3.2.1, rfl⟩, by rw [e4]; simp, by rw [e4]; rfl, .inl ⟨w4.1, w4.2.1, rfl⟩⟩⟩
theorem Idle.keeps {T : TypeId} {LP : Heap → Nat → Nat → LG → Prop} [Moves LP] {h h' : Heap} {p o : Nat} {c : CoreM} {os : List Nat} (k : Idle T LP h p o c) (m : Keeps os h h') (h1 : o ∉ os) (h2 : o + 1 ∉ os) : Idle T LP h' p o c := by
 obtain ⟨x, a, b, d, e, f, g⟩ := k
 exact ⟨x, m _ _ _ h1 a, b.move fun _ _ e => m _ _ _ h1 e, Moves.move d fun _ _ _ ht e => m _ _ _ (by rw [ht]; exact h2) e, e.move fun _ _ e => m _ _ _ h1 e, f, g⟩
theorem rwithin_any (h : Heap) (a b c : Int) : ACalls PR 66 #[I a, I b, I c] h (fun v h' => v = .bool (decide (b ≤ a ∧ a ≤ c)) ∧ h = h') := by
 refine acalls_pure (acalls_of mix Tryz.func66 rfl rfl Tryz.ntmps66 Tryz.results66 rfl ?_); conv=>whnf
 by_cases c1 : b ≤ a
 ·refine ACmp.yes (c1) ?_; conv=>whnf
  by_cases c2 : a ≤ c
  ·refine ACmp.yes (c2) ?_; conv=>whnf
   exact ⟨by rw [decide_eq_true ⟨c1, c2⟩], Sub.refl _⟩
  ·refine ACmp.no (c2) ?_; conv=>whnf
   exact ⟨by rw [decide_eq_false fun c => c2 c.2], Sub.refl _⟩
 ·refine ACmp.no (c1) ?_; conv=>whnf
  exact ⟨by rw [decide_eq_false fun c => c1 c.1], Sub.refl _⟩
theorem rwithin_yes (h : Heap) {a b c : Int} (p : b ≤ a ∧ a ≤ c) : ACalls PR 66 #[I a, I b, I c] h (fun v h' => v = .bool true ∧ h = h') := by
 have := rwithin_any h a b c; rw [decide_eq_true p] at this; exact this
theorem rwithin_no (h : Heap) {a b c : Int} (p : ¬(b ≤ a ∧ a ≤ c)) : ACalls PR 66 #[I a, I b, I c] h (fun v h' => v = .bool false ∧ h = h') := by
 have := rwithin_any h a b c; rw [decide_eq_false p] at this; exact this
theorem Crew_any {h : Heap} {p o oo : Nat} {c : CoreM} {x : CX} (k : CoreX 81 LA h p o oo c x) (lk : LogOk c) : ACalls PR 29 #[Ptr p] h (fun v h' => v = I c.crewNow.1 ∧ h = h') := by
 refine acalls_pure (acalls_of mix Tryz.func29 rfl rfl Tryz.ntmps29 Tryz.results29 rfl ?_); conv=>whnf
 refine ACalls.mono (none_core k) ?_; rintro _ _ ⟨rfl, rfl⟩; conv=>whnf
 refine ACalls.mono (crewNow_any k lk.lo lk.by_) ?_; rintro _ _ ⟨rfl, rfl⟩; conv=>whnf
 exact ⟨rfl, Sub.refl _⟩
theorem LG.compact_ok {L : LG} {i : Int} (lo : LOk L) (h1 : L.bi < i) (h2 : i ≤ L.bi + L.es.length) : (L.compact i).1 = 0 := by
 unfold LG.compact
 obtain ⟨e, he⟩ := spot_some_of h1 h2
 rw [he]
set_option maxHeartbeats 4000000 in
theorem Compact_any {h : Heap} {p o oo : Nat} {c : CoreM} (ap : Apart o oo) (k : PIdle h p o c) (ok : COk c) (hbi : c.log.bi ≤ c.snap.index) (hsi : c.snap.index ≤ 9007199254740991) (i : Int) {t : Tag} {d : SlV} {data : List Int} (g : Sl h t d.a d.n d.c 1 (bytesV data)) (ht : t.1 ≠ o + 1) (hdn : d.n ≤ 140737488355328) :
  ACalls PR 27 #[Ptr p, I i, .slice d.a d.n d.c] h (fun v h' => (c.compactE i data ≠ 0 ∧ v = .tuple #[.agg #[I 0, I 0, I 0, .slice none 0 0], I (c.compactE i data)] ∧ Sub h h') ∨
   (c.compactE i data = 0 ∧ ∃ a n cc, v = .tuple #[.agg #[I i, I (c.compact i data).snap.term, I (c.compact i data).snap.crew, .slice a n cc], I 0] ∧ Own h' (oo, 6) 5 a n cc 1 (bytesV data) ∧ PIdle h' p o (c.compact i data) ∧ Keeps [o, o + 1, oo] h h')) := by
 obtain ⟨cx, i1, i2, i3, i4, i5, i6⟩ := k
 have k0 : CoreX 81 LA h p o oo c cx := ⟨i1, i2, i3, i4, by rw [i5]; exact i6 h oo⟩
 have hdl : data.length = d.n := by have := g.len; simpa [bytesV] using this
 have hl := ok.lk.lo.last
 have ht2 := ok.lk.lo.top
 have hl0 := ok.lk.lo.lo
 have hes := ok.es
 have hout := ok.out
 obtain ⟨E, hE⟩ : ∃ E, E = c.compactE i data := ⟨_, rfl⟩
 have hE' := hE
 unfold CoreM.compactE at hE'
 rw [← hE]
 refine acalls_of mix Tryz.func27 rfl rfl Tryz.ntmps27 Tryz.results27 rfl ?_; conv=>whnf
 refine AAlloc.mkN (0, 1) ([I 0, I 0, I 0, .slice none 0 0]) rfl fun b6 h1 n1 s1 k1 => ?_; conv=>whnf
 have k := k0.sub s1
 refine ACalls.mono (none_core k) ?_; rintro _ _ ⟨rfl, rfl⟩; conv=>whnf
 refine ALoad.one rfl k.str rfl ?_; conv=>whnf
 refine ACalls.mono (Last_c k.log ok.lk.lo) ?_; rintro _ _ ⟨rfl, rfl⟩; conv=>whnf
 refine ADrawn.mk (h1) [] (Sub.refl _) (by decide +kernel) ?_; conv=>whnf
 refine ALoad.one rfl k.str rfl ?_; conv=>whnf
 refine AArith.ok (by omega) (by omega) (rfl) ?_; conv=>whnf
 refine ALoad.one rfl k.str rfl ?_; conv=>whnf
 refine AInt.as (show _ = minI c.commit c.log.last.1 from rfl) ?_; conv=>whnf
 by_cases c1 : c.snap.index + 1 ≤ i ∧ i ≤ minI c.commit c.log.last.1
 ·refine ACalls.mono (rwithin_yes h1 c1) ?_; rintro _ _ ⟨rfl, rfl⟩; conv=>whnf
  refine ⟨Sub.refl _, ?_⟩; conv=>whnf
  rw [if_neg (by simpa using c1)] at hE'
  by_cases c2 : 8192 < data.length
  ·refine ACmp.yes ((by omega)) ?_; conv=>whnf
   have HC := hE'.trans (if_pos c2)
   refine AStore.aggN rfl rfl rfl (k1) rfl ([I 0, I 0, I 0, .slice none 0 0]) rfl fun h3 t3 k3 a3 e3 => ?_; conv=>whnf
   refine ALoad.agg rfl k3 rfl rfl ?_; conv=>whnf
   exact .inl ⟨by rw [HC]; decide, by rw [HC], a3 h s1 n1⟩
  refine ACmp.no ((by omega)) ?_; conv=>whnf
  rw [if_neg c2] at hE'
  have hi2 : i ≤ c.log.bi + c.log.es.length := by
   have := c1.2; unfold minI at this; split at this <;> omega
  rw [LG.compact_ok ok.lk.lo (by omega) hi2] at hE'
  refine ACalls.mono (crewUpTo_any k ok.lk.lo ok.lk.by_ i hi2) ?_; rintro _ _ ⟨rfl, rfl⟩; conv=>whnf
  refine ALoad.one rfl k.str rfl ?_; conv=>whnf
  refine ACalls.mono (Term_c k.log ok.lk.lo i) ?_; rintro _ _ ⟨rfl, rfl⟩; conv=>whnf
  refine ALoad.one rfl k.str rfl ?_; conv=>whnf
  refine ACalls.mono (Compact_c (by omega) k.log ok.lk.lo i (by omega)) ?_; rintro _ h2 ⟨rfl, l2, kk2⟩; conv=>whnf
  rw [LG.compact_ok ok.lk.lo (by omega) hi2]
  refine ACmp.no ((by decide)) ?_; conv=>whnf
  have g2 := (g.sub s1).keep kk2 ht
  refine ACalls.mono (cloned_any h2 (o, 3) (fun c => ap.c (congrArg Prod.fst c)) (i := i) (tm := (c.log.term i).1) (cr := (c.crewUpTo i).1) (d := d) g2 hdn) ?_
  rintro v h3 ⟨a3, c3, rfl, ow3, s3⟩
  conv=>whnf
  have p3 := s3 _ _ (kk2.get (by simp) k.str)
  refine AStore.aggN rfl rfl rfl (p3) rfl (coreCells (c.compact i data) { cx with sd := ⟨a3, d.n, c3⟩ }) rfl fun h4 t4 k4 a4 e4 => ?_; conv=>whnf
  have q4 : CoreX 81 LA h4 p o oo (c.compact i data) { cx with sd := ⟨a3, d.n, c3⟩ } := by
   refine ⟨k4, ow3.keepT t4 (by simp), KeepT.log (Moves.move l2 fun _ _ _ _ e => s3 _ _ e) t4, ((k.rd.move fun _ _ e => kk2.get (by simp) e).move fun _ _ e => s3 _ _ e).keepT t4 (by simp), ?_⟩
   exact ((k.out.move fun b t y ht e => kk2 _ _ _ (by rw [ht]; exact ap.b.symm) e).move fun _ _ _ _ e => s3 _ _ e).keepT ap.a t4
  refine ALoad.agg rfl q4.str rfl rfl ?_; conv=>whnf
  refine ACalls.mono (cloned_any h4 (oo, 6) (fun c => ap.d (congrArg Prod.fst c)) (i := i) (tm := (c.log.term i).1) (cr := (c.crewUpTo i).1) (d := ⟨a3, d.n, c3⟩) q4.sd.sl hdn) ?_
  rintro v h5 ⟨a5, c5, rfl, ow5, s5⟩
  conv=>whnf
  have KK4 : Keeps [o, o + 1, oo] h1 h4 := (kk2.keeps (by simp)).trans ((s3.keeps _).trans (t4.keep.keeps (by simp)))
  have kb : h5 b6 = some (row (0, 1) [I 0, I 0, I 0, .slice none 0 0] 31) := s5 _ _ (KK4 _ _ _ (by have := ap.c; have := ap.d; simp; omega) k1)
  refine AStore.aggN rfl rfl rfl (kb) rfl ([I i, I (c.log.term i).1, I (c.crewUpTo i).1, .slice a5 d.n c5]) rfl fun h6 t6 k6 a6 e6 => ?_; conv=>whnf
  refine ALoad.agg rfl k6 rfl rfl ?_; conv=>whnf
  refine .inr ⟨hE', a5, d.n, c5, rfl, ow5.keepT t6 (fun c => ap.d (congrArg Prod.fst c)), ?_, fun b t y hb e => e6 _ _ (fun hc => by rw [hc, n1] at e; cases e) (s5 _ _ (KK4 _ _ _ hb (s1 _ _ e)))⟩
  have q5 := q4.sub s5
  exact ⟨{ cx with sd := ⟨a3, d.n, c3⟩ }, t6.get (u := (o, 0)) (Ne.symm (tag_ne ap.c)) q5.str, q5.sd.keepT t6 (Ne.symm (tag_ne ap.c)), Moves.move q5.log fun _ t _ ht e => t6 _ _ _ (fun c => by rw [c] at ht; simp at ht) e, q5.rd.keepT t6 (Ne.symm (tag_ne ap.c)), hout, i6⟩
 ·refine ACalls.mono (rwithin_no h1 c1) ?_; rintro _ _ ⟨rfl, rfl⟩; conv=>whnf
  refine ⟨Sub.refl _, ?_⟩; conv=>whnf
  have HC := hE'.trans (if_pos c1)
  refine AStore.aggN rfl rfl rfl (k1) rfl ([I 0, I 0, I 0, .slice none 0 0]) rfl fun h3 t3 k3 a3 e3 => ?_; conv=>whnf
  refine ALoad.agg rfl k3 rfl rfl ?_; conv=>whnf
  exact .inl ⟨by rw [HC]; decide, by rw [HC], a3 h s1 n1⟩
end Go.Ah
namespace Go.Ah
open Go.Proofs
set_option linter.unusedVariables false
set_option linter.unusedSimpArgs false
set_option maxRecDepth 20000
structure SH where
  term : Int
  vote : Int
  si : Int
  st : Int
  sc : Int
  d : SlV
  data : List Int
  e : SlV
  es : List EH
def SH.cells (x : SH) : List Value := [I x.term, I x.vote, I x.si, I x.st, I x.sc, .slice x.d.a x.d.n x.d.c, .slice x.e.a x.e.n x.e.c]
def SH.abs (x : SH) : SavedM := ⟨x.term, x.vote, ⟨x.si, x.st, x.sc, x.data⟩, x.es.map EH.abs⟩
structure SH.Ok (h : Heap) (t1 t2 t3 : Tag) (x : SH) : Prop where
  es : Ents h t1 t2 x.e.a x.e.n x.e.c x.es
  sd : Sl h t3 x.d.a x.d.n x.d.c 1 (bytesV x.data)
def SH.snapB (x : SH) : Bool := decide (x.si = 0 ∧ x.st = 0 ∧ x.sc = 0 ∧ x.data = []) || (decide (0 < x.si) && decide (1 ≤ x.st ∧ x.st ≤ x.term) && decide (cchk x.sc = 0))
theorem may_eq (x : SH) : x.abs.may = (numB x.term && decide (0 ≤ x.vote ∧ x.vote ≤ 5) && x.snapB && !(x.es.any fun e => decide (x.term < e.term)) && crewsMay (x.es.map EH.abs)) := by
 have e1 : (x.es.map EH.abs).all (fun e => decide (e.1 ≤ x.term)) = !x.es.any (fun e => decide (x.term < e.term)) := by
  rw [List.all_map, List.not_any_eq_all_not]
  congr 1
  funext e
  show decide (e.term ≤ x.term) = !decide (x.term < e.term)
  rw [← decide_not, decide_eq_decide]; omega
 show (numB x.term && decide (0 ≤ x.vote ∧ x.vote ≤ 5) && x.snapB && (x.es.map EH.abs).all (fun e => decide (e.1 ≤ x.term)) && crewsMay (x.es.map EH.abs)) = _
 rw [e1]
set_option maxHeartbeats 8000000 in
theorem savedMay_any {h : Heap} {t1 t2 t3 : Tag} {x : SH} (k : x.Ok h t1 t2 t3) (by_ : ∀ e ∈ x.es, ∀ z ∈ e.data, 0 ≤ z ∧ z < 256) (hc0 : -9223372036854775808 ≤ x.sc) (hc1 : x.sc ≤ 9223372036854775807) (hn : x.e.n ≤ 4611686018427387904) :
  ACalls PR 76 #[.agg x.cells.toArray] h (fun v h' => v = .bool x.abs.may ∧ h = h') := by
 have hd : x.data.length = x.d.n := by have := k.sd.len; simpa [bytesV] using this
 have hd0 : x.data = [] ↔ x.d.n = 0 := by rw [← hd, List.length_eq_zero_iff]
 have hR := may_eq x
 generalize x.abs.may = R at hR ⊢
 obtain ⟨S, hS⟩ : ∃ S, S = x.snapB := ⟨_, rfl⟩
 obtain ⟨L, hL⟩ : ∃ L, L = x.es.any fun e => decide (x.term < e.term) := ⟨_, rfl⟩
 obtain ⟨W, hW⟩ : ∃ W, W = crewsMay (x.es.map EH.abs) := ⟨_, rfl⟩
 rw [← hS, ← hL, ← hW] at hR
 unfold SH.snapB at hS
 refine acalls_pure (acalls_of mix Tryz.func76 rfl rfl Tryz.ntmps76 Tryz.results76 rfl ?_); conv=>whnf
 refine ABox.mkN (0, 1) (x.cells) rfl fun b1 h1 n1 s1 k1 => ?_; conv=>whnf
 refine ALoad.agg rfl k1 rfl rfl ?_; conv=>whnf
 refine AAlloc.mkN (0, 1) ([I 0, I 0, I 0, .slice none 0 0]) rfl fun b3 h2 n2 s2 k2 => ?_; conv=>whnf
 refine AStore.aggN rfl rfl rfl (k2) rfl ([I x.si, I x.st, I x.sc, .slice x.d.a x.d.n x.d.c]) rfl fun h3 t3' k3 a3 e3 => ?_; conv=>whnf
 have b13 : b1 ≠ b3 := fun c => by rw [c, n2] at k1; cases k1
 have k13 := e3 _ _ b13 (s2 _ _ k1)
 have hb3 : h b3 = none := by
  cases e : h b3 with
  | none => rfl
  | some y => rw [s1 _ _ e] at n2; cases n2
 have s3 : Sub h h3 := a3 h (s1.trans s2) hb3
 have X3 := k.es.sub s3
 clear s1 s2 k1 k2 n1 n2 t3' a3 e3
 have A : AsksE 151 [Ptr b1] x.es (fun e => decide (x.term < e.term)) h3 := by
  intro e he h' s
  refine acalls_pure (acalls_of mix Tryz.func151 rfl rfl Tryz.ntmps151 Tryz.results151 rfl ?_); conv=>whnf
  refine ABox.mkN (0, 1) (e.cells) rfl fun b5 h5 n5 s5 k5 => ?_; conv=>whnf
  refine ALoad.one rfl k5 rfl ?_; conv=>whnf
  refine ALoad.one rfl (s5 _ _ (s _ _ k13)) rfl ?_; conv=>whnf
  refine ACmp.dec ?_; conv=>whnf
  exact ⟨rfl, s5⟩
 have hlate := ContainsE_any A X3 hn
 rw [← hL] at hlate
 have hcm := crewsMay_any X3 hn by_
 rw [← hW] at hcm
 refine ALoad.one rfl k3 rfl ?_; conv=>whnf
 by_cases c1 : x.si = 0
 ·refine ACmp.yes (c1) ?_; conv=>whnf
  refine ALoad.one rfl k3 rfl ?_; conv=>whnf
  by_cases c2 : x.st = 0
  ·refine ACmp.yes (c2) ?_; conv=>whnf
   refine ALoad.one rfl k3 rfl ?_; conv=>whnf
   by_cases c3 : x.sc = 0
   ·refine ACmp.yes (c3) ?_; conv=>whnf
    refine ALoad.one rfl k3 rfl ?_; conv=>whnf
    by_cases c4 : x.d.n = 0
    ·refine ACmp.yes ((by omega)) ?_; conv=>whnf
     have HS : S = true := by rw [hS, decide_eq_true ⟨c1, c2, c3, hd0.2 c4⟩]; rfl
     refine ALoad.one rfl k13 rfl ?_; conv=>whnf
     refine ACalls.mono hlate ?_
     clear hlate
     cases L with
     | true =>
      rintro _ _ ⟨rfl, rfl⟩
      conv=>whnf
      refine ALoad.one rfl k13 rfl ?_; conv=>whnf
      by_cases a1 : 0 ≤ x.term ∧ x.term ≤ 9007199254740991
      ·refine ACalls.mono (rwithin_yes h3 a1) ?_; rintro _ _ ⟨rfl, rfl⟩; conv=>whnf
       refine ALoad.one rfl k13 rfl ?_; conv=>whnf
       by_cases a2 : 0 ≤ x.vote ∧ x.vote ≤ 5
       ·refine ACalls.mono (rwithin_yes h3 a2) ?_; rintro _ _ ⟨rfl, rfl⟩; conv=>whnf
        exact ⟨by rw [hR]; simp, s3⟩
       ·refine ACalls.mono (rwithin_no h3 a2) ?_; rintro _ _ ⟨rfl, rfl⟩; conv=>whnf
        exact ⟨by rw [hR]; simp, s3⟩
      ·refine ACalls.mono (rwithin_no h3 a1) ?_; rintro _ _ ⟨rfl, rfl⟩; conv=>whnf
       exact ⟨by rw [hR]; simp, s3⟩
     | false =>
      rintro _ _ ⟨rfl, rfl⟩
      conv=>whnf
      refine ALoad.one rfl k13 rfl ?_; conv=>whnf
      by_cases a1 : 0 ≤ x.term ∧ x.term ≤ 9007199254740991
      ·refine ACalls.mono (rwithin_yes h3 a1) ?_; rintro _ _ ⟨rfl, rfl⟩; conv=>whnf
       refine ALoad.one rfl k13 rfl ?_; conv=>whnf
       by_cases a2 : 0 ≤ x.vote ∧ x.vote ≤ 5
       ·refine ACalls.mono (rwithin_yes h3 a2) ?_; rintro _ _ ⟨rfl, rfl⟩; conv=>whnf
        first
         |exact ⟨by rw [hR, HS]; simp, s3⟩
         |refine ALoad.one rfl k13 rfl ?_
          conv=>whnf
          refine ACalls.mono hcm ?_
          clear hcm
          cases W with
          | false =>
           rintro _ _ ⟨rfl, rfl⟩
           conv=>whnf
           exact ⟨by rw [hR]; simp, s3⟩
          | true =>
           rintro _ _ ⟨rfl, rfl⟩
           conv=>whnf
           exact ⟨by rw [hR, HS, show numB x.term = true from decide_eq_true a1, decide_eq_true a2]; rfl, s3⟩
       ·refine ACalls.mono (rwithin_no h3 a2) ?_; rintro _ _ ⟨rfl, rfl⟩; conv=>whnf
        exact ⟨by rw [hR, decide_eq_false a2]; simp, s3⟩
      ·refine ACalls.mono (rwithin_no h3 a1) ?_; rintro _ _ ⟨rfl, rfl⟩; conv=>whnf
       exact ⟨by rw [hR, show numB x.term = false from decide_eq_false a1]; simp, s3⟩
    ·refine ACmp.no ((by omega)) ?_; conv=>whnf
     refine ALoad.one rfl k3 rfl ?_; conv=>whnf
     refine ACmp.no ((by omega)) ?_; conv=>whnf
     have HS : S = false := by rw [hS, decide_eq_false (fun c => c4 (hd0.1 c.2.2.2)), decide_eq_false (show ¬ 0 < x.si by omega)]; rfl
     refine ALoad.one rfl k13 rfl ?_; conv=>whnf
     refine ACalls.mono hlate ?_
     clear hlate
     cases L with
     | true =>
      rintro _ _ ⟨rfl, rfl⟩
      conv=>whnf
      refine ALoad.one rfl k13 rfl ?_; conv=>whnf
      by_cases a1 : 0 ≤ x.term ∧ x.term ≤ 9007199254740991
      ·refine ACalls.mono (rwithin_yes h3 a1) ?_; rintro _ _ ⟨rfl, rfl⟩; conv=>whnf
       refine ALoad.one rfl k13 rfl ?_; conv=>whnf
       by_cases a2 : 0 ≤ x.vote ∧ x.vote ≤ 5
       ·refine ACalls.mono (rwithin_yes h3 a2) ?_; rintro _ _ ⟨rfl, rfl⟩; conv=>whnf
        exact ⟨by rw [hR]; simp, s3⟩
       ·refine ACalls.mono (rwithin_no h3 a2) ?_; rintro _ _ ⟨rfl, rfl⟩; conv=>whnf
        exact ⟨by rw [hR]; simp, s3⟩
      ·refine ACalls.mono (rwithin_no h3 a1) ?_; rintro _ _ ⟨rfl, rfl⟩; conv=>whnf
       exact ⟨by rw [hR]; simp, s3⟩
     | false =>
      rintro _ _ ⟨rfl, rfl⟩
      conv=>whnf
      refine ALoad.one rfl k13 rfl ?_; conv=>whnf
      by_cases a1 : 0 ≤ x.term ∧ x.term ≤ 9007199254740991
      ·refine ACalls.mono (rwithin_yes h3 a1) ?_; rintro _ _ ⟨rfl, rfl⟩; conv=>whnf
       refine ALoad.one rfl k13 rfl ?_; conv=>whnf
       by_cases a2 : 0 ≤ x.vote ∧ x.vote ≤ 5
       ·refine ACalls.mono (rwithin_yes h3 a2) ?_; rintro _ _ ⟨rfl, rfl⟩; conv=>whnf
        first
         |exact ⟨by rw [hR, HS]; simp, s3⟩
         |refine ALoad.one rfl k13 rfl ?_
          conv=>whnf
          refine ACalls.mono hcm ?_
          clear hcm
          cases W with
          | false =>
           rintro _ _ ⟨rfl, rfl⟩
           conv=>whnf
           exact ⟨by rw [hR]; simp, s3⟩
          | true =>
           rintro _ _ ⟨rfl, rfl⟩
           conv=>whnf
           exact ⟨by rw [hR, HS, show numB x.term = true from decide_eq_true a1, decide_eq_true a2]; rfl, s3⟩
       ·refine ACalls.mono (rwithin_no h3 a2) ?_; rintro _ _ ⟨rfl, rfl⟩; conv=>whnf
        exact ⟨by rw [hR, decide_eq_false a2]; simp, s3⟩
      ·refine ACalls.mono (rwithin_no h3 a1) ?_; rintro _ _ ⟨rfl, rfl⟩; conv=>whnf
       exact ⟨by rw [hR, show numB x.term = false from decide_eq_false a1]; simp, s3⟩
   ·refine ACmp.no (c3) ?_; conv=>whnf
    refine ALoad.one rfl k3 rfl ?_; conv=>whnf
    refine ACmp.no ((by omega)) ?_; conv=>whnf
    have HS : S = false := by rw [hS, decide_eq_false (fun c => c3 c.2.2.1), decide_eq_false (show ¬ 0 < x.si by omega)]; rfl
    refine ALoad.one rfl k13 rfl ?_; conv=>whnf
    refine ACalls.mono hlate ?_
    clear hlate
    cases L with
    | true =>
     rintro _ _ ⟨rfl, rfl⟩
     conv=>whnf
     refine ALoad.one rfl k13 rfl ?_; conv=>whnf
     by_cases a1 : 0 ≤ x.term ∧ x.term ≤ 9007199254740991
     ·refine ACalls.mono (rwithin_yes h3 a1) ?_; rintro _ _ ⟨rfl, rfl⟩; conv=>whnf
      refine ALoad.one rfl k13 rfl ?_; conv=>whnf
      by_cases a2 : 0 ≤ x.vote ∧ x.vote ≤ 5
      ·refine ACalls.mono (rwithin_yes h3 a2) ?_; rintro _ _ ⟨rfl, rfl⟩; conv=>whnf
       exact ⟨by rw [hR]; simp, s3⟩
      ·refine ACalls.mono (rwithin_no h3 a2) ?_; rintro _ _ ⟨rfl, rfl⟩; conv=>whnf
       exact ⟨by rw [hR]; simp, s3⟩
     ·refine ACalls.mono (rwithin_no h3 a1) ?_; rintro _ _ ⟨rfl, rfl⟩; conv=>whnf
      exact ⟨by rw [hR]; simp, s3⟩
    | false =>
     rintro _ _ ⟨rfl, rfl⟩
     conv=>whnf
     refine ALoad.one rfl k13 rfl ?_; conv=>whnf
     by_cases a1 : 0 ≤ x.term ∧ x.term ≤ 9007199254740991
     ·refine ACalls.mono (rwithin_yes h3 a1) ?_; rintro _ _ ⟨rfl, rfl⟩; conv=>whnf
      refine ALoad.one rfl k13 rfl ?_; conv=>whnf
      by_cases a2 : 0 ≤ x.vote ∧ x.vote ≤ 5
      ·refine ACalls.mono (rwithin_yes h3 a2) ?_; rintro _ _ ⟨rfl, rfl⟩; conv=>whnf
       first
        |exact ⟨by rw [hR, HS]; simp, s3⟩
        |refine ALoad.one rfl k13 rfl ?_
         conv=>whnf
         refine ACalls.mono hcm ?_
         clear hcm
         cases W with
         | false =>
          rintro _ _ ⟨rfl, rfl⟩
          conv=>whnf
          exact ⟨by rw [hR]; simp, s3⟩
         | true =>
          rintro _ _ ⟨rfl, rfl⟩
          conv=>whnf
          exact ⟨by rw [hR, HS, show numB x.term = true from decide_eq_true a1, decide_eq_true a2]; rfl, s3⟩
      ·refine ACalls.mono (rwithin_no h3 a2) ?_; rintro _ _ ⟨rfl, rfl⟩; conv=>whnf
       exact ⟨by rw [hR, decide_eq_false a2]; simp, s3⟩
     ·refine ACalls.mono (rwithin_no h3 a1) ?_; rintro _ _ ⟨rfl, rfl⟩; conv=>whnf
      exact ⟨by rw [hR, show numB x.term = false from decide_eq_false a1]; simp, s3⟩
  ·refine ACmp.no (c2) ?_; conv=>whnf
   refine ALoad.one rfl k3 rfl ?_; conv=>whnf
   refine ACmp.no ((by omega)) ?_; conv=>whnf
   have HS : S = false := by rw [hS, decide_eq_false (fun c => c2 c.2.1), decide_eq_false (show ¬ 0 < x.si by omega)]; rfl
   refine ALoad.one rfl k13 rfl ?_; conv=>whnf
   refine ACalls.mono hlate ?_
   clear hlate
   cases L with
   | true =>
    rintro _ _ ⟨rfl, rfl⟩
    conv=>whnf
    refine ALoad.one rfl k13 rfl ?_; conv=>whnf
    by_cases a1 : 0 ≤ x.term ∧ x.term ≤ 9007199254740991
    ·refine ACalls.mono (rwithin_yes h3 a1) ?_; rintro _ _ ⟨rfl, rfl⟩; conv=>whnf
     refine ALoad.one rfl k13 rfl ?_; conv=>whnf
     by_cases a2 : 0 ≤ x.vote ∧ x.vote ≤ 5
     ·refine ACalls.mono (rwithin_yes h3 a2) ?_; rintro _ _ ⟨rfl, rfl⟩; conv=>whnf
      exact ⟨by rw [hR]; simp, s3⟩
     ·refine ACalls.mono (rwithin_no h3 a2) ?_; rintro _ _ ⟨rfl, rfl⟩; conv=>whnf
      exact ⟨by rw [hR]; simp, s3⟩
    ·refine ACalls.mono (rwithin_no h3 a1) ?_; rintro _ _ ⟨rfl, rfl⟩; conv=>whnf
     exact ⟨by rw [hR]; simp, s3⟩
   | false =>
    rintro _ _ ⟨rfl, rfl⟩
    conv=>whnf
    refine ALoad.one rfl k13 rfl ?_; conv=>whnf
    by_cases a1 : 0 ≤ x.term ∧ x.term ≤ 9007199254740991
    ·refine ACalls.mono (rwithin_yes h3 a1) ?_; rintro _ _ ⟨rfl, rfl⟩; conv=>whnf
     refine ALoad.one rfl k13 rfl ?_; conv=>whnf
     by_cases a2 : 0 ≤ x.vote ∧ x.vote ≤ 5
     ·refine ACalls.mono (rwithin_yes h3 a2) ?_; rintro _ _ ⟨rfl, rfl⟩; conv=>whnf
      first
       |exact ⟨by rw [hR, HS]; simp, s3⟩
       |refine ALoad.one rfl k13 rfl ?_
        conv=>whnf
        refine ACalls.mono hcm ?_
        clear hcm
        cases W with
        | false =>
         rintro _ _ ⟨rfl, rfl⟩
         conv=>whnf
         exact ⟨by rw [hR]; simp, s3⟩
        | true =>
         rintro _ _ ⟨rfl, rfl⟩
         conv=>whnf
         exact ⟨by rw [hR, HS, show numB x.term = true from decide_eq_true a1, decide_eq_true a2]; rfl, s3⟩
     ·refine ACalls.mono (rwithin_no h3 a2) ?_; rintro _ _ ⟨rfl, rfl⟩; conv=>whnf
      exact ⟨by rw [hR, decide_eq_false a2]; simp, s3⟩
    ·refine ACalls.mono (rwithin_no h3 a1) ?_; rintro _ _ ⟨rfl, rfl⟩; conv=>whnf
     exact ⟨by rw [hR, show numB x.term = false from decide_eq_false a1]; simp, s3⟩
 ·refine ACmp.no (c1) ?_; conv=>whnf
  refine ALoad.one rfl k3 rfl ?_; conv=>whnf
  rw [decide_eq_false (fun c => c1 c.1), Bool.false_or] at hS
  by_cases c5 : 0 < x.si
  ·refine ACmp.yes (c5) ?_; conv=>whnf
   refine ALoad.one rfl k3 rfl ?_; conv=>whnf
   refine ALoad.one rfl k13 rfl ?_; conv=>whnf
   by_cases c6 : 1 ≤ x.st ∧ x.st ≤ x.term
   ·refine ACalls.mono (rwithin_yes h3 c6) ?_; rintro _ _ ⟨rfl, rfl⟩; conv=>whnf
    refine ALoad.one rfl k3 rfl ?_; conv=>whnf
    refine ACalls.mono (Check_any h3 x.sc hc0 hc1) ?_; rintro _ _ ⟨rfl, rfl⟩; conv=>whnf
    by_cases c7 : cchk x.sc = 0
    ·refine ACmp.yes (c7) ?_; conv=>whnf
     have HS : S = true := by rw [hS, decide_eq_true c5, decide_eq_true c6, decide_eq_true c7]; rfl
     refine ALoad.one rfl k13 rfl ?_; conv=>whnf
     refine ACalls.mono hlate ?_
     clear hlate
     cases L with
     | true =>
      rintro _ _ ⟨rfl, rfl⟩
      conv=>whnf
      refine ALoad.one rfl k13 rfl ?_; conv=>whnf
      by_cases a1 : 0 ≤ x.term ∧ x.term ≤ 9007199254740991
      ·refine ACalls.mono (rwithin_yes h3 a1) ?_; rintro _ _ ⟨rfl, rfl⟩; conv=>whnf
       refine ALoad.one rfl k13 rfl ?_; conv=>whnf
       by_cases a2 : 0 ≤ x.vote ∧ x.vote ≤ 5
       ·refine ACalls.mono (rwithin_yes h3 a2) ?_; rintro _ _ ⟨rfl, rfl⟩; conv=>whnf
        exact ⟨by rw [hR]; simp, s3⟩
       ·refine ACalls.mono (rwithin_no h3 a2) ?_; rintro _ _ ⟨rfl, rfl⟩; conv=>whnf
        exact ⟨by rw [hR]; simp, s3⟩
      ·refine ACalls.mono (rwithin_no h3 a1) ?_; rintro _ _ ⟨rfl, rfl⟩; conv=>whnf
       exact ⟨by rw [hR]; simp, s3⟩
     | false =>
      rintro _ _ ⟨rfl, rfl⟩
      conv=>whnf
      refine ALoad.one rfl k13 rfl ?_; conv=>whnf
      by_cases a1 : 0 ≤ x.term ∧ x.term ≤ 9007199254740991
      ·refine ACalls.mono (rwithin_yes h3 a1) ?_; rintro _ _ ⟨rfl, rfl⟩; conv=>whnf
       refine ALoad.one rfl k13 rfl ?_; conv=>whnf
       by_cases a2 : 0 ≤ x.vote ∧ x.vote ≤ 5
       ·refine ACalls.mono (rwithin_yes h3 a2) ?_; rintro _ _ ⟨rfl, rfl⟩; conv=>whnf
        first
         |exact ⟨by rw [hR, HS]; simp, s3⟩
         |refine ALoad.one rfl k13 rfl ?_
          conv=>whnf
          refine ACalls.mono hcm ?_
          clear hcm
          cases W with
          | false =>
           rintro _ _ ⟨rfl, rfl⟩
           conv=>whnf
           exact ⟨by rw [hR]; simp, s3⟩
          | true =>
           rintro _ _ ⟨rfl, rfl⟩
           conv=>whnf
           exact ⟨by rw [hR, HS, show numB x.term = true from decide_eq_true a1, decide_eq_true a2]; rfl, s3⟩
       ·refine ACalls.mono (rwithin_no h3 a2) ?_; rintro _ _ ⟨rfl, rfl⟩; conv=>whnf
        exact ⟨by rw [hR, decide_eq_false a2]; simp, s3⟩
      ·refine ACalls.mono (rwithin_no h3 a1) ?_; rintro _ _ ⟨rfl, rfl⟩; conv=>whnf
       exact ⟨by rw [hR, show numB x.term = false from decide_eq_false a1]; simp, s3⟩
    ·refine ACmp.no (c7) ?_; conv=>whnf
     have HS : S = false := by rw [hS, decide_eq_false c7]; simp
     refine ALoad.one rfl k13 rfl ?_; conv=>whnf
     refine ACalls.mono hlate ?_
     clear hlate
     cases L with
     | true =>
      rintro _ _ ⟨rfl, rfl⟩
      conv=>whnf
      refine ALoad.one rfl k13 rfl ?_; conv=>whnf
      by_cases a1 : 0 ≤ x.term ∧ x.term ≤ 9007199254740991
      ·refine ACalls.mono (rwithin_yes h3 a1) ?_; rintro _ _ ⟨rfl, rfl⟩; conv=>whnf
       refine ALoad.one rfl k13 rfl ?_; conv=>whnf
       by_cases a2 : 0 ≤ x.vote ∧ x.vote ≤ 5
       ·refine ACalls.mono (rwithin_yes h3 a2) ?_; rintro _ _ ⟨rfl, rfl⟩; conv=>whnf
        exact ⟨by rw [hR]; simp, s3⟩
       ·refine ACalls.mono (rwithin_no h3 a2) ?_; rintro _ _ ⟨rfl, rfl⟩; conv=>whnf
        exact ⟨by rw [hR]; simp, s3⟩
      ·refine ACalls.mono (rwithin_no h3 a1) ?_; rintro _ _ ⟨rfl, rfl⟩; conv=>whnf
       exact ⟨by rw [hR]; simp, s3⟩
     | false =>
      rintro _ _ ⟨rfl, rfl⟩
      conv=>whnf
      refine ALoad.one rfl k13 rfl ?_; conv=>whnf
      by_cases a1 : 0 ≤ x.term ∧ x.term ≤ 9007199254740991
      ·refine ACalls.mono (rwithin_yes h3 a1) ?_; rintro _ _ ⟨rfl, rfl⟩; conv=>whnf
       refine ALoad.one rfl k13 rfl ?_; conv=>whnf
       by_cases a2 : 0 ≤ x.vote ∧ x.vote ≤ 5
       ·refine ACalls.mono (rwithin_yes h3 a2) ?_; rintro _ _ ⟨rfl, rfl⟩; conv=>whnf
        first
         |exact ⟨by rw [hR, HS]; simp, s3⟩
         |refine ALoad.one rfl k13 rfl ?_
          conv=>whnf
          refine ACalls.mono hcm ?_
          clear hcm
          cases W with
          | false =>
           rintro _ _ ⟨rfl, rfl⟩
           conv=>whnf
           exact ⟨by rw [hR]; simp, s3⟩
          | true =>
           rintro _ _ ⟨rfl, rfl⟩
           conv=>whnf
           exact ⟨by rw [hR, HS, show numB x.term = true from decide_eq_true a1, decide_eq_true a2]; rfl, s3⟩
       ·refine ACalls.mono (rwithin_no h3 a2) ?_; rintro _ _ ⟨rfl, rfl⟩; conv=>whnf
        exact ⟨by rw [hR, decide_eq_false a2]; simp, s3⟩
      ·refine ACalls.mono (rwithin_no h3 a1) ?_; rintro _ _ ⟨rfl, rfl⟩; conv=>whnf
       exact ⟨by rw [hR, show numB x.term = false from decide_eq_false a1]; simp, s3⟩
   ·refine ACalls.mono (rwithin_no h3 c6) ?_; rintro _ _ ⟨rfl, rfl⟩; conv=>whnf
    have HS : S = false := by rw [hS, decide_eq_false c6]; simp
    refine ALoad.one rfl k13 rfl ?_; conv=>whnf
    refine ACalls.mono hlate ?_
    clear hlate
    cases L with
    | true =>
     rintro _ _ ⟨rfl, rfl⟩
     conv=>whnf
     refine ALoad.one rfl k13 rfl ?_; conv=>whnf
     by_cases a1 : 0 ≤ x.term ∧ x.term ≤ 9007199254740991
     ·refine ACalls.mono (rwithin_yes h3 a1) ?_; rintro _ _ ⟨rfl, rfl⟩; conv=>whnf
      refine ALoad.one rfl k13 rfl ?_; conv=>whnf
      by_cases a2 : 0 ≤ x.vote ∧ x.vote ≤ 5
      ·refine ACalls.mono (rwithin_yes h3 a2) ?_; rintro _ _ ⟨rfl, rfl⟩; conv=>whnf
       exact ⟨by rw [hR]; simp, s3⟩
      ·refine ACalls.mono (rwithin_no h3 a2) ?_; rintro _ _ ⟨rfl, rfl⟩; conv=>whnf
       exact ⟨by rw [hR]; simp, s3⟩
     ·refine ACalls.mono (rwithin_no h3 a1) ?_; rintro _ _ ⟨rfl, rfl⟩; conv=>whnf
      exact ⟨by rw [hR]; simp, s3⟩
    | false =>
     rintro _ _ ⟨rfl, rfl⟩
     conv=>whnf
     refine ALoad.one rfl k13 rfl ?_; conv=>whnf
     by_cases a1 : 0 ≤ x.term ∧ x.term ≤ 9007199254740991
     ·refine ACalls.mono (rwithin_yes h3 a1) ?_; rintro _ _ ⟨rfl, rfl⟩; conv=>whnf
      refine ALoad.one rfl k13 rfl ?_; conv=>whnf
      by_cases a2 : 0 ≤ x.vote ∧ x.vote ≤ 5
      ·refine ACalls.mono (rwithin_yes h3 a2) ?_; rintro _ _ ⟨rfl, rfl⟩; conv=>whnf
       first
        |exact ⟨by rw [hR, HS]; simp, s3⟩
        |refine ALoad.one rfl k13 rfl ?_
         conv=>whnf
         refine ACalls.mono hcm ?_
         clear hcm
         cases W with
         | false =>
          rintro _ _ ⟨rfl, rfl⟩
          conv=>whnf
          exact ⟨by rw [hR]; simp, s3⟩
         | true =>
          rintro _ _ ⟨rfl, rfl⟩
          conv=>whnf
          exact ⟨by rw [hR, HS, show numB x.term = true from decide_eq_true a1, decide_eq_true a2]; rfl, s3⟩
      ·refine ACalls.mono (rwithin_no h3 a2) ?_; rintro _ _ ⟨rfl, rfl⟩; conv=>whnf
       exact ⟨by rw [hR, decide_eq_false a2]; simp, s3⟩
     ·refine ACalls.mono (rwithin_no h3 a1) ?_; rintro _ _ ⟨rfl, rfl⟩; conv=>whnf
      exact ⟨by rw [hR, show numB x.term = false from decide_eq_false a1]; simp, s3⟩
  ·refine ACmp.no (c5) ?_; conv=>whnf
   have HS : S = false := by rw [hS, decide_eq_false c5]; simp
   refine ALoad.one rfl k13 rfl ?_; conv=>whnf
   refine ACalls.mono hlate ?_
   clear hlate
   cases L with
   | true =>
    rintro _ _ ⟨rfl, rfl⟩
    conv=>whnf
    refine ALoad.one rfl k13 rfl ?_; conv=>whnf
    by_cases a1 : 0 ≤ x.term ∧ x.term ≤ 9007199254740991
    ·refine ACalls.mono (rwithin_yes h3 a1) ?_; rintro _ _ ⟨rfl, rfl⟩; conv=>whnf
     refine ALoad.one rfl k13 rfl ?_; conv=>whnf
     by_cases a2 : 0 ≤ x.vote ∧ x.vote ≤ 5
     ·refine ACalls.mono (rwithin_yes h3 a2) ?_; rintro _ _ ⟨rfl, rfl⟩; conv=>whnf
      exact ⟨by rw [hR]; simp, s3⟩
     ·refine ACalls.mono (rwithin_no h3 a2) ?_; rintro _ _ ⟨rfl, rfl⟩; conv=>whnf
      exact ⟨by rw [hR]; simp, s3⟩
    ·refine ACalls.mono (rwithin_no h3 a1) ?_; rintro _ _ ⟨rfl, rfl⟩; conv=>whnf
     exact ⟨by rw [hR]; simp, s3⟩
   | false =>
    rintro _ _ ⟨rfl, rfl⟩
    conv=>whnf
    refine ALoad.one rfl k13 rfl ?_; conv=>whnf
    by_cases a1 : 0 ≤ x.term ∧ x.term ≤ 9007199254740991
    ·refine ACalls.mono (rwithin_yes h3 a1) ?_; rintro _ _ ⟨rfl, rfl⟩; conv=>whnf
     refine ALoad.one rfl k13 rfl ?_; conv=>whnf
     by_cases a2 : 0 ≤ x.vote ∧ x.vote ≤ 5
     ·refine ACalls.mono (rwithin_yes h3 a2) ?_; rintro _ _ ⟨rfl, rfl⟩; conv=>whnf
      first
       |exact ⟨by rw [hR, HS]; simp, s3⟩
       |refine ALoad.one rfl k13 rfl ?_
        conv=>whnf
        refine ACalls.mono hcm ?_
        clear hcm
        cases W with
        | false =>
         rintro _ _ ⟨rfl, rfl⟩
         conv=>whnf
         exact ⟨by rw [hR]; simp, s3⟩
        | true =>
         rintro _ _ ⟨rfl, rfl⟩
         conv=>whnf
         exact ⟨by rw [hR, HS, show numB x.term = true from decide_eq_true a1, decide_eq_true a2]; rfl, s3⟩
     ·refine ACalls.mono (rwithin_no h3 a2) ?_; rintro _ _ ⟨rfl, rfl⟩; conv=>whnf
      exact ⟨by rw [hR, decide_eq_false a2]; simp, s3⟩
    ·refine ACalls.mono (rwithin_no h3 a1) ?_; rintro _ _ ⟨rfl, rfl⟩; conv=>whnf
     exact ⟨by rw [hR, show numB x.term = false from decide_eq_false a1]; simp, s3⟩
set_option maxHeartbeats 8000000 in
theorem New_any' {h : Heap} (o : Nat) (ho : o ≠ 0) (self first : Int) {t1 t2 t3 : Tag} {x : SH} (draw : Int) (k : x.Ok h t1 t2 t3) (tn1 : t1.1 ≠ o + 1) (tn2 : t2.1 ≠ o + 1) (tn3 : t3.1 ≠ o + 1) (by_ : ∀ e ∈ x.es, ∀ z ∈ e.data, 0 ≤ z ∧ z < 256)
  (hf0 : -9223372036854775808 ≤ first) (hf1 : first ≤ 9223372036854775807) (hc0 : -9223372036854775808 ≤ x.sc) (hc1 : x.sc ≤ 9223372036854775807) (hn : x.e.n * 48 ≤ 140737488355328) (hdn : x.d.n ≤ 140737488355328) :
  ACalls PR 32 #[I self, I first, .agg x.cells.toArray, I draw] h (fun v h' => (cnewOk self first x.abs draw = false ∧ v = .tuple #[.pointer none, I 2] ∧ Keep (o + 1) h h') ∨
   (cnewOk self first x.abs draw = true ∧ ∃ p, v = .tuple #[Ptr p, I 0] ∧ PIdle h' p o (cnew self first x.abs draw) ∧ Keep (o + 1) h h')) := by
 have hlen : x.es.length = x.e.n := k.es.len
 have hR : cnewOk self first x.abs draw = (decide (1 ≤ self ∧ self ≤ 5) && decide (cchk first = 0) && decide (0 ≤ draw) && x.abs.may && okBase x.si x.st && decide (((lnew x.si x.st).append (x.es.map EH.abs)).1 = 0)) := rfl
 obtain ⟨R, hR'⟩ : ∃ R, R = cnewOk self first x.abs draw := ⟨_, rfl⟩
 rw [← hR']
 rw [← hR'] at hR
 refine acalls_of mix Tryz.func32 rfl rfl Tryz.ntmps32 Tryz.results32 rfl ?_; conv=>whnf
 refine ABox.mkN (0, 1) (x.cells) rfl fun b6 h1 n1 s1 k1 => ?_; conv=>whnf
 have k' : x.Ok h1 t1 t2 t3 := ⟨k.es.sub s1, k.sd.sub s1⟩
 by_cases a1 : 1 ≤ self ∧ self ≤ 5
 ·refine ACalls.mono (rwithin_yes h1 a1) ?_; rintro _ _ ⟨rfl, rfl⟩; conv=>whnf
  refine ACalls.mono (Check_any h1 first hf0 hf1) ?_; rintro _ _ ⟨rfl, rfl⟩; conv=>whnf
  by_cases a2 : cchk first = 0
  ·refine ACmp.no ((by simpa using a2)) ?_; conv=>whnf
   by_cases a3 : draw < 0
   ·refine ACmp.yes (a3) ?_; conv=>whnf
    have HN : decide (0 ≤ draw) = false := decide_eq_false (by omega)
    exact .inl ⟨by rw [hR, HN]; simp, rfl, s1.keep _⟩
   ·refine ACmp.no (a3) ?_; conv=>whnf
    refine ALoad.agg rfl k1 rfl rfl ?_; conv=>whnf
    refine ACalls.mono (savedMay_any k' by_ hc0 hc1 (by omega)) ?_
    cases a4 : x.abs.may with
    | false =>
     rintro _ _ ⟨rfl, rfl⟩
     conv=>whnf
     have HN := a4
     exact .inl ⟨by rw [hR, HN]; simp, rfl, s1.keep _⟩
    | true =>
     rintro _ _ ⟨rfl, rfl⟩
     conv=>whnf
     refine ALoad.one rfl k1 rfl ?_; conv=>whnf
     refine ALoad.one rfl k1 rfl ?_; conv=>whnf
     refine ACalls.mono (New_c h1 (o + 1) (by omega) x.si x.st) ?_
     rintro v h2 (⟨a5, lp, rfl, l2, s2⟩ | ⟨a5, rfl, s2⟩)
     ·conv=>whnf
      refine ACmp.no ((by decide)) ?_; conv=>whnf
      refine ALoad.one rfl (s2 _ _ k1) rfl ?_; conv=>whnf
      have lo2 : LOk (lnew x.si x.st) := LOk.new (okBase_bd a5).1 (okBase_bd a5).2
      refine ACalls.mono (Append_c (by omega : o + 1 ≠ 0) l2 lo2 tn1 tn2 (k'.es.sub s2) (by simp [lnew]; omega)) ?_; rintro _ h3 ⟨rfl, l3, kk3⟩; conv=>whnf
      have k13 := kk3.get (by simp) (s2 _ _ k1)
      have KK3 : Keep (o + 1) h h3 := ((s1.trans s2).keep _).trans kk3
      by_cases a6 : ((lnew x.si x.st).append (x.es.map EH.abs)).1 = 0
      ·refine ACmp.no ((by simpa using a6)) ?_; conv=>whnf
       refine ADrawn.mkO ((few h3 [b6])) [] [0, 1, 2, 3, 4, 5, 6, 7, 9, 10, 11, 12, 13, 8, 14, 15, 16, 17, 18] (few_sub _ _) (by decide +kernel) ?_; conv=>whnf
       refine ALoad.one rfl ((few_at (by simp)).trans k13) rfl ?_; conv=>whnf
       refine ALoad.one rfl ((few_at (by simp)).trans k13) rfl ?_; conv=>whnf
       refine ALoad.agg rfl ((few_at (by simp)).trans k13) rfl rfl ?_; conv=>whnf
       refine ALoad.one rfl ((few_at (by simp)).trans k13) rfl ?_; conv=>whnf
       have sd3 : Sl h3 t3 x.d.a x.d.n x.d.c 1 (bytesV x.data) := (k.sd.sub (s1.trans s2)).keep kk3 tn3
       refine ACalls.mono (cloned_any h3 (o, 3) (fun c => ho (congrArg Prod.fst c)) (i := x.si) (tm := x.st) (cr := x.sc) (d := x.d) sd3 hdn) ?_
       rintro v h4 ⟨a', c', rfl, ow4, s4⟩
       refine ⟨(few_sub _ _).trans s4, ?_⟩; conv=>whnf
       refine ACalls.mono (waits_any h4 draw (by omega)) ?_; rintro _ _ ⟨rfl, rfl⟩; conv=>whnf
       refine ⟨(few_sub _ _).trans s4, ?_⟩; conv=>whnf
       refine ABox.mkN (o, 0) (coreCells (cnew self first x.abs draw) ⟨⟨a', x.d.n, c'⟩, lp, 0, 0, 0, slv0, ox0⟩) rfl fun p h5 n5 s5 k5 => ?_; conv=>whnf
       refine ⟨((few_sub _ _).trans s4).trans s5, ?_⟩; conv=>whnf
       refine .inr ⟨by rw [hR, decide_eq_true a1, decide_eq_true a2, decide_eq_true (show 0 ≤ draw by omega), a4, a5, decide_eq_true a6]; rfl, p, rfl, ⟨⟨⟨a', x.d.n, c'⟩, lp, 0, 0, 0, slv0, ox0⟩, k5, Own.sub ow4 s5, Moves.move l3 fun _ _ _ _ e => s5 _ _ (s4 _ _ e), .inl ⟨rfl, rfl, rfl⟩, rfl, fun h' oo => OutOk.zero h' oo⟩, KK3.trans ((s4.trans s5).keep _)⟩
      ·refine ACmp.yes (a6) ?_; conv=>whnf
       exact .inl ⟨by rw [hR, decide_eq_false a6]; simp, rfl, KK3⟩
     ·conv=>whnf
      refine ACmp.yes ((by decide)) ?_; conv=>whnf
      exact .inl ⟨by rw [hR, a5]; simp, rfl, (s1.trans s2).keep _⟩
  ·refine ACmp.yes (a2) ?_; conv=>whnf
   have HN : decide (cchk first = 0) = false := decide_eq_false a2
   exact .inl ⟨by rw [hR, HN]; simp, rfl, s1.keep _⟩
 ·refine ACalls.mono (rwithin_no h1 a1) ?_; rintro _ _ ⟨rfl, rfl⟩; conv=>whnf
  have HN : decide (1 ≤ self ∧ self ≤ 5) = false := decide_eq_false a1
  exact .inl ⟨by rw [hR, HN]; simp, rfl, s1.keep _⟩
end Go.Ah
namespace Go.Ah
open Go.Proofs
set_option linter.unusedVariables false
set_option linter.unusedSimpArgs false
variable {g : Gh} {n : Int} {s : SavedM} {c : CoreM} {A : List Abs}
def Gh.wins (g : Gh) (n t : Int) (A : List Abs) (q : Int → Bool) : Gh :=
  { g with H := { g.H with led := fun u => if u = t then n else g.H.led u, ll := fun u => if u = t then A else g.H.ll u, ini := fun u => if u = t then A else g.H.ini u, q := fun u => if u = t then q else g.H.q u, acc := fun m u => if m = n ∧ u = t then A.length else g.H.acc m u } }
theorem five0_at (m : Int) : five0.get m = 0 := by simp [five0, Five.get]
theorem five_all (x : Int) {m : Int} (h1 : 1 ≤ m) (h2 : m ≤ 5) : (Five.all x).get m = x := by
 have : m = 1 ∨ m = 2 ∨ m = 3 ∨ m = 4 ∨ m = 5 := by omega
 rcases this with rfl | rfl | rfl | rfl | rfl <;> rfl
def CoreM.office (c : CoreM) : CoreM := { c.follow with state := 2, head := c.self, beat := 2, next := Five.all (c.log.last.1 + 1) }
theorem Mid.wins' (k : Mid g n s c A) (h1 : c.state = 1) (he : c.elected = true) : ∃ g', Ext n g g' ∧ g'.lim = g.lim ∧ Mid g' n s c.office A := by
 obtain ⟨cd1, cd2, cd3, cd4, cd5, cd6⟩ := k.srv.cand h1
 have hn1 := k.srv.n1; have hn2 := k.srv.n2
 have htm := k.srv.tm
 have hlim := k.w.lim0 k.srv
 have hel : mostOf (conf g.H.first A) (hasB c.votes) = true := by
  unfold CoreM.elected at he
  rw [k.srv.crew.1] at he
  rw [k.w.first]; exact he
 have cw : Cand g.H c.term (· ≤ c.term) A (hasB c.votes) := ⟨k.srv.good.lm, k.srv.good.mono, cd4, hel, fun v hv => (cd6 v hv).2⟩
 have hl0 : g.H.led c.term = 0 := by
  by_cases z : g.H.led c.term = 0
  ·exact z
  ·obtain ⟨v, v1, v2⟩ := cands_meet k.w.ok (k.w.ok.cand z).weak cw
   exact absurd ((k.w.q _ v z v1).symm.trans (cd6 v v2).1) cd1
 have cs := cw.strict hl0
 have hll := k.w.ll0 _ hl0
 have hac : ∀ m, g.H.acc m c.term = 0 := fun m => by have := k.w.acc m c.term; rw [hll] at this; simpa using this
 obtain ⟨g', hg'⟩ : ∃ g', g' = g.wins n c.term A (hasB c.votes) := ⟨_, rfl⟩
 have e1 : ∀ u, g'.H.led u = if u = c.term then n else g.H.led u := fun u => by rw [hg']; rfl
 have e2 : ∀ u, g'.H.ll u = if u = c.term then A else g.H.ll u := fun u => by rw [hg']; rfl
 have e3 : ∀ u, g'.H.ini u = if u = c.term then A else g.H.ini u := fun u => by rw [hg']; rfl
 have e4 : ∀ u, g'.H.q u = if u = c.term then hasB c.votes else g.H.q u := fun u => by rw [hg']; rfl
 have e5 : ∀ m u, g'.H.acc m u = if m = n ∧ u = c.term then A.length else g.H.acc m u := fun m u => by rw [hg']; rfl
 have f1 : g'.H.first = g.H.first := by rw [hg']; rfl
 have f2 : g'.tm = g.tm := by rw [hg']; rfl
 have f3 : g'.vt = g.vt := by rw [hg']; rfl
 have f4 : g'.cand = g.cand := by rw [hg']; rfl
 have f5 : g'.size = g.size := by rw [hg']; rfl
 have f6 : g'.lim = g.lim := by rw [hg']; rfl
 clear hg'
 have ne : ∀ u, g.H.led u ≠ 0 → u ≠ c.term := fun u hu z => hu (by rw [z]; exact hl0)
 have x : Ext n g g' := by
  refine ⟨f5, by rw [f6]; exact Int.le_refl _, f1, fun m _ => by rw [f2], by rw [f2]; exact Int.le_refl _, fun m t _ => by rw [f3], fun m t _ => by rw [f3], fun t m _ _ => by rw [f4], fun t ht => ?_, fun t ht h => ?_, fun t ht _ => by rw [e2, if_neg (ne t ht)], fun m u => ?_, fun m u h => ?_⟩
  ·rw [e1, e2, e3, if_neg (ne t ht), if_neg (ne t ht), if_neg (ne t ht)]; exact ⟨rfl, rfl, Pre.refl (Nat.le_refl _)⟩
  ·rw [e1] at h ⊢
   split
   ·rfl
   ·rename_i z; rw [if_neg z] at h; exact absurd ht h
  ·rw [e5]; split
   ·rename_i z; rw [z.2, hac]; omega
   ·exact Nat.le_refl _
  ·rw [e5, if_neg]; rintro ⟨rfl, rfl⟩
   rcases h with h | h
   ·exact h rfl
   ·omega
 have ok := k.w.ok
 have ho : HOk g'.H := by
  refine ⟨fun t ht => ?_, fun t ht => ?_, fun t j e ht h => ?_, fun t j e ht h => ?_, fun t j e ht hk h => ?_, fun t ht => ?_, fun t v ht hv => ?_, fun u j e hu he2 h2 h1 => ?_⟩
  ·rw [e2]; split
   ·exact x.good k.srv.good
   ·rename_i z; rw [e1, if_neg z] at ht; exact x.good (ok.log t ht)
  ·rw [e2, e3]; split
   ·exact Pre.refl (Nat.le_refl _)
   ·rename_i z; rw [e1, if_neg z] at ht; exact ok.ini t ht
  ·rw [e3] at h
   split at h
   ·rename_i z; rw [z]; exact cd4 j e h
   ·rename_i z; rw [e1, if_neg z] at ht; exact ok.old t j e ht h
  ·rw [e2] at h
   split at h
   ·rename_i z; rw [z]; have := cd4 j e h; omega
   ·rename_i z; rw [e1, if_neg z] at ht; exact ok.top t j e ht h
  ·rw [e3] at hk; rw [e2] at h
   split at h
   ·rename_i z; rw [if_pos z] at hk
    have := (List.getElem?_eq_some_iff.1 h).1; omega
   ·rename_i z; rw [if_neg z] at hk; rw [e1, if_neg z] at ht; exact ok.own t j e ht hk h
  ·rw [e3, e4, f1]; split
   ·exact hel
   ·rename_i z; rw [e1, if_neg z] at ht; exact ok.most t ht
  ·rw [e4] at hv; rw [e3]
   split at hv
   ·rename_i z; rw [if_pos z, z]
    exact x.vow k.w (k.w.vt v c.term (by rw [(cd6 v hv).1]; omega)) (cs.vow v hv)
   ·rename_i z; rw [if_neg z]; rw [e1, if_neg z] at ht
    exact x.vow k.w (k.w.vt v t (by rw [k.w.q t v ht hv]; exact ht)) (ok.vow t v ht hv)
  ·rw [e2] at he2 ⊢
   split at he2
   ·rename_i z; have := cd4 j e he2; omega
   ·rename_i z; rw [if_neg z]; rw [e1, if_neg z] at hu
    rw [f1]
    obtain ⟨a, i, b1, b2, b3, b4⟩ := ok.cf u j e hu he2 h2 h1
    exact ⟨a, i, b1, x.own hu b2, mostOf_mono (fun m hm => by simp only [Acked, decide_eq_true_eq] at hm ⊢; exact Nat.le_trans hm (x.acc m u)) b3, b4⟩
 have w' : Wld g' := by
  refine ⟨ho, f1.trans k.w.first, by rw [f5]; exact k.w.sz3, by rw [f5]; exact k.w.sz5, fun t ht => ?_, fun t ht => ?_, fun m u => ?_, fun m u hu => ?_, fun t ht => ?_, fun t v ht hv => ?_, fun m u hu => ?_, fun t e he => ?_, fun t j e he => ?_, fun t m hm hv => ?_, fun m m1 m2 => ?_, fun t => ?_, by rw [f6]; exact k.w.l3⟩
  ·rw [f2, f5]; rw [e1] at ht ⊢
   split
   ·rename_i z; exact ⟨by rw [z]; exact cd5, by rw [z, htm]; exact Int.le_refl _, hn1, hn2⟩
   ·rename_i z; rw [if_neg z] at ht; exact k.w.led t ht
  ·rw [e1] at ht; rw [e2]
   split
   ·rename_i z; rw [if_pos z] at ht; omega
   ·rename_i z; rw [if_neg z] at ht; exact k.w.ll0 t ht
  ·rw [e5, e2]
   by_cases z : u = c.term
   ·rw [if_pos z]; split
    ·exact Nat.le_refl _
    ·rw [z, hac]; omega
   ·rw [if_neg z, if_neg fun y => z y.2]; exact k.w.acc m u
  ·rw [f2]; rw [e5] at hu
   split at hu
   ·rename_i z; rw [z.1, z.2, htm]; exact Int.le_refl _
   ·exact k.w.acc0 m u hu
  ·rw [e1] at ht ⊢; rw [e2, e5]
   by_cases z : t = c.term
   ·rw [if_pos z, if_pos z, if_pos ⟨rfl, z⟩]
   ·rw [if_neg z] at ht; rw [if_neg z, if_neg z, if_neg fun y => z y.2]; exact k.w.accL t ht
  ·rw [f3]; rw [e1] at ht ⊢; rw [e4] at hv
   by_cases z : t = c.term
   ·rw [if_pos z] at hv ⊢; rw [z]; exact (cd6 v hv).1
   ·rw [if_neg z] at hv ht ⊢; exact k.w.q t v ht hv
  ·rw [f3] at hu; rw [f2]; exact k.w.vt m u hu
  ·rw [f5]; rw [e2] at he
   split at he
   ·exact k.srv.eok e he
   ·exact k.w.eok t e he
  ·rw [e2] at he
   split at he
   ·exact k.srv.rep.ix j e he
   ·exact k.w.ix t j e he
  ·rw [f3] at hv; rw [f4]
   obtain ⟨a, b⟩ := k.w.cg t m hm hv
   exact ⟨x.good a, b⟩
  ·rw [f2, f6]; rw [f5] at m2; exact k.w.l1 m m1 m2
  ·rw [e2, f6]; split
   ·exact k.srv.al
   ·exact k.w.l2 t
 refine ⟨g', x, f6, w', ?_, ⟨k.kp.hard, k.kp.log⟩, fun p hp => x.msg k.w (k.out p hp)⟩
 have hlast := k.srv.rep.last
 have sv := k.srv
 exact {
  n1 := sv.n1, n2 := by rw [f5]; exact sv.n2, self := sv.self, first := sv.first, tm := by rw [f2]; exact sv.tm, t0 := sv.t0, rep := sv.rep, si := sv.si, s0 := sv.s0, s1 := sv.s1, sd := sv.sd
  good := x.good sv.good, low := sv.low, eok := by rw [f5]; exact sv.eok, al := by rw [f6]; exact sv.al
  vl := fun u i hu hl hw hi => by
   rw [e1] at hl
   rw [e5] at hi
   by_cases z : u = c.term
   ·exfalso
    obtain ⟨j, e, rfl, h, he3⟩ := hw
    rw [e2, if_pos z] at h
    have := cd4 j e h; omega
   ·rw [if_neg z] at hl; rw [if_neg fun y => z y.2] at hi
    have hacc := k.w.acc n u
    rcases sv.vl u i hu hl (x.own' hl (by omega) hw) hi with p | ⟨y, y1, y2, y3, y4⟩
    ·exact .inl (x.pre hl p)
    ·exact .inr ⟨y, y1, y2, by rw [(x.led y y3).1]; exact y3, x.npre hl y3 (by omega) y4⟩
  c0 := sv.c0, c1 := sv.c1, com := x.com (Int.le_refl _) sv.com, vote := by rw [f3]; exact sv.vote, vr0 := sv.vr0, vr1 := sv.vr1
  st := .inr (.inr rfl)
  lead := fun _ => ⟨by show g'.H.led c.term = n; rw [e1, if_pos rfl], by show g'.H.ll c.term = A; rw [e2, if_pos rfl], fun m m1 m2 => by
    show 0 ≤ five0.get m ∧ (five0.get m).toNat ≤ _
    rw [five0_at]; simp, fun m m1 m2 => by
    show 1 ≤ (Five.all (c.log.last.1 + 1)).get m ∧ (Five.all (c.log.last.1 + 1)).get m ≤ _
    rw [five_all _ m1 m2, hlast]; simp; omega⟩
  lc := fun _ h2 h3 => by
   exfalso
   have h2' : 1 ≤ c.commit := h2
   have h3' : termAt A c.commit.toNat = c.term := h3
   have hc1 := sv.c1
   obtain ⟨e, he⟩ : ∃ e, A[c.commit.toNat - 1]? = some e := ⟨A[c.commit.toNat - 1], by simp⟩
   have := termAt_some he
   rw [show c.commit.toNat - 1 + 1 = c.commit.toNat by omega] at this
   have := cd4 _ e he
   omega
  cand := fun h => by cases h
  idle := fun h => absurd rfl h
  q1 := sv.q1, q2 := sv.q2, w1 := sv.w1, w2 := sv.w2
  b0 := fun _ => by show (1 : Int) ≤ 2; omega
  b1 := by show (0 : Int) ≤ 2; omega
  b2 := Int.le_refl 2
  v1 := Int.le_refl 0
  v2 := by show (0 : Int) < 64; omega
  r1 := Int.le_refl 0
  r2 := by show (0 : Int) ≤ g'.lim; rw [f6]; exact hlim
  rl := by show (0 : Int) ≤ g'.lim; rw [f6]; exact hlim }
end Go.Ah
namespace Go.Ah
open Go.Proofs
set_option linter.unusedVariables false
set_option linter.unusedSimpArgs false
variable {g : Gh} {n : Int} {s : SavedM} {c : CoreM} {A : List Abs}
theorem put_ok (c : CoreM) (kind : Int) (data : List Int) (h : (c.log.append [(c.term, c.log.last.1 + 1, kind, data)]).1 = 0) :
  c.put kind data = { c with log := (c.log.append [(c.term, c.log.last.1 + 1, kind, data)]).2, out := { c.out with entries := c.out.entries ++ [(c.term, c.log.last.1 + 1, kind, data)] } } := if_pos h
theorem append_es {L : LG} {xs : List Abs} (h : (L.append xs).1 = 0) : (L.append xs).2.es = L.es ++ xs ∧ (L.append xs).2.bt = L.bt := by
 unfold LG.append at h ⊢
 split
 ·exact ⟨rfl, rfl⟩
 ·rename_i z; rw [if_neg z] at h; exact absurd h z
theorem Kp.push {c : CoreM} (k : Kp s c) {l : LG} {xs : List Abs} (hl : l.es = c.log.es ++ xs) (hs : c.out.snap.index = 0) : Kp s { c with log := l, out := { c.out with entries := c.out.entries ++ xs } } := by
 refine ⟨k.hard, ?_⟩
 rcases k.log with ⟨a, b, d, e⟩ | ⟨a, b, d, e, f, h⟩ | ⟨a, _⟩
 ·exact .inl ⟨a, b, d, by show l.es = _; rw [hl, e, List.append_assoc]⟩
 ·exact .inr (.inl ⟨a, b, d, e, f, by show l.es = _; rw [hl, h, List.append_assoc]⟩)
 ·omega
def Gh.leads (g : Gh) (n t : Int) (B : List Abs) : Gh :=
  { g with H := { g.H with ll := fun u => if u = t then B else g.H.ll u, acc := fun m u => if m = n ∧ u = t then B.length else g.H.acc m u } }
theorem Mid.put (k : Mid g n s c A) (h2 : c.state = 2) (kind : Int) (data : List Int) (hs : c.out.snap.index = 0) (hal : (A.length : Int) + 1 ≤ g.lim) (ht1 : 1 ≤ c.term)
  (he : EOk g.size (c.term, (A.length : Int) + 1, kind, data))
  (hcf : kind = 2 → Near (conf 14 A) (conf 14 (A ++ [(c.term, (A.length : Int) + 1, kind, data)])) ∧ ∃ i, i ≤ A.length ∧ Own1 g.H c.term i ∧ mostOf (conf 14 A) (Acked g.H c.term i) = true ∧ ∀ j, Says A j → j < i) :
  ∃ g', Ext n g g' ∧ g'.lim = g.lim ∧ Mid g' n s (c.put kind data) (A ++ [(c.term, (A.length : Int) + 1, kind, data)]) ∧ (c.put kind data).state = 2 := by
 obtain ⟨l1, l2, l3, l4⟩ := k.srv.lead h2
 have sv := k.srv
 have hn1 := sv.n1; have hn2 := sv.n2
 have htm := sv.tm
 have hlim := k.w.lim0 sv
 have h3 := k.w.l3
 have hl0 : g.H.led c.term ≠ 0 := by rw [l1]; omega
 have ok := k.w.ok
 have hlast := sv.rep.last
 have htl := k.w.l1 n hn1 hn2
 obtain ⟨en, hen⟩ : ∃ en : Abs, en = (c.term, (A.length : Int) + 1, kind, data) := ⟨_, rfl⟩
 have en1 : en.1 = c.term := by rw [hen]
 have en2 : en.2.1 = (A.length : Int) + 1 := by rw [hen]
 have en3 : en.2.2.1 = kind := by rw [hen]
 rw [← hen] at he hcf ⊢
 have hmono : ∀ (i j : Nat) (e f : Abs), i ≤ j → (A ++ [en])[i]? = some e → (A ++ [en])[j]? = some f → e.1 ≤ f.1 := by
  intro i j e f hij hi hj
  by_cases c1 : j < A.length
  ·rw [List.getElem?_append_left (by omega)] at hi
   rw [List.getElem?_append_left c1] at hj
   exact sv.good.mono i j e f hij hi hj
  ·have hj' := (List.getElem?_eq_some_iff.1 hj).1
   simp only [List.length_append, List.length_singleton] at hj'
   have : j = A.length := by omega
   subst this
   rw [List.getElem?_append_right (Nat.le_refl _), Nat.sub_self] at hj
   simp at hj; subst hj
   rw [en1]
   by_cases c2 : i < A.length
   ·rw [List.getElem?_append_left c2] at hi; exact sv.low i e hi
   ·have : i = A.length := by omega
    subst this
    rw [List.getElem?_append_right (Nat.le_refl _), Nat.sub_self] at hi
    simp at hi; subst hi; rw [en1]; exact Int.le_refl _
 have happ : (c.log.append [en]).1 = 0 := by
  refine sv.rep.append_ok [en] (fun j e hj => ?_) hmono
  cases j with
  | zero =>
   simp at hj; subst hj
   refine ⟨by rw [en2]; simp, by rw [en1]; exact ht1, by rw [en1]; omega, by rw [en2]; omega, he.k0, he.k2, he.len⟩
  | succ j => simp at hj
 have hput := put_ok c kind data (by rw [hlast]; rw [hen] at happ; exact happ)
 rw [hlast] at hput
 simp only [] at hput
 rw [← hen] at hput
 rw [hput]
 obtain ⟨rep', hbi⟩ := sv.rep.append [en] happ
 obtain ⟨hes, hbt⟩ := append_es happ
 obtain ⟨g', hg'⟩ : ∃ g', g' = g.leads n c.term (A ++ [en]) := ⟨_, rfl⟩
 have e1 : g'.H.led = g.H.led := by rw [hg']; rfl
 have e2 : ∀ u, g'.H.ll u = if u = c.term then A ++ [en] else g.H.ll u := fun u => by rw [hg']; rfl
 have e3 : g'.H.ini = g.H.ini := by rw [hg']; rfl
 have e4 : g'.H.q = g.H.q := by rw [hg']; rfl
 have e5 : ∀ m u, g'.H.acc m u = if m = n ∧ u = c.term then (A ++ [en]).length else g.H.acc m u := fun m u => by rw [hg']; rfl
 have f1 : g'.H.first = g.H.first := by rw [hg']; rfl
 have f2 : g'.tm = g.tm := by rw [hg']; rfl
 have f3 : g'.vt = g.vt := by rw [hg']; rfl
 have f4 : g'.cand = g.cand := by rw [hg']; rfl
 have f5 : g'.size = g.size := by rw [hg']; rfl
 have f6 : g'.lim = g.lim := by rw [hg']; rfl
 clear hg'
 have haccn : g.H.acc n c.term ≤ A.length := by rw [← l2]; exact k.w.acc n c.term
 have x : Ext n g g' := by
  refine ⟨f5, by rw [f6]; exact Int.le_refl _, f1, fun m _ => by rw [f2], by rw [f2]; exact Int.le_refl _, fun m t _ => by rw [f3], fun m t _ => by rw [f3], fun t m _ _ => by rw [f4], fun t ht => ?_, fun t ht h => by rw [e1] at h; exact absurd ht h, fun t ht h => ?_, fun m u => ?_, fun m u h => ?_⟩
  ·rw [e1, e2, e3]; refine ⟨rfl, rfl, ?_⟩
   split
   ·rename_i z; rw [z, l2]; exact Pre.append
   ·exact Pre.refl (Nat.le_refl _)
  ·rw [e2, if_neg]; rintro rfl; exact h l1
  ·rw [e5]; split
   ·rename_i z; rw [z.1, z.2, List.length_append]; omega
   ·exact Nat.le_refl _
  ·rw [e5, if_neg]; rintro ⟨rfl, rfl⟩
   rcases h with h | h
   ·exact h rfl
   ·omega
 have getEn : ∀ (j : Nat) (e : Abs), (A ++ [en])[j]? = some e → (A[j]? = some e ∧ j < A.length) ∨ (j = A.length ∧ e = en) := fun j e h => by
  by_cases c1 : j < A.length
  ·rw [List.getElem?_append_left c1] at h; exact .inl ⟨h, c1⟩
  ·have hj' := (List.getElem?_eq_some_iff.1 h).1
   simp only [List.length_append, List.length_singleton] at hj'
   have : j = A.length := by omega
   subst this
   rw [List.getElem?_append_right (Nat.le_refl _), Nat.sub_self] at h
   simp at h; exact .inr ⟨rfl, h.symm⟩
 have hgood : Good g'.H (A ++ [en]) := by
  refine ⟨fun j e h => ?_, hmono⟩
  rcases getEn j e h with ⟨h, hj⟩ | ⟨rfl, rfl⟩
  ·obtain ⟨a, b, d⟩ := (x.good sv.good).lm j e h
   exact ⟨a, b, (Pre.append.le (by omega)).symm.trans d⟩
  ·refine ⟨by rw [en1]; exact ht1, by rw [e1, en1]; exact hl0, ?_⟩
   rw [en1, e2, if_pos rfl]; exact Pre.refl (by simp)
 have hini : (g.H.ini c.term).length ≤ A.length := by have := (ok.ini _ hl0).b; rw [l2] at this; exact this
 have ho : HOk g'.H := by
  refine ⟨fun t ht => ?_, fun t ht => ?_, fun t j e ht h => ?_, fun t j e ht h => ?_, fun t j e ht hk h => ?_, fun t ht => ?_, fun t v ht hv => ?_, fun u j e hu he2 hk2 h1 => ?_⟩
  ·rw [e1] at ht; rw [e2]; split
   ·exact hgood
   ·exact x.good (ok.log t ht)
  ·rw [e1] at ht; rw [e2, e3]; split
   ·rename_i z; have := ok.ini t ht; rw [z, l2] at this; rw [z]; exact this.trans (Pre.append.le this.b)
   ·exact ok.ini t ht
  ·rw [e1] at ht; rw [e3] at h; exact ok.old t j e ht h
  ·rw [e1] at ht; rw [e2] at h
   split at h
   ·rename_i z; rw [z]
    rcases getEn j e h with ⟨h, hj⟩ | ⟨rfl, rfl⟩
    ·exact sv.low j e h
    ·rw [en1]; exact Int.le_refl _
   ·exact ok.top t j e ht h
  ·rw [e1] at ht; rw [e3] at hk; rw [e2] at h
   split at h
   ·rename_i z
    rcases getEn j e h with ⟨h, hj⟩ | ⟨rfl, rfl⟩
    ·exact ok.own t j e ht hk (by rw [z, l2]; exact h)
    ·rw [en1, z]
   ·exact ok.own t j e ht hk h
  ·rw [e1] at ht; rw [e3, e4, f1]; exact ok.most t ht
  ·rw [e1] at ht; rw [e4] at hv; rw [e3]
   exact x.vow k.w (k.w.vt v t (by rw [k.w.q t v ht hv]; exact ht)) (ok.vow t v ht hv)
  ·rw [e1] at hu; rw [f1]; rw [e2] at he2 ⊢
   have mono : ∀ {i : Nat} {d : Int}, mostOf d (Acked g.H u i) = true → mostOf d (Acked g'.H u i) = true := fun h => mostOf_mono (fun m hm => by simp only [Acked, decide_eq_true_eq] at hm ⊢; exact Nat.le_trans hm (x.acc m u)) h
   split at he2
   ·rename_i z; rw [if_pos z]
    rcases getEn j e he2 with ⟨h, hj⟩ | ⟨rfl, rfl⟩
    ·obtain ⟨a, i, b1, b2, b3, b4⟩ := ok.cf u j e hu (by rw [z, l2]; exact h) hk2 h1
     rw [z, l2] at a b3 b4
     rw [List.take_append_of_le_length (by omega), List.take_append_of_le_length (by omega)]
     rw [← z] at b3
     exact ⟨a, i, b1, x.own hu b2, mono b3, fun m hm sm => b4 m hm ((Pre.append (A := A) (B := [en])).symm.says (by omega) sm)⟩
    ·obtain ⟨a, i, b1, b2, b3, b4⟩ := hcf (by rw [← en3]; exact hk2)
     rw [List.take_append_of_le_length (Nat.le_refl _), List.take_of_length_le (show A.length ≤ A.length by omega), List.take_of_length_le (by simp), k.w.first]
     rw [← z] at b2 b3
     exact ⟨a, i, b1, x.own hu b2, mono b3, fun m hm sm => b4 m ((Pre.append (A := A) (B := [e])).symm.says (by omega) sm)⟩
   ·rename_i z; rw [if_neg z]
    obtain ⟨a, i, b1, b2, b3, b4⟩ := ok.cf u j e hu he2 hk2 h1
    exact ⟨a, i, b1, x.own hu b2, mono b3, b4⟩
 have eok' : ∀ e ∈ A ++ [en], EOk g.size e := fun e h => by
  rcases List.mem_append.1 h with h | h
  ·exact sv.eok e h
  ·rw [List.mem_singleton.1 h]; exact he
 have w' : Wld g' := by
  refine ⟨ho, f1.trans k.w.first, by rw [f5]; exact k.w.sz3, by rw [f5]; exact k.w.sz5, fun t ht => by rw [e1] at ht ⊢; rw [f2, f5]; exact k.w.led t ht, fun t ht => ?_, fun m u => ?_, fun m u hu => ?_, fun t ht => ?_, fun t v ht hv => by rw [e1] at ht ⊢; rw [e4] at hv; rw [f3]; exact k.w.q t v ht hv, fun m u hu => by rw [f3] at hu; rw [f2]; exact k.w.vt m u hu, fun t e he => ?_, fun t j e he => ?_, fun t m hm hv => ?_, fun m m1 m2 => by rw [f2, f6]; rw [f5] at m2; exact k.w.l1 m m1 m2, fun t => ?_, by rw [f6]; exact h3⟩
  ·rw [e1] at ht; rw [e2, if_neg (fun z => hl0 (by rw [← z]; exact ht))]; exact k.w.ll0 t ht
  ·rw [e5, e2]
   by_cases z : u = c.term
   ·rw [if_pos z]; split
    ·exact Nat.le_refl _
    ·have := k.w.acc m u; rw [z, l2] at this; rw [z, List.length_append]; omega
   ·rw [if_neg z, if_neg fun y => z y.2]; exact k.w.acc m u
  ·rw [f2]; rw [e5] at hu
   split at hu
   ·rename_i z; rw [z.1, z.2, htm]; exact Int.le_refl _
   ·exact k.w.acc0 m u hu
  ·rw [e1] at ht ⊢; rw [e2, e5]
   by_cases z : t = c.term
   ·rw [if_pos z, if_pos ⟨by rw [z]; exact l1, z⟩]
   ·rw [if_neg z, if_neg fun y => z y.2]; exact k.w.accL t ht
  ·rw [f5]; rw [e2] at he
   split at he
   ·exact eok' e he
   ·exact k.w.eok t e he
  ·rw [e2] at he
   split at he
   ·exact rep'.ix j e he
   ·exact k.w.ix t j e he
  ·rw [f3] at hv; rw [f4]
   obtain ⟨a, b⟩ := k.w.cg t m hm hv
   exact ⟨x.good a, b⟩
  ·rw [e2, f6]; split
   ·rw [List.length_append]; simp; omega
   ·exact k.w.l2 t
 refine ⟨g', x, f6, ⟨w', ?_, k.kp.push hes hs, fun p hp => x.msg k.w (k.out p hp)⟩, h2⟩
 have pA : Pre A.length A (A ++ [en]) := Pre.append
 have hc1 := sv.c1
 exact {
  n1 := sv.n1, n2 := by rw [f5]; exact sv.n2, self := sv.self, first := sv.first, tm := by rw [f2]; exact sv.tm, t0 := sv.t0, rep := rep', si := by show c.snap.index = (c.log.append [en]).2.bi; rw [hbi]; exact sv.si
  s0 := fun h => sv.s0 (by have : (c.log.append [en]).2.bi = 0 := h; rw [hbi] at this; exact this)
  s1 := fun h => by
   have h' : 0 < (c.log.append [en]).2.bi := h
   rw [hbi] at h'
   have := sv.s1 h'
   show c.snap.term = (c.log.append [en]).2.bt ∧ c.snap.crew = conf 14 ((A ++ [en]).take (c.log.append [en]).2.bi.toNat)
   rw [hbi, hbt, ← pA.take_le sv.rep.le]; exact this
  sd := sv.sd
  good := hgood
  low := fun j e h => by
   rcases getEn j e h with ⟨h, hj⟩ | ⟨rfl, rfl⟩
   ·exact sv.low j e h
   ·rw [en1]; exact Int.le_refl _
  eok := by rw [f5]; exact eok', al := by rw [f6, List.length_append]; simp; omega
  vl := fun u i hu hl hw hi => by
   rw [e1] at hl
   by_cases z : u = c.term
   ·left
    rw [e5, if_pos ⟨rfl, z⟩] at hi
    rw [e2, if_pos z]; exact Pre.refl hi
   ·rw [e5, if_neg fun y => z y.2] at hi
    have hacc := k.w.acc n u
    rcases sv.vl u i hu hl (x.own' hl (by omega) hw) hi with p | ⟨y, y1, y2, y3, y4⟩
    ·exact .inl ((x.pre hl p).trans (pA.le p.b))
    ·exact .inr ⟨y, y1, y2, by rw [e1]; exact y3, x.npre hl y3 (by omega) y4⟩
  c0 := by show (c.log.append [en]).2.bi ≤ c.commit; rw [hbi]; exact sv.c0
  c1 := by show c.commit ≤ ((A ++ [en]).length : Nat); rw [List.length_append]; simp; omega
  com := (x.com (Int.le_refl _) sv.com).move (pA.le (by omega)), vote := by rw [f3]; exact sv.vote, vr0 := sv.vr0, vr1 := sv.vr1
  st := .inr (.inr h2)
  lead := fun _ => ⟨by rw [e1]; exact l1, by show g'.H.ll c.term = _; rw [e2, if_pos rfl], fun m m1 m2 => ⟨(l3 m m1 m2).1, Nat.le_trans (l3 m m1 m2).2 (x.acc _ _)⟩, fun m m1 m2 => by
    have := l4 m m1 m2
    refine ⟨this.1, ?_⟩
    show c.next.get m ≤ ((A ++ [en]).length : Nat) + 1
    rw [List.length_append]; simp; omega⟩
  lc := fun _ h2' h3' => by
   have h2'' : 1 ≤ c.commit := h2'
   have h3'' : termAt (A ++ [en]) c.commit.toNat = c.term := h3'
   rw [← pA.termAt (by omega)] at h3''
   exact x.chosen (sv.lc h2 h2'' h3'')
  cand := fun h => by rw [show ({ c with log := (c.log.append [en]).2, out := { c.out with entries := c.out.entries ++ [en] } } : CoreM).state = c.state from rfl, h2] at h; cases h
  idle := fun h => absurd h2 h
  q1 := sv.q1, q2 := sv.q2, w1 := sv.w1, w2 := sv.w2, b0 := sv.b0, b1 := sv.b1, b2 := sv.b2, v1 := sv.v1, v2 := sv.v2, r1 := sv.r1
  r2 := by rw [f6]; exact sv.r2
  rl := by rw [f6]; exact sv.rl }
end Go.Ah
namespace Go.Ah
open Go.Proofs
set_option linter.unusedVariables false
set_option linter.unusedSimpArgs false
variable {g : Gh} {n : Int} {s : SavedM} {c : CoreM} {A : List Abs}
theorem Mid.send (k : Mid g n s c A) (h2 : c.state = 2) {m : Int} (m1 : 1 ≤ m) (m2 : m ≤ g.size) (mn : m ≠ n) : Mid g n s (c.send m) A := by
 obtain ⟨l1, l2, l3, l4⟩ := k.srv.lead h2
 have sv := k.srv
 have hn1 := sv.n1; have hn2 := sv.n2; have hs5 := k.w.sz5
 have hl0 : g.H.led c.term ≠ 0 := by rw [l1]; omega
 have ht1 := (k.w.led _ hl0).1
 have hself := sv.self
 have hlim := k.w.lim0 sv
 obtain ⟨x1, x2⟩ := l4 m m1 (by omega)
 have hb := sv.rep.lo; have hle := sv.rep.le
 have hc0 := sv.c0; have hc1 := sv.c1
 have htm : c.term ≤ g.tm n := by rw [sv.tm]; exact Int.le_refl _
 unfold CoreM.send
 split
 ·rename_i hx
  refine k.say ⟨by show 1 ≤ c.self; omega, by show c.self ≤ g.size; omega, m1, m2, by show c.self ≠ m; omega, ht1, by show c.term ≤ g.tm c.self; rw [hself]; exact htm, sv.r1, sv.r2, .inr (.inr (.inr (.inr (.inl ⟨rfl, rfl, ?_⟩))))⟩
  have hbi : 0 < c.log.bi := by omega
  obtain ⟨s1, s2⟩ := sv.s1 hbi
  show g.H.led c.term = c.self ∧ 1 ≤ c.snap.index ∧ c.snap.index ≤ (g.H.ll c.term).length ∧ c.snap.term = termAt (g.H.ll c.term) c.snap.index.toNat ∧ c.snap.crew = conf 14 ((g.H.ll c.term).take c.snap.index.toNat) ∧ c.snap.data.length ≤ 8192 ∧ Com g.H c.term c.snap.index.toNat (g.H.ll c.term)
  rw [l2, sv.si]
  exact ⟨by rw [l1, hself], by omega, by omega, by rw [s1, sv.rep.bt], s2, sv.sd, sv.com.less (by omega)⟩
 ·rename_i hx
  have hx' : c.log.bi < c.next.get m := by omega
  have hsl := sv.rep.slice hx' x2
  have htr := sv.rep.term_in (i := c.next.get m - 1) (by omega) (by omega)
  refine k.say ⟨by show 1 ≤ c.self; omega, by show c.self ≤ g.size; omega, m1, m2, by show c.self ≠ m; omega, ht1, by show c.term ≤ g.tm c.self; rw [hself]; exact htm, sv.r1, sv.r2, .inr (.inr (.inl ⟨rfl, rfl, ?_⟩))⟩
  show g.H.led c.term = c.self ∧ 0 ≤ c.next.get m - 1 ∧ c.next.get m - 1 ≤ (g.H.ll c.term).length ∧ (c.log.term (c.next.get m - 1)).1 = termAt (g.H.ll c.term) (c.next.get m - 1).toNat ∧ (c.log.slice (c.next.get m) 8).1.length ≤ 8 ∧ c.next.get m - 1 + (c.log.slice (c.next.get m) 8).1.length ≤ (g.H.ll c.term).length ∧
   (c.log.slice (c.next.get m) 8).1 = ((g.H.ll c.term).drop (c.next.get m - 1).toNat).take (c.log.slice (c.next.get m) 8).1.length ∧ 0 ≤ c.commit ∧ c.commit ≤ (g.H.ll c.term).length ∧ Com g.H c.term c.commit.toNat (g.H.ll c.term)
  rw [l2, hsl, htr]
  refine ⟨by rw [l1, hself], by omega, by omega, rfl, by rw [List.length_take]; omega, by rw [List.length_take, List.length_drop]; omega, ?_, by omega, hc1, sv.com⟩
  rw [List.length_take]
  by_cases h : 8 ≤ (A.drop (c.next.get m - 1).toNat).length
  ·rw [Nat.min_eq_left h]
  ·rw [Nat.min_eq_right (by omega), List.take_of_length_le (by omega), List.take_length]
theorem send_st (c : CoreM) (m : Int) : (c.send m).state = c.state := by unfold CoreM.send; split <;> rfl
theorem Mid.sends (h2 : c.state = 2) : ∀ (l : List Int) (c : CoreM), c.state = 2 → Mid g n s c A → (∀ m ∈ l, 1 ≤ m ∧ m ≤ g.size ∧ m ≠ n) → Mid g n s (l.foldl CoreM.send c) A ∧ (l.foldl CoreM.send c).state = 2
 | [], c, hc, k, _ => ⟨k, hc⟩
 | m :: l, c, hc, k, h => by
  obtain ⟨m1, m2, m3⟩ := h m (by simp)
  rw [List.foldl_cons]
  exact Mid.sends h2 l _ ((send_st c m).trans hc) (k.send hc m1 m2 m3) fun j hj => h j (by simp [hj])
theorem Mid.sendAll (k : Mid g n s c A) (h2 : c.state = 2) : Mid g n s c.sendAll A ∧ c.sendAll.state = 2 :=
 Mid.sends h2 c.others c h2 k fun m hm => k.srv.others k.w m hm
theorem foldMax1 : ∀ (l : List Int) (a : Int), l.foldl (fun a b => if a < b then b else a) a = a ∨ l.foldl (fun a b => if a < b then b else a) a ∈ l
 | [], a => .inl rfl
 | y :: l, a => by
  rw [List.foldl_cons]
  rcases foldMax1 l (if a < y then y else a) with h | h
  ·split at h
   ·rename_i c; rw [if_pos c, h]; exact .inr (by simp)
   ·rename_i c; rw [if_neg c, h]; exact .inl rfl
  ·exact .inr (List.mem_cons_of_mem _ h)
theorem five_get_set (f : Five) (n m v : Int) (h1 : 1 ≤ m) (h2 : m ≤ 5) : (f.set n v).get m = if m = n then v else f.get m := by
 have : m = 1 ∨ m = 2 ∨ m = 3 ∨ m = 4 ∨ m = 5 := by omega
 rcases this with rfl | rfl | rfl | rfl | rfl <;> simp [Five.set, Five.get, eq_comm]
theorem k_first (w : Wld g) : g.H.first = 14 := w.first
theorem rankOf_most {now : Int} {f : Five} (h : 0 < rankOf now f) : mostOf now (fun m => decide (rankOf now f ≤ f.get m)) = true := by
 have hm : rankOf now f ∈ ((ls (m5 now)).map f.get).filter fun v => decide (((ls (m5 now)).map f.get).length < 2 * cnt v ((ls (m5 now)).map f.get)) := by
  have := foldMax1 (((ls (m5 now)).map f.get).filter fun v => decide (((ls (m5 now)).map f.get).length < 2 * cnt v ((ls (m5 now)).map f.get))) 0
  rcases this with e | e
  ·have e' : rankOf now f = 0 := e
   omega
  ·exact e
 generalize rankOf now f = r at *
 have := (List.mem_filter.1 hm).2
 simp only [decide_eq_true_eq, List.length_map] at this
 simp only [mostOf, decide_eq_true_eq]
 have e : cnt r ((ls (m5 now)).map f.get) = ((ls (m5 now)).filter fun m => decide (r ≤ f.get m)).length := by
  unfold cnt
  rw [List.countP_map, List.countP_eq_length_filter]
  rfl
 omega
theorem Srv.matched (w : Wld g) (k : Srv g n c A) (h2 : c.state = 2) : Srv g n { c with mtch := c.mtch.set c.self c.log.last.1 } A := by
 obtain ⟨l1, l2, l3, l4⟩ := k.lead h2
 have hn1 := k.n1; have hn2 := k.n2
 exact { k with
  lead := fun _ => ⟨l1, l2, fun m m1 m2 => by
   show 0 ≤ (c.mtch.set c.self c.log.last.1).get m ∧ ((c.mtch.set c.self c.log.last.1).get m).toNat ≤ _
   rw [five_get_set _ _ _ _ m1 m2, k.self, k.rep.last]
   split
   ·rename_i z
    refine ⟨by simp, ?_⟩
    have := w.accL c.term (by rw [l1]; omega)
    rw [l1, l2] at this
    rw [z]; show ((A.length : Int)).toNat ≤ g.H.acc n c.term; omega
   ·exact l3 m m1 m2, l4⟩
  idle := fun h => absurd h2 h }
theorem Mid.rank (k : Mid g n s c A) (h2 : c.state = 2) : Mid g n s c.rank A := by
 obtain ⟨d, hd⟩ : ∃ d : CoreM, d = { c with mtch := c.mtch.set c.self c.log.last.1 } := ⟨_, rfl⟩
 have sd : Srv g n d A := by rw [hd]; exact k.srv.matched k.w h2
 have kd : Mid g n s d A := ⟨k.w, sd, by rw [hd]; exact ⟨k.kp.hard, k.kp.log⟩, by rw [hd]; exact k.out⟩
 have hd2 : d.state = 2 := by rw [hd]; exact h2
 have er : c.rank = (let r := rankOf d.crewNow.1 d.mtch; if r ≤ d.commit ∨ d.has r d.term = false then d else if hasB d.crewNow.1 d.self = false ∧ d.crewNow.2 ≤ r then ({ d with commit := r } : CoreM).follow else { d with commit := r }) := by rw [hd]; rfl
 rw [er]
 clear er hd k
 obtain ⟨l1, l2, l3, l4⟩ := sd.lead hd2
 have hn1 := sd.n1; have hn2 := sd.n2
 have hl0 : g.H.led d.term ≠ 0 := by rw [l1]; omega
 have hb := sd.rep.lo; have hc0 := sd.c0; have hc1 := sd.c1
 simp only []
 generalize hr : rankOf d.crewNow.1 d.mtch = r
 by_cases c1 : r ≤ d.commit ∨ d.has r d.term = false
 ·rw [if_pos c1]; exact kd
 ·rw [if_neg c1]
  have hgt : d.commit < r := by omega
  have hhas : d.has r d.term = true := by
   cases hh : d.has r d.term
   ·exact absurd (.inr hh) c1
   ·rfl
  obtain ⟨r1, r2, r3⟩ := (sd.rep.has d rfl r d.term).1 hhas
  have hmost := rankOf_most (now := d.crewNow.1) (f := d.mtch) (by rw [hr]; omega)
  rw [hr, sd.crew.1] at hmost
  have hch : Chosen g.H d.term r.toNat := by
   refine ⟨hl0, ?_, A.length, by omega, by rw [l2]; exact Nat.le_refl _, ?_⟩
   ·obtain ⟨e, he⟩ : ∃ e, A[r.toNat - 1]? = some e := ⟨A[r.toNat - 1], by simp⟩
    have ht := termAt_some he
    rw [show r.toNat - 1 + 1 = r.toNat by omega, r3] at ht
    exact ⟨r.toNat - 1, e, by omega, by rw [l2]; exact he, ht.symm⟩
   ·rw [k_first kd.w, l2, List.take_length]
    simp only [mostOf, decide_eq_true_eq] at hmost ⊢
    refine Nat.lt_of_lt_of_le hmost (Nat.mul_le_mul_left 2 ?_)
    have : ∀ l : List Int, (∀ m ∈ l, 1 ≤ m ∧ m ≤ 5) → (l.filter fun m => decide (r ≤ d.mtch.get m)).length ≤ (l.filter (Acked g.H d.term r.toNat)).length := by
     intro l
     induction l with
     | nil => intro _; simp
     | cons z l ih =>
      intro hl
      have hz := l3 z (hl z (by simp)).1 (hl z (by simp)).2
      have ih := ih fun m hm => hl m (by simp [hm])
      rw [List.filter_cons, List.filter_cons]
      by_cases c2 : r ≤ d.mtch.get z
      ·rw [if_pos (by simpa using c2), if_pos (by simp only [Acked, decide_eq_true_eq]; omega)]; simp; exact ih
      ·rw [if_neg (by simpa using c2)]
       split
       ·simp; omega
       ·exact ih
    exact this _ (ls_in1 _)
  have sr : Srv g n { d with commit := r } A := { sd with
   c0 := by show d.log.bi ≤ r; omega
   c1 := r2
   com := .inr ⟨d.term, r.toNat, hch, Int.le_refl _, Nat.le_refl _, by rw [l2]; exact Pre.refl (by show r.toNat ≤ _; omega)⟩
   lc := fun _ _ _ => hch }
  have km : Mid g n s { d with commit := r } A := ⟨kd.w, sr, ⟨kd.kp.hard, kd.kp.log⟩, kd.out⟩
  split
  ·exact km.follow
  ·exact km
theorem Mid.confirm (k : Mid g n s c A) : Mid g n s c.confirm A := by
 unfold CoreM.confirm
 split
 ·exact k
 ·rename_i h
  have sv := k.srv
  refine ⟨k.w, ?_, ⟨k.kp.hard, k.kp.log⟩, k.out⟩
  exact { sv with
   idle := fun z => absurd z h
   rl := by
    have := List.length_filter_le (fun r => !c.roundOk r) c.reads
    have := sv.rl
    show ((c.reads.filter fun r => !c.roundOk r).length : Int) ≤ _
    omega }
end Go.Ah
namespace Go.Ah
open Go.Proofs
set_option linter.unusedVariables false
set_option linter.unusedSimpArgs false
variable {g : Gh} {n : Int} {s : SavedM} {c : CoreM} {A : List Abs}
def Gh.more (g : Gh) (d : Int) : Gh := { g with lim := g.lim + d }
theorem ext_more {d : Int} (h : 0 ≤ d) : Ext n g (g.more d) :=
 ⟨rfl, by show g.lim ≤ g.lim + d; omega, rfl, fun _ _ => rfl, Int.le_refl _, fun _ _ _ => rfl, fun _ _ _ => rfl, fun _ _ _ _ => rfl, fun _ _ => ⟨rfl, rfl, Pre.refl (Nat.le_refl _)⟩, fun t h h' => absurd h h', fun _ _ _ => rfl, fun _ _ => Nat.le_refl _, fun _ _ _ => rfl⟩
theorem Wld.more (w : Wld g) {d : Int} (h : 0 ≤ d) (hl : g.lim + d ≤ 100000000) : Wld (g.more d) :=
 { w with
  l1 := fun m m1 m2 => by have := w.l1 m m1 m2; show g.tm m ≤ g.lim + d; omega
  l2 := fun t => by have := w.l2 t; show ((g.H.ll t).length : Int) ≤ g.lim + d; omega
  l3 := hl }
theorem Srv.more (k : Srv g n c A) {d : Int} (h : 0 ≤ d) : Srv (g.more d) n c A :=
 { k with
  al := by have := k.al; show (A.length : Int) ≤ g.lim + d; omega
  r2 := by have := k.r2; show c.round ≤ g.lim + d; omega
  rl := by have := k.rl; show (c.reads.length : Int) ≤ g.lim + d; omega }
theorem CoreM.lead_eq (c : CoreM) : c.lead = ((c.office.put 0 []).sendAll).rank := rfl
theorem Mid.lead (k : Mid g n s c A) (h1 : c.state = 1) (he : c.elected = true) (hs : c.out.snap.index = 0) (hal : (A.length : Int) + 1 ≤ g.lim) :
  ∃ g' A', Ext n g g' ∧ g'.lim = g.lim ∧ Mid g' n s c.lead A' := by
 obtain ⟨_, _, _, _, ct, _⟩ := k.srv.cand h1
 obtain ⟨g1, x1, l1, k1⟩ : ∃ g', Ext n g g' ∧ g'.lim = g.lim ∧ Mid g' n s c.office A := by
  obtain ⟨g', x, l, y⟩ := k.wins' h1 he
  exact ⟨g', x, l, y⟩
 obtain ⟨g2, x2, l2, k2, s2⟩ := k1.put rfl 0 [] hs (by rw [l1]; exact hal) ct ⟨Int.le_refl 0, by show (0 : Int) ≤ 2; omega, by simp, by simp, fun h => by cases h⟩ (fun h => by cases h)
 obtain ⟨k3, s3⟩ := k2.sendAll s2
 exact ⟨g2, _, x1.trans x2, l2.trans l1, k3.rank s3⟩
theorem Mid.saysVote (h1 : c.state = 1) : ∀ (l : List Int) (c : CoreM), c.state = 1 → Mid g n s c A → (∀ m ∈ l, 1 ≤ m ∧ m ≤ g.size ∧ m ≠ n) →
  Mid g n s (l.foldl (fun x m => x.say m { post0 with kind := 1, index := (A.length : Int), logTerm := termAt A A.length }) c) A ∧ (l.foldl (fun x m => x.say m { post0 with kind := 1, index := (A.length : Int), logTerm := termAt A A.length }) c).state = 1
 | [], c, hc, k, _ => ⟨k, hc⟩
 | m :: l, c, hc, k, h => by
  obtain ⟨m1, m2, m3⟩ := h m (by simp)
  obtain ⟨a, b, d, e, f, _⟩ := k.srv.cand hc
  have sv := k.srv
  have hself := sv.self
  have hn1 := sv.n1; have hn2 := sv.n2
  have hlim := k.w.lim0 sv
  rw [List.foldl_cons]
  refine Mid.saysVote h1 l _ hc (k.say ?_) fun j hj => h j (by simp [hj])
  refine ⟨by show 1 ≤ c.self; omega, by show c.self ≤ g.size; omega, m1, m2, by show c.self ≠ m; omega, f, by show c.term ≤ g.tm c.self; rw [hself, sv.tm]; exact Int.le_refl _, Int.le_refl 0, hlim, .inl ⟨rfl, rfl, ?_⟩⟩
  show g.vt c.self c.term = c.self ∧ (A.length : Int) = (g.cand c.term c.self).length ∧ termAt A A.length = termAt (g.cand c.term c.self) (g.cand c.term c.self).length ∧ (A.length : Int) ≤ g.lim
  rw [hself, d]
  exact ⟨b, rfl, rfl, sv.al⟩
def CoreM.stoodM (c : CoreM) : CoreM := { c.learn (c.term + 1) with vote := c.self, state := 1, votes := 2 ^ c.self.toNat }
theorem CoreM.stand_is (c : CoreM) : c.stand = if hasB c.crewNow.1 c.self = false ∨ c.term = 9007199254740991 then c
 else if (c.stoodM.others.foldl (fun x m => x.say m { post0 with kind := 1, index := c.log.last.1, logTerm := c.log.last.2 }) c.stoodM).elected = true then (c.stoodM.others.foldl (fun x m => x.say m { post0 with kind := 1, index := c.log.last.1, logTerm := c.log.last.2 }) c.stoodM).lead
  else c.stoodM.others.foldl (fun x m => x.say m { post0 with kind := 1, index := c.log.last.1, logTerm := c.log.last.2 }) c.stoodM := rfl
theorem says_out (p : PostM) : ∀ (l : List Int) (c : CoreM), (l.foldl (fun x m => x.say m p) c).out.snap = c.out.snap
 | [], c => rfl
 | m :: l, c => by rw [List.foldl_cons, says_out p l]; rfl
theorem Mid.stand (k : Mid g n s c A) (hs : c.out.snap.index = 0) (hal : (A.length : Int) + 1 ≤ g.lim) (htl : c.term + 1 ≤ g.lim) : ∃ g' A', Ext n g g' ∧ g'.lim = g.lim ∧ Mid g' n s c.stand A' := by
 rw [CoreM.stand_is]
 split
 ·exact ⟨g, A, Ext.refl _ _, rfl, k⟩
 ·obtain ⟨x, kd⟩ := k.stood htl
  have hlast := k.srv.rep.last
  rw [hlast]
  simp only []
  have ho := fun m hm => kd.srv.others kd.w m hm
  obtain ⟨ke, se⟩ := Mid.saysVote (c := c.stoodM) rfl c.stoodM.others c.stoodM rfl kd ho
  split
  ·rename_i hel
   obtain ⟨g2, A2, x2, l2, k2⟩ := ke.lead se hel (by rw [says_out]; exact hs) hal
   exact ⟨g2, A2, x.trans x2, l2, k2⟩
  ·exact ⟨_, A, x, rfl, ke⟩
theorem Mid.tick (k : Mid g n s c A) (hs : c.out.snap.index = 0) (hal : (A.length : Int) + 1 ≤ g.lim) (htl : c.term + 1 ≤ g.lim) {d : Int} (hd : 0 ≤ d) : ∃ g' A', Ext n g g' ∧ g'.lim = g.lim ∧ Mid g' n s (c.tick d) A' := by
 have sv := k.srv
 unfold CoreM.tick
 split
 ·rename_i h2
  split
  ·have k' : Mid g n s { c with beat := 2 } A := ⟨k.w, { sv with b0 := fun _ => by show (1 : Int) ≤ 2; omega, b1 := by show (0 : Int) ≤ 2; omega, b2 := Int.le_refl 2 }, ⟨k.kp.hard, k.kp.log⟩, k.out⟩
   exact ⟨g, A, Ext.refl _ _, rfl, (k'.sendAll h2).1⟩
  ·rename_i hb
   have := sv.b0 h2; have := sv.b2
   exact ⟨g, A, Ext.refl _ _, rfl, ⟨k.w, { sv with b0 := fun _ => by show 1 ≤ c.beat - 1; omega, b1 := by show 0 ≤ c.beat - 1; omega, b2 := by show c.beat - 1 ≤ 2; omega }, ⟨k.kp.hard, k.kp.log⟩, k.out⟩⟩
 ·rename_i h2
  obtain ⟨q, hq, hq1, hq2⟩ : ∃ q, q = (if 10 < c.quiet + 1 then 10 else c.quiet + 1) ∧ 0 ≤ q ∧ q ≤ 10 := by
   have := sv.q1; have := sv.q2
   refine ⟨_, rfl, ?_, ?_⟩ <;> split <;> omega
  rw [← hq]
  have hw1 := sv.w1; have hw2 := sv.w2
  simp only []
  split
  ·obtain ⟨y1, y2⟩ := waits_in hd
   have k' : Mid g n s { c with quiet := q, wait := waits d } A := ⟨k.w, { sv with q1 := hq1, q2 := hq2, w1 := by show 1 ≤ waits d; omega, w2 := y2 }, ⟨k.kp.hard, k.kp.log⟩, k.out⟩
   exact k'.stand hs hal htl
  ·rename_i hw
   exact ⟨g, A, Ext.refl _ _, rfl, ⟨k.w, { sv with q1 := hq1, q2 := hq2, w1 := by show 1 ≤ c.wait - 1; omega, w2 := by show c.wait - 1 ≤ 19; omega }, ⟨k.kp.hard, k.kp.log⟩, k.out⟩⟩
end Go.Ah
