/- Texts that the law leans on, one behind the other. -/
import Derived.Test.YtdmjkpjedidipaaGreatKCk10
namespace Go.Ah
open Go.Proofs
set_option linter.unusedVariables false
set_option linter.unusedSimpArgs false
set_option maxRecDepth 20000
variable {h h' : Heap} {N p : Nat} {x : NetM} {v : NX} {n : Int} {g : Gh}
theorem and_1023 (b : Int) : IntKind.i64.wrap (BitVec.ofInt 64 b &&& BitVec.ofInt 64 1023).toNat = b % 1024 := by
 have h1 : (BitVec.ofInt 64 b &&& BitVec.ofInt 64 1023).toNat = (b % 2 ^ 64).toNat % 1024 := by
  rw [BitVec.toNat_and, BitVec.toNat_ofInt, BitVec.toNat_ofInt]
  exact Nat.and_two_pow_sub_one_eq_mod _ 10
 have h2 : ((b % 2 ^ 64).toNat : Int) = b % 2 ^ 64 := Int.toNat_of_nonneg (Int.emod_nonneg _ (by decide))
 have h3 : (((b % 2 ^ 64).toNat % 1024 : Nat) : Int) = b % 1024 := by
  rw [Int.natCast_emod, h2]
  omega
 rw [h1, h3]
 exact i64_wrap (by omega) (by omega)
structure StepH where
  op : Int
  a : Int
  b : Int
def StepH.cells (s : StepH) : List Value := [I s.op, I s.a, I s.b]
def StepH.m (s : StepH) : StepM := ⟨s.op, s.a, s.b⟩
theorem Given.of (w : Wld g) (n1 : 1 ≤ n) {y : PH} (hr : ∃ r, y.Ok h (N + 1, r) (N + 1, 5) (N + 1, 6)) (m : Msg g y.abs) : ∀ oo, Bound oo h → N + 2 * n.toNat + 1 < oo → Given h (N + 2 * n.toNat) oo y := by
 intro oo bnd ho
 obtain ⟨r, hr⟩ := hr
 obtain ⟨a, b, c⟩ := m.small w
 have hl : y.es.length = y.e.n := hr.es.len
 have c' : y.es.length ≤ 8 := by have := c; simpa [PH.abs] using this
 have ht : ∀ r : Nat, ((N + 1, r) : Tag).1 ∉ [N + 2 * n.toNat, N + 2 * n.toNat + 1, oo] := fun r => by simp; omega
 have h2 : y.abs.snap.crew = y.sc := rfl
 exact ⟨⟨_, _, _, hr, ht _, ht _, ht _⟩, fun e he z hz => a e.abs (List.mem_map.2 ⟨e, he, rfl⟩) z hz, by omega, by omega, by omega⟩
theorem dropN_map {α β : Type} (f : α → β) (l : List α) (i : Nat) : (dropN l i).map f = dropN (l.map f) i := by simp [dropN, List.map_take, List.map_drop]
def NetM.opTake (x : NetM) (i : Nat) : Option PostM → NetM
  | none => x
  | some p => ({ x with mails := dropN x.mails i }).take p x.draw
def NetM.opTwice (x : NetM) : Option PostM → NetM
  | none => x
  | some p => if x.mails.length < 300 then { x with mails := x.mails ++ [p] } else x
theorem not_loc {N q : Nat} (hN : N ≠ 0) : ((0, 1) : Tag).1 ∉ [N + 2 * q, N + 2 * q + 1] := by simp; omega
theorem dropN_len {α : Type} (l : List α) (i : Nat) : (dropN l i).length ≤ l.length := by simp [dropN]; omega
set_option maxHeartbeats 16000000 in
theorem step_any (k0 : NetX h N p x v) (i0 : NetI g x) (hdr : x.draw < 100003) (hl : g.lim + 60 ≤ 100000000) (s : StepH) :
  ACalls PR 16 #[Ptr p, .agg s.cells.toArray] h (fun r h' => r = .tuple #[] ∧ (∃ v', NetX h' N p (x.step s.m) v') ∧ Low N h h') := by
 rw [step_eq]
 have hdr0 := i0.draw
 obtain ⟨x0, hx0⟩ : ∃ x0 : NetM, x0 = { x with draw := (x.draw * 7 + s.b % 1024 + 3) % 100003 } := ⟨_, rfl⟩
 have i : NetI g x0 := by rw [hx0]; exact i0.withDraw (Int.emod_nonneg _ (by omega))
 rw [show ({ x with draw := (x.draw * 7 + s.m.b % 1024 + 3) % 100003 } : NetM) = x0 from hx0.symm]
 have hN := k0.n0
 have hs5 : x0.size ≤ 5 := by rw [hx0]; exact k0.sz5
 have hs3 : 3 ≤ x0.size := by rw [hx0]; exact k0.sz3
 have t01 : ((0, 1) : Tag) ≠ (N, 0) := fun c => by have := congrArg Prod.fst c; simp only at this; omega
 refine acalls_of mix Tryz.func16 rfl rfl Tryz.ntmps16 Tryz.results16 rfl ?_; conv=>whnf
 refine ABox.mkN (0, 1) (s.cells) rfl fun b3 h1 n1' s1 q1 => ?_; conv=>whnf
 have k1 := k0.sub s1
 refine ADrawn.mk (h1) [13] (Sub.refl _) (by decide +kernel) ?_; conv=>whnf
 refine ALoad.one rfl k1.str rfl ?_; conv=>whnf
 refine AArith.ok (by omega) (by omega) (rfl) ?_; conv=>whnf
 refine ALoad.one rfl q1 rfl ?_; conv=>whnf
 refine AInt.as (and_1023 s.b) ?_; conv=>whnf
 refine AArith.ok (by omega) (by omega) (rfl) ?_; conv=>whnf
 refine AArith.ok (by omega) (by omega) (rfl) ?_; conv=>whnf
 refine AStore.oneN rfl rfl rfl (k1.str) rfl (netCells { x with draw := x.draw * 7 + s.b % 1024 + 3 } v) rfl fun h2 t2 q2 a2 e2 => ?_; conv=>whnf
 refine ALoad.one rfl q2 rfl ?_; conv=>whnf
 refine ⟨by omega, ?_⟩
 refine AInt.as (Int.tmod_eq_emod_of_nonneg (by show 0 ≤ x.draw * 7 + s.b % 1024 + 3; omega)) ?_; conv=>whnf
 refine AStore.oneN rfl rfl rfl (q2) rfl (netCells { x with draw := (x.draw * 7 + s.b % 1024 + 3) % 100003 } v) rfl fun h3 t3 q3 a3 e3 => ?_; conv=>whnf
 rw [← hx0] at q3
 have k : NetX h3 N p x0 v := k1.move' (fun b t y _ n e => t3 _ _ _ n (t2 _ _ _ n e)) q3 (by rw [hx0]) (by rw [hx0]) (by rw [hx0]) (by rw [hx0]) (by rw [hx0]) (by rw [hx0]) rfl
 have L3 : Low N h h3 := fun b t y ht e => t3 _ _ _ (fun c => by rw [c] at ht; simp at ht) (t2 _ _ _ (fun c => by rw [c] at ht; simp at ht) (s1 _ _ e))
 have r3 := t3.get t01 (t2.get t01 q1)
 have hd0 : 0 ≤ x0.draw ∧ x0.draw < 100003 := by
  rw [hx0]; exact ⟨Int.emod_nonneg _ (by omega), Int.emod_lt_of_pos _ (by omega)⟩
 clear k1 q1 q2 q3 t2 a2 e2 t3 a3 e3 s1 n1' hx0 k0 i0 hdr hdr0
 obtain ⟨b1, b2⟩ := bring_in s.a x0.size (by omega)
 obtain ⟨n, hn⟩ : ∃ n, n = 1 + bring s.a x0.size := ⟨_, rfl⟩
 have n1 : 1 ≤ n := by omega
 have n2 : n ≤ x0.size := by omega
 have n5 : n ≤ 5 := by omega
 obtain ⟨m, hm⟩ : ∃ m : Nat, n = m := ⟨n.toNat, by omega⟩
 have hmn : v.ps.length = v.ml.n := by have := k.ml.sl.len; rw [flat_len (ph_len v.ps)] at this; simp at this; omega
 have hmo : v.ps.length = x0.mails.length := by have := congrArg List.length k.pa; rw [List.length_map] at this; omega
 have hmb := k.mb
 refine ADrawn.mk (h3) [] (Sub.refl _) (by decide +kernel) ?_; conv=>whnf
 refine ALoad.one rfl r3 rfl ?_; conv=>whnf
 refine ALoad.one rfl k.str rfl ?_; conv=>whnf
 refine ACalls.mono (bring_any s.a x0.size (by omega) h3) ?_; rintro _ _ ⟨rfl, rfl⟩; conv=>whnf
 refine ⟨Sub.refl _, ?_⟩; conv=>whnf
 refine AArith.ok (by omega) (by omega) (hn.symm) ?_; conv=>whnf
 refine ALoad.one rfl k.str rfl ?_; conv=>whnf
 obtain ⟨b, hb, id⟩ := k.cores n n1 n2
 by_cases cl : 0 < x0.mails.length
 ·refine ACmp.yes ((by omega)) ?_; conv=>whnf
  refine ADrawn.mk (h3) [] (Sub.refl _) (by decide +kernel) ?_; conv=>whnf
  refine ALoad.one rfl r3 rfl ?_; conv=>whnf
  refine ALoad.one rfl k.str rfl ?_; conv=>whnf
  obtain ⟨j1, j2⟩ := bring_in s.a x0.mails.length (by omega)
  obtain ⟨j, hj⟩ : ∃ j : Nat, j = (bring s.a x0.mails.length).toNat := ⟨_, rfl⟩
  refine ACalls.mono (bring_any s.a v.ml.n (by omega) h3) ?_
  rintro _ _ ⟨rfl, rfl⟩
  rw [show bring s.a (v.ml.n : Int) = (j : Int) by rw [← hmn, hmo]; omega]
  conv=>whnf
  refine ⟨Sub.refl _, ?_⟩; conv=>whnf
  have hjl : j < v.ml.n := by omega
  obtain ⟨y, hy⟩ : ∃ y, v.ps[j]? = some y := ⟨v.ps[j]'(by omega), by simp⟩
  have hmj : x0.mails[j]? = some y.abs := by rw [← k.pa, List.getElem?_map, hy]; rfl
  have hyc : (v.ps.map PH.cells)[j]? = some y.cells := by rw [List.getElem?_map, hy]; rfl
  have hop1 := bring_in s.op 10 (by omega)
  obtain ⟨op, hop⟩ : ∃ op, op = bring s.op 10 := ⟨_, rfl⟩
  refine ALoad.one rfl r3 rfl ?_; conv=>whnf
  refine ACalls.mono (bring_any s.op 10 (by omega) h3) ?_; rintro _ _ ⟨rfl, rfl⟩; conv=>whnf
  rw [← hop]
  have hst : x0.stepOf s.m = (if op = 0 then x0.opTake (bring s.a x0.mails.length).toNat x0.mails[(bring s.a x0.mails.length).toNat]?
   else if op = 1 then x0.tick n x0.draw
   else if op = 2 then x0.propose n 1 [s.b % 256, x0.draw % 256]
   else if op = 3 then (if x0.mails = [] then x0 else { x0 with mails := dropN x0.mails (bring s.a x0.mails.length).toNat })
   else if op = 4 then x0.opTwice x0.mails[(bring s.a x0.mails.length).toNat]?
   else if op = 5 then x0.again n
   else if op = 6 then x0.change n s.b
   else if op = 7 then x0.read n
   else if op = 8 then x0.compact n
   else x0.tickAll) := by rw [hop, hn]; rfl
  rw [hst]
  clear hst
  conv=>whnf
  by_cases c0 : op = 0
  ·refine ACmp.yes (c0) ?_; conv=>whnf
   rw [if_pos c0]
   rw [← hj, hmj, show x0.opTake j (some y.abs) = ({ x0 with mails := dropN x0.mails j }).take y.abs x0.draw from rfl]
   obtain ⟨bb, off, l, E, fz, ea, hbb, gp, _⟩ := Sl.elem k.ml.sl (ph_len v.ps) (by rw [List.length_map]; omega) (by omega) hyc
   have hpm := i.mails y.abs (List.mem_of_getElem? hmj)
   refine ALoad.one rfl k.str rfl ?_; conv=>whnf
   refine ACmp.yes ((by omega)) ?_; conv=>whnf
   refine ALoad.one rfl k.str rfl ?_; conv=>whnf
   rw [ea]
   refine AIdx.nat rfl hjl rfl rfl ?_; conv=>whnf
   refine ALoad.agg rfl hbb gp rfl ?_; conv=>whnf
   refine AAlloc.mkN (0, 1) (post0z) rfl fun b6 h4 n4 s4 q4 => ?_; conv=>whnf
   refine AStore.aggN rfl rfl rfl (q4) rfl (y.cells) rfl fun h5 t5 q5 a5 e5 => ?_; conv=>whnf
   have s5 : Sub h3 h5 := a5 h3 s4 n4
   have k5 := k.sub s5
   have L5 : Low N h h5 := L3.trans s5.low
   refine ALoad.one rfl k5.str rfl ?_; conv=>whnf
   refine ACalls.mono (drop_any (tg := (N, 3)) k5.ml.sl (by omega) j hjl) ?_
   rintro _ h17 ⟨ml17, rfl, ow17, t17⟩
   conv=>whnf
   refine AStore.oneN rfl rfl rfl ((t17.get (u := (N, 0)) (by simp) k5.str)) rfl (netCells x0 { v with ml := ml17 }) rfl fun h18 t18 q18 a18 e18 => ?_; conv=>whnf
   have k18 := k5.mlSet (h' := h18) (s := ml17) (ps := dropN v.ps j) (l := dropN x0.mails j) (fun b t y n0 n3 e => t18 _ _ _ n0 (t17 _ _ _ n3 e)) q18 (ow17.keepT t18 (by simp)) (by rw [dropN_map, k.pa]) (fun y hy => k5.ps y (mem_dropN hy)) (Nat.le_trans (dropN_len _ _) hmb)
   have L18 : Low N h h18 := L5.trans fun b t y ht e => t18 _ _ _ (fun c => by rw [c] at ht; simp at ht) (t17 _ _ _ (fun c => by rw [c] at ht; simp at ht) e)
   have q6 := t18.get t01 (t17.get (u := (0, 1)) (fun c => by have := congrArg Prod.snd c; simp at this) q5)
   have hyr : ∃ r, y.Ok h18 (N + 1, r) (N + 1, 5) (N + 1, 6) := by
    obtain ⟨r, hr⟩ := k5.ps y (List.mem_of_getElem? hy)
    exact ⟨r, hr.move fun b t z ht e => t18 _ _ _ (by rcases ht with rfl | rfl | rfl <;> simp) (t17 _ _ _ (by rcases ht with rfl | rfl | rfl <;> simp) e)⟩
   have i18 : NetI g { x0 with mails := dropN x0.mails j } := i.withMails fun q hq => i.mails q (mem_dropN hq)
   have hsz := i.sz
   have z1 : 1 ≤ y.dst := hpm.d1
   have z2 : y.dst ≤ x0.size := by rw [← hsz]; exact hpm.d2
   have z5 : y.dst ≤ 5 := by omega
   obtain ⟨mz, hmz⟩ : ∃ mz : Nat, y.dst = mz := ⟨y.dst.toNat, by omega⟩
   obtain ⟨bz, hbz, idz⟩ := k18.cores y.dst z1 z2
   obtain ⟨tk, okk⟩ := i18.keepTake hpm (d := x0.draw) hd0.1 (by omega)
   have tk' : (x0.cores.get y.dst).takes y.abs = true := tk
   have okk' : KeepOk { x0 with mails := dropN x0.mails j, cores := x0.cores.set y.dst ((x0.cores.get y.dst).take y.abs x0.draw).done.1 } y.dst ((x0.cores.get y.dst).take y.abs x0.draw).done.2 := okk
   have ck := i18.cok z1 z2
   have etake : ({ x0 with mails := dropN x0.mails j } : NetM).take y.abs x0.draw = ({ x0 with mails := dropN x0.mails j } : NetM).out y.dst ((x0.cores.get y.dst).take y.abs x0.draw) := if_pos tk'
   rw [etake]
   refine ADrawn.mkT (h18) [12] (.take 0 (.take 1 (.take 2 (.take 3 (.take 4 (.take 5 (.take 6 (.take 7 (.take 8 (.take 9 (.take 10 (.take 11 (.alt 12 (.take 13 (.take 14 (.take 15 (.take 16 (.take 17 (.take 18 (.done))))))) (.alt 16 (.take 12 (.take 13 (.take 14 (.take 15 (.take 17 (.take 18 (.done))))))) (.stop))))))))))))))) (Sub.refl _) (by decide +kernel) ?_; conv=>whnf
   refine ALoad.one rfl q6 rfl ?_; conv=>whnf
   refine AIdxA.nat (n := 6) (z := 1) (j := mz) (by omega) (by omega) rfl rfl ?_; conv=>whnf
   refine ALoad.one (v := Ptr bz) rfl k18.str (by have := core_cell { x0 with mails := dropN x0.mails j } { v with ml := ml17, ps := dropN v.ps j } z1 z5; rw [hbz] at this; rw [show 0 + 2 + mz * 1 = 2 + (y.dst).toNat by omega]; exact this) ?_; conv=>whnf
   refine ALoad.agg rfl q6 rfl rfl ?_; conv=>whnf
   refine ALoad.one rfl k18.str rfl ?_; conv=>whnf
   refine And.intro ?_ ?_
   ·refine ACalls.mono (take_net (N + 1) (by omega) idz ck y (Given.of i.w z1 hyr hpm) tk' hd0.1) ?_
    rintro _ h7 ⟨u, rfl, ox, rfl, ok7, id7, kk7⟩
    conv=>whnf
    refine AAlloc.mkN (0, 1) (outCells out0 ox0) rfl fun b8 h8 n8 s8 k8 => ?_; conv=>whnf
    refine ⟨Sub.nil _, ?_⟩; conv=>whnf
    refine AStore.aggN rfl rfl rfl (k8) rfl (outCells ((x0.cores.get y.dst).take y.abs x0.draw).done.2 ox) rfl fun h9 t9 k9 a9 e9 => ?_; conv=>whnf
    refine ⟨Sub.nil _, ?_⟩; conv=>whnf
    have s9 : Sub h7 h9 := a9 h7 s8 n8
    have ke := (k18.coreSet z1 z2 hbz kk7 id7).sub s9
    have oe : OutOk h9 (N + 1) ((x0.cores.get y.dst).take y.abs x0.draw).done.2 ox := ok7.move fun _ _ _ _ e => s9 _ _ e
    have q69 := s9 _ _ (kk7 _ _ _ (not_loc hN) q6)
    have le : Low N h h9 := L18.trans ((keeps_low z1 kk7).trans s9.low)
    refine ALoad.one rfl ke.str rfl ?_; conv=>whnf
    refine ACmp.yes (rfl) ?_; conv=>whnf
    refine AStore.oneN rfl rfl rfl (ke.str) rfl (netCells x0 { v with ml := ml17 }) rfl fun h30 t30 q30 a30 e30 => ?_; conv=>whnf
    have k30 := ke.same t30 q30
    have q6' := t30.get t01 q69
    have q7' := t30.get t01 k9
    have o30 : OutOk h30 (N + 1) ((x0.cores.get y.dst).take y.abs x0.draw).done.2 ox := oe.move fun b t z ht e => t30 _ _ _ (fun c => by rw [c] at ht; simp only at ht; omega) e
    refine ALoad.one rfl q6' rfl ?_; conv=>whnf
    refine ALoad.agg rfl q7' rfl rfl ?_; conv=>whnf
    refine ACalls.mono (out_yes k30 z1 z2 o30 okk') ?_
    rintro _ h16 ⟨rfl, k16, L16⟩
    conv=>whnf
    exact ⟨rfl, k16, le.trans (Low.trans (fun b t z ht e => t30 _ _ _ (fun c => by rw [c] at ht; simp at ht) e) L16)⟩
   ·conv=>whnf
    refine And.intro ?_ trivial
    refine AAlloc.mkN (0, 1) (outCells out0 ox0) rfl fun b8 h8 n8 s8 k8 => ?_; conv=>whnf
    refine ⟨s8, ?_⟩; conv=>whnf
    have id8 : PIdle h8 bz (N + 2 * (y.dst).toNat) (x0.cores.get y.dst) := idz.move fun _ _ _ _ e => s8 _ _ e
    have hyr8 : ∃ r, y.Ok h8 (N + 1, r) (N + 1, 5) (N + 1, 6) := by
     obtain ⟨r, hr⟩ := hyr
     exact ⟨r, hr.move fun _ _ _ _ e => s8 _ _ e⟩
    refine ACalls.mono (take_net (N + 1) (by omega) id8 ck y (Given.of i.w z1 hyr8 hpm) tk' hd0.1) ?_
    rintro _ h7 ⟨u, rfl, ox, rfl, ok7, id7, kk7⟩
    conv=>whnf
    refine AStore.aggN rfl rfl rfl ((kk7 _ _ _ (not_loc hN) k8)) rfl (outCells ((x0.cores.get y.dst).take y.abs x0.draw).done.2 ox) rfl fun h9 t9 k9 a9 e9 => ?_; conv=>whnf
    refine ⟨Sub.nil _, ?_⟩; conv=>whnf
    have ke := ((k18.sub s8).coreSet z1 z2 hbz kk7 id7).local t9
    have oe : OutOk h9 (N + 1) ((x0.cores.get y.dst).take y.abs x0.draw).done.2 ox := ok7.local (by omega) t9
    have b68 : b6 ≠ b8 := fun c => by rw [c, n8] at q6; cases q6
    have q69 := e9 _ _ b68 (kk7 _ _ _ (not_loc hN) (s8 _ _ q6))
    have le : Low N h h9 := L18.trans fun b t z ht e => e9 _ _ (fun c => by rw [c, n8] at e; cases e) (kk7 _ _ _ (by simp; omega) (s8 _ _ e))
    refine ALoad.one rfl ke.str rfl ?_; conv=>whnf
    refine ACmp.yes (rfl) ?_; conv=>whnf
    refine AStore.oneN rfl rfl rfl (ke.str) rfl (netCells x0 { v with ml := ml17 }) rfl fun h30 t30 q30 a30 e30 => ?_; conv=>whnf
    have k30 := ke.same t30 q30
    have q6' := t30.get t01 q69
    have q7' := t30.get t01 k9
    have o30 : OutOk h30 (N + 1) ((x0.cores.get y.dst).take y.abs x0.draw).done.2 ox := oe.move fun b t z ht e => t30 _ _ _ (fun c => by rw [c] at ht; simp only at ht; omega) e
    refine ALoad.one rfl q6' rfl ?_; conv=>whnf
    refine ALoad.agg rfl q7' rfl rfl ?_; conv=>whnf
    refine ACalls.mono (out_yes k30 z1 z2 o30 okk') ?_
    rintro _ h16 ⟨rfl, k16, L16⟩
    conv=>whnf
    exact ⟨rfl, k16, le.trans (Low.trans (fun b t z ht e => t30 _ _ _ (fun c => by rw [c] at ht; simp at ht) e) L16)⟩
  refine ACmp.no (c0) ?_; conv=>whnf
  rw [if_neg c0]
  by_cases c1 : op = 1
  ·refine ACmp.yes (c1) ?_; conv=>whnf
   rw [if_pos c1]
   refine ADrawn.mkT (h3) [10] (.take 0 (.take 1 (.take 2 (.take 3 (.take 4 (.take 5 (.take 6 (.take 7 (.take 8 (.take 9 (.alt 10 (.take 11 (.take 12 (.take 13 (.take 14 (.take 15 (.take 16 (.done))))))) (.alt 14 (.take 10 (.take 11 (.take 12 (.take 13 (.take 15 (.take 16 (.done))))))) (.stop))))))))))))) (Sub.refl _) (by decide +kernel) ?_; conv=>whnf
   refine AIdxA.nat (n := 6) (z := 1) (j := m) (by omega) (by omega) rfl rfl ?_; conv=>whnf
   refine ALoad.one (v := Ptr b) rfl k.str (by have := core_cell x0 v n1 n5; rw [hb] at this; rw [show 0 + 2 + m * 1 = 2 + (n).toNat by omega]; exact this) ?_; conv=>whnf
   refine ALoad.one rfl k.str rfl ?_; conv=>whnf
   have okk := i.keepTick n1 n2 hd0.1 (by omega)
   refine And.intro ?_ ?_
   ·refine ACalls.mono (tick_net (N + 1) (by omega) id (i.cok n1 n2) hd0.1) ?_
    rintro _ h7 ⟨u, rfl, ox, rfl, ok7, id7, kk7⟩
    conv=>whnf
    refine AAlloc.mkN (0, 1) (outCells out0 ox0) rfl fun b8 h8 n8 s8 k8 => ?_; conv=>whnf
    refine ⟨Sub.nil _, ?_⟩; conv=>whnf
    refine AStore.aggN rfl rfl rfl (k8) rfl (outCells ((x0.cores.get n).tick x0.draw).done.2 ox) rfl fun h9 t9 k9 a9 e9 => ?_; conv=>whnf
    refine ⟨Sub.nil _, ?_⟩; conv=>whnf
    have s9 : Sub h7 h9 := a9 h7 s8 n8
    have ke := (k.coreSet n1 n2 hb kk7 id7).sub s9
    have oe : OutOk h9 (N + 1) ((x0.cores.get n).tick x0.draw).done.2 ox := ok7.move fun _ _ _ _ e => s9 _ _ e
    refine ALoad.agg rfl k9 rfl rfl ?_; conv=>whnf
    refine ACalls.mono (out_yes ke n1 n2 oe okk) ?_
    rintro _ h16 ⟨rfl, k16, L16⟩
    conv=>whnf
    exact ⟨rfl, k16, (L3.trans (keeps_low n1 kk7)).trans (s9.low.trans L16)⟩
   ·conv=>whnf
    refine And.intro ?_ trivial
    refine AAlloc.mkN (0, 1) (outCells out0 ox0) rfl fun b8 h8 n8 s8 k8 => ?_; conv=>whnf
    refine ⟨s8, ?_⟩; conv=>whnf
    have id8 : PIdle h8 b (N + 2 * n.toNat) (x0.cores.get n) := id.move fun _ _ _ _ e => s8 _ _ e
    refine ACalls.mono (tick_net (N + 1) (by omega) id8 (i.cok n1 n2) hd0.1) ?_
    rintro _ h7 ⟨u, rfl, ox, rfl, ok7, id7, kk7⟩
    conv=>whnf
    refine AStore.aggN rfl rfl rfl ((kk7 _ _ _ (not_loc hN) k8)) rfl (outCells ((x0.cores.get n).tick x0.draw).done.2 ox) rfl fun h9 t9 k9 a9 e9 => ?_; conv=>whnf
    refine ⟨Sub.nil _, ?_⟩; conv=>whnf
    have ke := ((k.sub s8).coreSet n1 n2 hb kk7 id7).local t9
    have oe : OutOk h9 (N + 1) ((x0.cores.get n).tick x0.draw).done.2 ox := ok7.local (by omega) t9
    refine ALoad.agg rfl k9 rfl rfl ?_; conv=>whnf
    refine ACalls.mono (out_yes ke n1 n2 oe okk) ?_
    rintro _ h16 ⟨rfl, k16, L16⟩
    conv=>whnf
    refine ⟨rfl, k16, L3.trans (Low.trans ?_ L16)⟩
    exact fun b t y ht e => e9 _ _ (fun z => by rw [z, n8] at e; cases e) (kk7 _ _ _ (by simp; omega) (s8 _ _ e))
  refine ACmp.no (c1) ?_; conv=>whnf
  rw [if_neg c1]
  by_cases c2 : op = 2
  ·refine ACmp.yes (c2) ?_; conv=>whnf
   rw [if_pos c2]
   obtain ⟨dl, hdl⟩ : ∃ dl, dl = [s.b % 256, x0.draw % 256] := ⟨_, rfl⟩
   rw [← hdl]
   have hdb : ∀ z ∈ dl, 0 ≤ z ∧ z < 256 := fun z hz => by
    rw [hdl] at hz
    simp only [List.mem_cons, List.not_mem_nil, or_false] at hz
    rcases hz with rfl | rfl
    ·exact ⟨Int.emod_nonneg _ (by omega), Int.emod_lt_of_pos _ (by omega)⟩
    ·exact ⟨Int.emod_nonneg _ (by omega), Int.emod_lt_of_pos _ (by omega)⟩
   have okk : ∀ ez, _ := fun ez => i.keepPropose n1 n2 (kind := 1) (data := dl) ez hdb (fun h => by omega) (by omega)
   have e0 : (x0.cores.get n).proposeE 1 dl ≠ 0 → x0.propose n 1 dl = x0 := fun er => by unfold NetM.propose; rw [if_neg er]
   have e1 : (x0.cores.get n).proposeE 1 dl = 0 → x0.propose n 1 dl = x0.out n ((x0.cores.get n).propose 1 dl) := fun ez => by unfold NetM.propose; rw [if_pos ez]
   refine ADrawn.mkT (h3) [15] (.take 0 (.take 1 (.take 2 (.take 3 (.take 4 (.take 5 (.take 6 (.take 7 (.take 8 (.take 9 (.take 10 (.take 11 (.take 12 (.take 13 (.alt 14 (.alt 15 (.take 16 (.take 17 (.take 18 (.take 19 (.take 20 (.take 21 (.take 22 (.take 23 (.done))))))))) (.alt 20 (.take 15 (.take 16 (.take 17 (.take 18 (.take 19 (.take 21 (.take 22 (.take 23 (.done))))))))) (.stop))) (.alt 20 (.take 14 (.take 15 (.take 16 (.take 17 (.take 18 (.take 19 (.take 21 (.take 22 (.take 23 (.done)))))))))) (.stop))))))))))))))))) (Sub.refl _) (by decide +kernel) ?_; conv=>whnf
   refine AIdxA.nat (n := 6) (z := 1) (j := m) (by omega) (by omega) rfl rfl ?_; conv=>whnf
   refine ALoad.one (v := Ptr b) rfl k.str (by have := core_cell x0 v n1 n5; rw [hb] at this; rw [show 0 + 2 + m * 1 = 2 + (n).toNat by omega]; exact this) ?_; conv=>whnf
   refine ALoad.one rfl r3 rfl ?_; conv=>whnf
   refine AArith.raw ?_
   rw [u8_mod]
   conv=>whnf
   refine ALoad.one rfl k.str rfl ?_; conv=>whnf
   refine AArith.raw ?_
   rw [u8_mod]
   conv=>whnf
   refine And.intro ?_ ?_
   ·refine ABuildSl.mkN (0, 1) [.int .u8 (s.b % 256), .int .u8 (x0.draw % 256)] rfl rfl rfl rfl rfl rfl rfl fun b6 h5 n5' s5 k6 => ?_; conv=>whnf
    refine ⟨s5, ?_⟩; conv=>whnf
    refine And.intro ?_ ?_
    ·have idC : PIdle h5 b (N + 2 * n.toNat) (x0.cores.get n) := id.move fun _ _ _ _ e => s5 _ _ e
     refine ACalls.mono (propose_net (N + 1) (by omega) idC (i.cok n1 n2) 1 (data := dl) (row_sl (by rw [hdl]; rfl) (by rw [hdl]; exact k6)) hdb) ?_
     rintro _ h7 (⟨er, rfl, s7⟩ | ⟨ez, u, rfl, ox, rfl, ok7, id7, kk7⟩)
     ·conv=>whnf
      refine AAlloc.mkN (0, 1) (outCells out0 ox0) rfl fun b8 h8 n8 s8 k8 => ?_; conv=>whnf
      refine ⟨Sub.nil _, ?_⟩; conv=>whnf
      refine AStore.aggN rfl rfl rfl (k8) rfl (outCells out0 ox0) rfl fun h9 t9 k9 a9 e9 => ?_; conv=>whnf
      refine ⟨Sub.nil _, ?_⟩; conv=>whnf
      refine ALoad.agg rfl k9 rfl rfl ?_; conv=>whnf
      refine ACalls.mono (out_no h9 p n er) ?_
      rintro _ h10 ⟨rfl, s10⟩
      conv=>whnf
      rw [e0 er]
      have s9 : Sub h7 h9 := a9 h7 s8 n8
      exact ⟨rfl, ⟨v, (((k.sub s5).sub s7).sub s9).sub s10⟩, L3.trans ((s5.trans s7).trans (s9.trans s10)).low⟩
     ·conv=>whnf
      refine AAlloc.mkN (0, 1) (outCells out0 ox0) rfl fun b8 h8 n8 s8 k8 => ?_; conv=>whnf
      refine ⟨Sub.nil _, ?_⟩; conv=>whnf
      refine AStore.aggN rfl rfl rfl (k8) rfl (outCells ((x0.cores.get n).propose 1 dl).done.2 ox) rfl fun h9 t9 k9 a9 e9 => ?_; conv=>whnf
      refine ⟨Sub.nil _, ?_⟩; conv=>whnf
      have s9 : Sub h7 h9 := a9 h7 s8 n8
      have ke := ((k.sub s5).coreSet n1 n2 hb kk7 id7).sub s9
      have oe : OutOk h9 (N + 1) ((x0.cores.get n).propose 1 dl).done.2 ox := ok7.move fun _ _ _ _ e => s9 _ _ e
      rw [e1 ez]
      have okz := okk ez
      refine ALoad.agg rfl k9 rfl rfl ?_; conv=>whnf
      refine ACalls.mono (out_yes ke n1 n2 oe okz) ?_
      rintro _ h16 ⟨rfl, k16, L16⟩
      conv=>whnf
      exact ⟨rfl, k16, L3.trans ((s5.low.trans (keeps_low n1 kk7)).trans (s9.low.trans L16))⟩
    ·conv=>whnf
     refine And.intro ?_ trivial
     refine AAlloc.mkN (0, 1) (outCells out0 ox0) rfl fun b8 h8 n8 s8 k8 => ?_; conv=>whnf
     have sC := s5.trans s8
     refine ⟨sC, ?_⟩; conv=>whnf
     have k6C := s8 _ _ k6
     have nb8 : h3 b8 = none := by cases e : h3 b8 with | none => rfl | some y => rw [s5 _ _ e] at n8; cases n8
     have idC : PIdle h8 b (N + 2 * n.toNat) (x0.cores.get n) := id.move fun _ _ _ _ e => sC _ _ e
     refine ACalls.mono (propose_net (N + 1) (by omega) idC (i.cok n1 n2) 1 (data := dl) (row_sl (by rw [hdl]; rfl) (by rw [hdl]; exact k6C)) hdb) ?_
     rintro _ h7 (⟨er, rfl, s7⟩ | ⟨ez, u, rfl, ox, rfl, ok7, id7, kk7⟩)
     ·conv=>whnf
      refine AStore.aggN rfl rfl rfl ((s7 _ _ k8)) rfl (outCells out0 ox0) rfl fun h9 t9 k9 a9 e9 => ?_; conv=>whnf
      refine ⟨Sub.nil _, ?_⟩; conv=>whnf
      refine ALoad.agg rfl k9 rfl rfl ?_; conv=>whnf
      refine ACalls.mono (out_no h9 p n er) ?_
      rintro _ h10 ⟨rfl, s10⟩
      conv=>whnf
      rw [e0 er]
      exact ⟨rfl, ⟨v, (((k.sub sC).sub s7).local t9).sub s10⟩, L3.trans ((a9 h3 (sC.trans s7) nb8).trans s10).low⟩
     ·conv=>whnf
      refine AStore.aggN rfl rfl rfl ((kk7 _ _ _ (not_loc hN) k8)) rfl (outCells ((x0.cores.get n).propose 1 dl).done.2 ox) rfl fun h9 t9 k9 a9 e9 => ?_; conv=>whnf
      refine ⟨Sub.nil _, ?_⟩; conv=>whnf
      have ke := ((k.sub sC).coreSet n1 n2 hb kk7 id7).local t9
      have oe : OutOk h9 (N + 1) ((x0.cores.get n).propose 1 dl).done.2 ox := ok7.local (by omega) t9
      rw [e1 ez]
      have okz := okk ez
      refine ALoad.agg rfl k9 rfl rfl ?_; conv=>whnf
      refine ACalls.mono (out_yes ke n1 n2 oe okz) ?_
      rintro _ h16 ⟨rfl, k16, L16⟩
      conv=>whnf
      refine ⟨rfl, k16, L3.trans (Low.trans ?_ L16)⟩
      exact fun b t y ht e => e9 _ _ (fun z => by rw [z, nb8] at e; cases e) (kk7 _ _ _ (by simp; omega) (sC _ _ e))
   ·conv=>whnf
    refine And.intro ?_ trivial
    refine AAlloc.mkN (0, 1) (outCells out0 ox0) rfl fun b8 h8 n8 s8 k8 => ?_; conv=>whnf
    refine ⟨s8, ?_⟩; conv=>whnf
    refine ABuildSl.mkN (0, 1) [.int .u8 (s.b % 256), .int .u8 (x0.draw % 256)] rfl rfl rfl rfl rfl rfl rfl fun b6 h5 n5' s5 k6 => ?_; conv=>whnf
    have sC := s8.trans s5
    refine ⟨sC, ?_⟩; conv=>whnf
    have k4C := s5 _ _ k8
    have idC : PIdle h5 b (N + 2 * n.toNat) (x0.cores.get n) := id.move fun _ _ _ _ e => sC _ _ e
    refine ACalls.mono (propose_net (N + 1) (by omega) idC (i.cok n1 n2) 1 (data := dl) (row_sl (by rw [hdl]; rfl) (by rw [hdl]; exact k6)) hdb) ?_
    rintro _ h7 (⟨er, rfl, s7⟩ | ⟨ez, u, rfl, ox, rfl, ok7, id7, kk7⟩)
    ·conv=>whnf
     refine AStore.aggN rfl rfl rfl ((s7 _ _ k4C)) rfl (outCells out0 ox0) rfl fun h9 t9 k9 a9 e9 => ?_; conv=>whnf
     refine ⟨Sub.nil _, ?_⟩; conv=>whnf
     refine ALoad.agg rfl k9 rfl rfl ?_; conv=>whnf
     refine ACalls.mono (out_no h9 p n er) ?_
     rintro _ h10 ⟨rfl, s10⟩
     conv=>whnf
     rw [e0 er]
     exact ⟨rfl, ⟨v, (((k.sub sC).sub s7).local t9).sub s10⟩, L3.trans ((a9 h3 (sC.trans s7) n8).trans s10).low⟩
    ·conv=>whnf
     refine AStore.aggN rfl rfl rfl ((kk7 _ _ _ (not_loc hN) k4C)) rfl (outCells ((x0.cores.get n).propose 1 dl).done.2 ox) rfl fun h9 t9 k9 a9 e9 => ?_; conv=>whnf
     refine ⟨Sub.nil _, ?_⟩; conv=>whnf
     have ke := ((k.sub sC).coreSet n1 n2 hb kk7 id7).local t9
     have oe : OutOk h9 (N + 1) ((x0.cores.get n).propose 1 dl).done.2 ox := ok7.local (by omega) t9
     rw [e1 ez]
     have okz := okk ez
     refine ALoad.agg rfl k9 rfl rfl ?_; conv=>whnf
     refine ACalls.mono (out_yes ke n1 n2 oe okz) ?_
     rintro _ h16 ⟨rfl, k16, L16⟩
     conv=>whnf
     refine ⟨rfl, k16, L3.trans (Low.trans ?_ L16)⟩
     exact fun b t y ht e => e9 _ _ (fun z => by rw [z, n8] at e; cases e) (kk7 _ _ _ (by simp; omega) (sC _ _ e))
  refine ACmp.no (c2) ?_; conv=>whnf
  rw [if_neg c2]
  by_cases c3 : op = 3
  ·refine ACmp.yes (c3) ?_; conv=>whnf
   rw [if_pos c3]
   rw [if_neg (fun c => by rw [c] at cl; simp at cl), ← hj]
   refine ALoad.one rfl k.str rfl ?_; conv=>whnf
   refine ACmp.yes ((by omega)) ?_; conv=>whnf
   refine ALoad.one rfl k.str rfl ?_; conv=>whnf
   refine ACalls.mono (drop_any (tg := (N, 3)) k.ml.sl (by omega) j hjl) ?_
   rintro _ h17 ⟨ml17, rfl, ow17, t17⟩
   conv=>whnf
   refine AStore.oneN rfl rfl rfl ((t17.get (u := (N, 0)) (by simp) k.str)) rfl (netCells x0 { v with ml := ml17 }) rfl fun h18 t18 q18 a18 e18 => ?_; conv=>whnf
   have k18 := k.mlSet (h' := h18) (s := ml17) (ps := dropN v.ps j) (l := dropN x0.mails j) (fun b t y n0 n3 e => t18 _ _ _ n0 (t17 _ _ _ n3 e)) q18 (ow17.keepT t18 (by simp)) (by rw [dropN_map, k.pa]) (fun y hy => k.ps y (mem_dropN hy)) (Nat.le_trans (dropN_len _ _) hmb)
   have L18 : Low N h h18 := L3.trans fun b t y ht e => t18 _ _ _ (fun c => by rw [c] at ht; simp at ht) (t17 _ _ _ (fun c => by rw [c] at ht; simp at ht) e)
   exact ⟨rfl, ⟨_, k18⟩, L18⟩
  refine ACmp.no (c3) ?_; conv=>whnf
  rw [if_neg c3]
  by_cases c4 : op = 4
  ·refine ACmp.yes (c4) ?_; conv=>whnf
   rw [if_pos c4]
   rw [← hj, hmj, show x0.opTwice (some y.abs) = if x0.mails.length < 300 then { x0 with mails := x0.mails ++ [y.abs] } else x0 from rfl]
   refine ALoad.one rfl k.str rfl ?_; conv=>whnf
   refine ACmp.yes ((by omega)) ?_; conv=>whnf
   refine ALoad.one rfl k.str rfl ?_; conv=>whnf
   by_cases c9 : x0.mails.length < 300
   ·refine ACmp.yes ((by omega)) ?_; conv=>whnf
    rw [if_pos c9]
    obtain ⟨bb, off, l, E, fz, ea, hbb, gp, _⟩ := Sl.elem k.ml.sl (ph_len v.ps) (by rw [List.length_map]; omega) (by omega) hyc
    refine ADrawn.mk (h3) [13] (Sub.refl _) (by decide +kernel) ?_; conv=>whnf
    refine ALoad.one rfl k.str rfl ?_; conv=>whnf
    refine ALoad.one rfl k.str rfl ?_; conv=>whnf
    have own := k.ml
    generalize hA : v.ml.a = A at own ⊢
    rw [hA] at ea
    subst ea
    refine AIdx.nat rfl hjl rfl rfl ?_; conv=>whnf
    refine ALoad.agg rfl hbb gp rfl ?_; conv=>whnf
    refine ABuildSl.mkN (0, 1) y.cells rfl rfl rfl rfl rfl rfl rfl fun b6 h5 n5' s5 k6 => ?_; conv=>whnf
    refine ⟨s5, ?_⟩; conv=>whnf
    refine AAppend.own (t := (N, 3)) (E := 49) (z := 14) (by_ := 144) (zero := post0z) (tx := (0, 1)) (xs := y.cells) rfl ⟨_, rfl⟩ rfl rfl rfl rfl (by omega) (own.move fun _ _ e => s5 _ _ e)
     ⟨rfl, Nat.le_refl _, .inr ⟨b6, 0, _, _, _, rfl, k6, rfl⟩⟩ rfl (by omega) (by omega) fun a7 c7' h7 ow7 t7 _ => ?_
    conv=>whnf
    refine AStore.oneN rfl rfl rfl ((t7.get (u := (N, 0)) (by simp) (s5 _ _ k.str))) rfl (netCells x0 { v with ml := ⟨a7, v.ml.n + 1, c7'⟩ }) rfl fun h18 t18 q18 a18 e18 => ?_; conv=>whnf
    refine ⟨Sub.nil _, ?_⟩; conv=>whnf
    have k18 := k.mlSet (h' := h18) (s := ⟨a7, v.ml.n + 1, c7'⟩) (ps := v.ps ++ [y]) (l := x0.mails ++ [y.abs]) (fun b t y n0 n3 e => t18 _ _ _ n0 (t7 _ _ _ n3 (s5 _ _ e))) q18 (by rw [List.map_append, List.flatten_append]; simpa using ow7.keepT t18 (by simp)) (by rw [List.map_append, k.pa]; rfl)
     (fun z hz => by
      rcases List.mem_append.1 hz with hz | hz
      ·exact k.ps z hz
      ·rw [List.mem_singleton.1 hz]; exact k.ps y (List.mem_of_getElem? hy)) (by rw [List.length_append]; simp; omega)
    exact ⟨rfl, ⟨_, k18⟩, L3.trans fun b t y ht e => t18 _ _ _ (fun c => by rw [c] at ht; simp at ht) (t7 _ _ _ (fun c => by rw [c] at ht; simp at ht) (s5 _ _ e))⟩
   ·refine ACmp.no ((by omega)) ?_; conv=>whnf
    rw [if_neg c9]
    exact ⟨rfl, ⟨v, k⟩, L3⟩
  refine ACmp.no (c4) ?_; conv=>whnf
  rw [if_neg c4]
  by_cases c5 : op = 5
  ·refine ACmp.yes (c5) ?_; conv=>whnf
   rw [if_pos c5]
   refine ACalls.mono (again_any k i n1 n2) ?_
   rintro _ h16 ⟨rfl, k16, L16⟩
   conv=>whnf
   exact ⟨rfl, k16, L3.trans L16⟩
  refine ACmp.no (c5) ?_; conv=>whnf
  rw [if_neg c5]
  by_cases c6 : op = 6
  ·refine ACmp.yes (c6) ?_; conv=>whnf
   rw [if_pos c6]
   refine ALoad.one rfl r3 rfl ?_; conv=>whnf
   refine ACalls.mono (change_any k i n1 n2 s.b (by omega)) ?_
   rintro _ h16 ⟨rfl, k16, L16⟩
   conv=>whnf
   exact ⟨rfl, k16, L3.trans L16⟩
  refine ACmp.no (c6) ?_; conv=>whnf
  rw [if_neg c6]
  by_cases c7 : op = 7
  ·refine ACmp.yes (c7) ?_; conv=>whnf
   rw [if_pos c7]
   refine AIdxA.nat (n := 6) (z := 1) (j := m) (by omega) (by omega) rfl rfl ?_; conv=>whnf
   refine ALoad.one (v := Ptr b) rfl k.str (by have := core_cell x0 v n1 n5; rw [hb] at this; rw [show 0 + 2 + m * 1 = 2 + (n).toNat by omega]; exact this) ?_; conv=>whnf
   refine ACalls.mono (read_net (N + 1) (by omega) id (i.cok n1 n2)) ?_
   rintro _ h7 (⟨er, rfl, s7⟩ | ⟨ez, u, rfl, ox, rfl, ok7, id7, kk7⟩)
   ·conv=>whnf
    refine AAlloc.mkN (0, 1) (outCells out0 ox0) rfl fun b8 h8 n8 s8 k8 => ?_; conv=>whnf
    refine AStore.aggN rfl rfl rfl (k8) rfl (outCells out0 ox0) rfl fun h9 t9 k9 a9 e9 => ?_; conv=>whnf
    refine ALoad.agg rfl k9 rfl rfl ?_; conv=>whnf
    refine ACalls.mono (out_no h9 p n er) ?_
    rintro _ h10 ⟨rfl, s10⟩
    conv=>whnf
    have s9 : Sub h7 h9 := a9 h7 s8 n8
    have e : x0.read n = x0 := by unfold NetM.read; rw [if_neg er]
    rw [e]
    exact ⟨rfl, ⟨v, (((k.sub s7).sub s9).sub s10)⟩, L3.trans (s7.trans (s9.trans s10)).low⟩
   ·conv=>whnf
    refine AAlloc.mkN (0, 1) (outCells out0 ox0) rfl fun b8 h8 n8 s8 k8 => ?_; conv=>whnf
    refine AStore.aggN rfl rfl rfl (k8) rfl (outCells (x0.cores.get n).read.done.2 ox) rfl fun h9 t9 k9 a9 e9 => ?_; conv=>whnf
    have s9 : Sub h7 h9 := a9 h7 s8 n8
    have okk := i.keepRead n1 n2 ez (by omega)
    have ke := (k.coreSet n1 n2 hb kk7 id7).sub s9
    have oe : OutOk h9 (N + 1) (x0.cores.get n).read.done.2 ox := ok7.move fun _ _ _ _ e => s9 _ _ e
    have e : x0.read n = x0.out n (x0.cores.get n).read := by unfold NetM.read; rw [if_pos ez]
    rw [e]
    refine ALoad.agg rfl k9 rfl rfl ?_; conv=>whnf
    refine ACalls.mono (out_yes ke n1 n2 oe okk) ?_
    rintro _ h16 ⟨rfl, k16, L16⟩
    conv=>whnf
    exact ⟨rfl, k16, (L3.trans (keeps_low n1 kk7)).trans (s9.low.trans L16)⟩
  refine ACmp.no (c7) ?_; conv=>whnf
  rw [if_neg c7]
  by_cases c8 : op = 8
  ·refine ACmp.yes (c8) ?_; conv=>whnf
   rw [if_pos c8]
   refine ACalls.mono (compact_any k i n1 n2) ?_
   rintro _ h16 ⟨rfl, k16, L16⟩
   conv=>whnf
   exact ⟨rfl, k16, L3.trans L16⟩
  refine ACmp.no (c8) ?_; conv=>whnf
  rw [if_neg c8]
  have tcut : ∀ K : Nat, (List.range (K + 1)).foldl (fun (y : NetM) (k : Nat) => y.tick ((k : Int) + 1) (x0.draw + (k : Int) + 1)) x0 = ((List.range K).foldl (fun (y : NetM) (k : Nat) => y.tick ((k : Int) + 1) (x0.draw + (k : Int) + 1)) x0).tick ((K : Int) + 1) (x0.draw + (K : Int) + 1) := fun K => by rw [List.range_succ, List.foldl_append]; rfl
  refine ALoop.mk (fun e h' => ∃ (e0 : Env) (K : Nat) (xk : NetM) (vk : NX) (gk : Gh), e = updL 284 e0 [(0, Ptr p), (17, I ((K : Int) + 1))] ∧ (K : Int) ≤ x0.size ∧ xk = (List.range K).foldl (fun (y : NetM) (k : Nat) => y.tick ((k : Int) + 1) (x0.draw + (k : Int) + 1)) x0 ∧ xk.size = x0.size ∧ xk.draw = x0.draw ∧ NetX h' N p xk vk ∧ NetI gk xk ∧ gk.lim ≤ g.lim + 10 * K ∧ Low N h h')
   (fun e => 7 - natOf (e 17)) ⟨_, 0, x0, v, g, updL_self ⟨rfl, rfl, trivial⟩, by omega, rfl, rfl, rfl, k, i, by omega, L3⟩ ?_
  rintro e h' ⟨e0, K, xk, vk, gk, rfl, hK, hxk, hxs, hxd, kk, ik, hgk, LK⟩
  conv=>whnf
  refine ALoad.one rfl kk.str rfl ?_; conv=>whnf
  by_cases cK : (K : Int) + 1 ≤ xk.size
  ·refine ACmp.yes (cK) ?_; conv=>whnf
   have m1 : 1 ≤ (K : Int) + 1 := by omega
   have m5 : (K : Int) + 1 ≤ 5 := by omega
   obtain ⟨bk, hbk, idk⟩ := kk.cores ((K : Int) + 1) m1 cK
   have hd1 : 0 ≤ x0.draw + (K : Int) + 1 := by omega
   have okk := ik.keepTick m1 cK hd1 (by omega)
   have gos := ik.tick m1 cK hd1 (by omega)
   obtain ⟨⟨g2, i2, l2⟩, z2, d2⟩ := gos
   rw [← hxd] at okk hd1 i2 z2 d2
   refine ADrawn.mkT (h') [12] (.take 0 (.take 1 (.take 2 (.take 3 (.take 4 (.take 5 (.take 6 (.take 7 (.take 8 (.take 9 (.take 10 (.take 11 (.alt 12 (.take 13 (.take 14 (.take 15 (.take 16 (.take 17 (.take 18 (.done))))))) (.alt 16 (.take 12 (.take 13 (.take 14 (.take 15 (.take 17 (.take 18 (.done))))))) (.stop))))))))))))))) (Sub.refl _) (by decide +kernel) ?_; conv=>whnf
   refine AIdxA.nat (n := 6) (z := 1) (j := K + 1) (by omega) (by omega) rfl rfl ?_; conv=>whnf
   refine ALoad.one (v := Ptr bk) rfl kk.str (by have := core_cell xk vk m1 m5; rw [hbk] at this; rw [show 0 + 2 + (K + 1) * 1 = 2 + ((K : Int) + 1).toNat by omega]; exact this) ?_; conv=>whnf
   refine ALoad.one rfl kk.str rfl ?_; conv=>whnf
   refine AArith.ok (by omega) (by omega) ((by omega : xk.draw + ((K : Int) + 1) = xk.draw + (K : Int) + 1)) ?_; conv=>whnf
   refine And.intro ?_ ?_
   ·refine ACalls.mono (tick_net (N + 1) (by omega) idk (ik.cok m1 cK) hd1) ?_
    rintro _ h7 ⟨u, rfl, ox, rfl, ok7, id7, kk7⟩
    conv=>whnf
    refine AAlloc.mkN (0, 1) (outCells out0 ox0) rfl fun b8 h8 n8 s8 k8 => ?_; conv=>whnf
    refine ⟨Sub.nil _, ?_⟩; conv=>whnf
    refine AStore.aggN rfl rfl rfl (k8) rfl (outCells ((xk.cores.get ((K : Int) + 1)).tick (xk.draw + (K : Int) + 1)).done.2 ox) rfl fun h9 t9 k9 a9 e9 => ?_; conv=>whnf
    refine ⟨Sub.nil _, ?_⟩; conv=>whnf
    have s9 : Sub h7 h9 := a9 h7 s8 n8
    have ke := (kk.coreSet m1 cK hbk kk7 id7).sub s9
    have oe : OutOk h9 (N + 1) ((xk.cores.get ((K : Int) + 1)).tick (xk.draw + (K : Int) + 1)).done.2 ox := ok7.move fun _ _ _ _ e => s9 _ _ e
    refine ALoad.agg rfl k9 rfl rfl ?_; conv=>whnf
    refine ACalls.mono (out_yes ke m1 cK oe okk) ?_
    rintro _ h16 ⟨rfl, k16, L16⟩
    conv=>whnf
    obtain ⟨v16, k16⟩ := k16
    refine AArith.ok (by omega) (by omega) ((by omega : (K : Int) + 1 + 1 = ((K + 1 : Nat) : Int) + 1)) ?_; conv=>whnf
    refine ⟨⟨_, K + 1, _, v16, g2, updL_self ⟨rfl, rfl, trivial⟩, by omega, by rw [tcut, ← hxk, ← hxd], z2.trans hxs, d2.trans hxd, k16, i2, by omega, (LK.trans (keeps_low m1 kk7)).trans (s9.low.trans L16)⟩, ?_⟩
    show 7 - (((K + 1 : Nat) : Int) + 1).toNat < 7 - ((K : Int) + 1).toNat
    omega
   ·conv=>whnf
    refine And.intro ?_ trivial
    refine AAlloc.mkN (0, 1) (outCells out0 ox0) rfl fun b8 h8 n8 s8 k8 => ?_; conv=>whnf
    refine ⟨s8, ?_⟩; conv=>whnf
    have id8 : PIdle h8 bk (N + 2 * ((K : Int) + 1).toNat) (xk.cores.get ((K : Int) + 1)) := idk.move fun _ _ _ _ e => s8 _ _ e
    refine ACalls.mono (tick_net (N + 1) (by omega) id8 (ik.cok m1 cK) hd1) ?_
    rintro _ h7 ⟨u, rfl, ox, rfl, ok7, id7, kk7⟩
    conv=>whnf
    refine AStore.aggN rfl rfl rfl ((kk7 _ _ _ (not_loc hN) k8)) rfl (outCells ((xk.cores.get ((K : Int) + 1)).tick (xk.draw + (K : Int) + 1)).done.2 ox) rfl fun h9 t9 k9 a9 e9 => ?_; conv=>whnf
    refine ⟨Sub.nil _, ?_⟩; conv=>whnf
    have ke := ((kk.sub s8).coreSet m1 cK hbk kk7 id7).local t9
    have oe : OutOk h9 (N + 1) ((xk.cores.get ((K : Int) + 1)).tick (xk.draw + (K : Int) + 1)).done.2 ox := ok7.local (by omega) t9
    refine ALoad.agg rfl k9 rfl rfl ?_; conv=>whnf
    refine ACalls.mono (out_yes ke m1 cK oe okk) ?_
    rintro _ h16 ⟨rfl, k16, L16⟩
    conv=>whnf
    obtain ⟨v16, k16⟩ := k16
    refine AArith.ok (by omega) (by omega) ((by omega : (K : Int) + 1 + 1 = ((K + 1 : Nat) : Int) + 1)) ?_; conv=>whnf
    have LL : Low N h' h9 := fun b t y ht e => e9 _ _ (fun z => by rw [z, n8] at e; cases e) (kk7 _ _ _ (by simp; omega) (s8 _ _ e))
    refine ⟨⟨_, K + 1, _, v16, g2, updL_self ⟨rfl, rfl, trivial⟩, by omega, by rw [tcut, ← hxk, ← hxd], z2.trans hxs, d2.trans hxd, k16, i2, by omega, LK.trans (LL.trans L16)⟩, ?_⟩
    show 7 - (((K + 1 : Nat) : Int) + 1).toNat < 7 - ((K : Int) + 1).toNat
    omega
  ·refine ACmp.no (cK) ?_; conv=>whnf
   have e : x0.tickAll = xk := by
    rw [hxk]; unfold NetM.tickAll
    rw [show x0.size.toNat = K by omega]
   rw [e]
   exact ⟨rfl, ⟨vk, kk⟩, LK⟩
 ·refine ACmp.no ((by omega)) ?_; conv=>whnf
  have hop1 := bring_in s.op 10 (by omega)
  obtain ⟨op, hop⟩ : ∃ op, op = bring s.op 10 := ⟨_, rfl⟩
  refine ALoad.one rfl r3 rfl ?_; conv=>whnf
  refine ACalls.mono (bring_any s.op 10 (by omega) h3) ?_; rintro _ _ ⟨rfl, rfl⟩; conv=>whnf
  rw [← hop]
  have hst : x0.stepOf s.m = (if op = 0 then x0.opTake (bring s.a x0.mails.length).toNat x0.mails[(bring s.a x0.mails.length).toNat]?
   else if op = 1 then x0.tick n x0.draw
   else if op = 2 then x0.propose n 1 [s.b % 256, x0.draw % 256]
   else if op = 3 then (if x0.mails = [] then x0 else { x0 with mails := dropN x0.mails (bring s.a x0.mails.length).toNat })
   else if op = 4 then x0.opTwice x0.mails[(bring s.a x0.mails.length).toNat]?
   else if op = 5 then x0.again n
   else if op = 6 then x0.change n s.b
   else if op = 7 then x0.read n
   else if op = 8 then x0.compact n
   else x0.tickAll) := by rw [hop, hn]; rfl
  rw [hst]
  clear hst
  conv=>whnf
  by_cases c0 : op = 0
  ·refine ACmp.yes (c0) ?_; conv=>whnf
   rw [if_pos c0]
   have hm0 : x0.mails = [] := List.eq_nil_of_length_eq_zero (by omega)
   have hmn : x0.mails[(bring s.a x0.mails.length).toNat]? = none := by rw [hm0]; rfl
   rw [hmn]
   refine ALoad.one rfl k.str rfl ?_; conv=>whnf
   refine ACmp.no ((by omega)) ?_; conv=>whnf
   exact ⟨rfl, ⟨v, k⟩, L3⟩
  refine ACmp.no (c0) ?_; conv=>whnf
  rw [if_neg c0]
  by_cases c1 : op = 1
  ·refine ACmp.yes (c1) ?_; conv=>whnf
   rw [if_pos c1]
   refine ADrawn.mkT (h3) [10] (.take 0 (.take 1 (.take 2 (.take 3 (.take 4 (.take 5 (.take 6 (.take 7 (.take 8 (.take 9 (.alt 10 (.take 11 (.take 12 (.take 13 (.take 14 (.take 15 (.take 16 (.done))))))) (.alt 14 (.take 10 (.take 11 (.take 12 (.take 13 (.take 15 (.take 16 (.done))))))) (.stop))))))))))))) (Sub.refl _) (by decide +kernel) ?_; conv=>whnf
   refine AIdxA.nat (n := 6) (z := 1) (j := m) (by omega) (by omega) rfl rfl ?_; conv=>whnf
   refine ALoad.one (v := Ptr b) rfl k.str (by have := core_cell x0 v n1 n5; rw [hb] at this; rw [show 0 + 2 + m * 1 = 2 + (n).toNat by omega]; exact this) ?_; conv=>whnf
   refine ALoad.one rfl k.str rfl ?_; conv=>whnf
   have okk := i.keepTick n1 n2 hd0.1 (by omega)
   refine And.intro ?_ ?_
   ·refine ACalls.mono (tick_net (N + 1) (by omega) id (i.cok n1 n2) hd0.1) ?_
    rintro _ h7 ⟨u, rfl, ox, rfl, ok7, id7, kk7⟩
    conv=>whnf
    refine AAlloc.mkN (0, 1) (outCells out0 ox0) rfl fun b8 h8 n8 s8 k8 => ?_; conv=>whnf
    refine ⟨Sub.nil _, ?_⟩; conv=>whnf
    refine AStore.aggN rfl rfl rfl (k8) rfl (outCells ((x0.cores.get n).tick x0.draw).done.2 ox) rfl fun h9 t9 k9 a9 e9 => ?_; conv=>whnf
    refine ⟨Sub.nil _, ?_⟩; conv=>whnf
    have s9 : Sub h7 h9 := a9 h7 s8 n8
    have ke := (k.coreSet n1 n2 hb kk7 id7).sub s9
    have oe : OutOk h9 (N + 1) ((x0.cores.get n).tick x0.draw).done.2 ox := ok7.move fun _ _ _ _ e => s9 _ _ e
    refine ALoad.agg rfl k9 rfl rfl ?_; conv=>whnf
    refine ACalls.mono (out_yes ke n1 n2 oe okk) ?_
    rintro _ h16 ⟨rfl, k16, L16⟩
    conv=>whnf
    exact ⟨rfl, k16, (L3.trans (keeps_low n1 kk7)).trans (s9.low.trans L16)⟩
   ·conv=>whnf
    refine And.intro ?_ trivial
    refine AAlloc.mkN (0, 1) (outCells out0 ox0) rfl fun b8 h8 n8 s8 k8 => ?_; conv=>whnf
    refine ⟨s8, ?_⟩; conv=>whnf
    have id8 : PIdle h8 b (N + 2 * n.toNat) (x0.cores.get n) := id.move fun _ _ _ _ e => s8 _ _ e
    refine ACalls.mono (tick_net (N + 1) (by omega) id8 (i.cok n1 n2) hd0.1) ?_
    rintro _ h7 ⟨u, rfl, ox, rfl, ok7, id7, kk7⟩
    conv=>whnf
    refine AStore.aggN rfl rfl rfl ((kk7 _ _ _ (not_loc hN) k8)) rfl (outCells ((x0.cores.get n).tick x0.draw).done.2 ox) rfl fun h9 t9 k9 a9 e9 => ?_; conv=>whnf
    refine ⟨Sub.nil _, ?_⟩; conv=>whnf
    have ke := ((k.sub s8).coreSet n1 n2 hb kk7 id7).local t9
    have oe : OutOk h9 (N + 1) ((x0.cores.get n).tick x0.draw).done.2 ox := ok7.local (by omega) t9
    refine ALoad.agg rfl k9 rfl rfl ?_; conv=>whnf
    refine ACalls.mono (out_yes ke n1 n2 oe okk) ?_
    rintro _ h16 ⟨rfl, k16, L16⟩
    conv=>whnf
    refine ⟨rfl, k16, L3.trans (Low.trans ?_ L16)⟩
    exact fun b t y ht e => e9 _ _ (fun z => by rw [z, n8] at e; cases e) (kk7 _ _ _ (by simp; omega) (s8 _ _ e))
  refine ACmp.no (c1) ?_; conv=>whnf
  rw [if_neg c1]
  by_cases c2 : op = 2
  ·refine ACmp.yes (c2) ?_; conv=>whnf
   rw [if_pos c2]
   obtain ⟨dl, hdl⟩ : ∃ dl, dl = [s.b % 256, x0.draw % 256] := ⟨_, rfl⟩
   rw [← hdl]
   have hdb : ∀ z ∈ dl, 0 ≤ z ∧ z < 256 := fun z hz => by
    rw [hdl] at hz
    simp only [List.mem_cons, List.not_mem_nil, or_false] at hz
    rcases hz with rfl | rfl
    ·exact ⟨Int.emod_nonneg _ (by omega), Int.emod_lt_of_pos _ (by omega)⟩
    ·exact ⟨Int.emod_nonneg _ (by omega), Int.emod_lt_of_pos _ (by omega)⟩
   have okk : ∀ ez, _ := fun ez => i.keepPropose n1 n2 (kind := 1) (data := dl) ez hdb (fun h => by omega) (by omega)
   have e0 : (x0.cores.get n).proposeE 1 dl ≠ 0 → x0.propose n 1 dl = x0 := fun er => by unfold NetM.propose; rw [if_neg er]
   have e1 : (x0.cores.get n).proposeE 1 dl = 0 → x0.propose n 1 dl = x0.out n ((x0.cores.get n).propose 1 dl) := fun ez => by unfold NetM.propose; rw [if_pos ez]
   refine ADrawn.mkT (h3) [15] (.take 0 (.take 1 (.take 2 (.take 3 (.take 4 (.take 5 (.take 6 (.take 7 (.take 8 (.take 9 (.take 10 (.take 11 (.take 12 (.take 13 (.alt 14 (.alt 15 (.take 16 (.take 17 (.take 18 (.take 19 (.take 20 (.take 21 (.take 22 (.take 23 (.done))))))))) (.alt 20 (.take 15 (.take 16 (.take 17 (.take 18 (.take 19 (.take 21 (.take 22 (.take 23 (.done))))))))) (.stop))) (.alt 20 (.take 14 (.take 15 (.take 16 (.take 17 (.take 18 (.take 19 (.take 21 (.take 22 (.take 23 (.done)))))))))) (.stop))))))))))))))))) (Sub.refl _) (by decide +kernel) ?_; conv=>whnf
   refine AIdxA.nat (n := 6) (z := 1) (j := m) (by omega) (by omega) rfl rfl ?_; conv=>whnf
   refine ALoad.one (v := Ptr b) rfl k.str (by have := core_cell x0 v n1 n5; rw [hb] at this; rw [show 0 + 2 + m * 1 = 2 + (n).toNat by omega]; exact this) ?_; conv=>whnf
   refine ALoad.one rfl r3 rfl ?_; conv=>whnf
   refine AArith.raw ?_
   rw [u8_mod]
   conv=>whnf
   refine ALoad.one rfl k.str rfl ?_; conv=>whnf
   refine AArith.raw ?_
   rw [u8_mod]
   conv=>whnf
   refine And.intro ?_ ?_
   ·refine ABuildSl.mkN (0, 1) [.int .u8 (s.b % 256), .int .u8 (x0.draw % 256)] rfl rfl rfl rfl rfl rfl rfl fun b6 h5 n5' s5 k6 => ?_; conv=>whnf
    refine ⟨s5, ?_⟩; conv=>whnf
    refine And.intro ?_ ?_
    ·have idC : PIdle h5 b (N + 2 * n.toNat) (x0.cores.get n) := id.move fun _ _ _ _ e => s5 _ _ e
     refine ACalls.mono (propose_net (N + 1) (by omega) idC (i.cok n1 n2) 1 (data := dl) (row_sl (by rw [hdl]; rfl) (by rw [hdl]; exact k6)) hdb) ?_
     rintro _ h7 (⟨er, rfl, s7⟩ | ⟨ez, u, rfl, ox, rfl, ok7, id7, kk7⟩)
     ·conv=>whnf
      refine AAlloc.mkN (0, 1) (outCells out0 ox0) rfl fun b8 h8 n8 s8 k8 => ?_; conv=>whnf
      refine ⟨Sub.nil _, ?_⟩; conv=>whnf
      refine AStore.aggN rfl rfl rfl (k8) rfl (outCells out0 ox0) rfl fun h9 t9 k9 a9 e9 => ?_; conv=>whnf
      refine ⟨Sub.nil _, ?_⟩; conv=>whnf
      refine ALoad.agg rfl k9 rfl rfl ?_; conv=>whnf
      refine ACalls.mono (out_no h9 p n er) ?_
      rintro _ h10 ⟨rfl, s10⟩
      conv=>whnf
      rw [e0 er]
      have s9 : Sub h7 h9 := a9 h7 s8 n8
      exact ⟨rfl, ⟨v, (((k.sub s5).sub s7).sub s9).sub s10⟩, L3.trans ((s5.trans s7).trans (s9.trans s10)).low⟩
     ·conv=>whnf
      refine AAlloc.mkN (0, 1) (outCells out0 ox0) rfl fun b8 h8 n8 s8 k8 => ?_; conv=>whnf
      refine ⟨Sub.nil _, ?_⟩; conv=>whnf
      refine AStore.aggN rfl rfl rfl (k8) rfl (outCells ((x0.cores.get n).propose 1 dl).done.2 ox) rfl fun h9 t9 k9 a9 e9 => ?_; conv=>whnf
      refine ⟨Sub.nil _, ?_⟩; conv=>whnf
      have s9 : Sub h7 h9 := a9 h7 s8 n8
      have ke := ((k.sub s5).coreSet n1 n2 hb kk7 id7).sub s9
      have oe : OutOk h9 (N + 1) ((x0.cores.get n).propose 1 dl).done.2 ox := ok7.move fun _ _ _ _ e => s9 _ _ e
      rw [e1 ez]
      have okz := okk ez
      refine ALoad.agg rfl k9 rfl rfl ?_; conv=>whnf
      refine ACalls.mono (out_yes ke n1 n2 oe okz) ?_
      rintro _ h16 ⟨rfl, k16, L16⟩
      conv=>whnf
      exact ⟨rfl, k16, L3.trans ((s5.low.trans (keeps_low n1 kk7)).trans (s9.low.trans L16))⟩
    ·conv=>whnf
     refine And.intro ?_ trivial
     refine AAlloc.mkN (0, 1) (outCells out0 ox0) rfl fun b8 h8 n8 s8 k8 => ?_; conv=>whnf
     have sC := s5.trans s8
     refine ⟨sC, ?_⟩; conv=>whnf
     have k6C := s8 _ _ k6
     have nb8 : h3 b8 = none := by cases e : h3 b8 with | none => rfl | some y => rw [s5 _ _ e] at n8; cases n8
     have idC : PIdle h8 b (N + 2 * n.toNat) (x0.cores.get n) := id.move fun _ _ _ _ e => sC _ _ e
     refine ACalls.mono (propose_net (N + 1) (by omega) idC (i.cok n1 n2) 1 (data := dl) (row_sl (by rw [hdl]; rfl) (by rw [hdl]; exact k6C)) hdb) ?_
     rintro _ h7 (⟨er, rfl, s7⟩ | ⟨ez, u, rfl, ox, rfl, ok7, id7, kk7⟩)
     ·conv=>whnf
      refine AStore.aggN rfl rfl rfl ((s7 _ _ k8)) rfl (outCells out0 ox0) rfl fun h9 t9 k9 a9 e9 => ?_; conv=>whnf
      refine ⟨Sub.nil _, ?_⟩; conv=>whnf
      refine ALoad.agg rfl k9 rfl rfl ?_; conv=>whnf
      refine ACalls.mono (out_no h9 p n er) ?_
      rintro _ h10 ⟨rfl, s10⟩
      conv=>whnf
      rw [e0 er]
      exact ⟨rfl, ⟨v, (((k.sub sC).sub s7).local t9).sub s10⟩, L3.trans ((a9 h3 (sC.trans s7) nb8).trans s10).low⟩
     ·conv=>whnf
      refine AStore.aggN rfl rfl rfl ((kk7 _ _ _ (not_loc hN) k8)) rfl (outCells ((x0.cores.get n).propose 1 dl).done.2 ox) rfl fun h9 t9 k9 a9 e9 => ?_; conv=>whnf
      refine ⟨Sub.nil _, ?_⟩; conv=>whnf
      have ke := ((k.sub sC).coreSet n1 n2 hb kk7 id7).local t9
      have oe : OutOk h9 (N + 1) ((x0.cores.get n).propose 1 dl).done.2 ox := ok7.local (by omega) t9
      rw [e1 ez]
      have okz := okk ez
      refine ALoad.agg rfl k9 rfl rfl ?_; conv=>whnf
      refine ACalls.mono (out_yes ke n1 n2 oe okz) ?_
      rintro _ h16 ⟨rfl, k16, L16⟩
      conv=>whnf
      refine ⟨rfl, k16, L3.trans (Low.trans ?_ L16)⟩
      exact fun b t y ht e => e9 _ _ (fun z => by rw [z, nb8] at e; cases e) (kk7 _ _ _ (by simp; omega) (sC _ _ e))
   ·conv=>whnf
    refine And.intro ?_ trivial
    refine AAlloc.mkN (0, 1) (outCells out0 ox0) rfl fun b8 h8 n8 s8 k8 => ?_; conv=>whnf
    refine ⟨s8, ?_⟩; conv=>whnf
    refine ABuildSl.mkN (0, 1) [.int .u8 (s.b % 256), .int .u8 (x0.draw % 256)] rfl rfl rfl rfl rfl rfl rfl fun b6 h5 n5' s5 k6 => ?_; conv=>whnf
    have sC := s8.trans s5
    refine ⟨sC, ?_⟩; conv=>whnf
    have k4C := s5 _ _ k8
    have idC : PIdle h5 b (N + 2 * n.toNat) (x0.cores.get n) := id.move fun _ _ _ _ e => sC _ _ e
    refine ACalls.mono (propose_net (N + 1) (by omega) idC (i.cok n1 n2) 1 (data := dl) (row_sl (by rw [hdl]; rfl) (by rw [hdl]; exact k6)) hdb) ?_
    rintro _ h7 (⟨er, rfl, s7⟩ | ⟨ez, u, rfl, ox, rfl, ok7, id7, kk7⟩)
    ·conv=>whnf
     refine AStore.aggN rfl rfl rfl ((s7 _ _ k4C)) rfl (outCells out0 ox0) rfl fun h9 t9 k9 a9 e9 => ?_; conv=>whnf
     refine ⟨Sub.nil _, ?_⟩; conv=>whnf
     refine ALoad.agg rfl k9 rfl rfl ?_; conv=>whnf
     refine ACalls.mono (out_no h9 p n er) ?_
     rintro _ h10 ⟨rfl, s10⟩
     conv=>whnf
     rw [e0 er]
     exact ⟨rfl, ⟨v, (((k.sub sC).sub s7).local t9).sub s10⟩, L3.trans ((a9 h3 (sC.trans s7) n8).trans s10).low⟩
    ·conv=>whnf
     refine AStore.aggN rfl rfl rfl ((kk7 _ _ _ (not_loc hN) k4C)) rfl (outCells ((x0.cores.get n).propose 1 dl).done.2 ox) rfl fun h9 t9 k9 a9 e9 => ?_; conv=>whnf
     refine ⟨Sub.nil _, ?_⟩; conv=>whnf
     have ke := ((k.sub sC).coreSet n1 n2 hb kk7 id7).local t9
     have oe : OutOk h9 (N + 1) ((x0.cores.get n).propose 1 dl).done.2 ox := ok7.local (by omega) t9
     rw [e1 ez]
     have okz := okk ez
     refine ALoad.agg rfl k9 rfl rfl ?_; conv=>whnf
     refine ACalls.mono (out_yes ke n1 n2 oe okz) ?_
     rintro _ h16 ⟨rfl, k16, L16⟩
     conv=>whnf
     refine ⟨rfl, k16, L3.trans (Low.trans ?_ L16)⟩
     exact fun b t y ht e => e9 _ _ (fun z => by rw [z, n8] at e; cases e) (kk7 _ _ _ (by simp; omega) (sC _ _ e))
  refine ACmp.no (c2) ?_; conv=>whnf
  rw [if_neg c2]
  by_cases c3 : op = 3
  ·refine ACmp.yes (c3) ?_; conv=>whnf
   rw [if_pos c3]
   have hm0 : x0.mails = [] := List.eq_nil_of_length_eq_zero (by omega)
   rw [if_pos hm0]
   refine ALoad.one rfl k.str rfl ?_; conv=>whnf
   refine ACmp.no ((by omega)) ?_; conv=>whnf
   exact ⟨rfl, ⟨v, k⟩, L3⟩
  refine ACmp.no (c3) ?_; conv=>whnf
  rw [if_neg c3]
  by_cases c4 : op = 4
  ·refine ACmp.yes (c4) ?_; conv=>whnf
   rw [if_pos c4]
   have hm0 : x0.mails = [] := List.eq_nil_of_length_eq_zero (by omega)
   have hmn : x0.mails[(bring s.a x0.mails.length).toNat]? = none := by rw [hm0]; rfl
   rw [hmn]
   refine ALoad.one rfl k.str rfl ?_; conv=>whnf
   refine ACmp.no ((by omega)) ?_; conv=>whnf
   exact ⟨rfl, ⟨v, k⟩, L3⟩
  refine ACmp.no (c4) ?_; conv=>whnf
  rw [if_neg c4]
  by_cases c5 : op = 5
  ·refine ACmp.yes (c5) ?_; conv=>whnf
   rw [if_pos c5]
   refine ACalls.mono (again_any k i n1 n2) ?_
   rintro _ h16 ⟨rfl, k16, L16⟩
   conv=>whnf
   exact ⟨rfl, k16, L3.trans L16⟩
  refine ACmp.no (c5) ?_; conv=>whnf
  rw [if_neg c5]
  by_cases c6 : op = 6
  ·refine ACmp.yes (c6) ?_; conv=>whnf
   rw [if_pos c6]
   refine ALoad.one rfl r3 rfl ?_; conv=>whnf
   refine ACalls.mono (change_any k i n1 n2 s.b (by omega)) ?_
   rintro _ h16 ⟨rfl, k16, L16⟩
   conv=>whnf
   exact ⟨rfl, k16, L3.trans L16⟩
  refine ACmp.no (c6) ?_; conv=>whnf
  rw [if_neg c6]
  by_cases c7 : op = 7
  ·refine ACmp.yes (c7) ?_; conv=>whnf
   rw [if_pos c7]
   refine AIdxA.nat (n := 6) (z := 1) (j := m) (by omega) (by omega) rfl rfl ?_; conv=>whnf
   refine ALoad.one (v := Ptr b) rfl k.str (by have := core_cell x0 v n1 n5; rw [hb] at this; rw [show 0 + 2 + m * 1 = 2 + (n).toNat by omega]; exact this) ?_; conv=>whnf
   refine ACalls.mono (read_net (N + 1) (by omega) id (i.cok n1 n2)) ?_
   rintro _ h7 (⟨er, rfl, s7⟩ | ⟨ez, u, rfl, ox, rfl, ok7, id7, kk7⟩)
   ·conv=>whnf
    refine AAlloc.mkN (0, 1) (outCells out0 ox0) rfl fun b8 h8 n8 s8 k8 => ?_; conv=>whnf
    refine AStore.aggN rfl rfl rfl (k8) rfl (outCells out0 ox0) rfl fun h9 t9 k9 a9 e9 => ?_; conv=>whnf
    refine ALoad.agg rfl k9 rfl rfl ?_; conv=>whnf
    refine ACalls.mono (out_no h9 p n er) ?_
    rintro _ h10 ⟨rfl, s10⟩
    conv=>whnf
    have s9 : Sub h7 h9 := a9 h7 s8 n8
    have e : x0.read n = x0 := by unfold NetM.read; rw [if_neg er]
    rw [e]
    exact ⟨rfl, ⟨v, (((k.sub s7).sub s9).sub s10)⟩, L3.trans (s7.trans (s9.trans s10)).low⟩
   ·conv=>whnf
    refine AAlloc.mkN (0, 1) (outCells out0 ox0) rfl fun b8 h8 n8 s8 k8 => ?_; conv=>whnf
    refine AStore.aggN rfl rfl rfl (k8) rfl (outCells (x0.cores.get n).read.done.2 ox) rfl fun h9 t9 k9 a9 e9 => ?_; conv=>whnf
    have s9 : Sub h7 h9 := a9 h7 s8 n8
    have okk := i.keepRead n1 n2 ez (by omega)
    have ke := (k.coreSet n1 n2 hb kk7 id7).sub s9
    have oe : OutOk h9 (N + 1) (x0.cores.get n).read.done.2 ox := ok7.move fun _ _ _ _ e => s9 _ _ e
    have e : x0.read n = x0.out n (x0.cores.get n).read := by unfold NetM.read; rw [if_pos ez]
    rw [e]
    refine ALoad.agg rfl k9 rfl rfl ?_; conv=>whnf
    refine ACalls.mono (out_yes ke n1 n2 oe okk) ?_
    rintro _ h16 ⟨rfl, k16, L16⟩
    conv=>whnf
    exact ⟨rfl, k16, (L3.trans (keeps_low n1 kk7)).trans (s9.low.trans L16)⟩
  refine ACmp.no (c7) ?_; conv=>whnf
  rw [if_neg c7]
  by_cases c8 : op = 8
  ·refine ACmp.yes (c8) ?_; conv=>whnf
   rw [if_pos c8]
   refine ACalls.mono (compact_any k i n1 n2) ?_
   rintro _ h16 ⟨rfl, k16, L16⟩
   conv=>whnf
   exact ⟨rfl, k16, L3.trans L16⟩
  refine ACmp.no (c8) ?_; conv=>whnf
  rw [if_neg c8]
  have tcut : ∀ K : Nat, (List.range (K + 1)).foldl (fun (y : NetM) (k : Nat) => y.tick ((k : Int) + 1) (x0.draw + (k : Int) + 1)) x0 = ((List.range K).foldl (fun (y : NetM) (k : Nat) => y.tick ((k : Int) + 1) (x0.draw + (k : Int) + 1)) x0).tick ((K : Int) + 1) (x0.draw + (K : Int) + 1) := fun K => by rw [List.range_succ, List.foldl_append]; rfl
  refine ALoop.mk (fun e h' => ∃ (e0 : Env) (K : Nat) (xk : NetM) (vk : NX) (gk : Gh), e = updL 284 e0 [(0, Ptr p), (17, I ((K : Int) + 1))] ∧ (K : Int) ≤ x0.size ∧ xk = (List.range K).foldl (fun (y : NetM) (k : Nat) => y.tick ((k : Int) + 1) (x0.draw + (k : Int) + 1)) x0 ∧ xk.size = x0.size ∧ xk.draw = x0.draw ∧ NetX h' N p xk vk ∧ NetI gk xk ∧ gk.lim ≤ g.lim + 10 * K ∧ Low N h h')
   (fun e => 7 - natOf (e 17)) ⟨_, 0, x0, v, g, updL_self ⟨rfl, rfl, trivial⟩, by omega, rfl, rfl, rfl, k, i, by omega, L3⟩ ?_
  rintro e h' ⟨e0, K, xk, vk, gk, rfl, hK, hxk, hxs, hxd, kk, ik, hgk, LK⟩
  conv=>whnf
  refine ALoad.one rfl kk.str rfl ?_; conv=>whnf
  by_cases cK : (K : Int) + 1 ≤ xk.size
  ·refine ACmp.yes (cK) ?_; conv=>whnf
   have m1 : 1 ≤ (K : Int) + 1 := by omega
   have m5 : (K : Int) + 1 ≤ 5 := by omega
   obtain ⟨bk, hbk, idk⟩ := kk.cores ((K : Int) + 1) m1 cK
   have hd1 : 0 ≤ x0.draw + (K : Int) + 1 := by omega
   have okk := ik.keepTick m1 cK hd1 (by omega)
   have gos := ik.tick m1 cK hd1 (by omega)
   obtain ⟨⟨g2, i2, l2⟩, z2, d2⟩ := gos
   rw [← hxd] at okk hd1 i2 z2 d2
   refine ADrawn.mkT (h') [12] (.take 0 (.take 1 (.take 2 (.take 3 (.take 4 (.take 5 (.take 6 (.take 7 (.take 8 (.take 9 (.take 10 (.take 11 (.alt 12 (.take 13 (.take 14 (.take 15 (.take 16 (.take 17 (.take 18 (.done))))))) (.alt 16 (.take 12 (.take 13 (.take 14 (.take 15 (.take 17 (.take 18 (.done))))))) (.stop))))))))))))))) (Sub.refl _) (by decide +kernel) ?_; conv=>whnf
   refine AIdxA.nat (n := 6) (z := 1) (j := K + 1) (by omega) (by omega) rfl rfl ?_; conv=>whnf
   refine ALoad.one (v := Ptr bk) rfl kk.str (by have := core_cell xk vk m1 m5; rw [hbk] at this; rw [show 0 + 2 + (K + 1) * 1 = 2 + ((K : Int) + 1).toNat by omega]; exact this) ?_; conv=>whnf
   refine ALoad.one rfl kk.str rfl ?_; conv=>whnf
   refine AArith.ok (by omega) (by omega) ((by omega : xk.draw + ((K : Int) + 1) = xk.draw + (K : Int) + 1)) ?_; conv=>whnf
   refine And.intro ?_ ?_
   ·refine ACalls.mono (tick_net (N + 1) (by omega) idk (ik.cok m1 cK) hd1) ?_
    rintro _ h7 ⟨u, rfl, ox, rfl, ok7, id7, kk7⟩
    conv=>whnf
    refine AAlloc.mkN (0, 1) (outCells out0 ox0) rfl fun b8 h8 n8 s8 k8 => ?_; conv=>whnf
    refine ⟨Sub.nil _, ?_⟩; conv=>whnf
    refine AStore.aggN rfl rfl rfl (k8) rfl (outCells ((xk.cores.get ((K : Int) + 1)).tick (xk.draw + (K : Int) + 1)).done.2 ox) rfl fun h9 t9 k9 a9 e9 => ?_; conv=>whnf
    refine ⟨Sub.nil _, ?_⟩; conv=>whnf
    have s9 : Sub h7 h9 := a9 h7 s8 n8
    have ke := (kk.coreSet m1 cK hbk kk7 id7).sub s9
    have oe : OutOk h9 (N + 1) ((xk.cores.get ((K : Int) + 1)).tick (xk.draw + (K : Int) + 1)).done.2 ox := ok7.move fun _ _ _ _ e => s9 _ _ e
    refine ALoad.agg rfl k9 rfl rfl ?_; conv=>whnf
    refine ACalls.mono (out_yes ke m1 cK oe okk) ?_
    rintro _ h16 ⟨rfl, k16, L16⟩
    conv=>whnf
    obtain ⟨v16, k16⟩ := k16
    refine AArith.ok (by omega) (by omega) ((by omega : (K : Int) + 1 + 1 = ((K + 1 : Nat) : Int) + 1)) ?_; conv=>whnf
    refine ⟨⟨_, K + 1, _, v16, g2, updL_self ⟨rfl, rfl, trivial⟩, by omega, by rw [tcut, ← hxk, ← hxd], z2.trans hxs, d2.trans hxd, k16, i2, by omega, (LK.trans (keeps_low m1 kk7)).trans (s9.low.trans L16)⟩, ?_⟩
    show 7 - (((K + 1 : Nat) : Int) + 1).toNat < 7 - ((K : Int) + 1).toNat
    omega
   ·conv=>whnf
    refine And.intro ?_ trivial
    refine AAlloc.mkN (0, 1) (outCells out0 ox0) rfl fun b8 h8 n8 s8 k8 => ?_; conv=>whnf
    refine ⟨s8, ?_⟩; conv=>whnf
    have id8 : PIdle h8 bk (N + 2 * ((K : Int) + 1).toNat) (xk.cores.get ((K : Int) + 1)) := idk.move fun _ _ _ _ e => s8 _ _ e
    refine ACalls.mono (tick_net (N + 1) (by omega) id8 (ik.cok m1 cK) hd1) ?_
    rintro _ h7 ⟨u, rfl, ox, rfl, ok7, id7, kk7⟩
    conv=>whnf
    refine AStore.aggN rfl rfl rfl ((kk7 _ _ _ (not_loc hN) k8)) rfl (outCells ((xk.cores.get ((K : Int) + 1)).tick (xk.draw + (K : Int) + 1)).done.2 ox) rfl fun h9 t9 k9 a9 e9 => ?_; conv=>whnf
    refine ⟨Sub.nil _, ?_⟩; conv=>whnf
    have ke := ((kk.sub s8).coreSet m1 cK hbk kk7 id7).local t9
    have oe : OutOk h9 (N + 1) ((xk.cores.get ((K : Int) + 1)).tick (xk.draw + (K : Int) + 1)).done.2 ox := ok7.local (by omega) t9
    refine ALoad.agg rfl k9 rfl rfl ?_; conv=>whnf
    refine ACalls.mono (out_yes ke m1 cK oe okk) ?_
    rintro _ h16 ⟨rfl, k16, L16⟩
    conv=>whnf
    obtain ⟨v16, k16⟩ := k16
    refine AArith.ok (by omega) (by omega) ((by omega : (K : Int) + 1 + 1 = ((K + 1 : Nat) : Int) + 1)) ?_; conv=>whnf
    have LL : Low N h' h9 := fun b t y ht e => e9 _ _ (fun z => by rw [z, n8] at e; cases e) (kk7 _ _ _ (by simp; omega) (s8 _ _ e))
    refine ⟨⟨_, K + 1, _, v16, g2, updL_self ⟨rfl, rfl, trivial⟩, by omega, by rw [tcut, ← hxk, ← hxd], z2.trans hxs, d2.trans hxd, k16, i2, by omega, LK.trans (LL.trans L16)⟩, ?_⟩
    show 7 - (((K + 1 : Nat) : Int) + 1).toNat < 7 - ((K : Int) + 1).toNat
    omega
  ·refine ACmp.no (cK) ?_; conv=>whnf
   have e : x0.tickAll = xk := by
    rw [hxk]; unfold NetM.tickAll
    rw [show x0.size.toNat = K by omega]
   rw [e]
   exact ⟨rfl, ⟨vk, kk⟩, LK⟩
end Go.Ah
namespace Go.Ah
open Go.Proofs
set_option linter.unusedVariables false
set_option linter.unusedSimpArgs false
def hist0 : Hist := { first := 14, led := fun _ => 0, ll := fun _ => [], ini := fun _ => [], q := fun _ _ => false, acc := fun _ _ => 0 }
def gh0 (size : Int) : Gh := { size := size, lim := 10, H := hist0, tm := fun _ => 0, vt := fun _ _ => 0, cand := fun _ _ => [] }
theorem new_eq (n d : Int) : cnew n 14 saved0 d = ⟨n, 14, 0, 0, snap0, lnew 0 0, 0, 0, 0, waits d, 10, 0, five0, five0, five0, 0, 0, [], out0⟩ := rfl
theorem wld0 {size : Int} (h3 : 3 ≤ size) (h5 : size ≤ 5) : Wld (gh0 size) := by
 refine ⟨⟨fun t h => absurd rfl h, fun t h => absurd rfl h, fun t _ _ h => absurd rfl h, fun t _ _ h => absurd rfl h, fun t _ _ h => absurd rfl h, fun t h => absurd rfl h, fun t _ h => absurd rfl h, fun t _ _ h => absurd rfl h⟩, rfl, h3, h5, fun t h => absurd rfl h, fun _ _ => rfl, fun _ _ => Nat.le_refl _, fun _ _ h => absurd h (Nat.lt_irrefl _), fun _ _ => rfl, fun t _ h => absurd rfl h, fun _ _ h => absurd rfl h, fun _ e h => ?_, fun _ k e h => ?_, fun t s h h' => ?_, fun _ _ _ => ?_, fun _ => ?_, ?_⟩
 ·cases h
 ·cases h
 ·exact absurd h'.symm h
 ·show (0 : Int) ≤ 10; omega
 ·show (((([] : List Abs)).length : Nat) : Int) ≤ 10; simp
 ·show (10 : Int) ≤ 100000000; omega
theorem idl0 {size : Int} (h3 : 3 ≤ size) (h5 : size ≤ 5) {n : Int} (n1 : 1 ≤ n) (n2 : n ≤ size) : Idl (gh0 size) n saved0 (cnew n 14 saved0 n) [] := by
 obtain ⟨w1, w2⟩ := waits_in (d := n) (by omega)
 rw [new_eq]
 have ge : ∀ (k : Nat) (e : Abs), ([] : List Abs)[k]? = some e → False := fun k e h => by cases h
 refine ⟨?_, rfl, rfl⟩
 exact {
  n1 := n1
  n2 := n2
  self := rfl
  first := rfl
  tm := rfl
  t0 := Int.le_refl 0
  rep := ⟨Int.le_refl 0, Nat.le_refl 0, rfl, rfl, fun k e h => (ge k e h).elim⟩
  si := rfl
  s0 := fun _ => rfl
  s1 := fun h => absurd h (Int.lt_irrefl 0)
  sd := Nat.zero_le _
  good := ⟨fun k e h => (ge k e h).elim, fun j k e f _ h => (ge j e h).elim⟩
  low := fun k e h => (ge k e h).elim
  eok := fun e h => by cases h
  al := (by decide : (0 : Int) ≤ 10)
  vl := fun u i _ h => absurd rfl h
  c0 := Int.le_refl 0
  c1 := Int.le_refl 0
  com := .inl rfl
  vote := rfl
  vr0 := Int.le_refl 0
  vr1 := (by decide : (0 : Int) ≤ 5)
  st := .inl rfl
  lead := fun h => by cases h
  lc := fun h => by cases h
  cand := fun h => by cases h
  idle := fun _ => ⟨rfl, rfl, rfl⟩
  q1 := (by decide : (0 : Int) ≤ 10)
  q2 := Int.le_refl 10
  w1 := by show 1 ≤ waits n; omega
  w2 := w2
  b0 := fun h => by cases h
  b1 := Int.le_refl 0
  b2 := (by decide : (0 : Int) ≤ 2)
  v1 := Int.le_refl 0
  v2 := (by decide : (0 : Int) < 64)
  r1 := Int.le_refl 0
  r2 := (by decide : (0 : Int) ≤ 10)
  rl := (by decide : (0 : Int) ≤ 10) }
theorem new_get (size : Int) {n : Int} (n1 : 1 ≤ n) (n5 : n ≤ 5) : (newNetM size).cores.get n = cnew n 14 saved0 n ∧ (newNetM size).kept.get n = saved0 := by
 have : n = 1 ∨ n = 2 ∨ n = 3 ∨ n = 4 ∨ n = 5 := by omega
 rcases this with rfl | rfl | rfl | rfl | rfl <;> exact ⟨rfl, rfl⟩
theorem netI0 (size : Int) : NetI (gh0 (newNetM size).size) (newNetM size) := by
 have hb := bring_in size 3 (by omega)
 have h3 : 3 ≤ (newNetM size).size := by show 3 ≤ 3 + bring size 3; omega
 have h5 : (newNetM size).size ≤ 5 := by show 3 + bring size 3 ≤ 5; omega
 refine ⟨wld0 h3 h5, rfl, fun n n1 n2 => ⟨[], ?_⟩, fun p hp => (by cases hp), rfl, fun t o h => (by cases h), fun i e h => (by cases h), fun n n1 n2 => ?_, fun n n1 n2 => ?_, Int.le_refl 0⟩
 ·obtain ⟨e1, e2⟩ := new_get size n1 (show n ≤ 5 by omega)
  rw [e1, e2]; exact idl0 h3 h5 n1 n2
 ·obtain ⟨e1, e2⟩ := new_get size n1 (show n ≤ 5 by omega)
  rw [e1, new_eq]
  show five0.get n ≤ 0
  have : n = 1 ∨ n = 2 ∨ n = 3 ∨ n = 4 ∨ n = 5 := by omega
  rcases this with rfl | rfl | rfl | rfl | rfl <;> exact Int.le_refl 0
 ·obtain ⟨e1, e2⟩ := new_get size n1 (show n ≤ 5 by omega)
  rw [e1, new_eq]
  show five0.get n ≤ 0
  have : n = 1 ∨ n = 2 ∨ n = 3 ∨ n = 4 ∨ n = 5 := by omega
  rcases this with rfl | rfl | rfl | rfl | rfl <;> exact Int.le_refl 0
theorem awakeM_true : awakeM = true := by decide +kernel
end Go.Ah
namespace Go.Ah
open Go.Proofs
set_option linter.unusedVariables false
set_option linter.unusedSimpArgs false
set_option maxRecDepth 20000
variable {h h' : Heap} {N p : Nat} {x : NetM} {v : NX} {n : Int} {g : Gh}
structure NetAt (h : Heap) (N p : Nat) (x : NetM) (L : Int) : Prop where
  mem : ∃ v, NetX h N p x v
  inv : ∃ g, NetI g x ∧ g.lim ≤ L
  draw : x.draw < 100003
theorem step_draw (k : NetI g x) (s : StepM) (hl : g.lim + 60 ≤ 100000000) : (x.step s).draw < 100003 := by
 have hdr := k.draw
 have h := (k.withDraw (d := (x.draw * 7 + s.b % 1024 + 3) % 100003) (Int.emod_nonneg _ (by omega))).stepOf s hl
 rw [step_eq, h.draw]
 exact Int.emod_lt_of_pos _ (by omega)
theorem step_at {L : Int} (k : NetAt h N p x L) (hL : L + 60 ≤ 100000000) (s : StepH) :
  ACalls PR 16 #[Ptr p, .agg s.cells.toArray] h (fun r h' => r = .tuple #[] ∧ NetAt h' N p (x.step s.m) (L + 60) ∧ (x.step s.m).size = x.size ∧ Low N h h') := by
 obtain ⟨⟨v, kv⟩, ⟨g, ig, hg⟩, hd⟩ := k
 refine (step_any kv ig hd (by omega) s).mono ?_
 rintro r h' ⟨rfl, kv', L'⟩
 obtain ⟨⟨g', i', l'⟩, hs⟩ := ig.step s.m (by omega)
 exact ⟨rfl, ⟨kv', ⟨g', i', by omega⟩, step_draw ig s.m (by omega)⟩, hs, L'⟩
theorem drain_nil {k : Nat} {x : NetM} (h : x.mails = []) : x.drain k = x := by
 cases k with
 | zero => rfl
 | succ k => unfold NetM.drain; rw [h]
theorem drain_cons {k : Nat} {x : NetM} (h : 0 < x.mails.length) : x.drain (k + 1) = (x.step ⟨0, 0, 0⟩).drain k := by
 cases hm : x.mails with
 | nil => rw [hm] at h; cases h
 | cons p l => rw [NetM.drain, hm]
set_option maxHeartbeats 4000000 in
theorem rest_any {L : Int} (hL0 : 0 ≤ L) (k : NetAt h N p x L) (ticks : Nat) (hL : L + 60 * 2001 * ticks ≤ 100000000) :
  ACalls PR 20 #[Ptr p, I ticks] h (fun r h' => r = .tuple #[] ∧ NetAt h' N p (x.rest ticks) (L + 60 * 2001 * ticks) ∧ (x.rest ticks).size = x.size ∧ Low N h h') := by
 refine acalls_of mix Tryz.func20 rfl rfl Tryz.ntmps20 Tryz.results20 rfl ?_; conv=>whnf
 refine ALoop.mk (fun e h' => ∃ (e0 : Env) (T : Nat) (y : NetM), e = updL 30 e0 [(0, Ptr p), (1, I ticks), (4, I T)] ∧ T ≤ ticks ∧ NetAt h' N p y (L + 60 * 2001 * T) ∧ y.size = x.size ∧ Low N h h' ∧ x.rest ticks = y.rests (ticks - T) T) (fun e => ticks - natOf (e 4))
  ⟨_, 0, x, updL_self ⟨rfl, rfl, rfl, trivial⟩, by omega, by simpa using k, rfl, Low.refl _ _, rfl⟩ ?_
 rintro e h1 ⟨e0, T, y, rfl, hT, ky, hys, L1, er⟩
 conv=>whnf
 by_cases c : T < ticks
 ·refine ACmp.yes ((by omega)) ?_; conv=>whnf
  obtain ⟨U, hU⟩ : ∃ U, ticks - T = U + 1 := ⟨ticks - T - 1, by omega⟩
  refine ALoop.mk (fun e h' => ∃ (e0 : Env) (K : Nat) (z : NetM), e = updL 30 e0 [(0, Ptr p), (1, I ticks), (4, I T), (5, I K)] ∧ K ≤ 2000 ∧ NetAt h' N p z (L + 60 * 2001 * T + 60 * K) ∧ z.size = x.size ∧ Low N h h' ∧ y.drain 2000 = z.drain (2000 - K)) (fun e => 2000 - natOf (e 5))
   ⟨_, 0, y, updL_self ⟨rfl, rfl, rfl, rfl, trivial⟩, by omega, by simpa using ky, hys, L1, rfl⟩ ?_
  rintro e h2 ⟨e1, K, z, rfl, hK, kz, hzs, L2, ez⟩
  obtain ⟨v, kv⟩ := kz.mem
  have hmn : v.ps.length = v.ml.n := by have := kv.ml.sl.len; rw [flat_len (ph_len v.ps)] at this; simp at this; omega
  have hmo : v.ps.length = z.mails.length := by have := congrArg List.length kv.pa; rw [List.length_map] at this; omega
  conv=>whnf
  by_cases cK : K < 2000
  ·refine ACmp.yes ((by omega)) ?_; conv=>whnf
   refine ALoad.one rfl kv.str rfl ?_; conv=>whnf
   by_cases cm : 0 < z.mails.length
   ·refine ACmp.yes ((by omega)) ?_; conv=>whnf
    refine ACalls.mono (step_at kz (by omega) ⟨0, 0, 0⟩) ?_
    rintro _ h3 ⟨rfl, k3, s3, L3⟩
    conv=>whnf
    refine AArith.ok (by omega) (by omega) ((by omega : (K : Int) + 1 = ((K + 1 : Nat) : Int))) ?_; conv=>whnf
    refine ⟨⟨_, K + 1, _, updL_self ⟨rfl, rfl, rfl, rfl, trivial⟩, by omega, ⟨k3.mem, let ⟨g, a, b⟩ := k3.inv; ⟨g, a, by omega⟩, k3.draw⟩, s3.trans hzs, L2.trans L3, ?_⟩, ?_⟩
    ·rw [ez, show 2000 - K = (2000 - (K + 1)) + 1 by omega, drain_cons cm]; rfl
    ·show 2000 - (K + 1) < 2000 - K
     omega
   ·refine ACmp.no ((by omega)) ?_; conv=>whnf
    have DR : y.drain 2000 = z := by rw [ez]; exact drain_nil (List.eq_nil_of_length_eq_zero (by omega))
    refine ACalls.mono (step_at kz (by omega) ⟨9, 0, T⟩) ?_
    rintro _ h3 ⟨rfl, k3, s3, L3⟩
    conv=>whnf
    refine AArith.ok (by omega) (by omega) ((by omega : (T : Int) + 1 = ((T + 1 : Nat) : Int))) ?_; conv=>whnf
    refine ⟨⟨_, T + 1, _, updL_self ⟨rfl, rfl, rfl, trivial⟩, by omega, ⟨k3.mem, let ⟨g, a, b⟩ := k3.inv; ⟨g, a, by omega⟩, k3.draw⟩, s3.trans hzs, L2.trans L3, ?_⟩, ?_⟩
    ·rw [er, hU, NetM.rests, DR, show ticks - (T + 1) = U by omega]; rfl
    ·show ticks - (T + 1) < ticks - T
     omega
  ·refine ACmp.no ((by omega)) ?_; conv=>whnf
   have DR : y.drain 2000 = z := by rw [ez, show 2000 - K = 0 by omega]; rfl
   refine ACalls.mono (step_at kz (by omega) ⟨9, 0, T⟩) ?_
   rintro _ h3 ⟨rfl, k3, s3, L3⟩
   conv=>whnf
   refine AArith.ok (by omega) (by omega) ((by omega : (T : Int) + 1 = ((T + 1 : Nat) : Int))) ?_; conv=>whnf
   refine ⟨⟨_, T + 1, _, updL_self ⟨rfl, rfl, rfl, trivial⟩, by omega, ⟨k3.mem, let ⟨g, a, b⟩ := k3.inv; ⟨g, a, by omega⟩, k3.draw⟩, s3.trans hzs, L2.trans L3, ?_⟩, ?_⟩
   ·rw [er, hU, NetM.rests, DR, show ticks - (T + 1) = U by omega]; rfl
   ·show ticks - (T + 1) < ticks - T
    omega
 ·refine ACmp.no ((by omega)) ?_; conv=>whnf
  have hTt : T = ticks := by omega
  subst hTt
  have e : x.rest T = y := by rw [er, Nat.sub_self]; rfl
  rw [e]
  exact ⟨rfl, ky, hys, L1⟩
def sh0 : SH := ⟨0, 0, 0, 0, 0, slv0, [], slv0, []⟩
def five (a : Option Nat) : Fv (Option Nat) := ⟨a, a, a, a, a⟩
def nx0 (m1 m2 : Nat) : NX := ⟨five none, ⟨sh0, sh0, sh0, sh0, sh0⟩, slv0, [], m1, [], 0, m2, [], 0, []⟩
theorem sh0_ok (h : Heap) (t1 t2 t3 : Tag) : sh0.Ok h t1 t2 t3 := ⟨⟨Sl.nil .., by simp [sh0], by simp [sh0]⟩, Sl.nil ..⟩
theorem new_ok : ([1, 2, 3, 4, 5].all fun n => cnewOk n 14 saved0 n) = true := by decide +kernel
structure NetB (h : Heap) (N p : Nat) (x : NetM) (m1 m2 K : Nat) (cp : Fv (Option Nat)) : Prop where
  str : h p = some (row (N, 0) (netCells x { nx0 m1 m2 with cp := cp }) 41)
  c1 : h m1 = some ((N, 1), .map #[] 0)
  c2 : h m2 = some ((N, 2), .map #[] 0)
  cores : ∀ n : Int, 1 ≤ n → n ≤ K → ∃ b, cp.get n = some b ∧ PIdle h b (N + 2 * n.toNat) (cnew n 14 saved0 n)
  none : ∀ n : Int, K < n → n ≤ 5 → cp.get n = none
set_option maxHeartbeats 4000000 in
theorem newNet_any (h : Heap) (N : Nat) (hN : N ≠ 0) (size : Int) :
  ACalls PR 9 #[I size] h (fun r h' => ∃ p, r = Ptr p ∧ NetAt h' N p (newNetM size) 10 ∧ 3 ≤ (newNetM size).size ∧ (newNetM size).size ≤ 5 ∧ Low N h h') := by
 obtain ⟨b1, b2⟩ := bring_in size 3 (by omega)
 obtain ⟨x, hx⟩ : ∃ x, x = newNetM size := ⟨_, rfl⟩
 have hsz : x.size = 3 + bring size 3 := by rw [hx]; rfl
 have t01 : ((0, 1) : Tag) ≠ (N, 0) := fun c => by have := congrArg Prod.fst c; simp only at this; omega
 rw [← hx]
 refine acalls_of mix Tryz.func9 rfl rfl Tryz.ntmps9 Tryz.results9 rfl ?_; conv=>whnf
 refine ACalls.mono (bring_any size 3 (by omega) h) ?_; rintro _ _ ⟨rfl, rfl⟩; conv=>whnf
 refine AArith.ok (by omega) (by omega) (hsz.symm) ?_; conv=>whnf
 refine AMakeMap.mk (N, 1) fun m1 f1 => ?_; conv=>whnf
 refine AMakeMap.mk (N, 2) fun m2 f2 => ?_; conv=>whnf
 obtain ⟨h2, hh2⟩ : ∃ h2, h2 = (h.set m1 ((N, 1), .map #[] 0)).set m2 ((N, 2), .map #[] 0) := ⟨_, rfl⟩
 have g2 : h2 m2 = some ((N, 2), .map #[] 0) := by rw [hh2]; exact Heap.set_same _ _ _
 have g1 : h2 m1 = some ((N, 1), .map #[] 0) := by rw [hh2]; exact f2.sub _ _ _ (Heap.set_same _ _ _)
 have s2 : Sub h h2 := by rw [hh2]; exact (f1.sub _).trans (f2.sub _)
 rw [← hh2]
 refine ABox.mkN (N, 0) (netCells x (nx0 m1 m2)) (by rw [hx]; rfl) fun p h3 n3 s3 q3 => ?_; conv=>whnf
 refine ALoop.mk (fun e h' => ∃ (e0 : Env) (K : Nat) (cp : Fv (Option Nat)), e = updL 51 e0 [(3, Ptr p), (4, I ((K : Int) + 1))] ∧ (K : Int) ≤ x.size ∧ NetB h' N p x m1 m2 K cp ∧ Low N h h') (fun e => 7 - natOf (e 4))
  ⟨_, 0, five none, updL_self ⟨rfl, rfl, trivial⟩, by omega, ⟨q3, s3 _ _ g1, s3 _ _ g2, fun n n1 n2 => by omega, fun n n1 n2 => by
   have : n = 1 ∨ n = 2 ∨ n = 3 ∨ n = 4 ∨ n = 5 := by omega
   rcases this with rfl | rfl | rfl | rfl | rfl <;> rfl⟩, (s2.trans s3).low⟩ ?_
 clear q3 g1 g2 s3 s2 n3
 rintro e h5 ⟨e0, K, cp, rfl, hK, B, L5⟩
 conv=>whnf
 refine ALoad.one rfl B.str rfl ?_; conv=>whnf
 by_cases c : (K : Int) + 1 ≤ x.size
 ·refine ACmp.yes (c) ?_; conv=>whnf
  refine ALoad.one rfl B.str rfl ?_; conv=>whnf
  have k5 : (K : Int) + 1 ≤ 5 := by omega
  have hcn : cnewOk ((K : Int) + 1) 14 sh0.abs ((K : Int) + 1) = true := by
   have : K = 0 ∨ K = 1 ∨ K = 2 ∨ K = 3 ∨ K = 4 := by omega
   have e := List.all_eq_true.1 new_ok
   rcases this with rfl | rfl | rfl | rfl | rfl
   ·exact e 1 (by simp)
   ·exact e 2 (by simp)
   ·exact e 3 (by simp)
   ·exact e 4 (by simp)
   ·exact e 5 (by simp)
  refine ACalls.mono (New_any' (N + 2 * ((K : Int) + 1).toNat) (by omega) ((K : Int) + 1) 14 (t1 := (0, 0)) (t2 := (0, 0)) (t3 := (0, 0)) ((K : Int) + 1) (sh0_ok h5 _ _ _) (by show 0 ≠ _; omega) (by show 0 ≠ _; omega) (by show 0 ≠ _; omega) (fun e he => (by cases he)) (by omega) (by omega) (by decide) (by decide) (by decide) (by decide)) ?_
  rintro _ h6 (⟨c1, _⟩ | ⟨_, b', rfl, id6, kk6⟩)
  ·rw [hcn] at c1; cases c1
  conv=>whnf
  have p6 := kk6.get (by simp; omega) B.str
  refine ALoad.one rfl p6 rfl ?_; conv=>whnf
  refine ACmp.yes (rfl) ?_; conv=>whnf
  refine AStore.oneN rfl rfl rfl (p6) rfl (netCells x { nx0 m1 m2 with cp := cp }) rfl fun h7 t7 q7 a7 e7 => ?_; conv=>whnf
  refine AIdxA.nat (n := 6) (z := 1) (j := K + 1) (by omega) (by omega) rfl rfl ?_; conv=>whnf
  refine AStore.oneN rfl rfl rfl q7 (by have := core_cell x { nx0 m1 m2 with cp := cp } (n := (K : Int) + 1) (by omega) k5; rw [show 0 + 2 + (K + 1) * 1 = 2 + ((K : Int) + 1).toNat by omega]; exact Nat.ble_eq_true_of_le (List.getElem?_eq_some_iff.1 this).1) (netCells x { nx0 m1 m2 with cp := cp.set ((K : Int) + 1) (some b') }) (by rw [show 0 + 2 + (K + 1) * 1 = 2 + ((K : Int) + 1).toNat by omega]; exact core_set x { nx0 m1 m2 with cp := cp } (n := (K : Int) + 1) (by omega) k5 (some b')) fun h8 t8 q8 a8 e8 => ?_; conv=>whnf
  have mv : ∀ b (t : Tag) y, t ≠ (N, 0) → h6 b = some (t, y) → h8 b = some (t, y) := fun b t y ht e => t8 _ _ _ ht (t7 _ _ _ ht e)
  refine AArith.ok (by omega) (by omega) ((by omega : (K : Int) + 1 + 1 = ((K + 1 : Nat) : Int) + 1)) ?_; conv=>whnf
  refine ⟨⟨_, K + 1, cp.set ((K : Int) + 1) (some b'), updL_self ⟨rfl, rfl, trivial⟩, by omega, ⟨q8, mv _ _ _ (by simp) (kk6.get (by simp; omega) B.c1), mv _ _ _ (by simp) (kk6.get (by simp; omega) B.c2), fun n n1 n2 => ?_, fun n n1 n2 => ?_⟩, ?_⟩, ?_⟩
  ·rw [Fv.get_set _ _ _ _ n1 (by omega)]
   by_cases z : n = (K : Int) + 1
   ·rw [if_pos z]
    refine ⟨b', rfl, ?_⟩
    rw [z]
    exact id6.move fun _ t _ ht e => mv _ _ _ (fun c => by rw [c] at ht; simp only at ht; omega) e
   ·rw [if_neg z]
    obtain ⟨b, hb, id⟩ := B.cores n n1 (by omega)
    exact ⟨b, hb, id.move fun _ t _ ht e => mv _ _ _ (fun c => by rw [c] at ht; simp only at ht; omega) (kk6 _ _ _ (by omega) e)⟩
  ·rw [Fv.get_set _ _ _ _ (by omega) n2, if_neg (by omega)]
   exact B.none n (by omega) n2
  ·exact L5.trans fun b t y ht e => mv _ _ _ (fun c => by rw [c] at ht; simp at ht) (kk6 _ _ _ (by omega) e)
  ·show 7 - (((K + 1 : Nat) : Int) + 1).toNat < 7 - ((K : Int) + 1).toNat
   omega
 ·refine ACmp.no (c) ?_; conv=>whnf
  have hKx : x.size = K := by omega
  refine ⟨p, rfl, ⟨⟨{ nx0 m1 m2 with cp := cp }, ?_⟩, ?_, ?_⟩, by omega, by omega, L5⟩
  ·refine ⟨hN, B.str, by omega, by omega, fun n n1 n2 => ?_, fun n n1 n2 => B.none n (by omega) n2, fun n n1 n2 => ?_, .inl ⟨rfl, rfl, rfl⟩, by rw [hx]; rfl, (fun y hy => by cases hy), by rw [hx]; exact Nat.zero_le _, MapAt.empty B.c1, by rw [hx]; rfl, MapAt.empty B.c2, rfl, by rw [hx]; rfl, (fun y hy => by cases hy)⟩
   ·obtain ⟨b, hb, id⟩ := B.cores n n1 (by omega)
    refine ⟨b, hb, ?_⟩
    rw [hx, (new_get size n1 (by omega)).1]; exact id
   ·have e : (nx0 m1 m2).ke.get n = sh0 := by
     have : n = 1 ∨ n = 2 ∨ n = 3 ∨ n = 4 ∨ n = 5 := by omega
     rcases this with rfl | rfl | rfl | rfl | rfl <;> rfl
    refine ⟨?_, (N + 12, 0), Nat.le_refl _, ?_⟩
    ·show ((nx0 m1 m2).ke.get n).abs = _
     rw [e, hx, (new_get size n1 n2).2]; rfl
    ·show ((nx0 m1 m2).ke.get n).Ok _ _ _ _
     rw [e]; exact sh0_ok _ _ _ _
  ·rw [hx]; exact ⟨_, netI0 size, Int.le_refl _⟩
  ·rw [hx]; exact (by decide : (0 : Int) < 100003)
end Go.Ah
namespace Go.Ah
open Go.Proofs
set_option linter.unusedVariables false
set_option linter.unusedSimpArgs false
set_option maxRecDepth 20000
variable {h h' : Heap} {N p : Nat} {x : NetM} {v : NX} {n : Int} {g : Gh}
def awk : Nat → NetM × Int
  | 0 => ((newNetM 0).rest 40, 0)
  | k + 1 => awakeM1 ((k : Int) + 1) (awk k)
theorem awake_parts : (awk 3).1.fine = true ∧ 1 < (awk 3).2 ∧ ((awk 3).1.cores.get 1).commit = (awk 3).2 ∧ ((awk 3).1.cores.get 2).commit = (awk 3).2 ∧ ((awk 3).1.cores.get 3).commit = (awk 3).2 := by
 have h := awakeM_true
 unfold awakeM at h
 have e : awakeM1 3 (awakeM1 2 (awakeM1 1 ((newNetM 0).rest 40, 0))) = awk 3 := rfl
 rw [e] at h
 generalize awk 3 = r at h ⊢
 simp only [Bool.and_eq_true, decide_eq_true_eq] at h
 exact ⟨h.1.1.1.1, h.1.1.1.2, h.1.1.2, h.1.2, h.2⟩
theorem awk_yes {k : Nat} (c : ((awk k).1.cores.get ((k : Int) + 1)).state = 2) : awk (k + 1) = (((awk k).1.propose ((k : Int) + 1) 1 [120]).rest 6, if ((awk k).1.cores.get ((k : Int) + 1)).proposeE 1 [120] = 0 then ((awk k).1.cores.get ((k : Int) + 1)).log.last.1 + 1 else 0) := if_pos c
theorem awk_no {k : Nat} (c : ¬ ((awk k).1.cores.get ((k : Int) + 1)).state = 2) : awk (k + 1) = awk k := if_neg c
theorem Goes.at {y : NetM} {L d : Int} (k : NetI g x) (hg : g.lim ≤ L) (hd : x.draw < 100003) (gs : Goes g x y d) (m : ∃ v, NetX h N p y v) : NetAt h N p y (L + d) := by
 obtain ⟨g', a, b⟩ := gs.out
 exact ⟨m, ⟨g', a, by omega⟩, by rw [gs.draw]; exact hd⟩
attribute [irreducible] awk
set_option maxHeartbeats 4000000 in
theorem awake_any (h : Heap) (N : Nat) (hN : N ≠ 0) : ACalls PR 15 #[] h (fun r h' => r = .bool true ∧ Low N h h') := by
 obtain ⟨w0, w1, w2, w3, w4⟩ := awake_parts
 have a0 : awk 0 = ((newNetM 0).rest 40, 0) := by unfold awk; rfl
 have ay := @awk_yes
 refine acalls_of mix Tryz.func15 rfl rfl Tryz.ntmps15 Tryz.results15 rfl ?_; conv=>whnf
 refine ACalls.mono (newNet_any h N hN 0) ?_; rintro _ h1 ⟨p, rfl, k1, sz3, sz5, L1⟩; conv=>whnf
 refine ACalls.mono (rest_any (by omega) k1 40 (by omega)) ?_; rintro _ h2 ⟨rfl, k2, sz, L2⟩; conv=>whnf
 have hsz : (newNetM 0).size = 3 := rfl
 rw [hsz] at sz
 refine ALoop.mk (fun e h' => ∃ (e0 : Env) (K : Nat), e = updL 81 e0 [(1, Ptr p), (2, I (awk K).2), (3, I ((K : Int) + 1))] ∧ K ≤ 3 ∧ NetAt h' N p (awk K).1 (5000000 + 800000 * K) ∧ (awk K).1.size = 3 ∧ Low N h h') (fun e => 5 - natOf (e 3))
  ⟨_, 0, updL_self ⟨rfl, by rw [a0]; rfl, rfl, trivial⟩, by omega, by rw [a0]; exact ⟨k2.mem, let ⟨g, a, b⟩ := k2.inv; ⟨g, a, by omega⟩, k2.draw⟩, by rw [a0]; exact sz, L1.trans L2⟩ ?_
 clear k1 k2 L1 L2
 rintro e h3 ⟨e0, K, rfl, hK, k3, s3, L3⟩
 obtain ⟨x, hx⟩ : ∃ x, x = (awk K).1 := ⟨_, rfl⟩
 rw [← hx] at k3 s3
 obtain ⟨⟨v, kv⟩, ⟨g, ig, hg⟩, hd⟩ := k3
 conv=>whnf
 by_cases c : K < 3
 ·refine ACmp.yes ((by omega)) ?_; conv=>whnf
  have n1 : 1 ≤ (K : Int) + 1 := by omega
  have n2 : (K : Int) + 1 ≤ x.size := by omega
  have n5 : (K : Int) + 1 ≤ 5 := by omega
  obtain ⟨b, hb, id⟩ := kv.cores _ n1 n2
  have hcore : (netCells x v)[0 + 2 + (K + 1) * 1]? = some (Ptr b) := by
   have := core_cell x v n1 n5
   rw [hb] at this
   rw [show 0 + 2 + (K + 1) * 1 = 2 + ((K : Int) + 1).toNat by omega]; exact this
  refine AIdxA.nat (n := 6) (z := 1) (j := K + 1) (by omega) (by omega) rfl rfl ?_; conv=>whnf
  refine ALoad.one rfl kv.str hcore ?_; conv=>whnf
  refine ACalls.mono (state_i id) ?_; rintro _ _ ⟨rfl, rfl⟩; conv=>whnf
  by_cases c2 : (x.cores.get ((K : Int) + 1)).state = 2
  ·refine ACmp.yes (c2) ?_; conv=>whnf
   have ey := awk_yes (k := K) (by rw [← hx]; exact c2)
   rw [← hx] at ey
   refine AIdxA.nat (n := 6) (z := 1) (j := K + 1) (by omega) (by omega) rfl rfl ?_; conv=>whnf
   refine ALoad.one rfl kv.str hcore ?_; conv=>whnf
   refine ABuildSl.mkN (0, 1) [.int .u8 120] rfl rfl rfl rfl rfl rfl rfl fun b6 h5 n5' s5 k6 => ?_; conv=>whnf
   refine ⟨_, _, _, _, k6, ?_⟩; conv=>whnf
   refine ⟨_, _, k6, ?_⟩; conv=>whnf
   have q6 : ∀ y, (h5.set b6 ((0, 1), y)) b6 = some ((0, 1), y) := fun y => Heap.set_same _ _ _
   have s6 : ∀ y, Sub h3 (h5.set b6 ((0, 1), y)) := fun y => s5.set n5' _
   have ig10 : g.lim + 10 ≤ 100000000 := by omega
   have id6 : ∀ y, PIdle (h5.set b6 ((0, 1), y)) b (N + 2 * ((K : Int) + 1).toNat) (x.cores.get ((K : Int) + 1)) := fun y => id.move fun _ _ _ _ e => s6 y _ _ e
   refine ACalls.mono (propose_net (N + 1) (by omega) (id6 _) (ig.cok n1 n2) 1 (data := [120]) (t := (0, 1)) ⟨rfl, Nat.le_refl 1, .inr ⟨b6, 0, _, _, _, rfl, q6 _, rfl⟩⟩ (fun z hz => by rw [List.mem_singleton.1 hz]; omega)) ?_
   have hx6 : ∃ h6 : Heap, h6 = h5.set b6 ((0, 1), freezeObj ⟨b6, 1, none⟩ 1 (.cells #[.int .u8 120] 5 (0, 0))) := ⟨_, rfl⟩
   rintro _ h7 (⟨er, rfl, s7⟩ | ⟨ez, u, rfl, ox, rfl, ok7, id7, kk7⟩)
   ·conv=>whnf
    refine AAlloc.mkN (0, 1) (outCells out0 ox0) rfl fun b8 h8 n8 s8 k8 => ?_; conv=>whnf
    refine AStore.aggN rfl rfl rfl (k8) rfl (outCells out0 ox0) rfl fun h9 t9 k9 a9 e9 => ?_; conv=>whnf
    refine ALoad.agg rfl k9 rfl rfl ?_; conv=>whnf
    refine ACalls.mono (out_no h9 p ((K : Int) + 1) er) ?_
    rintro _ h10 ⟨rfl, s10⟩
    conv=>whnf
    have s9 : Sub h7 h9 := a9 h7 s8 n8
    have e : x.propose ((K : Int) + 1) 1 [120] = x := by unfold NetM.propose; rw [if_neg er]
    rw [e, if_neg er] at ey
    have K10 : NetAt h10 N p x (5000000 + 800000 * K) := ⟨⟨v, ((kv.sub (s6 _)).sub s7).sub (s9.trans s10)⟩, ⟨g, ig, hg⟩, hd⟩
    have L10 : Low N h h10 := L3.trans ((s6 _).trans (s7.trans (s9.trans s10))).low
    refine ACalls.mono (rest_any (by omega) K10 6 (by omega)) ?_
    rintro _ h11 ⟨rfl, k11, s11, L11⟩
    obtain ⟨z, hz⟩ : ∃ z, z = x.rest 6 := ⟨_, rfl⟩
    rw [← hz] at ey k11 s11
    clear hz
    have f1 : (awk (K + 1)).1 = z := congrArg Prod.fst ey
    have f2 : (awk (K + 1)).2 = 0 := congrArg Prod.snd ey
    have k12 : NetAt h11 N p z (5000000 + 800000 * ((K + 1 : Nat) : Int)) := ⟨k11.mem, let ⟨g, a, b⟩ := k11.inv; ⟨g, a, by omega⟩, k11.draw⟩
    conv=>whnf
    refine AArith.ok (by omega) (by omega) ((by omega : (K : Int) + 1 + 1 = ((K + 1 : Nat) : Int) + 1)) ?_; conv=>whnf
    refine ⟨⟨_, K + 1, updL_self ⟨rfl, by rw [f2]; rfl, rfl, trivial⟩, by omega, by rw [f1]; exact k12, by rw [f1]; exact s11.trans s3, L10.trans L11⟩, ?_⟩
    show 5 - (((K + 1 : Nat) : Int) + 1).toNat < 5 - ((K : Int) + 1).toNat
    omega
   ·conv=>whnf
    refine AAlloc.mkN (0, 1) (outCells out0 ox0) rfl fun b8 h8 n8 s8 k8 => ?_; conv=>whnf
    refine AStore.aggN rfl rfl rfl (k8) rfl (outCells ((x.cores.get ((K : Int) + 1)).propose 1 [120]).done.2 ox) rfl fun h9 t9 k9 a9 e9 => ?_; conv=>whnf
    refine ALoad.agg rfl k9 rfl rfl ?_; conv=>whnf
    have s9 : Sub h7 h9 := a9 h7 s8 n8
    have hb120 : ∀ z ∈ [(120 : Int)], 0 ≤ z ∧ z < 256 := fun z hz => by rw [List.mem_singleton.1 hz]; omega
    have kp := ig.keepPropose n1 n2 (kind := 1) (data := [120]) ez hb120 (fun h => by omega) ig10
    refine ACalls.mono (out_call (kv.sub (s6 _)) n1 n2 hb kk7 id7 ok7 kp s9) ?_
    rintro _ h10 ⟨rfl, k10, L10'⟩
    conv=>whnf
    have e : x.propose ((K : Int) + 1) 1 [120] = x.out ((K : Int) + 1) ((x.cores.get ((K : Int) + 1)).propose 1 [120]) := by unfold NetM.propose; rw [if_pos ez]
    have gs := ig.propose n1 n2 (kind := 1) (data := [120]) hb120 (fun h => by omega) ig10
    rw [if_pos ez] at ey
    rw [e] at gs ey
    have K10 := Goes.at ig hg hd gs k10
    have SZ := gs.size.trans s3
    have L10 : Low N h h10 := L3.trans ((s6 _).low.trans L10')
    obtain ⟨y, hy⟩ : ∃ y, y = x.out ((K : Int) + 1) ((x.cores.get ((K : Int) + 1)).propose 1 [120]) := ⟨_, rfl⟩
    rw [← hy] at ey K10 SZ
    clear hy gs k10
    refine ACalls.mono (rest_any (by omega) K10 6 (by omega)) ?_
    rintro _ h11 ⟨rfl, k11, s11, L11⟩
    obtain ⟨z, hz⟩ : ∃ z, z = y.rest 6 := ⟨_, rfl⟩
    rw [← hz] at ey k11 s11
    clear hz
    have f1 : (awk (K + 1)).1 = z := congrArg Prod.fst ey
    have f2 : (awk (K + 1)).2 = ((x.cores.get ((K : Int) + 1)).log.last.1 + 1) := congrArg Prod.snd ey
    have k12 : NetAt h11 N p z (5000000 + 800000 * ((K + 1 : Nat) : Int)) := ⟨k11.mem, let ⟨g, a, b⟩ := k11.inv; ⟨g, a, by omega⟩, k11.draw⟩
    conv=>whnf
    refine AArith.ok (by omega) (by omega) ((by omega : (K : Int) + 1 + 1 = ((K + 1 : Nat) : Int) + 1)) ?_; conv=>whnf
    refine ⟨⟨_, K + 1, updL_self ⟨rfl, by rw [f2]; rfl, rfl, trivial⟩, by omega, by rw [f1]; exact k12, by rw [f1]; exact s11.trans SZ, L10.trans L11⟩, ?_⟩
    show 5 - (((K + 1 : Nat) : Int) + 1).toNat < 5 - ((K : Int) + 1).toNat
    omega
  ·refine ACmp.no (c2) ?_; conv=>whnf
   have ey := awk_no (k := K) (by rw [← hx]; exact c2)
   refine AArith.ok (by omega) (by omega) ((by omega : (K : Int) + 1 + 1 = ((K + 1 : Nat) : Int) + 1)) ?_; conv=>whnf
   refine ⟨⟨_, K + 1, updL_self ⟨rfl, by rw [ey]; rfl, rfl, trivial⟩, by omega, by rw [ey, ← hx]; exact ⟨⟨v, kv⟩, ⟨g, ig, by omega⟩, hd⟩, by rw [ey, ← hx]; exact s3, L3⟩, ?_⟩
   show 5 - (((K + 1 : Nat) : Int) + 1).toNat < 5 - ((K : Int) + 1).toNat
   omega
 ·refine ACmp.no ((by omega)) ?_; conv=>whnf
  obtain rfl : K = 3 := by omega
  have core : ∀ (m : Nat) (n : Int), n = m → 1 ≤ n → n ≤ 3 → ∃ b, (netCells x v)[0 + 2 + m * 1]? = some (Ptr b) ∧ PIdle h3 b (N + 2 * n.toNat) (x.cores.get n) := fun m n hm n1 n3 => by
   obtain ⟨b, hb, id⟩ := kv.cores n n1 (by omega)
   have := core_cell x v n1 (show n ≤ 5 by omega)
   rw [hb] at this
   exact ⟨b, by rw [show 0 + 2 + m * 1 = 2 + n.toNat by omega]; exact this, id⟩
  obtain ⟨b1, c1, i1⟩ := core 1 1 rfl (by omega) (by omega)
  obtain ⟨b2, c2, i2⟩ := core 2 2 rfl (by omega) (by omega)
  obtain ⟨b3, c3, i3⟩ := core 3 3 rfl (by omega) (by omega)
  rw [← hx] at w2 w3 w4
  refine ALoad.one rfl kv.str rfl ?_; conv=>whnf
  refine ACmp.yes (w1) ?_; conv=>whnf
  refine AIdxA.nat (n := 6) (z := 1) (j := 1) rfl (by omega) rfl rfl ?_; conv=>whnf
  refine ALoad.one rfl kv.str c1 ?_; conv=>whnf
  refine ACalls.mono (commit_i i1) ?_; rintro _ _ ⟨rfl, rfl⟩; conv=>whnf
  refine ACmp.yes (w2) ?_; conv=>whnf
  refine AIdxA.nat (n := 6) (z := 1) (j := 2) rfl (by omega) rfl rfl ?_; conv=>whnf
  refine ALoad.one rfl kv.str c2 ?_; conv=>whnf
  refine ACalls.mono (commit_i i2) ?_; rintro _ _ ⟨rfl, rfl⟩; conv=>whnf
  refine ACmp.yes (w3) ?_; conv=>whnf
  refine AIdxA.nat (n := 6) (z := 1) (j := 3) rfl (by omega) rfl rfl ?_; conv=>whnf
  refine ALoad.one rfl kv.str c3 ?_; conv=>whnf
  refine ACalls.mono (commit_i i3) ?_; rintro _ _ ⟨rfl, rfl⟩; conv=>whnf
  refine ACmp.yes (w4) ?_; conv=>whnf
  exact ⟨rfl, L3⟩
end Go.Ah
namespace Go.Ah
open Go.Proofs
set_option linter.unusedVariables false
set_option linter.unusedSimpArgs false
set_option maxRecDepth 20000
section
variable {H : Type} {enc : TypeId × Value → H} {w : World}
theorem steps_list : ∀ {es : List (List Value)}, (∀ x ∈ es, x.length = 3 ∧ Rd enc PR w (QW PR) 46 x) → ∃ ps : List StepH, es = ps.map StepH.cells
 | [], _ => ⟨[], rfl⟩
 | x :: es, hx => by
  obtain ⟨ps, e⟩ := steps_list (es := es) fun y hy => hx y (by simp [hy])
  obtain ⟨hx2, r⟩ := hx x (by simp)
  obtain ⟨_, hf⟩ := r.struct QW.hered Tryz.underlying46
  have f0 := hf 0 _ rfl
  have f1 := hf 1 _ rfl
  have f2 := hf 2 _ rfl
  match x, hx2 with
  | [u0, u1, u2], _ =>
   have f0 : Rd enc PR w (QW PR) 3 [u0] := f0
   have f1 : Rd enc PR w (QW PR) 3 [u1] := f1
   have f2 : Rd enc PR w (QW PR) 3 [u2] := f2
   obtain ⟨k0, e0, _⟩ := f0.int Tryz.underlying3
   obtain ⟨k1, e1, _⟩ := f1.int Tryz.underlying3
   obtain ⟨k2, e2, _⟩ := f2.int Tryz.underlying3
   cases e0; cases e1; cases e2
   exact ⟨⟨k0, k1, k2⟩ :: ps, by rw [e]; rfl⟩
theorem steps_of {cs : List Value} (r : Rd enc PR w (QW PR) 22 cs) : ∃ (a : Option Addr) (n c : Nat) (ps : List StepH), cs = [.slice a n c] ∧ Sl (heapOf w) (0, 0) a n c 3 (ps.map StepH.cells).flatten ∧ ps.length = n ∧ n ≤ 9223372036854775807 := by
 obtain ⟨a, n, c, es, rfl, hn, hm, hl, s, hx, _⟩ := r.slice QW.hered Tryz.underlying22 (by kernel_rfl : PR.cellsOf 46 = 3) (Nat.succ_pos _)
 obtain ⟨ps, rfl⟩ := steps_list (enc := enc) (w := w) hx
 exact ⟨a, n, c, ps, rfl, s, by simpa using hl, by unfold maxLen at hm; omega⟩
end
variable {h h' : Heap} {N p : Nat} {x : NetM} {v : NX} {n : Int} {g : Gh}
theorem low_stays (s : Low 1 h h') : Stays h h' := fun b x e => s _ _ _ (by show 0 < 1; omega) e
theorem step_rz (ps : List StepH) : ∀ e ∈ ps.map StepH.cells, e.length = 3 := by intro e he; obtain ⟨x, _, rfl⟩ := List.mem_map.1 he; rfl
set_option maxHeartbeats 4000000 in
theorem Crews_law (h : Heap) (size : Int) {la : Option Addr} {ln lc : Nat} {ps : List StepH} (sl : Sl h (0, 0) la ln lc 3 (ps.map StepH.cells).flatten) (hpl : ps.length = ln) (hln : ln ≤ 9223372036854775807) :
  ACalls PR 5 #[I size, .slice la ln lc] h (fun v h' => v = .bool true ∧ Stays h h') := by
 refine acalls_of mix Tryz.func5 rfl rfl Tryz.ntmps5 Tryz.results5 rfl ?_; conv=>whnf
 refine ACalls.mono (awake_any h 1 (by omega)) ?_
 rintro _ h1 ⟨rfl, L1⟩
 conv=>whnf
 refine ACalls.mono (newNet_any h1 1 (by omega) size) ?_; rintro _ h2 ⟨p, rfl, k2, sz3, sz5, L2⟩; conv=>whnf
 refine ALoop.mk (fun e h' => ∃ (e0 : Env) (i : Nat) (x : NetM), e = updL 37 e0 [(1, .slice la ln lc), (5, Ptr p), (6, I i)] ∧ i ≤ ln ∧ i ≤ 400 ∧ NetAt h' 1 p x (10 + 60 * i) ∧ Stays h h') (fun e => ln - natOf (e 6))
  ⟨_, 0, newNetM size, updL_self ⟨rfl, rfl, rfl, trivial⟩, by omega, by omega, by simpa using k2, low_stays (L1.trans L2)⟩ ?_
 clear k2 L1 L2
 rintro e h3 ⟨e0, i, x, rfl, hi, hi4, k3, st⟩
 obtain ⟨v, kv⟩ := k3.mem
 conv=>whnf
 by_cases c : i < ln
 ·refine ACmp.yes ((by omega)) ?_; conv=>whnf
  by_cases c4 : i < 400
  ·refine ACmp.yes ((by omega)) ?_; conv=>whnf
   refine ALoad.one rfl kv.str rfl ?_; conv=>whnf
   have hx : (ps.map StepH.cells)[i]? = some (ps[i]'(by omega)).cells := by rw [List.getElem?_map, List.getElem?_eq_getElem (by omega)]; rfl
   obtain ⟨b, off, l, E', fz, rfl, hb, hp, _⟩ := (sl.stays st).elem (step_rz ps) (by simp [hpl]) (by omega) (i := i) (e := (ps[i]'(by omega)).cells) hx
   refine AIdx.nat (z := 3) (j := i) rfl c rfl rfl ?_; conv=>whnf
   refine ALoad.agg rfl hb hp rfl ?_; conv=>whnf
   refine ACalls.mono (step_at k3 (by omega) (ps[i]'(by omega))) ?_
   rintro _ h4 ⟨rfl, k4, _, L4⟩
   conv=>whnf
   refine AArith.ok (by omega) (by omega) ((by omega : (i : Int) + 1 = ((i + 1 : Nat) : Int))) ?_; conv=>whnf
   refine ⟨⟨_, i + 1, _, updL_self ⟨rfl, rfl, rfl, trivial⟩, by omega, by omega, ⟨k4.mem, let ⟨g, a, b⟩ := k4.inv; ⟨g, a, by omega⟩, k4.draw⟩, st.trans (low_stays L4)⟩, ?_⟩
   show ln - (i + 1) < ln - i
   omega
  ·refine ACmp.no ((by omega)) ?_; conv=>whnf
   refine ALoad.one rfl kv.str rfl ?_; conv=>whnf
   exact ⟨rfl, st⟩
 ·refine ACmp.no ((by omega)) ?_; conv=>whnf
  refine ALoad.one rfl kv.str rfl ?_; conv=>whnf
  exact ⟨rfl, st⟩
end Go.Ah
namespace Go.Ah
open Go.Proofs
set_option linter.unusedVariables false
set_option linter.unusedSimpArgs false
variable {g : Gh} {n : Int} {x : NetM}
theorem Chosen.to_led (w : Wld g) {T u : Int} {i : Nat} (hT : g.H.led T ≠ 0) (hu : u ≤ T) (c : Chosen g.H u i) : Pre i (g.H.ll u) (g.H.ll T) := by
 by_cases e : u = T
 ·rw [e]; rw [e] at c; exact Pre.refl c.own.le
 ·have p := chosen_in w.ok hT (by omega) c
  exact p.trans ((w.ok.ini T hT).le p.b)
theorem NetI.topHas (k : NetI g x) {t : Int} (t1 : 1 ≤ t) (t2 : t ≤ x.size) (h2 : (x.cores.get t).state = 2) (hm : ∀ n, 1 ≤ n → n ≤ x.size → (x.cores.get n).term ≤ (x.cores.get t).term) :
  (∀ n, 1 ≤ n → n ≤ x.size → (x.cores.get n).commit ≤ (x.kept.get t).snap.index + (x.kept.get t).entries.length) ∧
  ∀ e ∈ (x.kept.get t).entries, ∀ y, alook e.2.1 x.chosen = some y → y = e := by
 obtain ⟨A, id⟩ := k.srv t t1 t2
 have sv := id.srv
 have hke : (x.kept.get t).entries = (x.cores.get t).log.es := by rw [id.kept]; rfl
 have hks : (x.kept.get t).snap.index = (x.cores.get t).log.bi := by rw [id.kept]; exact sv.si
 have hlen := sv.rep.len
 obtain ⟨l1, l2, _⟩ := sv.lead h2
 have hl0 : g.H.led (x.cores.get t).term ≠ 0 := by rw [l1]; omega
 have com : ∀ T c (B : List Abs), T ≤ (x.cores.get t).term → Com g.H T c B → c = 0 ∨ Pre c B A := fun T c B hT h => h.imp (fun z => z) fun ⟨u, i, ch, hu, hi, p⟩ => by
  have q := ch.to_led k.w hl0 (show u ≤ (x.cores.get t).term by omega)
  rw [l2] at q
  exact p.trans (q.le hi)
 refine ⟨fun n n1 n2 => ?_, fun e he y hy => ?_⟩
 ·obtain ⟨B, idn⟩ := k.srv n n1 n2
  have svn := idn.srv
  have h0 := svn.rep.lo
  have hc0 := svn.c0
  have := com _ _ _ (hm n n1 n2) svn.com
  rw [hks, hke, hlen]
  rcases this with h | h
  ·omega
  ·have := h.b; omega
 ·rw [hke, sv.rep.es] at he
  obtain ⟨j, hj⟩ := List.getElem?_of_mem he
  rw [List.getElem?_drop] at hj
  have hx := sv.rep.ix _ e hj
  obtain ⟨c1, m, T, d, B, m1, m2, m3, m4, m5, m6, m7⟩ := k.chosen _ _ hy
  obtain ⟨Bm, idm⟩ := k.srv m m1 (by rw [← k.sz]; exact m2)
  have htm := idm.srv.tm
  have := hm m m1 (by rw [← k.sz]; exact m2)
  rcases com T d B (by omega) m4 with h | h
  ·omega
  ·have e1 := h.c (e.2.1.toNat - 1) (by omega)
   rw [m7, show e.2.1.toNat - 1 = (x.cores.get t).log.bi.toNat + j by omega, hj] at e1
   exact Option.some.inj e1
end Go.Ah
namespace Go.Ah
open Go.Proofs
set_option linter.unusedVariables false
set_option linter.unusedSimpArgs false
set_option maxRecDepth 20000
variable {h h' : Heap} {N p : Nat} {x : NetM} {v : NX} {n : Int} {g : Gh}
theorem NetX.coreIx (k : NetX h N p x v) {m : Nat} (m1 : 1 ≤ m) (m2 : (m : Int) ≤ x.size) : ∃ b, (netCells x v)[0 + 2 + m * 1]? = some (Ptr b) ∧ PIdle h b (N + 2 * m) (x.cores.get m) := by
 have hs5 := k.sz5
 obtain ⟨b, hb, id⟩ := k.cores m (by omega) m2
 have := core_cell x v (n := (m : Int)) (by omega) (by omega)
 rw [hb] at this
 exact ⟨b, by rw [show 0 + 2 + m * 1 = 2 + (m : Int).toNat by omega]; exact this, by rw [show N + 2 * m = N + 2 * (m : Int).toNat by omega]; exact id⟩
set_option maxHeartbeats 8000000 in
theorem Kept_law (h : Heap) (size : Int) {la : Option Addr} {ln lc : Nat} {ps : List StepH} (sl : Sl h (0, 0) la ln lc 3 (ps.map StepH.cells).flatten) (hpl : ps.length = ln) (hln : ln ≤ 9223372036854775807) :
  ACalls PR 6 #[I size, .slice la ln lc] h (fun v h' => v = .bool true ∧ Stays h h') := by
 refine acalls_of mix Tryz.func6 rfl rfl Tryz.ntmps6 Tryz.results6 rfl ?_; conv=>whnf
 refine ACalls.mono (awake_any h 1 (by omega)) ?_
 rintro _ h1 ⟨rfl, L1⟩
 conv=>whnf
 refine ACalls.mono (newNet_any h1 1 (by omega) size) ?_; rintro _ h2 ⟨p, rfl, k2, sz3, sz5, L2⟩; conv=>whnf
 refine ALoop.mk (fun e h' => ∃ (e0 : Env) (i : Nat) (x : NetM), e = updL 169 e0 [(1, .slice la ln lc), (5, Ptr p), (6, I i)] ∧ i ≤ ln ∧ i ≤ 300 ∧ NetAt h' 1 p x (10 + 60 * i) ∧ Stays h h') (fun e => ln - natOf (e 6))
  ⟨_, 0, newNetM size, updL_self ⟨rfl, rfl, rfl, trivial⟩, by omega, by omega, by simpa using k2, low_stays (L1.trans L2)⟩ ?_
 clear k2 L1 L2
 rintro e h3 ⟨e0, i, x, rfl, hi, hi4, k3, st⟩
 obtain ⟨v, kv⟩ := k3.mem
 conv=>whnf
 by_cases c : i < ln
 ·refine ACmp.yes ((by omega)) ?_; conv=>whnf
  by_cases c4 : i < 300
  ·refine ACmp.yes ((by omega)) ?_; conv=>whnf
   refine ALoad.one rfl kv.str rfl ?_; conv=>whnf
   have hx : (ps.map StepH.cells)[i]? = some (ps[i]'(by omega)).cells := by rw [List.getElem?_map, List.getElem?_eq_getElem (by omega)]; rfl
   obtain ⟨b, off, l, E', fz, rfl, hb, hp, hg⟩ := (sl.stays st).elem (step_rz ps) (by simp [hpl]) (by omega) (i := i) (e := (ps[i]'(by omega)).cells) hx
   refine AIdx.nat (z := 3) (j := i) rfl c rfl rfl ?_; conv=>whnf
   refine ALoad.one rfl hb (hg 0 (by omega)) ?_; conv=>whnf
   refine ACalls.mono (bring_any (ps[i]'(by omega)).op 10 (by omega) h3) ?_; rintro _ _ ⟨rfl, rfl⟩; conv=>whnf
   by_cases c6 : bring (ps[i]'(by omega)).op 10 = 6
   ·rw [c6]
    conv=>whnf
    refine ACmp.no (by simp) ?_; conv=>whnf
    have k5 : NetAt h3 1 p x (10 + 60 * (i + 1 : Nat)) := ⟨k3.mem, let ⟨g, a, b⟩ := k3.inv; ⟨g, a, by omega⟩, k3.draw⟩
    obtain ⟨v5, kv5⟩ := k5.mem
    obtain ⟨g5, ig5, hg5⟩ := k5.inv
    have hs5 := kv5.sz5
    have hs3 := kv5.sz3
    refine ALoop.mk (fun e h' => ∃ (e0 : Env) (K : Nat) (M : Int), e = updL 169 e0 [(1, .slice (some ⟨b, off, none⟩) ln lc), (5, Ptr p), (6, I i), (7, I M), (8, I ((K : Int) + 1))] ∧ (K : Int) ≤ x.size ∧ h3 = h' ∧ (M = 0 ∨ ∃ n, 1 ≤ n ∧ n ≤ x.size ∧ (x.cores.get n).commit = M)) (fun e => 7 - natOf (e 8))
     ⟨_, 0, 0, updL_self ⟨rfl, rfl, rfl, rfl, rfl, trivial⟩, by omega, rfl, .inl rfl⟩ ?_
    rintro e h6 ⟨e1, K, M, rfl, hK, rfl, hM⟩
    conv=>whnf
    refine ALoad.one rfl kv5.str rfl ?_; conv=>whnf
    by_cases cK : (K : Int) + 1 ≤ x.size
    ·refine ACmp.yes (cK) ?_; conv=>whnf
     obtain ⟨b, hb, id⟩ := kv5.coreIx (m := K + 1) (by omega) (by omega)
     rw [show ((K + 1 : Nat) : Int) = (K : Int) + 1 by omega] at id
     refine AIdxA.nat (n := 6) (z := 1) (j := K + 1) (by omega) (by omega) rfl rfl ?_; conv=>whnf
     refine ALoad.one rfl kv5.str hb ?_; conv=>whnf
     refine ACalls.mono (commit_i id) ?_; rintro _ _ ⟨rfl, rfl⟩; conv=>whnf
     obtain ⟨M2, hM2⟩ : ∃ M2, M2 = if (x.cores.get ((K : Int) + 1)).commit > M then (x.cores.get ((K : Int) + 1)).commit else M := ⟨_, rfl⟩
     refine AInt.as (hM2.symm) ?_; conv=>whnf
     refine AArith.ok (by omega) (by omega) ((by omega : (K : Int) + 1 + 1 = ((K + 1 : Nat) : Int) + 1)) ?_; conv=>whnf
     refine ⟨⟨_, K + 1, M2, updL_self ⟨rfl, rfl, rfl, rfl, rfl, trivial⟩, by omega, rfl, ?_⟩, ?_⟩
     ·rw [hM2]
      split
      ·exact .inr ⟨_, by omega, cK, rfl⟩
      ·exact hM
     ·show 7 - (((K + 1 : Nat) : Int) + 1).toNat < 7 - ((K : Int) + 1).toNat
      omega
    ·refine ACmp.no (cK) ?_; conv=>whnf
     refine ALoop.mk (fun e h' => ∃ (e0 : Env) (K : Nat) (top tm : Int), e = updL 169 e0 [(1, .slice (some ⟨b, off, none⟩) ln lc), (5, Ptr p), (6, I i), (7, I M), (9, I top), (10, I tm), (11, I ((K : Int) + 1))] ∧ (K : Int) ≤ x.size ∧ h3 = h' ∧
       (∀ n : Int, 1 ≤ n → n ≤ (K : Int) → (x.cores.get n).term ≤ tm) ∧ (top = 0 ∨ (1 ≤ top ∧ top ≤ K ∧ (x.cores.get top).state = 2 ∧ (x.cores.get top).term = tm))) (fun e => 7 - natOf (e 11))
      ⟨_, 0, 0, 0, updL_self ⟨rfl, rfl, rfl, rfl, rfl, rfl, rfl, trivial⟩, by omega, rfl, fun n n1 n2 => by omega, .inl rfl⟩ ?_
     rintro e h7 ⟨e2, K2, top, tm, rfl, hK2, rfl, hT, hP⟩
     conv=>whnf
     refine ALoad.one rfl kv5.str rfl ?_; conv=>whnf
     by_cases cK2 : (K2 : Int) + 1 ≤ x.size
     ·refine ACmp.yes (cK2) ?_; conv=>whnf
      obtain ⟨b, hb, id⟩ := kv5.coreIx (m := K2 + 1) (by omega) (by omega)
      rw [show ((K2 + 1 : Nat) : Int) = (K2 : Int) + 1 by omega] at id
      refine AIdxA.nat (n := 6) (z := 1) (j := K2 + 1) (by omega) (by omega) rfl rfl ?_; conv=>whnf
      refine ALoad.one rfl kv5.str hb ?_; conv=>whnf
      refine ACalls.mono (term_i id) ?_; rintro _ _ ⟨rfl, rfl⟩; conv=>whnf
      by_cases cg : (x.cores.get ((K2 : Int) + 1)).term > tm
      ·refine ACmp.yes (cg) ?_; conv=>whnf
       refine AIdxA.nat (n := 6) (z := 1) (j := K2 + 1) (by omega) (by omega) rfl rfl ?_; conv=>whnf
       refine ALoad.one rfl kv5.str hb ?_; conv=>whnf
       refine ACalls.mono (term_i id) ?_; rintro _ _ ⟨rfl, rfl⟩; conv=>whnf
       have hT2 : ∀ n : Int, 1 ≤ n → n ≤ ((K2 + 1 : Nat) : Int) → (x.cores.get n).term ≤ (x.cores.get ((K2 : Int) + 1)).term := fun n n1 n2 => by
        by_cases z : n = (K2 : Int) + 1
        ·rw [z]; exact Int.le_refl _
        ·have := hT n n1 (by omega); omega
       refine AIdxA.nat (n := 6) (z := 1) (j := K2 + 1) (by omega) (by omega) rfl rfl ?_; conv=>whnf
       refine ALoad.one rfl kv5.str hb ?_; conv=>whnf
       refine ACalls.mono (state_i id) ?_; rintro _ _ ⟨rfl, rfl⟩; conv=>whnf
       by_cases cs : (x.cores.get ((K2 : Int) + 1)).state = 2
       ·refine ACmp.yes (cs) ?_; conv=>whnf
        refine AIdxA.nat (n := 6) (z := 1) (j := K2 + 1) (by omega) (by omega) rfl rfl ?_; conv=>whnf
        refine ALoad.one rfl kv5.str hb ?_; conv=>whnf
        refine ACalls.mono (term_i id) ?_; rintro _ _ ⟨rfl, rfl⟩; conv=>whnf
        by_cases ct : (x.cores.get ((K2 : Int) + 1)).term = (x.cores.get ((K2 : Int) + 1)).term
        ·refine ACmp.yes (ct) ?_; conv=>whnf
         refine AArith.ok (by omega) (by omega) ((by omega : (K2 : Int) + 1 + 1 = ((K2 + 1 : Nat) : Int) + 1)) ?_; conv=>whnf
         refine ⟨⟨_, K2 + 1, _, _, updL_self ⟨rfl, rfl, rfl, rfl, rfl, rfl, rfl, trivial⟩, by omega, rfl, hT2, .inr ⟨by omega, by omega, cs, ct⟩⟩, ?_⟩
         show 7 - (((K2 + 1 : Nat) : Int) + 1).toNat < 7 - ((K2 : Int) + 1).toNat
         omega
        ·refine ACmp.no (ct) ?_; conv=>whnf
         refine AArith.ok (by omega) (by omega) ((by omega : (K2 : Int) + 1 + 1 = ((K2 + 1 : Nat) : Int) + 1)) ?_; conv=>whnf
         refine ⟨⟨_, K2 + 1, _, _, updL_self ⟨rfl, rfl, rfl, rfl, rfl, rfl, rfl, trivial⟩, by omega, rfl, hT2, (.inl rfl)⟩, ?_⟩
         show 7 - (((K2 + 1 : Nat) : Int) + 1).toNat < 7 - ((K2 : Int) + 1).toNat
         omega
       ·refine ACmp.no (cs) ?_; conv=>whnf
        refine AArith.ok (by omega) (by omega) ((by omega : (K2 : Int) + 1 + 1 = ((K2 + 1 : Nat) : Int) + 1)) ?_; conv=>whnf
        refine ⟨⟨_, K2 + 1, _, _, updL_self ⟨rfl, rfl, rfl, rfl, rfl, rfl, rfl, trivial⟩, by omega, rfl, hT2, (.inl rfl)⟩, ?_⟩
        show 7 - (((K2 + 1 : Nat) : Int) + 1).toNat < 7 - ((K2 : Int) + 1).toNat
        omega
      ·refine ACmp.no (cg) ?_; conv=>whnf
       have hT2 : ∀ n : Int, 1 ≤ n → n ≤ ((K2 + 1 : Nat) : Int) → (x.cores.get n).term ≤ tm := fun n n1 n2 => by
        by_cases z : n = (K2 : Int) + 1
        ·rw [z]; omega
        ·exact hT n n1 (by omega)
       have hP2 : top = 0 ∨ (1 ≤ top ∧ top ≤ ((K2 + 1 : Nat) : Int) ∧ (x.cores.get top).state = 2 ∧ (x.cores.get top).term = tm) := hP.imp (fun z => z) fun ⟨a, b, c⟩ => ⟨a, by omega, c⟩
       refine AIdxA.nat (n := 6) (z := 1) (j := K2 + 1) (by omega) (by omega) rfl rfl ?_; conv=>whnf
       refine ALoad.one rfl kv5.str hb ?_; conv=>whnf
       refine ACalls.mono (state_i id) ?_; rintro _ _ ⟨rfl, rfl⟩; conv=>whnf
       by_cases cs : (x.cores.get ((K2 : Int) + 1)).state = 2
       ·refine ACmp.yes (cs) ?_; conv=>whnf
        refine AIdxA.nat (n := 6) (z := 1) (j := K2 + 1) (by omega) (by omega) rfl rfl ?_; conv=>whnf
        refine ALoad.one rfl kv5.str hb ?_; conv=>whnf
        refine ACalls.mono (term_i id) ?_; rintro _ _ ⟨rfl, rfl⟩; conv=>whnf
        by_cases ct : (x.cores.get ((K2 : Int) + 1)).term = tm
        ·refine ACmp.yes (ct) ?_; conv=>whnf
         refine AArith.ok (by omega) (by omega) ((by omega : (K2 : Int) + 1 + 1 = ((K2 + 1 : Nat) : Int) + 1)) ?_; conv=>whnf
         refine ⟨⟨_, K2 + 1, _, _, updL_self ⟨rfl, rfl, rfl, rfl, rfl, rfl, rfl, trivial⟩, by omega, rfl, hT2, .inr ⟨by omega, by omega, cs, ct⟩⟩, ?_⟩
         show 7 - (((K2 + 1 : Nat) : Int) + 1).toNat < 7 - ((K2 : Int) + 1).toNat
         omega
        ·refine ACmp.no (ct) ?_; conv=>whnf
         refine AArith.ok (by omega) (by omega) ((by omega : (K2 : Int) + 1 + 1 = ((K2 + 1 : Nat) : Int) + 1)) ?_; conv=>whnf
         refine ⟨⟨_, K2 + 1, _, _, updL_self ⟨rfl, rfl, rfl, rfl, rfl, rfl, rfl, trivial⟩, by omega, rfl, hT2, hP2⟩, ?_⟩
         show 7 - (((K2 + 1 : Nat) : Int) + 1).toNat < 7 - ((K2 : Int) + 1).toNat
         omega
       ·refine ACmp.no (cs) ?_; conv=>whnf
        refine AArith.ok (by omega) (by omega) ((by omega : (K2 : Int) + 1 + 1 = ((K2 + 1 : Nat) : Int) + 1)) ?_; conv=>whnf
        refine ⟨⟨_, K2 + 1, _, _, updL_self ⟨rfl, rfl, rfl, rfl, rfl, rfl, rfl, trivial⟩, by omega, rfl, hT2, hP2⟩, ?_⟩
        show 7 - (((K2 + 1 : Nat) : Int) + 1).toNat < 7 - ((K2 : Int) + 1).toNat
        omega
     ·refine ACmp.no (cK2) ?_; conv=>whnf
      by_cases ct0 : top = 0
      ·refine ACmp.yes (ct0) ?_; conv=>whnf
       refine AArith.ok (by omega) (by omega) ((by omega : (i : Int) + 1 = ((i + 1 : Nat) : Int))) ?_; conv=>whnf
       refine ⟨⟨_, i + 1, _, updL_self ⟨rfl, rfl, rfl, trivial⟩, by omega, by omega, k5, st⟩, ?_⟩
       show ln - (i + 1) < ln - i
       omega
      refine ACmp.no (ct0) ?_; conv=>whnf
      obtain ⟨p1, p2, p3, p4⟩ : 1 ≤ top ∧ top ≤ x.size ∧ (x.cores.get top).state = 2 ∧ (x.cores.get top).term = tm := by
       rcases hP with z | ⟨a, b, c⟩
       ·exact absurd z ct0
       ·exact ⟨a, by omega, c⟩
      obtain ⟨hc, hl⟩ := ig5.topHas p1 p2 p3 fun n n1 n2 => by rw [p4]; exact hT n n1 (by omega)
      obtain ⟨m, hm⟩ : ∃ m : Nat, top = m := ⟨top.toNat, by omega⟩
      obtain ⟨ka, t1, kt1, kok⟩ := kv5.kept top p1 (by omega)
      obtain ⟨s, hs⟩ : ∃ s, s = v5.ke.get top := ⟨_, rfl⟩
      rw [← hs] at ka kok
      rw [← ka] at hc hl
      have lo := ig5.lookOk p1 p2
      have o6 := lo.s0; have o7 := lo.s1; have o8 := lo.len
      rw [← ka] at o6 o7 o8
      have hsl : s.es.length = s.e.n := kok.es.len
      have hlen : s.abs.entries.length = s.e.n := by show (s.es.map EH.abs).length = _; rw [List.length_map, hsl]
      have hsi : s.abs.snap.index = s.si := rfl
      rw [hlen, hsi] at hc
      rw [hsi] at o6 o7
      rw [hlen] at o8
      have hML : M ≤ s.si + s.e.n := by
       rcases hM with z | ⟨n, n1, n2, z⟩
       ·omega
       ·rw [← z]; exact hc n n1 n2
      refine AIdxA.nat (n := 6) (z := 7) (j := m) (by omega) (by omega) rfl rfl ?_; conv=>whnf
      have hke : ((netCells x v5).drop (0 + 8 + m * 7)).take 7 = s.cells := by
       rw [show 0 + 8 + m * 7 = 8 + top.toNat * 7 by omega, kept_cells x v5 p1 (by omega), hs]
      refine ALoad.agg rfl kv5.str hke rfl ?_; conv=>whnf
      refine AAlloc.mkN (0, 1) ([I 0, I 0, I 0, I 0, I 0, .slice none 0 0, .slice none 0 0]) rfl fun b7 h8 n8 s8 q8 => ?_; conv=>whnf
      refine AStore.aggN rfl rfl rfl (q8) rfl (s.cells) rfl fun h9 t9 q9 a9 e9 => ?_; conv=>whnf
      have s9 : Sub h3 h9 := a9 h3 s8 n8
      have kv9 := kv5.sub s9
      refine ALoad.one rfl q9 rfl ?_; conv=>whnf
      refine ALoad.one rfl q9 rfl ?_; conv=>whnf
      refine AArith.ok (by omega) (by omega) (rfl) ?_; conv=>whnf
      refine ACmp.no ((by omega)) ?_; conv=>whnf
      refine ALoop.mk (fun e h' => ∃ (e0 : Env) (j : Nat), e = updL 169 e0 [(1, .slice (some ⟨b, off, none⟩) ln lc), (5, Ptr p), (6, I i), (7, I M), (12, Ptr b7), (13, I j)] ∧ j ≤ s.e.n ∧ Sub h9 h') (fun e => s.e.n - natOf (e 13))
       ⟨_, 0, updL_self ⟨rfl, rfl, rfl, rfl, rfl, rfl, trivial⟩, by omega, Sub.refl _⟩ ?_
      rintro e h10 ⟨e3, j, rfl, hj, S10⟩
      have q10 := S10 _ _ q9
      have kv10 := kv9.sub S10
      conv=>whnf
      refine ALoad.one rfl q10 rfl ?_; conv=>whnf
      by_cases cj : j < s.e.n
      ·refine ACmp.yes (by omega) ?_; conv=>whnf
       obtain ⟨y, hy⟩ : ∃ y, s.es[j]? = some y := ⟨s.es[j]'(by omega), by simp⟩
       have my := List.mem_of_getElem? hy
       have kok10 := (kok.move fun _ _ _ _ e => S10 _ _ (s9 _ _ e) : s.Ok h10 t1 (1 + 1, 2) (1 + 1, 6))
       obtain ⟨bb, off2, l2, E2, fz2, ea, hbb, hcc⟩ := kok10.es.sl.pos (by omega)
       have gp : (l2.drop (off2 + j * 4)).take 4 = y.cells := by rw [part_of_take hcc (by omega), encs_part hy]
       have gp1 : l2[off2 + j * 4 + 1]? = some (I y.index) := by
        have := congrArg (fun q : List Value => q[1]?) gp
        simpa [List.getElem?_take, List.getElem?_drop, EH.cells] using this
       have gy : y.Good h10 (1 + 1, 2) := kok10.es.good y my
       have hyn := kok10.es.small y my
       refine ADrawn.mk (h10) [] (Sub.refl _) (by decide +kernel) ?_; conv=>whnf
       refine ALoad.one rfl kv10.str rfl ?_; conv=>whnf
       refine ALoad.one rfl q10 rfl ?_; conv=>whnf
       rw [ea]
       refine AIdx.nat rfl cj rfl rfl ?_; conv=>whnf
       refine ALoad.one rfl hbb gp1 ?_; conv=>whnf
       cases ho : alook y.index v5.ch with
       | none =>
        refine ALookup.miss kv10.cho rfl rfl rfl rfl (kvG_miss (f := fun e : EH => .agg e.cells.toArray) kv10.choE ho) ?_
        conv=>whnf
        refine AAlloc.mkN (0, 1) ([I 0, I 0, I 0, .slice none 0 0]) rfl fun b10 h12 n12 s12 q12 => ?_; conv=>whnf
        refine ⟨s12, ?_⟩; conv=>whnf
        refine AStore.aggN rfl rfl rfl (q12) rfl ([I 0, I 0, I 0, .slice none 0 0]) rfl fun h13 t13 q13 a13 e13 => ?_; conv=>whnf
        have S13 : Sub h10 h13 := a13 h10 s12 n12
        refine ⟨S13, ?_⟩; conv=>whnf
        refine ADrawn.mk (h13) [] (Sub.refl _) (by decide +kernel) ?_; conv=>whnf
        refine AArith.ok (by omega) (by omega) ((by omega : (j : Int) + 1 = ((j + 1 : Nat) : Int))) ?_; conv=>whnf
        refine ⟨⟨_, j + 1, updL_self ⟨rfl, rfl, rfl, rfl, rfl, rfl, trivial⟩, by omega, S10.trans S13⟩, ?_⟩
        show s.e.n - (j + 1) < s.e.n - j
        omega
       | some old =>
        obtain ⟨q, qe, g1, g2, g3, _⟩ := kvG_hit (f := fun e : EH => .agg e.cells.toArray) kv10.choE ho
        refine ALookup.hit kv10.cho rfl rfl (List.mem_of_getElem? g1) g2 ?_
        rw [g3]
        conv=>whnf
        refine AAlloc.mkN (0, 1) ([I 0, I 0, I 0, .slice none 0 0]) rfl fun b10 h12 n12 s12 q12 => ?_; conv=>whnf
        refine ⟨s12, ?_⟩; conv=>whnf
        refine AStore.aggN rfl rfl rfl (q12) rfl (old.cells) rfl fun h13 t13 q13 a13 e13 => ?_; conv=>whnf
        have S13 : Sub h10 h13 := a13 h10 s12 n12
        refine ⟨S13, ?_⟩; conv=>whnf
        have ag : old.abs = y.abs := by
         refine hl y.abs (by show y.abs ∈ s.es.map EH.abs; exact List.mem_map.2 ⟨y, my, rfl⟩) old.abs ?_
         rw [← kv10.choA]
         show alook y.index _ = _
         rw [alook_map, ho]; rfl
        have hon : old.n ≤ 4611686018427387904 := by
         have h1 : old.data.length = old.n := by have := (kv10.choG _ (alook_mem ho)).len; simpa [bytesV] using this
         have h2 : y.data.length = y.n := by have := gy.len; simpa [bytesV] using this
         have h3 : old.data = y.data := congrArg (·.2.2.2) ag
         rw [h3] at h1; omega
        refine ADrawn.mk (h13) [] (Sub.refl _) (by decide +kernel) ?_; conv=>whnf
        refine ALoad.one rfl q13 rfl ?_; conv=>whnf
        by_cases cM : old.index ≤ M
        ·refine ACmp.yes (cM) ?_; conv=>whnf
         refine ALoad.agg rfl q13 rfl rfl ?_; conv=>whnf
         refine ALoad.one rfl (S13 _ _ q10) rfl ?_; conv=>whnf
         rw [ea]
         refine AIdx.nat rfl cj rfl rfl ?_; conv=>whnf
         refine ALoad.agg rfl (S13 _ _ hbb) gp rfl ?_; conv=>whnf
         refine ACalls.mono (like_any (Sl.sub (kv10.choG _ (alook_mem ho)) S13) (Sl.sub gy S13) hon) ?_; rintro _ _ ⟨rfl, rfl⟩; conv=>whnf
         rw [decide_eq_true ag]
         refine ⟨Sub.refl _, ?_⟩; conv=>whnf
         refine AArith.ok (by omega) (by omega) ((by omega : (j : Int) + 1 = ((j + 1 : Nat) : Int))) ?_; conv=>whnf
         refine ⟨⟨_, j + 1, updL_self ⟨rfl, rfl, rfl, rfl, rfl, rfl, trivial⟩, by omega, S10.trans S13⟩, ?_⟩
         show s.e.n - (j + 1) < s.e.n - j
         omega
        ·refine ACmp.no (cM) ?_; conv=>whnf
         refine AArith.ok (by omega) (by omega) ((by omega : (j : Int) + 1 = ((j + 1 : Nat) : Int))) ?_; conv=>whnf
         refine ⟨⟨_, j + 1, updL_self ⟨rfl, rfl, rfl, rfl, rfl, rfl, trivial⟩, by omega, S10.trans S13⟩, ?_⟩
         show s.e.n - (j + 1) < s.e.n - j
         omega
      ·refine ACmp.no (by omega) ?_; conv=>whnf
       refine AArith.ok (by omega) (by omega) ((by omega : (i : Int) + 1 = ((i + 1 : Nat) : Int))) ?_; conv=>whnf
       refine ⟨⟨_, i + 1, _, updL_self ⟨rfl, rfl, rfl, trivial⟩, by omega, by omega, ⟨⟨_, kv10⟩, k5.inv, k5.draw⟩, st.trans (s9.stays.trans S10.stays)⟩, ?_⟩
       show ln - (i + 1) < ln - i
       omega
   ·refine ACmp.yes (c6) ?_; conv=>whnf
    refine AIdx.nat (z := 3) (j := i) rfl c rfl rfl ?_; conv=>whnf
    refine ALoad.agg rfl hb hp rfl ?_; conv=>whnf
    refine ACalls.mono (step_at k3 (by omega) (ps[i]'(by omega))) ?_
    rintro _ h4 ⟨rfl, k4, _, L4⟩
    conv=>whnf
    have k5 : NetAt h4 1 p (x.step (ps[i]'(by omega)).m) (10 + 60 * (i + 1 : Nat)) := ⟨k4.mem, let ⟨g, a, b⟩ := k4.inv; ⟨g, a, by omega⟩, k4.draw⟩
    have st5 := st.trans (low_stays L4)
    obtain ⟨y, hy⟩ : ∃ y, y = x.step (ps[i]'(by omega)).m := ⟨_, rfl⟩
    rw [← hy] at k5
    obtain ⟨v5, kv5⟩ := k5.mem
    obtain ⟨g5, ig5, hg5⟩ := k5.inv
    have hs5 := kv5.sz5
    have hs3 := kv5.sz3
    refine ALoop.mk (fun e h' => ∃ (e0 : Env) (K : Nat) (M : Int), e = updL 169 e0 [(1, .slice (some ⟨b, off, none⟩) ln lc), (5, Ptr p), (6, I i), (7, I M), (8, I ((K : Int) + 1))] ∧ (K : Int) ≤ y.size ∧ h4 = h' ∧ (M = 0 ∨ ∃ n, 1 ≤ n ∧ n ≤ y.size ∧ (y.cores.get n).commit = M)) (fun e => 7 - natOf (e 8))
     ⟨_, 0, 0, updL_self ⟨rfl, rfl, rfl, rfl, rfl, trivial⟩, by omega, rfl, .inl rfl⟩ ?_
    rintro e h6 ⟨e1, K, M, rfl, hK, rfl, hM⟩
    conv=>whnf
    refine ALoad.one rfl kv5.str rfl ?_; conv=>whnf
    by_cases cK : (K : Int) + 1 ≤ y.size
    ·refine ACmp.yes (cK) ?_; conv=>whnf
     obtain ⟨b, hb, id⟩ := kv5.coreIx (m := K + 1) (by omega) (by omega)
     rw [show ((K + 1 : Nat) : Int) = (K : Int) + 1 by omega] at id
     refine AIdxA.nat (n := 6) (z := 1) (j := K + 1) (by omega) (by omega) rfl rfl ?_; conv=>whnf
     refine ALoad.one rfl kv5.str hb ?_; conv=>whnf
     refine ACalls.mono (commit_i id) ?_; rintro _ _ ⟨rfl, rfl⟩; conv=>whnf
     obtain ⟨M2, hM2⟩ : ∃ M2, M2 = if (y.cores.get ((K : Int) + 1)).commit > M then (y.cores.get ((K : Int) + 1)).commit else M := ⟨_, rfl⟩
     refine AInt.as (hM2.symm) ?_; conv=>whnf
     refine AArith.ok (by omega) (by omega) ((by omega : (K : Int) + 1 + 1 = ((K + 1 : Nat) : Int) + 1)) ?_; conv=>whnf
     refine ⟨⟨_, K + 1, M2, updL_self ⟨rfl, rfl, rfl, rfl, rfl, trivial⟩, by omega, rfl, ?_⟩, ?_⟩
     ·rw [hM2]
      split
      ·exact .inr ⟨_, by omega, cK, rfl⟩
      ·exact hM
     ·show 7 - (((K + 1 : Nat) : Int) + 1).toNat < 7 - ((K : Int) + 1).toNat
      omega
    ·refine ACmp.no (cK) ?_; conv=>whnf
     refine ALoop.mk (fun e h' => ∃ (e0 : Env) (K : Nat) (top tm : Int), e = updL 169 e0 [(1, .slice (some ⟨b, off, none⟩) ln lc), (5, Ptr p), (6, I i), (7, I M), (9, I top), (10, I tm), (11, I ((K : Int) + 1))] ∧ (K : Int) ≤ y.size ∧ h4 = h' ∧
       (∀ n : Int, 1 ≤ n → n ≤ (K : Int) → (y.cores.get n).term ≤ tm) ∧ (top = 0 ∨ (1 ≤ top ∧ top ≤ K ∧ (y.cores.get top).state = 2 ∧ (y.cores.get top).term = tm))) (fun e => 7 - natOf (e 11))
      ⟨_, 0, 0, 0, updL_self ⟨rfl, rfl, rfl, rfl, rfl, rfl, rfl, trivial⟩, by omega, rfl, fun n n1 n2 => by omega, .inl rfl⟩ ?_
     rintro e h7 ⟨e2, K2, top, tm, rfl, hK2, rfl, hT, hP⟩
     conv=>whnf
     refine ALoad.one rfl kv5.str rfl ?_; conv=>whnf
     by_cases cK2 : (K2 : Int) + 1 ≤ y.size
     ·refine ACmp.yes (cK2) ?_; conv=>whnf
      obtain ⟨b, hb, id⟩ := kv5.coreIx (m := K2 + 1) (by omega) (by omega)
      rw [show ((K2 + 1 : Nat) : Int) = (K2 : Int) + 1 by omega] at id
      refine AIdxA.nat (n := 6) (z := 1) (j := K2 + 1) (by omega) (by omega) rfl rfl ?_; conv=>whnf
      refine ALoad.one rfl kv5.str hb ?_; conv=>whnf
      refine ACalls.mono (term_i id) ?_; rintro _ _ ⟨rfl, rfl⟩; conv=>whnf
      by_cases cg : (y.cores.get ((K2 : Int) + 1)).term > tm
      ·refine ACmp.yes (cg) ?_; conv=>whnf
       refine AIdxA.nat (n := 6) (z := 1) (j := K2 + 1) (by omega) (by omega) rfl rfl ?_; conv=>whnf
       refine ALoad.one rfl kv5.str hb ?_; conv=>whnf
       refine ACalls.mono (term_i id) ?_; rintro _ _ ⟨rfl, rfl⟩; conv=>whnf
       have hT2 : ∀ n : Int, 1 ≤ n → n ≤ ((K2 + 1 : Nat) : Int) → (y.cores.get n).term ≤ (y.cores.get ((K2 : Int) + 1)).term := fun n n1 n2 => by
        by_cases z : n = (K2 : Int) + 1
        ·rw [z]; exact Int.le_refl _
        ·have := hT n n1 (by omega); omega
       refine AIdxA.nat (n := 6) (z := 1) (j := K2 + 1) (by omega) (by omega) rfl rfl ?_; conv=>whnf
       refine ALoad.one rfl kv5.str hb ?_; conv=>whnf
       refine ACalls.mono (state_i id) ?_; rintro _ _ ⟨rfl, rfl⟩; conv=>whnf
       by_cases cs : (y.cores.get ((K2 : Int) + 1)).state = 2
       ·refine ACmp.yes (cs) ?_; conv=>whnf
        refine AIdxA.nat (n := 6) (z := 1) (j := K2 + 1) (by omega) (by omega) rfl rfl ?_; conv=>whnf
        refine ALoad.one rfl kv5.str hb ?_; conv=>whnf
        refine ACalls.mono (term_i id) ?_; rintro _ _ ⟨rfl, rfl⟩; conv=>whnf
        by_cases ct : (y.cores.get ((K2 : Int) + 1)).term = (y.cores.get ((K2 : Int) + 1)).term
        ·refine ACmp.yes (ct) ?_; conv=>whnf
         refine AArith.ok (by omega) (by omega) ((by omega : (K2 : Int) + 1 + 1 = ((K2 + 1 : Nat) : Int) + 1)) ?_; conv=>whnf
         refine ⟨⟨_, K2 + 1, _, _, updL_self ⟨rfl, rfl, rfl, rfl, rfl, rfl, rfl, trivial⟩, by omega, rfl, hT2, .inr ⟨by omega, by omega, cs, ct⟩⟩, ?_⟩
         show 7 - (((K2 + 1 : Nat) : Int) + 1).toNat < 7 - ((K2 : Int) + 1).toNat
         omega
        ·refine ACmp.no (ct) ?_; conv=>whnf
         refine AArith.ok (by omega) (by omega) ((by omega : (K2 : Int) + 1 + 1 = ((K2 + 1 : Nat) : Int) + 1)) ?_; conv=>whnf
         refine ⟨⟨_, K2 + 1, _, _, updL_self ⟨rfl, rfl, rfl, rfl, rfl, rfl, rfl, trivial⟩, by omega, rfl, hT2, (.inl rfl)⟩, ?_⟩
         show 7 - (((K2 + 1 : Nat) : Int) + 1).toNat < 7 - ((K2 : Int) + 1).toNat
         omega
       ·refine ACmp.no (cs) ?_; conv=>whnf
        refine AArith.ok (by omega) (by omega) ((by omega : (K2 : Int) + 1 + 1 = ((K2 + 1 : Nat) : Int) + 1)) ?_; conv=>whnf
        refine ⟨⟨_, K2 + 1, _, _, updL_self ⟨rfl, rfl, rfl, rfl, rfl, rfl, rfl, trivial⟩, by omega, rfl, hT2, (.inl rfl)⟩, ?_⟩
        show 7 - (((K2 + 1 : Nat) : Int) + 1).toNat < 7 - ((K2 : Int) + 1).toNat
        omega
      ·refine ACmp.no (cg) ?_; conv=>whnf
       have hT2 : ∀ n : Int, 1 ≤ n → n ≤ ((K2 + 1 : Nat) : Int) → (y.cores.get n).term ≤ tm := fun n n1 n2 => by
        by_cases z : n = (K2 : Int) + 1
        ·rw [z]; omega
        ·exact hT n n1 (by omega)
       have hP2 : top = 0 ∨ (1 ≤ top ∧ top ≤ ((K2 + 1 : Nat) : Int) ∧ (y.cores.get top).state = 2 ∧ (y.cores.get top).term = tm) := hP.imp (fun z => z) fun ⟨a, b, c⟩ => ⟨a, by omega, c⟩
       refine AIdxA.nat (n := 6) (z := 1) (j := K2 + 1) (by omega) (by omega) rfl rfl ?_; conv=>whnf
       refine ALoad.one rfl kv5.str hb ?_; conv=>whnf
       refine ACalls.mono (state_i id) ?_; rintro _ _ ⟨rfl, rfl⟩; conv=>whnf
       by_cases cs : (y.cores.get ((K2 : Int) + 1)).state = 2
       ·refine ACmp.yes (cs) ?_; conv=>whnf
        refine AIdxA.nat (n := 6) (z := 1) (j := K2 + 1) (by omega) (by omega) rfl rfl ?_; conv=>whnf
        refine ALoad.one rfl kv5.str hb ?_; conv=>whnf
        refine ACalls.mono (term_i id) ?_; rintro _ _ ⟨rfl, rfl⟩; conv=>whnf
        by_cases ct : (y.cores.get ((K2 : Int) + 1)).term = tm
        ·refine ACmp.yes (ct) ?_; conv=>whnf
         refine AArith.ok (by omega) (by omega) ((by omega : (K2 : Int) + 1 + 1 = ((K2 + 1 : Nat) : Int) + 1)) ?_; conv=>whnf
         refine ⟨⟨_, K2 + 1, _, _, updL_self ⟨rfl, rfl, rfl, rfl, rfl, rfl, rfl, trivial⟩, by omega, rfl, hT2, .inr ⟨by omega, by omega, cs, ct⟩⟩, ?_⟩
         show 7 - (((K2 + 1 : Nat) : Int) + 1).toNat < 7 - ((K2 : Int) + 1).toNat
         omega
        ·refine ACmp.no (ct) ?_; conv=>whnf
         refine AArith.ok (by omega) (by omega) ((by omega : (K2 : Int) + 1 + 1 = ((K2 + 1 : Nat) : Int) + 1)) ?_; conv=>whnf
         refine ⟨⟨_, K2 + 1, _, _, updL_self ⟨rfl, rfl, rfl, rfl, rfl, rfl, rfl, trivial⟩, by omega, rfl, hT2, hP2⟩, ?_⟩
         show 7 - (((K2 + 1 : Nat) : Int) + 1).toNat < 7 - ((K2 : Int) + 1).toNat
         omega
       ·refine ACmp.no (cs) ?_; conv=>whnf
        refine AArith.ok (by omega) (by omega) ((by omega : (K2 : Int) + 1 + 1 = ((K2 + 1 : Nat) : Int) + 1)) ?_; conv=>whnf
        refine ⟨⟨_, K2 + 1, _, _, updL_self ⟨rfl, rfl, rfl, rfl, rfl, rfl, rfl, trivial⟩, by omega, rfl, hT2, hP2⟩, ?_⟩
        show 7 - (((K2 + 1 : Nat) : Int) + 1).toNat < 7 - ((K2 : Int) + 1).toNat
        omega
     ·refine ACmp.no (cK2) ?_; conv=>whnf
      by_cases ct0 : top = 0
      ·refine ACmp.yes (ct0) ?_; conv=>whnf
       refine AArith.ok (by omega) (by omega) ((by omega : (i : Int) + 1 = ((i + 1 : Nat) : Int))) ?_; conv=>whnf
       refine ⟨⟨_, i + 1, _, updL_self ⟨rfl, rfl, rfl, trivial⟩, by omega, by omega, k5, st5⟩, ?_⟩
       show ln - (i + 1) < ln - i
       omega
      refine ACmp.no (ct0) ?_; conv=>whnf
      obtain ⟨p1, p2, p3, p4⟩ : 1 ≤ top ∧ top ≤ y.size ∧ (y.cores.get top).state = 2 ∧ (y.cores.get top).term = tm := by
       rcases hP with z | ⟨a, b, c⟩
       ·exact absurd z ct0
       ·exact ⟨a, by omega, c⟩
      obtain ⟨hc, hl⟩ := ig5.topHas p1 p2 p3 fun n n1 n2 => by rw [p4]; exact hT n n1 (by omega)
      obtain ⟨m, hm⟩ : ∃ m : Nat, top = m := ⟨top.toNat, by omega⟩
      obtain ⟨ka, t1, kt1, kok⟩ := kv5.kept top p1 (by omega)
      obtain ⟨s, hs⟩ : ∃ s, s = v5.ke.get top := ⟨_, rfl⟩
      rw [← hs] at ka kok
      rw [← ka] at hc hl
      have lo := ig5.lookOk p1 p2
      have o6 := lo.s0; have o7 := lo.s1; have o8 := lo.len
      rw [← ka] at o6 o7 o8
      have hsl : s.es.length = s.e.n := kok.es.len
      have hlen : s.abs.entries.length = s.e.n := by show (s.es.map EH.abs).length = _; rw [List.length_map, hsl]
      have hsi : s.abs.snap.index = s.si := rfl
      rw [hlen, hsi] at hc
      rw [hsi] at o6 o7
      rw [hlen] at o8
      have hML : M ≤ s.si + s.e.n := by
       rcases hM with z | ⟨n, n1, n2, z⟩
       ·omega
       ·rw [← z]; exact hc n n1 n2
      refine AIdxA.nat (n := 6) (z := 7) (j := m) (by omega) (by omega) rfl rfl ?_; conv=>whnf
      have hke : ((netCells y v5).drop (0 + 8 + m * 7)).take 7 = s.cells := by
       rw [show 0 + 8 + m * 7 = 8 + top.toNat * 7 by omega, kept_cells y v5 p1 (by omega), hs]
      refine ALoad.agg rfl kv5.str hke rfl ?_; conv=>whnf
      refine AAlloc.mkN (0, 1) ([I 0, I 0, I 0, I 0, I 0, .slice none 0 0, .slice none 0 0]) rfl fun b7 h8 n8 s8 q8 => ?_; conv=>whnf
      refine AStore.aggN rfl rfl rfl (q8) rfl (s.cells) rfl fun h9 t9 q9 a9 e9 => ?_; conv=>whnf
      have s9 : Sub h4 h9 := a9 h4 s8 n8
      have kv9 := kv5.sub s9
      refine ALoad.one rfl q9 rfl ?_; conv=>whnf
      refine ALoad.one rfl q9 rfl ?_; conv=>whnf
      refine AArith.ok (by omega) (by omega) (rfl) ?_; conv=>whnf
      refine ACmp.no ((by omega)) ?_; conv=>whnf
      refine ALoop.mk (fun e h' => ∃ (e0 : Env) (j : Nat), e = updL 169 e0 [(1, .slice (some ⟨b, off, none⟩) ln lc), (5, Ptr p), (6, I i), (7, I M), (12, Ptr b7), (13, I j)] ∧ j ≤ s.e.n ∧ Sub h9 h') (fun e => s.e.n - natOf (e 13))
       ⟨_, 0, updL_self ⟨rfl, rfl, rfl, rfl, rfl, rfl, trivial⟩, by omega, Sub.refl _⟩ ?_
      rintro e h10 ⟨e3, j, rfl, hj, S10⟩
      have q10 := S10 _ _ q9
      have kv10 := kv9.sub S10
      conv=>whnf
      refine ALoad.one rfl q10 rfl ?_; conv=>whnf
      by_cases cj : j < s.e.n
      ·refine ACmp.yes (by omega) ?_; conv=>whnf
       obtain ⟨y, hy⟩ : ∃ y, s.es[j]? = some y := ⟨s.es[j]'(by omega), by simp⟩
       have my := List.mem_of_getElem? hy
       have kok10 := (kok.move fun _ _ _ _ e => S10 _ _ (s9 _ _ e) : s.Ok h10 t1 (1 + 1, 2) (1 + 1, 6))
       obtain ⟨bb, off2, l2, E2, fz2, ea, hbb, hcc⟩ := kok10.es.sl.pos (by omega)
       have gp : (l2.drop (off2 + j * 4)).take 4 = y.cells := by rw [part_of_take hcc (by omega), encs_part hy]
       have gp1 : l2[off2 + j * 4 + 1]? = some (I y.index) := by
        have := congrArg (fun q : List Value => q[1]?) gp
        simpa [List.getElem?_take, List.getElem?_drop, EH.cells] using this
       have gy : y.Good h10 (1 + 1, 2) := kok10.es.good y my
       have hyn := kok10.es.small y my
       refine ADrawn.mk (h10) [] (Sub.refl _) (by decide +kernel) ?_; conv=>whnf
       refine ALoad.one rfl kv10.str rfl ?_; conv=>whnf
       refine ALoad.one rfl q10 rfl ?_; conv=>whnf
       rw [ea]
       refine AIdx.nat rfl cj rfl rfl ?_; conv=>whnf
       refine ALoad.one rfl hbb gp1 ?_; conv=>whnf
       cases ho : alook y.index v5.ch with
       | none =>
        refine ALookup.miss kv10.cho rfl rfl rfl rfl (kvG_miss (f := fun e : EH => .agg e.cells.toArray) kv10.choE ho) ?_
        conv=>whnf
        refine AAlloc.mkN (0, 1) ([I 0, I 0, I 0, .slice none 0 0]) rfl fun b10 h12 n12 s12 q12 => ?_; conv=>whnf
        refine ⟨s12, ?_⟩; conv=>whnf
        refine AStore.aggN rfl rfl rfl (q12) rfl ([I 0, I 0, I 0, .slice none 0 0]) rfl fun h13 t13 q13 a13 e13 => ?_; conv=>whnf
        have S13 : Sub h10 h13 := a13 h10 s12 n12
        refine ⟨S13, ?_⟩; conv=>whnf
        refine ADrawn.mk (h13) [] (Sub.refl _) (by decide +kernel) ?_; conv=>whnf
        refine AArith.ok (by omega) (by omega) ((by omega : (j : Int) + 1 = ((j + 1 : Nat) : Int))) ?_; conv=>whnf
        refine ⟨⟨_, j + 1, updL_self ⟨rfl, rfl, rfl, rfl, rfl, rfl, trivial⟩, by omega, S10.trans S13⟩, ?_⟩
        show s.e.n - (j + 1) < s.e.n - j
        omega
       | some old =>
        obtain ⟨q, qe, g1, g2, g3, _⟩ := kvG_hit (f := fun e : EH => .agg e.cells.toArray) kv10.choE ho
        refine ALookup.hit kv10.cho rfl rfl (List.mem_of_getElem? g1) g2 ?_
        rw [g3]
        conv=>whnf
        refine AAlloc.mkN (0, 1) ([I 0, I 0, I 0, .slice none 0 0]) rfl fun b10 h12 n12 s12 q12 => ?_; conv=>whnf
        refine ⟨s12, ?_⟩; conv=>whnf
        refine AStore.aggN rfl rfl rfl (q12) rfl (old.cells) rfl fun h13 t13 q13 a13 e13 => ?_; conv=>whnf
        have S13 : Sub h10 h13 := a13 h10 s12 n12
        refine ⟨S13, ?_⟩; conv=>whnf
        have ag : old.abs = y.abs := by
         refine hl y.abs (by show y.abs ∈ s.es.map EH.abs; exact List.mem_map.2 ⟨y, my, rfl⟩) old.abs ?_
         rw [← kv10.choA]
         show alook y.index _ = _
         rw [alook_map, ho]; rfl
        have hon : old.n ≤ 4611686018427387904 := by
         have h1 : old.data.length = old.n := by have := (kv10.choG _ (alook_mem ho)).len; simpa [bytesV] using this
         have h2 : y.data.length = y.n := by have := gy.len; simpa [bytesV] using this
         have h3 : old.data = y.data := congrArg (·.2.2.2) ag
         rw [h3] at h1; omega
        refine ADrawn.mk (h13) [] (Sub.refl _) (by decide +kernel) ?_; conv=>whnf
        refine ALoad.one rfl q13 rfl ?_; conv=>whnf
        by_cases cM : old.index ≤ M
        ·refine ACmp.yes (cM) ?_; conv=>whnf
         refine ALoad.agg rfl q13 rfl rfl ?_; conv=>whnf
         refine ALoad.one rfl (S13 _ _ q10) rfl ?_; conv=>whnf
         rw [ea]
         refine AIdx.nat rfl cj rfl rfl ?_; conv=>whnf
         refine ALoad.agg rfl (S13 _ _ hbb) gp rfl ?_; conv=>whnf
         refine ACalls.mono (like_any (Sl.sub (kv10.choG _ (alook_mem ho)) S13) (Sl.sub gy S13) hon) ?_; rintro _ _ ⟨rfl, rfl⟩; conv=>whnf
         rw [decide_eq_true ag]
         refine ⟨Sub.refl _, ?_⟩; conv=>whnf
         refine AArith.ok (by omega) (by omega) ((by omega : (j : Int) + 1 = ((j + 1 : Nat) : Int))) ?_; conv=>whnf
         refine ⟨⟨_, j + 1, updL_self ⟨rfl, rfl, rfl, rfl, rfl, rfl, trivial⟩, by omega, S10.trans S13⟩, ?_⟩
         show s.e.n - (j + 1) < s.e.n - j
         omega
        ·refine ACmp.no (cM) ?_; conv=>whnf
         refine AArith.ok (by omega) (by omega) ((by omega : (j : Int) + 1 = ((j + 1 : Nat) : Int))) ?_; conv=>whnf
         refine ⟨⟨_, j + 1, updL_self ⟨rfl, rfl, rfl, rfl, rfl, rfl, trivial⟩, by omega, S10.trans S13⟩, ?_⟩
         show s.e.n - (j + 1) < s.e.n - j
         omega
      ·refine ACmp.no (by omega) ?_; conv=>whnf
       refine AArith.ok (by omega) (by omega) ((by omega : (i : Int) + 1 = ((i + 1 : Nat) : Int))) ?_; conv=>whnf
       refine ⟨⟨_, i + 1, _, updL_self ⟨rfl, rfl, rfl, trivial⟩, by omega, by omega, ⟨⟨_, kv10⟩, k5.inv, k5.draw⟩, st5.trans (s9.stays.trans S10.stays)⟩, ?_⟩
       show ln - (i + 1) < ln - i
       omega
  ·refine ACmp.no ((by omega)) ?_; conv=>whnf
   refine ALoad.one rfl kv.str rfl ?_; conv=>whnf
   exact ⟨rfl, st⟩
 ·refine ACmp.no ((by omega)) ?_; conv=>whnf
  refine ALoad.one rfl kv.str rfl ?_; conv=>whnf
  exact ⟨rfl, st⟩
end Go.Ah
