/- A disk held against the document's. DiskTurns, DiskMoves. -/
import Derived.Test.YtdacfmgldjegmaaDlC
namespace Go.Ah
open Go.Proofs
set_option linter.unusedVariables false
set_option linter.unusedSimpArgs false
set_option maxRecDepth 20000

theorem dlist_len {D : DD} (g : Good D) : (dlist D).length ≤ 16 := by
  have := g.size
  unfold dlist
  cases D.dead <;> simp [this]

set_option maxHeartbeats 4000000 in
theorem same_any {h : Heap} {p q o o' : Nat} {D : DD} (da : DA h p o D) (ra : RA h q o' D) (g : Good D) : ACalls PR 29 #[Ptr p, Ptr q] h (fun v h' => v = .bool true ∧ h = h') := by
  refine ACalls.owner ⟨Try.f29, Try.func29, rfl, rfl⟩ fun oo hoo bnd => ?_
  refine acalls_pure (ACalls.mono (?_ : ACalls PR 29 #[Ptr p, Ptr q] h (fun v h' => v = .bool true ∧ Keep oo h h')) fun v h' ⟨e, k⟩ => ⟨e, k.toSub (bnd.no (Nat.le_refl _))⟩)
  have h16 := g.size
  refine acalls_of mix Try.func29 rfl rfl Try.ntmps29 Try.results29 rfl ?_; conv => whnf
  refine ACalls.mono (Dead_any da) ?_; rintro _ _ ⟨rfl, rfl⟩; conv => whnf
  refine ACalls.mono (refDead_any ra) ?_; rintro _ _ ⟨rfl, rfl⟩; conv => whnf
  cases hd : D.dead with
  | true =>
    conv => whnf
    refine ACalls.mono (List_any da g) ?_; rintro _ h1 ⟨a1, c1, rfl, sl1, s1⟩; conv => whnf
    refine ACalls.mono (refList_any (ra.sub s1) g) ?_; rintro _ h2 ⟨⟨a2, c2, t2, rfl, sl2⟩, s2⟩; conv => whnf
    have hdl : (dlist D).length ≤ 16 := dlist_len g
    have cs := sameN_any _ (sl1.sub s2) sl2 (by omega)
    rw [decide_eq_true rfl] at cs
    refine ACalls.mono (cs) ?_; rintro _ _ ⟨rfl, rfl⟩; conv => whnf
    have s12 := s1.trans s2
    obtain ⟨R, rl, la, lc, ka, kn, kc, rd⟩ := ra
    have hlen := rd.len
    refine ALoop.mk (fun e h3 => Keep oo h h3 ∧ ∃ e0, ∃ i : Nat, e = updL 77 e0 [(0, Ptr p), (1, Ptr q), (5, I i)] ∧ i ≤ R.length) (fun e => R.length - natOf (e 5))
      ⟨s12.keep oo, _, 0, updL_self ⟨rfl, rfl, rfl, trivial⟩, by omega⟩ ?_
    rintro e h3 ⟨k3, e0, i, rfl, hi⟩
    have s3 := k3.toSub (bnd.no (Nat.le_refl _))
    have b1 := s3 _ _ rd.at_
    conv => whnf
    refine ALoad.one rfl b1 rfl ?_; conv => whnf
    by_cases hlt : i < R.length
    · refine ACmp.yes (by omega) ?_; conv => whnf
      refine ALoad.one rfl b1 rfl ?_; conv => whnf
      have hxf : R[i].f ∈ D.fs := by rw [← rd.fs]; exact List.mem_map.2 ⟨R[i], List.getElem_mem hlt, rfl⟩
      obtain ⟨b, l, rfl, hb, hp, hg, _⟩ := rd.get (i := i) (x := R[i]) (by simp [hlt])
      have hb3 := s3 _ _ hb
      have hnm := (hg 0 (by omega)).1
      refine AIdx.nat (z := 3) rfl hlt rfl rfl ?_; conv => whnf
      refine ALoad.one rfl hb3 (by rw [Nat.zero_add]; exact hnm) ?_; conv => whnf
      refine ACalls.mono (Read_any (da.sub s3) g R[i].f.name (oo, 1)) ?_; rintro _ h4 ⟨a4, c4, rfl, own4, s4⟩; conv => whnf
      have b4 := s4 _ _ b1
      refine ALoad.one rfl b4 rfl ?_; conv => whnf
      refine AIdx.nat (z := 3) rfl hlt rfl rfl ?_; conv => whnf
      refine ALoad.one rfl (s4 _ _ hb3) (by rw [Nat.zero_add]; exact hnm) ?_; conv => whnf
      refine ACalls.mono (refRead_any (RA.sub ⟨R, rl, _, lc, ka, kn, kc, rd⟩ (s3.trans s4)) g R[i].f.name (oo, 2)) ?_; rintro _ h5 ⟨a5, c5, rfl, own5, s5⟩; conv => whnf
      have hlr := g.read R[i].f.name
      have own4' := own4.move (h' := h5) fun _ _ e => s5 _ _ e
      have ce := eqBytes_any _ own4'.sl own5.sl (by omega)
      rw [decide_eq_true rfl] at ce
      refine ACalls.mono (ce) ?_; rintro _ _ ⟨rfl, rfl⟩; conv => whnf
      refine ACmp.no (by simp) ?_; conv => whnf
      refine ALoop.mk (fun e h6 => Keep oo h h6 ∧ ∃ e0, ∃ k : Nat, ∃ xs : List Int, e = updL 77 e0 [(0, Ptr p), (1, Ptr q), (5, I i), (6, .slice a4 (dread D R[i].f.name).1.length c4), (10, I k)] ∧ k ≤ (dread D R[i].f.name).1.length ∧
          Own h6 (oo, 1) 5 a4 (dread D R[i].f.name).1.length c4 1 (bytesV xs)) (fun e => (dread D R[i].f.name).1.length - natOf (e 10))
        ⟨k3.trans ((s4.trans s5).keep oo), _, 0, _, updL_self ⟨rfl, rfl, rfl, rfl, rfl, trivial⟩, by omega, own4'⟩ ?_
      rintro e h6 ⟨k6, e1, k, xs, rfl, hk, own6⟩
      conv => whnf
      by_cases hkl : k < (dread D R[i].f.name).1.length
      · refine ACmp.yes (by omega) ?_; conv => whnf
        obtain ⟨b7, l7, rfl, hb7, hil7, hget7, hset7⟩ := own6.setc (i := k) hkl
        refine AIdx.nat (z := 1) rfl hkl rfl rfl ?_; conv => whnf
        refine AStore.one rfl rfl rfl hb7 (by rw [Nat.zero_add, Nat.mul_one]; exact hil7) ?_
        simp only [Nat.zero_add, Nat.mul_one]
        conv => whnf
        refine AArith.ok (by omega) (by omega) ((by omega : (k : Int) + 1 = ((k + 1 : Nat) : Int))) ?_; conv => whnf
        refine ⟨⟨k6.trans (KeepT.set hb7).keep, _, k + 1, xs.set k 7, updL_self ⟨rfl, rfl, rfl, rfl, rfl, trivial⟩, by omega, ?_⟩, ?_⟩
        · have := hset7 (.int .u8 7)
          simpa [bytesV, List.map_set] using this
        · show (dread D R[i].f.name).1.length - (k + 1) < (dread D R[i].f.name).1.length - k
          omega
      · refine ACmp.no (by omega) ?_; conv => whnf
        refine AArith.ok (by omega) (by omega) ((by omega : (i : Int) + 1 = ((i + 1 : Nat) : Int))) ?_; conv => whnf
        refine ⟨⟨k6, _, i + 1, updL_self ⟨rfl, rfl, rfl, trivial⟩, by omega⟩, ?_⟩
        show R.length - (i + 1) < R.length - i
        omega
    · refine ACmp.no (by omega) ?_; conv => whnf
      exact ⟨rfl, k3⟩
  | false =>
    conv => whnf
    refine ACalls.mono (List_any da g) ?_; rintro _ h1 ⟨a1, c1, rfl, sl1, s1⟩; conv => whnf
    refine ACalls.mono (refList_any (ra.sub s1) g) ?_; rintro _ h2 ⟨⟨a2, c2, t2, rfl, sl2⟩, s2⟩; conv => whnf
    have hdl : (dlist D).length ≤ 16 := dlist_len g
    have cs := sameN_any _ (sl1.sub s2) sl2 (by omega)
    rw [decide_eq_true rfl] at cs
    refine ACalls.mono (cs) ?_; rintro _ _ ⟨rfl, rfl⟩; conv => whnf
    have s12 := s1.trans s2
    obtain ⟨R, rl, la, lc, ka, kn, kc, rd⟩ := ra
    have hlen := rd.len
    refine ALoop.mk (fun e h3 => Keep oo h h3 ∧ ∃ e0, ∃ i : Nat, e = updL 77 e0 [(0, Ptr p), (1, Ptr q), (5, I i)] ∧ i ≤ R.length) (fun e => R.length - natOf (e 5))
      ⟨s12.keep oo, _, 0, updL_self ⟨rfl, rfl, rfl, trivial⟩, by omega⟩ ?_
    rintro e h3 ⟨k3, e0, i, rfl, hi⟩
    have s3 := k3.toSub (bnd.no (Nat.le_refl _))
    have b1 := s3 _ _ rd.at_
    conv => whnf
    refine ALoad.one rfl b1 rfl ?_; conv => whnf
    by_cases hlt : i < R.length
    · refine ACmp.yes (by omega) ?_; conv => whnf
      refine ALoad.one rfl b1 rfl ?_; conv => whnf
      have hxf : R[i].f ∈ D.fs := by rw [← rd.fs]; exact List.mem_map.2 ⟨R[i], List.getElem_mem hlt, rfl⟩
      obtain ⟨b, l, rfl, hb, hp, hg, _⟩ := rd.get (i := i) (x := R[i]) (by simp [hlt])
      have hb3 := s3 _ _ hb
      have hnm := (hg 0 (by omega)).1
      refine AIdx.nat (z := 3) rfl hlt rfl rfl ?_; conv => whnf
      refine ALoad.one rfl hb3 (by rw [Nat.zero_add]; exact hnm) ?_; conv => whnf
      refine ACalls.mono (Read_any (da.sub s3) g R[i].f.name (oo, 1)) ?_; rintro _ h4 ⟨a4, c4, rfl, own4, s4⟩; conv => whnf
      have b4 := s4 _ _ b1
      refine ALoad.one rfl b4 rfl ?_; conv => whnf
      refine AIdx.nat (z := 3) rfl hlt rfl rfl ?_; conv => whnf
      refine ALoad.one rfl (s4 _ _ hb3) (by rw [Nat.zero_add]; exact hnm) ?_; conv => whnf
      refine ACalls.mono (refRead_any (RA.sub ⟨R, rl, _, lc, ka, kn, kc, rd⟩ (s3.trans s4)) g R[i].f.name (oo, 2)) ?_; rintro _ h5 ⟨a5, c5, rfl, own5, s5⟩; conv => whnf
      have hlr := g.read R[i].f.name
      have own4' := own4.move (h' := h5) fun _ _ e => s5 _ _ e
      have ce := eqBytes_any _ own4'.sl own5.sl (by omega)
      rw [decide_eq_true rfl] at ce
      refine ACalls.mono (ce) ?_; rintro _ _ ⟨rfl, rfl⟩; conv => whnf
      refine ACmp.no (by simp) ?_; conv => whnf
      refine ALoop.mk (fun e h6 => Keep oo h h6 ∧ ∃ e0, ∃ k : Nat, ∃ xs : List Int, e = updL 77 e0 [(0, Ptr p), (1, Ptr q), (5, I i), (6, .slice a4 (dread D R[i].f.name).1.length c4), (10, I k)] ∧ k ≤ (dread D R[i].f.name).1.length ∧
          Own h6 (oo, 1) 5 a4 (dread D R[i].f.name).1.length c4 1 (bytesV xs)) (fun e => (dread D R[i].f.name).1.length - natOf (e 10))
        ⟨k3.trans ((s4.trans s5).keep oo), _, 0, _, updL_self ⟨rfl, rfl, rfl, rfl, rfl, trivial⟩, by omega, own4'⟩ ?_
      rintro e h6 ⟨k6, e1, k, xs, rfl, hk, own6⟩
      conv => whnf
      by_cases hkl : k < (dread D R[i].f.name).1.length
      · refine ACmp.yes (by omega) ?_; conv => whnf
        obtain ⟨b7, l7, rfl, hb7, hil7, hget7, hset7⟩ := own6.setc (i := k) hkl
        refine AIdx.nat (z := 1) rfl hkl rfl rfl ?_; conv => whnf
        refine AStore.one rfl rfl rfl hb7 (by rw [Nat.zero_add, Nat.mul_one]; exact hil7) ?_
        simp only [Nat.zero_add, Nat.mul_one]
        conv => whnf
        refine AArith.ok (by omega) (by omega) ((by omega : (k : Int) + 1 = ((k + 1 : Nat) : Int))) ?_; conv => whnf
        refine ⟨⟨k6.trans (KeepT.set hb7).keep, _, k + 1, xs.set k 7, updL_self ⟨rfl, rfl, rfl, rfl, rfl, trivial⟩, by omega, ?_⟩, ?_⟩
        · have := hset7 (.int .u8 7)
          simpa [bytesV, List.map_set] using this
        · show (dread D R[i].f.name).1.length - (k + 1) < (dread D R[i].f.name).1.length - k
          omega
      · refine ACmp.no (by omega) ?_; conv => whnf
        refine AArith.ok (by omega) (by omega) ((by omega : (i : Int) + 1 = ((i + 1 : Nat) : Int))) ?_; conv => whnf
        refine ⟨⟨k6, _, i + 1, updL_self ⟨rfl, rfl, rfl, trivial⟩, by omega⟩, ?_⟩
        show R.length - (i + 1) < R.length - i
        omega
    · refine ACmp.no (by omega) ?_; conv => whnf
      exact ⟨rfl, k3⟩

/-! ### unarmed -/
theorem gone_un {D : DD} (ha : D.arm = -1) : dgone D = (false, D) := by
  unfold dgone; rw [if_neg (by omega), if_neg (by omega)]
theorem dappend_new {D : DD} (hd : D.dead = false) (ha : D.arm = -1) {n : Nm} (hn : nmOk n = true) (hf : dfind D.fs n = none) (h16 : D.fs.length ≠ 16) {b : List Int} (hl : b.length ≤ 262144) :
    dappend D n b = (0, { D with fs := dput ⟨n, b, 0⟩ D.fs }) := by
  have hl' : ¬ 262144 < b.length := by omega
  simp [dappend, hd, hn, hf, h16, hl', gone_un ha]
theorem dappend_old {D : DD} (hd : D.dead = false) (ha : D.arm = -1) {n : Nm} (hn : nmOk n = true) {f : DF} (hf : dfind D.fs n = some f) {b : List Int} (hl : f.b.length + b.length ≤ 262144) :
    dappend D n b = (0, { D with fs := dput ⟨n, f.b ++ b, f.s⟩ D.fs }) := by
  have hl' : ¬ 262144 < f.b.length + b.length := by omega
  simp [dappend, hd, hn, hf, hl', gone_un ha]
theorem dsync_ok {D : DD} (hd : D.dead = false) (ha : D.arm = -1) {n : Nm} {f : DF} (hf : dfind D.fs n = some f) : dsync D n = (0, { D with fs := dput ⟨n, f.b, f.b.length⟩ D.fs }) := by
  simp [dsync, hd, hf, gone_un ha]
theorem drename_ok {D : DD} (hd : D.dead = false) (ha : D.arm = -1) {n m : Nm} (hm : nmOk m = true) {f : DF} (hf : dfind D.fs n = some f) : drename D n m = (0, { D with fs := dput ⟨m, f.b, f.s⟩ (dout n D.fs) }) := by
  simp [drename, hd, hf, hm, gone_un ha]
theorem dremove_ok {D : DD} (hd : D.dead = false) (ha : D.arm = -1) {n : Nm} {f : DF} (hf : dfind D.fs n = some f) : dremove D n = (0, { D with fs := dout n D.fs }) := by
  simp [dremove, hd, hf, gone_un ha]
theorem dappend_big {D : DD} (hd : D.dead = false) {n : Nm} (hn : nmOk n = true) (hf : dfind D.fs n = none) {b : List Int} (hl : ¬ b.length ≤ 262144) : dappend D n b = (5, D) := by
  have hl' : 262144 < b.length := by omega
  simp [dappend, hd, hn, hf, hl']

set_option maxHeartbeats 4000000 in
theorem Turns_law (h : Heap) (z : AllZero h) {ba : Option Addr} {bn bc : Nat} {b : List Int} (sb : Sl h (0, 0) ba bn bc 1 (bytesV b)) (hbn : bn ≤ 140737488355328) (i k : Int) :
    ACalls PR 8 #[.slice ba bn bc, I i, I k] h (fun v h' => v = .bool true ∧ Stays h h') := by
  have hd1 : (dappend dnew [102] b).2.dead = false ∧ dfind (dappend dnew [102] b).2.fs [103] = none := by
    by_cases hl : b.length ≤ 262144
    · rw [dappend_new rfl rfl (by decide) rfl (by decide) hl]; exact ⟨rfl, rfl⟩
    · rw [dappend_big rfl (by decide) rfl hl]; exact ⟨rfl, rfl⟩
  have g1 := Good.new.append [102] b
  have g2 := g1.turn [102] i k
  have hd2 : (dturn (dappend dnew [102] b).2 [102] i k).2.dead = false ∧ dfind (dturn (dappend dnew [102] b).2 [102] i k).2.fs [103] = none := by
    generalize (dappend dnew [102] b).2 = D at hd1
    unfold dturn
    rw [hd1.1, if_neg (by simp)]
    split
    · exact hd1
    · split
      · exact hd1
      · refine ⟨rfl, dfind_not fun f hf => ?_⟩
        rcases mem_dput.1 hf with rfl | ⟨hf, _⟩
        · show ([102] : Nm) ≠ [103]
          decide
        · exact dfind_none hd1.2 f hf
  refine acalls_of mix Try.func8 rfl rfl Try.ntmps8 Try.results8 rfl ?_; conv => whnf
  refine ACalls.mono (New_any h 1) ?_; rintro _ h1 ⟨p, m, rfl, d1, s1⟩; conv => whnf
  refine ACalls.mono (refNew_any h1 2) ?_; rintro _ h2 ⟨q, rfl, r2, s2⟩; conv => whnf
  have D2 : DA h2 p 1 dnew := DA.sub ⟨_, _, _, _, d1⟩ s2
  refine ACalls.mono (Append_any (by decide) D2 Good.new [102] (by decide) ((sb.sub s1).sub s2) (by decide) hbn) ?_; rintro _ h3 ⟨rfl, D3, k3⟩; conv => whnf
  refine ACalls.mono (refAppend_any (by decide) (r2.keep k3 (by decide)) Good.new [102] (by decide) (((sb.sub s1).sub s2).keep k3 (by decide)) (by decide) (by decide) hbn) ?_; rintro _ h4 ⟨rfl, R4, k4⟩; conv => whnf
  refine ACmp.no (by simp) ?_; conv => whnf
  refine ACalls.mono (Turn_any (D3.keep k4 (by decide)) g1 [102] i k) ?_; rintro _ h5 ⟨rfl, D5, k5⟩; conv => whnf
  refine ACalls.mono (refTurn_any (R4.keep k5 (by decide)) g1 [102] i k) ?_; rintro _ h6 ⟨rfl, R6, k6⟩; conv => whnf
  refine ACmp.no (by simp) ?_; conv => whnf
  refine ACalls.mono (Turn_any (D5.keep k6 (by decide)) g2 [103] i k) ?_; rintro _ h7 ⟨rfl, D7, k7⟩; conv => whnf
  have e3 : dturn (dturn (dappend dnew [102] b).2 [102] i k).2 [103] i k = (121, (dturn (dappend dnew [102] b).2 [102] i k).2) := by
    generalize (dturn (dappend dnew [102] b).2 [102] i k).2 = D at hd2
    unfold dturn
    rw [hd2.1, if_neg (by simp), hd2.2]
  rw [e3] at D7 ⊢
  refine ACmp.no (by simp) ?_; conv => whnf
  refine ACalls.mono (same_any D7 (R6.keep k7 (by decide)) g2) ?_; rintro _ _ ⟨rfl, rfl⟩; conv => whnf
  refine ACalls.mono (works_any _) ?_; rintro _ _ ⟨rfl, rfl⟩; conv => whnf
  exact ⟨rfl, s1.stays.trans (s2.stays.trans ((k3.stays (by decide)).trans ((k4.stays (by decide)).trans ((k5.stays (by decide)).trans ((k6.stays (by decide)).trans (k7.stays (by decide)))))))⟩

set_option maxHeartbeats 4000000 in
theorem Moves_law (h : Heap) (z : AllZero h) {aa ba ca : Option Addr} {an ac bn bc cn cc : Nat} {a b c : List Int} (sa : Sl h (0, 0) aa an ac 1 (bytesV a)) (sb : Sl h (0, 0) ba bn bc 1 (bytesV b)) (sc : Sl h (0, 0) ca cn cc 1 (bytesV c)) :
    ACalls PR 5 #[.slice aa an ac, .slice ba bn bc, .slice ca cn cc] h (fun v h' => v = .bool true ∧ Stays h h') := by
  have la : a.length = an := by have := sa.len; simpa [bytesV] using this
  have lb : b.length = bn := by have := sb.len; simpa [bytesV] using this
  have lc : c.length = cn := by have := sc.len; simpa [bytesV] using this
  have t01 : ((0, 1) : Tag).1 ≠ 1 := by decide
  refine acalls_of mix Try.func5 rfl rfl Try.ntmps5 Try.results5 rfl ?_; conv => whnf
  refine ACalls.mono (works_any h) ?_; rintro _ _ ⟨rfl, rfl⟩; conv => whnf
  by_cases ha : 262144 < an
  · refine ACmp.yes (by omega) ?_; conv => whnf
    exact ⟨rfl, Stays.refl _⟩
  · refine ACmp.no (by omega) ?_; conv => whnf
    by_cases hb : 262144 < bn
    · refine ACmp.yes (by omega) ?_; conv => whnf
      exact ⟨rfl, Stays.refl _⟩
    · refine ACmp.no (by omega) ?_; conv => whnf
      by_cases hc : 262144 < cn
      · refine ACmp.yes (by omega) ?_; conv => whnf
        exact ⟨rfl, Stays.refl _⟩
      · refine ACmp.no (by omega) ?_; conv => whnf
        refine ACalls.mono (New_any h 1) ?_; rintro _ h1 ⟨p, m, rfl, d1, s1⟩; conv => whnf
        have D1 : DA h1 p 1 dnew := ⟨_, _, _, _, d1⟩
        have g1 := Good.new.append [97] a
        refine ACalls.mono (Append_any (by decide) D1 Good.new [97] (by decide) (sa.sub s1) (by decide) (by omega)) ?_; rintro _ h2 ⟨rfl, D2, k2⟩; conv => whnf
        have e1 : dappend dnew [97] a = (0, ⟨[⟨[97], a, 0⟩], false, -1, []⟩) := dappend_new rfl rfl (by decide) rfl (by simp [dnew]) (by omega)
        rw [e1] at D2 g1 ⊢
        refine ACmp.yes (rfl) ?_; conv => whnf
        have st2 : Stays h h2 := s1.stays.trans (k2.stays (by decide))
        refine ACalls.mono (Append_any (by decide) D2 g1 [98] (by decide) (sb.stays st2) (by decide) (by omega)) ?_; rintro _ h3 ⟨rfl, D3, k3⟩; conv => whnf
        have g2 := g1.append [98] b
        have e2 : dappend ⟨[⟨[97], a, 0⟩], false, -1, []⟩ [98] b = (0, ⟨[⟨[97], a, 0⟩, ⟨[98], b, 0⟩], false, -1, []⟩) := dappend_new rfl rfl (by decide) rfl (by simp [dnew]) (by omega)
        rw [e2] at D3 g2 ⊢
        refine ACmp.yes (rfl) ?_; conv => whnf
        have st3 : Stays h h3 := st2.trans (k3.stays (by decide))
        refine ACalls.mono (Append_any (by decide) D3 g2 [99] (by decide) (sc.stays st3) (by decide) (by omega)) ?_; rintro _ h4 ⟨rfl, D4, k4⟩; conv => whnf
        have g3 := g2.append [99] c
        have e3 : dappend ⟨[⟨[97], a, 0⟩, ⟨[98], b, 0⟩], false, -1, []⟩ [99] c = (0, ⟨[⟨[97], a, 0⟩, ⟨[98], b, 0⟩, ⟨[99], c, 0⟩], false, -1, []⟩) := dappend_new rfl rfl (by decide) rfl (by simp [dnew]) (by omega)
        rw [e3] at D4 g3 ⊢
        refine ACmp.yes (rfl) ?_; conv => whnf
        have st4 : Stays h h4 := st3.trans (k4.stays (by decide))
        refine ACalls.mono (Sync_any (by decide) D4 g3 [98]) ?_; rintro _ h5 ⟨rfl, D5, k5⟩; conv => whnf
        have g4 := g3.sync [98]
        have e4 : dsync ⟨[⟨[97], a, 0⟩, ⟨[98], b, 0⟩, ⟨[99], c, 0⟩], false, -1, []⟩ [98] = (0, ⟨[⟨[97], a, 0⟩, ⟨[98], b, b.length⟩, ⟨[99], c, 0⟩], false, -1, []⟩) := dsync_ok rfl rfl (f := ⟨[98], b, 0⟩) rfl
        rw [e4] at D5 g4 ⊢
        refine ACmp.yes (rfl) ?_; conv => whnf
        have st5 : Stays h h5 := st4.trans (k5.stays (by decide))
        refine ACalls.mono (Rename_any (by decide) D5 g4 [97] [98] (by decide)) ?_; rintro _ h6 ⟨rfl, D6, k6⟩; conv => whnf
        have g5 := g4.rename [97] [98]
        have e5 : drename ⟨[⟨[97], a, 0⟩, ⟨[98], b, b.length⟩, ⟨[99], c, 0⟩], false, -1, []⟩ [97] [98] = (0, ⟨[⟨[98], a, 0⟩, ⟨[99], c, 0⟩], false, -1, []⟩) := drename_ok rfl rfl (by decide) (f := ⟨[97], a, 0⟩) rfl
        rw [e5] at D6 g5 ⊢
        refine ACmp.no (by simp) ?_; conv => whnf
        have st6 : Stays h h6 := st5.trans (k6.stays (by decide))
        have r1 := reads_any D6 g5 [98] (sa.stays st6)
        rw [decide_eq_true (by rfl : dread ⟨[⟨[98], a, 0⟩, ⟨[99], c, 0⟩], false, -1, []⟩ [98] = (a, 0))] at r1
        refine ACalls.mono (r1) ?_; rintro _ _ ⟨rfl, rfl⟩; conv => whnf
        have r2 := reads_any D6 g5 [99] (sc.stays st6)
        rw [decide_eq_true (by rfl : dread ⟨[⟨[98], a, 0⟩, ⟨[99], c, 0⟩], false, -1, []⟩ [99] = (c, 0))] at r2
        refine ACalls.mono (r2) ?_; rintro _ _ ⟨rfl, rfl⟩; conv => whnf
        refine ACalls.mono (List_any D6 g5) ?_; rintro _ h7 ⟨a7, c7, rfl, (sl7 : Sl h7 (0, 1) a7 2 c7 1 ([[98], [99]].map S)), s7⟩; conv => whnf
        refine ABuildSl.mk (0, 1) rfl rfl rfl rfl rfl rfl rfl fun b7 f7 => ?_; conv => whnf
        have q7 := f7.sub (row (0, 1) ([[98], [99]].map S) 9)
        have cs := sameN_any _ (sl7.sub q7) (sl_strs (xs := [[98], [99]]) (Heap.set_same _ _ _)) (by decide)
        rw [decide_eq_true rfl] at cs
        refine ACalls.mono (cs) ?_; rintro _ _ ⟨rfl, rfl⟩; conv => whnf
        have D7 := (D6.sub s7).sub q7
        refine ACalls.mono (Crash_any (by decide) D7 g5 (keep := []) (Sl.nil _ (0, 1) none 0 1) t01) ?_; rintro _ h8 ⟨rfl, D8, k8⟩; conv => whnf
        have g6 := g5.crashed []
        have e6 : dcrashed ⟨[⟨[98], a, 0⟩, ⟨[99], c, 0⟩], false, -1, []⟩ [] = (0, ⟨[⟨[98], [], 0⟩, ⟨[99], [], 0⟩], true, -1, []⟩) := rfl
        rw [e6] at D8 g6 ⊢
        refine ACmp.yes (rfl) ?_; conv => whnf
        refine ACalls.mono (Boot_any D8) ?_; rintro _ h9 ⟨rfl, (D9 : DA h9 p 1 ⟨[⟨[98], [], 0⟩, ⟨[99], [], 0⟩], false, -1, []⟩), k9⟩; conv => whnf
        have g7 : Good ⟨[⟨[98], [], 0⟩, ⟨[99], [], 0⟩], false, -1, []⟩ := g6.boot
        refine ACmp.yes (rfl) ?_; conv => whnf
        have r3 := reads_any D9 g7 [98] (b := []) (Sl.nil _ (0, 1) none 0 1)
        rw [decide_eq_true (by rfl : dread ⟨[⟨[98], [], 0⟩, ⟨[99], [], 0⟩], false, -1, []⟩ [98] = ([], 0))] at r3
        refine ACalls.mono (r3) ?_; rintro _ _ ⟨rfl, rfl⟩; conv => whnf
        have r4 := reads_any D9 g7 [99] (b := []) (Sl.nil _ (0, 1) none 0 1)
        rw [decide_eq_true (by rfl : dread ⟨[⟨[98], [], 0⟩, ⟨[99], [], 0⟩], false, -1, []⟩ [99] = ([], 0))] at r4
        refine ACalls.mono (r4) ?_; rintro _ _ ⟨rfl, rfl⟩; conv => whnf
        refine ACalls.mono (Remove_any (by decide) D9 g7 [98]) ?_; rintro _ h10 ⟨rfl, (D10 : DA h10 p 1 ⟨[⟨[99], [], 0⟩], false, -1, []⟩), k10⟩; conv => whnf
        have g8 : Good ⟨[⟨[99], [], 0⟩], false, -1, []⟩ := g7.remove [98]
        refine ACmp.yes (rfl) ?_; conv => whnf
        refine ACalls.mono (List_any D10 g8) ?_; rintro _ h11 ⟨a11, c11, rfl, (sl11 : Sl h11 (0, 1) a11 1 c11 1 ([[99]].map S)), s11⟩; conv => whnf
        refine ABuildSl.mk (0, 1) rfl rfl rfl rfl rfl rfl rfl fun b11 f11 => ?_; conv => whnf
        have q11 := f11.sub (row (0, 1) ([[99]].map S) 9)
        have cs2 := sameN_any _ (sl11.sub q11) (sl_strs (xs := [[99]]) (Heap.set_same _ _ _)) (by decide)
        rw [decide_eq_true rfl] at cs2
        refine ACalls.mono (cs2) ?_; rintro _ _ ⟨rfl, rfl⟩; conv => whnf
        exact ⟨rfl, st6.trans (s7.stays.trans (q7.stays.trans ((k8.stays (by decide)).trans ((k9.stays (by decide)).trans ((k10.stays (by decide)).trans (s11.stays.trans q11.stays))))))⟩
end Go.Ah
