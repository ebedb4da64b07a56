/- DiskArmed. -/
import Derived.Test.YtdacfmgldjegmaaDlG
namespace Go.Ah
open Go.Proofs
set_option linter.unusedVariables false
set_option linter.unusedSimpArgs false
set_option maxRecDepth 20000

/-- one block alone -/
def only (h : Heap) (p : Nat) : Heap := fun c => if c = p then h c else none
theorem only_sub (h : Heap) (p : Nat) : Sub (only h p) h := by
  intro c x e; unfold only at e; split at e
  · exact e
  · cases e
theorem only_at {h : Heap} {p : Nat} {x : Tag × Obj} (e : h p = some x) : only h p p = some x := by simp [only, e]
theorem only_get {h h' : Heap} {p : Nat} (k : ∀ x, h p = some x → h' p = some x) : Sub (only h p) h' := by
  intro c x e; unfold only at e; split at e
  · rename_i hc; subst hc; exact k _ e
  · cases e
/-- one file, so many operations left, or dead -/
def Lives (D : DD) (m : Int) (i : Nat) : Prop := D.dead = false ∧ D.arm = m ∧ 0 ≤ m ∧ ∃ b s, D.fs = [⟨[97], b, s⟩] ∧ b.length ≤ 1000 * i + 1
theorem gone_lives {D : DD} {m : Int} {i : Nat} (l : Lives D m i) : (m = 0 ∧ (dgone D).1 = true ∧ (dgone D).2.dead = true) ∨ (0 < m ∧ dgone D = (false, { D with arm := m - 1 })) := by
  obtain ⟨h1, h2, h3, _⟩ := l
  by_cases h0 : m = 0
  · left
    subst h0
    unfold dgone
    rw [if_pos h2]
    exact ⟨rfl, rfl, rfl⟩
  · right
    unfold dgone
    rw [if_neg (by omega), if_pos (by omega), h2]
    exact ⟨by omega, rfl⟩
/-- what an operation that is not refused does -/
def Done (m : Int) (i : Nat) (r : Int × DD) : Prop := (m = 0 ∧ r.1 = 120 ∧ r.2.dead = true) ∨ (0 < m ∧ r.1 = 0 ∧ Lives r.2 (m - 1) i)
theorem append_lives {D : DD} {m : Int} {i : Nat} (l : Lives D m i) (hi : i < 60) {b : List Int} (hb : b.length ≤ 1000) : Done m (i + 1) (dappend D [97] b) := by
  obtain ⟨h1, h2, h3, b0, s, h4, h5⟩ := l
  have hf : dfind D.fs [97] = some ⟨[97], b0, s⟩ := by rw [h4]; rfl
  have hlim : ¬ 262144 < b0.length + b.length := by omega
  rcases gone_lives ⟨h1, h2, h3, b0, s, h4, h5⟩ with ⟨rfl, g1, g2⟩ | ⟨hm, g⟩
  · left
    have e : dappend D [97] b = (120, (dgone D).2) := by simp [dappend, h1, hf, hlim, g1, show nmOk [97] = true by decide]
    rw [e]; exact ⟨rfl, rfl, g2⟩
  · right
    have e : dappend D [97] b = (0, { D with arm := m - 1, fs := dput ⟨[97], b0 ++ b, s⟩ D.fs }) := by simp [dappend, h1, hf, hlim, g, show nmOk [97] = true by decide]
    rw [e]
    exact ⟨hm, rfl, h1, rfl, by omega, b0 ++ b, s, by rw [h4]; rfl, by simp; omega⟩
theorem sync_lives {D : DD} {m : Int} {i : Nat} (l : Lives D m i) : Done m (i + 1) (dsync D [97]) := by
  obtain ⟨h1, h2, h3, b0, s, h4, h5⟩ := l
  have hf : dfind D.fs [97] = some ⟨[97], b0, s⟩ := by rw [h4]; rfl
  rcases gone_lives ⟨h1, h2, h3, b0, s, h4, h5⟩ with ⟨rfl, g1, g2⟩ | ⟨hm, g⟩
  · left
    have e : dsync D [97] = (120, (dgone D).2) := by simp [dsync, h1, hf, g1]
    rw [e]; exact ⟨rfl, rfl, g2⟩
  · right
    have e : dsync D [97] = (0, { D with arm := m - 1, fs := dput ⟨[97], b0, b0.length⟩ D.fs }) := by simp [dsync, h1, hf, g]
    rw [e]
    exact ⟨hm, rfl, h1, rfl, by omega, b0, b0.length, by rw [h4]; rfl, by omega⟩
theorem rename_lives {D : DD} {m : Int} {i : Nat} (l : Lives D m i) : Done m (i + 1) (drename D [97] [97]) := by
  obtain ⟨h1, h2, h3, b0, s, h4, h5⟩ := l
  have hf : dfind D.fs [97] = some ⟨[97], b0, s⟩ := by rw [h4]; rfl
  rcases gone_lives ⟨h1, h2, h3, b0, s, h4, h5⟩ with ⟨rfl, g1, g2⟩ | ⟨hm, g⟩
  · left
    have e : drename D [97] [97] = (120, (dgone D).2) := by simp [drename, h1, hf, g1, show nmOk [97] = true by decide]
    rw [e]; exact ⟨rfl, rfl, g2⟩
  · right
    have e : drename D [97] [97] = (0, { D with arm := m - 1, fs := dput ⟨[97], b0, s⟩ (dout [97] D.fs) }) := by simp [drename, h1, hf, g, show nmOk [97] = true by decide]
    rw [e]
    exact ⟨hm, rfl, h1, rfl, by omega, b0, s, by rw [h4]; rfl, by omega⟩
theorem refused_lives {D : DD} {m : Int} {i : Nat} (l : Lives D m i) : dappend D [65] [] = (121, D) := by
  simp [dappend, l.1, show nmOk [65] = false by decide]
theorem Lives.succ {D : DD} {m : Int} {i : Nat} (l : Lives D m i) : Lives D m (i + 1) := by
  obtain ⟨h1, h2, h3, b, s, h4, h5⟩ := l
  exact ⟨h1, h2, h3, b, s, h4, by omega⟩

set_option maxHeartbeats 8000000 in
theorem Armed_law (h : Heap) (z : AllZero h) (n : Int) {la : Option Addr} {ln lc : Nat} {ps : List EHd} (sl : Sl h (0, 0) la ln lc 6 (ps.map EHd.cells).flatten) (hpl : ps.length = ln) (hok : ∀ x ∈ ps, x.Ok h) :
    ACalls PR 4 #[I n, .slice la ln lc] h (fun v h' => v = .bool true ∧ Stays h h') := by
  have rz6 : ∀ e ∈ ps.map EHd.cells, e.length = 6 := by intro e he; obtain ⟨x, _, rfl⟩ := List.mem_map.1 he; rfl
  have t01 : ((0, 1) : Tag).1 ≠ 1 := by decide
  refine acalls_of mix Try.func4 rfl rfl Try.ntmps4 Try.results4 rfl ?_; conv => whnf
  refine ACalls.mono (works_any h) ?_; rintro _ _ ⟨rfl, rfl⟩; conv => whnf
  refine ACalls.mono (bring_any n 30 (by omega) _) ?_; rintro _ _ ⟨rfl, rfl⟩; conv => whnf
  have hlo := bring_lo n 30
  have hhi := bring_hi (i := n) (n := 30) (by omega)
  generalize bring n 30 = N at hlo hhi ⊢
  refine ACalls.mono (New_any h 1) ?_; rintro _ h1 ⟨p, m, rfl, d1, s1⟩; conv => whnf
  have D1 : DA h1 p 1 dnew := ⟨_, _, _, _, d1⟩
  refine ABuildSl.mk (0, 1) rfl rfl rfl rfl rfl rfl rfl fun b1 f1 => ?_; conv => whnf
  have q1 := f1.sub (row (0, 1) (bytesV [1]) 5)
  refine ACalls.mono (Append_any (by decide) (D1.sub q1) Good.new [97] (by decide) (sl_bytes (xs := [1]) (Heap.set_same _ _ _)) t01 (by decide)) ?_; rintro _ h2 ⟨rfl, (D2 : DA h2 p 1 ⟨[⟨[97], [1], 0⟩], false, -1, []⟩), k2⟩; conv => whnf
  have g2 : Good ⟨[⟨[97], [1], 0⟩], false, -1, []⟩ := Good.new.append [97] [1]
  refine ACmp.no ((by decide : ¬ (dappend dnew [97] [1]).1 ≠ 0)) ?_; conv => whnf
  refine ACalls.mono (Arm_any (by decide) D2 N (keep := []) (Sl.nil _ (0, 1) none 0 1) t01 (by decide)) ?_; rintro _ h3 ⟨rfl, (D3 : DA h3 p 1 ⟨[⟨[97], [1], 0⟩], false, max N (-1), []⟩), k3⟩; conv => whnf
  have g3 : Good ⟨[⟨[97], [1], 0⟩], false, max N (-1), []⟩ := g2.arm N (by omega) []
  rw [show max N (-1) = N by omega] at D3 g3
  refine ACmp.no ((by show ¬ (0 : Int) ≠ 0; decide)) ?_; conv => whnf
  have L0 : Lives ⟨[⟨[97], [1], 0⟩], false, N, []⟩ (N - (0 : Nat)) 0 := ⟨rfl, by simp, by simpa using hlo, [1], 0, rfl, by simp⟩
  refine ALoop.mk (fun e h' => Stays h h' ∧ ∃ e0, ∃ i dn : Nat, e = updL 140 e0 [(0, I N), (1, .slice la ln lc), (5, Ptr p), (6, I dn), (7, I i)] ∧ i ≤ ln ∧ i ≤ 60 ∧
      ∃ D, DA h' p 1 D ∧ Good D ∧ (Lives D (N - dn) i ∨ (D.dead = true ∧ (dn : Int) = N))) (fun e => ln - natOf (e 7))
    ⟨s1.stays.trans (q1.stays.trans ((k2.stays (by decide)).trans (k3.stays (by decide)))), _, 0, 0, updL_self ⟨rfl, rfl, rfl, rfl, rfl, trivial⟩, by omega, by omega, _, D3, g3, .inl L0⟩ ?_
  rintro e h4 ⟨st, e0, i, dn, rfl, hi, hi60, D, dD, gD, hD⟩
  conv => whnf
  by_cases hlt : i < ln
  · refine ACmp.yes (by omega) ?_; conv => whnf
    by_cases hlt60 : i < 60
    · refine ACmp.yes (by omega) ?_; conv => whnf
      obtain ⟨x, hx⟩ : ∃ x, ps[i]? = some x := ⟨ps[i]'(by omega), by simp⟩
      have hxok := hok _ (List.mem_of_getElem? hx)
      have hxl : x.b.length = x.bn := by have := hxok.sb.len; simpa [bytesV] using this
      have hxn := hxok.bn
      obtain ⟨b, off, l, E', fz, rfl, hb0, hp, hg⟩ := sl.elem rz6 (by simp [hpl]) (by omega) (i := i) (e := x.cells) (by simp [hx])
      have hb := st _ _ hb0
      have gk := hg 0 (by omega)
      have gb := hg 4 (by omega)
      refine AIdx.nat (z := 6) rfl hlt rfl rfl ?_; conv => whnf
      refine ALoad.one rfl hb gk ?_; conv => whnf
      refine ACalls.mono (bring_any x.kind 4 (by omega) _) ?_; rintro _ _ ⟨rfl, rfl⟩; conv => whnf
      have klo := bring_lo x.kind 4
      have khi := bring_hi (i := x.kind) (n := 4) (by omega)
      by_cases c0 : bring x.kind 4 = 0
      · refine ACmp.yes (c0) ?_; conv => whnf
        have slb : Sl h4 (0, 0) x.ba (min x.bn 1000) x.bc 1 (bytesV (x.b.take 1000)) := by
          have := (hxok.sb.stays st).slice (l := 0) (m := min x.bn 1000) (x := x.bc) (by omega) (by omega) (by have := hxok.sb.le; omega)
          rw [slBase_zero] at this
          have e2 : (bytesV x.b).take (min x.bn 1000) = bytesV (x.b.take 1000) := by
            unfold bytesV
            rw [← List.map_take]
            congr 1
            rw [← hxl, Nat.min_comm, ← List.take_take, List.take_length]
          simpa [e2] using this
        have hb2 : (x.b.take 1000).length ≤ 1000 := by simp; omega
        refine ADrawn.mk (only h4 b) [] (only_sub _ _) (by decide +kernel) ?_; conv => whnf
        refine AIdx.nat (z := 6) rfl hlt rfl rfl ?_; conv => whnf
        refine ALoad.one rfl (only_at hb) gb ?_; conv => whnf
        refine AIdx.nat (z := 6) rfl hlt rfl rfl ?_; conv => whnf
        refine ALoad.one rfl (only_at hb) gb ?_; conv => whnf
        refine AInt.as (r' := ((min x.bn 1000 : Nat) : Int)) (by split <;> omega) ?_; conv => whnf
        refine ASlc.upto (m := min x.bn 1000) rfl (by have := hxok.sb.le; omega) rfl rfl ?_; conv => whnf
        refine ACalls.mono (Append_any (by decide) dD gD [97] (by decide) slb (by decide) (by omega)) ?_; rintro _ h6 ⟨rfl, d6, k6⟩; conv => whnf
        refine ⟨only_get fun y e => by rw [hb] at e; cases e; exact k6 _ _ _ (by decide) hb, ?_⟩; conv => whnf
        have g6 := gD.append [97] (x.b.take 1000)
        rcases hD with hL | ⟨hdd, hdn⟩
        · have hr := append_lives hL hlt60 hb2
          have st6 : Stays h h6 := st.trans (k6.stays (by decide))
          refine AIdx.nat (z := 6) rfl hlt rfl rfl ?_; conv => whnf
          refine ALoad.one rfl (st6 _ _ hb0) gk ?_; conv => whnf
          refine ACalls.mono (bring_any x.kind 4 (by omega) _) ?_; rintro _ _ ⟨rfl, rfl⟩; conv => whnf
          refine ACmp.no (by omega) ?_; conv => whnf
          rcases hr with ⟨rd0, rd1, rd2⟩ | ⟨rd0, rd1, rl⟩
          · have cd := Dead_any d6
            rw [rd2] at cd
            rw [rd1]
            refine ACalls.mono (cd) ?_; rintro _ _ ⟨rfl, rfl⟩; conv => whnf
            refine ACmp.yes (rfl) ?_; conv => whnf
            refine ACmp.no (by decide) ?_; conv => whnf
            refine ACmp.no (by decide) ?_; conv => whnf
            refine ACmp.no (by omega) ?_; conv => whnf
            have cd3 := Dead_any d6
            rw [rd2] at cd3
            refine ACalls.mono (cd3) ?_; rintro _ _ ⟨rfl, rfl⟩; conv => whnf
            refine ACmp.no (by omega) ?_; conv => whnf
            refine AArith.ok (by omega) (by omega) ((by omega : (i : Int) + 1 = ((i + 1 : Nat) : Int))) ?_; conv => whnf
            refine ⟨⟨st6, _, i + 1, dn, updL_self ⟨rfl, rfl, rfl, rfl, rfl, trivial⟩, by omega, by omega, _, d6, g6, (.inr ⟨rd2, by omega⟩)⟩, ?_⟩
            show ln - (i + 1) < ln - i
            omega
          · have cd := Dead_any d6
            rw [rl.1] at cd
            rw [rd1]
            refine ACalls.mono (cd) ?_; rintro _ _ ⟨rfl, rfl⟩; conv => whnf
            refine ACmp.no (by decide) ?_; conv => whnf
            refine ACmp.yes (rfl) ?_; conv => whnf
            refine AArith.ok (by omega) (by omega) ((by omega : (dn : Int) + 1 = ((dn + 1 : Nat) : Int))) ?_; conv => whnf
            refine ACmp.no (by omega) ?_; conv => whnf
            have cd3 := Dead_any d6
            rw [rl.1] at cd3
            refine ACalls.mono (cd3) ?_; rintro _ _ ⟨rfl, rfl⟩; conv => whnf
            have rl' := rl
            rw [show N - (dn : Int) - 1 = N - ((dn + 1 : Nat) : Int) by omega] at rl'
            refine AArith.ok (by omega) (by omega) ((by omega : (i : Int) + 1 = ((i + 1 : Nat) : Int))) ?_; conv => whnf
            refine ⟨⟨st6, _, i + 1, (dn + 1), updL_self ⟨rfl, rfl, rfl, rfl, rfl, trivial⟩, by omega, by omega, _, d6, g6, (.inl rl')⟩, ?_⟩
            show ln - (i + 1) < ln - i
            omega
        · have e : dappend D [97] (x.b.take 1000) = (120, D) := by simp [dappend, hdd]
          rw [e] at d6 g6 ⊢
          have rd1 : (120, D).1 = (120 : Int) := rfl
          have rd2 : (120, D).2.dead = true := hdd
          have st6 : Stays h h6 := st.trans (k6.stays (by decide))
          refine AIdx.nat (z := 6) rfl hlt rfl rfl ?_; conv => whnf
          refine ALoad.one rfl (st6 _ _ hb0) gk ?_; conv => whnf
          refine ACalls.mono (bring_any x.kind 4 (by omega) _) ?_; rintro _ _ ⟨rfl, rfl⟩; conv => whnf
          refine ACmp.no (by omega) ?_; conv => whnf
          have cd := Dead_any d6
          rw [rd2] at cd
          rw [rd1]
          refine ACalls.mono (cd) ?_; rintro _ _ ⟨rfl, rfl⟩; conv => whnf
          refine ACmp.yes (rfl) ?_; conv => whnf
          refine ACmp.no (by decide) ?_; conv => whnf
          refine ACmp.no (by decide) ?_; conv => whnf
          refine ACmp.no (by omega) ?_; conv => whnf
          have cd3 := Dead_any d6
          rw [rd2] at cd3
          refine ACalls.mono (cd3) ?_; rintro _ _ ⟨rfl, rfl⟩; conv => whnf
          refine ACmp.no (by omega) ?_; conv => whnf
          refine AArith.ok (by omega) (by omega) ((by omega : (i : Int) + 1 = ((i + 1 : Nat) : Int))) ?_; conv => whnf
          refine ⟨⟨st6, _, i + 1, dn, updL_self ⟨rfl, rfl, rfl, rfl, rfl, trivial⟩, by omega, by omega, _, d6, g6, (.inr ⟨rd2, by omega⟩)⟩, ?_⟩
          show ln - (i + 1) < ln - i
          omega
      · refine ACmp.no (c0) ?_; conv => whnf
        by_cases c1 : bring x.kind 4 = 1
        · refine ACmp.yes (c1) ?_; conv => whnf
          refine ACalls.mono (Sync_any (by decide) dD gD [97]) ?_; rintro _ h6 ⟨rfl, d6, k6⟩; conv => whnf
          have g6 := gD.sync [97]
          rcases hD with hL | ⟨hdd, hdn⟩
          · have hr := sync_lives hL
            have st6 : Stays h h6 := st.trans (k6.stays (by decide))
            refine AIdx.nat (z := 6) rfl hlt rfl rfl ?_; conv => whnf
            refine ALoad.one rfl (st6 _ _ hb0) gk ?_; conv => whnf
            refine ACalls.mono (bring_any x.kind 4 (by omega) _) ?_; rintro _ _ ⟨rfl, rfl⟩; conv => whnf
            refine ACmp.no (by omega) ?_; conv => whnf
            rcases hr with ⟨rd0, rd1, rd2⟩ | ⟨rd0, rd1, rl⟩
            · have cd := Dead_any d6
              rw [rd2] at cd
              rw [rd1]
              refine ACalls.mono (cd) ?_; rintro _ _ ⟨rfl, rfl⟩; conv => whnf
              refine ACmp.yes (rfl) ?_; conv => whnf
              refine ACmp.no (by decide) ?_; conv => whnf
              refine ACmp.no (by decide) ?_; conv => whnf
              refine ACmp.no (by omega) ?_; conv => whnf
              have cd3 := Dead_any d6
              rw [rd2] at cd3
              refine ACalls.mono (cd3) ?_; rintro _ _ ⟨rfl, rfl⟩; conv => whnf
              refine ACmp.no (by omega) ?_; conv => whnf
              refine AArith.ok (by omega) (by omega) ((by omega : (i : Int) + 1 = ((i + 1 : Nat) : Int))) ?_; conv => whnf
              refine ⟨⟨st6, _, i + 1, dn, updL_self ⟨rfl, rfl, rfl, rfl, rfl, trivial⟩, by omega, by omega, _, d6, g6, (.inr ⟨rd2, by omega⟩)⟩, ?_⟩
              show ln - (i + 1) < ln - i
              omega
            · have cd := Dead_any d6
              rw [rl.1] at cd
              rw [rd1]
              refine ACalls.mono (cd) ?_; rintro _ _ ⟨rfl, rfl⟩; conv => whnf
              refine ACmp.no (by decide) ?_; conv => whnf
              refine ACmp.yes (rfl) ?_; conv => whnf
              refine AArith.ok (by omega) (by omega) ((by omega : (dn : Int) + 1 = ((dn + 1 : Nat) : Int))) ?_; conv => whnf
              refine ACmp.no (by omega) ?_; conv => whnf
              have cd3 := Dead_any d6
              rw [rl.1] at cd3
              refine ACalls.mono (cd3) ?_; rintro _ _ ⟨rfl, rfl⟩; conv => whnf
              have rl' := rl
              rw [show N - (dn : Int) - 1 = N - ((dn + 1 : Nat) : Int) by omega] at rl'
              refine AArith.ok (by omega) (by omega) ((by omega : (i : Int) + 1 = ((i + 1 : Nat) : Int))) ?_; conv => whnf
              refine ⟨⟨st6, _, i + 1, (dn + 1), updL_self ⟨rfl, rfl, rfl, rfl, rfl, trivial⟩, by omega, by omega, _, d6, g6, (.inl rl')⟩, ?_⟩
              show ln - (i + 1) < ln - i
              omega
          · have e : dsync D [97] = (120, D) := by simp [dsync, hdd]
            rw [e] at d6 g6 ⊢
            have rd1 : (120, D).1 = (120 : Int) := rfl
            have rd2 : (120, D).2.dead = true := hdd
            have st6 : Stays h h6 := st.trans (k6.stays (by decide))
            refine AIdx.nat (z := 6) rfl hlt rfl rfl ?_; conv => whnf
            refine ALoad.one rfl (st6 _ _ hb0) gk ?_; conv => whnf
            refine ACalls.mono (bring_any x.kind 4 (by omega) _) ?_; rintro _ _ ⟨rfl, rfl⟩; conv => whnf
            refine ACmp.no (by omega) ?_; conv => whnf
            have cd := Dead_any d6
            rw [rd2] at cd
            rw [rd1]
            refine ACalls.mono (cd) ?_; rintro _ _ ⟨rfl, rfl⟩; conv => whnf
            refine ACmp.yes (rfl) ?_; conv => whnf
            refine ACmp.no (by decide) ?_; conv => whnf
            refine ACmp.no (by decide) ?_; conv => whnf
            refine ACmp.no (by omega) ?_; conv => whnf
            have cd3 := Dead_any d6
            rw [rd2] at cd3
            refine ACalls.mono (cd3) ?_; rintro _ _ ⟨rfl, rfl⟩; conv => whnf
            refine ACmp.no (by omega) ?_; conv => whnf
            refine AArith.ok (by omega) (by omega) ((by omega : (i : Int) + 1 = ((i + 1 : Nat) : Int))) ?_; conv => whnf
            refine ⟨⟨st6, _, i + 1, dn, updL_self ⟨rfl, rfl, rfl, rfl, rfl, trivial⟩, by omega, by omega, _, d6, g6, (.inr ⟨rd2, by omega⟩)⟩, ?_⟩
            show ln - (i + 1) < ln - i
            omega
        · refine ACmp.no (c1) ?_; conv => whnf
          by_cases c2 : bring x.kind 4 = 2
          · refine ACmp.yes (c2) ?_; conv => whnf
            refine ACalls.mono (Rename_any (by decide) dD gD [97] [97] (by decide)) ?_; rintro _ h6 ⟨rfl, d6, k6⟩; conv => whnf
            have g6 := gD.rename [97] [97]
            rcases hD with hL | ⟨hdd, hdn⟩
            · have hr := rename_lives hL
              have st6 : Stays h h6 := st.trans (k6.stays (by decide))
              refine AIdx.nat (z := 6) rfl hlt rfl rfl ?_; conv => whnf
              refine ALoad.one rfl (st6 _ _ hb0) gk ?_; conv => whnf
              refine ACalls.mono (bring_any x.kind 4 (by omega) _) ?_; rintro _ _ ⟨rfl, rfl⟩; conv => whnf
              refine ACmp.no (by omega) ?_; conv => whnf
              rcases hr with ⟨rd0, rd1, rd2⟩ | ⟨rd0, rd1, rl⟩
              · have cd := Dead_any d6
                rw [rd2] at cd
                rw [rd1]
                refine ACalls.mono (cd) ?_; rintro _ _ ⟨rfl, rfl⟩; conv => whnf
                refine ACmp.yes (rfl) ?_; conv => whnf
                refine ACmp.no (by decide) ?_; conv => whnf
                refine ACmp.no (by decide) ?_; conv => whnf
                refine ACmp.no (by omega) ?_; conv => whnf
                have cd3 := Dead_any d6
                rw [rd2] at cd3
                refine ACalls.mono (cd3) ?_; rintro _ _ ⟨rfl, rfl⟩; conv => whnf
                refine ACmp.no (by omega) ?_; conv => whnf
                refine AArith.ok (by omega) (by omega) ((by omega : (i : Int) + 1 = ((i + 1 : Nat) : Int))) ?_; conv => whnf
                refine ⟨⟨st6, _, i + 1, dn, updL_self ⟨rfl, rfl, rfl, rfl, rfl, trivial⟩, by omega, by omega, _, d6, g6, (.inr ⟨rd2, by omega⟩)⟩, ?_⟩
                show ln - (i + 1) < ln - i
                omega
              · have cd := Dead_any d6
                rw [rl.1] at cd
                rw [rd1]
                refine ACalls.mono (cd) ?_; rintro _ _ ⟨rfl, rfl⟩; conv => whnf
                refine ACmp.no (by decide) ?_; conv => whnf
                refine ACmp.yes (rfl) ?_; conv => whnf
                refine AArith.ok (by omega) (by omega) ((by omega : (dn : Int) + 1 = ((dn + 1 : Nat) : Int))) ?_; conv => whnf
                refine ACmp.no (by omega) ?_; conv => whnf
                have cd3 := Dead_any d6
                rw [rl.1] at cd3
                refine ACalls.mono (cd3) ?_; rintro _ _ ⟨rfl, rfl⟩; conv => whnf
                have rl' := rl
                rw [show N - (dn : Int) - 1 = N - ((dn + 1 : Nat) : Int) by omega] at rl'
                refine AArith.ok (by omega) (by omega) ((by omega : (i : Int) + 1 = ((i + 1 : Nat) : Int))) ?_; conv => whnf
                refine ⟨⟨st6, _, i + 1, (dn + 1), updL_self ⟨rfl, rfl, rfl, rfl, rfl, trivial⟩, by omega, by omega, _, d6, g6, (.inl rl')⟩, ?_⟩
                show ln - (i + 1) < ln - i
                omega
            · have e : drename D [97] [97] = (120, D) := by simp [drename, hdd]
              rw [e] at d6 g6 ⊢
              have rd1 : (120, D).1 = (120 : Int) := rfl
              have rd2 : (120, D).2.dead = true := hdd
              have st6 : Stays h h6 := st.trans (k6.stays (by decide))
              refine AIdx.nat (z := 6) rfl hlt rfl rfl ?_; conv => whnf
              refine ALoad.one rfl (st6 _ _ hb0) gk ?_; conv => whnf
              refine ACalls.mono (bring_any x.kind 4 (by omega) _) ?_; rintro _ _ ⟨rfl, rfl⟩; conv => whnf
              refine ACmp.no (by omega) ?_; conv => whnf
              have cd := Dead_any d6
              rw [rd2] at cd
              rw [rd1]
              refine ACalls.mono (cd) ?_; rintro _ _ ⟨rfl, rfl⟩; conv => whnf
              refine ACmp.yes (rfl) ?_; conv => whnf
              refine ACmp.no (by decide) ?_; conv => whnf
              refine ACmp.no (by decide) ?_; conv => whnf
              refine ACmp.no (by omega) ?_; conv => whnf
              have cd3 := Dead_any d6
              rw [rd2] at cd3
              refine ACalls.mono (cd3) ?_; rintro _ _ ⟨rfl, rfl⟩; conv => whnf
              refine ACmp.no (by omega) ?_; conv => whnf
              refine AArith.ok (by omega) (by omega) ((by omega : (i : Int) + 1 = ((i + 1 : Nat) : Int))) ?_; conv => whnf
              refine ⟨⟨st6, _, i + 1, dn, updL_self ⟨rfl, rfl, rfl, rfl, rfl, trivial⟩, by omega, by omega, _, d6, g6, (.inr ⟨rd2, by omega⟩)⟩, ?_⟩
              show ln - (i + 1) < ln - i
              omega
          · refine ACmp.no (c2) ?_; conv => whnf
            refine ACalls.mono (Append_any (by decide) dD gD [65] (by decide) (b := []) (Sl.nil _ (0, 1) none 0 1) (by decide) (by decide)) ?_; rintro _ h6 ⟨rfl, d6, k6⟩; conv => whnf
            have g6 := gD.append [65] []
            rcases hD with hL | ⟨hdd, hdn⟩
            · rw [refused_lives hL] at d6 g6 ⊢
              have st6 : Stays h h6 := st.trans (k6.stays (by decide))
              refine AIdx.nat (z := 6) rfl hlt rfl rfl ?_; conv => whnf
              refine ALoad.one rfl (st6 _ _ hb0) gk ?_; conv => whnf
              refine ACalls.mono (bring_any x.kind 4 (by omega) _) ?_; rintro _ _ ⟨rfl, rfl⟩; conv => whnf
              refine ACmp.yes (by omega) ?_; conv => whnf
              have cd := Dead_any d6
              rw [show ((121, D) : Int × DD).2.dead = false from hL.1] at cd
              refine ACalls.mono (cd) ?_; rintro _ _ ⟨rfl, rfl⟩; conv => whnf
              refine ACmp.no (by simp) ?_; conv => whnf
              refine ACmp.no (by simp) ?_; conv => whnf
              refine ACmp.yes (by simp) ?_; conv => whnf
              refine ACmp.yes (rfl) ?_; conv => whnf
              refine ACmp.no (by simp) ?_; conv => whnf
              have hm := hL.2.2.1
              refine ACmp.no (by omega) ?_; conv => whnf
              have cd3 := Dead_any d6
              rw [show ((121, D) : Int × DD).2.dead = false from hL.1] at cd3
              refine ACalls.mono (cd3) ?_; rintro _ _ ⟨rfl, rfl⟩; conv => whnf
              refine AArith.ok (by omega) (by omega) ((by omega : (i : Int) + 1 = ((i + 1 : Nat) : Int))) ?_; conv => whnf
              refine ⟨⟨st6, _, i + 1, dn, updL_self ⟨rfl, rfl, rfl, rfl, rfl, trivial⟩, by omega, by omega, _, d6, g6, (.inl hL.succ)⟩, ?_⟩
              show ln - (i + 1) < ln - i
              omega
            · have e : dappend D [65] [] = (120, D) := by simp [dappend, hdd]
              rw [e] at d6 g6 ⊢
              have st6 : Stays h h6 := st.trans (k6.stays (by decide))
              refine AIdx.nat (z := 6) rfl hlt rfl rfl ?_; conv => whnf
              refine ALoad.one rfl (st6 _ _ hb0) gk ?_; conv => whnf
              refine ACalls.mono (bring_any x.kind 4 (by omega) _) ?_; rintro _ _ ⟨rfl, rfl⟩; conv => whnf
              refine ACmp.yes (by omega) ?_; conv => whnf
              have cd := Dead_any d6
              rw [show ((120, D) : Int × DD).2.dead = true from hdd] at cd
              refine ACalls.mono (cd) ?_; rintro _ _ ⟨rfl, rfl⟩; conv => whnf
              refine ACmp.yes (rfl) ?_; conv => whnf
              refine ACmp.no (by simp) ?_; conv => whnf
              refine ACmp.no (by simp) ?_; conv => whnf
              refine ACmp.yes (rfl) ?_; conv => whnf
              refine ACmp.no (by omega) ?_; conv => whnf
              refine ACmp.no (by omega) ?_; conv => whnf
              have cd3 := Dead_any d6
              rw [show ((120, D) : Int × DD).2.dead = true from hdd] at cd3
              refine ACalls.mono (cd3) ?_; rintro _ _ ⟨rfl, rfl⟩; conv => whnf
              refine ACmp.no (by omega) ?_; conv => whnf
              refine AArith.ok (by omega) (by omega) ((by omega : (i : Int) + 1 = ((i + 1 : Nat) : Int))) ?_; conv => whnf
              refine ⟨⟨st6, _, i + 1, dn, updL_self ⟨rfl, rfl, rfl, rfl, rfl, trivial⟩, by omega, by omega, _, d6, g6, (.inr ⟨hdd, hdn⟩)⟩, ?_⟩
              show ln - (i + 1) < ln - i
              omega
    · refine ACmp.no (by omega) ?_; conv => whnf
      refine ACalls.mono (Read_any dD gD [97] (0, 1)) ?_; rintro _ h5 ⟨a5, c5, rfl, own5, s5⟩; conv => whnf
      have d5 := dD.sub s5
      have cd := Dead_any d5
      rcases hD with hL | ⟨hdd, _⟩
      · have hdd := hL.1
        have er : (dread D [97]).2 = 0 := by
          obtain ⟨x1, _, _, b, s, x4, _⟩ := hL
          unfold dread
          rw [x1, x4]; rfl
        rw [er]
        rw [hdd] at cd
        refine ACmp.no (by decide) ?_; conv => whnf
        refine ACalls.mono (cd) ?_; rintro _ _ ⟨rfl, rfl⟩; conv => whnf
        refine ACalls.mono (Boot_any d5) ?_; rintro _ h6 ⟨rfl, d6, k6⟩; conv => whnf
        refine ACmp.yes (rfl) ?_; conv => whnf
        have cd2 := Dead_any d6
        refine ACalls.mono (cd2) ?_; rintro _ _ ⟨rfl, rfl⟩; conv => whnf
        exact ⟨rfl, st.trans (s5.stays.trans (k6.stays (by decide)))⟩
      · have er : (dread D [97]).2 = 120 := by unfold dread; rw [hdd]; rfl
        rw [er]
        rw [hdd] at cd
        refine ACmp.yes (rfl) ?_; conv => whnf
        refine ACalls.mono (cd) ?_; rintro _ _ ⟨rfl, rfl⟩; conv => whnf
        refine ACalls.mono (Boot_any d5) ?_; rintro _ h6 ⟨rfl, d6, k6⟩; conv => whnf
        refine ACmp.yes (rfl) ?_; conv => whnf
        have cd2 := Dead_any d6
        refine ACalls.mono (cd2) ?_; rintro _ _ ⟨rfl, rfl⟩; conv => whnf
        exact ⟨rfl, st.trans (s5.stays.trans (k6.stays (by decide)))⟩
  · refine ACmp.no (by omega) ?_; conv => whnf
    refine ACalls.mono (Read_any dD gD [97] (0, 1)) ?_; rintro _ h5 ⟨a5, c5, rfl, own5, s5⟩; conv => whnf
    have d5 := dD.sub s5
    have cd := Dead_any d5
    rcases hD with hL | ⟨hdd, _⟩
    · have hdd := hL.1
      have er : (dread D [97]).2 = 0 := by
        obtain ⟨x1, _, _, b, s, x4, _⟩ := hL
        unfold dread
        rw [x1, x4]; rfl
      rw [er]
      rw [hdd] at cd
      refine ACmp.no (by decide) ?_; conv => whnf
      refine ACalls.mono (cd) ?_; rintro _ _ ⟨rfl, rfl⟩; conv => whnf
      refine ACalls.mono (Boot_any d5) ?_; rintro _ h6 ⟨rfl, d6, k6⟩; conv => whnf
      refine ACmp.yes (rfl) ?_; conv => whnf
      have cd2 := Dead_any d6
      refine ACalls.mono (cd2) ?_; rintro _ _ ⟨rfl, rfl⟩; conv => whnf
      exact ⟨rfl, st.trans (s5.stays.trans (k6.stays (by decide)))⟩
    · have er : (dread D [97]).2 = 120 := by unfold dread; rw [hdd]; rfl
      rw [er]
      rw [hdd] at cd
      refine ACmp.yes (rfl) ?_; conv => whnf
      refine ACalls.mono (cd) ?_; rintro _ _ ⟨rfl, rfl⟩; conv => whnf
      refine ACalls.mono (Boot_any d5) ?_; rintro _ h6 ⟨rfl, d6, k6⟩; conv => whnf
      refine ACmp.yes (rfl) ?_; conv => whnf
      have cd2 := Dead_any d6
      refine ACalls.mono (cd2) ?_; rintro _ _ ⟨rfl, rfl⟩; conv => whnf
      exact ⟨rfl, st.trans (s5.stays.trans (k6.stays (by decide)))⟩
end Go.Ah
