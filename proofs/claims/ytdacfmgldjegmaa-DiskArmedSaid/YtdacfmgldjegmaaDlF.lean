/- DiskDeeds. -/
import Derived.Test.YtdacfmgldjegmaaDlE
namespace Go.Ah
open Go.Proofs
set_option linter.unusedVariables false
set_option linter.unusedSimpArgs false
set_option maxRecDepth 20000

theorem Keeps.drop1 {a b oo : Nat} {h h' : Heap} (k : Keeps [a, b, oo] h h') (n : NoOwner oo h) : Keeps [a, b] h h' := fun c t x hn e => k _ _ _ (by
  simp only [List.mem_cons, List.not_mem_nil, or_false, not_or] at hn ⊢
  exact ⟨hn.1, hn.2, n _ _ _ e⟩) e
theorem DA.keeps {h h' : Heap} {os : List Nat} {p o : Nat} {D : DD} (d : DA h p o D) (k : Keeps os h h') (n : o ∉ os) : DA h' p o D := by
  obtain ⟨m, es, clock, L, d⟩ := d; exact ⟨m, es, clock, L, d.move fun _ _ _ ht e => k _ _ _ (by rw [ht]; exact n) e⟩
theorem RA.keeps {h h' : Heap} {os : List Nat} {p o : Nat} {D : DD} (d : RA h p o D) (k : Keeps os h h') (n : o ∉ os) : RA h' p o D := by
  obtain ⟨R, rl, la, lc, ka, kn, kc, d⟩ := d; exact ⟨R, rl, la, lc, ka, kn, kc, d.move fun _ _ _ ht e => k _ _ _ (by rw [ht]; exact n) e⟩
theorem EHd.Ok.stays {h h' : Heap} {x : EHd} (k : x.Ok h) (s : Stays h h') : x.Ok h' := ⟨k.sb.stays s, k.bn, k.sk.stays s, k.kn, k.nl, k.tl, k.nlo, k.nhi⟩

set_option maxHeartbeats 8000000 in
theorem deed_any {h : Heap} {p q : Nat} {D : DD} (da : DA h p 1 D) (ra : RA h q 2 D) (g : Good D) (x : EHd) (ok : x.Ok h) :
    ACalls PR 27 #[Ptr p, Ptr q, .agg #[I x.kind, I x.n_, S x.name, S x.to, .slice x.ba x.bn x.bc, .slice x.ka x.kn x.kc]] h (fun v h' => v = .bool true ∧ (∃ D', DA h' p 1 D' ∧ RA h' q 2 D' ∧ Good D') ∧ Keeps [1, 2] h h') := by
  refine ACalls.owner ⟨Try.f27, Try.func27, rfl, rfl⟩ fun o0 ho0 bnd0 => ?_
  obtain ⟨oo, hoo, hoo3, bnd⟩ : ∃ oo, oo ≠ 0 ∧ 3 ≤ oo ∧ NoOwner oo h := ⟨o0 + 3, by omega, by omega, bnd0.no (by omega)⟩
  refine ACalls.mono (?_ : ACalls PR 27 _ h (fun v h' => v = .bool true ∧ (∃ D', DA h' p 1 D' ∧ RA h' q 2 D' ∧ Good D') ∧ Keeps [1, 2, oo] h h')) fun v h' ⟨e, d, k⟩ => ⟨e, d, k.drop1 bnd⟩
  have hbl : x.b.length = x.bn := by have := ok.sb.len; simpa [bytesV] using this
  have hkl : x.keep.length = x.kn := by have := ok.sk.len; simpa using this
  have hbn := ok.bn
  have hkn := ok.kn
  refine acalls_of mix Try.func27 rfl rfl Try.ntmps27 Try.results27 rfl ?_; conv => whnf
  refine ABox.mk (0, 1) rfl fun b5 f5 => ?_; conv => whnf
  have s5 := f5.sub (row (0, 1) [I x.kind, I x.n_, S x.name, S x.to, .slice x.ba x.bn x.bc, .slice x.ka x.kn x.kc] 43)
  have k5 := Heap.set_same h b5 (row (0, 1) [I x.kind, I x.n_, S x.name, S x.to, .slice x.ba x.bn x.bc, .slice x.ka x.kn x.kc] 43)
  have da5 := da.sub s5
  have ra5 := ra.sub s5
  have sb5 := ok.sb.sub s5
  have sk5 := ok.sk.sub s5
  have kp5 : Keeps [1, 2, oo] h (h.set b5 (row (0, 1) [I x.kind, I x.n_, S x.name, S x.to, .slice x.ba x.bn x.bc, .slice x.ka x.kn x.kc] 43)) := s5.keeps _
  generalize h.set b5 (row (0, 1) [I x.kind, I x.n_, S x.name, S x.to, .slice x.ba x.bn x.bc, .slice x.ka x.kn x.kc] 43) = h5 at s5 k5 da5 ra5 sb5 sk5 kp5 ⊢
  refine ADrawn.mkO (h5) [] [0, 1, 3, 4, 2, 5, 6, 7] (Sub.refl _) (by decide +kernel) ?_; conv => whnf
  refine ALoad.one rfl k5 rfl ?_; conv => whnf
  refine ALoad.one rfl k5 rfl ?_; conv => whnf
  refine ACalls.mono (copyB_any _ (oo, 1) sb5 (by omega)) ?_; rintro _ h6 ⟨a6, c6, rfl, own6, s6⟩; conv => whnf
  refine ⟨s6, ?_⟩; conv => whnf
  refine ACalls.mono (copyI_any _ (oo, 2) (sk5.sub s6) hkn) ?_; rintro _ h7 ⟨a7, c7, rfl, own7, s7⟩; conv => whnf
  refine ⟨s6.trans s7, ?_⟩; conv => whnf
  have s67 := s6.trans s7
  have k7 := s67 _ _ k5
  have D7 := da5.sub s67
  have R7 := ra5.sub s67
  have sb7 := sb5.sub s67
  have sk7 := sk5.sub s67
  have in7 := own6.move (h' := h7) fun _ _ e => s7 _ _ e
  have kp7 := kp5.trans (s67.keeps [1, 2, oo])
  clear own6 da5 ra5 sb5 sk5 s6 s7 s67 k5 kp5
  refine ALoad.one rfl k7 rfl ?_; conv => whnf
  refine ACalls.mono (bring_any x.kind 9 (by omega) _) ?_; rintro _ _ ⟨rfl, rfl⟩; conv => whnf
  have hlo := bring_lo x.kind 9
  have hhi := bring_hi (i := x.kind) (n := 9) (by omega)
  have t1 : (1 : Nat) ∉ [2] := by decide
  have m1 : (1 : Nat) ∈ [1, 2, oo] := by simp
  have m2 : (2 : Nat) ∈ [1, 2, oo] := by simp
  have moo : oo ∈ [1, 2, oo] := by simp
  have o1 : ((oo, 1) : Tag).1 ≠ 1 := by simp; omega
  have o2 : ((oo, 1) : Tag).1 ≠ 2 := by simp; omega
  have o1' : ((oo, 2) : Tag).1 ≠ 1 := by simp; omega
  have o2' : ((oo, 2) : Tag).1 ≠ 2 := by simp; omega
  have z1 : ((0, 0) : Tag).1 ≠ 1 := by decide
  have z2 : ((0, 0) : Tag).1 ≠ 2 := by decide
  have y1 : ((0, 1) : Tag).1 ≠ 1 := by decide
  have y2 : ((0, 1) : Tag).1 ≠ 2 := by decide
  by_cases q0 : bring x.kind 9 = 0
  · refine ACmp.yes (q0) ?_; conv => whnf
    refine ALoad.one rfl k7 rfl ?_; conv => whnf
    refine ACalls.mono (Append_any (by decide) D7 g x.name ok.nl in7.sl o1 (by omega)) ?_; rintro _ h8 ⟨rfl, D8, ka8⟩; conv => whnf
    refine ALoad.one rfl (ka8 _ _ _ y1 k7) rfl ?_; conv => whnf
    refine ALoad.one rfl (ka8 _ _ _ y1 k7) rfl ?_; conv => whnf
    refine ACalls.mono (refAppend_any (by decide) (R7.keep ka8 (by decide)) g x.name ok.nl (sb7.keep ka8 z1) z2 (by decide) (by omega)) ?_; rintro _ h9 ⟨rfl, R9, kb9⟩; conv => whnf
    have GX := g.append x.name x.b
    have k9 := kb9 _ _ _ y2 (ka8 _ _ _ y1 k7)
    have sb9 := (sb7.keep ka8 z1).keep kb9 z2
    have sk9 := (sk7.keep ka8 z1).keep kb9 z2
    have in9 := (in7.move fun b y e => ka8 _ _ _ o1 e).move fun b y e => kb9 _ _ _ o2 e
    have ik9 := (own7.move fun b y e => ka8 _ _ _ o1' e).move fun b y e => kb9 _ _ _ o2' e
    have kp9 := (kp7.trans (ka8.keeps m1)).trans (kb9.keeps m2)
    have D9 := D8.keep kb9 (by decide)
    refine ALoad.one rfl k9 rfl ?_; conv => whnf
    have ce := eqBytes_any _ in9.sl sb9 (by omega)
    rw [decide_eq_true rfl] at ce
    refine ACalls.mono (ce) ?_; rintro _ _ ⟨rfl, rfl⟩; conv => whnf
    refine ALoad.one rfl k9 rfl ?_; conv => whnf
    have ce2 := eqInts_any _ ik9.sl sk9 (by omega)
    rw [decide_eq_true rfl] at ce2
    refine ACalls.mono (ce2) ?_; rintro _ _ ⟨rfl, rfl⟩; conv => whnf
    obtain ⟨DX, hDX⟩ : ∃ DX, DX = (dappend D x.name x.b).2 := ⟨_, rfl⟩
    rw [← hDX] at D9 R9 GX
    clear hDX
    refine ALoop.mk (fun e h3 => (KeepT (oo, 1) h9 h3) ∧ ∃ e0, ∃ k : Nat, ∃ xs : List Int, e = updL 189 e0 [(0, Ptr p), (1, Ptr q), (5, Ptr b5), (7, I (dappend D x.name x.b).1), (8, I (dappend D x.name x.b).1), (9, .slice a6 x.bn c6), (10, .slice a7 x.kn c7), (11, I k)] ∧ k ≤ x.bn ∧ xs.length = x.bn ∧
        Own h3 (oo, 1) 5 a6 x.bn c6 1 (bytesV xs)) (fun e => x.bn - natOf (e 11))
      ⟨KeepT.refl _ _, _, 0, x.b, updL_self ⟨rfl, rfl, rfl, rfl, rfl, rfl, rfl, rfl, trivial⟩, by omega, hbl, in9⟩ ?_
    rintro e h10 ⟨kt10, e0, k, xs, rfl, hk, hxl, own10⟩
    conv => whnf
    by_cases hkl : k < x.bn
    · refine ACmp.yes (by omega) ?_; conv => whnf
      obtain ⟨b11, l11, hb11a, hb11, hil11, hget11, hset11⟩ := own10.setc (i := k) hkl
      subst hb11a
      have hxk : (bytesV xs)[k]? = some (.int .u8 (xs[k]'(by omega))) := by simp [bytesV, show k < xs.length by omega]
      refine AIdx.nat (z := 1) rfl hkl rfl rfl ?_; conv => whnf
      refine ALoad.one rfl hb11 (by rw [Nat.zero_add, Nat.mul_one, hget11, hxk]) ?_; conv => whnf
      refine AArith.raw ?_; conv => whnf
      refine AIdx.nat (z := 1) rfl hkl rfl rfl ?_; conv => whnf
      refine AStore.one rfl rfl rfl hb11 (by rw [Nat.zero_add, Nat.mul_one]; exact hil11) ?_
      simp only [Nat.zero_add, Nat.mul_one]
      conv => whnf
      refine AArith.ok (by omega) (by omega) ((by omega : (k : Int) + 1 = ((k + 1 : Nat) : Int))) ?_; conv => whnf
      refine ⟨⟨kt10.trans (KeepT.set hb11), _, k + 1, xs.set k (IntKind.u8.wrap (xs[k]'(by omega) + 1)), updL_self ⟨rfl, rfl, rfl, rfl, rfl, rfl, rfl, rfl, trivial⟩, by omega, by rw [List.length_set]; exact hxl, ?_⟩, ?_⟩
      · have := hset11 (.int .u8 (IntKind.u8.wrap (xs[k]'(by omega) + 1)))
        unfold bytesV at this ⊢
        rw [List.map_set]; exact this
      · show x.bn - (k + 1) < x.bn - k
        omega
    · refine ACmp.no (by omega) ?_; conv => whnf
      have ik10 := ik9.keepT kt10 (by simp)
      have kkt := kt10
      refine ALoop.mk (fun e h3 => (Keep oo h9 h3) ∧ ∃ e0, ∃ k : Nat, ∃ xs : List Int, e = updL 189 e0 [(0, Ptr p), (1, Ptr q), (5, Ptr b5), (7, I (dappend D x.name x.b).1), (8, I (dappend D x.name x.b).1), (10, .slice a7 x.kn c7), (12, I k)] ∧ k ≤ x.kn ∧
          Own h3 (oo, 2) 3 a7 x.kn c7 1 (xs.map I)) (fun e => x.kn - natOf (e 12))
        ⟨kt10.keep, _, 0, x.keep, updL_self ⟨rfl, rfl, rfl, rfl, rfl, rfl, rfl, trivial⟩, by omega, ik10⟩ ?_
      clear own10 kt10 kkt ik10
      rintro e h12 ⟨kt12, e0, k, ys, rfl, hk, own12⟩
      conv => whnf
      by_cases hkl : k < x.kn
      · refine ACmp.yes (by omega) ?_; conv => whnf
        obtain ⟨b13, l13, hb13a, hb13, hil13, hget13, hset13⟩ := own12.setc (i := k) hkl
        subst hb13a
        refine AIdx.nat (z := 1) rfl hkl rfl rfl ?_; conv => whnf
        refine AStore.one rfl rfl rfl hb13 (by rw [Nat.zero_add, Nat.mul_one]; exact hil13) ?_
        simp only [Nat.zero_add, Nat.mul_one]
        conv => whnf
        refine AArith.ok (by omega) (by omega) ((by omega : (k : Int) + 1 = ((k + 1 : Nat) : Int))) ?_; conv => whnf
        refine ⟨⟨kt12.trans (KeepT.set hb13).keep, _, k + 1, ys.set k 99, updL_self ⟨rfl, rfl, rfl, rfl, rfl, rfl, rfl, trivial⟩, by omega, ?_⟩, ?_⟩
        · have := hset13 (I 99)
          rw [List.map_set]; exact this
        · show x.kn - (k + 1) < x.kn - k
          omega
      · refine ACmp.no (by omega) ?_; conv => whnf
        have D14 := D9.keep kt12 (by omega)
        have R14 := R9.keep kt12 (by omega)
        have k14 := kt12 _ _ _ (by simp; omega) k9
        have kp14 := kp9.trans (kt12.keeps moo)
        refine ALoad.one rfl k14 rfl ?_; conv => whnf
        refine ACalls.mono (Read_any D14 GX x.name (0, 1)) ?_; rintro _ h15 ⟨a15, c15, rfl, own15, s15⟩; conv => whnf
        have k15 := s15 _ _ k14
        refine ALoad.one rfl k15 rfl ?_; conv => whnf
        refine ACalls.mono (refRead_any (R14.sub s15) GX x.name (0, 1)) ?_; rintro _ h16 ⟨a16, c16, rfl, own16, s16⟩; conv => whnf
        refine ACmp.yes (rfl) ?_; conv => whnf
        have hrl := GX.read x.name
        have ce3 := eqBytes_any _ (own15.move fun b y e => s16 _ _ e).sl own16.sl (by omega)
        rw [decide_eq_true rfl] at ce3
        refine ACalls.mono (ce3) ?_; rintro _ _ ⟨rfl, rfl⟩; conv => whnf
        refine ACmp.yes (rfl) ?_; conv => whnf
        refine ACalls.mono (same_any (D14.sub (s15.trans s16)) (R14.sub (s15.trans s16)) GX) ?_; rintro _ _ ⟨rfl, rfl⟩; conv => whnf
        exact ⟨rfl, ⟨DX, D14.sub (s15.trans s16), R14.sub (s15.trans s16), GX⟩, kp14.trans ((s15.trans s16).keeps _)⟩
  · refine ACmp.no (q0) ?_; conv => whnf
    by_cases q1 : bring x.kind 9 = 1
    · refine ACmp.yes (q1) ?_; conv => whnf
      refine ALoad.one rfl k7 rfl ?_; conv => whnf
      refine ACalls.mono (Append_any (by decide) D7 g x.name ok.nl in7.sl o1 (by omega)) ?_; rintro _ h8 ⟨rfl, D8, ka8⟩; conv => whnf
      refine ALoad.one rfl (ka8 _ _ _ y1 k7) rfl ?_; conv => whnf
      refine ALoad.one rfl (ka8 _ _ _ y1 k7) rfl ?_; conv => whnf
      refine ACalls.mono (refAppend_any (by decide) (R7.keep ka8 (by decide)) g x.name ok.nl (sb7.keep ka8 z1) z2 (by decide) (by omega)) ?_; rintro _ h9 ⟨rfl, R9, kb9⟩; conv => whnf
      have GX := g.append x.name x.b
      have k9 := kb9 _ _ _ y2 (ka8 _ _ _ y1 k7)
      have sb9 := (sb7.keep ka8 z1).keep kb9 z2
      have sk9 := (sk7.keep ka8 z1).keep kb9 z2
      have in9 := (in7.move fun b y e => ka8 _ _ _ o1 e).move fun b y e => kb9 _ _ _ o2 e
      have ik9 := (own7.move fun b y e => ka8 _ _ _ o1' e).move fun b y e => kb9 _ _ _ o2' e
      have kp9 := (kp7.trans (ka8.keeps m1)).trans (kb9.keeps m2)
      have D9 := D8.keep kb9 (by decide)
      refine ALoad.one rfl k9 rfl ?_; conv => whnf
      have ce := eqBytes_any _ in9.sl sb9 (by omega)
      rw [decide_eq_true rfl] at ce
      refine ACalls.mono (ce) ?_; rintro _ _ ⟨rfl, rfl⟩; conv => whnf
      refine ALoad.one rfl k9 rfl ?_; conv => whnf
      have ce2 := eqInts_any _ ik9.sl sk9 (by omega)
      rw [decide_eq_true rfl] at ce2
      refine ACalls.mono (ce2) ?_; rintro _ _ ⟨rfl, rfl⟩; conv => whnf
      obtain ⟨DX, hDX⟩ : ∃ DX, DX = (dappend D x.name x.b).2 := ⟨_, rfl⟩
      rw [← hDX] at D9 R9 GX
      clear hDX
      refine ALoop.mk (fun e h3 => (KeepT (oo, 1) h9 h3) ∧ ∃ e0, ∃ k : Nat, ∃ xs : List Int, e = updL 189 e0 [(0, Ptr p), (1, Ptr q), (5, Ptr b5), (7, I (dappend D x.name x.b).1), (8, I (dappend D x.name x.b).1), (9, .slice a6 x.bn c6), (10, .slice a7 x.kn c7), (11, I k)] ∧ k ≤ x.bn ∧ xs.length = x.bn ∧
          Own h3 (oo, 1) 5 a6 x.bn c6 1 (bytesV xs)) (fun e => x.bn - natOf (e 11))
        ⟨KeepT.refl _ _, _, 0, x.b, updL_self ⟨rfl, rfl, rfl, rfl, rfl, rfl, rfl, rfl, trivial⟩, by omega, hbl, in9⟩ ?_
      rintro e h10 ⟨kt10, e0, k, xs, rfl, hk, hxl, own10⟩
      conv => whnf
      by_cases hkl : k < x.bn
      · refine ACmp.yes (by omega) ?_; conv => whnf
        obtain ⟨b11, l11, hb11a, hb11, hil11, hget11, hset11⟩ := own10.setc (i := k) hkl
        subst hb11a
        have hxk : (bytesV xs)[k]? = some (.int .u8 (xs[k]'(by omega))) := by simp [bytesV, show k < xs.length by omega]
        refine AIdx.nat (z := 1) rfl hkl rfl rfl ?_; conv => whnf
        refine ALoad.one rfl hb11 (by rw [Nat.zero_add, Nat.mul_one, hget11, hxk]) ?_; conv => whnf
        refine AArith.raw ?_; conv => whnf
        refine AIdx.nat (z := 1) rfl hkl rfl rfl ?_; conv => whnf
        refine AStore.one rfl rfl rfl hb11 (by rw [Nat.zero_add, Nat.mul_one]; exact hil11) ?_
        simp only [Nat.zero_add, Nat.mul_one]
        conv => whnf
        refine AArith.ok (by omega) (by omega) ((by omega : (k : Int) + 1 = ((k + 1 : Nat) : Int))) ?_; conv => whnf
        refine ⟨⟨kt10.trans (KeepT.set hb11), _, k + 1, xs.set k (IntKind.u8.wrap (xs[k]'(by omega) + 1)), updL_self ⟨rfl, rfl, rfl, rfl, rfl, rfl, rfl, rfl, trivial⟩, by omega, by rw [List.length_set]; exact hxl, ?_⟩, ?_⟩
        · have := hset11 (.int .u8 (IntKind.u8.wrap (xs[k]'(by omega) + 1)))
          unfold bytesV at this ⊢
          rw [List.map_set]; exact this
        · show x.bn - (k + 1) < x.bn - k
          omega
      · refine ACmp.no (by omega) ?_; conv => whnf
        have ik10 := ik9.keepT kt10 (by simp)
        have kkt := kt10
        refine ALoop.mk (fun e h3 => (Keep oo h9 h3) ∧ ∃ e0, ∃ k : Nat, ∃ xs : List Int, e = updL 189 e0 [(0, Ptr p), (1, Ptr q), (5, Ptr b5), (7, I (dappend D x.name x.b).1), (8, I (dappend D x.name x.b).1), (10, .slice a7 x.kn c7), (12, I k)] ∧ k ≤ x.kn ∧
            Own h3 (oo, 2) 3 a7 x.kn c7 1 (xs.map I)) (fun e => x.kn - natOf (e 12))
          ⟨kt10.keep, _, 0, x.keep, updL_self ⟨rfl, rfl, rfl, rfl, rfl, rfl, rfl, trivial⟩, by omega, ik10⟩ ?_
        clear own10 kt10 kkt ik10
        rintro e h12 ⟨kt12, e0, k, ys, rfl, hk, own12⟩
        conv => whnf
        by_cases hkl : k < x.kn
        · refine ACmp.yes (by omega) ?_; conv => whnf
          obtain ⟨b13, l13, hb13a, hb13, hil13, hget13, hset13⟩ := own12.setc (i := k) hkl
          subst hb13a
          refine AIdx.nat (z := 1) rfl hkl rfl rfl ?_; conv => whnf
          refine AStore.one rfl rfl rfl hb13 (by rw [Nat.zero_add, Nat.mul_one]; exact hil13) ?_
          simp only [Nat.zero_add, Nat.mul_one]
          conv => whnf
          refine AArith.ok (by omega) (by omega) ((by omega : (k : Int) + 1 = ((k + 1 : Nat) : Int))) ?_; conv => whnf
          refine ⟨⟨kt12.trans (KeepT.set hb13).keep, _, k + 1, ys.set k 99, updL_self ⟨rfl, rfl, rfl, rfl, rfl, rfl, rfl, trivial⟩, by omega, ?_⟩, ?_⟩
          · have := hset13 (I 99)
            rw [List.map_set]; exact this
          · show x.kn - (k + 1) < x.kn - k
            omega
        · refine ACmp.no (by omega) ?_; conv => whnf
          have D14 := D9.keep kt12 (by omega)
          have R14 := R9.keep kt12 (by omega)
          have k14 := kt12 _ _ _ (by simp; omega) k9
          have kp14 := kp9.trans (kt12.keeps moo)
          refine ALoad.one rfl k14 rfl ?_; conv => whnf
          refine ACalls.mono (Read_any D14 GX x.name (0, 1)) ?_; rintro _ h15 ⟨a15, c15, rfl, own15, s15⟩; conv => whnf
          have k15 := s15 _ _ k14
          refine ALoad.one rfl k15 rfl ?_; conv => whnf
          refine ACalls.mono (refRead_any (R14.sub s15) GX x.name (0, 1)) ?_; rintro _ h16 ⟨a16, c16, rfl, own16, s16⟩; conv => whnf
          refine ACmp.yes (rfl) ?_; conv => whnf
          have hrl := GX.read x.name
          have ce3 := eqBytes_any _ (own15.move fun b y e => s16 _ _ e).sl own16.sl (by omega)
          rw [decide_eq_true rfl] at ce3
          refine ACalls.mono (ce3) ?_; rintro _ _ ⟨rfl, rfl⟩; conv => whnf
          refine ACmp.yes (rfl) ?_; conv => whnf
          refine ACalls.mono (same_any (D14.sub (s15.trans s16)) (R14.sub (s15.trans s16)) GX) ?_; rintro _ _ ⟨rfl, rfl⟩; conv => whnf
          exact ⟨rfl, ⟨DX, D14.sub (s15.trans s16), R14.sub (s15.trans s16), GX⟩, kp14.trans ((s15.trans s16).keeps _)⟩
    · refine ACmp.no (q1) ?_; conv => whnf
      by_cases q2 : bring x.kind 9 = 2
      · refine ACmp.yes (q2) ?_; conv => whnf
        refine ALoad.one rfl k7 rfl ?_; conv => whnf
        refine ACalls.mono (Sync_any (by decide) D7 g x.name) ?_; rintro _ h8 ⟨rfl, D8, ka8⟩; conv => whnf
        refine ALoad.one rfl (ka8 _ _ _ y1 k7) rfl ?_; conv => whnf
        refine ACalls.mono (refSync_any (by decide) (R7.keep ka8 (by decide)) g x.name) ?_; rintro _ h9 ⟨rfl, R9, kb9⟩; conv => whnf
        have GX := g.sync x.name
        have k9 := kb9 _ _ _ y2 (ka8 _ _ _ y1 k7)
        have sb9 := (sb7.keep ka8 z1).keep kb9 z2
        have sk9 := (sk7.keep ka8 z1).keep kb9 z2
        have in9 := (in7.move fun b y e => ka8 _ _ _ o1 e).move fun b y e => kb9 _ _ _ o2 e
        have ik9 := (own7.move fun b y e => ka8 _ _ _ o1' e).move fun b y e => kb9 _ _ _ o2' e
        have kp9 := (kp7.trans (ka8.keeps m1)).trans (kb9.keeps m2)
        have D9 := D8.keep kb9 (by decide)
        refine ALoad.one rfl k9 rfl ?_; conv => whnf
        have ce := eqBytes_any _ in9.sl sb9 (by omega)
        rw [decide_eq_true rfl] at ce
        refine ACalls.mono (ce) ?_; rintro _ _ ⟨rfl, rfl⟩; conv => whnf
        refine ALoad.one rfl k9 rfl ?_; conv => whnf
        have ce2 := eqInts_any _ ik9.sl sk9 (by omega)
        rw [decide_eq_true rfl] at ce2
        refine ACalls.mono (ce2) ?_; rintro _ _ ⟨rfl, rfl⟩; conv => whnf
        obtain ⟨DX, hDX⟩ : ∃ DX, DX = (dsync D x.name).2 := ⟨_, rfl⟩
        rw [← hDX] at D9 R9 GX
        clear hDX
        refine ALoop.mk (fun e h3 => (KeepT (oo, 1) h9 h3) ∧ ∃ e0, ∃ k : Nat, ∃ xs : List Int, e = updL 189 e0 [(0, Ptr p), (1, Ptr q), (5, Ptr b5), (7, I (dsync D x.name).1), (8, I (dsync D x.name).1), (9, .slice a6 x.bn c6), (10, .slice a7 x.kn c7), (11, I k)] ∧ k ≤ x.bn ∧ xs.length = x.bn ∧
            Own h3 (oo, 1) 5 a6 x.bn c6 1 (bytesV xs)) (fun e => x.bn - natOf (e 11))
          ⟨KeepT.refl _ _, _, 0, x.b, updL_self ⟨rfl, rfl, rfl, rfl, rfl, rfl, rfl, rfl, trivial⟩, by omega, hbl, in9⟩ ?_
        rintro e h10 ⟨kt10, e0, k, xs, rfl, hk, hxl, own10⟩
        conv => whnf
        by_cases hkl : k < x.bn
        · refine ACmp.yes (by omega) ?_; conv => whnf
          obtain ⟨b11, l11, hb11a, hb11, hil11, hget11, hset11⟩ := own10.setc (i := k) hkl
          subst hb11a
          have hxk : (bytesV xs)[k]? = some (.int .u8 (xs[k]'(by omega))) := by simp [bytesV, show k < xs.length by omega]
          refine AIdx.nat (z := 1) rfl hkl rfl rfl ?_; conv => whnf
          refine ALoad.one rfl hb11 (by rw [Nat.zero_add, Nat.mul_one, hget11, hxk]) ?_; conv => whnf
          refine AArith.raw ?_; conv => whnf
          refine AIdx.nat (z := 1) rfl hkl rfl rfl ?_; conv => whnf
          refine AStore.one rfl rfl rfl hb11 (by rw [Nat.zero_add, Nat.mul_one]; exact hil11) ?_
          simp only [Nat.zero_add, Nat.mul_one]
          conv => whnf
          refine AArith.ok (by omega) (by omega) ((by omega : (k : Int) + 1 = ((k + 1 : Nat) : Int))) ?_; conv => whnf
          refine ⟨⟨kt10.trans (KeepT.set hb11), _, k + 1, xs.set k (IntKind.u8.wrap (xs[k]'(by omega) + 1)), updL_self ⟨rfl, rfl, rfl, rfl, rfl, rfl, rfl, rfl, trivial⟩, by omega, by rw [List.length_set]; exact hxl, ?_⟩, ?_⟩
          · have := hset11 (.int .u8 (IntKind.u8.wrap (xs[k]'(by omega) + 1)))
            unfold bytesV at this ⊢
            rw [List.map_set]; exact this
          · show x.bn - (k + 1) < x.bn - k
            omega
        · refine ACmp.no (by omega) ?_; conv => whnf
          have ik10 := ik9.keepT kt10 (by simp)
          have kkt := kt10
          refine ALoop.mk (fun e h3 => (Keep oo h9 h3) ∧ ∃ e0, ∃ k : Nat, ∃ xs : List Int, e = updL 189 e0 [(0, Ptr p), (1, Ptr q), (5, Ptr b5), (7, I (dsync D x.name).1), (8, I (dsync D x.name).1), (10, .slice a7 x.kn c7), (12, I k)] ∧ k ≤ x.kn ∧
              Own h3 (oo, 2) 3 a7 x.kn c7 1 (xs.map I)) (fun e => x.kn - natOf (e 12))
            ⟨kt10.keep, _, 0, x.keep, updL_self ⟨rfl, rfl, rfl, rfl, rfl, rfl, rfl, trivial⟩, by omega, ik10⟩ ?_
          clear own10 kt10 kkt ik10
          rintro e h12 ⟨kt12, e0, k, ys, rfl, hk, own12⟩
          conv => whnf
          by_cases hkl : k < x.kn
          · refine ACmp.yes (by omega) ?_; conv => whnf
            obtain ⟨b13, l13, hb13a, hb13, hil13, hget13, hset13⟩ := own12.setc (i := k) hkl
            subst hb13a
            refine AIdx.nat (z := 1) rfl hkl rfl rfl ?_; conv => whnf
            refine AStore.one rfl rfl rfl hb13 (by rw [Nat.zero_add, Nat.mul_one]; exact hil13) ?_
            simp only [Nat.zero_add, Nat.mul_one]
            conv => whnf
            refine AArith.ok (by omega) (by omega) ((by omega : (k : Int) + 1 = ((k + 1 : Nat) : Int))) ?_; conv => whnf
            refine ⟨⟨kt12.trans (KeepT.set hb13).keep, _, k + 1, ys.set k 99, updL_self ⟨rfl, rfl, rfl, rfl, rfl, rfl, rfl, trivial⟩, by omega, ?_⟩, ?_⟩
            · have := hset13 (I 99)
              rw [List.map_set]; exact this
            · show x.kn - (k + 1) < x.kn - k
              omega
          · refine ACmp.no (by omega) ?_; conv => whnf
            have D14 := D9.keep kt12 (by omega)
            have R14 := R9.keep kt12 (by omega)
            have k14 := kt12 _ _ _ (by simp; omega) k9
            have kp14 := kp9.trans (kt12.keeps moo)
            refine ALoad.one rfl k14 rfl ?_; conv => whnf
            refine ACalls.mono (Read_any D14 GX x.name (0, 1)) ?_; rintro _ h15 ⟨a15, c15, rfl, own15, s15⟩; conv => whnf
            have k15 := s15 _ _ k14
            refine ALoad.one rfl k15 rfl ?_; conv => whnf
            refine ACalls.mono (refRead_any (R14.sub s15) GX x.name (0, 1)) ?_; rintro _ h16 ⟨a16, c16, rfl, own16, s16⟩; conv => whnf
            refine ACmp.yes (rfl) ?_; conv => whnf
            have hrl := GX.read x.name
            have ce3 := eqBytes_any _ (own15.move fun b y e => s16 _ _ e).sl own16.sl (by omega)
            rw [decide_eq_true rfl] at ce3
            refine ACalls.mono (ce3) ?_; rintro _ _ ⟨rfl, rfl⟩; conv => whnf
            refine ACmp.yes (rfl) ?_; conv => whnf
            refine ACalls.mono (same_any (D14.sub (s15.trans s16)) (R14.sub (s15.trans s16)) GX) ?_; rintro _ _ ⟨rfl, rfl⟩; conv => whnf
            exact ⟨rfl, ⟨DX, D14.sub (s15.trans s16), R14.sub (s15.trans s16), GX⟩, kp14.trans ((s15.trans s16).keeps _)⟩
      · refine ACmp.no (q2) ?_; conv => whnf
        by_cases q3 : bring x.kind 9 = 3
        · refine ACmp.yes (q3) ?_; conv => whnf
          refine ALoad.one rfl k7 rfl ?_; conv => whnf
          refine ALoad.one rfl k7 rfl ?_; conv => whnf
          refine ACalls.mono (Rename_any (by decide) D7 g x.name x.to ok.tl) ?_; rintro _ h8 ⟨rfl, D8, ka8⟩; conv => whnf
          refine ALoad.one rfl (ka8 _ _ _ y1 k7) rfl ?_; conv => whnf
          refine ALoad.one rfl (ka8 _ _ _ y1 k7) rfl ?_; conv => whnf
          refine ACalls.mono (refRename_any (by decide) (R7.keep ka8 (by decide)) g x.name x.to ok.tl) ?_; rintro _ h9 ⟨rfl, R9, kb9⟩; conv => whnf
          have GX := g.rename x.name x.to
          have k9 := kb9 _ _ _ y2 (ka8 _ _ _ y1 k7)
          have sb9 := (sb7.keep ka8 z1).keep kb9 z2
          have sk9 := (sk7.keep ka8 z1).keep kb9 z2
          have in9 := (in7.move fun b y e => ka8 _ _ _ o1 e).move fun b y e => kb9 _ _ _ o2 e
          have ik9 := (own7.move fun b y e => ka8 _ _ _ o1' e).move fun b y e => kb9 _ _ _ o2' e
          have kp9 := (kp7.trans (ka8.keeps m1)).trans (kb9.keeps m2)
          have D9 := D8.keep kb9 (by decide)
          refine ALoad.one rfl k9 rfl ?_; conv => whnf
          have ce := eqBytes_any _ in9.sl sb9 (by omega)
          rw [decide_eq_true rfl] at ce
          refine ACalls.mono (ce) ?_; rintro _ _ ⟨rfl, rfl⟩; conv => whnf
          refine ALoad.one rfl k9 rfl ?_; conv => whnf
          have ce2 := eqInts_any _ ik9.sl sk9 (by omega)
          rw [decide_eq_true rfl] at ce2
          refine ACalls.mono (ce2) ?_; rintro _ _ ⟨rfl, rfl⟩; conv => whnf
          obtain ⟨DX, hDX⟩ : ∃ DX, DX = (drename D x.name x.to).2 := ⟨_, rfl⟩
          rw [← hDX] at D9 R9 GX
          clear hDX
          refine ALoop.mk (fun e h3 => (KeepT (oo, 1) h9 h3) ∧ ∃ e0, ∃ k : Nat, ∃ xs : List Int, e = updL 189 e0 [(0, Ptr p), (1, Ptr q), (5, Ptr b5), (7, I (drename D x.name x.to).1), (8, I (drename D x.name x.to).1), (9, .slice a6 x.bn c6), (10, .slice a7 x.kn c7), (11, I k)] ∧ k ≤ x.bn ∧ xs.length = x.bn ∧
              Own h3 (oo, 1) 5 a6 x.bn c6 1 (bytesV xs)) (fun e => x.bn - natOf (e 11))
            ⟨KeepT.refl _ _, _, 0, x.b, updL_self ⟨rfl, rfl, rfl, rfl, rfl, rfl, rfl, rfl, trivial⟩, by omega, hbl, in9⟩ ?_
          rintro e h10 ⟨kt10, e0, k, xs, rfl, hk, hxl, own10⟩
          conv => whnf
          by_cases hkl : k < x.bn
          · refine ACmp.yes (by omega) ?_; conv => whnf
            obtain ⟨b11, l11, hb11a, hb11, hil11, hget11, hset11⟩ := own10.setc (i := k) hkl
            subst hb11a
            have hxk : (bytesV xs)[k]? = some (.int .u8 (xs[k]'(by omega))) := by simp [bytesV, show k < xs.length by omega]
            refine AIdx.nat (z := 1) rfl hkl rfl rfl ?_; conv => whnf
            refine ALoad.one rfl hb11 (by rw [Nat.zero_add, Nat.mul_one, hget11, hxk]) ?_; conv => whnf
            refine AArith.raw ?_; conv => whnf
            refine AIdx.nat (z := 1) rfl hkl rfl rfl ?_; conv => whnf
            refine AStore.one rfl rfl rfl hb11 (by rw [Nat.zero_add, Nat.mul_one]; exact hil11) ?_
            simp only [Nat.zero_add, Nat.mul_one]
            conv => whnf
            refine AArith.ok (by omega) (by omega) ((by omega : (k : Int) + 1 = ((k + 1 : Nat) : Int))) ?_; conv => whnf
            refine ⟨⟨kt10.trans (KeepT.set hb11), _, k + 1, xs.set k (IntKind.u8.wrap (xs[k]'(by omega) + 1)), updL_self ⟨rfl, rfl, rfl, rfl, rfl, rfl, rfl, rfl, trivial⟩, by omega, by rw [List.length_set]; exact hxl, ?_⟩, ?_⟩
            · have := hset11 (.int .u8 (IntKind.u8.wrap (xs[k]'(by omega) + 1)))
              unfold bytesV at this ⊢
              rw [List.map_set]; exact this
            · show x.bn - (k + 1) < x.bn - k
              omega
          · refine ACmp.no (by omega) ?_; conv => whnf
            have ik10 := ik9.keepT kt10 (by simp)
            have kkt := kt10
            refine ALoop.mk (fun e h3 => (Keep oo h9 h3) ∧ ∃ e0, ∃ k : Nat, ∃ xs : List Int, e = updL 189 e0 [(0, Ptr p), (1, Ptr q), (5, Ptr b5), (7, I (drename D x.name x.to).1), (8, I (drename D x.name x.to).1), (10, .slice a7 x.kn c7), (12, I k)] ∧ k ≤ x.kn ∧
                Own h3 (oo, 2) 3 a7 x.kn c7 1 (xs.map I)) (fun e => x.kn - natOf (e 12))
              ⟨kt10.keep, _, 0, x.keep, updL_self ⟨rfl, rfl, rfl, rfl, rfl, rfl, rfl, trivial⟩, by omega, ik10⟩ ?_
            clear own10 kt10 kkt ik10
            rintro e h12 ⟨kt12, e0, k, ys, rfl, hk, own12⟩
            conv => whnf
            by_cases hkl : k < x.kn
            · refine ACmp.yes (by omega) ?_; conv => whnf
              obtain ⟨b13, l13, hb13a, hb13, hil13, hget13, hset13⟩ := own12.setc (i := k) hkl
              subst hb13a
              refine AIdx.nat (z := 1) rfl hkl rfl rfl ?_; conv => whnf
              refine AStore.one rfl rfl rfl hb13 (by rw [Nat.zero_add, Nat.mul_one]; exact hil13) ?_
              simp only [Nat.zero_add, Nat.mul_one]
              conv => whnf
              refine AArith.ok (by omega) (by omega) ((by omega : (k : Int) + 1 = ((k + 1 : Nat) : Int))) ?_; conv => whnf
              refine ⟨⟨kt12.trans (KeepT.set hb13).keep, _, k + 1, ys.set k 99, updL_self ⟨rfl, rfl, rfl, rfl, rfl, rfl, rfl, trivial⟩, by omega, ?_⟩, ?_⟩
              · have := hset13 (I 99)
                rw [List.map_set]; exact this
              · show x.kn - (k + 1) < x.kn - k
                omega
            · refine ACmp.no (by omega) ?_; conv => whnf
              have D14 := D9.keep kt12 (by omega)
              have R14 := R9.keep kt12 (by omega)
              have k14 := kt12 _ _ _ (by simp; omega) k9
              have kp14 := kp9.trans (kt12.keeps moo)
              refine ALoad.one rfl k14 rfl ?_; conv => whnf
              refine ACalls.mono (Read_any D14 GX x.name (0, 1)) ?_; rintro _ h15 ⟨a15, c15, rfl, own15, s15⟩; conv => whnf
              have k15 := s15 _ _ k14
              refine ALoad.one rfl k15 rfl ?_; conv => whnf
              refine ACalls.mono (refRead_any (R14.sub s15) GX x.name (0, 1)) ?_; rintro _ h16 ⟨a16, c16, rfl, own16, s16⟩; conv => whnf
              refine ACmp.yes (rfl) ?_; conv => whnf
              have hrl := GX.read x.name
              have ce3 := eqBytes_any _ (own15.move fun b y e => s16 _ _ e).sl own16.sl (by omega)
              rw [decide_eq_true rfl] at ce3
              refine ACalls.mono (ce3) ?_; rintro _ _ ⟨rfl, rfl⟩; conv => whnf
              refine ACmp.yes (rfl) ?_; conv => whnf
              refine ACalls.mono (same_any (D14.sub (s15.trans s16)) (R14.sub (s15.trans s16)) GX) ?_; rintro _ _ ⟨rfl, rfl⟩; conv => whnf
              exact ⟨rfl, ⟨DX, D14.sub (s15.trans s16), R14.sub (s15.trans s16), GX⟩, kp14.trans ((s15.trans s16).keeps _)⟩
        · refine ACmp.no (q3) ?_; conv => whnf
          by_cases q4 : bring x.kind 9 = 4
          · refine ACmp.yes (q4) ?_; conv => whnf
            refine ALoad.one rfl k7 rfl ?_; conv => whnf
            refine ACalls.mono (Remove_any (by decide) D7 g x.name) ?_; rintro _ h8 ⟨rfl, D8, ka8⟩; conv => whnf
            refine ALoad.one rfl (ka8 _ _ _ y1 k7) rfl ?_; conv => whnf
            refine ACalls.mono (refRemove_any (by decide) (R7.keep ka8 (by decide)) g x.name) ?_; rintro _ h9 ⟨rfl, R9, kb9⟩; conv => whnf
            have GX := g.remove x.name
            have k9 := kb9 _ _ _ y2 (ka8 _ _ _ y1 k7)
            have sb9 := (sb7.keep ka8 z1).keep kb9 z2
            have sk9 := (sk7.keep ka8 z1).keep kb9 z2
            have in9 := (in7.move fun b y e => ka8 _ _ _ o1 e).move fun b y e => kb9 _ _ _ o2 e
            have ik9 := (own7.move fun b y e => ka8 _ _ _ o1' e).move fun b y e => kb9 _ _ _ o2' e
            have kp9 := (kp7.trans (ka8.keeps m1)).trans (kb9.keeps m2)
            have D9 := D8.keep kb9 (by decide)
            refine ALoad.one rfl k9 rfl ?_; conv => whnf
            have ce := eqBytes_any _ in9.sl sb9 (by omega)
            rw [decide_eq_true rfl] at ce
            refine ACalls.mono (ce) ?_; rintro _ _ ⟨rfl, rfl⟩; conv => whnf
            refine ALoad.one rfl k9 rfl ?_; conv => whnf
            have ce2 := eqInts_any _ ik9.sl sk9 (by omega)
            rw [decide_eq_true rfl] at ce2
            refine ACalls.mono (ce2) ?_; rintro _ _ ⟨rfl, rfl⟩; conv => whnf
            obtain ⟨DX, hDX⟩ : ∃ DX, DX = (dremove D x.name).2 := ⟨_, rfl⟩
            rw [← hDX] at D9 R9 GX
            clear hDX
            refine ALoop.mk (fun e h3 => (KeepT (oo, 1) h9 h3) ∧ ∃ e0, ∃ k : Nat, ∃ xs : List Int, e = updL 189 e0 [(0, Ptr p), (1, Ptr q), (5, Ptr b5), (7, I (dremove D x.name).1), (8, I (dremove D x.name).1), (9, .slice a6 x.bn c6), (10, .slice a7 x.kn c7), (11, I k)] ∧ k ≤ x.bn ∧ xs.length = x.bn ∧
                Own h3 (oo, 1) 5 a6 x.bn c6 1 (bytesV xs)) (fun e => x.bn - natOf (e 11))
              ⟨KeepT.refl _ _, _, 0, x.b, updL_self ⟨rfl, rfl, rfl, rfl, rfl, rfl, rfl, rfl, trivial⟩, by omega, hbl, in9⟩ ?_
            rintro e h10 ⟨kt10, e0, k, xs, rfl, hk, hxl, own10⟩
            conv => whnf
            by_cases hkl : k < x.bn
            · refine ACmp.yes (by omega) ?_; conv => whnf
              obtain ⟨b11, l11, hb11a, hb11, hil11, hget11, hset11⟩ := own10.setc (i := k) hkl
              subst hb11a
              have hxk : (bytesV xs)[k]? = some (.int .u8 (xs[k]'(by omega))) := by simp [bytesV, show k < xs.length by omega]
              refine AIdx.nat (z := 1) rfl hkl rfl rfl ?_; conv => whnf
              refine ALoad.one rfl hb11 (by rw [Nat.zero_add, Nat.mul_one, hget11, hxk]) ?_; conv => whnf
              refine AArith.raw ?_; conv => whnf
              refine AIdx.nat (z := 1) rfl hkl rfl rfl ?_; conv => whnf
              refine AStore.one rfl rfl rfl hb11 (by rw [Nat.zero_add, Nat.mul_one]; exact hil11) ?_
              simp only [Nat.zero_add, Nat.mul_one]
              conv => whnf
              refine AArith.ok (by omega) (by omega) ((by omega : (k : Int) + 1 = ((k + 1 : Nat) : Int))) ?_; conv => whnf
              refine ⟨⟨kt10.trans (KeepT.set hb11), _, k + 1, xs.set k (IntKind.u8.wrap (xs[k]'(by omega) + 1)), updL_self ⟨rfl, rfl, rfl, rfl, rfl, rfl, rfl, rfl, trivial⟩, by omega, by rw [List.length_set]; exact hxl, ?_⟩, ?_⟩
              · have := hset11 (.int .u8 (IntKind.u8.wrap (xs[k]'(by omega) + 1)))
                unfold bytesV at this ⊢
                rw [List.map_set]; exact this
              · show x.bn - (k + 1) < x.bn - k
                omega
            · refine ACmp.no (by omega) ?_; conv => whnf
              have ik10 := ik9.keepT kt10 (by simp)
              have kkt := kt10
              refine ALoop.mk (fun e h3 => (Keep oo h9 h3) ∧ ∃ e0, ∃ k : Nat, ∃ xs : List Int, e = updL 189 e0 [(0, Ptr p), (1, Ptr q), (5, Ptr b5), (7, I (dremove D x.name).1), (8, I (dremove D x.name).1), (10, .slice a7 x.kn c7), (12, I k)] ∧ k ≤ x.kn ∧
                  Own h3 (oo, 2) 3 a7 x.kn c7 1 (xs.map I)) (fun e => x.kn - natOf (e 12))
                ⟨kt10.keep, _, 0, x.keep, updL_self ⟨rfl, rfl, rfl, rfl, rfl, rfl, rfl, trivial⟩, by omega, ik10⟩ ?_
              clear own10 kt10 kkt ik10
              rintro e h12 ⟨kt12, e0, k, ys, rfl, hk, own12⟩
              conv => whnf
              by_cases hkl : k < x.kn
              · refine ACmp.yes (by omega) ?_; conv => whnf
                obtain ⟨b13, l13, hb13a, hb13, hil13, hget13, hset13⟩ := own12.setc (i := k) hkl
                subst hb13a
                refine AIdx.nat (z := 1) rfl hkl rfl rfl ?_; conv => whnf
                refine AStore.one rfl rfl rfl hb13 (by rw [Nat.zero_add, Nat.mul_one]; exact hil13) ?_
                simp only [Nat.zero_add, Nat.mul_one]
                conv => whnf
                refine AArith.ok (by omega) (by omega) ((by omega : (k : Int) + 1 = ((k + 1 : Nat) : Int))) ?_; conv => whnf
                refine ⟨⟨kt12.trans (KeepT.set hb13).keep, _, k + 1, ys.set k 99, updL_self ⟨rfl, rfl, rfl, rfl, rfl, rfl, rfl, trivial⟩, by omega, ?_⟩, ?_⟩
                · have := hset13 (I 99)
                  rw [List.map_set]; exact this
                · show x.kn - (k + 1) < x.kn - k
                  omega
              · refine ACmp.no (by omega) ?_; conv => whnf
                have D14 := D9.keep kt12 (by omega)
                have R14 := R9.keep kt12 (by omega)
                have k14 := kt12 _ _ _ (by simp; omega) k9
                have kp14 := kp9.trans (kt12.keeps moo)
                refine ALoad.one rfl k14 rfl ?_; conv => whnf
                refine ACalls.mono (Read_any D14 GX x.name (0, 1)) ?_; rintro _ h15 ⟨a15, c15, rfl, own15, s15⟩; conv => whnf
                have k15 := s15 _ _ k14
                refine ALoad.one rfl k15 rfl ?_; conv => whnf
                refine ACalls.mono (refRead_any (R14.sub s15) GX x.name (0, 1)) ?_; rintro _ h16 ⟨a16, c16, rfl, own16, s16⟩; conv => whnf
                refine ACmp.yes (rfl) ?_; conv => whnf
                have hrl := GX.read x.name
                have ce3 := eqBytes_any _ (own15.move fun b y e => s16 _ _ e).sl own16.sl (by omega)
                rw [decide_eq_true rfl] at ce3
                refine ACalls.mono (ce3) ?_; rintro _ _ ⟨rfl, rfl⟩; conv => whnf
                refine ACmp.yes (rfl) ?_; conv => whnf
                refine ACalls.mono (same_any (D14.sub (s15.trans s16)) (R14.sub (s15.trans s16)) GX) ?_; rintro _ _ ⟨rfl, rfl⟩; conv => whnf
                exact ⟨rfl, ⟨DX, D14.sub (s15.trans s16), R14.sub (s15.trans s16), GX⟩, kp14.trans ((s15.trans s16).keeps _)⟩
          · refine ACmp.no (q4) ?_; conv => whnf
            by_cases q5 : bring x.kind 9 = 5
            · refine ACmp.yes (q5) ?_; conv => whnf
              refine ALoad.one rfl k7 rfl ?_; conv => whnf
              refine ACalls.mono (Arm_any (by decide) D7 x.n_ own7.sl o1' hkn) ?_; rintro _ h8 ⟨rfl, D8, ka8⟩; conv => whnf
              refine ALoad.one rfl (ka8 _ _ _ y1 k7) rfl ?_; conv => whnf
              refine ALoad.one rfl (ka8 _ _ _ y1 k7) rfl ?_; conv => whnf
              refine ACalls.mono (refArm_any (by decide) (R7.keep ka8 (by decide)) x.n_ (sk7.keep ka8 z1) z2 hkn) ?_; rintro _ h9 ⟨rfl, R9, kb9⟩; conv => whnf
              have GX := g.arm x.n_ ok.nhi x.keep
              have k9 := kb9 _ _ _ y2 (ka8 _ _ _ y1 k7)
              have sb9 := (sb7.keep ka8 z1).keep kb9 z2
              have sk9 := (sk7.keep ka8 z1).keep kb9 z2
              have in9 := (in7.move fun b y e => ka8 _ _ _ o1 e).move fun b y e => kb9 _ _ _ o2 e
              have ik9 := (own7.move fun b y e => ka8 _ _ _ o1' e).move fun b y e => kb9 _ _ _ o2' e
              have kp9 := (kp7.trans (ka8.keeps m1)).trans (kb9.keeps m2)
              have D9 := D8.keep kb9 (by decide)
              refine ALoad.one rfl k9 rfl ?_; conv => whnf
              have ce := eqBytes_any _ in9.sl sb9 (by omega)
              rw [decide_eq_true rfl] at ce
              refine ACalls.mono (ce) ?_; rintro _ _ ⟨rfl, rfl⟩; conv => whnf
              refine ALoad.one rfl k9 rfl ?_; conv => whnf
              have ce2 := eqInts_any _ ik9.sl sk9 (by omega)
              rw [decide_eq_true rfl] at ce2
              refine ACalls.mono (ce2) ?_; rintro _ _ ⟨rfl, rfl⟩; conv => whnf
              obtain ⟨DX, hDX⟩ : ∃ DX, DX = (darm D x.n_ x.keep).2 := ⟨_, rfl⟩
              rw [← hDX] at D9 R9 GX
              clear hDX
              refine ALoop.mk (fun e h3 => (KeepT (oo, 1) h9 h3) ∧ ∃ e0, ∃ k : Nat, ∃ xs : List Int, e = updL 189 e0 [(0, Ptr p), (1, Ptr q), (5, Ptr b5), (7, I (darm D x.n_ x.keep).1), (8, I (darm D x.n_ x.keep).1), (9, .slice a6 x.bn c6), (10, .slice a7 x.kn c7), (11, I k)] ∧ k ≤ x.bn ∧ xs.length = x.bn ∧
                  Own h3 (oo, 1) 5 a6 x.bn c6 1 (bytesV xs)) (fun e => x.bn - natOf (e 11))
                ⟨KeepT.refl _ _, _, 0, x.b, updL_self ⟨rfl, rfl, rfl, rfl, rfl, rfl, rfl, rfl, trivial⟩, by omega, hbl, in9⟩ ?_
              rintro e h10 ⟨kt10, e0, k, xs, rfl, hk, hxl, own10⟩
              conv => whnf
              by_cases hkl : k < x.bn
              · refine ACmp.yes (by omega) ?_; conv => whnf
                obtain ⟨b11, l11, hb11a, hb11, hil11, hget11, hset11⟩ := own10.setc (i := k) hkl
                subst hb11a
                have hxk : (bytesV xs)[k]? = some (.int .u8 (xs[k]'(by omega))) := by simp [bytesV, show k < xs.length by omega]
                refine AIdx.nat (z := 1) rfl hkl rfl rfl ?_; conv => whnf
                refine ALoad.one rfl hb11 (by rw [Nat.zero_add, Nat.mul_one, hget11, hxk]) ?_; conv => whnf
                refine AArith.raw ?_; conv => whnf
                refine AIdx.nat (z := 1) rfl hkl rfl rfl ?_; conv => whnf
                refine AStore.one rfl rfl rfl hb11 (by rw [Nat.zero_add, Nat.mul_one]; exact hil11) ?_
                simp only [Nat.zero_add, Nat.mul_one]
                conv => whnf
                refine AArith.ok (by omega) (by omega) ((by omega : (k : Int) + 1 = ((k + 1 : Nat) : Int))) ?_; conv => whnf
                refine ⟨⟨kt10.trans (KeepT.set hb11), _, k + 1, xs.set k (IntKind.u8.wrap (xs[k]'(by omega) + 1)), updL_self ⟨rfl, rfl, rfl, rfl, rfl, rfl, rfl, rfl, trivial⟩, by omega, by rw [List.length_set]; exact hxl, ?_⟩, ?_⟩
                · have := hset11 (.int .u8 (IntKind.u8.wrap (xs[k]'(by omega) + 1)))
                  unfold bytesV at this ⊢
                  rw [List.map_set]; exact this
                · show x.bn - (k + 1) < x.bn - k
                  omega
              · refine ACmp.no (by omega) ?_; conv => whnf
                have ik10 := ik9.keepT kt10 (by simp)
                have kkt := kt10
                refine ALoop.mk (fun e h3 => (Keep oo h9 h3) ∧ ∃ e0, ∃ k : Nat, ∃ xs : List Int, e = updL 189 e0 [(0, Ptr p), (1, Ptr q), (5, Ptr b5), (7, I (darm D x.n_ x.keep).1), (8, I (darm D x.n_ x.keep).1), (10, .slice a7 x.kn c7), (12, I k)] ∧ k ≤ x.kn ∧
                    Own h3 (oo, 2) 3 a7 x.kn c7 1 (xs.map I)) (fun e => x.kn - natOf (e 12))
                  ⟨kt10.keep, _, 0, x.keep, updL_self ⟨rfl, rfl, rfl, rfl, rfl, rfl, rfl, trivial⟩, by omega, ik10⟩ ?_
                clear own10 kt10 kkt ik10
                rintro e h12 ⟨kt12, e0, k, ys, rfl, hk, own12⟩
                conv => whnf
                by_cases hkl : k < x.kn
                · refine ACmp.yes (by omega) ?_; conv => whnf
                  obtain ⟨b13, l13, hb13a, hb13, hil13, hget13, hset13⟩ := own12.setc (i := k) hkl
                  subst hb13a
                  refine AIdx.nat (z := 1) rfl hkl rfl rfl ?_; conv => whnf
                  refine AStore.one rfl rfl rfl hb13 (by rw [Nat.zero_add, Nat.mul_one]; exact hil13) ?_
                  simp only [Nat.zero_add, Nat.mul_one]
                  conv => whnf
                  refine AArith.ok (by omega) (by omega) ((by omega : (k : Int) + 1 = ((k + 1 : Nat) : Int))) ?_; conv => whnf
                  refine ⟨⟨kt12.trans (KeepT.set hb13).keep, _, k + 1, ys.set k 99, updL_self ⟨rfl, rfl, rfl, rfl, rfl, rfl, rfl, trivial⟩, by omega, ?_⟩, ?_⟩
                  · have := hset13 (I 99)
                    rw [List.map_set]; exact this
                  · show x.kn - (k + 1) < x.kn - k
                    omega
                · refine ACmp.no (by omega) ?_; conv => whnf
                  have D14 := D9.keep kt12 (by omega)
                  have R14 := R9.keep kt12 (by omega)
                  have k14 := kt12 _ _ _ (by simp; omega) k9
                  have kp14 := kp9.trans (kt12.keeps moo)
                  refine ALoad.one rfl k14 rfl ?_; conv => whnf
                  refine ACalls.mono (Read_any D14 GX x.name (0, 1)) ?_; rintro _ h15 ⟨a15, c15, rfl, own15, s15⟩; conv => whnf
                  have k15 := s15 _ _ k14
                  refine ALoad.one rfl k15 rfl ?_; conv => whnf
                  refine ACalls.mono (refRead_any (R14.sub s15) GX x.name (0, 1)) ?_; rintro _ h16 ⟨a16, c16, rfl, own16, s16⟩; conv => whnf
                  refine ACmp.yes (rfl) ?_; conv => whnf
                  have hrl := GX.read x.name
                  have ce3 := eqBytes_any _ (own15.move fun b y e => s16 _ _ e).sl own16.sl (by omega)
                  rw [decide_eq_true rfl] at ce3
                  refine ACalls.mono (ce3) ?_; rintro _ _ ⟨rfl, rfl⟩; conv => whnf
                  refine ACmp.yes (rfl) ?_; conv => whnf
                  refine ACalls.mono (same_any (D14.sub (s15.trans s16)) (R14.sub (s15.trans s16)) GX) ?_; rintro _ _ ⟨rfl, rfl⟩; conv => whnf
                  exact ⟨rfl, ⟨DX, D14.sub (s15.trans s16), R14.sub (s15.trans s16), GX⟩, kp14.trans ((s15.trans s16).keeps _)⟩
            · refine ACmp.no (q5) ?_; conv => whnf
              by_cases q6 : bring x.kind 9 = 6
              · refine ACmp.yes (q6) ?_; conv => whnf
                refine ACalls.mono (Crash_any (by decide) D7 g own7.sl o1') ?_; rintro _ h8 ⟨rfl, D8, ka8⟩; conv => whnf
                refine ALoad.one rfl (ka8 _ _ _ y1 k7) rfl ?_; conv => whnf
                refine ACalls.mono (refCrash_any (by decide) (R7.keep ka8 (by decide)) g (sk7.keep ka8 z1) (.inl z2)) ?_; rintro _ h9 ⟨rfl, R9, kb9⟩; conv => whnf
                have GX := g.crashed x.keep
                have k9 := kb9 _ _ _ y2 (ka8 _ _ _ y1 k7)
                have sb9 := (sb7.keep ka8 z1).keep kb9 z2
                have sk9 := (sk7.keep ka8 z1).keep kb9 z2
                have in9 := (in7.move fun b y e => ka8 _ _ _ o1 e).move fun b y e => kb9 _ _ _ o2 e
                have ik9 := (own7.move fun b y e => ka8 _ _ _ o1' e).move fun b y e => kb9 _ _ _ o2' e
                have kp9 := (kp7.trans (ka8.keeps m1)).trans (kb9.keeps m2)
                have D9 := D8.keep kb9 (by decide)
                refine ALoad.one rfl k9 rfl ?_; conv => whnf
                have ce := eqBytes_any _ in9.sl sb9 (by omega)
                rw [decide_eq_true rfl] at ce
                refine ACalls.mono (ce) ?_; rintro _ _ ⟨rfl, rfl⟩; conv => whnf
                refine ALoad.one rfl k9 rfl ?_; conv => whnf
                have ce2 := eqInts_any _ ik9.sl sk9 (by omega)
                rw [decide_eq_true rfl] at ce2
                refine ACalls.mono (ce2) ?_; rintro _ _ ⟨rfl, rfl⟩; conv => whnf
                obtain ⟨DX, hDX⟩ : ∃ DX, DX = (dcrashed D x.keep).2 := ⟨_, rfl⟩
                rw [← hDX] at D9 R9 GX
                clear hDX
                refine ALoop.mk (fun e h3 => (KeepT (oo, 1) h9 h3) ∧ ∃ e0, ∃ k : Nat, ∃ xs : List Int, e = updL 189 e0 [(0, Ptr p), (1, Ptr q), (5, Ptr b5), (7, I (dcrashed D x.keep).1), (8, I (dcrashed D x.keep).1), (9, .slice a6 x.bn c6), (10, .slice a7 x.kn c7), (11, I k)] ∧ k ≤ x.bn ∧ xs.length = x.bn ∧
                    Own h3 (oo, 1) 5 a6 x.bn c6 1 (bytesV xs)) (fun e => x.bn - natOf (e 11))
                  ⟨KeepT.refl _ _, _, 0, x.b, updL_self ⟨rfl, rfl, rfl, rfl, rfl, rfl, rfl, rfl, trivial⟩, by omega, hbl, in9⟩ ?_
                rintro e h10 ⟨kt10, e0, k, xs, rfl, hk, hxl, own10⟩
                conv => whnf
                by_cases hkl : k < x.bn
                · refine ACmp.yes (by omega) ?_; conv => whnf
                  obtain ⟨b11, l11, hb11a, hb11, hil11, hget11, hset11⟩ := own10.setc (i := k) hkl
                  subst hb11a
                  have hxk : (bytesV xs)[k]? = some (.int .u8 (xs[k]'(by omega))) := by simp [bytesV, show k < xs.length by omega]
                  refine AIdx.nat (z := 1) rfl hkl rfl rfl ?_; conv => whnf
                  refine ALoad.one rfl hb11 (by rw [Nat.zero_add, Nat.mul_one, hget11, hxk]) ?_; conv => whnf
                  refine AArith.raw ?_; conv => whnf
                  refine AIdx.nat (z := 1) rfl hkl rfl rfl ?_; conv => whnf
                  refine AStore.one rfl rfl rfl hb11 (by rw [Nat.zero_add, Nat.mul_one]; exact hil11) ?_
                  simp only [Nat.zero_add, Nat.mul_one]
                  conv => whnf
                  refine AArith.ok (by omega) (by omega) ((by omega : (k : Int) + 1 = ((k + 1 : Nat) : Int))) ?_; conv => whnf
                  refine ⟨⟨kt10.trans (KeepT.set hb11), _, k + 1, xs.set k (IntKind.u8.wrap (xs[k]'(by omega) + 1)), updL_self ⟨rfl, rfl, rfl, rfl, rfl, rfl, rfl, rfl, trivial⟩, by omega, by rw [List.length_set]; exact hxl, ?_⟩, ?_⟩
                  · have := hset11 (.int .u8 (IntKind.u8.wrap (xs[k]'(by omega) + 1)))
                    unfold bytesV at this ⊢
                    rw [List.map_set]; exact this
                  · show x.bn - (k + 1) < x.bn - k
                    omega
                · refine ACmp.no (by omega) ?_; conv => whnf
                  have ik10 := ik9.keepT kt10 (by simp)
                  have kkt := kt10
                  refine ALoop.mk (fun e h3 => (Keep oo h9 h3) ∧ ∃ e0, ∃ k : Nat, ∃ xs : List Int, e = updL 189 e0 [(0, Ptr p), (1, Ptr q), (5, Ptr b5), (7, I (dcrashed D x.keep).1), (8, I (dcrashed D x.keep).1), (10, .slice a7 x.kn c7), (12, I k)] ∧ k ≤ x.kn ∧
                      Own h3 (oo, 2) 3 a7 x.kn c7 1 (xs.map I)) (fun e => x.kn - natOf (e 12))
                    ⟨kt10.keep, _, 0, x.keep, updL_self ⟨rfl, rfl, rfl, rfl, rfl, rfl, rfl, trivial⟩, by omega, ik10⟩ ?_
                  clear own10 kt10 kkt ik10
                  rintro e h12 ⟨kt12, e0, k, ys, rfl, hk, own12⟩
                  conv => whnf
                  by_cases hkl : k < x.kn
                  · refine ACmp.yes (by omega) ?_; conv => whnf
                    obtain ⟨b13, l13, hb13a, hb13, hil13, hget13, hset13⟩ := own12.setc (i := k) hkl
                    subst hb13a
                    refine AIdx.nat (z := 1) rfl hkl rfl rfl ?_; conv => whnf
                    refine AStore.one rfl rfl rfl hb13 (by rw [Nat.zero_add, Nat.mul_one]; exact hil13) ?_
                    simp only [Nat.zero_add, Nat.mul_one]
                    conv => whnf
                    refine AArith.ok (by omega) (by omega) ((by omega : (k : Int) + 1 = ((k + 1 : Nat) : Int))) ?_; conv => whnf
                    refine ⟨⟨kt12.trans (KeepT.set hb13).keep, _, k + 1, ys.set k 99, updL_self ⟨rfl, rfl, rfl, rfl, rfl, rfl, rfl, trivial⟩, by omega, ?_⟩, ?_⟩
                    · have := hset13 (I 99)
                      rw [List.map_set]; exact this
                    · show x.kn - (k + 1) < x.kn - k
                      omega
                  · refine ACmp.no (by omega) ?_; conv => whnf
                    have D14 := D9.keep kt12 (by omega)
                    have R14 := R9.keep kt12 (by omega)
                    have k14 := kt12 _ _ _ (by simp; omega) k9
                    have kp14 := kp9.trans (kt12.keeps moo)
                    refine ALoad.one rfl k14 rfl ?_; conv => whnf
                    refine ACalls.mono (Read_any D14 GX x.name (0, 1)) ?_; rintro _ h15 ⟨a15, c15, rfl, own15, s15⟩; conv => whnf
                    have k15 := s15 _ _ k14
                    refine ALoad.one rfl k15 rfl ?_; conv => whnf
                    refine ACalls.mono (refRead_any (R14.sub s15) GX x.name (0, 1)) ?_; rintro _ h16 ⟨a16, c16, rfl, own16, s16⟩; conv => whnf
                    refine ACmp.yes (rfl) ?_; conv => whnf
                    have hrl := GX.read x.name
                    have ce3 := eqBytes_any _ (own15.move fun b y e => s16 _ _ e).sl own16.sl (by omega)
                    rw [decide_eq_true rfl] at ce3
                    refine ACalls.mono (ce3) ?_; rintro _ _ ⟨rfl, rfl⟩; conv => whnf
                    refine ACmp.yes (rfl) ?_; conv => whnf
                    refine ACalls.mono (same_any (D14.sub (s15.trans s16)) (R14.sub (s15.trans s16)) GX) ?_; rintro _ _ ⟨rfl, rfl⟩; conv => whnf
                    exact ⟨rfl, ⟨DX, D14.sub (s15.trans s16), R14.sub (s15.trans s16), GX⟩, kp14.trans ((s15.trans s16).keeps _)⟩
              · refine ACmp.no (q6) ?_; conv => whnf
                by_cases q7 : bring x.kind 9 = 7
                · refine ACmp.yes (q7) ?_; conv => whnf
                  refine ACalls.mono (Boot_any D7) ?_; rintro _ h8 ⟨rfl, D8, ka8⟩; conv => whnf
                  refine ACalls.mono (refBoot_any (R7.keep ka8 (by decide))) ?_; rintro _ h9 ⟨rfl, R9, kb9⟩; conv => whnf
                  have GX := g.boot
                  have k9 := kb9 _ _ _ y2 (ka8 _ _ _ y1 k7)
                  have sb9 := (sb7.keep ka8 z1).keep kb9 z2
                  have sk9 := (sk7.keep ka8 z1).keep kb9 z2
                  have in9 := (in7.move fun b y e => ka8 _ _ _ o1 e).move fun b y e => kb9 _ _ _ o2 e
                  have ik9 := (own7.move fun b y e => ka8 _ _ _ o1' e).move fun b y e => kb9 _ _ _ o2' e
                  have kp9 := (kp7.trans (ka8.keeps m1)).trans (kb9.keeps m2)
                  have D9 := D8.keep kb9 (by decide)
                  refine ALoad.one rfl k9 rfl ?_; conv => whnf
                  have ce := eqBytes_any _ in9.sl sb9 (by omega)
                  rw [decide_eq_true rfl] at ce
                  refine ACalls.mono (ce) ?_; rintro _ _ ⟨rfl, rfl⟩; conv => whnf
                  refine ALoad.one rfl k9 rfl ?_; conv => whnf
                  have ce2 := eqInts_any _ ik9.sl sk9 (by omega)
                  rw [decide_eq_true rfl] at ce2
                  refine ACalls.mono (ce2) ?_; rintro _ _ ⟨rfl, rfl⟩; conv => whnf
                  obtain ⟨DX, hDX⟩ : ∃ DX, DX = (dboot D) := ⟨_, rfl⟩
                  rw [← hDX] at D9 R9 GX
                  clear hDX
                  refine ALoop.mk (fun e h3 => (KeepT (oo, 1) h9 h3) ∧ ∃ e0, ∃ k : Nat, ∃ xs : List Int, e = updL 189 e0 [(0, Ptr p), (1, Ptr q), (5, Ptr b5), (7, I (0:Int)), (8, I (0:Int)), (9, .slice a6 x.bn c6), (10, .slice a7 x.kn c7), (11, I k)] ∧ k ≤ x.bn ∧ xs.length = x.bn ∧
                      Own h3 (oo, 1) 5 a6 x.bn c6 1 (bytesV xs)) (fun e => x.bn - natOf (e 11))
                    ⟨KeepT.refl _ _, _, 0, x.b, updL_self ⟨rfl, rfl, rfl, rfl, rfl, rfl, rfl, rfl, trivial⟩, by omega, hbl, in9⟩ ?_
                  rintro e h10 ⟨kt10, e0, k, xs, rfl, hk, hxl, own10⟩
                  conv => whnf
                  by_cases hkl : k < x.bn
                  · refine ACmp.yes (by omega) ?_; conv => whnf
                    obtain ⟨b11, l11, hb11a, hb11, hil11, hget11, hset11⟩ := own10.setc (i := k) hkl
                    subst hb11a
                    have hxk : (bytesV xs)[k]? = some (.int .u8 (xs[k]'(by omega))) := by simp [bytesV, show k < xs.length by omega]
                    refine AIdx.nat (z := 1) rfl hkl rfl rfl ?_; conv => whnf
                    refine ALoad.one rfl hb11 (by rw [Nat.zero_add, Nat.mul_one, hget11, hxk]) ?_; conv => whnf
                    refine AArith.raw ?_; conv => whnf
                    refine AIdx.nat (z := 1) rfl hkl rfl rfl ?_; conv => whnf
                    refine AStore.one rfl rfl rfl hb11 (by rw [Nat.zero_add, Nat.mul_one]; exact hil11) ?_
                    simp only [Nat.zero_add, Nat.mul_one]
                    conv => whnf
                    refine AArith.ok (by omega) (by omega) ((by omega : (k : Int) + 1 = ((k + 1 : Nat) : Int))) ?_; conv => whnf
                    refine ⟨⟨kt10.trans (KeepT.set hb11), _, k + 1, xs.set k (IntKind.u8.wrap (xs[k]'(by omega) + 1)), updL_self ⟨rfl, rfl, rfl, rfl, rfl, rfl, rfl, rfl, trivial⟩, by omega, by rw [List.length_set]; exact hxl, ?_⟩, ?_⟩
                    · have := hset11 (.int .u8 (IntKind.u8.wrap (xs[k]'(by omega) + 1)))
                      unfold bytesV at this ⊢
                      rw [List.map_set]; exact this
                    · show x.bn - (k + 1) < x.bn - k
                      omega
                  · refine ACmp.no (by omega) ?_; conv => whnf
                    have ik10 := ik9.keepT kt10 (by simp)
                    have kkt := kt10
                    refine ALoop.mk (fun e h3 => (Keep oo h9 h3) ∧ ∃ e0, ∃ k : Nat, ∃ xs : List Int, e = updL 189 e0 [(0, Ptr p), (1, Ptr q), (5, Ptr b5), (7, I (0:Int)), (8, I (0:Int)), (10, .slice a7 x.kn c7), (12, I k)] ∧ k ≤ x.kn ∧
                        Own h3 (oo, 2) 3 a7 x.kn c7 1 (xs.map I)) (fun e => x.kn - natOf (e 12))
                      ⟨kt10.keep, _, 0, x.keep, updL_self ⟨rfl, rfl, rfl, rfl, rfl, rfl, rfl, trivial⟩, by omega, ik10⟩ ?_
                    clear own10 kt10 kkt ik10
                    rintro e h12 ⟨kt12, e0, k, ys, rfl, hk, own12⟩
                    conv => whnf
                    by_cases hkl : k < x.kn
                    · refine ACmp.yes (by omega) ?_; conv => whnf
                      obtain ⟨b13, l13, hb13a, hb13, hil13, hget13, hset13⟩ := own12.setc (i := k) hkl
                      subst hb13a
                      refine AIdx.nat (z := 1) rfl hkl rfl rfl ?_; conv => whnf
                      refine AStore.one rfl rfl rfl hb13 (by rw [Nat.zero_add, Nat.mul_one]; exact hil13) ?_
                      simp only [Nat.zero_add, Nat.mul_one]
                      conv => whnf
                      refine AArith.ok (by omega) (by omega) ((by omega : (k : Int) + 1 = ((k + 1 : Nat) : Int))) ?_; conv => whnf
                      refine ⟨⟨kt12.trans (KeepT.set hb13).keep, _, k + 1, ys.set k 99, updL_self ⟨rfl, rfl, rfl, rfl, rfl, rfl, rfl, trivial⟩, by omega, ?_⟩, ?_⟩
                      · have := hset13 (I 99)
                        rw [List.map_set]; exact this
                      · show x.kn - (k + 1) < x.kn - k
                        omega
                    · refine ACmp.no (by omega) ?_; conv => whnf
                      have D14 := D9.keep kt12 (by omega)
                      have R14 := R9.keep kt12 (by omega)
                      have k14 := kt12 _ _ _ (by simp; omega) k9
                      have kp14 := kp9.trans (kt12.keeps moo)
                      refine ALoad.one rfl k14 rfl ?_; conv => whnf
                      refine ACalls.mono (Read_any D14 GX x.name (0, 1)) ?_; rintro _ h15 ⟨a15, c15, rfl, own15, s15⟩; conv => whnf
                      have k15 := s15 _ _ k14
                      refine ALoad.one rfl k15 rfl ?_; conv => whnf
                      refine ACalls.mono (refRead_any (R14.sub s15) GX x.name (0, 1)) ?_; rintro _ h16 ⟨a16, c16, rfl, own16, s16⟩; conv => whnf
                      refine ACmp.yes (rfl) ?_; conv => whnf
                      have hrl := GX.read x.name
                      have ce3 := eqBytes_any _ (own15.move fun b y e => s16 _ _ e).sl own16.sl (by omega)
                      rw [decide_eq_true rfl] at ce3
                      refine ACalls.mono (ce3) ?_; rintro _ _ ⟨rfl, rfl⟩; conv => whnf
                      refine ACmp.yes (rfl) ?_; conv => whnf
                      refine ACalls.mono (same_any (D14.sub (s15.trans s16)) (R14.sub (s15.trans s16)) GX) ?_; rintro _ _ ⟨rfl, rfl⟩; conv => whnf
                      exact ⟨rfl, ⟨DX, D14.sub (s15.trans s16), R14.sub (s15.trans s16), GX⟩, kp14.trans ((s15.trans s16).keeps _)⟩
                · refine ACmp.no (q7) ?_; conv => whnf
                  refine ALoad.one rfl k7 rfl ?_; conv => whnf
                  refine ALoad.one rfl k7 rfl ?_; conv => whnf
                  refine ⟨by decide, ?_⟩
                  refine AInt.as rfl ?_; conv => whnf
                  refine ALoad.one rfl k7 rfl ?_; conv => whnf
                  refine AInt.as rfl ?_; conv => whnf
                  refine ACalls.mono (Turn_any D7 g x.name _ _) ?_; rintro _ h8 ⟨rfl, D8, ka8⟩; conv => whnf
                  refine ALoad.one rfl (ka8 _ _ _ y1 k7) rfl ?_; conv => whnf
                  refine ALoad.one rfl (ka8 _ _ _ y1 k7) rfl ?_; conv => whnf
                  refine ⟨by decide, ?_⟩
                  refine AInt.as rfl ?_; conv => whnf
                  refine ALoad.one rfl (ka8 _ _ _ y1 k7) rfl ?_; conv => whnf
                  refine AInt.as rfl ?_; conv => whnf
                  refine ACalls.mono (refTurn_any (R7.keep ka8 (by decide)) g x.name _ _) ?_; rintro _ h9 ⟨rfl, R9, kb9⟩; conv => whnf
                  generalize hti : x.n_.fdiv (2 ^ min (Int.toNat 3) IntKind.i64.bits) = ti at D8 R9 ⊢
                  generalize htk : IntKind.i64.wrap ((BitVec.ofInt IntKind.i64.bits x.n_ &&& BitVec.ofInt IntKind.i64.bits 7).toNat : Int) = tk at D8 R9 ⊢
                  have GX := g.turn x.name ti tk
                  have k9 := kb9 _ _ _ y2 (ka8 _ _ _ y1 k7)
                  have sb9 := (sb7.keep ka8 z1).keep kb9 z2
                  have sk9 := (sk7.keep ka8 z1).keep kb9 z2
                  have in9 := (in7.move fun b y e => ka8 _ _ _ o1 e).move fun b y e => kb9 _ _ _ o2 e
                  have ik9 := (own7.move fun b y e => ka8 _ _ _ o1' e).move fun b y e => kb9 _ _ _ o2' e
                  have kp9 := (kp7.trans (ka8.keeps m1)).trans (kb9.keeps m2)
                  have D9 := D8.keep kb9 (by decide)
                  refine ALoad.one rfl k9 rfl ?_; conv => whnf
                  have ce := eqBytes_any _ in9.sl sb9 (by omega)
                  rw [decide_eq_true rfl] at ce
                  refine ACalls.mono (ce) ?_; rintro _ _ ⟨rfl, rfl⟩; conv => whnf
                  refine ALoad.one rfl k9 rfl ?_; conv => whnf
                  have ce2 := eqInts_any _ ik9.sl sk9 (by omega)
                  rw [decide_eq_true rfl] at ce2
                  refine ACalls.mono (ce2) ?_; rintro _ _ ⟨rfl, rfl⟩; conv => whnf
                  obtain ⟨DX, hDX⟩ : ∃ DX, DX = (dturn D x.name ti tk).2 := ⟨_, rfl⟩
                  rw [← hDX] at D9 R9 GX
                  clear hDX
                  refine ALoop.mk (fun e h3 => (KeepT (oo, 1) h9 h3) ∧ ∃ e0, ∃ k : Nat, ∃ xs : List Int, e = updL 189 e0 [(0, Ptr p), (1, Ptr q), (5, Ptr b5), (7, I (dturn D x.name ti tk).1), (8, I (dturn D x.name ti tk).1), (9, .slice a6 x.bn c6), (10, .slice a7 x.kn c7), (11, I k)] ∧ k ≤ x.bn ∧ xs.length = x.bn ∧
                      Own h3 (oo, 1) 5 a6 x.bn c6 1 (bytesV xs)) (fun e => x.bn - natOf (e 11))
                    ⟨KeepT.refl _ _, _, 0, x.b, updL_self ⟨rfl, rfl, rfl, rfl, rfl, rfl, rfl, rfl, trivial⟩, by omega, hbl, in9⟩ ?_
                  rintro e h10 ⟨kt10, e0, k, xs, rfl, hk, hxl, own10⟩
                  conv => whnf
                  by_cases hkl : k < x.bn
                  · refine ACmp.yes (by omega) ?_; conv => whnf
                    obtain ⟨b11, l11, hb11a, hb11, hil11, hget11, hset11⟩ := own10.setc (i := k) hkl
                    subst hb11a
                    have hxk : (bytesV xs)[k]? = some (.int .u8 (xs[k]'(by omega))) := by simp [bytesV, show k < xs.length by omega]
                    refine AIdx.nat (z := 1) rfl hkl rfl rfl ?_; conv => whnf
                    refine ALoad.one rfl hb11 (by rw [Nat.zero_add, Nat.mul_one, hget11, hxk]) ?_; conv => whnf
                    refine AArith.raw ?_; conv => whnf
                    refine AIdx.nat (z := 1) rfl hkl rfl rfl ?_; conv => whnf
                    refine AStore.one rfl rfl rfl hb11 (by rw [Nat.zero_add, Nat.mul_one]; exact hil11) ?_
                    simp only [Nat.zero_add, Nat.mul_one]
                    conv => whnf
                    refine AArith.ok (by omega) (by omega) ((by omega : (k : Int) + 1 = ((k + 1 : Nat) : Int))) ?_; conv => whnf
                    refine ⟨⟨kt10.trans (KeepT.set hb11), _, k + 1, xs.set k (IntKind.u8.wrap (xs[k]'(by omega) + 1)), updL_self ⟨rfl, rfl, rfl, rfl, rfl, rfl, rfl, rfl, trivial⟩, by omega, by rw [List.length_set]; exact hxl, ?_⟩, ?_⟩
                    · have := hset11 (.int .u8 (IntKind.u8.wrap (xs[k]'(by omega) + 1)))
                      unfold bytesV at this ⊢
                      rw [List.map_set]; exact this
                    · show x.bn - (k + 1) < x.bn - k
                      omega
                  · refine ACmp.no (by omega) ?_; conv => whnf
                    have ik10 := ik9.keepT kt10 (by simp)
                    have kkt := kt10
                    refine ALoop.mk (fun e h3 => (Keep oo h9 h3) ∧ ∃ e0, ∃ k : Nat, ∃ xs : List Int, e = updL 189 e0 [(0, Ptr p), (1, Ptr q), (5, Ptr b5), (7, I (dturn D x.name ti tk).1), (8, I (dturn D x.name ti tk).1), (10, .slice a7 x.kn c7), (12, I k)] ∧ k ≤ x.kn ∧
                        Own h3 (oo, 2) 3 a7 x.kn c7 1 (xs.map I)) (fun e => x.kn - natOf (e 12))
                      ⟨kt10.keep, _, 0, x.keep, updL_self ⟨rfl, rfl, rfl, rfl, rfl, rfl, rfl, trivial⟩, by omega, ik10⟩ ?_
                    clear own10 kt10 kkt ik10
                    rintro e h12 ⟨kt12, e0, k, ys, rfl, hk, own12⟩
                    conv => whnf
                    by_cases hkl : k < x.kn
                    · refine ACmp.yes (by omega) ?_; conv => whnf
                      obtain ⟨b13, l13, hb13a, hb13, hil13, hget13, hset13⟩ := own12.setc (i := k) hkl
                      subst hb13a
                      refine AIdx.nat (z := 1) rfl hkl rfl rfl ?_; conv => whnf
                      refine AStore.one rfl rfl rfl hb13 (by rw [Nat.zero_add, Nat.mul_one]; exact hil13) ?_
                      simp only [Nat.zero_add, Nat.mul_one]
                      conv => whnf
                      refine AArith.ok (by omega) (by omega) ((by omega : (k : Int) + 1 = ((k + 1 : Nat) : Int))) ?_; conv => whnf
                      refine ⟨⟨kt12.trans (KeepT.set hb13).keep, _, k + 1, ys.set k 99, updL_self ⟨rfl, rfl, rfl, rfl, rfl, rfl, rfl, trivial⟩, by omega, ?_⟩, ?_⟩
                      · have := hset13 (I 99)
                        rw [List.map_set]; exact this
                      · show x.kn - (k + 1) < x.kn - k
                        omega
                    · refine ACmp.no (by omega) ?_; conv => whnf
                      have D14 := D9.keep kt12 (by omega)
                      have R14 := R9.keep kt12 (by omega)
                      have k14 := kt12 _ _ _ (by simp; omega) k9
                      have kp14 := kp9.trans (kt12.keeps moo)
                      refine ALoad.one rfl k14 rfl ?_; conv => whnf
                      refine ACalls.mono (Read_any D14 GX x.name (0, 1)) ?_; rintro _ h15 ⟨a15, c15, rfl, own15, s15⟩; conv => whnf
                      have k15 := s15 _ _ k14
                      refine ALoad.one rfl k15 rfl ?_; conv => whnf
                      refine ACalls.mono (refRead_any (R14.sub s15) GX x.name (0, 1)) ?_; rintro _ h16 ⟨a16, c16, rfl, own16, s16⟩; conv => whnf
                      refine ACmp.yes (rfl) ?_; conv => whnf
                      have hrl := GX.read x.name
                      have ce3 := eqBytes_any _ (own15.move fun b y e => s16 _ _ e).sl own16.sl (by omega)
                      rw [decide_eq_true rfl] at ce3
                      refine ACalls.mono (ce3) ?_; rintro _ _ ⟨rfl, rfl⟩; conv => whnf
                      refine ACmp.yes (rfl) ?_; conv => whnf
                      refine ACalls.mono (same_any (D14.sub (s15.trans s16)) (R14.sub (s15.trans s16)) GX) ?_; rintro _ _ ⟨rfl, rfl⟩; conv => whnf
                      exact ⟨rfl, ⟨DX, D14.sub (s15.trans s16), R14.sub (s15.trans s16), GX⟩, kp14.trans ((s15.trans s16).keeps _)⟩

set_option maxHeartbeats 4000000 in
theorem Deeds_law (h : Heap) (z : AllZero h) {la : Option Addr} {ln lc : Nat} {ps : List EHd} (sl : Sl h (0, 0) la ln lc 6 (ps.map EHd.cells).flatten) (hpl : ps.length = ln) (hok : ∀ x ∈ ps, x.Ok h) :
    ACalls PR 7 #[.slice la ln lc] h (fun v h' => v = .bool true ∧ Stays h h') := by
  have rz6 : ∀ e ∈ ps.map EHd.cells, e.length = 6 := by intro e he; obtain ⟨x, _, rfl⟩ := List.mem_map.1 he; rfl
  refine acalls_of mix Try.func7 rfl rfl Try.ntmps7 Try.results7 rfl ?_; conv => whnf
  refine ACalls.mono (New_any h 1) ?_; rintro _ h1 ⟨p, m, rfl, d1, s1⟩; conv => whnf
  refine ACalls.mono (refNew_any h1 2) ?_; rintro _ h2 ⟨q, rfl, r2, s2⟩; conv => whnf
  refine ACalls.mono (New_any h2 3) ?_; rintro _ h3 ⟨r, m3, rfl, d3, s3⟩; conv => whnf
  have D3 : DA h3 p 1 dnew := DA.sub ⟨_, _, _, _, d1⟩ (s2.trans s3)
  have E3 : DA h3 r 3 dnew := ⟨_, _, _, _, d3⟩
  have R3 := r2.sub s3
  refine ALoop.mk (fun e h' => Stays h h' ∧ ∃ e0, ∃ i : Nat, e = updL 41 e0 [(0, .slice la ln lc), (3, Ptr p), (4, Ptr q), (5, Ptr r), (6, I i)] ∧ i ≤ ln ∧ i ≤ 60 ∧ ∃ D E, DA h' p 1 D ∧ RA h' q 2 D ∧ Good D ∧ DA h' r 3 E ∧ Good E) (fun e => ln - natOf (e 6))
    ⟨s1.stays.trans (s2.stays.trans s3.stays), _, 0, updL_self ⟨rfl, rfl, rfl, rfl, rfl, trivial⟩, by omega, by omega, dnew, dnew, D3, R3, Good.new, E3, Good.new⟩ ?_
  rintro e h4 ⟨st, e0, i, rfl, hi, hi60, D, E, dD, rD, gD, dE, gE⟩
  conv => whnf
  by_cases hlt : i < ln
  · refine ACmp.yes (by omega) ?_; conv => whnf
    by_cases hlt60 : i < 60
    · refine ACmp.yes (by omega) ?_; conv => whnf
      have hx : ps[i]? = some (ps[i]'(by omega)) := by simp [show i < ps.length by omega]
      obtain ⟨b, off, l, E', fz, rfl, hb, hp, _⟩ := (sl.stays st).elem rz6 (by simp [hpl]) (by omega) (i := i) (e := (ps[i]'(by omega)).cells) (by simp [hx])
      refine AIdx.nat (z := 6) rfl hlt rfl rfl ?_; conv => whnf
      refine ALoad.agg (n := 6) (vs := (ps[i]'(by omega)).cells) rfl hb hp rfl ?_; conv => whnf
      refine ACalls.mono (deed_any dD rD gD _ ((hok _ (List.mem_of_getElem? hx)).stays st)) ?_; rintro _ h5 ⟨rfl, ⟨D', d5, r5, g5⟩, k5⟩; conv => whnf
      refine ABuildSl.mk (0, 1) rfl rfl rfl rfl rfl rfl rfl fun b6 f6 => ?_; conv => whnf
      have q6 := f6.sub (row (0, 1) (bytesV [1]) 5)
      refine ACalls.mono (Append_any (by decide) ((dE.keeps k5 (by decide)).sub q6) gE [97] (by decide) (sl_bytes (xs := [1]) (Heap.set_same _ _ _)) (by decide) (by decide)) ?_; rintro _ h7 ⟨rfl, d7, k7⟩; conv => whnf
      refine AArith.ok (by omega) (by omega) ((by omega : (i : Int) + 1 = ((i + 1 : Nat) : Int))) ?_; conv => whnf
      refine ⟨⟨st.trans ((k5.stays (by decide)).trans (q6.stays.trans (k7.stays (by decide)))), _, i + 1, updL_self ⟨rfl, rfl, rfl, rfl, rfl, trivial⟩, by omega, by omega, D', _, (d5.sub q6).keep k7 (by decide), (r5.sub q6).keep k7 (by decide), g5, d7, gE.append _ _⟩, ?_⟩
      show ln - (i + 1) < ln - i
      omega
    · refine ACmp.no (by omega) ?_; conv => whnf
      refine ACalls.mono (Boot_any dD) ?_; rintro _ h5 ⟨rfl, d5, k5⟩; conv => whnf
      refine ACalls.mono (refBoot_any (rD.keep k5 (by decide))) ?_; rintro _ h6 ⟨rfl, r6, k6⟩; conv => whnf
      refine ACalls.mono (same_any (d5.keep k6 (by decide)) r6 gD.boot) ?_; rintro _ _ ⟨rfl, rfl⟩; conv => whnf
      refine ACalls.mono (works_any _) ?_; rintro _ _ ⟨rfl, rfl⟩; conv => whnf
      exact ⟨rfl, st.trans ((k5.stays (by decide)).trans (k6.stays (by decide)))⟩
  · refine ACmp.no (by omega) ?_; conv => whnf
    refine ACalls.mono (Boot_any dD) ?_; rintro _ h5 ⟨rfl, d5, k5⟩; conv => whnf
    refine ACalls.mono (refBoot_any (rD.keep k5 (by decide))) ?_; rintro _ h6 ⟨rfl, r6, k6⟩; conv => whnf
    refine ACalls.mono (same_any (d5.keep k6 (by decide)) r6 gD.boot) ?_; rintro _ _ ⟨rfl, rfl⟩; conv => whnf
    refine ACalls.mono (works_any _) ?_; rintro _ _ ⟨rfl, rfl⟩; conv => whnf
    exact ⟨rfl, st.trans ((k5.stays (by decide)).trans (k6.stays (by decide)))⟩
end Go.Ah
