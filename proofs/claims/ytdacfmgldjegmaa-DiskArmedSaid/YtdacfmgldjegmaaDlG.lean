/- DiskKeeps. -/
import Derived.Test.YtdacfmgldjegmaaDlF
namespace Go.Ah
open Go.Proofs
set_option linter.unusedVariables false
set_option linter.unusedSimpArgs false
set_option maxRecDepth 20000

abbrev fileN : Nm := [102, 105, 108, 101]
/-- what has been appended, and how much of it is synced -/
def kst (ps : List PH) : Nat → List Int × Nat
  | 0 => ([], 0)
  | i + 1 => match ps[i]? with
    | some x => ((kst ps i).1 ++ x.b.take 2000, if x.sy then ((kst ps i).1 ++ x.b.take 2000).length else (kst ps i).2)
    | none => kst ps i
theorem kst_bd (ps : List PH) : ∀ i, (kst ps i).2 ≤ (kst ps i).1.length ∧ (kst ps i).1.length ≤ 2000 * i
  | 0 => by simp [kst]
  | i + 1 => by
    have ih := kst_bd ps i
    unfold kst
    split
    · rename_i x _
      have : (x.b.take 2000).length ≤ 2000 := by simp; omega
      simp only [List.length_append] at *
      split <;> omega
    · omega
/-- the disk then -/
def kdd (ps : List PH) (i : Nat) : DD := if i = 0 then dnew else ⟨[⟨fileN, (kst ps i).1, (kst ps i).2⟩], false, -1, []⟩
theorem kdd_append (ps : List PH) (i : Nat) (hi : i < 60) (b : List Int) (hb : b.length ≤ 2000) : dappend (kdd ps i) fileN b = (0, ⟨[⟨fileN, (kst ps i).1 ++ b, (kst ps i).2⟩], false, -1, []⟩) := by
  have hbd := kst_bd ps i
  unfold kdd
  split
  · rename_i h0
    subst h0
    rw [dappend_new rfl rfl (by decide) rfl (by simp [dnew]) (by omega)]; rfl
  · rw [dappend_old rfl rfl (by decide) (f := ⟨fileN, (kst ps i).1, (kst ps i).2⟩) rfl (by simp only; omega)]; rfl

set_option maxHeartbeats 4000000 in
theorem Keeps_law (h : Heap) (z : AllZero h) {la : Option Addr} {ln lc : Nat} {ps : List PH} (sl : Sl h (0, 0) la ln lc 2 (ps.map PH.cells).flatten) (hpl : ps.length = ln) (hok : ∀ x ∈ ps, x.Ok h) (keep : Int) :
    ACalls PR 3 #[.slice la ln lc, I keep] h (fun v h' => v = .bool true ∧ Stays h h') := by
  have rz2 : ∀ e ∈ ps.map PH.cells, e.length = 2 := by intro e he; obtain ⟨x, _, rfl⟩ := List.mem_map.1 he; rfl
  have t01 : ((0, 1) : Tag).1 ≠ 1 := by decide
  refine acalls_of mix Try.func3 rfl rfl Try.ntmps3 Try.results3 rfl ?_; conv => whnf
  refine ACalls.mono (works_any h) ?_; rintro _ _ ⟨rfl, rfl⟩; conv => whnf
  refine ACalls.mono (New_any h 1) ?_; rintro _ h1 ⟨p, m, rfl, d1, s1⟩; conv => whnf
  refine ALoop.mk (fun e h' => Stays h h' ∧ ∃ e0, ∃ i : Nat, ∃ aa ac, e = updL 127 e0 [(0, .slice la ln lc), (1, I keep), (5, Ptr p), (6, .slice aa (kst ps i).1.length ac), (7, I (kst ps i).2), (8, I i)] ∧ i ≤ ln ∧ i ≤ 60 ∧
      DA h' p 1 (kdd ps i) ∧ Good (kdd ps i) ∧ Own h' (2, 0) 5 aa (kst ps i).1.length ac 1 (bytesV (kst ps i).1)) (fun e => ln - natOf (e 8))
    ⟨s1.stays, _, 0, none, 0, updL_self ⟨rfl, rfl, rfl, rfl, rfl, rfl, trivial⟩, by omega, by omega, ⟨_, _, _, _, d1⟩, Good.new, .inl ⟨rfl, rfl, rfl⟩⟩ ?_
  rintro e h4 ⟨st, e0, i, aa, ac, rfl, hi, hi60, dD, gD, own⟩
  have hbd := kst_bd ps i
  conv => whnf
  by_cases hlt : i < ln
  · refine ACmp.yes (by omega) ?_; conv => whnf
    by_cases hlt60 : i < 60
    · refine ACmp.yes (by omega) ?_; conv => whnf
      obtain ⟨x, hx⟩ : ∃ x, ps[i]? = some x := ⟨ps[i]'(by omega), by simp⟩
      have hxok := hok _ (List.mem_of_getElem? hx)
      have hxl : x.b.length = x.n := by have := hxok.sl.len; simpa [bytesV] using this
      have hxn := hxok.le
      obtain ⟨b, off, l, E', fz, rfl, hb0, hp, hg⟩ := sl.elem rz2 (by simp [hpl]) (by omega) (i := i) (e := x.cells) (by simp [hx])
      have hb := st _ _ hb0
      have g0 := hg 0 (by omega)
      have g1 := hg 1 (by omega)
      refine ADrawn.mk (h4) [] (Sub.refl _) (by decide +kernel) ?_; conv => whnf
      refine AIdx.nat (z := 2) rfl hlt rfl rfl ?_; conv => whnf
      refine ALoad.one rfl hb g0 ?_; conv => whnf
      refine AIdx.nat (z := 2) rfl hlt rfl rfl ?_; conv => whnf
      refine ALoad.one rfl hb g0 ?_; conv => whnf
      refine AInt.as (r' := ((min x.n 2000 : Nat) : Int)) (by split <;> omega) ?_; conv => whnf
      refine ASlc.upto (m := min x.n 2000) rfl (by have := hxok.sl.le; omega) rfl rfl ?_; conv => whnf
      have slb : Sl h4 (0, 0) x.a (min x.n 2000) x.c 1 (bytesV (x.b.take 2000)) := by
        have := (hxok.sl.stays st).slice (l := 0) (m := min x.n 2000) (x := x.c) (by omega) (by omega) (by have := hxok.sl.le; omega)
        rw [slBase_zero] at this
        have e2 : (bytesV x.b).take (min x.n 2000) = bytesV (x.b.take 2000) := by
          unfold bytesV
          rw [← List.map_take]
          congr 1
          rw [← hxl, Nat.min_comm, ← List.take_take, List.take_length]
        simpa [e2] using this
      have hb2 : (x.b.take 2000).length ≤ 2000 := by simp; omega
      refine ACalls.mono (Append_any (by decide) dD gD fileN (by decide) slb (by decide) (by omega)) ?_; rintro _ h5 ⟨rfl, d5, k5⟩; conv => whnf
      have g5 := gD.append fileN (x.b.take 2000)
      rw [kdd_append ps i hlt60 _ hb2] at d5 g5 ⊢
      refine ACmp.no (by simp) ?_; conv => whnf
      have own5 := own.move fun b y e => k5 _ _ _ (by decide) e
      have st5 : Stays h h5 := st.trans (k5.stays (by decide))
      refine AAppend.own (t := (2, 0)) (E := 5) (z := 1) (by_ := 1) (zero := [.int .u8 0]) rfl ⟨_, rfl⟩ rfl rfl rfl rfl (by omega) own5 (slb.keep k5 (by decide)) (oneCell_bytes _) (by omega) (by omega) fun a6 c6 h6 own6 kt6 _ => ?_
      conv => whnf
      have kt6k : Keep 2 h5 h6 := kt6.keep
      have st6 : Stays h h6 := st5.trans (kt6.stays (by decide))
      have d6 := d5.keep kt6k (by decide)
      have hb6 := st6 _ _ hb0
      have hk1 : kst ps (i + 1) = ((kst ps i).1 ++ x.b.take 2000, if x.sy then ((kst ps i).1 ++ x.b.take 2000).length else (kst ps i).2) := by rw [kst, hx]
      have hlen : (kst ps i).1.length + min x.n 2000 = (kst ps (i + 1)).1.length := by rw [hk1]; simp only [List.length_append, List.length_take]; omega
      have hal : bytesV (kst ps i).1 ++ bytesV (x.b.take 2000) = bytesV (kst ps (i + 1)).1 := by rw [hk1]; simp [bytesV]
      rw [hlen, hal] at own6
      rw [hlen]
      refine AIdx.nat (z := 2) rfl hlt rfl rfl ?_; conv => whnf
      refine ALoad.one rfl hb6 g1 ?_; conv => whnf
      have hkd1 : kdd ps (i + 1) = ⟨[⟨fileN, (kst ps (i + 1)).1, (kst ps (i + 1)).2⟩], false, -1, []⟩ := by unfold kdd; rw [if_neg (by omega)]
      cases hsy : x.sy with
      | false =>
        rw [hsy, if_neg (by simp)] at hk1
        have hkd2 : kdd ps (i + 1) = ⟨[⟨fileN, (kst ps i).1 ++ x.b.take 2000, (kst ps i).2⟩], false, -1, []⟩ := by rw [hkd1, hk1]
        conv => whnf
        refine AArith.ok (by omega) (by omega) ((by omega : (i : Int) + 1 = ((i + 1 : Nat) : Int))) ?_; conv => whnf
        refine ⟨⟨st6, _, i + 1, a6, c6, updL_self ⟨rfl, rfl, rfl, rfl, ?_, rfl, trivial⟩, by omega, by omega, by rw [hkd2]; exact d6, by rw [hkd2]; exact g5, own6⟩, ?_⟩
        · rw [hk1]; rfl
        · show ln - (i + 1) < ln - i
          omega
      | true =>
        rw [hsy, if_pos rfl] at hk1
        conv => whnf
        refine ACalls.mono (Sync_any (by decide) d6 g5 fileN) ?_; rintro _ h7 ⟨rfl, d7, k7⟩; conv => whnf
        have g7 := g5.sync fileN
        have e7 : dsync ⟨[⟨fileN, (kst ps i).1 ++ x.b.take 2000, (kst ps i).2⟩], false, -1, []⟩ fileN = (0, kdd ps (i + 1)) := by
          rw [dsync_ok rfl rfl (f := ⟨fileN, (kst ps i).1 ++ x.b.take 2000, (kst ps i).2⟩) rfl, hkd1, hk1]; rfl
        simp only [] at d7 g7
        rw [e7] at d7 g7 ⊢
        refine ACmp.no (by simp) ?_; conv => whnf
        refine AArith.ok (by omega) (by omega) ((by omega : (i : Int) + 1 = ((i + 1 : Nat) : Int))) ?_; conv => whnf
        refine ⟨⟨st6.trans (k7.stays (by decide)), _, i + 1, a6, c6, updL_self ⟨rfl, rfl, rfl, rfl, ?_, rfl, trivial⟩, by omega, by omega, d7, g7, own6.move fun b y e => k7 _ _ _ (by decide) e⟩, ?_⟩
        · rw [hk1]; rfl
        · show ln - (i + 1) < ln - i
          omega
    · refine ACmp.no (by omega) ?_; conv => whnf
      have hpos : ln ≠ 0 → i ≠ 0 := fun _ => by omega
      refine ABuildSl.mk (0, 1) rfl rfl rfl rfl rfl rfl rfl fun b5 f5 => ?_; conv => whnf
      have q5 := f5.sub (row (0, 1) ([keep].map I) 3)
      have own5 := own.move (h' := h4.set b5 (row (0, 1) ([keep].map I) 3)) fun _ _ e => q5 _ _ e
      refine ACalls.mono (Crash_any (by decide) (dD.sub q5) gD (sl_ints (xs := [keep]) (Heap.set_same _ _ _)) t01) ?_; rintro _ h6 ⟨rfl, d6, k6⟩; conv => whnf
      have g6 := gD.crashed [keep]
      have hdead : (kdd ps i).dead = false := by unfold kdd; split <;> rfl
      have e6 : dcrashed (kdd ps i) [keep] = (0, dcrash [keep] (kdd ps i)) := by simp [dcrashed, hdead]
      rw [e6] at d6 g6 ⊢
      refine ACmp.no (by simp) ?_; conv => whnf
      refine ACalls.mono (Boot_any d6) ?_; rintro _ h7 ⟨rfl, d7, k7⟩; conv => whnf
      have g7 := g6.boot
      refine ACmp.no (by simp) ?_; conv => whnf
      have own7 := (own5.move fun b y e => k6 _ _ _ (by decide) e).move fun b y e => k7 _ _ _ (by decide) e
      have st7 : Stays h h7 := st.trans (q5.stays.trans ((k6.stays (by decide)).trans (k7.stays (by decide))))
      refine AInt.as (r' := ((keep.toNat : Nat) : Int)) (by split <;> omega) ?_; conv => whnf
      refine AArith.ok (by omega) (by omega) (r' := (((kst ps i).1.length - (kst ps i).2 : Nat) : Int)) (by omega) ?_; conv => whnf
      refine AInt.as (r' := ((min keep.toNat ((kst ps i).1.length - (kst ps i).2) : Nat) : Int)) (by split <;> omega) ?_; conv => whnf
      refine AArith.ok (by omega) (by omega) (r' := (((kst ps i).2 + min keep.toNat ((kst ps i).1.length - (kst ps i).2) : Nat) : Int)) (by omega) ?_; conv => whnf
      refine ACalls.mono (Read_any d7 g7 fileN (0, 1)) ?_; rintro _ h8 ⟨a8, c8, rfl, own8, s8⟩; conv => whnf
      by_cases h0 : ln = 0
      · refine ACmp.yes (by omega) ?_; conv => whnf
        have hi0 : i = 0 := by omega
        subst hi0
        have er : dread (dboot (dcrash [keep] (kdd ps 0))) fileN = ([], 121) := by rfl
        rw [er]
        refine ACmp.yes (rfl) ?_; conv => whnf
        refine ACmp.yes (rfl) ?_; conv => whnf
        exact ⟨rfl, st7.trans s8.stays⟩
      · refine ACmp.no (by omega) ?_; conv => whnf
        have hipos : i ≠ 0 := hpos h0
        obtain ⟨W, hW⟩ : ∃ W, W = (kst ps i).2 + min keep.toNat ((kst ps i).1.length - (kst ps i).2) := ⟨_, rfl⟩
        have hWl : W ≤ (kst ps i).1.length := by rw [hW]; omega
        have ekd : kdd ps i = ⟨[⟨fileN, (kst ps i).1, (kst ps i).2⟩], false, -1, []⟩ := by unfold kdd; rw [if_neg hipos]
        have ecr : dboot (dcrash [keep] (kdd ps i)) = ⟨[⟨fileN, (kst ps i).1.take W, W⟩], false, -1, []⟩ := by rw [ekd, hW]; rfl
        rw [← hW]
        rw [ecr] at d7 g7 own8 ⊢
        have er : dread ⟨[⟨fileN, (kst ps i).1.take W, W⟩], false, -1, []⟩ fileN = ((kst ps i).1.take W, 0) := by rfl
        rw [er] at own8 ⊢
        simp only at own8
        have d8 := d7.sub s8
        refine ACalls.mono (Crash_any (by decide) d8 g7 (keep := []) (Sl.nil _ (0, 1) none 0 1) t01) ?_; rintro _ h9 ⟨rfl, d9, k9⟩; conv => whnf
        have g9 := g7.crashed []
        have e9 : dcrashed ⟨[⟨fileN, (kst ps i).1.take W, W⟩], false, -1, []⟩ [] = (0, ⟨[⟨fileN, (kst ps i).1.take W, W⟩], true, -1, []⟩) := by
          show (0, (⟨[⟨fileN, ((kst ps i).1.take W).take (W + 0), W + 0⟩], true, -1, []⟩ : DD)) = _
          rw [Nat.add_zero, List.take_take, Nat.min_self]
        rw [e9] at d9 g9 ⊢
        refine ACmp.yes (rfl) ?_; conv => whnf
        refine ACalls.mono (Boot_any d9) ?_; rintro _ h10 ⟨rfl, (d10 : DA h10 p 1 ⟨[⟨fileN, (kst ps i).1.take W, W⟩], false, -1, []⟩), k10⟩; conv => whnf
        refine ACmp.yes (rfl) ?_; conv => whnf
        refine ACalls.mono (Read_any d10 g7 fileN (0, 1)) ?_; rintro _ h11 ⟨a11, c11, rfl, own11, s11⟩; conv => whnf
        rw [er] at own11 ⊢
        simp only at own11
        refine ACmp.yes (rfl) ?_; conv => whnf
        have own8' := ((own8.move fun b y e => k9 _ _ _ t01 e).move fun b y e => k10 _ _ _ t01 e).move (h' := h11) fun b y e => s11 _ _ e
        have own12 := (((own7.move fun b y e => s8 _ _ e).move fun b y e => k9 _ _ _ (by decide) e).move fun b y e => k10 _ _ _ (by decide) e).move (h' := h11) fun b y e => s11 _ _ e
        refine ASlc.upto (m := W) rfl (by have := own12.sl.le; omega) rfl rfl ?_; conv => whnf
        have slw : Sl h11 (2, 0) aa W ac 1 (bytesV ((kst ps i).1.take W)) := by
          have := own12.sl.slice (l := 0) (m := W) (x := ac) (by omega) hWl (by have := own12.sl.le; omega)
          rw [slBase_zero] at this
          simpa [bytesV, List.map_take] using this
        have ce := eqBytes_any _ own8'.sl slw (by simp; omega)
        rw [decide_eq_true rfl] at ce
        refine ACalls.mono (ce) ?_; rintro _ _ ⟨rfl, rfl⟩; conv => whnf
        refine ACmp.yes (rfl) ?_; conv => whnf
        have ce2 := eqBytes_any _ own11.sl own8'.sl (by simp; omega)
        rw [decide_eq_true rfl] at ce2
        refine ACalls.mono (ce2) ?_; rintro _ _ ⟨rfl, rfl⟩; conv => whnf
        exact ⟨rfl, st7.trans (s8.stays.trans ((k9.stays (by decide)).trans ((k10.stays (by decide)).trans s11.stays)))⟩
  · refine ACmp.no (by omega) ?_; conv => whnf
    have hpos : ln ≠ 0 → i ≠ 0 := fun _ => by omega
    refine ABuildSl.mk (0, 1) rfl rfl rfl rfl rfl rfl rfl fun b5 f5 => ?_; conv => whnf
    have q5 := f5.sub (row (0, 1) ([keep].map I) 3)
    have own5 := own.move (h' := h4.set b5 (row (0, 1) ([keep].map I) 3)) fun _ _ e => q5 _ _ e
    refine ACalls.mono (Crash_any (by decide) (dD.sub q5) gD (sl_ints (xs := [keep]) (Heap.set_same _ _ _)) t01) ?_; rintro _ h6 ⟨rfl, d6, k6⟩; conv => whnf
    have g6 := gD.crashed [keep]
    have hdead : (kdd ps i).dead = false := by unfold kdd; split <;> rfl
    have e6 : dcrashed (kdd ps i) [keep] = (0, dcrash [keep] (kdd ps i)) := by simp [dcrashed, hdead]
    rw [e6] at d6 g6 ⊢
    refine ACmp.no (by simp) ?_; conv => whnf
    refine ACalls.mono (Boot_any d6) ?_; rintro _ h7 ⟨rfl, d7, k7⟩; conv => whnf
    have g7 := g6.boot
    refine ACmp.no (by simp) ?_; conv => whnf
    have own7 := (own5.move fun b y e => k6 _ _ _ (by decide) e).move fun b y e => k7 _ _ _ (by decide) e
    have st7 : Stays h h7 := st.trans (q5.stays.trans ((k6.stays (by decide)).trans (k7.stays (by decide))))
    refine AInt.as (r' := ((keep.toNat : Nat) : Int)) (by split <;> omega) ?_; conv => whnf
    refine AArith.ok (by omega) (by omega) (r' := (((kst ps i).1.length - (kst ps i).2 : Nat) : Int)) (by omega) ?_; conv => whnf
    refine AInt.as (r' := ((min keep.toNat ((kst ps i).1.length - (kst ps i).2) : Nat) : Int)) (by split <;> omega) ?_; conv => whnf
    refine AArith.ok (by omega) (by omega) (r' := (((kst ps i).2 + min keep.toNat ((kst ps i).1.length - (kst ps i).2) : Nat) : Int)) (by omega) ?_; conv => whnf
    refine ACalls.mono (Read_any d7 g7 fileN (0, 1)) ?_; rintro _ h8 ⟨a8, c8, rfl, own8, s8⟩; conv => whnf
    by_cases h0 : ln = 0
    · refine ACmp.yes (by omega) ?_; conv => whnf
      have hi0 : i = 0 := by omega
      subst hi0
      have er : dread (dboot (dcrash [keep] (kdd ps 0))) fileN = ([], 121) := by rfl
      rw [er]
      refine ACmp.yes (rfl) ?_; conv => whnf
      refine ACmp.yes (rfl) ?_; conv => whnf
      exact ⟨rfl, st7.trans s8.stays⟩
    · refine ACmp.no (by omega) ?_; conv => whnf
      have hipos : i ≠ 0 := hpos h0
      obtain ⟨W, hW⟩ : ∃ W, W = (kst ps i).2 + min keep.toNat ((kst ps i).1.length - (kst ps i).2) := ⟨_, rfl⟩
      have hWl : W ≤ (kst ps i).1.length := by rw [hW]; omega
      have ekd : kdd ps i = ⟨[⟨fileN, (kst ps i).1, (kst ps i).2⟩], false, -1, []⟩ := by unfold kdd; rw [if_neg hipos]
      have ecr : dboot (dcrash [keep] (kdd ps i)) = ⟨[⟨fileN, (kst ps i).1.take W, W⟩], false, -1, []⟩ := by rw [ekd, hW]; rfl
      rw [← hW]
      rw [ecr] at d7 g7 own8 ⊢
      have er : dread ⟨[⟨fileN, (kst ps i).1.take W, W⟩], false, -1, []⟩ fileN = ((kst ps i).1.take W, 0) := by rfl
      rw [er] at own8 ⊢
      simp only at own8
      have d8 := d7.sub s8
      refine ACalls.mono (Crash_any (by decide) d8 g7 (keep := []) (Sl.nil _ (0, 1) none 0 1) t01) ?_; rintro _ h9 ⟨rfl, d9, k9⟩; conv => whnf
      have g9 := g7.crashed []
      have e9 : dcrashed ⟨[⟨fileN, (kst ps i).1.take W, W⟩], false, -1, []⟩ [] = (0, ⟨[⟨fileN, (kst ps i).1.take W, W⟩], true, -1, []⟩) := by
        show (0, (⟨[⟨fileN, ((kst ps i).1.take W).take (W + 0), W + 0⟩], true, -1, []⟩ : DD)) = _
        rw [Nat.add_zero, List.take_take, Nat.min_self]
      rw [e9] at d9 g9 ⊢
      refine ACmp.yes (rfl) ?_; conv => whnf
      refine ACalls.mono (Boot_any d9) ?_; rintro _ h10 ⟨rfl, (d10 : DA h10 p 1 ⟨[⟨fileN, (kst ps i).1.take W, W⟩], false, -1, []⟩), k10⟩; conv => whnf
      refine ACmp.yes (rfl) ?_; conv => whnf
      refine ACalls.mono (Read_any d10 g7 fileN (0, 1)) ?_; rintro _ h11 ⟨a11, c11, rfl, own11, s11⟩; conv => whnf
      rw [er] at own11 ⊢
      simp only at own11
      refine ACmp.yes (rfl) ?_; conv => whnf
      have own8' := ((own8.move fun b y e => k9 _ _ _ t01 e).move fun b y e => k10 _ _ _ t01 e).move (h' := h11) fun b y e => s11 _ _ e
      have own12 := (((own7.move fun b y e => s8 _ _ e).move fun b y e => k9 _ _ _ (by decide) e).move fun b y e => k10 _ _ _ (by decide) e).move (h' := h11) fun b y e => s11 _ _ e
      refine ASlc.upto (m := W) rfl (by have := own12.sl.le; omega) rfl rfl ?_; conv => whnf
      have slw : Sl h11 (2, 0) aa W ac 1 (bytesV ((kst ps i).1.take W)) := by
        have := own12.sl.slice (l := 0) (m := W) (x := ac) (by omega) hWl (by have := own12.sl.le; omega)
        rw [slBase_zero] at this
        simpa [bytesV, List.map_take] using this
      have ce := eqBytes_any _ own8'.sl slw (by simp; omega)
      rw [decide_eq_true rfl] at ce
      refine ACalls.mono (ce) ?_; rintro _ _ ⟨rfl, rfl⟩; conv => whnf
      refine ACmp.yes (rfl) ?_; conv => whnf
      have ce2 := eqBytes_any _ own11.sl own8'.sl (by simp; omega)
      rw [decide_eq_true rfl] at ce2
      refine ACalls.mono (ce2) ?_; rintro _ _ ⟨rfl, rfl⟩; conv => whnf
      exact ⟨rfl, st7.trans (s8.stays.trans ((k9.stays (by decide)).trans ((k10.stays (by decide)).trans s11.stays)))⟩
end Go.Ah
