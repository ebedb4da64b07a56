/- LedgerDeeds: asked. -/
import Derived.Test.YtmlgbkighdiniaaLedY
namespace Go.Ah
open Go.Proofs
set_option linter.unusedVariables false
set_option linter.unusedSimpArgs false
set_option maxRecDepth 20000

theorem lget_congr {h : Heap} {p o : Nat} : True := trivial

set_option maxHeartbeats 4000000 in
theorem asked_any {h : Heap} {p q : Nat} {L : LG} (la : LA h p 1 L) (ra : RL h q 2 L) (k : LOk L) (hroom : L.es.length * 48 ≤ 140737488355328) (x y : Int) :
    ACalls PR 27 #[.pointer (some ⟨p, 0, none⟩), .pointer (some ⟨q, 0, none⟩), I x, I y] h (fun v h' => v = .bool true ∧ h = h') := by
  refine ACalls.owner ⟨Try.f27, Try.func27, rfl, rfl⟩ fun o0 ho0 bnd0 => ?_
  obtain ⟨oo, hoo, hoo3, bnd⟩ : ∃ oo, oo ≠ 0 ∧ 3 ≤ oo ∧ NoOwner oo h := ⟨o0 + 3, by omega, by omega, bnd0.no (by omega)⟩
  refine (?_ : ACalls PR 27 _ h (fun v h' => v = .bool true ∧ Keep oo h h')).drop fun v h' ⟨e, kk⟩ => ⟨h, kk.toSub bnd, e, rfl⟩
  have ne : ∀ r : Nat, ((oo, r) : Tag) ≠ (0, 1) := fun r c => hoo (by cases c; rfl)
  have n1 : 1 ≠ oo := by omega
  have n2 : 2 ≠ oo := by omega
  refine acalls_of mix Try.func27 rfl rfl Try.ntmps27 Try.results27 rfl ?_; conv => whnf
  refine ACalls.mono (Last_c la k) ?_; rintro _ _ ⟨rfl, rfl⟩; conv => whnf
  refine ACalls.mono (rLast_c ra k) ?_; rintro _ _ ⟨rfl, rfl⟩; conv => whnf
  refine ACalls.mono (Term_c la k x) ?_; rintro _ _ ⟨rfl, rfl⟩; conv => whnf
  refine ACalls.mono (rTerm_c ra k x) ?_; rintro _ _ ⟨rfl, rfl⟩; conv => whnf
  refine ACalls.mono (Get_c la k (oo, 5) (ne _) x) ?_; rintro _ h1 ⟨g, rfl, gm, gabs, gn, s1⟩; conv => whnf
  refine AAlloc.mk (oo, 7) rfl fun b17 f17 => ?_; conv => whnf
  refine AStore.agg' rfl rfl rfl (Heap.set_same _ _ _) rfl ?_; conv => whnf
  rw [Heap.set_set]
  have s17 := f17.sub (row (oo, 7) [I g.term, I g.index, I g.kind, .slice g.a g.n g.c] 34)
  have k17 := Heap.set_same h1 b17 (row (oo, 7) [I g.term, I g.index, I g.kind, .slice g.a g.n g.c] 34)
  have la2 := la.sub (s1.trans s17)
  have ra2 := ra.sub (s1.trans s17)
  have gm2 := Own.sub gm s17
  have kk2 : Keep oo h _ := (s1.trans s17).keep oo
  generalize h1.set b17 (row (oo, 7) [I g.term, I g.index, I g.kind, .slice g.a g.n g.c] 34) = h2 at s17 k17 la2 ra2 gm2 kk2 ⊢
  refine ACalls.mono (rGet_c ra2 k (oo, 6) (ne _) x) ?_; rintro _ h3 ⟨g', rfl, gm', gabs', gn', s3⟩; conv => whnf
  refine AAlloc.mk (oo, 7) rfl fun b19 f19 => ?_; conv => whnf
  refine AStore.agg' rfl rfl rfl (Heap.set_same _ _ _) rfl ?_; conv => whnf
  rw [Heap.set_set]
  have s19 := f19.sub (row (oo, 7) [I g'.term, I g'.index, I g'.kind, .slice g'.a g'.n g'.c] 34)
  have k19 := Heap.set_same h3 b19 (row (oo, 7) [I g'.term, I g'.index, I g'.kind, .slice g'.a g'.n g'.c] 34)
  have la4 := la2.sub (s3.trans s19)
  have ra4 := ra2.sub (s3.trans s19)
  have gm4 := Own.sub gm2 (s3.trans s19)
  have gm4' := Own.sub gm' s19
  have k17' := (s3.trans s19) _ _ k17
  have kk4 : Keep oo h _ := kk2.trans ((s3.trans s19).keep oo)
  generalize h3.set b19 (row (oo, 7) [I g'.term, I g'.index, I g'.kind, .slice g'.a g'.n g'.c] 34) = h4 at s19 k19 la4 ra4 gm4 gm4' k17' kk4 ⊢
  refine ACalls.mono (Slice_c la4 k (oo, 1) (oo, 2) (ne _) (ne _) (by show oo ≠ 1; omega) (by simp) x y hroom) ?_; rintro _ h5 ⟨a5, n5, c5, zs5, rfl, E5, abs5, sm5, kt5, own5, m5⟩; conv => whnf
  have la5 := la4.keep kt5.keep n1
  have ra5 := ra4.keep kt5.keep n2
  refine ACalls.mono (rSlice_c ra5 k (oo, 3) (oo, 4) (ne _) (ne _) (by show oo ≠ 2; omega) (by simp) x y hroom) ?_; rintro _ h6 ⟨a6, n6, c6, zs6, rfl, E6, abs6, sm6, kt6, own6, m6⟩; conv => whnf
  have la6 := la5.keep kt6.keep n1
  have ra6 := ra5.keep kt6.keep n2
  have E5' : Ents h6 (oo, 1) (oo, 2) a5 n5 c5 zs5 := ⟨E5.sl.keepT kt6 (by simp), fun e he => Sl.keepT (E5.good e he) kt6 (by simp), E5.small⟩
  have o5 := own5.keepT kt6 (by simp)
  have m5' : ∀ z ∈ zs5, z.Mine h6 (oo, 2) := fun z hz => Own.keepT (m5 z hz) kt6 (by simp)
  have gm6 := (gm4.keepT kt5 (by simp)).keepT kt6 (by simp)
  have gm6' := (gm4'.keepT kt5 (by simp)).keepT kt6 (by simp)
  have k17'' := kt6.get (u := (oo, 7)) (by simp) (kt5.get (u := (oo, 7)) (by simp) k17')
  have k19'' := kt6.get (u := (oo, 7)) (by simp) (kt5.get (u := (oo, 7)) (by simp) k19)
  have kk6 : Keep oo h h6 := kk4.trans (kt5.keep.trans kt6.keep)
  have l5 : n5 ≤ 9007199254740992 := by
    have := E5.len
    have := congrArg List.length abs5
    have h2 : (L.slice x y).1.length ≤ L.es.length := by
      unfold LG.slice
      split
      · simp
      · split
        · simp
        · simp; omega
    simp at this; omega
  clear la5 ra5 la4 ra4 la2 ra2 kt5 kt6 E5 own5 m5 gm4 gm4' gm2 gm kk4 kk2 k17 k17' k19 s17 s19 s1 s3
  refine ACmp.no (by simp) ?_; conv => whnf
  refine ACmp.no (by simp) ?_; conv => whnf
  refine ACalls.mono (First_c la6 k) ?_; rintro _ _ ⟨rfl, rfl⟩; conv => whnf
  refine ACalls.mono (rFirst_c ra6 k) ?_; rintro _ _ ⟨rfl, rfl⟩; conv => whnf
  refine ACmp.no (by simp) ?_; conv => whnf
  refine ACmp.no (by simp) ?_; conv => whnf
  refine ACmp.no (by simp) ?_; conv => whnf
  refine ALoad.agg rfl k17'' rfl rfl ?_; conv => whnf
  refine ALoad.agg rfl k19'' rfl rfl ?_; conv => whnf
  refine ACalls.mono (same_yes _ g g' (Own.sl gm6) (Own.sl gm6') (by omega) (by rw [gabs, gabs'])) ?_; rintro _ _ ⟨rfl, rfl⟩; conv => whnf
  refine ACmp.no (by simp) ?_; conv => whnf
  refine ACalls.mono (alike_yes _ E5' E6 (by omega) (by rw [abs5, abs6])) ?_; rintro _ _ ⟨rfl, rfl⟩; conv => whnf
  refine ACmp.no (by simp) ?_; conv => whnf
  have h1a := Has_c la6 k x y
  have h1b := rHas_c ra6 k x y
  have h2a := Has_c la6 k x (L.term x).1
  have h2b := rHas_c ra6 k x (L.term x).1
  generalize decide ((L.term x).2 = 0 ∧ (L.term x).1 = y) = B1 at h1a h1b
  generalize decide ((L.term x).2 = 0 ∧ (L.term x).1 = (L.term x).1) = B2 at h2a h2b
  cases B1 with
  | true =>
    refine ACalls.mono (h1a) ?_; rintro _ _ ⟨rfl, rfl⟩; conv => whnf
    refine ACalls.mono (h1b) ?_; rintro _ _ ⟨rfl, rfl⟩; conv => whnf
    cases B2 with
    | true =>
      refine ACalls.mono (h2a) ?_; rintro _ _ ⟨rfl, rfl⟩; conv => whnf
      refine ACalls.mono (h2b) ?_; rintro _ _ ⟨rfl, rfl⟩; conv => whnf
      -- what was answered is written over
      refine ALoop.mk (fun e h' => Keep oo h h' ∧ ∃ e0, ∃ r : Nat, ∃ zs, e = updL 183 e0 [(17, .pointer (some ⟨b17, 0, none⟩)), (21, .slice a5 n5 c5), (25, I r)] ∧ r ≤ n5 ∧ Own h' (oo, 1) 34 a5 n5 c5 4 (encs zs) ∧ zs.length = n5 ∧ (∀ z ∈ zs, z.n ≤ 1200) ∧ Pokes h' (oo, 2) zs ∧
          (∃ xs, Own h' (oo, 5) 5 g.a g.n g.c 1 (bytesV xs)) ∧ h' b17 = some (row (oo, 7) [I g.term, I g.index, I g.kind, .slice g.a g.n g.c] 34)) (fun e => n5 - natOf (e 25))
        ⟨kk6, _, 0, zs5, updL_self ⟨rfl, rfl, rfl, trivial⟩, by omega, o5, E5'.len, sm5, Pokes.of m5', ⟨_, gm6⟩, k17''⟩ ?_
      rintro e h7 ⟨kk7, e0, r, zs, rfl, hr, o7, hzl, hzs, pk7, ⟨xs7, gm7⟩, k7⟩
      conv => whnf
      by_cases hrn : r < n5
      · refine ACmp.yes (by omega) ?_; conv => whnf
        obtain ⟨z, hz⟩ : ∃ z, zs[r]? = some z := ⟨zs[r]'(by omega), by simp⟩
        have hzn := hzs z (List.mem_of_getElem? hz)
        refine ALoop.mk (fun e h' => Keep oo h h' ∧ ∃ e0, ∃ s : Nat, e = updL 183 e0 [(17, .pointer (some ⟨b17, 0, none⟩)), (21, .slice a5 n5 c5), (25, I r), (26, I s)] ∧ s ≤ z.n ∧ Own h' (oo, 1) 34 a5 n5 c5 4 (encs zs) ∧ Pokes h' (oo, 2) zs ∧
            (∃ xs, Own h' (oo, 5) 5 g.a g.n g.c 1 (bytesV xs)) ∧ h' b17 = some (row (oo, 7) [I g.term, I g.index, I g.kind, .slice g.a g.n g.c] 34)) (fun e => z.n - natOf (e 26))
          ⟨kk7, _, 0, updL_self ⟨rfl, rfl, rfl, rfl, trivial⟩, by omega, o7, pk7, ⟨_, gm7⟩, k7⟩ ?_
        rintro e h8 ⟨kk8, e0, s, rfl, hs, o8, pk8, ⟨xs8, gm8⟩, k8⟩
        conv => whnf
        have hcap := o8.sl.le
        rcases o8 with ⟨hn0, _, _⟩ | ⟨b, m, rfl, hb, hml, hnc, hc⟩
        · exact absurd hrn (by omega)
        have g3 : m[0 + r * 4 + 3]? = some (.slice z.a z.n z.c) := by
          have : (m.take (n5 * 4))[r * 4 + 3]? = m[r * 4 + 3]? := by rw [List.getElem?_take, if_pos (by omega)]
          rw [Nat.zero_add, ← this, hc]
          exact encs_get (j := 3) hz (by omega)
        refine AIdx.nat (z := 4) (j := r) rfl hrn rfl rfl ?_; conv => whnf
        refine ALoad.one rfl hb g3 ?_; conv => whnf
        by_cases hsn : s < z.n
        · refine ACmp.yes (by omega) ?_; conv => whnf
          obtain ⟨xz, oz⟩ := pk8 z (List.mem_of_getElem? hz)
          obtain ⟨bz, lz, ez, hbz, hlz, _⟩ := own_byte oz (by omega)
          refine AIdx.nat (z := 4) (j := r) rfl hrn rfl rfl ?_; conv => whnf
          refine ALoad.one rfl hb g3 ?_; conv => whnf
          rw [ez]
          refine AIdx.nat (z := 1) (j := s) rfl hsn rfl rfl ?_; conv => whnf
          refine AStore.one rfl rfl rfl hbz (by omega) ?_; conv => whnf
          refine AArith.ok (by omega) (by omega) ((by omega : (s : Int) + 1 = ((s + 1 : Nat) : Int))) ?_; conv => whnf
          have kp : KeepT (oo, 2) h8 _ := KeepT.set (y := .cells (lz.set (0 + s * 1) (.int .u8 9)).toArray 5 (0, 0)) hbz
          refine ⟨⟨kk8.trans kp.keep, _, s + 1, updL_self ⟨rfl, rfl, rfl, rfl, trivial⟩, by omega, ?_, pk8.poke hbz, ⟨_, gm8.keepT kp (by simp)⟩, kp.get (u := (oo, 7)) (by simp) k8⟩, ?_⟩
          · exact (show Own h8 (oo, 1) 34 (some ⟨b, 0, none⟩) n5 c5 4 (encs zs) from .inr ⟨b, m, rfl, hb, hml, hnc, hc⟩).keepT kp (by simp)
          · show z.n - (s + 1) < z.n - s
            omega
        · refine ACmp.no (by omega) ?_; conv => whnf
          refine AIdx.nat (z := 4) (j := r) rfl hrn rfl rfl ?_; conv => whnf
          refine AStore.one rfl rfl rfl hb (by omega) ?_; conv => whnf
          refine AArith.ok (by omega) (by omega) ((by omega : (r : Int) + 1 = ((r + 1 : Nat) : Int))) ?_; conv => whnf
          have kp : KeepT (oo, 1) h8 _ := KeepT.set (y := .cells (m.set (0 + r * 4 + 1) (I 0)).toArray 34 (0, 0)) hb
          refine ⟨⟨kk8.trans kp.keep, _, r + 1, zs.set r { z with index := 0 }, updL_self ⟨rfl, rfl, rfl, trivial⟩, by omega, own_set hb hml hnc hc hz (by omega) rfl, by rw [List.length_set]; exact hzl, ?_, ?_, ⟨_, gm8.keepT kp (by simp)⟩, kp.get (u := (oo, 7)) (by simp) k8⟩, ?_⟩
          · intro w hw
            rcases List.mem_or_eq_of_mem_set hw with hw | rfl
            · exact hzs w hw
            · exact hzn
          · intro w hw
            rcases List.mem_or_eq_of_mem_set hw with hw | rfl
            · exact (pk8.keepT kp (by simp)) w hw
            · exact (pk8.keepT kp (by simp)) z (List.mem_of_getElem? hz)
          · show n5 - (r + 1) < n5 - r
            omega
      · refine ACmp.no (by omega) ?_; conv => whnf
        refine ALoop.mk (fun e h' => Keep oo h h' ∧ ∃ e0, ∃ s : Nat, e = updL 183 e0 [(17, .pointer (some ⟨b17, 0, none⟩)), (27, I s)] ∧ s ≤ g.n ∧
            (∃ xs, Own h' (oo, 5) 5 g.a g.n g.c 1 (bytesV xs)) ∧ h' b17 = some (row (oo, 7) [I g.term, I g.index, I g.kind, .slice g.a g.n g.c] 34)) (fun e => g.n - natOf (e 27))
          ⟨kk7, _, 0, updL_self ⟨rfl, rfl, trivial⟩, by omega, ⟨_, gm7⟩, k7⟩ ?_
        rintro e h8 ⟨kk8, e0, s, rfl, hs, ⟨xs8, gm8⟩, k8⟩
        conv => whnf
        refine ALoad.one rfl k8 rfl ?_; conv => whnf
        by_cases hsn : s < g.n
        · refine ACmp.yes (by omega) ?_; conv => whnf
          obtain ⟨bz, lz, ez, hbz, hlz, _⟩ := own_byte gm8 (by omega)
          refine ALoad.one rfl k8 rfl ?_; conv => whnf
          rw [ez] at gm8 k8 ⊢
          refine AIdx.nat (z := 1) (j := s) rfl hsn rfl rfl ?_; conv => whnf
          refine AStore.one rfl rfl rfl hbz (by omega) ?_; conv => whnf
          refine AArith.ok (by omega) (by omega) ((by omega : (s : Int) + 1 = ((s + 1 : Nat) : Int))) ?_; conv => whnf
          have kp : KeepT (oo, 5) h8 _ := KeepT.set (y := .cells (lz.set (0 + s * 1) (.int .u8 9)).toArray 5 (0, 0)) hbz
          refine ⟨⟨kk8.trans kp.keep, _, s + 1, updL_self ⟨rfl, rfl, trivial⟩, by omega, own_poke gm8 hbz, kp.get (u := (oo, 7)) (by simp) k8⟩, ?_⟩
          show g.n - (s + 1) < g.n - s
          omega
        · refine ACmp.no (by omega) ?_; conv => whnf
          exact ⟨rfl, kk8⟩
    | false =>
      refine ACalls.mono (h2a) ?_; rintro _ _ ⟨rfl, rfl⟩; conv => whnf
      refine ACalls.mono (h2b) ?_; rintro _ _ ⟨rfl, rfl⟩; conv => whnf
      -- what was answered is written over
      refine ALoop.mk (fun e h' => Keep oo h h' ∧ ∃ e0, ∃ r : Nat, ∃ zs, e = updL 183 e0 [(17, .pointer (some ⟨b17, 0, none⟩)), (21, .slice a5 n5 c5), (25, I r)] ∧ r ≤ n5 ∧ Own h' (oo, 1) 34 a5 n5 c5 4 (encs zs) ∧ zs.length = n5 ∧ (∀ z ∈ zs, z.n ≤ 1200) ∧ Pokes h' (oo, 2) zs ∧
          (∃ xs, Own h' (oo, 5) 5 g.a g.n g.c 1 (bytesV xs)) ∧ h' b17 = some (row (oo, 7) [I g.term, I g.index, I g.kind, .slice g.a g.n g.c] 34)) (fun e => n5 - natOf (e 25))
        ⟨kk6, _, 0, zs5, updL_self ⟨rfl, rfl, rfl, trivial⟩, by omega, o5, E5'.len, sm5, Pokes.of m5', ⟨_, gm6⟩, k17''⟩ ?_
      rintro e h7 ⟨kk7, e0, r, zs, rfl, hr, o7, hzl, hzs, pk7, ⟨xs7, gm7⟩, k7⟩
      conv => whnf
      by_cases hrn : r < n5
      · refine ACmp.yes (by omega) ?_; conv => whnf
        obtain ⟨z, hz⟩ : ∃ z, zs[r]? = some z := ⟨zs[r]'(by omega), by simp⟩
        have hzn := hzs z (List.mem_of_getElem? hz)
        refine ALoop.mk (fun e h' => Keep oo h h' ∧ ∃ e0, ∃ s : Nat, e = updL 183 e0 [(17, .pointer (some ⟨b17, 0, none⟩)), (21, .slice a5 n5 c5), (25, I r), (26, I s)] ∧ s ≤ z.n ∧ Own h' (oo, 1) 34 a5 n5 c5 4 (encs zs) ∧ Pokes h' (oo, 2) zs ∧
            (∃ xs, Own h' (oo, 5) 5 g.a g.n g.c 1 (bytesV xs)) ∧ h' b17 = some (row (oo, 7) [I g.term, I g.index, I g.kind, .slice g.a g.n g.c] 34)) (fun e => z.n - natOf (e 26))
          ⟨kk7, _, 0, updL_self ⟨rfl, rfl, rfl, rfl, trivial⟩, by omega, o7, pk7, ⟨_, gm7⟩, k7⟩ ?_
        rintro e h8 ⟨kk8, e0, s, rfl, hs, o8, pk8, ⟨xs8, gm8⟩, k8⟩
        conv => whnf
        have hcap := o8.sl.le
        rcases o8 with ⟨hn0, _, _⟩ | ⟨b, m, rfl, hb, hml, hnc, hc⟩
        · exact absurd hrn (by omega)
        have g3 : m[0 + r * 4 + 3]? = some (.slice z.a z.n z.c) := by
          have : (m.take (n5 * 4))[r * 4 + 3]? = m[r * 4 + 3]? := by rw [List.getElem?_take, if_pos (by omega)]
          rw [Nat.zero_add, ← this, hc]
          exact encs_get (j := 3) hz (by omega)
        refine AIdx.nat (z := 4) (j := r) rfl hrn rfl rfl ?_; conv => whnf
        refine ALoad.one rfl hb g3 ?_; conv => whnf
        by_cases hsn : s < z.n
        · refine ACmp.yes (by omega) ?_; conv => whnf
          obtain ⟨xz, oz⟩ := pk8 z (List.mem_of_getElem? hz)
          obtain ⟨bz, lz, ez, hbz, hlz, _⟩ := own_byte oz (by omega)
          refine AIdx.nat (z := 4) (j := r) rfl hrn rfl rfl ?_; conv => whnf
          refine ALoad.one rfl hb g3 ?_; conv => whnf
          rw [ez]
          refine AIdx.nat (z := 1) (j := s) rfl hsn rfl rfl ?_; conv => whnf
          refine AStore.one rfl rfl rfl hbz (by omega) ?_; conv => whnf
          refine AArith.ok (by omega) (by omega) ((by omega : (s : Int) + 1 = ((s + 1 : Nat) : Int))) ?_; conv => whnf
          have kp : KeepT (oo, 2) h8 _ := KeepT.set (y := .cells (lz.set (0 + s * 1) (.int .u8 9)).toArray 5 (0, 0)) hbz
          refine ⟨⟨kk8.trans kp.keep, _, s + 1, updL_self ⟨rfl, rfl, rfl, rfl, trivial⟩, by omega, ?_, pk8.poke hbz, ⟨_, gm8.keepT kp (by simp)⟩, kp.get (u := (oo, 7)) (by simp) k8⟩, ?_⟩
          · exact (show Own h8 (oo, 1) 34 (some ⟨b, 0, none⟩) n5 c5 4 (encs zs) from .inr ⟨b, m, rfl, hb, hml, hnc, hc⟩).keepT kp (by simp)
          · show z.n - (s + 1) < z.n - s
            omega
        · refine ACmp.no (by omega) ?_; conv => whnf
          refine AIdx.nat (z := 4) (j := r) rfl hrn rfl rfl ?_; conv => whnf
          refine AStore.one rfl rfl rfl hb (by omega) ?_; conv => whnf
          refine AArith.ok (by omega) (by omega) ((by omega : (r : Int) + 1 = ((r + 1 : Nat) : Int))) ?_; conv => whnf
          have kp : KeepT (oo, 1) h8 _ := KeepT.set (y := .cells (m.set (0 + r * 4 + 1) (I 0)).toArray 34 (0, 0)) hb
          refine ⟨⟨kk8.trans kp.keep, _, r + 1, zs.set r { z with index := 0 }, updL_self ⟨rfl, rfl, rfl, trivial⟩, by omega, own_set hb hml hnc hc hz (by omega) rfl, by rw [List.length_set]; exact hzl, ?_, ?_, ⟨_, gm8.keepT kp (by simp)⟩, kp.get (u := (oo, 7)) (by simp) k8⟩, ?_⟩
          · intro w hw
            rcases List.mem_or_eq_of_mem_set hw with hw | rfl
            · exact hzs w hw
            · exact hzn
          · intro w hw
            rcases List.mem_or_eq_of_mem_set hw with hw | rfl
            · exact (pk8.keepT kp (by simp)) w hw
            · exact (pk8.keepT kp (by simp)) z (List.mem_of_getElem? hz)
          · show n5 - (r + 1) < n5 - r
            omega
      · refine ACmp.no (by omega) ?_; conv => whnf
        refine ALoop.mk (fun e h' => Keep oo h h' ∧ ∃ e0, ∃ s : Nat, e = updL 183 e0 [(17, .pointer (some ⟨b17, 0, none⟩)), (27, I s)] ∧ s ≤ g.n ∧
            (∃ xs, Own h' (oo, 5) 5 g.a g.n g.c 1 (bytesV xs)) ∧ h' b17 = some (row (oo, 7) [I g.term, I g.index, I g.kind, .slice g.a g.n g.c] 34)) (fun e => g.n - natOf (e 27))
          ⟨kk7, _, 0, updL_self ⟨rfl, rfl, trivial⟩, by omega, ⟨_, gm7⟩, k7⟩ ?_
        rintro e h8 ⟨kk8, e0, s, rfl, hs, ⟨xs8, gm8⟩, k8⟩
        conv => whnf
        refine ALoad.one rfl k8 rfl ?_; conv => whnf
        by_cases hsn : s < g.n
        · refine ACmp.yes (by omega) ?_; conv => whnf
          obtain ⟨bz, lz, ez, hbz, hlz, _⟩ := own_byte gm8 (by omega)
          refine ALoad.one rfl k8 rfl ?_; conv => whnf
          rw [ez] at gm8 k8 ⊢
          refine AIdx.nat (z := 1) (j := s) rfl hsn rfl rfl ?_; conv => whnf
          refine AStore.one rfl rfl rfl hbz (by omega) ?_; conv => whnf
          refine AArith.ok (by omega) (by omega) ((by omega : (s : Int) + 1 = ((s + 1 : Nat) : Int))) ?_; conv => whnf
          have kp : KeepT (oo, 5) h8 _ := KeepT.set (y := .cells (lz.set (0 + s * 1) (.int .u8 9)).toArray 5 (0, 0)) hbz
          refine ⟨⟨kk8.trans kp.keep, _, s + 1, updL_self ⟨rfl, rfl, trivial⟩, by omega, own_poke gm8 hbz, kp.get (u := (oo, 7)) (by simp) k8⟩, ?_⟩
          show g.n - (s + 1) < g.n - s
          omega
        · refine ACmp.no (by omega) ?_; conv => whnf
          exact ⟨rfl, kk8⟩
  | false =>
    refine ACalls.mono (h1a) ?_; rintro _ _ ⟨rfl, rfl⟩; conv => whnf
    refine ACalls.mono (h1b) ?_; rintro _ _ ⟨rfl, rfl⟩; conv => whnf
    cases B2 with
    | true =>
      refine ACalls.mono (h2a) ?_; rintro _ _ ⟨rfl, rfl⟩; conv => whnf
      refine ACalls.mono (h2b) ?_; rintro _ _ ⟨rfl, rfl⟩; conv => whnf
      -- what was answered is written over
      refine ALoop.mk (fun e h' => Keep oo h h' ∧ ∃ e0, ∃ r : Nat, ∃ zs, e = updL 183 e0 [(17, .pointer (some ⟨b17, 0, none⟩)), (21, .slice a5 n5 c5), (25, I r)] ∧ r ≤ n5 ∧ Own h' (oo, 1) 34 a5 n5 c5 4 (encs zs) ∧ zs.length = n5 ∧ (∀ z ∈ zs, z.n ≤ 1200) ∧ Pokes h' (oo, 2) zs ∧
          (∃ xs, Own h' (oo, 5) 5 g.a g.n g.c 1 (bytesV xs)) ∧ h' b17 = some (row (oo, 7) [I g.term, I g.index, I g.kind, .slice g.a g.n g.c] 34)) (fun e => n5 - natOf (e 25))
        ⟨kk6, _, 0, zs5, updL_self ⟨rfl, rfl, rfl, trivial⟩, by omega, o5, E5'.len, sm5, Pokes.of m5', ⟨_, gm6⟩, k17''⟩ ?_
      rintro e h7 ⟨kk7, e0, r, zs, rfl, hr, o7, hzl, hzs, pk7, ⟨xs7, gm7⟩, k7⟩
      conv => whnf
      by_cases hrn : r < n5
      · refine ACmp.yes (by omega) ?_; conv => whnf
        obtain ⟨z, hz⟩ : ∃ z, zs[r]? = some z := ⟨zs[r]'(by omega), by simp⟩
        have hzn := hzs z (List.mem_of_getElem? hz)
        refine ALoop.mk (fun e h' => Keep oo h h' ∧ ∃ e0, ∃ s : Nat, e = updL 183 e0 [(17, .pointer (some ⟨b17, 0, none⟩)), (21, .slice a5 n5 c5), (25, I r), (26, I s)] ∧ s ≤ z.n ∧ Own h' (oo, 1) 34 a5 n5 c5 4 (encs zs) ∧ Pokes h' (oo, 2) zs ∧
            (∃ xs, Own h' (oo, 5) 5 g.a g.n g.c 1 (bytesV xs)) ∧ h' b17 = some (row (oo, 7) [I g.term, I g.index, I g.kind, .slice g.a g.n g.c] 34)) (fun e => z.n - natOf (e 26))
          ⟨kk7, _, 0, updL_self ⟨rfl, rfl, rfl, rfl, trivial⟩, by omega, o7, pk7, ⟨_, gm7⟩, k7⟩ ?_
        rintro e h8 ⟨kk8, e0, s, rfl, hs, o8, pk8, ⟨xs8, gm8⟩, k8⟩
        conv => whnf
        have hcap := o8.sl.le
        rcases o8 with ⟨hn0, _, _⟩ | ⟨b, m, rfl, hb, hml, hnc, hc⟩
        · exact absurd hrn (by omega)
        have g3 : m[0 + r * 4 + 3]? = some (.slice z.a z.n z.c) := by
          have : (m.take (n5 * 4))[r * 4 + 3]? = m[r * 4 + 3]? := by rw [List.getElem?_take, if_pos (by omega)]
          rw [Nat.zero_add, ← this, hc]
          exact encs_get (j := 3) hz (by omega)
        refine AIdx.nat (z := 4) (j := r) rfl hrn rfl rfl ?_; conv => whnf
        refine ALoad.one rfl hb g3 ?_; conv => whnf
        by_cases hsn : s < z.n
        · refine ACmp.yes (by omega) ?_; conv => whnf
          obtain ⟨xz, oz⟩ := pk8 z (List.mem_of_getElem? hz)
          obtain ⟨bz, lz, ez, hbz, hlz, _⟩ := own_byte oz (by omega)
          refine AIdx.nat (z := 4) (j := r) rfl hrn rfl rfl ?_; conv => whnf
          refine ALoad.one rfl hb g3 ?_; conv => whnf
          rw [ez]
          refine AIdx.nat (z := 1) (j := s) rfl hsn rfl rfl ?_; conv => whnf
          refine AStore.one rfl rfl rfl hbz (by omega) ?_; conv => whnf
          refine AArith.ok (by omega) (by omega) ((by omega : (s : Int) + 1 = ((s + 1 : Nat) : Int))) ?_; conv => whnf
          have kp : KeepT (oo, 2) h8 _ := KeepT.set (y := .cells (lz.set (0 + s * 1) (.int .u8 9)).toArray 5 (0, 0)) hbz
          refine ⟨⟨kk8.trans kp.keep, _, s + 1, updL_self ⟨rfl, rfl, rfl, rfl, trivial⟩, by omega, ?_, pk8.poke hbz, ⟨_, gm8.keepT kp (by simp)⟩, kp.get (u := (oo, 7)) (by simp) k8⟩, ?_⟩
          · exact (show Own h8 (oo, 1) 34 (some ⟨b, 0, none⟩) n5 c5 4 (encs zs) from .inr ⟨b, m, rfl, hb, hml, hnc, hc⟩).keepT kp (by simp)
          · show z.n - (s + 1) < z.n - s
            omega
        · refine ACmp.no (by omega) ?_; conv => whnf
          refine AIdx.nat (z := 4) (j := r) rfl hrn rfl rfl ?_; conv => whnf
          refine AStore.one rfl rfl rfl hb (by omega) ?_; conv => whnf
          refine AArith.ok (by omega) (by omega) ((by omega : (r : Int) + 1 = ((r + 1 : Nat) : Int))) ?_; conv => whnf
          have kp : KeepT (oo, 1) h8 _ := KeepT.set (y := .cells (m.set (0 + r * 4 + 1) (I 0)).toArray 34 (0, 0)) hb
          refine ⟨⟨kk8.trans kp.keep, _, r + 1, zs.set r { z with index := 0 }, updL_self ⟨rfl, rfl, rfl, trivial⟩, by omega, own_set hb hml hnc hc hz (by omega) rfl, by rw [List.length_set]; exact hzl, ?_, ?_, ⟨_, gm8.keepT kp (by simp)⟩, kp.get (u := (oo, 7)) (by simp) k8⟩, ?_⟩
          · intro w hw
            rcases List.mem_or_eq_of_mem_set hw with hw | rfl
            · exact hzs w hw
            · exact hzn
          · intro w hw
            rcases List.mem_or_eq_of_mem_set hw with hw | rfl
            · exact (pk8.keepT kp (by simp)) w hw
            · exact (pk8.keepT kp (by simp)) z (List.mem_of_getElem? hz)
          · show n5 - (r + 1) < n5 - r
            omega
      · refine ACmp.no (by omega) ?_; conv => whnf
        refine ALoop.mk (fun e h' => Keep oo h h' ∧ ∃ e0, ∃ s : Nat, e = updL 183 e0 [(17, .pointer (some ⟨b17, 0, none⟩)), (27, I s)] ∧ s ≤ g.n ∧
            (∃ xs, Own h' (oo, 5) 5 g.a g.n g.c 1 (bytesV xs)) ∧ h' b17 = some (row (oo, 7) [I g.term, I g.index, I g.kind, .slice g.a g.n g.c] 34)) (fun e => g.n - natOf (e 27))
          ⟨kk7, _, 0, updL_self ⟨rfl, rfl, trivial⟩, by omega, ⟨_, gm7⟩, k7⟩ ?_
        rintro e h8 ⟨kk8, e0, s, rfl, hs, ⟨xs8, gm8⟩, k8⟩
        conv => whnf
        refine ALoad.one rfl k8 rfl ?_; conv => whnf
        by_cases hsn : s < g.n
        · refine ACmp.yes (by omega) ?_; conv => whnf
          obtain ⟨bz, lz, ez, hbz, hlz, _⟩ := own_byte gm8 (by omega)
          refine ALoad.one rfl k8 rfl ?_; conv => whnf
          rw [ez] at gm8 k8 ⊢
          refine AIdx.nat (z := 1) (j := s) rfl hsn rfl rfl ?_; conv => whnf
          refine AStore.one rfl rfl rfl hbz (by omega) ?_; conv => whnf
          refine AArith.ok (by omega) (by omega) ((by omega : (s : Int) + 1 = ((s + 1 : Nat) : Int))) ?_; conv => whnf
          have kp : KeepT (oo, 5) h8 _ := KeepT.set (y := .cells (lz.set (0 + s * 1) (.int .u8 9)).toArray 5 (0, 0)) hbz
          refine ⟨⟨kk8.trans kp.keep, _, s + 1, updL_self ⟨rfl, rfl, trivial⟩, by omega, own_poke gm8 hbz, kp.get (u := (oo, 7)) (by simp) k8⟩, ?_⟩
          show g.n - (s + 1) < g.n - s
          omega
        · refine ACmp.no (by omega) ?_; conv => whnf
          exact ⟨rfl, kk8⟩
    | false =>
      refine ACalls.mono (h2a) ?_; rintro _ _ ⟨rfl, rfl⟩; conv => whnf
      refine ACalls.mono (h2b) ?_; rintro _ _ ⟨rfl, rfl⟩; conv => whnf
      -- what was answered is written over
      refine ALoop.mk (fun e h' => Keep oo h h' ∧ ∃ e0, ∃ r : Nat, ∃ zs, e = updL 183 e0 [(17, .pointer (some ⟨b17, 0, none⟩)), (21, .slice a5 n5 c5), (25, I r)] ∧ r ≤ n5 ∧ Own h' (oo, 1) 34 a5 n5 c5 4 (encs zs) ∧ zs.length = n5 ∧ (∀ z ∈ zs, z.n ≤ 1200) ∧ Pokes h' (oo, 2) zs ∧
          (∃ xs, Own h' (oo, 5) 5 g.a g.n g.c 1 (bytesV xs)) ∧ h' b17 = some (row (oo, 7) [I g.term, I g.index, I g.kind, .slice g.a g.n g.c] 34)) (fun e => n5 - natOf (e 25))
        ⟨kk6, _, 0, zs5, updL_self ⟨rfl, rfl, rfl, trivial⟩, by omega, o5, E5'.len, sm5, Pokes.of m5', ⟨_, gm6⟩, k17''⟩ ?_
      rintro e h7 ⟨kk7, e0, r, zs, rfl, hr, o7, hzl, hzs, pk7, ⟨xs7, gm7⟩, k7⟩
      conv => whnf
      by_cases hrn : r < n5
      · refine ACmp.yes (by omega) ?_; conv => whnf
        obtain ⟨z, hz⟩ : ∃ z, zs[r]? = some z := ⟨zs[r]'(by omega), by simp⟩
        have hzn := hzs z (List.mem_of_getElem? hz)
        refine ALoop.mk (fun e h' => Keep oo h h' ∧ ∃ e0, ∃ s : Nat, e = updL 183 e0 [(17, .pointer (some ⟨b17, 0, none⟩)), (21, .slice a5 n5 c5), (25, I r), (26, I s)] ∧ s ≤ z.n ∧ Own h' (oo, 1) 34 a5 n5 c5 4 (encs zs) ∧ Pokes h' (oo, 2) zs ∧
            (∃ xs, Own h' (oo, 5) 5 g.a g.n g.c 1 (bytesV xs)) ∧ h' b17 = some (row (oo, 7) [I g.term, I g.index, I g.kind, .slice g.a g.n g.c] 34)) (fun e => z.n - natOf (e 26))
          ⟨kk7, _, 0, updL_self ⟨rfl, rfl, rfl, rfl, trivial⟩, by omega, o7, pk7, ⟨_, gm7⟩, k7⟩ ?_
        rintro e h8 ⟨kk8, e0, s, rfl, hs, o8, pk8, ⟨xs8, gm8⟩, k8⟩
        conv => whnf
        have hcap := o8.sl.le
        rcases o8 with ⟨hn0, _, _⟩ | ⟨b, m, rfl, hb, hml, hnc, hc⟩
        · exact absurd hrn (by omega)
        have g3 : m[0 + r * 4 + 3]? = some (.slice z.a z.n z.c) := by
          have : (m.take (n5 * 4))[r * 4 + 3]? = m[r * 4 + 3]? := by rw [List.getElem?_take, if_pos (by omega)]
          rw [Nat.zero_add, ← this, hc]
          exact encs_get (j := 3) hz (by omega)
        refine AIdx.nat (z := 4) (j := r) rfl hrn rfl rfl ?_; conv => whnf
        refine ALoad.one rfl hb g3 ?_; conv => whnf
        by_cases hsn : s < z.n
        · refine ACmp.yes (by omega) ?_; conv => whnf
          obtain ⟨xz, oz⟩ := pk8 z (List.mem_of_getElem? hz)
          obtain ⟨bz, lz, ez, hbz, hlz, _⟩ := own_byte oz (by omega)
          refine AIdx.nat (z := 4) (j := r) rfl hrn rfl rfl ?_; conv => whnf
          refine ALoad.one rfl hb g3 ?_; conv => whnf
          rw [ez]
          refine AIdx.nat (z := 1) (j := s) rfl hsn rfl rfl ?_; conv => whnf
          refine AStore.one rfl rfl rfl hbz (by omega) ?_; conv => whnf
          refine AArith.ok (by omega) (by omega) ((by omega : (s : Int) + 1 = ((s + 1 : Nat) : Int))) ?_; conv => whnf
          have kp : KeepT (oo, 2) h8 _ := KeepT.set (y := .cells (lz.set (0 + s * 1) (.int .u8 9)).toArray 5 (0, 0)) hbz
          refine ⟨⟨kk8.trans kp.keep, _, s + 1, updL_self ⟨rfl, rfl, rfl, rfl, trivial⟩, by omega, ?_, pk8.poke hbz, ⟨_, gm8.keepT kp (by simp)⟩, kp.get (u := (oo, 7)) (by simp) k8⟩, ?_⟩
          · exact (show Own h8 (oo, 1) 34 (some ⟨b, 0, none⟩) n5 c5 4 (encs zs) from .inr ⟨b, m, rfl, hb, hml, hnc, hc⟩).keepT kp (by simp)
          · show z.n - (s + 1) < z.n - s
            omega
        · refine ACmp.no (by omega) ?_; conv => whnf
          refine AIdx.nat (z := 4) (j := r) rfl hrn rfl rfl ?_; conv => whnf
          refine AStore.one rfl rfl rfl hb (by omega) ?_; conv => whnf
          refine AArith.ok (by omega) (by omega) ((by omega : (r : Int) + 1 = ((r + 1 : Nat) : Int))) ?_; conv => whnf
          have kp : KeepT (oo, 1) h8 _ := KeepT.set (y := .cells (m.set (0 + r * 4 + 1) (I 0)).toArray 34 (0, 0)) hb
          refine ⟨⟨kk8.trans kp.keep, _, r + 1, zs.set r { z with index := 0 }, updL_self ⟨rfl, rfl, rfl, trivial⟩, by omega, own_set hb hml hnc hc hz (by omega) rfl, by rw [List.length_set]; exact hzl, ?_, ?_, ⟨_, gm8.keepT kp (by simp)⟩, kp.get (u := (oo, 7)) (by simp) k8⟩, ?_⟩
          · intro w hw
            rcases List.mem_or_eq_of_mem_set hw with hw | rfl
            · exact hzs w hw
            · exact hzn
          · intro w hw
            rcases List.mem_or_eq_of_mem_set hw with hw | rfl
            · exact (pk8.keepT kp (by simp)) w hw
            · exact (pk8.keepT kp (by simp)) z (List.mem_of_getElem? hz)
          · show n5 - (r + 1) < n5 - r
            omega
      · refine ACmp.no (by omega) ?_; conv => whnf
        refine ALoop.mk (fun e h' => Keep oo h h' ∧ ∃ e0, ∃ s : Nat, e = updL 183 e0 [(17, .pointer (some ⟨b17, 0, none⟩)), (27, I s)] ∧ s ≤ g.n ∧
            (∃ xs, Own h' (oo, 5) 5 g.a g.n g.c 1 (bytesV xs)) ∧ h' b17 = some (row (oo, 7) [I g.term, I g.index, I g.kind, .slice g.a g.n g.c] 34)) (fun e => g.n - natOf (e 27))
          ⟨kk7, _, 0, updL_self ⟨rfl, rfl, trivial⟩, by omega, ⟨_, gm7⟩, k7⟩ ?_
        rintro e h8 ⟨kk8, e0, s, rfl, hs, ⟨xs8, gm8⟩, k8⟩
        conv => whnf
        refine ALoad.one rfl k8 rfl ?_; conv => whnf
        by_cases hsn : s < g.n
        · refine ACmp.yes (by omega) ?_; conv => whnf
          obtain ⟨bz, lz, ez, hbz, hlz, _⟩ := own_byte gm8 (by omega)
          refine ALoad.one rfl k8 rfl ?_; conv => whnf
          rw [ez] at gm8 k8 ⊢
          refine AIdx.nat (z := 1) (j := s) rfl hsn rfl rfl ?_; conv => whnf
          refine AStore.one rfl rfl rfl hbz (by omega) ?_; conv => whnf
          refine AArith.ok (by omega) (by omega) ((by omega : (s : Int) + 1 = ((s + 1 : Nat) : Int))) ?_; conv => whnf
          have kp : KeepT (oo, 5) h8 _ := KeepT.set (y := .cells (lz.set (0 + s * 1) (.int .u8 9)).toArray 5 (0, 0)) hbz
          refine ⟨⟨kk8.trans kp.keep, _, s + 1, updL_self ⟨rfl, rfl, trivial⟩, by omega, own_poke gm8 hbz, kp.get (u := (oo, 7)) (by simp) k8⟩, ?_⟩
          show g.n - (s + 1) < g.n - s
          omega
        · refine ACmp.no (by omega) ?_; conv => whnf
          exact ⟨rfl, kk8⟩
end Go.Ah
