/- LedgerDeeds. -/
import Derived.Test.YtmlgbkighdiniaaLedZ
import Derived.Test.YtmlgbkighdiniaaUpto
import Derived.Test.YtmlgbkighdiniaaFlat
namespace Go.Ah
open Go.Proofs
set_option linter.unusedVariables false
set_option linter.unusedSimpArgs false
set_option maxRecDepth 20000

/-! ### what came in -/
structure DH where
  kind : Int
  x : Int
  y : Int
  a : Option Addr
  n : Nat
  c : Nat
  xs : List EH
def DH.cells (d : DH) : List Value := [I d.kind, I d.x, I d.y, .slice d.a d.n d.c]
structure DH.Ok (h : Heap) (d : DH) : Prop where
  es : Ents h (0, 0) (0, 0) d.a d.n d.c d.xs
  le : d.n ≤ 1048576
  small : ∀ x ∈ d.xs, x.n ≤ 1048576

set_option linter.unusedSectionVars false
section
variable {H : Type} {enc : TypeId × Value → H} {w : World} {B : DataW H → Nat} {BA : List (DataW H) → Nat} (l : BulkLaws B BA)
include l
theorem flat_bytesU : ∀ {es : List (List Value)}, (∀ x ∈ es, x.length = 1 ∧ Rd enc PR w (QU B) 5 x) → ∃ zs : List Int, es.flatten = bytesV zs
  | [], _ => ⟨[], rfl⟩
  | x :: es, h => by
    obtain ⟨zs, e⟩ := flat_bytesU (es := es) fun y hy => h y (by simp [hy])
    obtain ⟨n, hx, _⟩ := (h x (by simp)).2.int Try.underlying5
    exact ⟨n :: zs, by rw [List.flatten_cons, e, hx]; rfl⟩
theorem entries_list : ∀ {es : List (List Value)}, (∀ x ∈ es, x.length = 4 ∧ Rd enc PR w (QU B) 34 x) → ∃ ps : List EH, es.flatten = encs ps ∧ ps.length = es.length ∧ ∀ x ∈ ps, x.Good (heapOf w) (0, 0) ∧ x.n ≤ 1048576
  | [], _ => ⟨[], rfl, rfl, by simp⟩
  | x :: es, h => by
    obtain ⟨ps, e, hl, hok⟩ := entries_list (es := es) fun y hy => h y (by simp [hy])
    obtain ⟨hx2, hx⟩ := h x (by simp)
    obtain ⟨_, hf⟩ := hx.struct (QU.hered l) Try.underlying34
    have f0 := hf 0 _ rfl
    have f1 := hf 1 _ rfl
    have f2 := hf 2 _ rfl
    have f3 := hf 3 _ rfl
    match x, hx2 with
    | [u0, u1, u2, u3], _ =>
      have f0 : Rd enc PR w (QU B) 3 [u0] := f0
      have f1 : Rd enc PR w (QU B) 3 [u1] := f1
      have f2 : Rd enc PR w (QU B) 3 [u2] := f2
      have f3 : Rd enc PR w (QU B) 32 [u3] := f3
      obtain ⟨k0, e0, _⟩ := f0.int Try.underlying3
      obtain ⟨k1, e1, _⟩ := f1.int Try.underlying3
      obtain ⟨k2, e2, _⟩ := f2.int Try.underlying3
      obtain ⟨a3, n3, c3, z3, e3, m3, l3, s3, h3⟩ := Rd.sliceU l Try.underlying32 (by kernel_rfl : PR.cellsOf 5 = 1) (Nat.succ_pos _) f3
      obtain ⟨zs, hzs⟩ := flat_bytesU l (enc := enc) (w := w) h3
      rw [hzs] at s3
      cases e0; cases e1; cases e2; cases e3
      exact ⟨⟨k0, k1, k2, a3, n3, c3, zs⟩ :: ps, by rw [List.flatten_cons, e]; rfl, by simp [hl], fun y hy => by
        rcases List.mem_cons.1 hy with rfl | hy
        · exact ⟨s3, m3⟩
        · exact hok y hy⟩
theorem deedsU_list : ∀ {es : List (List Value)}, (∀ x ∈ es, x.length = 4 ∧ Rd enc PR w (QU B) 45 x) → ∃ ps : List DH, es = ps.map DH.cells ∧ ∀ x ∈ ps, x.Ok (heapOf w)
  | [], _ => ⟨[], rfl, by simp⟩
  | x :: es, h => by
    obtain ⟨ps, e, hok⟩ := deedsU_list (es := es) fun y hy => h y (by simp [hy])
    obtain ⟨hx2, hx⟩ := h x (by simp)
    obtain ⟨_, hf⟩ := hx.struct (QU.hered l) Try.underlying45
    have f0 := hf 0 _ rfl
    have f1 := hf 1 _ rfl
    have f2 := hf 2 _ rfl
    have f3 := hf 3 _ rfl
    match x, hx2 with
    | [u0, u1, u2, u3], _ =>
      have f0 : Rd enc PR w (QU B) 3 [u0] := f0
      have f1 : Rd enc PR w (QU B) 3 [u1] := f1
      have f2 : Rd enc PR w (QU B) 3 [u2] := f2
      have f3 : Rd enc PR w (QU B) 25 [u3] := f3
      obtain ⟨k0, e0, _⟩ := f0.int Try.underlying3
      obtain ⟨k1, e1, _⟩ := f1.int Try.underlying3
      obtain ⟨k2, e2, _⟩ := f2.int Try.underlying3
      obtain ⟨a3, n3, c3, z3, e3, m3, l3, s3, h3⟩ := Rd.sliceU l Try.underlying25 (by kernel_rfl : PR.cellsOf 34 = 4) (Nat.succ_pos _) f3
      obtain ⟨zs, hzs, hzl, hz⟩ := entries_list l (enc := enc) (w := w) h3
      rw [hzs] at s3
      cases e0; cases e1; cases e2; cases e3
      exact ⟨⟨k0, k1, k2, a3, n3, c3, zs⟩ :: ps, by rw [e]; rfl, fun y hy => by
        rcases List.mem_cons.1 hy with rfl | hy
        · exact ⟨⟨s3, fun x hx => (hz x hx).1, fun x hx => by have := (hz x hx).2; omega⟩, m3, fun x hx => (hz x hx).2⟩
        · exact hok y hy⟩
theorem deedsU_of {cs : List Value} (r : Rd enc PR w (QU B) 39 cs) : ∃ (a : Option Addr) (n c : Nat) (ps : List DH), cs = [.slice a n c] ∧ Sl (heapOf w) (0, 0) a n c 4 (ps.map DH.cells).flatten ∧ ps.length = n ∧ n ≤ 1048576 ∧ ∀ x ∈ ps, x.Ok (heapOf w) := by
  obtain ⟨a, n, c, es, rfl, hm, hl, s, hx⟩ := Rd.sliceU l Try.underlying39 (by kernel_rfl : PR.cellsOf 45 = 4) (Nat.succ_pos _) r
  obtain ⟨ps, rfl, hok⟩ := deedsU_list l (enc := enc) (w := w) hx
  exact ⟨a, n, c, ps, rfl, s, by simpa using hl, hm, hok⟩
end

theorem Stays.toSub {h h' : Heap} (s : Stays h h') (z : AllZero h) : Sub h h' := fun b ⟨t, x⟩ e => by
  have := z b t x e
  subst this
  exact s b x e
theorem LG.len_append (L : LG) (xs : List Abs) : (L.append xs).2.es.length ≤ L.es.length + xs.length := by
  unfold LG.append; split <;> simp
theorem LG.len_cut (L : LG) (i : Int) : (L.cut i).2.es.length ≤ L.es.length := by
  unfold LG.cut; split
  · simp; omega
  · exact Nat.le_refl _
theorem LG.len_compact (L : LG) (i : Int) : (L.compact i).2.es.length ≤ L.es.length := by
  unfold LG.compact; split
  · simp
  · exact Nat.le_refl _

set_option maxHeartbeats 8000000 in
theorem Deeds_law (h : Heap) (z : AllZero h) (index term : Int) {la : Option Addr} {ln lc : Nat} {ps : List DH} (sl : Sl h (0, 0) la ln lc 4 (ps.map DH.cells).flatten) (hpl : ps.length = ln) (hln : ln ≤ 1048576) (hok : ∀ x ∈ ps, x.Ok h) :
    ACalls PR 4 #[I index, I term, .slice la ln lc] h (fun v h' => v = .bool true ∧ Stays h h') := by
  have rz4 : ∀ e ∈ ps.map DH.cells, e.length = 4 := by intro e he; obtain ⟨x, _, rfl⟩ := List.mem_map.1 he; rfl
  refine acalls_of mix Try.func4 rfl rfl Try.ntmps4 Try.results4 rfl ?_; conv => whnf
  refine ACalls.mono (New_c h 1 (by decide) index term) ?_
  rintro _ h1 (⟨hbase, p, rfl, la1, s1⟩ | ⟨hbase, rfl, s1⟩)
  · conv => whnf
    refine ACalls.mono (rNew_c h1 2 (by decide) index term) ?_
    rintro _ h2 (⟨_, q, rfl, ra2, s2⟩ | ⟨hb2, _⟩)
    · conv => whnf
      refine ACmp.no (by simp) ?_; conv => whnf
      refine ACmp.no (by simp) ?_; conv => whnf
      have la2 := la1.sub s2
      obtain ⟨b0, b1⟩ := okBase_bd hbase
      refine ALoop.mk (fun e h' => Stays h h' ∧ ∃ e0, ∃ i : Nat, e = updL 203 e0 [(2, .slice la ln lc), (7, .pointer (some ⟨p, 0, none⟩)), (8, I 0), (9, .pointer (some ⟨q, 0, none⟩)), (11, I i)] ∧ i ≤ ln ∧ i ≤ 40 ∧ ∃ L, LA h' p 1 L ∧ RL h' q 2 L ∧ LOk L ∧ L.es.length ≤ i * 1048576) (fun e => ln - natOf (e 11))
        ⟨s1.stays.trans s2.stays, _, 0, updL_self ⟨rfl, rfl, rfl, rfl, rfl, trivial⟩, by omega, by omega, lnew index term, la2, ra2, LOk.new b0 b1, by simp [lnew]⟩ ?_
      rintro e h3 ⟨st3, e0, i, rfl, hi, hi40, L, la3, ra3, k, hlen⟩
      conv => whnf
      by_cases hlt : i < ln
      · refine ACmp.yes (by omega) ?_; conv => whnf
        by_cases hlt40 : i < 40
        · refine ACmp.yes (by omega) ?_; conv => whnf
          refine ACmp.dec ?_; conv => whnf
          obtain ⟨d, hd⟩ : ∃ d, ps[i]? = some d := ⟨ps[i]'(by omega), by simp⟩
          have dok := hok d (List.mem_of_getElem? hd)
          obtain ⟨b, off, m, E', fz, rfl, hb, _, hg⟩ := sl.elem rz4 (by simp [hpl]) (by omega) (i := i) (e := d.cells) (by simp [hd])
          have hb3 := st3.toSub z _ _ hb
          have g0 : m[off + i * 4]? = some (I d.kind) := hg 0 (by omega)
          have g1 : m[off + i * 4 + 1]? = some (I d.x) := hg 1 (by omega)
          have g2 : m[off + i * 4 + 2]? = some (I d.y) := hg 2 (by omega)
          have g3 : m[off + i * 4 + 3]? = some (.slice d.a d.n d.c) := hg 3 (by omega)
          have E3 : Ents h3 (0, 0) (0, 0) d.a d.n d.c d.xs := dok.es.sub (st3.toSub z)
          have hle := dok.le
          have hxl := E3.len
          refine AIdx.nat (z := 4) (j := i) rfl hlt rfl rfl ?_; conv => whnf
          refine ALoad.one rfl hb3 g3 ?_; conv => whnf
          refine ACalls.mono (copies_any (3, 1) (3, 2) (by decide) (by decide) (by decide) (by decide) (by decide) E3 (by omega) (fun x hx => by have := dok.small x hx; omega)) ?_; rintro _ h4 ⟨a4, c4, zs, rfl, o4, abs4, m4, n4, k4⟩; conv => whnf
          have la4 := la3.keep k4.keep (by decide)
          have ra4 := ra3.keep k4.keep (by decide)
          have st4 : Stays h h4 := st3.trans (k4.stays (by decide))
          have hb4 := st4.toSub z _ _ hb
          have hzl : zs.length = d.n := by have := congrArg List.length abs4; simp at this; omega
          refine AIdx.nat (z := 4) (j := i) rfl hlt rfl rfl ?_; conv => whnf
          refine ALoad.one rfl hb4 g0 ?_; conv => whnf
          refine ACalls.mono (bring_any d.kind 4 (by omega) _) ?_; rintro _ _ ⟨rfl, rfl⟩; conv => whnf
          have hlo := bring_lo d.kind 4
          have hhi := bring_hi (i := d.kind) (n := 4) (by omega)
          have Z4 : Ents h4 (3, 1) (3, 2) a4 d.n c4 zs := ⟨o4.sl, fun e he => (m4 e he).sl, fun e he => by have := n4 e he; omega⟩
          have X4 : Ents h4 (0, 0) (0, 0) d.a d.n d.c d.xs := dok.es.sub (st4.toSub z)
          by_cases q0 : bring d.kind 4 = 0
          · rw [q0]
            conv => whnf
            refine ACmp.yes (by simp) ?_; conv => whnf
            refine ACalls.mono (Append_c (by decide) la4 k (by decide) (by decide) Z4 (by omega)) ?_; rintro _ h5 ⟨rfl, la5, k5⟩; conv => whnf
            rw [abs4] at la5 ⊢
            have hb5 := (st4.trans (k5.stays (by decide))).toSub z _ _ hb
            refine AIdx.nat (z := 4) (j := i) rfl hlt rfl rfl ?_; conv => whnf
            refine ALoad.one rfl hb5 g3 ?_; conv => whnf
            refine ACalls.mono (rAppend_c (by decide) (ra4.keep k5 (by decide)) k (by decide) (by decide) (X4.keep k5 (by decide) (by decide)) (by omega)) ?_; rintro _ h6 ⟨rfl, ra6, k6⟩; conv => whnf
            have la6 := la5.keep k6 (by decide)
            have st6 : Stays h h6 := st4.trans ((k5.stays (by decide)).trans (k6.stays (by decide)))
            have o6 := (o4.keep k5 (by decide)).keep k6 (by decide)
            have m6 : ∀ z ∈ zs, z.Mine h6 (3, 2) := fun z hz => Own.keep (Own.keep (m4 z hz) k5 (by decide)) k6 (by decide)
            have k' := k.append (d.xs.map EH.abs)
            have hl6 : (L.append (d.xs.map EH.abs)).2.es.length ≤ (i + 1) * 1048576 := by
              have := L.len_append (d.xs.map EH.abs)
              simp only [List.length_map] at this
              omega
            generalize (L.append (d.xs.map EH.abs)).2 = L' at la6 ra6 k' hl6 ⊢
            generalize (L.append (d.xs.map EH.abs)).1 = cd
            have hb6 := st6.toSub z _ _ hb
            have X6 : Ents h6 (0, 0) (0, 0) d.a d.n d.c d.xs := dok.es.sub (st6.toSub z)
            have Z6 : Ents h6 (3, 1) (3, 2) a4 d.n c4 zs := ⟨o6.sl, fun e he => (m6 e he).sl, fun e he => by have := n4 e he; omega⟩
            refine ACmp.no (by simp) ?_; conv => whnf
            refine AIdx.nat (z := 4) (j := i) rfl hlt rfl rfl ?_; conv => whnf
            refine ALoad.one rfl hb6 g3 ?_; conv => whnf
            refine ACalls.mono (alike_yes _ Z6 X6 (by omega) abs4) ?_; rintro _ _ ⟨rfl, rfl⟩; conv => whnf
            refine ALoop.mk (fun e h' => Keep 3 h6 h' ∧ ∃ e0, ∃ r : Nat, ∃ zs', e = updL 203 e0 [(2, .slice (some ⟨b, off, none⟩) ln lc), (7, .pointer (some ⟨p, 0, none⟩)), (8, I 0), (9, .pointer (some ⟨q, 0, none⟩)), (11, I i), (14, .slice a4 d.n c4), (15, I r)] ∧ r ≤ d.n ∧ Own h' (3, 1) 34 a4 d.n c4 4 (encs zs') ∧ zs'.length = d.n ∧ (∀ z ∈ zs', z.n ≤ 140737488355328) ∧ Pokes h' (3, 2) zs') (fun e => d.n - natOf (e 15))
              ⟨Keep.refl _ _, _, 0, zs, updL_self ⟨rfl, rfl, rfl, rfl, rfl, rfl, rfl, trivial⟩, by omega, o6, hzl, n4, Pokes.of m6⟩ ?_
            rintro e h7 ⟨kk7, e0, r, zs7, rfl, hr, o7, hzl7, hzs7, pk7⟩
            conv => whnf
            by_cases hrn : r < d.n
            · refine ACmp.yes (by omega) ?_; conv => whnf
              obtain ⟨w, hw⟩ : ∃ w, zs7[r]? = some w := ⟨zs7[r]'(by omega), by simp⟩
              have hwn := hzs7 w (List.mem_of_getElem? hw)
              refine ALoop.mk (fun e h' => Keep 3 h6 h' ∧ ∃ e0, ∃ s : Nat, e = updL 203 e0 [(2, .slice (some ⟨b, off, none⟩) ln lc), (7, .pointer (some ⟨p, 0, none⟩)), (8, I 0), (9, .pointer (some ⟨q, 0, none⟩)), (11, I i), (14, .slice a4 d.n c4), (15, I r), (16, I s)] ∧ s ≤ w.n ∧ Own h' (3, 1) 34 a4 d.n c4 4 (encs zs7) ∧ Pokes h' (3, 2) zs7) (fun e => w.n - natOf (e 16))
                ⟨kk7, _, 0, updL_self ⟨rfl, rfl, rfl, rfl, rfl, rfl, rfl, rfl, trivial⟩, by omega, o7, pk7⟩ ?_
              rintro e h8 ⟨kk8, e0, s, rfl, hs, o8, pk8⟩
              conv => whnf
              have hcap := o8.sl.le
              rcases o8 with ⟨hn0, _, _⟩ | ⟨b8, m8, rfl, hb8, hml, hnc, hc⟩
              · exact absurd hrn (by omega)
              have g8 : m8[0 + r * 4 + 3]? = some (.slice w.a w.n w.c) := by
                have : (m8.take (d.n * 4))[r * 4 + 3]? = m8[r * 4 + 3]? := by rw [List.getElem?_take, if_pos (by omega)]
                rw [Nat.zero_add, ← this, hc]
                exact encs_get (j := 3) hw (by omega)
              have hml8 : 0 + r * 4 + 3 < m8.length := (List.getElem?_eq_some_iff.1 g8).1
              refine AIdx.nat (z := 4) (j := r) rfl hrn rfl rfl ?_; conv => whnf
              refine ALoad.one rfl hb8 g8 ?_; conv => whnf
              by_cases hsn : s < w.n
              · refine ACmp.yes (by omega) ?_; conv => whnf
                obtain ⟨xw, ow⟩ := pk8 w (List.mem_of_getElem? hw)
                obtain ⟨bz, lz, ez, hbz, hlz, hlx⟩ := own_byte ow (by omega)
                obtain ⟨xb, hxb⟩ := hlx s hsn
                refine ADrawn.mk (h8) [16] (Sub.refl _) (by decide +kernel) ?_; conv => whnf
                refine AIdx.nat (z := 4) (j := r) rfl hrn rfl rfl ?_; conv => whnf
                refine ALoad.one rfl hb8 g8 ?_; conv => whnf
                refine AIdx.nat (z := 4) (j := r) rfl hrn rfl rfl ?_; conv => whnf
                refine ALoad.one rfl hb8 g8 ?_; conv => whnf
                rw [ez]
                refine AIdx.nat (z := 1) (j := s) rfl hsn rfl rfl ?_; conv => whnf
                refine ALoad.one rfl hbz (by rw [Nat.zero_add, Nat.mul_one]; exact hxb) ?_; conv => whnf
                refine AArith.raw ?_; conv => whnf
                refine AIdx.nat (z := 1) (j := s) rfl hsn rfl rfl ?_; conv => whnf
                refine AStore.one rfl rfl rfl hbz (by omega) ?_; conv => whnf
                refine AArith.ok (by omega) (by omega) ((by omega : (s : Int) + 1 = ((s + 1 : Nat) : Int))) ?_; conv => whnf
                have kp : KeepT (3, 2) h8 (h8.set bz (row (3, 2) (lz.set (0 + s * 1) (.int .u8 (IntKind.u8.wrap (xb + 1)))) 5)) := KeepT.set hbz
                refine ⟨⟨kk8.trans kp.keep, _, s + 1, updL_self ⟨rfl, rfl, rfl, rfl, rfl, rfl, rfl, rfl, trivial⟩, by omega, ?_, pk8.poke hbz⟩, ?_⟩
                · exact (show Own h8 (3, 1) 34 (some ⟨b8, 0, none⟩) d.n c4 4 (encs zs7) from .inr ⟨b8, m8, rfl, hb8, hml, hnc, hc⟩).keepT kp (by decide)
                · show w.n - (s + 1) < w.n - s
                  omega
              · refine ACmp.no (by omega) ?_; conv => whnf
                refine AIdx.nat (z := 4) (j := r) rfl hrn rfl rfl ?_; conv => whnf
                refine AStore.one rfl rfl rfl hb8 (by omega) ?_; conv => whnf
                refine AArith.ok (by omega) (by omega) ((by omega : (r : Int) + 1 = ((r + 1 : Nat) : Int))) ?_; conv => whnf
                have kp : KeepT (3, 1) h8 (h8.set b8 (row (3, 1) (m8.set (0 + r * 4) (I 0)) 34)) := KeepT.set hb8
                refine ⟨⟨kk8.trans kp.keep, _, r + 1, zs7.set r { w with term := 0 }, updL_self ⟨rfl, rfl, rfl, rfl, rfl, rfl, rfl, trivial⟩, by omega, own_set (j := 0) hb8 hml hnc hc hw (by omega) rfl, by rw [List.length_set]; exact hzl7, ?_, ?_⟩, ?_⟩
                · intro u hu
                  rcases List.mem_or_eq_of_mem_set hu with hu | rfl
                  · exact hzs7 u hu
                  · exact hwn
                · intro u hu
                  rcases List.mem_or_eq_of_mem_set hu with hu | rfl
                  · exact (pk8.keepT kp (by decide)) u hu
                  · exact (pk8.keepT kp (by decide)) w (List.mem_of_getElem? hw)
                · show d.n - (r + 1) < d.n - r
                  omega
            · refine ACmp.no (by omega) ?_; conv => whnf
              have la7 := la6.keep kk7 (by decide)
              have ra7 := ra6.keep kk7 (by decide)
              have st7 : Stays h h7 := st6.trans (kk7.stays (by decide))
              have S7 : Sub h h7 := st7.toSub z
              have b0' := k'.lo
              have b1' := k'.top
              refine ACalls.mono (rLast_c ra7 k') ?_; rintro _ _ ⟨rfl, rfl⟩; conv => whnf
              refine ADrawn.mk (h) [] (S7) (by decide +kernel) ?_; conv => whnf
              refine AIdx.nat (z := 4) (j := i) rfl hlt rfl rfl ?_; conv => whnf
              refine ALoad.one rfl hb g1 ?_; conv => whnf
              refine AIdx.nat (z := 4) (j := i) rfl hlt rfl rfl ?_; conv => whnf
              refine ALoad.one rfl hb g2 ?_; conv => whnf
              refine ACalls.mono (asked_any la7 ra7 k' (by omega) d.x d.y) ?_; rintro _ _ ⟨rfl, rfl⟩; conv => whnf
              refine ⟨S7, ?_⟩; conv => whnf
              refine ACalls.mono (rFirst_c ra7 k') ?_; rintro _ _ ⟨rfl, rfl⟩; conv => whnf
              refine ⟨S7, ?_⟩; conv => whnf
              refine ACalls.mono (asked_any la7 ra7 k' (by omega) _ _) ?_; rintro _ _ ⟨rfl, rfl⟩; conv => whnf
              refine ⟨S7, ?_⟩; conv => whnf
              refine ACalls.mono (asked_any la7 ra7 k' (by omega) _ _) ?_; rintro _ _ ⟨rfl, rfl⟩; conv => whnf
              refine ⟨S7, ?_⟩; conv => whnf
              refine ACalls.mono (rFirst_c ra7 k') ?_; rintro _ _ ⟨rfl, rfl⟩; conv => whnf
              refine ⟨S7, ?_⟩; conv => whnf
              refine AArith.ok (by omega) (by omega) (rfl) ?_; conv => whnf
              refine ACalls.mono (asked_any la7 ra7 k' (by omega) _ _) ?_; rintro _ _ ⟨rfl, rfl⟩; conv => whnf
              refine ⟨S7, ?_⟩; conv => whnf
              refine AArith.ok (by omega) (by omega) ((by omega : (i : Int) + 1 = ((i + 1 : Nat) : Int))) ?_; conv => whnf
              refine ⟨⟨st7, _, i + 1, updL_self ⟨rfl, rfl, rfl, rfl, rfl, trivial⟩, by omega, by omega, L', la7, ra7, k', by omega⟩, ?_⟩
              show ln - (i + 1) < ln - i
              omega
          · by_cases q1 : bring d.kind 4 = 1
            · rw [q1]
              conv => whnf
              refine ACmp.no (by simp) ?_; conv => whnf
              refine ACmp.yes (by simp) ?_; conv => whnf
              refine ACalls.mono (Append_c (by decide) la4 k (by decide) (by decide) Z4 (by omega)) ?_; rintro _ h5 ⟨rfl, la5, k5⟩; conv => whnf
              rw [abs4] at la5 ⊢
              have hb5 := (st4.trans (k5.stays (by decide))).toSub z _ _ hb
              refine AIdx.nat (z := 4) (j := i) rfl hlt rfl rfl ?_; conv => whnf
              refine ALoad.one rfl hb5 g3 ?_; conv => whnf
              refine ACalls.mono (rAppend_c (by decide) (ra4.keep k5 (by decide)) k (by decide) (by decide) (X4.keep k5 (by decide) (by decide)) (by omega)) ?_; rintro _ h6 ⟨rfl, ra6, k6⟩; conv => whnf
              have la6 := la5.keep k6 (by decide)
              have st6 : Stays h h6 := st4.trans ((k5.stays (by decide)).trans (k6.stays (by decide)))
              have o6 := (o4.keep k5 (by decide)).keep k6 (by decide)
              have m6 : ∀ z ∈ zs, z.Mine h6 (3, 2) := fun z hz => Own.keep (Own.keep (m4 z hz) k5 (by decide)) k6 (by decide)
              have k' := k.append (d.xs.map EH.abs)
              have hl6 : (L.append (d.xs.map EH.abs)).2.es.length ≤ (i + 1) * 1048576 := by
                have := L.len_append (d.xs.map EH.abs)
                simp only [List.length_map] at this
                omega
              generalize (L.append (d.xs.map EH.abs)).2 = L' at la6 ra6 k' hl6 ⊢
              generalize (L.append (d.xs.map EH.abs)).1 = cd
              have hb6 := st6.toSub z _ _ hb
              have X6 : Ents h6 (0, 0) (0, 0) d.a d.n d.c d.xs := dok.es.sub (st6.toSub z)
              have Z6 : Ents h6 (3, 1) (3, 2) a4 d.n c4 zs := ⟨o6.sl, fun e he => (m6 e he).sl, fun e he => by have := n4 e he; omega⟩
              refine ACmp.no (by simp) ?_; conv => whnf
              refine AIdx.nat (z := 4) (j := i) rfl hlt rfl rfl ?_; conv => whnf
              refine ALoad.one rfl hb6 g3 ?_; conv => whnf
              refine ACalls.mono (alike_yes _ Z6 X6 (by omega) abs4) ?_; rintro _ _ ⟨rfl, rfl⟩; conv => whnf
              refine ALoop.mk (fun e h' => Keep 3 h6 h' ∧ ∃ e0, ∃ r : Nat, ∃ zs', e = updL 203 e0 [(2, .slice (some ⟨b, off, none⟩) ln lc), (7, .pointer (some ⟨p, 0, none⟩)), (8, I 0), (9, .pointer (some ⟨q, 0, none⟩)), (11, I i), (14, .slice a4 d.n c4), (15, I r)] ∧ r ≤ d.n ∧ Own h' (3, 1) 34 a4 d.n c4 4 (encs zs') ∧ zs'.length = d.n ∧ (∀ z ∈ zs', z.n ≤ 140737488355328) ∧ Pokes h' (3, 2) zs') (fun e => d.n - natOf (e 15))
                ⟨Keep.refl _ _, _, 0, zs, updL_self ⟨rfl, rfl, rfl, rfl, rfl, rfl, rfl, trivial⟩, by omega, o6, hzl, n4, Pokes.of m6⟩ ?_
              rintro e h7 ⟨kk7, e0, r, zs7, rfl, hr, o7, hzl7, hzs7, pk7⟩
              conv => whnf
              by_cases hrn : r < d.n
              · refine ACmp.yes (by omega) ?_; conv => whnf
                obtain ⟨w, hw⟩ : ∃ w, zs7[r]? = some w := ⟨zs7[r]'(by omega), by simp⟩
                have hwn := hzs7 w (List.mem_of_getElem? hw)
                refine ALoop.mk (fun e h' => Keep 3 h6 h' ∧ ∃ e0, ∃ s : Nat, e = updL 203 e0 [(2, .slice (some ⟨b, off, none⟩) ln lc), (7, .pointer (some ⟨p, 0, none⟩)), (8, I 0), (9, .pointer (some ⟨q, 0, none⟩)), (11, I i), (14, .slice a4 d.n c4), (15, I r), (16, I s)] ∧ s ≤ w.n ∧ Own h' (3, 1) 34 a4 d.n c4 4 (encs zs7) ∧ Pokes h' (3, 2) zs7) (fun e => w.n - natOf (e 16))
                  ⟨kk7, _, 0, updL_self ⟨rfl, rfl, rfl, rfl, rfl, rfl, rfl, rfl, trivial⟩, by omega, o7, pk7⟩ ?_
                rintro e h8 ⟨kk8, e0, s, rfl, hs, o8, pk8⟩
                conv => whnf
                have hcap := o8.sl.le
                rcases o8 with ⟨hn0, _, _⟩ | ⟨b8, m8, rfl, hb8, hml, hnc, hc⟩
                · exact absurd hrn (by omega)
                have g8 : m8[0 + r * 4 + 3]? = some (.slice w.a w.n w.c) := by
                  have : (m8.take (d.n * 4))[r * 4 + 3]? = m8[r * 4 + 3]? := by rw [List.getElem?_take, if_pos (by omega)]
                  rw [Nat.zero_add, ← this, hc]
                  exact encs_get (j := 3) hw (by omega)
                have hml8 : 0 + r * 4 + 3 < m8.length := (List.getElem?_eq_some_iff.1 g8).1
                refine AIdx.nat (z := 4) (j := r) rfl hrn rfl rfl ?_; conv => whnf
                refine ALoad.one rfl hb8 g8 ?_; conv => whnf
                by_cases hsn : s < w.n
                · refine ACmp.yes (by omega) ?_; conv => whnf
                  obtain ⟨xw, ow⟩ := pk8 w (List.mem_of_getElem? hw)
                  obtain ⟨bz, lz, ez, hbz, hlz, hlx⟩ := own_byte ow (by omega)
                  obtain ⟨xb, hxb⟩ := hlx s hsn
                  refine ADrawn.mk (h8) [16] (Sub.refl _) (by decide +kernel) ?_; conv => whnf
                  refine AIdx.nat (z := 4) (j := r) rfl hrn rfl rfl ?_; conv => whnf
                  refine ALoad.one rfl hb8 g8 ?_; conv => whnf
                  refine AIdx.nat (z := 4) (j := r) rfl hrn rfl rfl ?_; conv => whnf
                  refine ALoad.one rfl hb8 g8 ?_; conv => whnf
                  rw [ez]
                  refine AIdx.nat (z := 1) (j := s) rfl hsn rfl rfl ?_; conv => whnf
                  refine ALoad.one rfl hbz (by rw [Nat.zero_add, Nat.mul_one]; exact hxb) ?_; conv => whnf
                  refine AArith.raw ?_; conv => whnf
                  refine AIdx.nat (z := 1) (j := s) rfl hsn rfl rfl ?_; conv => whnf
                  refine AStore.one rfl rfl rfl hbz (by omega) ?_; conv => whnf
                  refine AArith.ok (by omega) (by omega) ((by omega : (s : Int) + 1 = ((s + 1 : Nat) : Int))) ?_; conv => whnf
                  have kp : KeepT (3, 2) h8 (h8.set bz (row (3, 2) (lz.set (0 + s * 1) (.int .u8 (IntKind.u8.wrap (xb + 1)))) 5)) := KeepT.set hbz
                  refine ⟨⟨kk8.trans kp.keep, _, s + 1, updL_self ⟨rfl, rfl, rfl, rfl, rfl, rfl, rfl, rfl, trivial⟩, by omega, ?_, pk8.poke hbz⟩, ?_⟩
                  · exact (show Own h8 (3, 1) 34 (some ⟨b8, 0, none⟩) d.n c4 4 (encs zs7) from .inr ⟨b8, m8, rfl, hb8, hml, hnc, hc⟩).keepT kp (by decide)
                  · show w.n - (s + 1) < w.n - s
                    omega
                · refine ACmp.no (by omega) ?_; conv => whnf
                  refine AIdx.nat (z := 4) (j := r) rfl hrn rfl rfl ?_; conv => whnf
                  refine AStore.one rfl rfl rfl hb8 (by omega) ?_; conv => whnf
                  refine AArith.ok (by omega) (by omega) ((by omega : (r : Int) + 1 = ((r + 1 : Nat) : Int))) ?_; conv => whnf
                  have kp : KeepT (3, 1) h8 (h8.set b8 (row (3, 1) (m8.set (0 + r * 4) (I 0)) 34)) := KeepT.set hb8
                  refine ⟨⟨kk8.trans kp.keep, _, r + 1, zs7.set r { w with term := 0 }, updL_self ⟨rfl, rfl, rfl, rfl, rfl, rfl, rfl, trivial⟩, by omega, own_set (j := 0) hb8 hml hnc hc hw (by omega) rfl, by rw [List.length_set]; exact hzl7, ?_, ?_⟩, ?_⟩
                  · intro u hu
                    rcases List.mem_or_eq_of_mem_set hu with hu | rfl
                    · exact hzs7 u hu
                    · exact hwn
                  · intro u hu
                    rcases List.mem_or_eq_of_mem_set hu with hu | rfl
                    · exact (pk8.keepT kp (by decide)) u hu
                    · exact (pk8.keepT kp (by decide)) w (List.mem_of_getElem? hw)
                  · show d.n - (r + 1) < d.n - r
                    omega
              · refine ACmp.no (by omega) ?_; conv => whnf
                have la7 := la6.keep kk7 (by decide)
                have ra7 := ra6.keep kk7 (by decide)
                have st7 : Stays h h7 := st6.trans (kk7.stays (by decide))
                have S7 : Sub h h7 := st7.toSub z
                have b0' := k'.lo
                have b1' := k'.top
                refine ACalls.mono (rLast_c ra7 k') ?_; rintro _ _ ⟨rfl, rfl⟩; conv => whnf
                refine ADrawn.mk (h) [] (S7) (by decide +kernel) ?_; conv => whnf
                refine AIdx.nat (z := 4) (j := i) rfl hlt rfl rfl ?_; conv => whnf
                refine ALoad.one rfl hb g1 ?_; conv => whnf
                refine AIdx.nat (z := 4) (j := i) rfl hlt rfl rfl ?_; conv => whnf
                refine ALoad.one rfl hb g2 ?_; conv => whnf
                refine ACalls.mono (asked_any la7 ra7 k' (by omega) d.x d.y) ?_; rintro _ _ ⟨rfl, rfl⟩; conv => whnf
                refine ⟨S7, ?_⟩; conv => whnf
                refine ACalls.mono (rFirst_c ra7 k') ?_; rintro _ _ ⟨rfl, rfl⟩; conv => whnf
                refine ⟨S7, ?_⟩; conv => whnf
                refine ACalls.mono (asked_any la7 ra7 k' (by omega) _ _) ?_; rintro _ _ ⟨rfl, rfl⟩; conv => whnf
                refine ⟨S7, ?_⟩; conv => whnf
                refine ACalls.mono (asked_any la7 ra7 k' (by omega) _ _) ?_; rintro _ _ ⟨rfl, rfl⟩; conv => whnf
                refine ⟨S7, ?_⟩; conv => whnf
                refine ACalls.mono (rFirst_c ra7 k') ?_; rintro _ _ ⟨rfl, rfl⟩; conv => whnf
                refine ⟨S7, ?_⟩; conv => whnf
                refine AArith.ok (by omega) (by omega) (rfl) ?_; conv => whnf
                refine ACalls.mono (asked_any la7 ra7 k' (by omega) _ _) ?_; rintro _ _ ⟨rfl, rfl⟩; conv => whnf
                refine ⟨S7, ?_⟩; conv => whnf
                refine AArith.ok (by omega) (by omega) ((by omega : (i : Int) + 1 = ((i + 1 : Nat) : Int))) ?_; conv => whnf
                refine ⟨⟨st7, _, i + 1, updL_self ⟨rfl, rfl, rfl, rfl, rfl, trivial⟩, by omega, by omega, L', la7, ra7, k', by omega⟩, ?_⟩
                show ln - (i + 1) < ln - i
                omega
            · refine ACmp.no (q0) ?_; conv => whnf
              refine ACmp.no (q1) ?_; conv => whnf
              by_cases q2 : bring d.kind 4 = 2
              · refine ACmp.yes (q2) ?_; conv => whnf
                have hb4 := st4.toSub z _ _ hb
                refine AIdx.nat (z := 4) (j := i) rfl hlt rfl rfl ?_; conv => whnf
                refine ALoad.one rfl hb4 g1 ?_; conv => whnf
                refine ACalls.mono (Cut_c la4 k d.x) ?_; rintro _ h5 ⟨rfl, la5, k5⟩; conv => whnf
                have hb5 := (st4.trans (k5.stays (by decide))).toSub z _ _ hb
                refine AIdx.nat (z := 4) (j := i) rfl hlt rfl rfl ?_; conv => whnf
                refine ALoad.one rfl hb5 g1 ?_; conv => whnf
                refine ACalls.mono (rCut_c (by decide) (ra4.keep k5 (by decide)) k d.x (by omega)) ?_; rintro _ h6 ⟨rfl, ra6, k6⟩; conv => whnf
                have la6 := la5.keep k6 (by decide)
                have st6 : Stays h h6 := st4.trans ((k5.stays (by decide)).trans (k6.stays (by decide)))
                have o6 := (o4.keep k5 (by decide)).keep k6 (by decide)
                have m6 : ∀ z ∈ zs, z.Mine h6 (3, 2) := fun z hz => Own.keep (Own.keep (m4 z hz) k5 (by decide)) k6 (by decide)
                have k' := k.cut d.x
                have hl6 : (L.cut d.x).2.es.length ≤ (i + 1) * 1048576 := by
                  have := L.len_cut d.x
                  omega
                generalize (L.cut d.x).2 = L' at la6 ra6 k' hl6 ⊢
                generalize (L.cut d.x).1 = cd
                have hb6 := st6.toSub z _ _ hb
                have X6 : Ents h6 (0, 0) (0, 0) d.a d.n d.c d.xs := dok.es.sub (st6.toSub z)
                have Z6 : Ents h6 (3, 1) (3, 2) a4 d.n c4 zs := ⟨o6.sl, fun e he => (m6 e he).sl, fun e he => by have := n4 e he; omega⟩
                refine ACmp.no (by simp) ?_; conv => whnf
                refine AIdx.nat (z := 4) (j := i) rfl hlt rfl rfl ?_; conv => whnf
                refine ALoad.one rfl hb6 g3 ?_; conv => whnf
                refine ACalls.mono (alike_yes _ Z6 X6 (by omega) abs4) ?_; rintro _ _ ⟨rfl, rfl⟩; conv => whnf
                refine ALoop.mk (fun e h' => Keep 3 h6 h' ∧ ∃ e0, ∃ r : Nat, ∃ zs', e = updL 203 e0 [(2, .slice (some ⟨b, off, none⟩) ln lc), (7, .pointer (some ⟨p, 0, none⟩)), (8, I 0), (9, .pointer (some ⟨q, 0, none⟩)), (11, I i), (14, .slice a4 d.n c4), (15, I r)] ∧ r ≤ d.n ∧ Own h' (3, 1) 34 a4 d.n c4 4 (encs zs') ∧ zs'.length = d.n ∧ (∀ z ∈ zs', z.n ≤ 140737488355328) ∧ Pokes h' (3, 2) zs') (fun e => d.n - natOf (e 15))
                  ⟨Keep.refl _ _, _, 0, zs, updL_self ⟨rfl, rfl, rfl, rfl, rfl, rfl, rfl, trivial⟩, by omega, o6, hzl, n4, Pokes.of m6⟩ ?_
                rintro e h7 ⟨kk7, e0, r, zs7, rfl, hr, o7, hzl7, hzs7, pk7⟩
                conv => whnf
                by_cases hrn : r < d.n
                · refine ACmp.yes (by omega) ?_; conv => whnf
                  obtain ⟨w, hw⟩ : ∃ w, zs7[r]? = some w := ⟨zs7[r]'(by omega), by simp⟩
                  have hwn := hzs7 w (List.mem_of_getElem? hw)
                  refine ALoop.mk (fun e h' => Keep 3 h6 h' ∧ ∃ e0, ∃ s : Nat, e = updL 203 e0 [(2, .slice (some ⟨b, off, none⟩) ln lc), (7, .pointer (some ⟨p, 0, none⟩)), (8, I 0), (9, .pointer (some ⟨q, 0, none⟩)), (11, I i), (14, .slice a4 d.n c4), (15, I r), (16, I s)] ∧ s ≤ w.n ∧ Own h' (3, 1) 34 a4 d.n c4 4 (encs zs7) ∧ Pokes h' (3, 2) zs7) (fun e => w.n - natOf (e 16))
                    ⟨kk7, _, 0, updL_self ⟨rfl, rfl, rfl, rfl, rfl, rfl, rfl, rfl, trivial⟩, by omega, o7, pk7⟩ ?_
                  rintro e h8 ⟨kk8, e0, s, rfl, hs, o8, pk8⟩
                  conv => whnf
                  have hcap := o8.sl.le
                  rcases o8 with ⟨hn0, _, _⟩ | ⟨b8, m8, rfl, hb8, hml, hnc, hc⟩
                  · exact absurd hrn (by omega)
                  have g8 : m8[0 + r * 4 + 3]? = some (.slice w.a w.n w.c) := by
                    have : (m8.take (d.n * 4))[r * 4 + 3]? = m8[r * 4 + 3]? := by rw [List.getElem?_take, if_pos (by omega)]
                    rw [Nat.zero_add, ← this, hc]
                    exact encs_get (j := 3) hw (by omega)
                  have hml8 : 0 + r * 4 + 3 < m8.length := (List.getElem?_eq_some_iff.1 g8).1
                  refine AIdx.nat (z := 4) (j := r) rfl hrn rfl rfl ?_; conv => whnf
                  refine ALoad.one rfl hb8 g8 ?_; conv => whnf
                  by_cases hsn : s < w.n
                  · refine ACmp.yes (by omega) ?_; conv => whnf
                    obtain ⟨xw, ow⟩ := pk8 w (List.mem_of_getElem? hw)
                    obtain ⟨bz, lz, ez, hbz, hlz, hlx⟩ := own_byte ow (by omega)
                    obtain ⟨xb, hxb⟩ := hlx s hsn
                    refine ADrawn.mk (h8) [16] (Sub.refl _) (by decide +kernel) ?_; conv => whnf
                    refine AIdx.nat (z := 4) (j := r) rfl hrn rfl rfl ?_; conv => whnf
                    refine ALoad.one rfl hb8 g8 ?_; conv => whnf
                    refine AIdx.nat (z := 4) (j := r) rfl hrn rfl rfl ?_; conv => whnf
                    refine ALoad.one rfl hb8 g8 ?_; conv => whnf
                    rw [ez]
                    refine AIdx.nat (z := 1) (j := s) rfl hsn rfl rfl ?_; conv => whnf
                    refine ALoad.one rfl hbz (by rw [Nat.zero_add, Nat.mul_one]; exact hxb) ?_; conv => whnf
                    refine AArith.raw ?_; conv => whnf
                    refine AIdx.nat (z := 1) (j := s) rfl hsn rfl rfl ?_; conv => whnf
                    refine AStore.one rfl rfl rfl hbz (by omega) ?_; conv => whnf
                    refine AArith.ok (by omega) (by omega) ((by omega : (s : Int) + 1 = ((s + 1 : Nat) : Int))) ?_; conv => whnf
                    have kp : KeepT (3, 2) h8 (h8.set bz (row (3, 2) (lz.set (0 + s * 1) (.int .u8 (IntKind.u8.wrap (xb + 1)))) 5)) := KeepT.set hbz
                    refine ⟨⟨kk8.trans kp.keep, _, s + 1, updL_self ⟨rfl, rfl, rfl, rfl, rfl, rfl, rfl, rfl, trivial⟩, by omega, ?_, pk8.poke hbz⟩, ?_⟩
                    · exact (show Own h8 (3, 1) 34 (some ⟨b8, 0, none⟩) d.n c4 4 (encs zs7) from .inr ⟨b8, m8, rfl, hb8, hml, hnc, hc⟩).keepT kp (by decide)
                    · show w.n - (s + 1) < w.n - s
                      omega
                  · refine ACmp.no (by omega) ?_; conv => whnf
                    refine AIdx.nat (z := 4) (j := r) rfl hrn rfl rfl ?_; conv => whnf
                    refine AStore.one rfl rfl rfl hb8 (by omega) ?_; conv => whnf
                    refine AArith.ok (by omega) (by omega) ((by omega : (r : Int) + 1 = ((r + 1 : Nat) : Int))) ?_; conv => whnf
                    have kp : KeepT (3, 1) h8 (h8.set b8 (row (3, 1) (m8.set (0 + r * 4) (I 0)) 34)) := KeepT.set hb8
                    refine ⟨⟨kk8.trans kp.keep, _, r + 1, zs7.set r { w with term := 0 }, updL_self ⟨rfl, rfl, rfl, rfl, rfl, rfl, rfl, trivial⟩, by omega, own_set (j := 0) hb8 hml hnc hc hw (by omega) rfl, by rw [List.length_set]; exact hzl7, ?_, ?_⟩, ?_⟩
                    · intro u hu
                      rcases List.mem_or_eq_of_mem_set hu with hu | rfl
                      · exact hzs7 u hu
                      · exact hwn
                    · intro u hu
                      rcases List.mem_or_eq_of_mem_set hu with hu | rfl
                      · exact (pk8.keepT kp (by decide)) u hu
                      · exact (pk8.keepT kp (by decide)) w (List.mem_of_getElem? hw)
                    · show d.n - (r + 1) < d.n - r
                      omega
                · refine ACmp.no (by omega) ?_; conv => whnf
                  have la7 := la6.keep kk7 (by decide)
                  have ra7 := ra6.keep kk7 (by decide)
                  have st7 : Stays h h7 := st6.trans (kk7.stays (by decide))
                  have S7 : Sub h h7 := st7.toSub z
                  have b0' := k'.lo
                  have b1' := k'.top
                  refine ACalls.mono (rLast_c ra7 k') ?_; rintro _ _ ⟨rfl, rfl⟩; conv => whnf
                  refine ADrawn.mk (h) [] (S7) (by decide +kernel) ?_; conv => whnf
                  refine AIdx.nat (z := 4) (j := i) rfl hlt rfl rfl ?_; conv => whnf
                  refine ALoad.one rfl hb g1 ?_; conv => whnf
                  refine AIdx.nat (z := 4) (j := i) rfl hlt rfl rfl ?_; conv => whnf
                  refine ALoad.one rfl hb g2 ?_; conv => whnf
                  refine ACalls.mono (asked_any la7 ra7 k' (by omega) d.x d.y) ?_; rintro _ _ ⟨rfl, rfl⟩; conv => whnf
                  refine ⟨S7, ?_⟩; conv => whnf
                  refine ACalls.mono (rFirst_c ra7 k') ?_; rintro _ _ ⟨rfl, rfl⟩; conv => whnf
                  refine ⟨S7, ?_⟩; conv => whnf
                  refine ACalls.mono (asked_any la7 ra7 k' (by omega) _ _) ?_; rintro _ _ ⟨rfl, rfl⟩; conv => whnf
                  refine ⟨S7, ?_⟩; conv => whnf
                  refine ACalls.mono (asked_any la7 ra7 k' (by omega) _ _) ?_; rintro _ _ ⟨rfl, rfl⟩; conv => whnf
                  refine ⟨S7, ?_⟩; conv => whnf
                  refine ACalls.mono (rFirst_c ra7 k') ?_; rintro _ _ ⟨rfl, rfl⟩; conv => whnf
                  refine ⟨S7, ?_⟩; conv => whnf
                  refine AArith.ok (by omega) (by omega) (rfl) ?_; conv => whnf
                  refine ACalls.mono (asked_any la7 ra7 k' (by omega) _ _) ?_; rintro _ _ ⟨rfl, rfl⟩; conv => whnf
                  refine ⟨S7, ?_⟩; conv => whnf
                  refine AArith.ok (by omega) (by omega) ((by omega : (i : Int) + 1 = ((i + 1 : Nat) : Int))) ?_; conv => whnf
                  refine ⟨⟨st7, _, i + 1, updL_self ⟨rfl, rfl, rfl, rfl, rfl, trivial⟩, by omega, by omega, L', la7, ra7, k', by omega⟩, ?_⟩
                  show ln - (i + 1) < ln - i
                  omega
              · refine ACmp.no (q2) ?_; conv => whnf
                have hb4 := st4.toSub z _ _ hb
                refine AIdx.nat (z := 4) (j := i) rfl hlt rfl rfl ?_; conv => whnf
                refine ALoad.one rfl hb4 g1 ?_; conv => whnf
                refine ACalls.mono (Compact_c (by decide) la4 k d.x (by omega)) ?_; rintro _ h5 ⟨rfl, la5, k5⟩; conv => whnf
                have hb5 := (st4.trans (k5.stays (by decide))).toSub z _ _ hb
                refine AIdx.nat (z := 4) (j := i) rfl hlt rfl rfl ?_; conv => whnf
                refine ALoad.one rfl hb5 g1 ?_; conv => whnf
                refine ACalls.mono (rCompact_c (by decide) (ra4.keep k5 (by decide)) k d.x (by omega)) ?_; rintro _ h6 ⟨rfl, ra6, k6⟩; conv => whnf
                have la6 := la5.keep k6 (by decide)
                have st6 : Stays h h6 := st4.trans ((k5.stays (by decide)).trans (k6.stays (by decide)))
                have o6 := (o4.keep k5 (by decide)).keep k6 (by decide)
                have m6 : ∀ z ∈ zs, z.Mine h6 (3, 2) := fun z hz => Own.keep (Own.keep (m4 z hz) k5 (by decide)) k6 (by decide)
                have k' := k.compact d.x
                have hl6 : (L.compact d.x).2.es.length ≤ (i + 1) * 1048576 := by
                  have := L.len_compact d.x
                  omega
                generalize (L.compact d.x).2 = L' at la6 ra6 k' hl6 ⊢
                generalize (L.compact d.x).1 = cd
                have hb6 := st6.toSub z _ _ hb
                have X6 : Ents h6 (0, 0) (0, 0) d.a d.n d.c d.xs := dok.es.sub (st6.toSub z)
                have Z6 : Ents h6 (3, 1) (3, 2) a4 d.n c4 zs := ⟨o6.sl, fun e he => (m6 e he).sl, fun e he => by have := n4 e he; omega⟩
                refine ACmp.no (by simp) ?_; conv => whnf
                refine AIdx.nat (z := 4) (j := i) rfl hlt rfl rfl ?_; conv => whnf
                refine ALoad.one rfl hb6 g3 ?_; conv => whnf
                refine ACalls.mono (alike_yes _ Z6 X6 (by omega) abs4) ?_; rintro _ _ ⟨rfl, rfl⟩; conv => whnf
                refine ALoop.mk (fun e h' => Keep 3 h6 h' ∧ ∃ e0, ∃ r : Nat, ∃ zs', e = updL 203 e0 [(2, .slice (some ⟨b, off, none⟩) ln lc), (7, .pointer (some ⟨p, 0, none⟩)), (8, I 0), (9, .pointer (some ⟨q, 0, none⟩)), (11, I i), (14, .slice a4 d.n c4), (15, I r)] ∧ r ≤ d.n ∧ Own h' (3, 1) 34 a4 d.n c4 4 (encs zs') ∧ zs'.length = d.n ∧ (∀ z ∈ zs', z.n ≤ 140737488355328) ∧ Pokes h' (3, 2) zs') (fun e => d.n - natOf (e 15))
                  ⟨Keep.refl _ _, _, 0, zs, updL_self ⟨rfl, rfl, rfl, rfl, rfl, rfl, rfl, trivial⟩, by omega, o6, hzl, n4, Pokes.of m6⟩ ?_
                rintro e h7 ⟨kk7, e0, r, zs7, rfl, hr, o7, hzl7, hzs7, pk7⟩
                conv => whnf
                by_cases hrn : r < d.n
                · refine ACmp.yes (by omega) ?_; conv => whnf
                  obtain ⟨w, hw⟩ : ∃ w, zs7[r]? = some w := ⟨zs7[r]'(by omega), by simp⟩
                  have hwn := hzs7 w (List.mem_of_getElem? hw)
                  refine ALoop.mk (fun e h' => Keep 3 h6 h' ∧ ∃ e0, ∃ s : Nat, e = updL 203 e0 [(2, .slice (some ⟨b, off, none⟩) ln lc), (7, .pointer (some ⟨p, 0, none⟩)), (8, I 0), (9, .pointer (some ⟨q, 0, none⟩)), (11, I i), (14, .slice a4 d.n c4), (15, I r), (16, I s)] ∧ s ≤ w.n ∧ Own h' (3, 1) 34 a4 d.n c4 4 (encs zs7) ∧ Pokes h' (3, 2) zs7) (fun e => w.n - natOf (e 16))
                    ⟨kk7, _, 0, updL_self ⟨rfl, rfl, rfl, rfl, rfl, rfl, rfl, rfl, trivial⟩, by omega, o7, pk7⟩ ?_
                  rintro e h8 ⟨kk8, e0, s, rfl, hs, o8, pk8⟩
                  conv => whnf
                  have hcap := o8.sl.le
                  rcases o8 with ⟨hn0, _, _⟩ | ⟨b8, m8, rfl, hb8, hml, hnc, hc⟩
                  · exact absurd hrn (by omega)
                  have g8 : m8[0 + r * 4 + 3]? = some (.slice w.a w.n w.c) := by
                    have : (m8.take (d.n * 4))[r * 4 + 3]? = m8[r * 4 + 3]? := by rw [List.getElem?_take, if_pos (by omega)]
                    rw [Nat.zero_add, ← this, hc]
                    exact encs_get (j := 3) hw (by omega)
                  have hml8 : 0 + r * 4 + 3 < m8.length := (List.getElem?_eq_some_iff.1 g8).1
                  refine AIdx.nat (z := 4) (j := r) rfl hrn rfl rfl ?_; conv => whnf
                  refine ALoad.one rfl hb8 g8 ?_; conv => whnf
                  by_cases hsn : s < w.n
                  · refine ACmp.yes (by omega) ?_; conv => whnf
                    obtain ⟨xw, ow⟩ := pk8 w (List.mem_of_getElem? hw)
                    obtain ⟨bz, lz, ez, hbz, hlz, hlx⟩ := own_byte ow (by omega)
                    obtain ⟨xb, hxb⟩ := hlx s hsn
                    refine ADrawn.mk (h8) [16] (Sub.refl _) (by decide +kernel) ?_; conv => whnf
                    refine AIdx.nat (z := 4) (j := r) rfl hrn rfl rfl ?_; conv => whnf
                    refine ALoad.one rfl hb8 g8 ?_; conv => whnf
                    refine AIdx.nat (z := 4) (j := r) rfl hrn rfl rfl ?_; conv => whnf
                    refine ALoad.one rfl hb8 g8 ?_; conv => whnf
                    rw [ez]
                    refine AIdx.nat (z := 1) (j := s) rfl hsn rfl rfl ?_; conv => whnf
                    refine ALoad.one rfl hbz (by rw [Nat.zero_add, Nat.mul_one]; exact hxb) ?_; conv => whnf
                    refine AArith.raw ?_; conv => whnf
                    refine AIdx.nat (z := 1) (j := s) rfl hsn rfl rfl ?_; conv => whnf
                    refine AStore.one rfl rfl rfl hbz (by omega) ?_; conv => whnf
                    refine AArith.ok (by omega) (by omega) ((by omega : (s : Int) + 1 = ((s + 1 : Nat) : Int))) ?_; conv => whnf
                    have kp : KeepT (3, 2) h8 (h8.set bz (row (3, 2) (lz.set (0 + s * 1) (.int .u8 (IntKind.u8.wrap (xb + 1)))) 5)) := KeepT.set hbz
                    refine ⟨⟨kk8.trans kp.keep, _, s + 1, updL_self ⟨rfl, rfl, rfl, rfl, rfl, rfl, rfl, rfl, trivial⟩, by omega, ?_, pk8.poke hbz⟩, ?_⟩
                    · exact (show Own h8 (3, 1) 34 (some ⟨b8, 0, none⟩) d.n c4 4 (encs zs7) from .inr ⟨b8, m8, rfl, hb8, hml, hnc, hc⟩).keepT kp (by decide)
                    · show w.n - (s + 1) < w.n - s
                      omega
                  · refine ACmp.no (by omega) ?_; conv => whnf
                    refine AIdx.nat (z := 4) (j := r) rfl hrn rfl rfl ?_; conv => whnf
                    refine AStore.one rfl rfl rfl hb8 (by omega) ?_; conv => whnf
                    refine AArith.ok (by omega) (by omega) ((by omega : (r : Int) + 1 = ((r + 1 : Nat) : Int))) ?_; conv => whnf
                    have kp : KeepT (3, 1) h8 (h8.set b8 (row (3, 1) (m8.set (0 + r * 4) (I 0)) 34)) := KeepT.set hb8
                    refine ⟨⟨kk8.trans kp.keep, _, r + 1, zs7.set r { w with term := 0 }, updL_self ⟨rfl, rfl, rfl, rfl, rfl, rfl, rfl, trivial⟩, by omega, own_set (j := 0) hb8 hml hnc hc hw (by omega) rfl, by rw [List.length_set]; exact hzl7, ?_, ?_⟩, ?_⟩
                    · intro u hu
                      rcases List.mem_or_eq_of_mem_set hu with hu | rfl
                      · exact hzs7 u hu
                      · exact hwn
                    · intro u hu
                      rcases List.mem_or_eq_of_mem_set hu with hu | rfl
                      · exact (pk8.keepT kp (by decide)) u hu
                      · exact (pk8.keepT kp (by decide)) w (List.mem_of_getElem? hw)
                    · show d.n - (r + 1) < d.n - r
                      omega
                · refine ACmp.no (by omega) ?_; conv => whnf
                  have la7 := la6.keep kk7 (by decide)
                  have ra7 := ra6.keep kk7 (by decide)
                  have st7 : Stays h h7 := st6.trans (kk7.stays (by decide))
                  have S7 : Sub h h7 := st7.toSub z
                  have b0' := k'.lo
                  have b1' := k'.top
                  refine ACalls.mono (rLast_c ra7 k') ?_; rintro _ _ ⟨rfl, rfl⟩; conv => whnf
                  refine ADrawn.mk (h) [] (S7) (by decide +kernel) ?_; conv => whnf
                  refine AIdx.nat (z := 4) (j := i) rfl hlt rfl rfl ?_; conv => whnf
                  refine ALoad.one rfl hb g1 ?_; conv => whnf
                  refine AIdx.nat (z := 4) (j := i) rfl hlt rfl rfl ?_; conv => whnf
                  refine ALoad.one rfl hb g2 ?_; conv => whnf
                  refine ACalls.mono (asked_any la7 ra7 k' (by omega) d.x d.y) ?_; rintro _ _ ⟨rfl, rfl⟩; conv => whnf
                  refine ⟨S7, ?_⟩; conv => whnf
                  refine ACalls.mono (rFirst_c ra7 k') ?_; rintro _ _ ⟨rfl, rfl⟩; conv => whnf
                  refine ⟨S7, ?_⟩; conv => whnf
                  refine ACalls.mono (asked_any la7 ra7 k' (by omega) _ _) ?_; rintro _ _ ⟨rfl, rfl⟩; conv => whnf
                  refine ⟨S7, ?_⟩; conv => whnf
                  refine ACalls.mono (asked_any la7 ra7 k' (by omega) _ _) ?_; rintro _ _ ⟨rfl, rfl⟩; conv => whnf
                  refine ⟨S7, ?_⟩; conv => whnf
                  refine ACalls.mono (rFirst_c ra7 k') ?_; rintro _ _ ⟨rfl, rfl⟩; conv => whnf
                  refine ⟨S7, ?_⟩; conv => whnf
                  refine AArith.ok (by omega) (by omega) (rfl) ?_; conv => whnf
                  refine ACalls.mono (asked_any la7 ra7 k' (by omega) _ _) ?_; rintro _ _ ⟨rfl, rfl⟩; conv => whnf
                  refine ⟨S7, ?_⟩; conv => whnf
                  refine AArith.ok (by omega) (by omega) ((by omega : (i : Int) + 1 = ((i + 1 : Nat) : Int))) ?_; conv => whnf
                  refine ⟨⟨st7, _, i + 1, updL_self ⟨rfl, rfl, rfl, rfl, rfl, trivial⟩, by omega, by omega, L', la7, ra7, k', by omega⟩, ?_⟩
                  show ln - (i + 1) < ln - i
                  omega
        · refine ACmp.no (by omega) ?_; conv => whnf
          refine ACalls.mono (works_keep _) ?_; rintro _ _ ⟨rfl, kw⟩; conv => whnf
          exact ⟨rfl, st3.trans (kw.stays (by decide))⟩
      · refine ACmp.no (by omega) ?_; conv => whnf
        refine ACalls.mono (works_keep _) ?_; rintro _ _ ⟨rfl, kw⟩; conv => whnf
        exact ⟨rfl, st3.trans (kw.stays (by decide))⟩
    · rw [hbase] at hb2; cases hb2
  · conv => whnf
    refine ACalls.mono (rNew_c h1 2 (by decide) index term) ?_
    rintro _ h2 (⟨hb2, _⟩ | ⟨_, rfl, s2⟩)
    · rw [hbase] at hb2; cases hb2
    · conv => whnf
      refine ACmp.no (by simp) ?_; conv => whnf
      refine ACmp.yes (by simp) ?_; conv => whnf
      refine ALoop.mk (fun e h' => Stays h h' ∧ ∃ e0, e = updL 203 e0 [(2, .slice la ln lc), (8, I 2), (11, I 0)]) (fun e => 0)
        ⟨s1.stays.trans s2.stays, _, updL_self ⟨rfl, rfl, rfl, trivial⟩⟩ ?_
      rintro e h3 ⟨st3, e0, rfl⟩
      conv => whnf
      by_cases hlt : 0 < ln
      · refine ACmp.yes (by omega) ?_; conv => whnf
        refine ACmp.dec ?_; conv => whnf
        refine ACmp.dec ?_; conv => whnf
        refine ACalls.mono (works_keep _) ?_; rintro _ _ ⟨rfl, kw⟩; conv => whnf
        exact ⟨rfl, st3.trans (kw.stays (by decide))⟩
      · refine ACmp.no (by omega) ?_; conv => whnf
        refine ACalls.mono (works_keep _) ?_; rintro _ _ ⟨rfl, kw⟩; conv => whnf
        exact ⟨rfl, st3.trans (kw.stays (by decide))⟩
end Go.Ah
