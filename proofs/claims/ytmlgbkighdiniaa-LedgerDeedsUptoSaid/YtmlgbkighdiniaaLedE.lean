/- Walks of package ledger: Append, Cut, Slice, Compact. -/
import Derived.Test.YtmlgbkighdiniaaLedD
namespace Go.Ah
open Go.Proofs
set_option linter.unusedVariables false
set_option linter.unusedSimpArgs false

theorem LedAt.keep {h h' : Heap} {p o q : Nat} {bi bt : Int} {es : List EH} {a : Option Addr} {cap : Nat} (L : LedAt h p o bi bt es a cap) (k : Keep q h h') (n : o ≠ q) : LedAt h' p o bi bt es a cap :=
  ⟨k _ _ _ n L.str, L.own.move fun _ _ x => k _ _ _ n x, fun e he => Sl.keep (L.good e he) k n, L.small⟩
theorem LedAt.sub {h h' : Heap} {p o : Nat} {bi bt : Int} {es : List EH} {a : Option Addr} {cap : Nat} (L : LedAt h p o bi bt es a cap) (k : Sub h h') : LedAt h' p o bi bt es a cap :=
  ⟨k _ _ L.str, L.own.move fun _ _ x => k _ _ x, fun e he => Sl.sub (L.good e he) k, L.small⟩
theorem Ents.keep {h h' : Heap} {q : Nat} {t td : Tag} {a : Option Addr} {n c : Nat} {es : List EH} (s : Ents h t td a n c es) (k : Keep q h h') (n1 : t.1 ≠ q) (n2 : td.1 ≠ q) : Ents h' t td a n c es :=
  ⟨s.sl.keep k n1, fun e he => Sl.keep (s.good e he) k n2, s.small⟩

/-- what appending comes to, from a mark on -/
def app (m : Int × Int) : List EH → Int
  | [] => 0
  | x :: r => if chk x m = 0 then app (x.index, x.term) r else chk x m

theorem chk_zero {e : EH} {m : Int × Int} (h : chk e m = 0) : isNum e.term = true ∧ isNum e.index = true ∧ 0 ≤ e.kind ∧ e.kind ≤ 2 ∧ e.n ≤ 1200 ∧ e.index = m.1 + 1 ∧ m.2 ≤ e.term := by
  unfold chk at h
  split at h
  · cases h
  · rename_i c
    split at h
    · cases h
    · split at h
      · cases h
      · refine ⟨?_, ?_, ?_, ?_, ?_, ?_, ?_⟩
        · cases hh : isNum e.term with
          | true => rfl
          | false => exact absurd (.inl hh) c
        · cases hh : isNum e.index with
          | true => rfl
          | false => exact absurd (.inr (.inl hh)) c
        · exact Int.not_lt.1 fun hh => c (.inr (.inr (.inl hh)))
        · exact Int.not_lt.1 fun hh => c (.inr (.inr (.inr (.inl hh))))
        · exact Nat.not_lt.1 fun hh => c (.inr (.inr (.inr (.inr hh))))
        · omega
        · omega
theorem isNum_iff {n : Int} : isNum n = true ↔ 1 ≤ n ∧ n ≤ 9007199254740991 := by simp [isNum]

theorem encs_one (e : EH) : encs [e] = e.cells := by simp [encs]

def two (h : Heap) (p q : Nat) : Heap := fun c => if c = p ∨ c = q then h c else none
theorem two_sub (h : Heap) (p q : Nat) : Sub (two h p q) h := by
  intro c x e; unfold two at e; split at e
  · exact e
  · cases e
theorem two_get {h h' : Heap} {p q : Nat} (k : ∀ x, h p = some x → h' p = some x) (k' : ∀ x, h q = some x → h' q = some x) : Sub (two h p q) h' := by
  intro c x e; unfold two at e; split at e
  · rename_i hc; rcases hc with rfl | rfl
    · exact k _ e
    · exact k' _ e
  · cases e
theorem two_l (h : Heap) (p q : Nat) : two h p q p = h p := by simp [two]
theorem two_r (h : Heap) (p q : Nat) : two h p q q = h q := by simp [two]

theorem app_small : ∀ (xs : List EH) (m : Int × Int), app m xs = 0 → ∀ x ∈ xs, x.n ≤ 1200
  | [], _, _, x, hx => by cases hx
  | y :: r, m, h, x, hx => by
    unfold app at h
    split at h
    · rename_i hz
      rcases List.mem_cons.1 hx with rfl | hx
      · exact (chk_zero hz).2.2.2.2.1
      · exact app_small r _ h x hx
    · rename_i hz; exact absurd h hz

set_option maxHeartbeats 1000000 in
theorem Append_any {h : Heap} {p o : Nat} (ho : o ≠ 0) {bi bt : Int} {es : List EH} {a : Option Addr} {cap : Nat} (L : LedAt h p o bi bt es a cap) (S : Seq bi es)
    {t td : Tag} (ht : t.1 ≠ o) (htd : td.1 ≠ o) {xa : Option Addr} {m xc : Nat} {xs : List EH} (X : Ents h t td xa m xc xs) (hroom : (es.length + m) * 48 ≤ 140737488355328) :
    ACalls PR 15 #[.pointer (some ⟨p, 0, none⟩), .slice xa m xc] h (fun v h' => (app (lastM bi bt es) xs ≠ 0 ∧ v = I (app (lastM bi bt es) xs) ∧ Sub h h') ∨
      (app (lastM bi bt es) xs = 0 ∧ v = I 0 ∧ ∃ es' a' cap', LedAt h' p o bi bt es' a' cap' ∧ es'.map EH.abs = (es ++ xs).map EH.abs ∧ Keep o h h')) := by
  have hlast := S.last (bt := bt)
  have hlo := S.lo
  have htop := S.top
  have hxl := X.len
  refine acalls_of mix Try.func15 rfl rfl Try.ntmps15 Try.results15 rfl ?_; conv => whnf
  refine ACalls.mono (none_any _ p _ _ _ L.str) ?_; rintro _ _ ⟨rfl, rfl⟩; conv => whnf
  refine ACalls.mono (last_any _ p o bi bt es a cap L (by omega)) ?_; rintro _ _ ⟨rfl, rfl⟩; conv => whnf
  refine AAlloc.mk (0, 1) rfl fun b5 f5 => ?_; conv => whnf
  refine AStore.agg' rfl rfl rfl (Heap.set_same _ _ _) rfl ?_; conv => whnf
  rw [Heap.set_set]
  have s5 := f5.sub (row (0, 1) [I (lastM bi bt es).1, I (lastM bi bt es).2] 66)
  have hp5 : h b5 = none := f5.none
  -- the first loop: is one wrong?
  refine ALoop.mk (fun e h' => Sub h h' ∧ ∃ e0, ∃ k : Nat, ∃ mk : Int × Int, e = updL 51 e0 [(0, .pointer (some ⟨p, 0, none⟩)), (1, .slice xa m xc), (5, .pointer (some ⟨b5, 0, none⟩)), (15, .slice xa m xc), (16, I m), (17, I k)] ∧ k ≤ m ∧
      h' b5 = some (row (0, 1) [I mk.1, I mk.2] 66) ∧ app (lastM bi bt es) xs = app mk (xs.drop k) ∧ 0 ≤ mk.1 ∧ mk.1 ≤ 9007199254740991)
      (fun e => m - natOf (e 17)) ⟨s5, _, 0, lastM bi bt es, updL_self ⟨rfl, rfl, rfl, rfl, rfl, rfl, trivial⟩, by omega, Heap.set_same _ _ _, by simp, by omega, by omega⟩ ?_
  rintro e h1 ⟨sh, e0, k, mk, rfl, hk, hb5, happ, hm0, hm1⟩
  conv => whnf
  by_cases hkm : k < m
  · refine ACmp.yes (by omega) ?_; conv => whnf
    obtain ⟨bx, off, l, E, fz, rfl, hb, hc⟩ := X.sl.pos (by omega)
    obtain ⟨x, hx⟩ : ∃ x, xs[k]? = some x := ⟨xs[k]'(by omega), by simp⟩
    have mx : x ∈ xs := List.mem_of_getElem? hx
    have g : (l.drop (off + k * 4)).take 4 = x.cells := by rw [part_of_take hc (by omega), encs_part hx]
    have hdrop : xs.drop k = x :: xs.drop (k + 1) := by
      have := List.drop_eq_getElem_cons (show k < xs.length by omega)
      rw [this, (List.getElem?_eq_some_iff.1 hx).2]
    refine AIdx.nat rfl hkm rfl rfl ?_; conv => whnf
    refine ALoad.agg rfl (sh _ _ hb) g rfl ?_; conv => whnf
    refine AAlloc.mk (0, 1) rfl fun b7 f7 => ?_; conv => whnf
    refine AStore.agg' rfl rfl rfl (Heap.set_same _ _ _) rfl ?_; conv => whnf
    rw [Heap.set_set]
    refine ALoad.agg rfl (Heap.set_same _ _ _) rfl rfl ?_; conv => whnf
    have hb5' := f7.sub (row (0, 1) [I x.term, I x.index, I x.kind, .slice x.a x.n x.c] 34) _ _ hb5
    refine ALoad.agg rfl hb5' rfl rfl ?_; conv => whnf
    refine ACalls.mono (check_any _ x mk hm0 (by omega)) ?_; rintro _ _ ⟨rfl, rfl⟩; conv => whnf
    by_cases hz : chk x mk = 0
    · rw [hz]
      conv => whnf
      refine ACmp.no (by simp) ?_; conv => whnf
      refine ALoad.one rfl (Heap.set_same _ _ _) rfl ?_; conv => whnf
      refine ALoad.one rfl (Heap.set_same _ _ _) rfl ?_; conv => whnf
      refine AStore.agg' rfl rfl rfl hb5' rfl ?_; conv => whnf
      refine AArith.ok (by omega) (by omega) ((by omega : (k : Int) + 1 = ((k + 1 : Nat) : Int))) ?_; conv => whnf
      obtain ⟨z1, z2, z3, z4, z5, z6, z7⟩ := chk_zero hz
      have z2 := isNum_iff.1 z2
      refine ⟨⟨((sh.trans (f7.sub _)).set hp5 _), _, k + 1, (x.index, x.term), updL_self ⟨rfl, rfl, rfl, rfl, rfl, rfl, trivial⟩, by omega, Heap.set_same _ _ _, ?_, by omega, by omega⟩, ?_⟩
      · rw [happ, hdrop, app, if_pos hz]
      · show m - (k + 1) < m - k
        omega
    · refine ACmp.yes (hz) ?_; conv => whnf
      have : app (lastM bi bt es) xs = chk x mk := by rw [happ, hdrop, app, if_neg hz]
      exact .inl ⟨by rw [this]; exact hz, by rw [this], sh.trans (f7.sub _)⟩
  · refine ACmp.no (by omega) ?_; conv => whnf
    obtain rfl : k = m := by omega
    have hall : app (lastM bi bt es) xs = 0 := by rw [happ, List.drop_of_length_le (by omega)]; rfl
    have hsmall := app_small xs _ hall
    -- the second loop: each is put behind
    refine ALoop.mk (fun e h' => ∃ e0, ∃ k2 : Nat, ∃ es2 a2 cap2, e = updL 51 e0 [(0, .pointer (some ⟨p, 0, none⟩)), (33, .slice xa k xc), (34, I k), (35, I k2)] ∧ k2 ≤ k ∧
      LedAt h' p o bi bt es2 a2 cap2 ∧ es2.map EH.abs = (es ++ xs.take k2).map EH.abs ∧ Keep o h h')
      (fun e => k - natOf (e 35)) ⟨_, 0, es, a, cap, updL_self ⟨rfl, rfl, rfl, rfl, trivial⟩, by omega, L.sub sh, by simp, sh.keep o⟩ ?_
    rintro e h2 ⟨e0, k2, es2, a2, cap2, rfl, hk2, L2, habs, hkeep⟩
    conv => whnf
    have hlen2 : es2.length = es.length + k2 := by
      have := congrArg List.length habs
      simp at this; omega
    by_cases hkm2 : k2 < k
    · refine ACmp.yes (by omega) ?_; conv => whnf
      have X2 := X.keep hkeep ht htd
      obtain ⟨bx, off, l, E, fz, rfl, hb, hc⟩ := X2.sl.pos (by omega)
      obtain ⟨x, hx⟩ : ∃ x, xs[k2]? = some x := ⟨xs[k2]'(by omega), by simp⟩
      have mx : x ∈ xs := List.mem_of_getElem? hx
      have g : (l.drop (off + k2 * 4)).take 4 = x.cells := by rw [part_of_take hc (by omega), encs_part hx]
      refine AIdx.nat rfl hkm2 rfl rfl ?_; conv => whnf
      refine ALoad.agg rfl hb g rfl ?_; conv => whnf
      refine AAlloc.mk (0, 1) rfl fun b10 f10 => ?_; conv => whnf
      refine AStore.agg' rfl rfl rfl (Heap.set_same _ _ _) rfl ?_; conv => whnf
      rw [Heap.set_set]
      have s10 := f10.sub (row (0, 1) [I x.term, I x.index, I x.kind, .slice x.a x.n x.c] 34)
      have k10 := Heap.set_same h2 b10 (row (0, 1) [I x.term, I x.index, I x.kind, .slice x.a x.n x.c] 34)
      refine ADrawn.mk (two _ p b10) [11] (two_sub _ _ _) (by decide +kernel) ?_; conv => whnf
      refine ALoad.one rfl ((two_l _ _ _).trans (s10 _ _ L2.str)) rfl ?_; conv => whnf
      refine ALoad.agg rfl ((two_r _ _ _).trans k10) rfl rfl ?_; conv => whnf
      refine ACalls.mono (own_any _ (o, 2) (by simp [ho]) x (Sl.sub (X2.good x mx) s10) (by have := hsmall x mx; omega)) ?_
      rintro v h3 ⟨ax, cx, rfl, hslx, hsub3⟩
      refine ⟨(two_sub _ _ _).trans hsub3, ?_⟩
      conv => whnf
      refine ABuildSl.mk (0, 1) rfl rfl rfl rfl rfl rfl rfl fun b11 f11 => ?_; conv => whnf
      have s4 := s10.trans (hsub3.trans (f11.sub (row (0, 1) [I x.term, I x.index, I x.kind, .slice ax x.n cx] 34)))
      refine ⟨(two_sub _ _ _).trans (hsub3.trans (f11.sub _)), ?_⟩
      conv => whnf
      refine AAppend.own (t := (o, 1)) (E := 34) (z := 4) (by_ := 48) (zero := [I 0, I 0, I 0, .slice none 0 0]) (tx := (0, 1)) (xs := [I x.term, I x.index, I x.kind, .slice ax x.n cx]) rfl ⟨_, rfl⟩ rfl rfl rfl rfl (by omega) (L2.own.move fun _ _ y => s4 _ _ y)
        ⟨rfl, Nat.le_refl _, .inr ⟨b11, 0, _, _, _, rfl, Heap.set_same _ _ _, rfl⟩⟩ rfl (by omega) (by omega) fun a5 cap5 h5 hown5 hk5 _ => ?_
      have hp5 := hk5.get (u := (o, 0)) (by simp) (s4 _ _ L2.str)
      have hb10 := hk5.get (u := (0, 1)) (by simp; omega) ((hsub3.trans (f11.sub (row (0, 1) [I x.term, I x.index, I x.kind, .slice ax x.n cx] 34))) _ _ k10)
      conv => whnf
      refine ⟨two_get (fun y hy => ?_) (fun y hy => ?_), ?_⟩
      · have := s10 _ _ L2.str
        rw [this] at hy; cases hy; exact hp5
      · rw [k10] at hy; cases hy; exact hb10
      conv => whnf
      refine AStore.one' rfl rfl rfl hp5 rfl ?_; conv => whnf
      refine AArith.ok (by omega) (by omega) ((by omega : (k2 : Int) + 1 = ((k2 + 1 : Nat) : Int))) ?_; conv => whnf
      refine ⟨⟨_, k2 + 1, es2 ++ [⟨x.term, x.index, x.kind, ax, x.n, cx, x.data⟩], a5, cap5, updL_self ⟨rfl, rfl, rfl, rfl, trivial⟩, by omega, ⟨?_, ?_, ?_, ?_⟩, ?_, ?_⟩, ?_⟩
      · rw [List.length_append]; exact Heap.set_same _ _ _
      · rw [List.length_append, encs_append, encs_one]
        exact hown5.keepT (KeepT.set hp5) (by simp)
      · intro y hy
        rcases List.mem_append.1 hy with hy | hy
        · exact Sl.keepT (Sl.keepT (Sl.sub (L2.good y hy) s4) hk5 (by simp)) (KeepT.set hp5) (by simp)
        · obtain rfl := List.mem_singleton.1 hy
          exact Sl.keepT (Sl.keepT (Sl.sub hslx.sl (f11.sub _)) hk5 (by simp)) (KeepT.set hp5) (by simp)
      · intro y hy
        rcases List.mem_append.1 hy with hy | hy
        · exact L2.small y hy
        · obtain rfl := List.mem_singleton.1 hy
          exact hsmall x mx
      · rw [List.map_append, habs, List.take_succ_eq_append_getElem (by omega), (List.getElem?_eq_some_iff.1 hx).2]
        simp [EH.abs]
      · exact (hkeep.trans (s4.keep o)).trans (hk5.keep.trans (KeepT.set hp5).keep)
      · show k - (k2 + 1) < k - k2
        omega
    · refine ACmp.no (by omega) ?_; conv => whnf
      obtain rfl : k2 = k := by omega
      refine .inr ⟨hall, rfl, es2, a2, cap2, L2, ?_, hkeep⟩
      rw [habs, List.take_of_length_le (by omega)]
end Go.Ah
