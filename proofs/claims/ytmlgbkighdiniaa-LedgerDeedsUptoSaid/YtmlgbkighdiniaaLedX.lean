/- The document's ledger comes to the same model: Slice, Append. -/
import Derived.Test.YtmlgbkighdiniaaLedW
namespace Go.Ah
open Go.Proofs
set_option linter.unusedVariables false
set_option linter.unusedSimpArgs false
set_option maxRecDepth 20000

set_option maxHeartbeats 1000000 in
theorem rSlice_c {h : Heap} {p o : Nat} {L : LG} (l : RL h p o L) (k : LOk L) (tg td : Tag) (ht : tg ≠ (0, 1)) (hd : td ≠ (0, 1)) (hto : tg.1 ≠ o) (htd : td ≠ tg) (i most : Int) (hroom : L.es.length * 48 ≤ 140737488355328) :
    ACalls PR 50 #[.pointer (some ⟨p, 0, none⟩), I i, I most] h (fun v h' => ∃ a n c zs, v = .tuple #[.slice a n c, I (L.slice i most).2] ∧ Ents h' tg td a n c zs ∧ zs.map EH.abs = (L.slice i most).1 ∧ (∀ z ∈ zs, z.n ≤ 1200) ∧ KeepT tg h h' ∧ Own h' tg 34 a n c 4 (encs zs) ∧ ∀ z ∈ zs, z.Mine h' td) := by
  have l' := l
  obtain ⟨es, a, cap, A, hes⟩ := l
  have htop := k.top
  have hlo := k.lo
  have hl : es.length = L.es.length := by rw [← hes]; simp
  have nil : ∀ h' : Heap, Ents h' tg td none 0 0 [] := fun h' => ⟨Sl.nil .., by simp, by simp⟩
  refine acalls_of mix Try.func50 rfl rfl Try.ntmps50 Try.results50 rfl ?_; conv => whnf
  refine ACalls.mono (rReach_c l' k i) ?_; rintro _ _ ⟨rfl, rfl⟩; conv => whnf
  unfold LG.slice
  cases hr : L.reach i with
  | false =>
    conv => whnf
    exact ⟨none, 0, 0, [], rfl, nil _, rfl, by simp, KeepT.refl _ _, .inl ⟨rfl, rfl, rfl⟩, by simp⟩
  | true =>
    conv => whnf
    by_cases c1 : most < 0
    · refine ACmp.yes (c1) ?_; conv => whnf
      refine ⟨none, 0, 0, [], ?_, nil _, ?_, by simp, KeepT.refl _ _, .inl ⟨rfl, rfl, rfl⟩, by simp⟩
      · simp [c1]
      · simp [c1]
    · refine ACmp.no (c1) ?_; conv => whnf
      obtain ⟨j0, hj0, hjl⟩ : ∃ j : Nat, i - L.bi - 1 = j ∧ j ≤ es.length := by
        rw [LG.reach, decide_eq_true_eq] at hr
        exact ⟨(i - L.bi - 1).toNat, by omega, by omega⟩
      refine ACalls.mono (rFirst_c l' k) ?_; rintro _ _ ⟨rfl, rfl⟩; conv => whnf
      refine AArith.ok (by omega) (by omega) ((by omega : i - (L.bi + 1) = (j0 : Int))) ?_; conv => whnf
      obtain ⟨q, hq⟩ : ∃ q : Nat, most = q := ⟨most.toNat, by omega⟩
      subst hq
      generalize hys : es.drop j0 = ys
      have hyl : ys.length = es.length - j0 := by rw [← hys]; simp
      refine ALoop.mk (fun e h' => ∃ e0, ∃ j : Nat, ∃ zs a2 c2, e = updL 47 e0 [(0, .pointer (some ⟨p, 0, none⟩)), (2, I q), (8, .slice a2 j c2), (9, I (j0 + j : Nat))] ∧ j ≤ ys.length ∧ j ≤ q ∧ Own h' tg 34 a2 j c2 4 (encs zs) ∧ zs.map EH.abs = (ys.take j).map EH.abs ∧ (∀ z ∈ zs, z.Mine h' td) ∧ (∀ z ∈ zs, z.n ≤ 1200) ∧ KeepT tg h h')
        (fun e => j0 + ys.length - natOf (e 9)) ⟨_, 0, [], none, 0, updL_self ⟨rfl, rfl, rfl, rfl, trivial⟩, by omega, by omega, .inl ⟨rfl, rfl, rfl⟩, by simp, by simp, by simp, KeepT.refl _ _⟩ ?_
      rintro e h2 ⟨e0, j, zs, a2, c2, rfl, hj, hjq, hown, habs, hgood, hsml, hkeep⟩
      conv => whnf
      have hzl : zs.length = j := by
        have := congrArg List.length habs
        simp at this; omega
      have A2 := A.str
      have str2 := hkeep.get (u := (o, 0)) (fun c => hto (by rw [← c])) A.str
      refine ALoad.one rfl str2 rfl ?_; conv => whnf
      by_cases hjy : j < ys.length
      · refine ACmp.yes (by omega) ?_; conv => whnf
        by_cases hjq2 : j < q
        · refine ACmp.yes (by omega) ?_; conv => whnf
          obtain ⟨y, hy⟩ : ∃ y, ys[j]? = some y := ⟨ys[j]'(by omega), by simp⟩
          have hye : es[j0 + j]? = some y := by rw [← hys, List.getElem?_drop] at hy; exact hy
          have my : y ∈ es := List.mem_of_getElem? hye
          have sl2 := A.own.sl.keepT hkeep (fun c => hto (by rw [← c]))
          obtain ⟨b, off, m, E, fz, rfl, hb, hc⟩ := sl2.pos (by omega)
          have g : (m.drop (off + (j0 + j) * 4)).take 4 = y.cells := by rw [part_of_take hc (by omega), encs_part hye]
          have gy : y.Good h2 (o, 2) := Sl.keepT (A.good y my) hkeep (fun c => hto (by rw [← c]))
          have sy := small_abs k hes A.good y my
          refine ALoad.one rfl str2 rfl ?_; conv => whnf
          refine AIdx.nat (j := j0 + j) rfl (by omega) rfl rfl ?_; conv => whnf
          refine ALoad.agg rfl hb g rfl ?_; conv => whnf
          refine ACalls.mono (copyE_any _ td hd y gy (by omega)) ?_
          rintro v h3 ⟨ax, cx, rfl, hslx, hsub3⟩
          conv => whnf
          refine ABuildSl.mk (0, 1) rfl rfl rfl rfl rfl rfl rfl fun b11 f11 => ?_; conv => whnf
          have s4 := hsub3.trans (f11.sub (row (0, 1) [I y.term, I y.index, I y.kind, .slice ax y.n cx] 34))
          refine AAppend.own (t := tg) (E := 34) (z := 4) (by_ := 48) (zero := [I 0, I 0, I 0, .slice none 0 0]) (tx := (0, 1)) (xs := [I y.term, I y.index, I y.kind, .slice ax y.n cx]) rfl ⟨_, rfl⟩ rfl rfl rfl rfl (by omega) (hown.move fun _ _ z => s4 _ _ z)
            ⟨rfl, Nat.le_refl _, .inr ⟨b11, 0, _, _, _, rfl, Heap.set_same _ _ _, rfl⟩⟩ rfl (by omega) (by omega) fun a5 cap5 h5 hown5 hk5 _ => ?_
          conv => whnf
          refine AArith.ok (by omega) (by omega) ((by omega : ((j0 + j : Nat) : Int) + 1 = ((j0 + (j + 1) : Nat) : Int))) ?_; conv => whnf
          refine ⟨⟨_, j + 1, zs ++ [⟨y.term, y.index, y.kind, ax, y.n, cx, y.data⟩], a5, cap5, updL_self ⟨rfl, rfl, rfl, rfl, trivial⟩, by omega, by omega, ?_, ?_, ?_, ?_, ?_⟩, ?_⟩
          · rw [encs_append, encs_one]; exact hown5
          · rw [List.map_append, habs, List.take_succ_eq_append_getElem (by omega), (List.getElem?_eq_some_iff.1 hy).2]
            simp [EH.abs]
          · intro z hz
            rcases List.mem_append.1 hz with hz | hz
            · exact Own.keepT (Own.sub (hgood z hz) s4) hk5 htd
            · obtain rfl := List.mem_singleton.1 hz
              exact Own.keepT (Own.sub hslx (f11.sub _)) hk5 htd
          · intro z hz
            rcases List.mem_append.1 hz with hz | hz
            · exact hsml z hz
            · obtain rfl := List.mem_singleton.1 hz
              exact sy
          · exact hkeep.trans ((s4.keepT tg).trans hk5)
          · show j0 + ys.length - (j0 + (j + 1)) < j0 + ys.length - (j0 + j)
            omega
        · refine ACmp.no (by omega) ?_; conv => whnf
          refine ⟨a2, j, c2, zs, ?_, ⟨hown.sl, fun z hz => (hgood z hz).sl, fun z hz => by have := hsml z hz; omega⟩, ?_, hsml, hkeep, hown, hgood⟩
          · simp [c1]
          · rw [habs]
            simp only [Bool.true_eq_false, if_false, c1]
            rw [hj0, Int.toNat_natCast, Int.toNat_natCast, ← hes, ← List.map_drop, ← List.map_take, hys]
            congr 1
            rcases Nat.lt_or_ge q ys.length with hlt | hge
            · rw [show j = q by omega]
            · rw [List.take_of_length_le (by omega), List.take_of_length_le (by omega)]
      · refine ACmp.no (by omega) ?_; conv => whnf
        refine ⟨a2, j, c2, zs, ?_, ⟨hown.sl, fun z hz => (hgood z hz).sl, fun z hz => by have := hsml z hz; omega⟩, ?_, hsml, hkeep, hown, hgood⟩
        · simp [c1]
        · rw [habs]
          simp only [Bool.true_eq_false, if_false, c1]
          rw [hj0, Int.toNat_natCast, Int.toNat_natCast, ← hes, ← List.map_drop, ← List.map_take, hys]
          congr 1
          rcases Nat.lt_or_ge q ys.length with hlt | hge
          · rw [show j = q by omega]
          · rw [List.take_of_length_le (by omega), List.take_of_length_le (by omega)]

set_option maxHeartbeats 1000000 in
theorem rAppend_c {h : Heap} {p o : Nat} (ho : o ≠ 0) {L : LG} (l : RL h p o L) (k : LOk L) {t td : Tag} (ht : t.1 ≠ o) (htd : td.1 ≠ o) {xa : Option Addr} {m xc : Nat} {xs : List EH} (X : Ents h t td xa m xc xs)
    (hroom : (L.es.length + m) * 48 ≤ 140737488355328) :
    ACalls PR 20 #[.pointer (some ⟨p, 0, none⟩), .slice xa m xc] h (fun v h' => v = I (L.append (xs.map EH.abs)).1 ∧ RL h' p o (L.append (xs.map EH.abs)).2 ∧ Keep o h h') := by
  have l' := l
  obtain ⟨es, a, cap, A, hes⟩ := l
  have htop := k.top
  have hlo := k.lo
  have hlast := k.last
  have hl : es.length = L.es.length := by rw [← hes]; simp
  have hxl := X.len
  refine acalls_of mix Try.func20 rfl rfl Try.ntmps20 Try.results20 rfl ?_; conv => whnf
  refine ACalls.mono (rLast_c l' k) ?_; rintro _ _ ⟨rfl, rfl⟩; conv => whnf
  -- the first loop: is one wrong?
  refine ALoop.mk (fun e h' => h = h' ∧ ∃ e0, ∃ j : Nat, ∃ mk : Int × Int, e = updL 71 e0 [(0, .pointer (some ⟨p, 0, none⟩)), (1, .slice xa m xc), (5, I mk.1), (6, I mk.2), (7, I j)] ∧ j ≤ m ∧
      aapp L.last (xs.map EH.abs) = aapp mk ((xs.drop j).map EH.abs) ∧ 0 ≤ mk.1 ∧ mk.1 ≤ 9007199254740991)
      (fun e => m - natOf (e 7)) ⟨rfl, _, 0, L.last, updL_self ⟨rfl, rfl, rfl, rfl, rfl, trivial⟩, by omega, by simp, by omega, by omega⟩ ?_
  rintro e h1 ⟨rfl, e0, j, mk, rfl, hj, happ, hm0, hm1⟩
  conv => whnf
  by_cases hjm : j < m
  · refine ACmp.yes (by omega) ?_; conv => whnf
    obtain ⟨bx, off, ml, E, fz, rfl, hb, hc⟩ := X.sl.pos (by omega)
    obtain ⟨x, hx⟩ : ∃ x, xs[j]? = some x := ⟨xs[j]'(by omega), by simp⟩
    have mx : x ∈ xs := List.mem_of_getElem? hx
    have hn : x.data.length = x.n := (X.good x mx).len
    have g : (ml.drop (off + j * 4)).take 4 = x.cells := by rw [part_of_take hc (by omega), encs_part hx]
    have g0 : ml[off + j * 4]? = some (I x.term) := by rw [get_of_take hc (by omega)]; exact (encs_get (j := 0) hx (by omega))
    have g1 : ml[off + j * 4 + 1]? = some (I x.index) := by rw [Nat.add_assoc, get_of_take hc (by omega)]; exact (encs_get (j := 1) hx (by omega))
    have hdrop : xs.drop j = x :: xs.drop (j + 1) := by
      have := List.drop_eq_getElem_cons (show j < xs.length by omega)
      rw [this, (List.getElem?_eq_some_iff.1 hx).2]
    rw [hdrop, List.map_cons, aapp] at happ
    have hck : achk x.abs mk = if may x = false then 2 else if x.index ≠ mk.1 + 1 then 170 else if x.term < mk.2 then 2 else 0 := by
      unfold achk
      rw [show x.abs.2.2.2.length = x.n from hn]
      have : (isNum x.abs.1 = false ∨ isNum x.abs.2.1 = false ∨ x.abs.2.2.1 < 0 ∨ 2 < x.abs.2.2.1 ∨ 1200 < x.n) ↔ may x = false := by
        simp only [may, EH.abs, Bool.and_eq_false_iff, decide_eq_false_iff_not, Int.not_le, Nat.not_le]
        constructor <;> intro hh <;> simp only [or_assoc] at hh ⊢ <;> exact hh
      by_cases hm : may x = false
      · rw [if_pos hm, if_pos (this.2 hm)]
      · rw [if_neg hm, if_neg (fun hc => hm (this.1 hc))]; rfl
    refine AIdx.nat rfl hjm rfl rfl ?_; conv => whnf
    refine ALoad.agg rfl hb g rfl ?_; conv => whnf
    refine ACalls.mono (May_any _ x) ?_; rintro _ _ ⟨rfl, rfl⟩; conv => whnf
    cases hmy : may x with
    | false =>
      have hcv : achk x.abs mk = 2 := by rw [hck, if_pos hmy]
      conv => whnf
      have hbad : ¬ aapp L.last (xs.map EH.abs) = 0 := by rw [happ, if_neg (by rw [hcv]; decide), hcv]; decide
      unfold LG.append
      rw [if_neg hbad]
      refine ⟨?_, l', Keep.refl _ _⟩
      rw [happ, if_neg (by rw [hcv]; decide), hcv]
    | true =>
      conv => whnf
      refine AIdx.nat rfl hjm rfl rfl ?_; conv => whnf
      refine ALoad.one rfl hb g1 ?_; conv => whnf
      refine AArith.ok (by omega) (by omega) (rfl) ?_; conv => whnf
      by_cases c2 : x.index = mk.1 + 1
      · refine ACmp.no (by omega) ?_; conv => whnf
        refine AIdx.nat rfl hjm rfl rfl ?_; conv => whnf
        refine ALoad.one rfl hb g0 ?_; conv => whnf
        by_cases c3 : x.term < mk.2
        · refine ACmp.yes (c3) ?_; conv => whnf
          have hcv : achk x.abs mk = 2 := by rw [hck, if_neg (by rw [hmy]; decide), if_neg (by omega), if_pos c3]
          have hbad : ¬ aapp L.last (xs.map EH.abs) = 0 := by rw [happ, if_neg (by rw [hcv]; decide), hcv]; decide
          unfold LG.append
          rw [if_neg hbad]
          refine ⟨?_, l', Keep.refl _ _⟩
          rw [happ, if_neg (by rw [hcv]; decide), hcv]
        · refine ACmp.no (c3) ?_; conv => whnf
          have hcv : achk x.abs mk = 0 := by rw [hck, if_neg (by rw [hmy]; decide), if_neg (by omega), if_neg c3]
          rw [if_pos hcv] at happ
          refine AIdx.nat rfl hjm rfl rfl ?_; conv => whnf
          refine ALoad.one rfl hb g1 ?_; conv => whnf
          refine AIdx.nat rfl hjm rfl rfl ?_; conv => whnf
          refine ALoad.one rfl hb g0 ?_; conv => whnf
          refine AArith.ok (by omega) (by omega) ((by omega : (j : Int) + 1 = ((j + 1 : Nat) : Int))) ?_; conv => whnf
          have hz := achk_zero hcv
          have z2 := isNum_iff.1 hz.2.1
          simp only [EH.abs] at z2
          refine ⟨⟨rfl, _, j + 1, (x.index, x.term), updL_self ⟨rfl, rfl, rfl, rfl, rfl, trivial⟩, by omega, happ, by simp only []; omega, by simp only []; omega⟩, ?_⟩
          show m - (j + 1) < m - j
          omega
      · refine ACmp.yes (by omega) ?_; conv => whnf
        have hcv : achk x.abs mk = 170 := by rw [hck, if_neg (by rw [hmy]; decide), if_pos c2]
        have hbad : ¬ aapp L.last (xs.map EH.abs) = 0 := by rw [happ, if_neg (by rw [hcv]; decide), hcv]; decide
        unfold LG.append
        rw [if_neg hbad]
        refine ⟨?_, l', Keep.refl _ _⟩
        rw [happ, if_neg (by rw [hcv]; decide), hcv]
  · refine ACmp.no (by omega) ?_; conv => whnf
    obtain rfl : j = m := by omega
    have hall : aapp L.last (xs.map EH.abs) = 0 := by rw [happ, List.drop_of_length_le (by omega)]; rfl
    have hok := aapp_ok (xs.map EH.abs) L.last (by omega) hall
    have hsmall : ∀ x ∈ xs, x.n ≤ 1200 := fun x hx => by
      have := hok.2.2 x.abs (List.mem_map_of_mem hx)
      rw [← (X.good x hx).len]; exact this
    unfold LG.append
    rw [if_pos hall]
    -- the second loop: each is put behind
    refine ALoop.mk (fun e h' => ∃ e0, ∃ k2 : Nat, ∃ es2 a2 cap2, e = updL 71 e0 [(0, .pointer (some ⟨p, 0, none⟩)), (1, .slice xa j xc), (8, I k2)] ∧ k2 ≤ j ∧
      RLedAt h' p o L.bi L.bt es2 a2 cap2 ∧ es2.map EH.abs = (es ++ xs.take k2).map EH.abs ∧ Keep o h h')
      (fun e => j - natOf (e 8)) ⟨_, 0, es, a, cap, updL_self ⟨rfl, rfl, rfl, trivial⟩, by omega, A, by simp, Keep.refl _ _⟩ ?_
    rintro e h2 ⟨e0, k2, es2, a2, cap2, rfl, hk2, L2, habs, hkeep⟩
    conv => whnf
    have hlen2 : es2.length = es.length + k2 := by
      have := congrArg List.length habs
      simp at this; omega
    by_cases hkm2 : k2 < j
    · refine ACmp.yes (by omega) ?_; conv => whnf
      have X2 := X.keep hkeep ht htd
      obtain ⟨bx, off, ml, E, fz, rfl, hb, hc⟩ := X2.sl.pos (by omega)
      obtain ⟨x, hx⟩ : ∃ x, xs[k2]? = some x := ⟨xs[k2]'(by omega), by simp⟩
      have mx : x ∈ xs := List.mem_of_getElem? hx
      have g : (ml.drop (off + k2 * 4)).take 4 = x.cells := by rw [part_of_take hc (by omega), encs_part hx]
      refine ADrawn.mk (two h2 p bx) [14] (two_sub _ _ _) (by decide +kernel) ?_; conv => whnf
      refine ALoad.one rfl ((two_l _ _ _).trans L2.str) rfl ?_; conv => whnf
      refine AIdx.nat rfl hkm2 rfl rfl ?_; conv => whnf
      refine ALoad.agg rfl ((two_r _ _ _).trans hb) g rfl ?_; conv => whnf
      refine ACalls.mono (copyE_any _ (o, 2) (by simp [ho]) x (X2.good x mx) (by have := hsmall x mx; omega)) ?_
      rintro v h3 ⟨ax, cx, rfl, hslx, hsub3⟩
      refine ⟨(two_sub _ _ _).trans hsub3, ?_⟩
      conv => whnf
      refine ABuildSl.mk (0, 1) rfl rfl rfl rfl rfl rfl rfl fun b11 f11 => ?_; conv => whnf
      have s4 := hsub3.trans (f11.sub (row (0, 1) [I x.term, I x.index, I x.kind, .slice ax x.n cx] 34))
      refine ⟨(two_sub _ _ _).trans s4, ?_⟩
      conv => whnf
      refine AAppend.own (t := (o, 1)) (E := 34) (z := 4) (by_ := 48) (zero := [I 0, I 0, I 0, .slice none 0 0]) (tx := (0, 1)) (xs := [I x.term, I x.index, I x.kind, .slice ax x.n cx]) rfl ⟨_, rfl⟩ rfl rfl rfl rfl (by omega) (L2.own.move fun _ _ y => s4 _ _ y)
        ⟨rfl, Nat.le_refl _, .inr ⟨b11, 0, _, _, _, rfl, Heap.set_same _ _ _, rfl⟩⟩ rfl (by omega) (by omega) fun a5 cap5 h5 hown5 hk5 _ => ?_
      have hp5 := hk5.get (u := (o, 0)) (by simp) (s4 _ _ L2.str)
      have hb5 := hk5.get (u := t) (fun c => ht (by rw [c])) (s4 _ _ hb)
      conv => whnf
      refine ⟨two_get (fun y hy => ?_) (fun y hy => ?_), ?_⟩
      · rw [L2.str] at hy; cases hy; exact hp5
      · rw [hb] at hy; cases hy; exact hb5
      conv => whnf
      refine AStore.one' rfl rfl rfl hp5 rfl ?_; conv => whnf
      refine AArith.ok (by omega) (by omega) ((by omega : (k2 : Int) + 1 = ((k2 + 1 : Nat) : Int))) ?_; conv => whnf
      refine ⟨⟨_, k2 + 1, es2 ++ [⟨x.term, x.index, x.kind, ax, x.n, cx, x.data⟩], a5, cap5, updL_self ⟨rfl, rfl, rfl, trivial⟩, by omega, ⟨?_, ?_, ?_⟩, ?_, ?_⟩, ?_⟩
      · rw [List.length_append]; exact Heap.set_same _ _ _
      · rw [List.length_append, encs_append, encs_one]
        exact hown5.keepT (KeepT.set hp5) (by simp)
      · intro y hy
        rcases List.mem_append.1 hy with hy | hy
        · exact Sl.keepT (Sl.keepT (Sl.sub (L2.good y hy) s4) hk5 (by simp)) (KeepT.set hp5) (by simp)
        · obtain rfl := List.mem_singleton.1 hy
          exact Sl.keepT (Sl.keepT (Sl.sub hslx.sl (f11.sub _)) hk5 (by simp)) (KeepT.set hp5) (by simp)
      · rw [List.map_append, habs, List.take_succ_eq_append_getElem (by omega), (List.getElem?_eq_some_iff.1 hx).2]
        simp [EH.abs]
      · exact (hkeep.trans (s4.keep o)).trans (hk5.keep.trans (KeepT.set hp5).keep)
      · show j - (k2 + 1) < j - k2
        omega
    · refine ACmp.no (by omega) ?_; conv => whnf
      obtain rfl : k2 = j := by omega
      refine ⟨rfl, ⟨es2, a2, cap2, L2, ?_⟩, hkeep⟩
      rw [habs, List.take_of_length_le (by omega), List.map_append, hes]
end Go.Ah
