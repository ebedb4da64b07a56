/- The ledger of the statements: filled. -/
import Derived.Test.YtmlgbkighdiniaaLedH
namespace Go.Ah
open Go.Proofs
set_option linter.unusedVariables false
set_option linter.unusedSimpArgs false

/-- What is of owners not named stays. -/
def Keeps (os : List Nat) (h h' : Heap) : Prop := ∀ b (t : Tag) x, t.1 ∉ os → h b = some (t, x) → h' b = some (t, x)
theorem Keeps.refl (os : List Nat) (h : Heap) : Keeps os h h := fun _ _ _ _ x => x
theorem Keeps.trans {os : List Nat} {a b c : Heap} (x : Keeps os a b) (y : Keeps os b c) : Keeps os a c := fun _ _ _ n z => y _ _ _ n (x _ _ _ n z)
theorem Sub.keeps {h h' : Heap} (s : Sub h h') (os : List Nat) : Keeps os h h' := fun _ _ _ _ x => s _ _ x
theorem Keep.keeps {o : Nat} {os : List Nat} {h h' : Heap} (k : Keep o h h') (m : o ∈ os) : Keeps os h h' := fun _ _ _ n x => k _ _ _ (fun c => n (c ▸ m)) x
theorem Keeps.stays {os : List Nat} {h h' : Heap} (k : Keeps os h h') (n : 0 ∉ os) : Stays h h' := fun _ _ x => k _ _ _ n x
theorem Sl.keeps {h h' : Heap} {t : Tag} {os : List Nat} {a : Option Addr} {n cap z : Nat} {cs : List Value} (s : Sl h t a n cap z cs) (k : Keeps os h h') (ho : t.1 ∉ os) : Sl h' t a n cap z cs := s.move fun _ _ e => k _ _ _ ho e
theorem Ents.keeps {h h' : Heap} {os : List Nat} {t td : Tag} {a : Option Addr} {n c : Nat} {es : List EH} (s : Ents h t td a n c es) (k : Keeps os h h') (n1 : t.1 ∉ os) (n2 : td.1 ∉ os) : Ents h' t td a n c es :=
  ⟨s.sl.keeps k n1, fun e he => Sl.keeps (s.good e he) k n2, s.small⟩
theorem LedAt.keeps {h h' : Heap} {os : List Nat} {p o : Nat} {bi bt : Int} {es : List EH} {a : Option Addr} {cap : Nat} (L : LedAt h p o bi bt es a cap) (k : Keeps os h h') (n : o ∉ os) : LedAt h' p o bi bt es a cap :=
  ⟨k _ _ _ n L.str, L.own.move fun _ _ x => k _ _ _ n x, fun e he => Sl.keeps (L.good e he) k n, L.small⟩

/-! ### the entries of the statements -/
def tm (zs : List Int) : Nat → Int
  | 0 => 1
  | k + 1 => match zs[k]? with
    | some z => tm zs k + bring z 4
    | none => tm zs k
theorem tm_bd (zs : List Int) : ∀ k : Nat, 1 ≤ tm zs k ∧ tm zs k ≤ 1 + 3 * k
  | 0 => by simp [tm]
  | k + 1 => by
    have := tm_bd zs k
    unfold tm
    cases zs[k]? with
    | none => simp only []; omega
    | some z =>
      have h1 := bring_lo z 4
      have h2 := bring_hi (i := z) (n := 4) (by omega)
      simp only []; omega
theorem tm_mono (zs : List Int) (k : Nat) : tm zs k ≤ tm zs (k + 1) := by
  conv => rhs; unfold tm
  cases zs[k]? with
  | none => simp
  | some z => have h1 := bring_lo z 4; simp only []; omega

abbrev Abs := Int × Int × Int × List Int
def entA (zs : List Int) (i : Nat) : Abs := (tm zs (i + 1), (i : Int) + 1, 1, [b8 ((i : Int) + 1), b8 (tm zs (i + 1))])
def entsA (zs : List Int) (n : Nat) : List Abs := (List.range n).map (entA zs)
theorem entsA_len (zs : List Int) (n : Nat) : (entsA zs n).length = n := by simp [entsA]
theorem entsA_succ (zs : List Int) (n : Nat) : entsA zs (n + 1) = entsA zs n ++ [entA zs n] := by simp [entsA, List.range_succ]
theorem entsA_get (zs : List Int) {n k : Nat} (h : k < n) : (entsA zs n)[k]? = some (entA zs k) := by simp [entsA, h]

theorem get_entsA {xs : List EH} {zs : List Int} {n : Nat} (h : xs.map EH.abs = entsA zs n) {k : Nat} {x : EH} (hx : xs[k]? = some x) : x.abs = entA zs k ∧ k < n := by
  have hl : xs.length = n := by have := congrArg List.length h; simpa [entsA_len] using this
  have hk := (List.getElem?_eq_some_iff.1 hx).1
  have := congrArg (fun l => l[k]?) h
  simp only [List.getElem?_map, hx, Option.map_some] at this
  rw [entsA_get zs (by omega)] at this
  exact ⟨by simpa using this, by omega⟩

/-- Entries in sequence of which none is wrong. -/
theorem app_zero : ∀ (xs : List EH) (m : Int × Int),
    (∀ (k : Nat) x, xs[k]? = some x → isNum x.term = true ∧ isNum x.index = true ∧ 0 ≤ x.kind ∧ x.kind ≤ 2 ∧ x.n ≤ 1200 ∧ x.index = m.1 + 1 + k) →
    (∀ x, xs[0]? = some x → m.2 ≤ x.term) → (∀ (k : Nat) x y, xs[k]? = some x → xs[k + 1]? = some y → x.term ≤ y.term) → app m xs = 0
  | [], m, _, _, _ => rfl
  | x :: r, m, h1, h2, h3 => by
    obtain ⟨c1, c2, c3, c4, c5, c6⟩ := h1 0 x rfl
    have hz : chk x m = 0 := by
      unfold chk
      rw [if_neg, if_neg (by omega), if_neg (by have := h2 x rfl; omega)]
      rintro (c | c | c | c | c)
      · rw [c1] at c; cases c
      · rw [c2] at c; cases c
      · omega
      · omega
      · omega
    rw [app, if_pos hz]
    refine app_zero r _ (fun k y hy => ?_) (fun y hy => h3 0 x y rfl hy) (fun k y z hy hz' => h3 (k + 1) y z hy hz')
    obtain ⟨d1, d2, d3, d4, d5, d6⟩ := h1 (k + 1) y hy
    exact ⟨d1, d2, d3, d4, d5, by simp only []; omega⟩

theorem app_entsA {xs : List EH} {zs : List Int} {n : Nat} (h : xs.map EH.abs = entsA zs n) (hn : n ≤ 60) (hs : ∀ e ∈ xs, e.n ≤ 1200) : app (0, 0) xs = 0 := by
  refine app_zero xs _ (fun k x hx => ?_) (fun x hx => ?_) (fun k x y hx hy => ?_)
  · obtain ⟨hab, hk⟩ := get_entsA h hx
    have hb := tm_bd zs (k + 1)
    simp only [EH.abs, entA, Prod.mk.injEq] at hab
    obtain ⟨e1, e2, e3, e4⟩ := hab
    refine ⟨isNum_iff.2 ?_, isNum_iff.2 ?_, ?_, ?_, hs x (List.mem_of_getElem? hx), ?_⟩
    · rw [e1]; omega
    · rw [e2]; omega
    · rw [e3]; omega
    · rw [e3]; omega
    · rw [e2]; simp only []; omega
  · obtain ⟨hab, hk⟩ := get_entsA h hx
    have hb := tm_bd zs (0 + 1)
    simp only [EH.abs, entA, Prod.mk.injEq] at hab
    rw [hab.1]; simp only []; omega
  · obtain ⟨hab, hk⟩ := get_entsA h hx
    obtain ⟨hab', hk'⟩ := get_entsA h hy
    simp only [EH.abs, entA, Prod.mk.injEq] at hab hab'
    rw [hab.1, hab'.1]
    exact tm_mono zs (k + 1)

theorem seq_entsA {xs : List EH} {zs : List Int} {n : Nat} (h : xs.map EH.abs = entsA zs n) (hn : n ≤ 60) : Seq 0 xs := by
  refine ⟨fun k e he => ?_, by omega, ?_⟩
  · obtain ⟨hab, hk⟩ := get_entsA h he
    simp only [EH.abs, entA, Prod.mk.injEq] at hab
    rw [hab.2.1]; omega
  · have hl : xs.length = n := by have := congrArg List.length h; simpa [entsA_len] using this
    omega

set_option maxHeartbeats 2000000 in
theorem filled_any (h : Heap) (o q : Nat) (ho : o ≠ 0) (hq : q ≠ 0) (hoq : o ≠ q) {t : Tag} (ht : t.1 ≠ o) (ht' : t.1 ≠ q) {a : Option Addr} {m c : Nat} {zs : List Int} (s : Sl h t a m c 1 (zs.map I)) (n : Nat) (hn : n ≤ 60) :
    ACalls PR 12 #[.slice a m c, I n] h (fun v h' => ∃ p es a1 c1 a2 c2 all, v = .tuple #[.pointer (some ⟨p, 0, none⟩), .slice a2 n c2] ∧ LedAt h' p o 0 0 es a1 c1 ∧ Own h' (q, 0) 34 a2 n c2 4 (encs all) ∧ Ents h' (q, 0) (q, 2) a2 n c2 all ∧
      es.map EH.abs = entsA zs n ∧ all.map EH.abs = entsA zs n ∧ (∀ e ∈ all, e.n ≤ 1200) ∧ Keeps [o, q] h h') := by
  have hzl : zs.length = m := by have := s.len; simpa using this
  refine acalls_of mix Try.func12 rfl rfl Try.ntmps12 Try.results12 rfl ?_; conv => whnf
  refine ACalls.mono (New_ok h o ho 0 0 (by decide)) ?_; rintro _ h1 ⟨p, rfl, L1, s1⟩; conv => whnf
  refine ACmp.no (by simp) ?_; conv => whnf
  refine ALoop.mk (fun e h' => ∃ e0, ∃ k : Nat, ∃ all a2 c2, e = updL 46 e0 [(0, .slice a m c), (1, I n), (6, .pointer (some ⟨p, 0, none⟩)), (8, .slice a2 k c2), (9, I (tm zs k)), (10, I k)] ∧ k ≤ n ∧
      Own h' (q, 0) 34 a2 k c2 4 (encs all) ∧ all.map EH.abs = entsA zs k ∧ (∀ e ∈ all, e.Good h' (q, 2)) ∧ (∀ e ∈ all, e.n ≤ 1200) ∧ Keep q h1 h')
      (fun e => n - natOf (e 10)) ⟨_, 0, [], none, 0, updL_self ⟨rfl, rfl, rfl, rfl, rfl, rfl, trivial⟩, by omega, .inl ⟨rfl, rfl, rfl⟩, rfl, by simp, by simp, Keep.refl _ _⟩ ?_
  rintro e h2 ⟨e0, k, all, a2, c2, rfl, hk, hown, habs, hgood, hsml, hkeep⟩
  conv => whnf
  have hbd := tm_bd zs k
  by_cases hkn : k < n
  · refine ACmp.yes (by omega) ?_; conv => whnf
    -- the entry, its term given
    have put : ∀ (e0 : Env) (T : Int), T = tm zs (k + 1) → True := fun _ _ _ => trivial
    have hbd2 := tm_bd zs (k + 1)
    have fin : ∀ (ax : Option Addr) (cx : Nat) (h3 : Heap) (b11 : Nat) (f11 : Fresh h3 b11) (s3 : Sub h2 h3) (g3 : Sl h3 (q, 2) ax 2 cx 1 (bytesV [b8 ((k : Int) + 1), b8 (tm zs (k + 1))])) (a5 : Option Addr) (cap5 : Nat) (h5 : Heap),
        Own h5 (q, 0) 34 a5 (k + 1) cap5 4 (encs all ++ [I (tm zs (k + 1)), I ((k : Int) + 1), I 1, .slice ax 2 cx]) →
        KeepT (q, 0) (h3.set b11 (row (0, 1) [I (tm zs (k + 1)), I ((k : Int) + 1), I 1, .slice ax 2 cx] 34)) h5 →
        ∃ all', Own h5 (q, 0) 34 a5 (k + 1) cap5 4 (encs all') ∧ all'.map EH.abs = entsA zs (k + 1) ∧ (∀ e ∈ all', e.Good h5 (q, 2)) ∧ (∀ e ∈ all', e.n ≤ 1200) ∧ Keep q h1 h5 := by
      intro ax cx h3 b11 f11 s3 g3 a5 cap5 h5 ho5 hk5
      have s4 := s3.trans (f11.sub (row (0, 1) [I (tm zs (k + 1)), I ((k : Int) + 1), I 1, .slice ax 2 cx] 34))
      refine ⟨all ++ [⟨tm zs (k + 1), (k : Int) + 1, 1, ax, 2, cx, [b8 ((k : Int) + 1), b8 (tm zs (k + 1))]⟩], ?_, ?_, ?_, ?_, ?_⟩
      · rw [encs_append, encs_one]; exact ho5
      · rw [List.map_append, habs, entsA_succ]; rfl
      · intro z hz
        rcases List.mem_append.1 hz with hz | hz
        · exact Sl.keepT (Sl.sub (hgood z hz) s4) hk5 (by simp)
        · obtain rfl := List.mem_singleton.1 hz
          exact Sl.keepT (Sl.sub g3 (f11.sub _)) hk5 (by simp)
      · intro z hz
        rcases List.mem_append.1 hz with hz | hz
        · exact hsml z hz
        · obtain rfl := List.mem_singleton.1 hz
          simp
      · exact hkeep.trans ((s4.keep q).trans hk5.keep)
    by_cases hkm : k < m
    · refine ACmp.yes (by omega) ?_; conv => whnf
      obtain ⟨b, off, l, E, fz, rfl, hb, hc⟩ := s.pos (by omega)
      have hb2 : h2 b = some (t, .cells l.toArray E fz) := hkeep.get ht' (s1 _ _ hb)
      have g : l[off + k * 1]? = some (I (zs[k]'(by omega))) := by rw [get_of_take hc (by omega), Nat.mul_one]; simp [show k < zs.length by omega]
      refine AIdx.nat rfl hkm rfl rfl ?_; conv => whnf
      refine ALoad.one rfl hb2 g ?_; conv => whnf
      refine ACalls.mono (bring_any _ 4 (by omega) _) ?_; rintro _ _ ⟨rfl, rfl⟩; conv => whnf
      have h1' := bring_lo (zs[k]'(by omega)) 4
      have h2' := bring_hi (i := zs[k]'(by omega)) (n := 4) (by omega)
      have htm : tm zs k + bring (zs[k]'(by omega)) 4 = tm zs (k + 1) := by
        conv => rhs; unfold tm
        rw [show zs[k]? = some (zs[k]'(by omega)) by simp [show k < zs.length by omega]]
      refine AArith.ok (by omega) (by omega) (htm) ?_; conv => whnf
      refine AArith.ok (by omega) (by omega) (rfl) ?_; conv => whnf
      refine ACalls.mono (one_any _ (q, 2) (by simp [hq]) _ _) ?_; rintro _ h3 ⟨ax, cx, rfl, g3, s3⟩; conv => whnf
      refine ABuildSl.mk (0, 1) rfl rfl rfl rfl rfl rfl rfl fun b11 f11 => ?_; conv => whnf
      refine AAppend.own (t := (q, 0)) (E := 34) (z := 4) (by_ := 48) (zero := [I 0, I 0, I 0, .slice none 0 0]) (tx := (0, 1)) (xs := [I (tm zs (k + 1)), I ((k : Int) + 1), I 1, .slice ax 2 cx]) rfl ⟨_, rfl⟩ rfl rfl rfl rfl (by omega) (hown.move fun _ _ z => (s3.trans (f11.sub _)) _ _ z)
        ⟨rfl, Nat.le_refl _, .inr ⟨b11, 0, _, _, _, rfl, Heap.set_same _ _ _, rfl⟩⟩ rfl (by omega) (by omega) fun a5 cap5 h5 hown5 hk5 _ => ?_
      conv => whnf
      refine AArith.ok (by omega) (by omega) ((by omega : (k : Int) + 1 = ((k + 1 : Nat) : Int))) ?_; conv => whnf
      obtain ⟨all', r1, r2, r3, r4, r5⟩ := fin ax cx h3 b11 f11 s3 g3 a5 cap5 h5 hown5 hk5
      refine ⟨⟨_, k + 1, all', a5, cap5, updL_self ⟨rfl, rfl, rfl, rfl, rfl, rfl, trivial⟩, by omega, r1, r2, r3, r4, r5⟩, ?_⟩
      show n - (k + 1) < n - k
      omega
    · refine ACmp.no (by omega) ?_; conv => whnf
      have htm : tm zs k = tm zs (k + 1) := by
        conv => rhs; unfold tm
        rw [show zs[k]? = none by rw [List.getElem?_eq_none]; omega]
      rw [htm]
      conv => whnf
      refine AArith.ok (by omega) (by omega) (rfl) ?_; conv => whnf
      refine ACalls.mono (one_any _ (q, 2) (by simp [hq]) _ _) ?_; rintro _ h3 ⟨ax, cx, rfl, g3, s3⟩; conv => whnf
      refine ABuildSl.mk (0, 1) rfl rfl rfl rfl rfl rfl rfl fun b11 f11 => ?_; conv => whnf
      refine AAppend.own (t := (q, 0)) (E := 34) (z := 4) (by_ := 48) (zero := [I 0, I 0, I 0, .slice none 0 0]) (tx := (0, 1)) (xs := [I (tm zs (k + 1)), I ((k : Int) + 1), I 1, .slice ax 2 cx]) rfl ⟨_, rfl⟩ rfl rfl rfl rfl (by omega) (hown.move fun _ _ z => (s3.trans (f11.sub _)) _ _ z)
        ⟨rfl, Nat.le_refl _, .inr ⟨b11, 0, _, _, _, rfl, Heap.set_same _ _ _, rfl⟩⟩ rfl (by omega) (by omega) fun a5 cap5 h5 hown5 hk5 _ => ?_
      conv => whnf
      refine AArith.ok (by omega) (by omega) ((by omega : (k : Int) + 1 = ((k + 1 : Nat) : Int))) ?_; conv => whnf
      obtain ⟨all', r1, r2, r3, r4, r5⟩ := fin ax cx h3 b11 f11 s3 g3 a5 cap5 h5 hown5 hk5
      refine ⟨⟨_, k + 1, all', a5, cap5, updL_self ⟨rfl, rfl, rfl, rfl, rfl, rfl, trivial⟩, by omega, r1, r2, r3, r4, r5⟩, ?_⟩
      show n - (k + 1) < n - k
      omega
  · refine ACmp.no (by omega) ?_; conv => whnf
    obtain rfl : k = n := by omega
    have X : Ents h2 (q, 0) (q, 2) a2 k c2 all := ⟨hown.sl, hgood, fun z hz => by have := hsml z hz; omega⟩
    have happ := app_entsA habs hn hsml
    refine ACalls.mono (Append_ok ho (L1.keep hkeep hoq) (Seq.nil (by omega) (by omega)) (Ne.symm hoq) (Ne.symm hoq) X (by simp; omega) happ) ?_; rintro _ h5 ⟨rfl, es5, a5, cap5, L5, habs5, k5⟩; conv => whnf
    refine ACmp.no (by simp) ?_; conv => whnf
    exact ⟨p, es5, a5, cap5, a2, c2, all, rfl, L5, hown.move (fun _ _ x => k5 _ _ _ (Ne.symm hoq) x), X.keep k5 (Ne.symm hoq) (Ne.symm hoq), by rw [habs5, List.nil_append, habs], habs, hsml,
      (s1.keeps _).trans ((hkeep.keeps (by simp)).trans (k5.keeps (by simp)))⟩
end Go.Ah
