/- The document's disk: gone, put, drop. -/
import Derived.Test.YtdacfmgldjegmaaDrB
namespace Go.Ah
open Go.Proofs
set_option linter.unusedVariables false
set_option linter.unusedSimpArgs false
set_option maxRecDepth 20000

theorem refgone_no {h : Heap} {q o : Nat} {D : DD} {R : List RF} {rl : Nat} {la : Option Addr} {lc : Nat} {ka : Option Addr} {kn kc : Nat} (d : Rd' h q o D R rl la lc ka kn kc) (g : Good D) (hg : (dgone D).1 = false) :
    ACalls PR 54 #[Ptr q] h (fun v h' => v = .bool false ∧ Rd' h' q o (dgone D).2 R rl la lc ka kn kc ∧ KeepT (o, 0) h h') := by
  have a1 := d.at_
  have ha := g.armed
  have hn0 : D.arm ≠ 0 := (gone_fs hg).2.2.2.1
  refine acalls_of mix Try.func54 rfl rfl Try.ntmps54 Try.results54 rfl ?_; conv => whnf
  refine ALoad.one rfl a1 rfl ?_; conv => whnf
  refine ACmp.no (by omega) ?_; conv => whnf
  refine ALoad.one rfl a1 rfl ?_; conv => whnf
  by_cases hp : 0 < D.arm
  · have e : (dgone D).2 = { D with arm := D.arm - 1 } := by unfold dgone; rw [if_neg hn0, if_pos hp]
    refine ACmp.yes (by omega) ?_; conv => whnf
    refine ALoad.one rfl a1 rfl ?_; conv => whnf
    refine AArith.ok (by omega) (by omega) (rfl) ?_; conv => whnf
    refine AStore.one' rfl rfl rfl a1 rfl ?_; conv => whnf
    have kt := KeepT.set (y := .cells [.slice la R.length lc, .bool D.dead, I (D.arm - 1), .slice ka kn kc].toArray 72 (0, 0)) a1
    refine ⟨rfl, ?_, kt⟩
    rw [e]
    exact d.cells (D' := { D with arm := D.arm - 1 }) kt (Heap.set_same _ _ _) (d.keep.keepT kt (by simp)) rfl
  · have e : (dgone D).2 = D := by unfold dgone; rw [if_neg hn0, if_neg hp]
    refine ACmp.no (by omega) ?_; conv => whnf
    rw [e]
    exact ⟨rfl, d, KeepT.refl _ _⟩
theorem refgone_go {h : Heap} {q o : Nat} {D : DD} (ho : o ≠ 0) (hd : D.dead = false) (da : RA h q o D) (g : Good D) (hg : (dgone D).1 = true) :
    ACalls PR 54 #[Ptr q] h (fun v h' => v = .bool true ∧ RA h' q o (dgone D).2 ∧ Keep o h h') := by
  obtain ⟨R, rl, la, lc, ka, kn, kc, d⟩ := da
  have a1 := d.at_
  have h0 : D.arm = 0 := by
    unfold dgone at hg
    split at hg
    · assumption
    · cases hg
  have e : (dgone D).2 = dcrash D.keep D := by unfold dgone; rw [if_pos h0]
  have e2 : dcrashed D D.keep = (0, dcrash D.keep D) := by simp [dcrashed, hd]
  refine acalls_of mix Try.func54 rfl rfl Try.ntmps54 Try.results54 rfl ?_; conv => whnf
  refine ALoad.one rfl a1 rfl ?_; conv => whnf
  refine ACmp.yes (by omega) ?_; conv => whnf
  refine ALoad.one rfl a1 rfl ?_; conv => whnf
  have c := refCrash_any ho ⟨_, _, _, _, _, _, _, d⟩ g d.keep (.inr rfl)
  rw [e2] at c
  refine ACalls.mono (c) ?_; rintro _ h' ⟨rfl, d', k⟩; conv => whnf
  rw [e]
  exact ⟨rfl, d', k⟩

/-! ### put -/
def rins (y : RF) : List RF → List RF
  | [] => [y]
  | x :: r => if y.f.name ≤ x.f.name then y :: x :: r else x :: rins y r
def rout (n : Nm) (R : List RF) : List RF := R.filter fun x => !decide (x.f.name = n)
theorem rins_map (y : RF) : ∀ R : List RF, (rins y R).map (·.f) = dins y.f (R.map (·.f))
  | [] => rfl
  | x :: r => by
    unfold rins
    simp only [List.map_cons, dins]
    split
    · simp
    · simp [rins_map y r]
theorem rout_map (n : Nm) (R : List RF) : (rout n R).map (·.f) = dout n (R.map (·.f)) := by
  unfold rout dout
  rw [List.filter_map]; rfl
theorem rins_perm (y : RF) : ∀ R : List RF, (rins y R).Perm (y :: R)
  | [] => .refl _
  | x :: r => by
    unfold rins
    split
    · exact .refl _
    · exact ((rins_perm y r).cons x).trans (.swap y x r)

def pstep (y : RF) (p : List RF × Bool) (x : RF) : List RF × Bool :=
  let q := if (!p.2 && decide (y.f.name ≤ x.f.name)) = true then (p.1 ++ [y], true) else p
  if x.f.name ≠ y.f.name then (q.1 ++ [x], q.2) else q
def pto (y : RF) (R : List RF) (i : Nat) : List RF × Bool := (R.take i).foldl (pstep y) ([], false)
theorem pto_succ {y : RF} {R : List RF} {i : Nat} (h : i < R.length) : pto y R (i + 1) = pstep y (pto y R i) R[i] := by
  unfold pto
  rw [List.take_succ_eq_append_getElem h, List.foldl_append]; rfl
theorem pstep_len (y : RF) (p : List RF × Bool) (x : RF) : (pstep y p x).1.length ≤ p.1.length + 2 := by
  unfold pstep
  simp only
  split <;> split <;> simp
theorem pto_len (y : RF) (R : List RF) : ∀ i, (pto y R i).1.length ≤ 2 * i
  | 0 => by simp [pto]
  | i + 1 => by
    by_cases h : i < R.length
    · rw [pto_succ h]
      have := pstep_len y (pto y R i) R[i]
      have := pto_len y R i
      omega
    · have : pto y R (i + 1) = pto y R i := by unfold pto; rw [List.take_of_length_le (by omega), List.take_of_length_le (by omega)]
      rw [this]; have := pto_len y R i; omega
theorem fold_done (y : RF) : ∀ (r acc : List RF), r.foldl (pstep y) (acc, true) = (acc ++ rout y.f.name r, true)
  | [], acc => by simp [rout]
  | x :: r, acc => by
    rw [List.foldl_cons]
    by_cases h : x.f.name = y.f.name
    · have e : pstep y (acc, true) x = (acc, true) := by simp [pstep, h]
      rw [e, fold_done y r acc]
      simp [rout, h]
    · have e : pstep y (acc, true) x = (acc ++ [x], true) := by simp [pstep, h]
      rw [e, fold_done y r (acc ++ [x])]
      simp [rout, h]
theorem rins_low {y : RF} {R : List RF} (h : ∀ x ∈ R, y.f.name ≤ x.f.name) : rins y R = y :: R := by
  cases R with
  | nil => rfl
  | cons x r => unfold rins; rw [if_pos (h x (by simp))]
theorem fold_fin (y : RF) : ∀ (r acc : List RF), (r.map (·.f)).Pairwise (fun f g => f.name < g.name) →
    (if (r.foldl (pstep y) (acc, false)).2 = true then (r.foldl (pstep y) (acc, false)).1 else (r.foldl (pstep y) (acc, false)).1 ++ [y]) = acc ++ rins y (rout y.f.name r)
  | [], acc, _ => by simp [rout, rins]
  | x :: r, acc, hp => by
    rw [List.map_cons, List.pairwise_cons] at hp
    rw [List.foldl_cons]
    have hx : ∀ z ∈ r, x.f.name < z.f.name := fun z hz => hp.1 z.f (List.mem_map.2 ⟨z, hz, rfl⟩)
    by_cases hle : y.f.name ≤ x.f.name
    · have hlow : ∀ z ∈ rout y.f.name r, y.f.name ≤ z.f.name := fun z hz => by
        have := hx z (List.mem_filter.1 hz).1
        exact List.le_of_lt (List.lt_of_le_of_lt hle this)
      by_cases h : x.f.name = y.f.name
      · have e : pstep y (acc, false) x = (acc ++ [y], true) := by simp [pstep, h]
        rw [e, fold_done]
        have : rout y.f.name (x :: r) = rout y.f.name r := by simp [rout, h]
        rw [this, rins_low hlow]
        simp
      · have e : pstep y (acc, false) x = (acc ++ [y] ++ [x], true) := by simp [pstep, h, hle]
        rw [e, fold_done]
        have : rout y.f.name (x :: r) = x :: rout y.f.name r := by simp [rout, h]
        rw [this, rins_low (fun z hz => by
          rcases List.mem_cons.1 hz with rfl | hz
          · exact hle
          · exact hlow z hz)]
        simp
    · have h : x.f.name ≠ y.f.name := fun c => hle (by rw [c]; exact List.le_refl _)
      have e : pstep y (acc, false) x = (acc ++ [x], false) := by simp [pstep, h, hle]
      rw [e, fold_fin y r (acc ++ [x]) hp.2]
      have : rout y.f.name (x :: r) = x :: rout y.f.name r := by simp [rout, h]
      rw [this]
      have : rins y (x :: rout y.f.name r) = x :: rins y (rout y.f.name r) := by rw [rins, if_neg hle]
      rw [this]; simp
theorem pto_fin {y : RF} {R : List RF} (h : (R.map (·.f)).Pairwise (fun f g => f.name < g.name)) :
    (if (pto y R R.length).2 = true then (pto y R R.length).1 else (pto y R R.length).1 ++ [y]) = rins y (rout y.f.name R) := by
  have := fold_fin y R [] h
  unfold pto
  rw [List.take_length]
  rw [List.nil_append] at this
  exact this

theorem rcells_append (a b : List RF) : rcells (a ++ b) = rcells a ++ rcells b := by simp [rcells]
theorem rcells_one (x : RF) : rcells [x] = x.cells := by simp [rcells]

/-- What is not of the disk's block nor of one role stays. -/
def KeepX (o r : Nat) (h h' : Heap) : Prop := ∀ b (t : Tag) x, t ≠ (o, 0) → t ≠ (o, r) → t ≠ (0, 1) → h b = some (t, x) → h' b = some (t, x)
theorem oneCell_cells (x : RF) : x.cells.all oneCell = true := by simp [RF.cells, oneCell]

set_option maxHeartbeats 4000000 in
theorem put_any {h : Heap} {q o : Nat} {D : DD} {R : List RF} {rl : Nat} {la : Option Addr} {lc : Nat} {ka : Option Addr} {kn kc : Nat} (ho : o ≠ 0) (d : Rd' h q o D R rl la lc ka kn kc) (h16 : R.length ≤ 16) (hr : Rise D.fs)
    (y : RF) (hy : y.Ok h o) (hyro : 10 ≤ y.ro) (hynd : ∀ x ∈ rout y.f.name R, x.ro ≠ y.ro) :
    ACalls PR 55 #[Ptr q, .agg #[S y.f.name, .slice y.a y.n y.c, I y.f.s]] h (fun v h' => v = .tuple #[] ∧ RA h' q o { D with fs := dput y.f D.fs } ∧ Keep o h h') := by
  obtain ⟨rn, hrn, hrn'⟩ := exists_role (rl :: y.ro :: R.map (·.ro))
  simp only [List.mem_cons, not_or] at hrn'
  have big := d.big
  have hrl := big rl (by simp)
  refine (?_ : ACalls PR 55 _ _ (fun v h' => v = .tuple #[] ∧ RA h' q o { D with fs := dput y.f D.fs } ∧ Keep o h h'))
  refine acalls_of mix Try.func55 rfl rfl Try.ntmps55 Try.results55 rfl ?_; conv => whnf
  refine ABox.mk (0, 1) rfl fun b3 f3 => ?_; conv => whnf
  have s3 := f3.sub (row (0, 1) [S y.f.name, .slice y.a y.n y.c, I y.f.s] 76)
  have k3 := Heap.set_same h b3 (row (0, 1) [S y.f.name, .slice y.a y.n y.c, I y.f.s] 76)
  have d3 : Rd' (h.set b3 (row (0, 1) [S y.f.name, .slice y.a y.n y.c, I y.f.s] 76)) q o D R rl la lc ka kn kc := d.move fun _ _ _ _ e => s3 _ _ e
  have hy3 : y.Ok (h.set b3 (row (0, 1) [S y.f.name, .slice y.a y.n y.c, I y.f.s] 76)) o := Own.move hy fun _ _ e => s3 _ _ e
  generalize h.set b3 (row (0, 1) [S y.f.name, .slice y.a y.n y.c, I y.f.s] 76) = h3 at s3 k3 d3 hy3 ⊢
  refine ALoop.mk (fun e h2 => (Keep o h h2 ∧ KeepX o rn h3 h2 ∧ h2 b3 = some (row (0, 1) [S y.f.name, .slice y.a y.n y.c, I y.f.s] 76) ∧ h2 q = some (row (o, 0) [.slice la R.length lc, .bool D.dead, I D.arm, .slice ka kn kc] 72)) ∧
      ∃ e0, ∃ i : Nat, ∃ (oa : Option Addr) (N oc : Nat) (acc : List RF) (dn : Bool), pto y R i = (acc, dn) ∧ N = acc.length ∧
      e = updL 66 e0 [(0, Ptr q), (3, Ptr b3), (4, .slice oa N oc), (5, .bool dn), (6, I i)] ∧ i ≤ R.length ∧ Own h2 (o, rn) 76 oa N oc 3 (rcells acc)) (fun e => R.length - natOf (e 6))
    ⟨⟨s3.keep o, fun _ _ _ _ _ _ e => e, k3, d3.at_⟩, _, 0, none, 0, 0, [], false, rfl, rfl, updL_self ⟨rfl, rfl, rfl, rfl, rfl, trivial⟩, by omega, .inl ⟨rfl, rfl, rfl⟩⟩ ?_
  rintro e h2 ⟨⟨kk2, kt2, k2, a2⟩, e0, i, oa, N, oc, acc, dn, hpt, hN, rfl, hi, own2⟩
  have hpl : N ≤ 2 * i := by have := pto_len y R i; rw [hpt] at this; rw [hN]; exact this
  conv => whnf
  refine ALoad.one rfl a2 rfl ?_; conv => whnf
  by_cases hlt : i < R.length
  · refine ACmp.yes (by omega) ?_; conv => whnf
    obtain ⟨b, l, rfl, hb, hp, hg, _⟩ := d3.get (i := i) (x := R[i]) (by simp [hlt])
    have hbt : ((o, rl) : Tag) ≠ (o, rn) := by intro c; injection c with _ c; exact hrn'.1 c.symm
    have hb0 : ((o, rl) : Tag) ≠ (o, 0) := by intro c; injection c with _ c; omega
    have hb1 : ((o, rl) : Tag) ≠ (0, 1) := by intro c; injection c with c _; exact ho c
    have hb2 := kt2 _ _ _ hb0 hbt hb1 hb
    have hnm := (hg 0 (by omega)).1
    simp only [RF.cells, List.getElem?_cons_zero] at hnm
    have hsucc := pto_succ (y := y) hlt
    rw [hpt] at hsucc
    cases dn with
    | true =>
      refine ADrawn.mk (h2) [] (Sub.refl _) (by decide +kernel) ?_; conv => whnf
      have hle : True := trivial
      have hb4 := kt2 _ _ _ hb0 hbt hb1 hb
      refine ADrawn.mk (h2) [] (Sub.refl _) (by decide +kernel) ?_; conv => whnf
      refine ALoad.one rfl a2 rfl ?_; conv => whnf
      refine AIdx.nat (z := 3) rfl hlt rfl rfl ?_; conv => whnf
      refine ALoad.one rfl hb4 (by rw [Nat.zero_add]; exact hnm) ?_; conv => whnf
      refine ALoad.one rfl k2 rfl ?_; conv => whnf
      refine AStrOp.neq ?_
      by_cases hne : R[i].f.name = y.f.name
      · rw [decide_eq_true hne]
        conv => whnf
        have hst : pstep y (acc, true) R[i] = (acc, true) := by first | (simp [pstep, hne, hle]; done) | (simp [pstep, hne]; done) | exact absurd (by rw [hne]; exact List.le_refl _) hle
        refine AArith.ok (by omega) (by omega) ((by omega : (i : Int) + 1 = ((i + 1 : Nat) : Int))) ?_; conv => whnf
        refine ⟨⟨⟨kk2, kt2, k2, a2⟩, _, i + 1, oa, N, oc, acc, true, hsucc.trans hst, hN, updL_self ⟨rfl, rfl, rfl, rfl, rfl, trivial⟩, by omega, own2⟩, ?_⟩
        show R.length - (i + 1) < R.length - i
        omega
      · rw [decide_eq_false hne]
        conv => whnf
        have hst : pstep y (acc, true) R[i] = (acc ++ [R[i]], true) := by simp [pstep, hne, hle]
        refine ALoad.one rfl a2 rfl ?_; conv => whnf
        refine AIdx.nat (z := 3) rfl hlt rfl rfl ?_; conv => whnf
        refine ALoad.agg (n := 3) (vs := R[i].cells) rfl hb4 (by rw [Nat.zero_add]; exact hp) rfl ?_; conv => whnf
        obtain ⟨zz, hzz⟩ : ∃ zz, R[i] = zz := ⟨_, rfl⟩
        simp only [hzz] at hst ⊢
        refine ABuildSl.mk (0, 1) rfl rfl rfl rfl rfl rfl rfl fun b6 f6 => ?_; conv => whnf
        have s6 := f6.sub (row (0, 1) zz.cells 76)
        have k6 := Heap.set_same h2 b6 (row (0, 1) zz.cells 76)
        have x6 : Sl (h2.set b6 (row (0, 1) zz.cells 76)) (0, 1) (some ⟨b6, 0, none⟩) 1 1 3 zz.cells := ⟨rfl, Nat.le_refl _, .inr ⟨b6, 0, _, _, _, rfl, k6, rfl⟩⟩
        have own0 := own2.move (h' := h2.set b6 (row (0, 1) zz.cells 76)) fun _ _ e => s6 _ _ e
        refine AAppend.own (t := (o, rn)) (E := 76) (z := 3) (by_ := 48) (zero := [S [], .slice none 0 0, I 0]) rfl ⟨_, rfl⟩ rfl rfl rfl rfl (by omega) own0 x6 (oneCell_cells zz) (by omega) (by omega) fun a9 c9 h9 own9 kt1 _ => ?_
        conv => whnf
        rw [← rcells_one zz, ← rcells_append] at own9
        have kk9 := kk2.trans ((s6.keep o).trans kt1.keep)
        have kt9 : KeepX o rn h3 h9 := fun b t x n1 n2 n3 e => kt1 _ _ _ n2 (s6 _ _ (kt2 b t x n1 n2 n3 e))
        have k39 := kt1.get (by intro c; injection c with c; exact ho c.symm) (s6 _ _ k2)
        have a29 := kt1.get (by simp; omega) (s6 _ _ a2)
        clear own0 x6 k6 s6 kt1
        have hN9 : N + 1 = (acc ++ [zz]).length := by rw [List.length_append, hN]; rfl
        rw [hzz] at hsucc
        refine AArith.ok (by omega) (by omega) ((by omega : (i : Int) + 1 = ((i + 1 : Nat) : Int))) ?_; conv => whnf
        refine ⟨⟨⟨kk9, kt9, k39, a29⟩, _, i + 1, a9, (N+1), c9, (acc++[zz]), true, hsucc.trans hst, hN9, updL_self ⟨rfl, rfl, rfl, rfl, rfl, trivial⟩, by omega, own9⟩, ?_⟩
        show R.length - (i + 1) < R.length - i
        omega
    | false =>
      refine ADrawn.mk (h2) [] (Sub.refl _) (by decide +kernel) ?_; conv => whnf
      refine ALoad.one rfl k2 rfl ?_; conv => whnf
      refine ALoad.one rfl a2 rfl ?_; conv => whnf
      refine AIdx.nat (z := 3) rfl hlt rfl rfl ?_; conv => whnf
      refine ALoad.one rfl hb2 (by rw [Nat.zero_add]; exact hnm) ?_; conv => whnf
      refine AStrOp.leq ?_
      by_cases hle : y.f.name ≤ R[i].f.name
      · rw [decide_eq_true hle]
        conv => whnf
        refine ALoad.agg rfl k2 rfl rfl ?_; conv => whnf
        refine ABuildSl.mk (0, 1) rfl rfl rfl rfl rfl rfl rfl fun b6 f6 => ?_; conv => whnf
        have s6 := f6.sub (row (0, 1) y.cells 76)
        have k6 := Heap.set_same h2 b6 (row (0, 1) y.cells 76)
        have x6 : Sl (h2.set b6 (row (0, 1) y.cells 76)) (0, 1) (some ⟨b6, 0, none⟩) 1 1 3 y.cells := ⟨rfl, Nat.le_refl _, .inr ⟨b6, 0, _, _, _, rfl, k6, rfl⟩⟩
        have own0 := own2.move (h' := h2.set b6 (row (0, 1) y.cells 76)) fun _ _ e => s6 _ _ e
        refine AAppend.own (t := (o, rn)) (E := 76) (z := 3) (by_ := 48) (zero := [S [], .slice none 0 0, I 0]) rfl ⟨_, rfl⟩ rfl rfl rfl rfl (by omega) own0 x6 (oneCell_cells y) (by omega) (by omega) fun a5 c5 h5 own5 kt1 _ => ?_
        conv => whnf
        rw [← rcells_one y, ← rcells_append] at own5
        have kk5 := kk2.trans ((s6.keep o).trans kt1.keep)
        have kt5 : KeepX o rn h3 h5 := fun b t x n1 n2 n3 e => kt1 _ _ _ n2 (s6 _ _ (kt2 b t x n1 n2 n3 e))
        have k35 := kt1.get (by intro c; injection c with c; exact ho c.symm) (s6 _ _ k2)
        have a25 := kt1.get (by simp; omega) (s6 _ _ a2)
        clear own0 x6 k6 s6 kt1
        have hN5 : N + 1 = (acc ++ [y]).length := by rw [List.length_append, hN]; rfl
        have hb4 := kt5 _ _ _ hb0 hbt hb1 hb
        refine ADrawn.mk (h5) [] (Sub.refl _) (by decide +kernel) ?_; conv => whnf
        refine ALoad.one rfl a25 rfl ?_; conv => whnf
        refine AIdx.nat (z := 3) rfl hlt rfl rfl ?_; conv => whnf
        refine ALoad.one rfl hb4 (by rw [Nat.zero_add]; exact hnm) ?_; conv => whnf
        refine ALoad.one rfl k35 rfl ?_; conv => whnf
        refine AStrOp.neq ?_
        by_cases hne : R[i].f.name = y.f.name
        · rw [decide_eq_true hne]
          conv => whnf
          have hst : pstep y (acc, false) R[i] = ((acc++[y]), true) := by first | (simp [pstep, hne, hle]; done) | (simp [pstep, hne]; done) | exact absurd (by rw [hne]; exact List.le_refl _) hle
          refine AArith.ok (by omega) (by omega) ((by omega : (i : Int) + 1 = ((i + 1 : Nat) : Int))) ?_; conv => whnf
          refine ⟨⟨⟨kk5, kt5, k35, a25⟩, _, i + 1, a5, (N+1), c5, (acc++[y]), true, hsucc.trans hst, hN5, updL_self ⟨rfl, rfl, rfl, rfl, rfl, trivial⟩, by omega, own5⟩, ?_⟩
          show R.length - (i + 1) < R.length - i
          omega
        · rw [decide_eq_false hne]
          conv => whnf
          have hst : pstep y (acc, false) R[i] = ((acc++[y]) ++ [R[i]], true) := by simp [pstep, hne, hle]
          refine ALoad.one rfl a25 rfl ?_; conv => whnf
          refine AIdx.nat (z := 3) rfl hlt rfl rfl ?_; conv => whnf
          refine ALoad.agg (n := 3) (vs := R[i].cells) rfl hb4 (by rw [Nat.zero_add]; exact hp) rfl ?_; conv => whnf
          obtain ⟨zz, hzz⟩ : ∃ zz, R[i] = zz := ⟨_, rfl⟩
          simp only [hzz] at hst ⊢
          refine ABuildSl.mk (0, 1) rfl rfl rfl rfl rfl rfl rfl fun b6 f6 => ?_; conv => whnf
          have s6 := f6.sub (row (0, 1) zz.cells 76)
          have k6 := Heap.set_same h5 b6 (row (0, 1) zz.cells 76)
          have x6 : Sl (h5.set b6 (row (0, 1) zz.cells 76)) (0, 1) (some ⟨b6, 0, none⟩) 1 1 3 zz.cells := ⟨rfl, Nat.le_refl _, .inr ⟨b6, 0, _, _, _, rfl, k6, rfl⟩⟩
          have own0 := own5.move (h' := h5.set b6 (row (0, 1) zz.cells 76)) fun _ _ e => s6 _ _ e
          refine AAppend.own (t := (o, rn)) (E := 76) (z := 3) (by_ := 48) (zero := [S [], .slice none 0 0, I 0]) rfl ⟨_, rfl⟩ rfl rfl rfl rfl (by omega) own0 x6 (oneCell_cells zz) (by omega) (by omega) fun a9 c9 h9 own9 kt1 _ => ?_
          conv => whnf
          rw [← rcells_one zz, ← rcells_append] at own9
          have kk9 := kk5.trans ((s6.keep o).trans kt1.keep)
          have kt9 : KeepX o rn h3 h9 := fun b t x n1 n2 n3 e => kt1 _ _ _ n2 (s6 _ _ (kt5 b t x n1 n2 n3 e))
          have k39 := kt1.get (by intro c; injection c with c; exact ho c.symm) (s6 _ _ k35)
          have a29 := kt1.get (by simp; omega) (s6 _ _ a25)
          clear own0 x6 k6 s6 kt1
          have hN9 : (N+1) + 1 = ((acc++[y]) ++ [zz]).length := by rw [List.length_append, hN5]; rfl
          rw [hzz] at hsucc
          refine AArith.ok (by omega) (by omega) ((by omega : (i : Int) + 1 = ((i + 1 : Nat) : Int))) ?_; conv => whnf
          refine ⟨⟨⟨kk9, kt9, k39, a29⟩, _, i + 1, a9, ((N+1)+1), c9, ((acc++[y])++[zz]), true, hsucc.trans hst, hN9, updL_self ⟨rfl, rfl, rfl, rfl, rfl, trivial⟩, by omega, own9⟩, ?_⟩
          show R.length - (i + 1) < R.length - i
          omega
      · rw [decide_eq_false hle]
        conv => whnf
        have hb4 := kt2 _ _ _ hb0 hbt hb1 hb
        refine ADrawn.mk (h2) [] (Sub.refl _) (by decide +kernel) ?_; conv => whnf
        refine ALoad.one rfl a2 rfl ?_; conv => whnf
        refine AIdx.nat (z := 3) rfl hlt rfl rfl ?_; conv => whnf
        refine ALoad.one rfl hb4 (by rw [Nat.zero_add]; exact hnm) ?_; conv => whnf
        refine ALoad.one rfl k2 rfl ?_; conv => whnf
        refine AStrOp.neq ?_
        by_cases hne : R[i].f.name = y.f.name
        · rw [decide_eq_true hne]
          conv => whnf
          have hst : pstep y (acc, false) R[i] = (acc, false) := by first | (simp [pstep, hne, hle]; done) | (simp [pstep, hne]; done) | exact absurd (by rw [hne]; exact List.le_refl _) hle
          refine AArith.ok (by omega) (by omega) ((by omega : (i : Int) + 1 = ((i + 1 : Nat) : Int))) ?_; conv => whnf
          refine ⟨⟨⟨kk2, kt2, k2, a2⟩, _, i + 1, oa, N, oc, acc, false, hsucc.trans hst, hN, updL_self ⟨rfl, rfl, rfl, rfl, rfl, trivial⟩, by omega, own2⟩, ?_⟩
          show R.length - (i + 1) < R.length - i
          omega
        · rw [decide_eq_false hne]
          conv => whnf
          have hst : pstep y (acc, false) R[i] = (acc ++ [R[i]], false) := by simp [pstep, hne, hle]
          refine ALoad.one rfl a2 rfl ?_; conv => whnf
          refine AIdx.nat (z := 3) rfl hlt rfl rfl ?_; conv => whnf
          refine ALoad.agg (n := 3) (vs := R[i].cells) rfl hb4 (by rw [Nat.zero_add]; exact hp) rfl ?_; conv => whnf
          obtain ⟨zz, hzz⟩ : ∃ zz, R[i] = zz := ⟨_, rfl⟩
          simp only [hzz] at hst ⊢
          refine ABuildSl.mk (0, 1) rfl rfl rfl rfl rfl rfl rfl fun b6 f6 => ?_; conv => whnf
          have s6 := f6.sub (row (0, 1) zz.cells 76)
          have k6 := Heap.set_same h2 b6 (row (0, 1) zz.cells 76)
          have x6 : Sl (h2.set b6 (row (0, 1) zz.cells 76)) (0, 1) (some ⟨b6, 0, none⟩) 1 1 3 zz.cells := ⟨rfl, Nat.le_refl _, .inr ⟨b6, 0, _, _, _, rfl, k6, rfl⟩⟩
          have own0 := own2.move (h' := h2.set b6 (row (0, 1) zz.cells 76)) fun _ _ e => s6 _ _ e
          refine AAppend.own (t := (o, rn)) (E := 76) (z := 3) (by_ := 48) (zero := [S [], .slice none 0 0, I 0]) rfl ⟨_, rfl⟩ rfl rfl rfl rfl (by omega) own0 x6 (oneCell_cells zz) (by omega) (by omega) fun a9 c9 h9 own9 kt1 _ => ?_
          conv => whnf
          rw [← rcells_one zz, ← rcells_append] at own9
          have kk9 := kk2.trans ((s6.keep o).trans kt1.keep)
          have kt9 : KeepX o rn h3 h9 := fun b t x n1 n2 n3 e => kt1 _ _ _ n2 (s6 _ _ (kt2 b t x n1 n2 n3 e))
          have k39 := kt1.get (by intro c; injection c with c; exact ho c.symm) (s6 _ _ k2)
          have a29 := kt1.get (by simp; omega) (s6 _ _ a2)
          clear own0 x6 k6 s6 kt1
          have hN9 : N + 1 = (acc ++ [zz]).length := by rw [List.length_append, hN]; rfl
          rw [hzz] at hsucc
          refine AArith.ok (by omega) (by omega) ((by omega : (i : Int) + 1 = ((i + 1 : Nat) : Int))) ?_; conv => whnf
          refine ⟨⟨⟨kk9, kt9, k39, a29⟩, _, i + 1, a9, (N+1), c9, (acc++[zz]), false, hsucc.trans hst, hN9, updL_self ⟨rfl, rfl, rfl, rfl, rfl, trivial⟩, by omega, own9⟩, ?_⟩
          show R.length - (i + 1) < R.length - i
          omega
  · refine ACmp.no (by omega) ?_; conv => whnf
    obtain rfl : i = R.length := by omega
    have hfin := pto_fin (y := y) (R := R) (by rw [d.fs]; exact hr)
    rw [hpt] at hfin
    simp only at hfin
    cases dn with
    | true =>
      rw [if_pos rfl] at hfin
      conv => whnf
      refine AStore.one' rfl rfl rfl a2 rfl ?_; conv => whnf
      have ktq := KeepT.set (y := .cells [.slice oa N oc, .bool D.dead, I D.arm, .slice ka kn kc].toArray 72 (0, 0)) a2
      have hperm := rins_perm y (rout y.f.name R)
      have hros : (rn :: (rins y (rout y.f.name R)).map (·.ro)).Nodup := by
        rw [List.nodup_cons]
        constructor
        · intro c
          obtain ⟨z, hz, hzr⟩ := List.mem_map.1 c
          rcases List.mem_cons.1 (hperm.mem_iff.1 hz) with rfl | hz
          · exact hrn'.2.1 hzr.symm
          · exact hrn'.2.2 (List.mem_map.2 ⟨z, (List.mem_filter.1 hz).1, hzr⟩)
        · rw [(hperm.map (·.ro)).nodup_iff, List.map_cons, List.nodup_cons]
          refine ⟨fun c => ?_, ?_⟩
          · obtain ⟨z, hz, hzr⟩ := List.mem_map.1 c
            exact hynd z hz hzr
          · have := d.nodup
            rw [List.nodup_cons] at this
            exact this.2.sublist (List.filter_sublist.map _)
      refine ⟨rfl, ⟨rins y (rout y.f.name R), rn, oa, oc, ka, kn, kc, ⟨?_, ?_, ?_, ?_, ?_, hros, ?_⟩⟩, kk2.trans ktq.keep⟩
      · rw [← hfin, ← hN]; exact Heap.set_same _ _ _
      · rw [← hfin, ← hN]; exact own2.keepT ktq (by simp; omega)
      · exact (d3.keep.move fun b x e => kt2 _ _ _ (by simp) (by simp; omega) (by intro c; injection c with c _; exact ho c) e).keepT ktq (by simp)
      · intro z hz
        have hzo : z.Ok h3 o ∧ 10 ≤ z.ro ∧ z.ro ≠ rn := by
          rcases List.mem_cons.1 (hperm.mem_iff.1 hz) with rfl | hz
          · exact ⟨hy3, hyro, fun c => hrn'.2.1 c.symm⟩
          · have hzR := (List.mem_filter.1 hz).1
            exact ⟨d3.ok z hzR, big _ (by simp; exact .inr ⟨z, hzR, rfl⟩), fun c => hrn'.2.2 (List.mem_map.2 ⟨z, hzR, c⟩)⟩
        obtain ⟨z1, z2, z3⟩ := hzo
        have z4 := Own.move z1 (h' := h2) fun b x e => kt2 _ _ _ (by simp; omega) (by simp; exact z3) (by intro c; injection c with c _; exact ho c) e
        exact Own.keepT z4 ktq (by simp; omega)
      · rw [rins_map, rout_map, d.fs]; rfl
      · intro r hr'
        rcases List.mem_cons.1 hr' with rfl | hr'
        · exact hrn
        · obtain ⟨z, hz, hzr⟩ := List.mem_map.1 hr'
          rcases List.mem_cons.1 (hperm.mem_iff.1 hz) with rfl | hz
          · omega
          · have := big z.ro (by simp; exact .inr ⟨z, (List.mem_filter.1 hz).1, rfl⟩)
            omega
    | false =>
      rw [if_neg (by simp)] at hfin
      conv => whnf
      refine ALoad.agg rfl k2 rfl rfl ?_; conv => whnf
      refine ABuildSl.mk (0, 1) rfl rfl rfl rfl rfl rfl rfl fun b6 f6 => ?_; conv => whnf
      have s6 := f6.sub (row (0, 1) y.cells 76)
      have k6 := Heap.set_same h2 b6 (row (0, 1) y.cells 76)
      have x6 : Sl (h2.set b6 (row (0, 1) y.cells 76)) (0, 1) (some ⟨b6, 0, none⟩) 1 1 3 y.cells := ⟨rfl, Nat.le_refl _, .inr ⟨b6, 0, _, _, _, rfl, k6, rfl⟩⟩
      have own0 := own2.move (h' := h2.set b6 (row (0, 1) y.cells 76)) fun _ _ e => s6 _ _ e
      refine AAppend.own (t := (o, rn)) (E := 76) (z := 3) (by_ := 48) (zero := [S [], .slice none 0 0, I 0]) rfl ⟨_, rfl⟩ rfl rfl rfl rfl (by omega) own0 x6 (oneCell_cells y) (by omega) (by omega) fun a5 c5 h5 own5 kt1 _ => ?_
      conv => whnf
      rw [← rcells_one y, ← rcells_append] at own5
      have kk5 := kk2.trans ((s6.keep o).trans kt1.keep)
      have kt5 : KeepX o rn h3 h5 := fun b t x n1 n2 n3 e => kt1 _ _ _ n2 (s6 _ _ (kt2 b t x n1 n2 n3 e))
      have k35 := kt1.get (by intro c; injection c with c; exact ho c.symm) (s6 _ _ k2)
      have a25 := kt1.get (by simp; omega) (s6 _ _ a2)
      clear own0 x6 k6 s6 kt1
      have hN5 : N + 1 = (acc ++ [y]).length := by rw [List.length_append, hN]; rfl
      refine AStore.one' rfl rfl rfl a25 rfl ?_; conv => whnf
      have ktq := KeepT.set (y := .cells [.slice a5 (N+1) c5, .bool D.dead, I D.arm, .slice ka kn kc].toArray 72 (0, 0)) a25
      have hperm := rins_perm y (rout y.f.name R)
      have hros : (rn :: (rins y (rout y.f.name R)).map (·.ro)).Nodup := by
        rw [List.nodup_cons]
        constructor
        · intro c
          obtain ⟨z, hz, hzr⟩ := List.mem_map.1 c
          rcases List.mem_cons.1 (hperm.mem_iff.1 hz) with rfl | hz
          · exact hrn'.2.1 hzr.symm
          · exact hrn'.2.2 (List.mem_map.2 ⟨z, (List.mem_filter.1 hz).1, hzr⟩)
        · rw [(hperm.map (·.ro)).nodup_iff, List.map_cons, List.nodup_cons]
          refine ⟨fun c => ?_, ?_⟩
          · obtain ⟨z, hz, hzr⟩ := List.mem_map.1 c
            exact hynd z hz hzr
          · have := d.nodup
            rw [List.nodup_cons] at this
            exact this.2.sublist (List.filter_sublist.map _)
      refine ⟨rfl, ⟨rins y (rout y.f.name R), rn, a5, c5, ka, kn, kc, ⟨?_, ?_, ?_, ?_, ?_, hros, ?_⟩⟩, kk5.trans ktq.keep⟩
      · rw [← hfin, ← hN5]; exact Heap.set_same _ _ _
      · rw [← hfin, ← hN5]; exact own5.keepT ktq (by simp; omega)
      · exact (d3.keep.move fun b x e => kt5 _ _ _ (by simp) (by simp; omega) (by intro c; injection c with c _; exact ho c) e).keepT ktq (by simp)
      · intro z hz
        have hzo : z.Ok h3 o ∧ 10 ≤ z.ro ∧ z.ro ≠ rn := by
          rcases List.mem_cons.1 (hperm.mem_iff.1 hz) with rfl | hz
          · exact ⟨hy3, hyro, fun c => hrn'.2.1 c.symm⟩
          · have hzR := (List.mem_filter.1 hz).1
            exact ⟨d3.ok z hzR, big _ (by simp; exact .inr ⟨z, hzR, rfl⟩), fun c => hrn'.2.2 (List.mem_map.2 ⟨z, hzR, c⟩)⟩
        obtain ⟨z1, z2, z3⟩ := hzo
        have z4 := Own.move z1 (h' := h5) fun b x e => kt5 _ _ _ (by simp; omega) (by simp; exact z3) (by intro c; injection c with c _; exact ho c) e
        exact Own.keepT z4 ktq (by simp; omega)
      · rw [rins_map, rout_map, d.fs]; rfl
      · intro r hr'
        rcases List.mem_cons.1 hr' with rfl | hr'
        · exact hrn
        · obtain ⟨z, hz, hzr⟩ := List.mem_map.1 hr'
          rcases List.mem_cons.1 (hperm.mem_iff.1 hz) with rfl | hz
          · omega
          · have := big z.ro (by simp; exact .inr ⟨z, (List.mem_filter.1 hz).1, rfl⟩)
            omega
end Go.Ah
