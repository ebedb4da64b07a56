/- The document's disk: drop, Append, Sync, Rename, Remove, Read, List, Arm, Turn. -/
import Derived.Test.YtdacfmgldjegmaaDrC
namespace Go.Ah
open Go.Proofs
set_option linter.unusedVariables false
set_option linter.unusedSimpArgs false
set_option maxRecDepth 20000

theorem slBase_from (a : Option Addr) (l cap z : Nat) : slBase a l cap z = slBase a l cap z := rfl
theorem oneCell_rcells (R : List RF) : (rcells R).all oneCell = true := by
  unfold rcells
  rw [List.all_eq_true]
  intro v hv
  obtain ⟨e, he, hve⟩ := List.mem_flatten.1 hv
  obtain ⟨x, _, rfl⟩ := List.mem_map.1 he
  exact List.all_eq_true.1 (oneCell_cells x) v hve
theorem rcells_take (R : List RF) (i : Nat) : (rcells R).take (i * 3) = rcells (R.take i) := by
  unfold rcells; rw [flat_take (rz R), List.map_take]
theorem rcells_drop (R : List RF) (i : Nat) : (rcells R).drop (i * 3) = rcells (R.drop i) := by
  unfold rcells; rw [flat_drop (rz R), List.map_drop]
theorem rcells_len (R : List RF) : (rcells R).length = R.length * 3 := by
  unfold rcells; rw [flat_len (rz R), List.length_map]

set_option maxHeartbeats 2000000 in
theorem drop_any {h : Heap} {q o : Nat} {D : DD} {R : List RF} {rl : Nat} {la : Option Addr} {lc : Nat} {ka : Option Addr} {kn kc : Nat} (ho : o ≠ 0) (d : Rd' h q o D R rl la lc ka kn kc) (h16 : R.length ≤ 16) {i : Nat} (hi : i < R.length) :
    ACalls PR 59 #[Ptr q, I i] h (fun v h' => v = .tuple #[] ∧ (∃ rn la' lc', Rd' h' q o { D with fs := D.fs.eraseIdx i } (R.eraseIdx i) rn la' lc' ka kn kc ∧ ∀ x ∈ R, x.Ok h' o) ∧ Keep o h h') := by
  obtain ⟨rn, hrn, hrn'⟩ := exists_role (rl :: R.map (·.ro))
  simp only [List.mem_cons, not_or] at hrn'
  have big := d.big
  have hrl := big rl (by simp)
  have a1 := d.at_
  have s1 := d.row_.sl
  have hle := s1.le
  refine acalls_of mix Try.func59 rfl rfl Try.ntmps59 Try.results59 rfl ?_; conv => whnf
  refine ALoad.one rfl a1 rfl ?_; conv => whnf
  refine ASlc.upto (m := i) rfl (by omega) rfl rfl ?_; conv => whnf
  have sA : Sl h (o, rl) la i lc 3 (rcells (R.take i)) := by
    have := s1.slice (l := 0) (m := i) (x := lc) (by omega) (by omega) (by omega)
    rw [slBase_zero] at this
    simpa [rcells_take] using this
  refine AAppend.own (t := (o, rn)) (E := 76) (z := 3) (by_ := 48) (zero := [S [], .slice none 0 0, I 0]) (cs := []) rfl ⟨_, rfl⟩ rfl rfl rfl rfl (by omega) (.inl ⟨rfl, rfl, rfl⟩) sA (oneCell_rcells _) (by omega) (by omega) fun a2 c2 h2 o2 k2 s2 => ?_
  conv => whnf
  have s2 := s2 rfl
  rw [List.nil_append] at o2
  have a2' := s2 _ _ a1
  refine ALoad.one rfl a2' rfl ?_; conv => whnf
  refine AArith.ok (by omega) (by omega) ((by omega : (i : Int) + 1 = ((i + 1 : Nat) : Int))) ?_; conv => whnf
  refine ASlc.from (l := i + 1) rfl (by omega) (by omega) rfl rfl ?_; conv => whnf
  have sB : Sl h2 (o, rl) (slBase la (i + 1) lc 3) (R.length - (i + 1)) (lc - (i + 1)) 3 (rcells (R.drop (i + 1))) := by
    have := (s1.sub s2).slice (l := i + 1) (m := R.length) (x := lc) (by omega) (by omega) (by omega)
    rw [rcells_drop, List.take_of_length_le (by rw [rcells_len, List.length_drop]; omega)] at this
    exact this
  refine AAppend.own (t := (o, rn)) (E := 76) (z := 3) (by_ := 48) (zero := [S [], .slice none 0 0, I 0]) rfl ⟨_, rfl⟩ rfl rfl rfl rfl (by omega) o2 sB (oneCell_rcells _) (by omega) (by omega) fun a3 c3 h3 o3 k3 _ => ?_
  conv => whnf
  have hq0 : ((o, 0) : Tag) ≠ (o, rn) := by intro c; injection c with _ c; omega
  have a3' := k3.get hq0 a2'
  refine AStore.one' rfl rfl rfl a3' rfl ?_; conv => whnf
  rw [← rcells_append] at o3
  have her : R.take i ++ R.drop (i + 1) = R.eraseIdx i := (List.eraseIdx_eq_take_drop_succ R i).symm
  rw [her] at o3
  have hel : (R.eraseIdx i).length = R.length - 1 := List.length_eraseIdx_of_lt hi
  have hn : 0 + i + (R.length - (i + 1)) = (R.eraseIdx i).length := by omega
  rw [hn] at o3
  rw [show Value.slice a3 (0 + i + (R.length - (i + 1))) c3 = Value.slice a3 (R.eraseIdx i).length c3 by rw [hn]]
  have kq := KeepT.set (y := .cells [.slice a3 (R.eraseIdx i).length c3, .bool D.dead, I D.arm, .slice ka kn kc].toArray 72 (0, 0)) a3'
  have okk : ∀ x ∈ R, x.Ok (h3.set q (row (o, 0) [.slice a3 (R.eraseIdx i).length c3, .bool D.dead, I D.arm, .slice ka kn kc] 72)) o := fun x hx => by
    have h10 := big x.ro (by simp; exact .inr ⟨x, hx, rfl⟩)
    refine Own.keepT (Own.keepT (Own.move (d.ok x hx) fun _ _ e => s2 _ _ e) k3 ?_) kq ?_
    · intro c; injection c with _ c; exact hrn'.2 (List.mem_map.2 ⟨x, hx, c⟩)
    · intro c; injection c with _ c; omega
  have hsub : ∀ z ∈ R.eraseIdx i, z ∈ R := fun z hz => erase_mem hz
  refine ⟨rfl, ⟨rn, a3, c3, ⟨Heap.set_same _ _ _, ?_, ?_, fun x hx => okk x (hsub x hx), ?_, ?_, ?_⟩, okk⟩, ((s2.keep o).trans k3.keep).trans kq.keep⟩
  · exact o3.keepT kq (by intro c; injection c with _ c; omega)
  · exact ((d.keep.sub s2).keepT k3 (by intro c; injection c with _ c; omega)).keepT kq (by simp)
  · rw [map_eraseIdx, d.fs]
  · have hd := d.nodup
    rw [List.nodup_cons] at hd ⊢
    rw [map_eraseIdx]
    exact ⟨fun c => hrn'.2 (erase_mem c), hd.2.sublist (List.eraseIdx_sublist _ _)⟩
  · intro r hr
    rcases List.mem_cons.1 hr with rfl | hr
    · exact hrn
    · rw [map_eraseIdx] at hr
      exact big r (by simp only [List.mem_cons]; exact .inr (erase_mem hr))

theorem erase_dout {fs : List DF} (hr : Rise fs) {f : DF} {i : Nat} (hi : fs[i]? = some f) : fs.eraseIdx i = dout f.name fs :=
  rise_perm (hr.sublist (List.eraseIdx_sublist _ _)) (dout_rise hr) (dout_erase hr (.refl _) hi)

theorem refRead_any {h : Heap} {q o : Nat} {D : DD} (da : RA h q o D) (g : Good D) (n : Nm) (tg : Tag) :
    ACalls PR 49 #[Ptr q, S n] h (fun v h' => ∃ a c, v = .tuple #[.slice a (dread D n).1.length c, I (dread D n).2] ∧ Own h' tg 5 a (dread D n).1.length c 1 (bytesV (dread D n).1) ∧ Sub h h') := by
  obtain ⟨R, rl, la, lc, ka, kn, kc, d⟩ := da
  have a1 := d.at_
  refine acalls_of mix Try.func49 rfl rfl Try.ntmps49 Try.results49 rfl ?_; conv => whnf
  cases hd : D.dead with
  | true =>
    rw [hd] at a1
    have e : dread D n = ([], 120) := by simp [dread, hd]
    rw [e]
    refine ALoad.one rfl a1 rfl ?_; conv => whnf
    exact ⟨none, 0, rfl, .inl ⟨rfl, rfl, rfl⟩, Sub.refl _⟩
  | false =>
  rw [hd] at a1
  refine ALoad.one rfl a1 rfl ?_; conv => whnf
  refine ACalls.mono (at_any d g n) ?_; rintro _ _ ⟨rfl, rfl⟩; conv => whnf
  cases hf : dfind D.fs n with
  | none =>
    have e : dread D n = ([], 121) := by simp [dread, hd, hf]
    rw [e, rat_none d.fs hf]
    refine ACmp.yes (by omega) ?_; conv => whnf
    exact ⟨none, 0, rfl, .inl ⟨rfl, rfl, rfl⟩, Sub.refl _⟩
  | some f =>
    obtain ⟨i, x, hr, hx, rfl⟩ := rat_some d.fs hf
    have e : dread D n = (x.f.b, 0) := by simp [dread, hd, hf]
    have hlt := (List.getElem?_eq_some_iff.1 hx).1
    obtain ⟨b, l, rfl, hb, hp, hg, _⟩ := d.get hx
    have ok := d.ok x (List.mem_of_getElem? hx)
    have hxl := ok.len
    have hfl := g.len x.f (dfind_some hf).1
    rw [e, hr]
    refine ACmp.no (by omega) ?_; conv => whnf
    refine ALoad.one rfl a1 rfl ?_; conv => whnf
    refine AIdx.nat (z := 3) rfl hlt rfl rfl ?_; conv => whnf
    refine ALoad.one rfl hb (by rw [Nat.zero_add]; exact (hg 1 (by omega)).1) ?_; conv => whnf
    have okl : Sl h (o, x.ro) x.a x.n x.c 1 (bytesV x.f.b) := Own.sl ok
    refine ACalls.mono (copyB_any _ tg okl (by omega)) ?_; rintro _ h' ⟨a', c', rfl, ho, s⟩; conv => whnf
    rw [← hxl] at ho ⊢
    exact ⟨a', c', rfl, ho, s⟩

theorem refArm_any {h : Heap} {q o : Nat} {D : DD} (ho : o ≠ 0) (da : RA h q o D) (n : Int) {tk : Tag} {ka' : Option Addr} {kn' kc' : Nat} {keep : List Int}
    (sk : Sl h tk ka' kn' kc' 1 (keep.map I)) (hk : tk.1 ≠ o) (hkn : kn' * 8 ≤ 140737488355328) :
    ACalls PR 46 #[Ptr q, I n, .slice ka' kn' kc'] h (fun v h' => v = I (darm D n keep).1 ∧ RA h' q o (darm D n keep).2 ∧ Keep o h h') := by
  obtain ⟨R, rl, la, lc, ka, kn, kc, d⟩ := da
  have a1 := d.at_
  refine acalls_of mix Try.func46 rfl rfl Try.ntmps46 Try.results46 rfl ?_; conv => whnf
  cases hd : D.dead with
  | true =>
    rw [hd] at a1
    have e : darm D n keep = (120, D) := by simp [darm, hd]
    rw [e]
    refine ALoad.one rfl a1 rfl ?_; conv => whnf
    exact ⟨rfl, ⟨_, _, _, _, _, _, _, d⟩, Keep.refl _ _⟩
  | false =>
    have a1d := a1
    rw [hd] at a1
    have e : darm D n keep = (0, { D with arm := max n (-1), keep := keep }) := by simp [darm, hd]
    rw [e]
    refine ALoad.one rfl a1 rfl ?_; conv => whnf
    refine AInt.as (r' := max n (-1)) (by split <;> omega) ?_; conv => whnf
    refine AStore.one' rfl rfl rfl a1 rfl ?_; conv => whnf
    have kt := KeepT.set (y := .cells [.slice la R.length lc, .bool false, I (max n (-1)), .slice ka kn kc].toArray 72 (0, 0)) a1
    have sk2 := sk.keepT kt (fun c => hk (by rw [c]))
    have b1 := Heap.set_same h q (row (o, 0) [.slice la R.length lc, .bool false, I (max n (-1)), .slice ka kn kc] 72)
    generalize h.set q (row (o, 0) [.slice la R.length lc, .bool false, I (max n (-1)), .slice ka kn kc] 72) = h2 at kt sk2 b1 ⊢
    refine ACalls.mono (copyI_any _ (o, 3) sk2 hkn) ?_; rintro _ h3 ⟨a', c', rfl, ho3, s3⟩; conv => whnf
    have b3 := s3 _ _ b1
    refine AStore.one' rfl rfl rfl b3 rfl ?_; conv => whnf
    have kt3 := KeepT.set (y := .cells [.slice la R.length lc, .bool false, I (max n (-1)), .slice a' kn' c'].toArray 72 (0, 0)) b3
    have ktt := (kt.trans (s3.keepT _)).trans kt3
    refine ⟨rfl, ⟨R, rl, la, lc, a', kn', c', d.cells (D' := { D with arm := max n (-1), keep := keep }) ktt ?_ (ho3.sl.keepT kt3 (by simp)) rfl⟩, ktt.keep⟩
    simp only [hd]
    exact Heap.set_same _ _ _

theorem refList_any {h : Heap} {q o : Nat} {D : DD} (da : RA h q o D) (g : Good D) :
    ACalls PR 51 #[Ptr q] h (fun v h' => (∃ a c t, v = .slice a (dlist D).length c ∧ Sl h' t a (dlist D).length c 1 ((dlist D).map S)) ∧ Sub h h') := by
  obtain ⟨R, rl, la, lc, ka, kn, kc, d⟩ := da
  have a1 := d.at_
  have hlen := d.len
  have h16 := g.size
  refine ACalls.owner ⟨Try.f51, Try.func51, rfl, rfl⟩ fun oo hoo bnd => ?_
  refine acalls_of mix Try.func51 rfl rfl Try.ntmps51 Try.results51 rfl ?_; conv => whnf
  refine ALoop.mk (fun e h2 => Keep oo h h2 ∧ ∃ e0, ∃ i : Nat, ∃ oa oc, e = updL 33 e0 [(0, Ptr q), (3, .slice oa i oc), (4, I i)] ∧ i ≤ (dlist D).length ∧ Own h2 (oo, 1) 9 oa i oc 1 (((dlist D).take i).map S)) (fun e => (dlist D).length - natOf (e 4))
    ⟨Keep.refl _ _, _, 0, none, 0, updL_self ⟨rfl, rfl, rfl, trivial⟩, by omega, .inl ⟨rfl, rfl, rfl⟩⟩ ?_
  rintro e h2 ⟨k2, e0, i, oa, oc, rfl, hi, own2⟩
  have hsub := k2.toSub (bnd.no (Nat.le_refl _))
  have a2 := hsub _ _ a1
  conv => whnf
  refine ALoad.one rfl a2 rfl ?_; conv => whnf
  by_cases hlt : i < R.length
  · refine ACmp.yes (by omega) ?_; conv => whnf
    cases hd : D.dead with
    | true =>
      rw [hd] at a2
      refine ALoad.one rfl a2 rfl ?_; conv => whnf
      have e : dlist D = [] := by simp [dlist, hd]
      rw [e] at hi own2 ⊢
      have hi0 : i = 0 := by simpa using hi
      subst hi0
      exact ⟨⟨oa, oc, _, rfl, own2.sl⟩, hsub⟩
    | false =>
      have e : dlist D = D.fs.map (·.name) := by simp [dlist, hd]
      rw [hd] at a2
      refine ALoad.one rfl a2 rfl ?_; conv => whnf
      refine ALoad.one rfl a2 rfl ?_; conv => whnf
      have hxf : R[i].f = D.fs[i] := by
        have h1 : (R.map (·.f))[i]? = some R[i].f := by simp [hlt]
        rw [d.fs] at h1
        obtain ⟨_, h2⟩ := List.getElem?_eq_some_iff.1 h1
        exact h2.symm
      obtain ⟨b, l, rfl, hb, hp, hg, _⟩ := d.get (i := i) (x := R[i]) (by simp [hlt])
      have hb2 := hsub _ _ hb
      refine AIdx.nat (z := 3) rfl hlt rfl rfl ?_; conv => whnf
      refine ALoad.one rfl hb2 (by rw [Nat.zero_add]; exact (hg 0 (by omega)).1) ?_; conv => whnf
      refine ABuildSl.mk (0, 1) rfl rfl rfl rfl rfl rfl rfl fun b6 f6 => ?_; conv => whnf
      have s6 := f6.sub (row (0, 1) [S R[i].f.name] 9)
      have k6 := Heap.set_same h2 b6 (row (0, 1) [S R[i].f.name] 9)
      have x6 : Sl (h2.set b6 (row (0, 1) [S R[i].f.name] 9)) (0, 1) (some ⟨b6, 0, none⟩) 1 1 1 [S R[i].f.name] := ⟨rfl, Nat.le_refl _, .inr ⟨b6, 0, _, _, _, rfl, k6, rfl⟩⟩
      have own4 := own2.move (h' := h2.set b6 (row (0, 1) [S R[i].f.name] 9)) fun _ _ e => s6 _ _ e
      refine AAppend.own (t := (oo, 1)) (E := 9) (z := 1) (by_ := 16) (zero := [S []]) rfl ⟨_, rfl⟩ rfl rfl rfl rfl (by omega) own4 x6 rfl (by omega) (by omega) fun a5 c5 h5 own5 kt5 _ => ?_
      conv => whnf
      refine AArith.ok (by omega) (by omega) ((by omega : (i : Int) + 1 = ((i + 1 : Nat) : Int))) ?_; conv => whnf
      have hll : (dlist D).length = D.fs.length := by rw [e]; simp
      refine ⟨⟨k2.trans ((s6.keep oo).trans kt5.keep), _, i + 1, a5, c5, updL_self ⟨rfl, rfl, rfl, trivial⟩, by omega, ?_⟩, ?_⟩
      · have hlt' : i < (dlist D).length := by omega
        rw [List.take_succ_eq_append_getElem hlt', List.map_append]
        have : (dlist D)[i] = R[i].f.name := by simp [e, hxf]
        rw [List.map_cons, this]
        exact own5
      · show (dlist D).length - (i + 1) < (dlist D).length - i
        omega
  · refine ACmp.no (by omega) ?_; conv => whnf
    have hie : i = (dlist D).length := by
      unfold dlist at hi ⊢
      split
      · rename_i hd; rw [if_pos hd] at hi; simpa using hi
      · rename_i hd; rw [if_neg hd] at hi; simp only [List.length_map] at hi ⊢; omega
    subst hie
    rw [List.take_length] at own2
    exact ⟨⟨oa, oc, _, rfl, own2.sl⟩, hsub⟩
end Go.Ah
