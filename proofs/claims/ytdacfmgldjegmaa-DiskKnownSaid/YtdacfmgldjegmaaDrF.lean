/- The document's disk: Append. -/
import Derived.Test.YtdacfmgldjegmaaDrE
namespace Go.Ah
open Go.Proofs
set_option linter.unusedVariables false
set_option linter.unusedSimpArgs false
set_option maxRecDepth 20000
abbrev adr (b : Nat) : Option Addr := some ⟨b, 0, none⟩

set_option maxHeartbeats 4000000 in
theorem refAppend_any {h : Heap} {q o : Nat} {D : DD} (ho : o ≠ 0) (da : RA h q o D) (g : Good D) (n : Nm) (hnl : n.length ≤ 9223372036854775807) {tb : Tag} {ba : Option Addr} {bn bc : Nat} {bs : List Int}
    (sb : Sl h tb ba bn bc 1 (bytesV bs)) (hb : tb.1 ≠ o) (hb1 : tb ≠ (0, 1)) (hbn : bn ≤ 140737488355328) :
    ACalls PR 30 #[Ptr q, S n, .slice ba bn bc] h (fun v h' => v = I (dappend D n bs).1 ∧ RA h' q o (dappend D n bs).2 ∧ Keep o h h') := by
  obtain ⟨R, rl, la, lc, ka, kn, kc, d⟩ := da
  have a1 := d.at_
  have h16 := g.size
  have hlen := d.len
  have hbl : bs.length = bn := by have := sb.len; simpa [bytesV] using this
  refine acalls_of mix Try.func30 rfl rfl Try.ntmps30 Try.results30 rfl ?_; conv => whnf
  cases hd : D.dead with
  | true =>
    rw [hd] at a1
    have e : dappend D n bs = (120, D) := by simp [dappend, hd]
    rw [e]
    refine ALoad.one rfl a1 rfl ?_; conv => whnf
    exact ⟨rfl, ⟨_, _, _, _, _, _, _, d⟩, Keep.refl _ _⟩
  | false =>
  rw [hd] at a1
  refine ALoad.one rfl a1 rfl ?_; conv => whnf
  have cn := refName_any n hnl h
  cases hnm : nmOk n with
  | false =>
    have e : dappend D n bs = (121, D) := by simp [dappend, hd, hnm]
    rw [e]
    rw [hnm] at cn
    refine ACalls.mono (cn) ?_; rintro _ _ ⟨rfl, rfl⟩; conv => whnf
    exact ⟨rfl, ⟨_, _, _, _, _, _, _, d⟩, Keep.refl _ _⟩
  | true =>
  rw [hnm] at cn
  refine ACalls.mono (cn) ?_; rintro _ _ ⟨rfl, rfl⟩; conv => whnf
  refine ACalls.mono (at_any d g n) ?_; rintro _ _ ⟨rfl, rfl⟩; conv => whnf
  refine AAlloc.mk (0, 1) rfl fun b8 f8 => ?_; conv => whnf
  refine AStore.agg' rfl rfl rfl (Heap.set_same _ _ _) rfl ?_; conv => whnf
  rw [Heap.set_set]
  cases hf : dfind D.fs n with
  | none =>
    rw [rat_none d.fs hf]
    have xok : Sl h (o, 10) none 0 0 1 (bytesV []) := Sl.nil ..
    have s8 := f8.sub (row (0, 1) [S n, .slice none 0 0, I 0] 76)
    have k8 := Heap.set_same h b8 (row (0, 1) [S n, .slice none 0 0, I 0] 76)
    have d8 : Rd' (h.set b8 (row (0, 1) [S n, .slice none 0 0, I 0] 76)) q o D R rl la lc ka kn kc := d.move fun _ _ _ _ e => s8 _ _ e
    have sb8 := sb.sub s8
    have xok8 : Sl (h.set b8 (row (0, 1) [S n, .slice none 0 0, I 0] 76)) (o, 10) none 0 0 1 (bytesV []) := xok.sub s8
    generalize h.set b8 (row (0, 1) [S n, .slice none 0 0, I 0] 76) = h3 at s8 k8 d8 sb8 xok8 ⊢
    have c1 := d8.at_
    refine ACmp.no (by omega) ?_; conv => whnf
    refine ACmp.yes (by omega) ?_; conv => whnf
    refine ALoad.one rfl c1 rfl ?_; conv => whnf
    by_cases hc16 : D.fs.length = 16
    · have e : dappend D n bs = (5, D) := by simp [dappend, hd, hnm, hf, hc16]
      rw [e]
      refine ACmp.yes (by omega) ?_; conv => whnf
      exact ⟨rfl, ⟨_, _, _, _, _, _, _, d8⟩, s8.keep o⟩
    · refine ACmp.no (by omega) ?_; conv => whnf
      refine ALoad.one rfl k8 rfl ?_; conv => whnf
      refine AArith.ok (by omega) (by omega) (rfl) ?_; conv => whnf
      by_cases hlim : 262144 < bs.length
      · have e : dappend D n bs = (5, D) := by simp [dappend, hd, hnm, hf, hlim]
        rw [e]
        refine ACmp.yes (by omega) ?_; conv => whnf
        exact ⟨rfl, ⟨_, _, _, _, _, _, _, d8⟩, s8.keep o⟩
      · refine ACmp.no (by omega) ?_; conv => whnf
        have hnf : D.fs.length ≠ 16 := hc16
        cases hgo : (dgone D).1 with
        | true =>
          have e : dappend D n bs = (120, (dgone D).2) := by simp [dappend, hd, hnm, hf, hlim, hgo, hnf]
          rw [e]
          refine ACalls.mono (refgone_go ho hd ⟨_, _, _, _, _, _, _, d8⟩ g hgo) ?_; rintro _ h4 ⟨rfl, d4, k4⟩; conv => whnf
          exact ⟨rfl, d4, (s8.keep o).trans k4⟩
        | false =>
          have e : dappend D n bs = (0, { (dgone D).2 with fs := dput ⟨n, [] ++ bs, 0⟩ D.fs }) := by simp [dappend, hd, hnm, hf, hlim, hgo, hnf]
          rw [e]
          obtain ⟨gf, gd, gk, _, _⟩ := gone_fs hgo
          refine ACalls.mono (refgone_no d8 g hgo) ?_; rintro _ h4 ⟨rfl, d4, k4⟩; conv => whnf
          have k8' := k4.get (u := (0, 1)) (fun c => by injection c with c _; exact ho c.symm) k8
          have xok4 := xok8.keepT k4 (fun c => by injection c with _ c; omega)
          have sb4 := sb8.keepT k4 (fun c => hb (by rw [c]))
          obtain ⟨rn, hrn, hrn'⟩ := exists_role (rl :: R.map (·.ro))
          simp only [List.mem_cons, not_or] at hrn'
          refine ALoad.one rfl k8' rfl ?_; conv => whnf
          refine ACalls.mono (copyB_any _ (o, rn) xok4 (by omega)) ?_; rintro _ h5 ⟨a5, c5, rfl, o5, s5⟩; conv => whnf
          refine AAppend.own (t := (o, rn)) (E := 5) (z := 1) (by_ := 1) (zero := [.int .u8 0]) rfl ⟨_, rfl⟩ rfl rfl rfl rfl (by omega) o5 (sb4.sub s5) (oneCell_bytes _) (by omega) (by omega) fun a6 c6 h6 o6 k6 _ => ?_
          conv => whnf
          have k86 := k6.get (u := (0, 1)) (fun c => by injection c with c _; exact ho c.symm) (s5 _ _ k8')
          refine AStore.one' rfl rfl rfl k86 rfl ?_; conv => whnf
          have kt := KeepT.set (y := .cells [S n, .slice a6 (0 + bn) c6, I 0].toArray 76 (0, 0)) k86
          have d6 : Rd' h6 q o (dgone D).2 R rl la lc ka kn kc := by
            have d5 : Rd' h5 q o (dgone D).2 R rl la lc ka kn kc := d4.move fun _ _ _ _ e => s5 _ _ e
            have big := d.big
            refine ⟨k6.get (by intro c; injection c with _ c; omega) d5.at_, d5.row_.keepT k6 (by intro c; injection c with _ c; exact hrn'.1 c.symm), d5.keep.keepT k6 (by intro c; injection c with _ c; omega), fun z hz => Own.keepT (d5.ok z hz) k6 ?_, d5.fs, d5.nodup, d5.big⟩
            intro c; injection c with _ c; exact hrn'.2 (List.mem_map.2 ⟨z, hz, c⟩)
          have d7 : Rd' (h6.set b8 (row (0, 1) [S n, .slice a6 (0 + bn) c6, I 0] 76)) q o (dgone D).2 R rl la lc ka kn kc := d6.move fun b t y ht e => kt _ _ _ (fun c => by rw [c] at ht; exact ho ht.symm) e
          have ok7 : RF.Ok (h6.set b8 (row (0, 1) [S n, .slice a6 (0 + bn) c6, I 0] 76)) o ⟨⟨n, [] ++ bs, 0⟩, a6, 0 + bn, c6, rn⟩ := by
            have := o6.keepT kt (fun c => by injection c with c _; exact ho c)
            unfold RF.Ok
            simpa [bytesV] using this
          refine ALoad.agg rfl (Heap.set_same _ _ _) rfl rfl ?_; conv => whnf
          refine ACalls.mono (put_any ho d7 (by omega) (by rw [gf]; exact g.rise) ⟨⟨n, [] ++ bs, 0⟩, a6, 0 + bn, c6, rn⟩ ok7 hrn (fun z hz c => hrn'.2 (List.mem_map.2 ⟨z, (List.mem_filter.1 hz).1, c⟩))) ?_; rintro _ h9 ⟨rfl, d9, k9⟩; conv => whnf
          rw [gf] at d9
          refine ⟨rfl, d9, fun b t y ht e => ?_⟩
          have hne : b ≠ b8 := f8.ne e
          exact k9 _ _ _ ht (Heap.set_ne hne (k6.keep _ _ _ ht (s5 _ _ (k4.keep _ _ _ ht (s8 _ _ e)))))
  | some f =>
    obtain ⟨i, x, hr, hx, rfl⟩ := rat_some d.fs hf
    obtain ⟨hfm, hfn⟩ := dfind_some hf
    have hlt := (List.getElem?_eq_some_iff.1 hx).1
    have ok := d.ok x (List.mem_of_getElem? hx)
    have hxl := ok.len
    have hfl := g.len x.f hfm
    have hro := d.big x.ro (by simp; exact .inr ⟨x, List.mem_of_getElem? hx, rfl⟩)
    obtain ⟨b, l, rfl, hbk, hp, hg, _⟩ := d.get hx
    rw [hr]
    refine ACmp.yes (by omega) ?_; conv => whnf
    have s8a := f8.sub (row (0, 1) [S n, .slice none 0 0, I 0] 76)
    have a1' := s8a _ _ a1
    refine ALoad.one rfl a1' rfl ?_; conv => whnf
    refine AIdx.nat (z := 3) rfl hlt rfl rfl ?_; conv => whnf
    refine ALoad.agg (n := 3) (vs := x.cells) rfl (s8a _ _ hbk) (by rw [Nat.zero_add]; exact hp) rfl ?_; conv => whnf
    refine AStore.agg' rfl rfl rfl (Heap.set_same _ _ _) rfl ?_; conv => whnf
    rw [Heap.set_set, hfn]
    have xok : Sl h (o, x.ro) x.a x.n x.c 1 (bytesV x.f.b) := Own.sl ok
    have s8 := f8.sub (row (0, 1) [S n, .slice x.a x.n x.c, I x.f.s] 76)
    have k8 := Heap.set_same h b8 (row (0, 1) [S n, .slice x.a x.n x.c, I x.f.s] 76)
    have d8 : Rd' (h.set b8 (row (0, 1) [S n, .slice x.a x.n x.c, I x.f.s] 76)) q o D R rl (adr b) lc ka kn kc := d.move fun _ _ _ _ e => s8 _ _ e
    have sb8 := sb.sub s8
    have xok8 : Sl (h.set b8 (row (0, 1) [S n, .slice x.a x.n x.c, I x.f.s] 76)) (o, x.ro) x.a x.n x.c 1 (bytesV x.f.b) := xok.sub s8
    generalize h.set b8 (row (0, 1) [S n, .slice x.a x.n x.c, I x.f.s] 76) = h3 at s8 k8 d8 sb8 xok8 ⊢
    refine ACmp.no (by omega) ?_; conv => whnf
    refine ALoad.one rfl k8 rfl ?_; conv => whnf
    refine AArith.ok (by omega) (by omega) (rfl) ?_; conv => whnf
    by_cases hlim : 262144 < x.f.b.length + bs.length
    · have e : dappend D n bs = (5, D) := by simp [dappend, hd, hnm, hf, hlim]
      rw [e]
      refine ACmp.yes (by omega) ?_; conv => whnf
      exact ⟨rfl, ⟨_, _, _, _, _, _, _, d8⟩, s8.keep o⟩
    · refine ACmp.no (by omega) ?_; conv => whnf
      have hnf : True := trivial
      cases hgo : (dgone D).1 with
      | true =>
        have e : dappend D n bs = (120, (dgone D).2) := by simp [dappend, hd, hnm, hf, hlim, hgo, hnf]
        rw [e]
        refine ACalls.mono (refgone_go ho hd ⟨_, _, _, _, _, _, _, d8⟩ g hgo) ?_; rintro _ h4 ⟨rfl, d4, k4⟩; conv => whnf
        exact ⟨rfl, d4, (s8.keep o).trans k4⟩
      | false =>
        have e : dappend D n bs = (0, { (dgone D).2 with fs := dput ⟨n, x.f.b ++ bs, x.f.s⟩ D.fs }) := by simp [dappend, hd, hnm, hf, hlim, hgo, hnf]
        rw [e]
        obtain ⟨gf, gd, gk, _, _⟩ := gone_fs hgo
        refine ACalls.mono (refgone_no d8 g hgo) ?_; rintro _ h4 ⟨rfl, d4, k4⟩; conv => whnf
        have k8' := k4.get (u := (0, 1)) (fun c => by injection c with c _; exact ho c.symm) k8
        have xok4 := xok8.keepT k4 (fun c => by injection c with _ c; omega)
        have sb4 := sb8.keepT k4 (fun c => hb (by rw [c]))
        obtain ⟨rn, hrn, hrn'⟩ := exists_role (rl :: R.map (·.ro))
        simp only [List.mem_cons, not_or] at hrn'
        refine ALoad.one rfl k8' rfl ?_; conv => whnf
        refine ACalls.mono (copyB_any _ (o, rn) xok4 (by omega)) ?_; rintro _ h5 ⟨a5, c5, rfl, o5, s5⟩; conv => whnf
        refine AAppend.own (t := (o, rn)) (E := 5) (z := 1) (by_ := 1) (zero := [.int .u8 0]) rfl ⟨_, rfl⟩ rfl rfl rfl rfl (by omega) o5 (sb4.sub s5) (oneCell_bytes _) (by omega) (by omega) fun a6 c6 h6 o6 k6 _ => ?_
        conv => whnf
        have k86 := k6.get (u := (0, 1)) (fun c => by injection c with c _; exact ho c.symm) (s5 _ _ k8')
        refine AStore.one' rfl rfl rfl k86 rfl ?_; conv => whnf
        have kt := KeepT.set (y := .cells [S n, .slice a6 (x.n + bn) c6, I x.f.s].toArray 76 (0, 0)) k86
        have d6 : Rd' h6 q o (dgone D).2 R rl (adr b) lc ka kn kc := by
          have d5 : Rd' h5 q o (dgone D).2 R rl (adr b) lc ka kn kc := d4.move fun _ _ _ _ e => s5 _ _ e
          have big := d.big
          refine ⟨k6.get (by intro c; injection c with _ c; omega) d5.at_, d5.row_.keepT k6 (by intro c; injection c with _ c; exact hrn'.1 c.symm), d5.keep.keepT k6 (by intro c; injection c with _ c; omega), fun z hz => Own.keepT (d5.ok z hz) k6 ?_, d5.fs, d5.nodup, d5.big⟩
          intro c; injection c with _ c; exact hrn'.2 (List.mem_map.2 ⟨z, hz, c⟩)
        have d7 : Rd' (h6.set b8 (row (0, 1) [S n, .slice a6 (x.n + bn) c6, I x.f.s] 76)) q o (dgone D).2 R rl (adr b) lc ka kn kc := d6.move fun b t y ht e => kt _ _ _ (fun c => by rw [c] at ht; exact ho ht.symm) e
        have ok7 : RF.Ok (h6.set b8 (row (0, 1) [S n, .slice a6 (x.n + bn) c6, I x.f.s] 76)) o ⟨⟨n, x.f.b ++ bs, x.f.s⟩, a6, x.n + bn, c6, rn⟩ := by
          have := o6.keepT kt (fun c => by injection c with c _; exact ho c)
          unfold RF.Ok
          simpa [bytesV] using this
        refine ALoad.agg rfl (Heap.set_same _ _ _) rfl rfl ?_; conv => whnf
        refine ACalls.mono (put_any ho d7 (by omega) (by rw [gf]; exact g.rise) ⟨⟨n, x.f.b ++ bs, x.f.s⟩, a6, x.n + bn, c6, rn⟩ ok7 hrn (fun z hz c => hrn'.2 (List.mem_map.2 ⟨z, (List.mem_filter.1 hz).1, c⟩))) ?_; rintro _ h9 ⟨rfl, d9, k9⟩; conv => whnf
        rw [gf] at d9
        refine ⟨rfl, d9, fun b t y ht e => ?_⟩
        have hne : b ≠ b8 := f8.ne e
        exact k9 _ _ _ ht (Heap.set_ne hne (k6.keep _ _ _ ht (s5 _ _ (k4.keep _ _ _ ht (s8 _ _ e)))))
end Go.Ah
