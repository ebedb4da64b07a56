/- Texts that the law leans on, one behind the other. -/
import Derived.Test.YtdmjkpjedidipaaGreatKCl7
namespace Go.Ah
open Go.Proofs
set_option linter.unusedVariables false
set_option linter.unusedSimpArgs false
set_option maxRecDepth 20000
set_option maxHeartbeats 8000000 in
theorem rtold_any {h:Heap} {p o oo:Nat} {c:CoreM} (ap:Apart o oo) (k:RCore h p o oo c) (lk:DLk c) (nk:NextOk c) (mk:MtchOk c) (hs1:1≤c.self) (hs2:c.self≤5) (x:PH) (hx1:1≤x.src) (hx2:x.src≤5)
  (hi0:0≤x.index) (hi1:x.index≤9007199254740991) (hro:c.out.reads=[]) (hrl:c.reads.length≤100000000) (hp:c.out.posts.length≤999999990) :
  ACalls PR 99 #[Ptr p, .agg x.cells.toArray] h (fun v h'=>v = .tuple #[]∧RCore h' p o oo (c.told x.abs)∧Keeps [o,o+1,oo] h h'):=by
 obtain ⟨cx,k⟩:=k
 have hlast:=lk.lk.lo.last
 have htop:=lk.lk.lo.top
 have hlo:=lk.lk.lo.lo
 obtain ⟨m,hm⟩:∃ m:Nat,x.src=m:=⟨x.src.toNat,by omega⟩
 have hHe:∀ d y,(coreCells d y)[0+14+13+m*1]? = some (I (d.heard.get x.src)):=fun d y=>by have:=heard_cell d y hx1 hx2;rw [show 0+14+13+m*1=27+x.src.toNat by omega];exact this
 have hMt:∀ d y,(coreCells d y)[0+14+7+m*1]? = some (I (d.mtch.get x.src)):=fun d y=>by have:=mtch_cell d y hx1 hx2;rw [show 0+14+7+m*1=21+x.src.toNat by omega];exact this
 have hNx:∀ d y,(coreCells d y)[0+14+1+m*1]? = some (I (d.next.get x.src)):=fun d y=>by have:=next_cell d y hx1 hx2;rw [show 0+14+1+m*1=15+x.src.toNat by omega];exact this
 have lt:∀ {l:List Value} {i:Nat} {v:Value},l[i]? = some v→Nat.ble (i+1) l.length=true:=fun h=>Nat.ble_eq_true_of_le (List.getElem?_eq_some_iff.1 h).1
 refine acalls_ofj mix Tryz.func99 rfl rfl Tryz.ntmps99 Tryz.results99 rfl ?_;conv=>whnf
 refine ABox.mkN (0,1) (x.cells) rfl fun b3 h1 n1 s1 k1=>?_;conv=>whnf
 have q:=k.sub s1
 refine ALoad.one rfl k1 rfl ?_;conv=>whnf
 refine AIf.go ?_;conv=>whnf
 refine ADrawn.mk (h1) [14] (Sub.refl _) (by decide +kernel) ?_;conv=>whnf
 refine AIdxA.nat (n:=6) (z:=1) (j:=m) (by omega) (by omega) rfl rfl ?_;conv=>whnf
 refine ALoad.one rfl q.str (hHe _ _) ?_
 refine ALoad.one rfl k1 rfl ?_;conv=>whnf
 refine AInt.as (show _=maxI (c.heard.get x.src) x.hint from rfl) ?_;conv=>whnf
 refine AIdxA.nat (n:=6) (z:=1) (j:=m) (by omega) (by omega) rfl rfl ?_;conv=>whnf
 refine AStore.oneN rfl rfl rfl q.str (lt (hHe _ _)) (coreCells (c.told1 x.abs) cx) (by rw [show 0+14+13+m*1=27+x.src.toNat by omega];exact heard_set c cx hx1 hx2 _) fun h2 t2 k2 a2 e2=>?_;conv=>whnf
 have q2:=q.set' (c':=c.told1 x.abs) ap.a t2 k2
 have k12:=t2.get (tag_ne ap.c) k1
 have kk2:Keeps [o,o+1,oo] h h2:=(s1.keeps _).trans (t2.keep.keeps (by simp))
 obtain ⟨c1,hc1⟩:∃ c1,c1=c.told1 x.abs:=⟨_,rfl⟩
 have f1:c1.log=c.log:=by rw [hc1];rfl
 have f2:c1.mtch=c.mtch:=by rw [hc1];rfl
 have f3:c1.next=c.next:=by rw [hc1];rfl
 rw [← hc1] at q2
 refine ACalls.mono (rlast_any q2 (by rw [f1];exact lk.lk.lo)) ?_;rintro _ _ ⟨rfl,rfl⟩;conv=>whnf
 rw [f1]
 have hmk:=mk x.src hx1 hx2
 have hnk:=nk x.src hx1 hx2
 refine AIf.cut (fun e h'=>∃ e0 d,e=updL 119 e0 [(0,Ptr p)]∧c.told x.abs=d.confirm∧RCore h' p o oo d∧DLk d∧d.self=c.self∧d.out.reads.length+d.reads.length≤1000000000∧Keeps [o,o+1,oo] h h') ?_ ?_
 rotate_left
 ·rintro e h6 ⟨e0,d,rfl,ed,kd,lkd,sd,hrd,kk6⟩
  conv=>whnf
  refine ACalls.mono (rconfirm_any ap kd lkd (by rw [sd];exact hs1) (by rw [sd];exact hs2) hrd) ?_;rintro _ h7 ⟨rfl,k7,kk7⟩;conv=>whnf
  exact ⟨rfl,by rw [ed];exact k7,kk6.trans (kk7.mono (by simp))⟩
 conv=>whnf
 refine AIf.cut (fun e h'=>∃ e0,e=updL 119 e0 [(0,Ptr p),(3,Ptr b3),(4,I x.src),(5,I c.log.last.1),(34, .bool (x.ok || decide (x.kind=6)))]∧h2=h') ?_ ?_
 ·conv=>whnf
  refine ALoad.one rfl k12 rfl ?_;conv=>whnf
  cases hok:x.ok with
  | true=>exact ⟨_,updL_self ⟨rfl,rfl,rfl,rfl,rfl,trivial⟩,rfl⟩
  | false =>
   conv=>whnf
   refine ALoad.one rfl k12 rfl ?_;conv=>whnf
   by_cases ck:x.kind=6
   ·refine ACmp.yes (ck) ?_;conv=>whnf
    exact ⟨_,updL_self ⟨rfl,rfl,rfl,rfl,congrArg Value.bool (by simp [ck]),trivial⟩,rfl⟩
   ·refine ACmp.no (ck) ?_;conv=>whnf
    exact ⟨_,updL_self ⟨rfl,rfl,rfl,rfl,congrArg Value.bool (by simp [ck]),trivial⟩,rfl⟩
 rintro e _ ⟨e0,rfl,rfl⟩
 have hY:(x.ok || decide (x.kind=6))=true↔(x.abs.ok=true∨x.abs.kind=6):=by rw [Bool.or_eq_true,decide_eq_true_iff];exact Iff.rfl
 cases hy:(x.ok || decide (x.kind=6)) with
 | true =>
  rw [hy] at hY
  conv=>whnf
  refine AIf.go ?_;conv=>whnf
  refine ADrawn.mk (h2) [16] (Sub.refl _) (by decide +kernel) ?_;conv=>whnf
  refine AIdxA.nat (n:=6) (z:=1) (j:=m) (by omega) (by omega) rfl rfl ?_;conv=>whnf
  refine ALoad.one rfl q2.str (hMt _ _) ?_
  refine ALoad.one rfl k12 rfl ?_;conv=>whnf
  refine AInt.as (show _=minI x.index c.log.last.1 from rfl) ?_;conv=>whnf
  rw [f2]
  refine AInt.as (show _=maxI (c.mtch.get x.src) (minI x.index c.log.last.1) from rfl) ?_;conv=>whnf
  refine AIdxA.nat (n:=6) (z:=1) (j:=m) (by omega) (by omega) rfl rfl ?_;conv=>whnf
  refine AStore.oneN rfl rfl rfl q2.str (lt (hMt _ _)) (coreCells (c.told2 x.abs) cx) (by rw [show 0+14+7+m*1=21+x.src.toNat by omega];rw [mtch_set c1 cx hx1 hx2 _,hc1];rfl) fun h3 t3 k3 a3 e3=>?_;conv=>whnf
  have q3:=q2.set' (c':=c.told2 x.abs) ap.a t3 k3 (by rw [hc1];rfl) (by rw [hc1];rfl) (by rw [hc1];rfl) (by rw [hc1];rfl) (by rw [hc1];rfl) (by rw [hc1];rfl) (by rw [hc1];rfl)
  have kk3:=kk2.trans (t3.keep.keeps (by simp):Keeps [o,o+1,oo] h2 h3)
  obtain ⟨c2,hc2⟩:∃ c2,c2=c.told2 x.abs:=⟨_,rfl⟩
  have g2:c2.next=c.next:=by rw [hc2];rfl
  have g3:c2.mtch.get x.src=maxI (c.mtch.get x.src) (minI x.index c.log.last.1):=by
   rw [hc2];show (c.mtch.set x.src _).get x.src=_
   rw [Five.get_set _ _ _ _ hx1 hx2,if_pos rfl];rfl
  have g4:0≤c2.mtch.get x.src∧c2.mtch.get x.src≤9007199254740991:=by
   rw [g3];unfold maxI minI;split <;> split <;> omega
  rw [← hc2] at q3
  refine AIf.go ?_;conv=>whnf
  refine ADrawn.mk (h3) [19] (Sub.refl _) (by decide +kernel) ?_;conv=>whnf
  refine AIdxA.nat (n:=6) (z:=1) (j:=m) (by omega) (by omega) rfl rfl ?_;conv=>whnf
  refine ALoad.one rfl q3.str (hNx _ _) ?_;conv=>whnf
  refine AIdxA.nat (n:=6) (z:=1) (j:=m) (by omega) (by omega) rfl rfl ?_;conv=>whnf
  refine ALoad.one rfl q3.str (hMt _ _) ?_;conv=>whnf
  refine AArith.ok (by omega) (by omega) (rfl) ?_;conv=>whnf
  rw [g2]
  refine AInt.as (show _=maxI (c.next.get x.src) (c2.mtch.get x.src+1) from rfl) ?_;conv=>whnf
  refine AIdxA.nat (n:=6) (z:=1) (j:=m) (by omega) (by omega) rfl rfl ?_;conv=>whnf
  refine AStore.oneN rfl rfl rfl q3.str (lt (hNx _ _)) (coreCells (c.told3 x.abs) cx) (by rw [show 0+14+1+m*1=15+x.src.toNat by omega];rw [next_set c2 cx hx1 hx2 _,hc2];rfl) fun h4 t4 k4 a4 e4=>?_;conv=>whnf
  have q4:=q3.set' (c':=c.told3 x.abs) ap.a t4 k4 (by rw [hc2];rfl) (by rw [hc2];rfl) (by rw [hc2];rfl) (by rw [hc2];rfl) (by rw [hc2];rfl) (by rw [hc2];rfl) (by rw [hc2];rfl)
  have kk4:=kk3.trans (t4.keep.keeps (by simp):Keeps [o,o+1,oo] h3 h4)
  obtain ⟨c3,hc3⟩:∃ c3,c3=c.told3 x.abs:=⟨_,rfl⟩
  have lk3:DLk c3:=by rw [hc3];exact lk.same rfl rfl rfl
  have nk3:NextOk c3:=by
   intro n n1 n2
   have e:c3.next=c.next.set x.src (maxI (c.next.get x.src) (c2.mtch.get x.src+1)):=by rw [hc3,hc2];rfl
   rw [e,Five.get_set _ _ _ _ n1 n2]
   split
   ·unfold maxI;split <;> omega
   ·exact nk n n1 n2
  have p3:c3.out=c.out:=by rw [hc3];rfl
  have r3:c3.reads=c.reads:=by rw [hc3];rfl
  have s3:c3.self=c.self:=by rw [hc3];rfl
  have fi3:c3.first=c.first:=by rw [hc3];rfl
  have ty:=CoreM.told_yes (c:=c) (p:=x.abs) (hY.1 rfl)
  rw [← hc3] at ty q4
  refine ACalls.mono (rrank_any ap ⟨_,q4⟩ lk3 (by rw [s3];exact hs1) (by rw [s3];exact hs2)) ?_;rintro _ h5 ⟨rfl,⟨cx5,q5⟩,kk5⟩;conv=>whnf
  obtain ⟨rm1,rm2,rm3,rm4,rm5,rm6,rm7⟩:=rank_more c3
  have rmf:c3.rank.first=c3.first:=by
   rw [CoreM.rank_eq];unfold CoreM.ranked;split
   ·rfl
   ·split <;> rfl
  have KK5:=kk4.trans (kk5.keeps (by simp):Keeps [o,o+1,oo] h4 h5)
  obtain ⟨d,hd⟩:∃ d,d=c3.rank:=⟨_,rfl⟩
  rw [← hd] at q5 rm1 rm2 rm3 rm4 rm5 rm6 rm7 rmf ty
  have lkd:DLk d:=lk3.same rm1 rm2 rmf
  have hrd:d.out.reads.length+d.reads.length≤1000000000:=by
   rw [rm4,p3,hro]
   rcases rm7 with e | e
   ·rw [e,r3];simp;omega
   ·rw [e];simp
  have sd:d.self=c.self:=rm3.trans s3
  refine AIf.go ?_;conv=>whnf
  refine ALoad.one rfl q5.str rfl ?_;conv=>whnf
  by_cases c5:d.state=2
  ·refine ACmp.yes (c5) ?_;conv=>whnf
   refine AIdxA.nat (n:=6) (z:=1) (j:=m) (by omega) (by omega) rfl rfl ?_;conv=>whnf
   refine ALoad.one rfl q5.str (hNx _ _) ?_;conv=>whnf
   by_cases c6:d.next.get x.src≤c.log.last.1
   ·refine ACmp.yes (c6) ?_;conv=>whnf
    have hn5:=nk3 x.src hx1 hx2
    rw [← rm6 c5] at hn5
    refine ACalls.mono (rsend_any ap ⟨_,q5⟩ lkd.lk.lo hx1 hx2 hn5.1 hn5.2 (by rw [rm4,p3];omega) lkd.lk.snap lkd.lk.room) ?_;rintro _ h6 ⟨rfl,k6,kk6⟩;conv=>whnf
    obtain ⟨z1,z2,z3,z4⟩:=send_same d x.src
    obtain ⟨y1,y2,y3,y4,y5,y6,y7,y8⟩:=send_more d x.src
    have hrs:(d.send x.src).out.reads=d.out.reads:=by unfold CoreM.send;split <;> rfl
    exact ⟨_,d.send x.src,updL_self ⟨rfl,trivial⟩,by rw [ty];exact congrArg CoreM.confirm (if_pos ⟨c5,c6⟩),k6,lkd.same z1 z3 y8,y1.trans sd,by rw [hrs,y7];exact hrd,KK5.trans (kk6.mono (by simp))⟩
   ·refine ACmp.no (c6) ?_;conv=>whnf
    exact ⟨_,d,updL_self ⟨rfl,trivial⟩,by rw [ty];exact congrArg CoreM.confirm (if_neg fun c=>c6 c.2),⟨_,q5⟩,lkd,sd,hrd,KK5⟩
  ·refine ACmp.no (c5) ?_;conv=>whnf
   exact ⟨_,d,updL_self ⟨rfl,trivial⟩,by rw [ty];exact congrArg CoreM.confirm (if_neg fun c=>c5 c.1),⟨_,q5⟩,lkd,sd,hrd,KK5⟩
 | false =>
  rw [hy] at hY
  have tn:=CoreM.told_no (c:=c) (p:=x.abs) fun c=>by have:=hY.2 c;cases this
  conv=>whnf
  refine AIf.go ?_;conv=>whnf
  refine ADrawn.mk (h2) [24] (Sub.refl _) (by decide +kernel) ?_;conv=>whnf
  refine AIdxA.nat (n:=6) (z:=1) (j:=m) (by omega) (by omega) rfl rfl ?_;conv=>whnf
  refine ALoad.one rfl q2.str (hNx _ _) ?_;conv=>whnf
  rw [f3]
  refine AArith.ok (by omega) (by omega) (rfl) ?_;conv=>whnf
  refine ALoad.one rfl k12 rfl ?_;conv=>whnf
  refine AArith.ok (by omega) (by omega) (rfl) ?_;conv=>whnf
  refine AInt.as (show _=minI (c.next.get x.src-1) (x.index+1) from rfl) ?_;conv=>whnf
  refine AIdxA.nat (n:=6) (z:=1) (j:=m) (by omega) (by omega) rfl rfl ?_;conv=>whnf
  refine ALoad.one rfl q2.str (hMt _ _) ?_;conv=>whnf
  rw [f2]
  refine AArith.ok (by omega) (by omega) (rfl) ?_;conv=>whnf
  refine AInt.as (show _=maxI (minI (c.next.get x.src-1) (x.index+1)) (c.mtch.get x.src+1) from rfl) ?_;conv=>whnf
  refine AIdxA.nat (n:=6) (z:=1) (j:=m) (by omega) (by omega) rfl rfl ?_;conv=>whnf
  refine AStore.oneN rfl rfl rfl q2.str (lt (hNx _ _)) (coreCells (c.told4 x.abs) cx) (by rw [show 0+14+1+m*1=15+x.src.toNat by omega];rw [next_set c1 cx hx1 hx2 _,hc1];rfl) fun h3 t3 k3 a3 e3=>?_;conv=>whnf
  have q3:=q2.set' (c':=c.told4 x.abs) ap.a t3 k3 (by rw [hc1];rfl) (by rw [hc1];rfl) (by rw [hc1];rfl) (by rw [hc1];rfl) (by rw [hc1];rfl) (by rw [hc1];rfl) (by rw [hc1];rfl)
  have kk3:=kk2.trans (t3.keep.keeps (by simp):Keeps [o,o+1,oo] h2 h3)
  obtain ⟨d,hd⟩:∃ d,d=c.told4 x.abs:=⟨_,rfl⟩
  have lkd:DLk d:=by rw [hd];exact lk.same rfl rfl rfl
  have nkd:0≤d.next.get x.src∧d.next.get x.src≤9007199254740992:=by
   rw [hd];show 0≤(c.next.set x.src _).get x.src∧(c.next.set x.src _).get x.src≤_
   rw [Five.get_set _ _ _ _ hx1 hx2,if_pos rfl]
   show 0≤maxI (minI (c.next.get x.src-1) (x.index+1)) (c.mtch.get x.src+1)∧maxI (minI (c.next.get x.src-1) (x.index+1)) (c.mtch.get x.src+1)≤_
   unfold maxI minI;split <;> split <;> omega
  have pd:d.out=c.out:=by rw [hd];rfl
  have rd:d.reads=c.reads:=by rw [hd];rfl
  have sd:d.self=c.self:=by rw [hd];rfl
  rw [← hd] at q3 tn
  refine ACalls.mono (rsend_any ap ⟨_,q3⟩ lkd.lk.lo hx1 hx2 nkd.1 nkd.2 (by rw [pd];omega) lkd.lk.snap lkd.lk.room) ?_;rintro _ h6 ⟨rfl,k6,kk6⟩;conv=>whnf
  obtain ⟨z1,z2,z3,z4⟩:=send_same d x.src
  obtain ⟨y1,y2,y3,y4,y5,y6,y7,y8⟩:=send_more d x.src
  have hrs:(d.send x.src).out.reads=d.out.reads:=by unfold CoreM.send;split <;> rfl
  exact ⟨_,d.send x.src,updL_self ⟨rfl,trivial⟩,tn,k6,lkd.same z1 z3 y8,y1.trans sd,by rw [hrs,y7,pd,rd,hro];simp;omega,kk3.trans (kk6.mono (by simp))⟩
theorem compact_has {c:CoreM} {i t:Int} (h:c.has i t=true) (hi:c.log.bi<i):(c.log.compact i).1=0:=by
 unfold CoreM.has LG.term at h
 rw [if_neg (by omega)] at h
 unfold LG.compact
 cases hs:c.log.spot i with
 | some e=>rfl
 | none=>rw [hs] at h;simp at h
set_option maxHeartbeats 4000000 in
theorem rsnap_any {h:Heap} {p o oo:Nat} {c:CoreM} (ap:Apart o oo) (k:RCore h p o oo c) (lo:LOk c.log) (hbc:c.log.bi≤c.commit) (x:PH) (g:Given h o oo x) (hb:okBase x.si x.st=true) (hdn:x.d.n≤140737488355328)
  (hroom:c.log.es.length*48≤140737488355328) (hp:c.out.posts.length≤1000000000) :
  ACalls PR 98 #[Ptr p, .agg x.cells.toArray] h (fun v h'=>v = .tuple #[]∧RCore h' p o oo (c.install x.abs)∧Keeps [o,o+1,oo] h h'):=by
 obtain ⟨cx,k⟩:=k
 refine acalls_ofj mix Tryz.func98 rfl rfl Tryz.ntmps98 Tryz.results98 rfl ?_;conv=>whnf
 refine ABox.mkN (0,1) (x.cells) rfl fun b1 h1 n1 s1 k1=>?_;conv=>whnf
 refine ALoad.agg rfl k1 rfl rfl ?_;conv=>whnf
 refine AAlloc.mkN (0,1) ([I 0,I 0,I 0, .slice none 0 0]) rfl fun b4 h2 n2 s2 k2=>?_;conv=>whnf
 refine AStore.aggN rfl rfl rfl (k2) rfl ([I x.si,I x.st,I x.sc, .slice x.d.a x.d.n x.d.c]) rfl fun h3 t3 k4 a3 e3=>?_;conv=>whnf
 have b14:b1≠b4:=fun c=>by rw [c,n2] at k1;cases k1
 have k13:=e3 _ _ b14 (s2 _ _ k1)
 have hb4:h b4=none:=by
  cases e:h b4 with
  | none=>rfl
  | some y=>rw [s1 _ _ e] at n2;cases n2
 have s3:Sub h h3:=a3 h (s1.trans s2) hb4
 have q:=k.sub s3
 have g3:=g.sub s3
 clear s1 s2 k1 k2 n1 n2 t3 a3 e3
 refine AIf.go ?_;conv=>whnf
 refine AIf.go ?_;conv=>whnf
 refine ADrawn.mk (h3) [] (Sub.refl _) (by decide +kernel) ?_;conv=>whnf
 refine ALoad.one rfl k4 rfl ?_
 refine ALoad.one rfl q.str rfl ?_;conv=>whnf
 by_cases c1:x.si≤c.commit
 ·refine ACmp.yes (c1) ?_;conv=>whnf
  rw [CoreM.install_no (p:=x.abs) (by show ¬ c.commit<x.si;omega)]
  refine AIf.go ?_;conv=>whnf
  refine ADrawn.mk (h3) [10] (Sub.refl _) (by decide +kernel) ?_;conv=>whnf
  refine ALoad.one rfl k13 rfl ?_
  refine ALoad.one rfl q.str rfl ?_
  refine ALoad.one rfl k13 rfl ?_;conv=>whnf
  refine ACalls.mono (rsay_any ap.a ap.b ap.c ap.d ⟨_,q⟩ x.src {post1 with kind:=6,dst:=x.src,index:=c.commit,hint:=x.hint} rfl (made0 rfl rfl rfl rfl) hp) ?_;rintro _ hB ⟨rfl,kB,kkB⟩;conv=>whnf
  exact ⟨rfl,kB,(s3.keeps _).trans (kkB.mono (by simp))⟩
 refine ACmp.no (c1) ?_;conv=>whnf
 rw [CoreM.install_yes (p:=x.abs) (by show c.commit<x.si;omega)]
 obtain ⟨L,hL⟩:∃ L,L=(if c.has x.abs.snap.index x.abs.snap.term=true∧(c.log.compact x.abs.snap.index).1=0 then (c.log.compact x.abs.snap.index).2 else lnew x.abs.snap.index x.abs.snap.term):=⟨_,rfl⟩
 rw [← hL]
 refine AIf.cut (fun e h'=>∃ e0 lp,e=updL 93 e0 [(0,Ptr p),(3,Ptr b1),(4,Ptr b4)]∧h' p=some (row (o,0) (coreCells {c with log:=L} {cx with log:=lp}) 98)∧RL h' lp (o+1) L∧∀ b (t:Tag) y,t≠(o,0)→t.1≠o+1→h3 b=some (t,y)→h' b=some (t,y)) ?_ ?_
 ·conv=>whnf
  refine AIf.go ?_;conv=>whnf
  refine ADrawn.mk (h3) [] (Sub.refl _) (by decide +kernel) ?_;conv=>whnf
  refine ALoad.one rfl q.str rfl ?_
  refine ALoad.one rfl k4 rfl ?_
  refine ALoad.one rfl k4 rfl ?_;conv=>whnf
  have hcall:ACalls PR 161 #[Ptr cx.log,I x.si,I x.st] h3 (fun v h'=>v = .bool (c.has x.si x.st)∧h3=h'):=rHas_c q.log lo x.si x.st
  cases hh:c.has x.si x.st with
  | true =>
   rw [hh] at hcall
   refine ACalls.mono (hcall) ?_;rintro _ _ ⟨rfl,rfl⟩;conv=>whnf
   refine ⟨Sub.refl _,?_⟩;conv=>whnf
   refine ADrawn.mk (h3) [6] (Sub.refl _) (by decide +kernel) ?_;conv=>whnf
   refine ALoad.one rfl q.str rfl ?_
   refine ALoad.one rfl k4 rfl ?_;conv=>whnf
   refine ACalls.mono (rCompact_c (by omega) q.log lo x.si hroom) ?_;rintro _ h4 ⟨rfl,l4,kk4⟩;conv=>whnf
   have hL2:L=(c.log.compact x.si).2:=hL.trans (if_pos ⟨hh,compact_has hh (by show c.log.bi<x.si;omega)⟩)
   exact ⟨_,cx.log,updL_self ⟨rfl,rfl,rfl,trivial⟩,kk4.get (by simp) q.str,by rw [hL2];exact l4,fun b t y _ ht e=>kk4 _ _ _ ht e⟩
  | false =>
   rw [hh] at hcall
   refine ACalls.mono (hcall) ?_;rintro _ _ ⟨rfl,rfl⟩;conv=>whnf
   refine ⟨Sub.refl _,?_⟩;conv=>whnf
   refine ALoad.one rfl k4 rfl ?_
   refine ALoad.one rfl k4 rfl ?_;conv=>whnf
   refine ACalls.mono (rNew_c h3 (o+1) (by omega) x.si x.st) ?_
   rintro v h4 (⟨_,lp,rfl,l4,s4⟩ | ⟨hb',_⟩)
   ·conv=>whnf
    refine AStore.oneN rfl rfl rfl ((s4 _ _ q.str)) rfl (coreCells {c with log:=L} {cx with log:=lp}) rfl fun h5 t5 q5 a5 e5=>?_;conv=>whnf
    have hLn:L=lnew x.si x.st:=hL.trans (if_neg fun c=>by have:=hh.symm.trans c.1;cases this)
    exact ⟨_,lp,updL_self ⟨rfl,rfl,rfl,trivial⟩,q5,by rw [hLn];exact KeepT.log l4 t5,fun b t y ht _ e=>t5 _ _ _ ht (s4 _ _ e)⟩
   ·rw [hb] at hb';cases hb'
 rintro e h5 ⟨e0,lp,rfl,q5,l5,mv⟩
 have ne1:∀ {r s:Nat},((0,r):Tag)≠(o,s):=fun c=>ap.c (congrArg Prod.fst c).symm
 have k45:=mv _ _ _ ne1 (by simp) k4
 have k15:=mv _ _ _ ne1 (by simp) k13
 obtain ⟨⟨t1,t2,t3,ok,tn1,tn2,tn3⟩,_,_,_,_⟩:=g3
 have tn3':t3.1≠o∧t3.1≠o+1∧t3.1≠oo:=by simpa using tn3
 have ok5:Sl h5 t3 x.d.a x.d.n x.d.c 1 (bytesV x.data):=ok.sd.move fun _ _ e=>mv _ _ _ (fun c=>tn3'.1 (by rw [c])) tn3'.2.1 e
 conv=>whnf
 refine ALoad.agg rfl k45 rfl rfl ?_;conv=>whnf
 refine AStore.aggN rfl rfl rfl (q5) rfl (coreCells {c with snap:=⟨x.si,x.st,x.sc,x.data⟩,log:=L} {cx with log:=lp,sd:=x.d}) rfl fun h6 t6 k6 a6 e6=>?_;conv=>whnf
 have k46:=t6.get ne1 k45
 refine ALoad.one rfl k46 rfl ?_;conv=>whnf
 refine ACalls.mono (copyB_any h6 (o,3) (ok5.keepT t6 (fun c=>tn3'.1 (by rw [c]))) hdn) ?_
 rintro _ h7 ⟨a7,c7,rfl,ow7,s7⟩
 conv=>whnf
 refine AStore.oneN rfl rfl rfl ((s7 _ _ k6)) rfl (coreCells {c with snap:=⟨x.si,x.st,x.sc,x.data⟩,log:=L} {cx with log:=lp,sd:=⟨a7,x.d.n,c7⟩}) rfl fun h8 t8 k8 a8 e8=>?_;conv=>whnf
 have k48:=t8.get ne1 (s7 _ _ k46)
 refine ALoad.one rfl k48 rfl ?_;conv=>whnf
 refine AStore.oneN rfl rfl rfl (k8) rfl (coreCells {c with snap:=⟨x.si,x.st,x.sc,x.data⟩,log:=L,commit:=x.si} {cx with log:=lp,sd:=⟨a7,x.d.n,c7⟩}) rfl fun h9 t9 k9 a9 e9=>?_;conv=>whnf
 have k49:=t9.get ne1 k48
 refine ALoad.agg rfl k49 rfl rfl ?_;conv=>whnf
 refine AStore.aggN rfl rfl rfl (k9) rfl (coreCells (c.installed ⟨x.si,x.st,x.sc,x.data⟩ L) {cx with log:=lp,sd:=⟨a7,x.d.n,c7⟩,ox:={cx.ox with od:=x.d}}) rfl fun hA tA kA aA eA=>?_;conv=>whnf
 have k4A:=tA.get ne1 k49
 have tt:=t8.trans (t9.trans tA)
 refine ALoad.one rfl k4A rfl ?_;conv=>whnf
 have go:∀ (t:Tag) b y,t≠(o,0)→h5 b=some (t,y)→hA b=some (t,y):=fun t b y ht e=>tt _ _ _ ht (s7 _ _ (t6 _ _ _ ht e))
 refine ACalls.mono (copyB_any hA (oo,6) (ok5.move fun _ _ e=>go _ _ _ (fun c=>tn3'.1 (by rw [c])) e) hdn) ?_
 rintro _ hB ⟨aB,cB,rfl,owB,sB⟩
 conv=>whnf
 refine AStore.oneN rfl rfl rfl ((sB _ _ kA)) rfl (coreCells (c.installed ⟨x.si,x.st,x.sc,x.data⟩ L) {cx with log:=lp,sd:=⟨a7,x.d.n,c7⟩,ox:={cx.ox with od:=⟨aB,x.d.n,cB⟩}}) rfl fun hC tC kC aC eC=>?_;conv=>whnf
 have go2:∀ (t:Tag) b y,t≠(o,0)→h5 b=some (t,y)→hC b=some (t,y):=fun t b y ht e=>tC _ _ _ ht (sB _ _ (go _ _ _ ht e))
 have go3:∀ (t:Tag) b y,t≠(o,0)→t.1≠o+1→h3 b=some (t,y)→hC b=some (t,y):=fun t b y ht hn e=>go2 _ _ _ ht (mv _ _ _ ht hn e)
 have neo:∀ r s:Nat,((oo,r):Tag)≠(o,s):=fun r s c=>ap.a (congrArg Prod.fst c).symm
 have nep:∀ r:Nat,((oo,r):Tag).1≠o+1:=fun r c=>ap.b c.symm
 have o5:=q.out
 have qC:RX hC p o oo (c.installed ⟨x.si,x.st,x.sc,x.data⟩ L) {cx with log:=lp,sd:=⟨a7,x.d.n,c7⟩,ox:={cx.ox with od:=⟨aB,x.d.n,cB⟩}}:=by
  refine ⟨kC,((ow7.keepT tt (by simp)).sub sB).keepT tC (by simp),Moves.move l5 fun b t y ht e=>go2 t b y (fun c=>by rw [c] at ht;simp at ht) e,q.rd.move fun b y e=>go3 _ b y (by simp) (by simp) e,?_⟩
  refine ⟨owB.keepT tC (neo 6 0),o5.oe.move fun b y e=>go3 _ b y (neo 1 0) (nep 1) e,fun y hy=>Own.move (o5.ed y hy) fun b y e=>go3 _ b y (neo 2 0) (nep 2) e,o5.ea,o5.es,o5.op.move fun b y e=>go3 _ b y (neo 3 0) (nep 3) e,fun i y hy=>(o5.ps i y hy).move fun b t z ht hr e=>go3 t b z (fun c=>by rw [c] at ht;exact ap.a ht) (by rw [ht];exact ap.b.symm) e,o5.pa,o5.qr.move fun b y e=>go3 _ b y (neo 7 0) (nep 7) e⟩
 have kkC:Keeps [o,o+1,oo] h hC:=(s3.keeps _).trans fun b t y ht e=>go3 t b y (fun c=>ht (by rw [c];simp)) (fun c=>ht (by rw [c];simp)) e
 have k1C:=go2 _ _ _ ne1 k15
 have k4C:=go2 _ _ _ ne1 k45
 refine ALoad.one rfl k1C rfl ?_
 refine ALoad.one rfl k4C rfl ?_
 refine ALoad.one rfl k1C rfl ?_;conv=>whnf
 refine ACalls.mono (rsay_any ap.a ap.b ap.c ap.d ⟨_,qC⟩ x.src {post1 with kind:=6,dst:=x.src,index:=x.si,hint:=x.hint} rfl (made0 rfl rfl rfl rfl) hp) ?_;rintro _ hD ⟨rfl,kD,kkD⟩;conv=>whnf
 exact ⟨rfl,kD,kkC.trans (kkD.mono (by simp))⟩
def CoreM.cutIf (c:CoreM) (e:Abs):CoreM:=if (c.log.term e.2.1).2=0 then {c with log:=(c.log.cut e.2.1).2,out:={c.out with cut:=e.2.1}} else c
def CoreM.push (c:CoreM) (e:Abs):CoreM:={c with log:=(c.log.append [e]).2,out:={c.out with entries:=c.out.entries++[e]}}
def CoreM.step1 (c:CoreM) (e:Abs):CoreM:=if c.has e.2.1 e.1=true then c else (c.cutIf e).push e
theorem term_out {L:LG} {i:Int} (h:L.bi+L.es.length<i):L.term i=(0,9):=by
 unfold LG.term LG.spot
 rw [if_neg (by omega),if_pos (by omega),List.getElem?_eq_none (by omega)]
theorem term_in {L:LG} {i:Int} (h0:L.bi≤i) (h:i≤L.bi+L.es.length):(L.term i).2=0:=by
 unfold LG.term LG.spot
 by_cases c:i=L.bi
 ·rw [if_pos c]
 ·rw [if_neg c,if_pos (by omega)]
  have:(i-L.bi-1).toNat<L.es.length:=by omega
  rw [List.getElem?_eq_getElem this]
theorem has_in {c:CoreM} {i t:Int} (h:c.has i t=true):c.log.bi≤i∧i≤c.log.bi+c.log.es.length:=by
 unfold CoreM.has at h
 have h:=(of_decide_eq_true h).1
 by_cases a:c.log.bi≤i
 ·refine ⟨a,?_⟩
  by_cases b:i≤c.log.bi+c.log.es.length
  ·exact b
  ·rw [term_out (by omega)] at h;cases h
 ·unfold LG.term LG.spot at h
  rw [if_neg (by omega),if_neg (by omega)] at h;cases h
theorem last_at {L:LG} (lo:LOk L) {i t:Int} (hb:L.bi≤i) (hl:(L.es.length:Int)=i-L.bi) (ht:(L.term i).1=t):L.last=(i,t):=by
 unfold LG.last
 unfold LG.term at ht
 by_cases c:i=L.bi
 ·rw [if_pos c] at ht
  have:L.es=[]:=List.eq_nil_of_length_eq_zero (by omega)
  rw [this]
  exact Prod.ext c.symm ht
 ·rw [if_neg c] at ht
  unfold LG.spot at ht
  rw [if_pos (by omega)] at ht
  rw [List.getLast?_eq_getElem?,show L.es.length-1=(i-L.bi-1).toNat by omega]
  cases hs:L.es[(i-L.bi-1).toNat]? with
  | none=>rw [List.getElem?_eq_none_iff] at hs;omega
  | some e =>
   rw [hs] at ht
   have:=lo.idx _ e hs
   exact Prod.ext (by show e.2.1=i;omega) ht
theorem aapp_cons {m:Int×Int} {e:Abs} {r:List Abs} (h:aapp m (e::r)=0):achk e m=0∧aapp (e.2.1,e.1) r=0:=by
 unfold aapp at h
 split at h
 ·exact ⟨by assumption,h⟩
 ·rename_i c;exact absurd h c
theorem achk_next {m:Int×Int} {e:Abs} (h:achk e m=0):e.2.1=m.1+1:=by
 unfold achk at h
 split at h
 ·cases h
 ·split at h
  ·cases h
  ·rename_i a b;exact Classical.not_not.1 b
theorem append_one {L:LG} {e:Abs} {m:Int×Int} (hm:L.last=m) (h:achk e m=0):L.append [e]=(0,{L with es:=L.es++[e]}):=by
 unfold LG.append aapp
 rw [hm,if_pos h];rfl
theorem steps_tail:∀ (r:List Abs) (c:CoreM) (m:Int×Int),LOk c.log→c.log.last=m→aapp m r=0 →
  r.foldl CoreM.step1 c={c with log:={c.log with es:=c.log.es++r},out:={c.out with entries:=c.out.entries++r}}
 | [],c,m,_,_,_=>by simp
 | e::r,c,m,lo,hm,ha=>by
  obtain ⟨h1,h2⟩:=aapp_cons ha
  have hx:=achk_next h1
  have hl:=lo.last
  rw [hm] at hl
  have hl1:m.1=c.log.bi+c.log.es.length:=hl
  have ht:=term_out (L:=c.log) (i:=e.2.1) (by omega)
  have lo2:=lo.append [e]
  rw [List.foldl_cons]
  have e1:c.step1 e={c with log:={c.log with es:=c.log.es++[e]},out:={c.out with entries:=c.out.entries++[e]}}:=by
   unfold CoreM.step1
   rw [if_neg (by unfold CoreM.has;rw [ht];simp)]
   unfold CoreM.cutIf
   rw [ht,if_neg (by decide)]
   unfold CoreM.push
   rw [append_one hm h1]
  rw [append_one hm h1] at lo2
  rw [e1,steps_tail r _ (e.2.1,e.1) lo2 (by unfold LG.last;simp) h2]
  simp
theorem LG.cut_of {L:LG} {i:Int} (h1:L.bi<i) (h2:i≤L.bi+L.es.length+1):(L.cut i).2={L with es:=L.es.take (i-L.bi-1).toNat}:=by
 unfold LG.cut;rw [if_pos (by unfold LG.reach;simp;omega)]
theorem steps_all:∀ (l:List Abs) (c:CoreM) (i t:Int),LOk c.log→c.has i t=true→aapp (i,t) l=0→l.foldl CoreM.step1 c=c.appendRest l
 | [],c,i,t,_,_,_=>rfl
 | e::r,c,i,t,lo,hh,ha=>by
  obtain ⟨h1,h2⟩:=aapp_cons ha
  have hx:e.2.1=i+1:=achk_next h1
  obtain ⟨b1,b2⟩:=has_in hh
  have htt:(c.log.term i).1=t:=(of_decide_eq_true hh).2
  rw [List.foldl_cons]
  by_cases c1:c.has e.2.1 e.1=true
  ·have e1:c.step1 e=c:=if_pos c1
   rw [e1,steps_all r c e.2.1 e.1 lo c1 h2]
   unfold CoreM.appendRest
   have:c.log.fresh (e::r)=c.log.fresh r:=if_pos (of_decide_eq_true c1)
   rw [this]
  ·have hf:c.log.fresh (e::r)=e::r:=if_neg fun z=>c1 (decide_eq_true z)
   rw [appendRest_cons hf]
   have hcut:c.cutIf e=c.cutAt e:=by
    unfold CoreM.cutIf CoreM.cutAt
    rw [lo.last]
    by_cases z:e.2.1≤c.log.bi+c.log.es.length
    ·rw [if_pos (term_in (by omega) z),if_pos z]
    ·rw [term_out (by omega),if_neg (by decide),if_neg z]
   have e1:c.step1 e=(c.cutAt e).push e:=by unfold CoreM.step1;rw [if_neg c1,hcut]
   obtain ⟨d,hd⟩:∃ d,d=c.cutAt e:=⟨_,rfl⟩
   rw [e1,← hd]
   have hlo:LOk d.log∧d.log.last=(i,t):=by
    unfold CoreM.cutAt at hd
    rw [lo.last] at hd
    by_cases z:e.2.1≤c.log.bi+c.log.es.length
    ·rw [if_pos z] at hd
     have ec:=LG.cut_of (L:=c.log) (i:=e.2.1) (by omega) (by omega)
     have loc:=lo.cut e.2.1
     rw [ec] at loc
     have el:d.log={c.log with es:=c.log.es.take (e.2.1-c.log.bi-1).toNat}:=by rw [hd];exact ec
     rw [el]
     refine ⟨loc,last_at loc b1 (by simp only [List.length_take];omega) ?_⟩
     rw [← htt]
     unfold LG.term
     by_cases y:i=c.log.bi
     ·rw [if_pos y,if_pos y]
     ·rw [if_neg y,if_neg y]
      unfold LG.spot
      rw [if_pos (by show c.log.bi<i;omega),if_pos (by omega),List.getElem?_take,if_pos (by show (i-c.log.bi-1).toNat<(e.2.1-c.log.bi-1).toNat;omega)]
    ·rw [if_neg z] at hd
     rw [hd]
     exact ⟨lo,last_at lo b1 (by omega) htt⟩
   obtain ⟨l1,l2⟩:=hlo
   have lp:=l1.append [e]
   rw [append_one l2 h1] at lp
   have ep:d.push e={d with log:={d.log with es:=d.log.es++[e]},out:={d.out with entries:=d.out.entries++[e]}}:=by
    unfold CoreM.push;rw [append_one l2 h1]
   rw [ep,steps_tail r _ (e.2.1,e.1) lp (by unfold LG.last;simp) h2]
   have ea:d.log.append (e::r)=(0,{d.log with es:=d.log.es++e::r}):=by
    unfold LG.append;rw [l2,if_pos ha]
   rw [ea]
   simp
theorem aapp_may:∀ (l:List Abs) (top i t:Int),entriesMay top i t l=true→(∀ e∈l,1≤e.1)→top≤9007199254740991→0≤i→aapp (i,t) l=0
 | [],_,_,_,_,_,_,_=>rfl
 | e::r,top,i,t,h,h1,ht,hi=>by
  unfold entriesMay at h
  simp only [Bool.and_eq_true,decide_eq_true_iff,numB] at h
  obtain ⟨⟨⟨⟨⟨a1,a2⟩,a3⟩,a4⟩,a5⟩,a6⟩:=h
  have e1:=h1 e (by simp)
  have hz:achk e (i,t)=0:=by
   unfold achk
   have n1:isNum e.1=true:=isNum_iff.2 ⟨e1,by omega⟩
   have n2:isNum e.2.1=true:=isNum_iff.2 ⟨by omega,a2.2⟩
   rw [if_neg (by rw [n1,n2];simp;omega),if_neg (by rw [a1];simp),if_neg (by show ¬ e.1<t;omega)]
  unfold aapp
  rw [if_pos hz]
  rw [show e.2.1=i+1 from a1]
  exact aapp_may r top (i+1) e.1 a6 (fun y hy=>h1 y (by simp [hy])) ht (by omega)
theorem aapp_low {l:List Abs} {i t t':Int} (h:aapp (i,t) l=0) (hl:headLow t' l=false):aapp (i,t') l=0:=by
 cases l with
 | nil=>rfl
 | cons e r =>
  obtain ⟨a,b⟩:=aapp_cons h
  have hl:¬ e.1<t':=by unfold headLow at hl;exact of_decide_eq_false hl
  unfold aapp
  rw [if_pos]
  ·exact b
  ·unfold achk at a ⊢
   split at a
   ·cases a
   ·rename_i c1
    rw [if_neg c1]
    split at a
    ·cases a
    ·rename_i c2
     rw [if_neg c2,if_neg hl]
theorem aapp_drop:∀ (k:Nat) (l:List Abs) (i t:Int),aapp (i,t) l=0→∃ t',aapp (i+k,t') (l.drop k)=0
 | 0,l,i,t,h=>⟨t,by simpa using h⟩
 | k+1,[],i,t,h=>⟨0,by simp [aapp]⟩
 | k+1,e::r,i,t,h=>by
  obtain ⟨a,b⟩:=aapp_cons h
  have hx:e.2.1=i+1:=achk_next a
  obtain ⟨t',h'⟩:=aapp_drop k r e.2.1 e.1 b
  exact ⟨t',by rw [List.drop_succ_cons,show i+((k+1:Nat):Int)=e.2.1+k by omega];exact h'⟩
theorem aapp_list {c:CoreM} {p:PostM} (hm:entriesMay p.term p.index p.logTerm p.entries=true) (h1:∀ e∈p.entries,1≤e.1) (ht:p.term≤9007199254740991) (hi:0≤p.index) (hl:headLow (aTerm c p) (aList c p)=false):aapp (aIndex c p,aTerm c p) (aList c p)=0:=by
 have h:=aapp_may _ _ _ _ hm h1 ht hi
 unfold aIndex aList aTerm at *
 by_cases z:p.index<c.log.bi
 ·rw [if_pos z] at hl ⊢
  rw [if_pos z] at hl ⊢
  rw [if_pos z]
  obtain ⟨t',h'⟩:=aapp_drop (c.log.bi-p.index).toNat _ _ _ h
  rw [show p.index+((c.log.bi-p.index).toNat:Int)=c.log.bi by omega] at h'
  exact aapp_low h' hl
 ·rw [if_neg z] at hl ⊢
  rw [if_neg z] at hl ⊢
  rw [if_neg z]
  exact h
theorem step1_same (c:CoreM) (e:Abs):(c.step1 e).out.posts=c.out.posts∧(c.step1 e).out.entries.length≤c.out.entries.length+1∧(c.step1 e).log.es.length≤c.log.es.length+1∧(c.step1 e).commit=c.commit∧(c.step1 e).self=c.self:=by
 unfold CoreM.step1
 split
 ·exact ⟨rfl,by omega,by omega,rfl,rfl⟩
 ·have h1:(c.cutIf e).out.posts=c.out.posts∧(c.cutIf e).out.entries=c.out.entries∧(c.cutIf e).log.es.length≤c.log.es.length∧(c.cutIf e).commit=c.commit∧(c.cutIf e).self=c.self:=by
   unfold CoreM.cutIf
   split
   ·refine ⟨rfl,rfl,?_,rfl,rfl⟩
    show (c.log.cut e.2.1).2.es.length≤_
    unfold LG.cut;split
    ·simp only [List.length_take];omega
    ·exact Nat.le_refl _
   ·exact ⟨rfl,rfl,Nat.le_refl _,rfl,rfl⟩
  obtain ⟨a,b,d,e1,e2⟩:=h1
  refine ⟨a,?_,?_,e1,e2⟩
  ·show ((c.cutIf e).out.entries++[e]).length≤_;rw [b];simp
  ·show ((c.cutIf e).log.append [e]).2.es.length≤_
   unfold LG.append;split
   ·simp only [List.length_append,List.length_cons,List.length_nil];omega
   ·show (c.cutIf e).log.es.length≤_;omega
theorem step1_lo {c:CoreM} (lo:LOk c.log) (e:Abs):LOk (c.step1 e).log:=by
 unfold CoreM.step1
 split
 ·exact lo
 ·refine LOk.append ?_ [e]
  unfold CoreM.cutIf
  split
  ·exact lo.cut _
  ·exact lo
set_option maxHeartbeats 16000000 in
theorem rentries_any {h:Heap} {p o oo:Nat} {c:CoreM} (ap:Apart o oo) (k:RCore h p o oo c) (lo:LOk c.log) (x:PH) (g:Given h o oo x) (hx0:0≤x.index) (hx1:x.index≤9007199254740991) (he:x.es.length≤8) (hsm:∀ e∈x.es,e.n≤1200)
  (hm:entriesMay x.term x.index x.logTerm (x.es.map EH.abs)=true) (ht1:∀ e∈x.es,1≤e.term) (htm:x.term≤9007199254740991)
  (hroom:(c.log.es.length+8)*48≤140737488355328) (hoe:c.out.entries.length≤1000000) (hp:c.out.posts.length≤1000000000) :
  ACalls PR 97 #[Ptr p, .agg x.cells.toArray] h (fun v h'=>v = .tuple #[]∧RCore h' p o oo (c.append x.abs)∧Keeps [o,o+1,oo] h h'):=by
 obtain ⟨cx,k⟩:=k
 have hlo:=lo.lo
 have htop:=lo.top
 have hlast:=lo.last
 obtain ⟨⟨t1,t2,t3,ok,tn1,tn2,tn3⟩,hby,_,_,hn1⟩:=g
 have hxl:x.es.length=x.e.n:=ok.len.1
 rw [CoreM.append_eq]
 refine acalls_ofj mix Tryz.func97 rfl rfl Tryz.ntmps97 Tryz.results97 rfl ?_;conv=>whnf
 refine ABox.mkN (0,1) (x.cells) rfl fun b3 h2 n2 s2 k3=>?_;conv=>whnf
 have q:=k.sub s2
 have X2:=ok.es.sub s2
 clear n2
 obtain ⟨stop,hstop⟩:∃ stop:Int,stop=x.index+x.e.n:=⟨_,rfl⟩
 refine ALoad.one rfl k3 rfl ?_
 refine ALoad.one rfl k3 rfl ?_;conv=>whnf
 refine AArith.ok (by omega) (by omega) (rfl) ?_;conv=>whnf
 rw [← hstop]
 refine AIf.go ?_;conv=>whnf
 refine ADrawn.mk (h2) [] (Sub.refl _) (by decide +kernel) ?_;conv=>whnf
 refine ALoad.one rfl k3 rfl ?_
 refine ALoad.one rfl k3 rfl ?_
 refine ALoad.one rfl k3 rfl ?_
 refine ALoad.one rfl q.str rfl ?_;conv=>whnf
 refine ACalls.mono (rFirst_c q.log lo) ?_;rintro _ _ ⟨rfl,rfl⟩;conv=>whnf
 refine AArith.ok (r':=c.log.bi) (by omega) (by omega) (by omega) ?_;conv=>whnf
 obtain ⟨li,hli⟩:∃ li,li=aIndex c x.abs:=⟨_,rfl⟩
 obtain ⟨lt,hlt⟩:∃ lt,lt=aTerm c x.abs:=⟨_,rfl⟩
 have hap:=aapp_list (c:=c) (p:=x.abs) hm (fun e he=>by obtain ⟨y,hy,rfl⟩:=List.mem_map.1 he;exact ht1 y hy) htm hx0
 rw [← hli,← hlt] at hap
 rw [← hli,← hlt]
 have hli2:0≤li∧li≤9007199254740991:=by
  rw [hli];unfold aIndex;split
  ·omega
  ·exact ⟨hx0,hx1⟩
 refine AIf.cut (fun e h'=>∃ e0 la ln lc les,e=updL 189 e0 [(0,Ptr p),(3,Ptr b3),(4,I stop),(5,I li),(6,I lt),(7, .slice la ln lc)]∧h2=h'∧Ents h2 t1 t2 la ln lc les∧les.map EH.abs=aList c x.abs∧(∀ y∈les,y.n≤1200)∧ln≤8) ?_ ?_
 ·conv=>whnf
  by_cases c1:x.index<c.log.bi
  ·refine ACmp.yes (c1) ?_;conv=>whnf
   have e1:li=c.log.bi:=by rw [hli];exact if_pos c1
   have e2:lt=c.log.bt:=by rw [hlt];exact if_pos c1
   obtain ⟨kd,hkd⟩:∃ kd:Nat,kd=if (c.log.bi-x.index).toNat<x.e.n then (c.log.bi-x.index).toNat else x.e.n:=⟨_,rfl⟩
   have hkd1:kd≤x.e.n:=by rw [hkd];split <;> omega
   have hdrop:aList c x.abs=(x.es.drop kd).map EH.abs:=by
    rw [show aList c x.abs=(x.es.map EH.abs).drop (c.log.bi-x.index).toNat from if_pos c1,← List.map_drop,hkd]
    split
    ·rfl
    ·rw [List.drop_of_length_le (by omega),List.drop_of_length_le (by omega)]
   refine AArith.ok (by omega) (by omega) (rfl) ?_;conv=>whnf
   refine AInt.as (show _=(kd:Int) from ?_) ?_
   ·rw [hkd];split <;> split <;> omega
   conv=>whnf
   refine ASlc.from (z:=4) (l:=kd) rfl hkd1 X2.sl.le rfl rfl ?_;conv=>whnf
   refine ALoad.one rfl q.str rfl ?_;conv=>whnf
   refine ACalls.mono (rTerm_c q.log lo c.log.bi) ?_;rintro _ _ ⟨rfl,rfl⟩;conv=>whnf
   rw [show (c.log.term c.log.bi).1=c.log.bt by unfold LG.term;rw [if_pos rfl]]
   exact ⟨_,_,_,_,x.es.drop kd,updL_self ⟨rfl,rfl,rfl,congrArg I e1.symm,congrArg I e2.symm,rfl,trivial⟩,rfl,X2.from hkd1,hdrop.symm,fun e he=>hsm e (List.mem_of_mem_drop he),by omega⟩
  ·refine ACmp.no (c1) ?_;conv=>whnf
   exact ⟨_,_,_,_,x.es,updL_self ⟨rfl,rfl,rfl,congrArg I (by rw [hli];exact (if_neg c1).symm),congrArg I (by rw [hlt];exact (if_neg c1).symm),rfl,trivial⟩,rfl,X2,(if_neg c1).symm,hsm,by omega⟩
 rintro e _ ⟨e0,la,ln,lc,les,rfl,rfl,XL,hal,hls,hl8⟩
 have hll:les.length=ln:=XL.len
 rw [← hal] at hap ⊢
 conv=>whnf
 refine AIf.go ?_;conv=>whnf
 refine AIf.cut (fun e h'=>∃ e0,e=updL 189 e0 [(0,Ptr p),(3,Ptr b3),(4,I stop),(5,I li),(7, .slice la ln lc),(75, .bool (!c.has li lt || headLow lt (les.map EH.abs)))]∧h2=h') ?_ ?_
 ·conv=>whnf
  refine ALoad.one rfl q.str rfl ?_;conv=>whnf
  have hcall:ACalls PR 161 #[Ptr cx.log,I li,I lt] h2 (fun v h'=>v = .bool (c.has li lt)∧h2=h'):=rHas_c q.log lo li lt
  cases hh:c.has li lt with
  | false =>
   rw [hh] at hcall
   refine ACalls.mono (hcall) ?_;rintro _ _ ⟨rfl,rfl⟩;conv=>whnf
   exact ⟨_,updL_self ⟨rfl,rfl,rfl,rfl,rfl,rfl,trivial⟩,rfl⟩
  | true =>
   rw [hh] at hcall
   refine ACalls.mono (hcall) ?_;rintro _ _ ⟨rfl,rfl⟩;conv=>whnf
   by_cases hln:ln=0
   ·refine ACmp.no ((by omega)) ?_;conv=>whnf
    exact ⟨_,updL_self ⟨rfl,rfl,rfl,rfl,rfl,congrArg Value.bool (by rw [List.length_eq_zero_iff.1 (by omega:les.length=0)];rfl),trivial⟩,rfl⟩
   ·refine ACmp.yes ((by omega)) ?_;conv=>whnf
    obtain ⟨y0,yr,hyr⟩:∃ y0 r,les=y0::r:=by
     cases hc:les with
     | nil=>rw [hc] at hll;simp at hll;omega
     | cons z r=>exact ⟨z,r,rfl⟩
    obtain ⟨bg,og,lg,Eg,fzg,ega,hbg,hcg⟩:=XL.sl.pos (by omega)
    have gi:lg[og+0*4]? = some (I y0.term):=by
     rw [get_of_take hcg (by omega)]
     exact encs_get (show les[0]? = some y0 by rw [hyr];rfl) (show 0<4 by omega)
    rw [ega]
    refine AIdx.nat (n:=ln) (z:=4) (j:=0) rfl (by omega) rfl rfl ?_;conv=>whnf
    refine ALoad.one rfl hbg gi ?_;conv=>whnf
    refine ACmp.dec ?_;conv=>whnf
    exact ⟨_,updL_self ⟨rfl,rfl,rfl,rfl,rfl,congrArg Value.bool (by rw [hyr];rfl),trivial⟩,rfl⟩
 rintro e _ ⟨e1,rfl,rfl⟩
 cases hB:(!c.has li lt || headLow lt (les.map EH.abs)) with
 | true =>
  rw [if_pos (by
   rcases Bool.or_eq_true_iff.1 hB with z | z
   ·exact .inl (by simpa using z)
   ·exact .inr z)]
  conv=>whnf
  refine ACalls.mono (rlast_any q lo) ?_;rintro _ _ ⟨rfl,rfl⟩;conv=>whnf
  refine ALoad.one rfl k3 rfl ?_;conv=>whnf
  refine AArith.ok (by omega) (by omega) (rfl) ?_;conv=>whnf
  refine AInt.as (rfl) ?_;conv=>whnf
  refine ALoad.one rfl k3 rfl ?_;conv=>whnf
  refine ACalls.mono (rsay_any ap.a ap.b ap.c ap.d ⟨_,q⟩ x.src {post1 with kind:=4,dst:=x.src,index:=(if c.log.last.1<li-1 then c.log.last.1 else li-1),hint:=x.hint} rfl (made0 rfl rfl rfl rfl) hp) ?_;rintro _ hB ⟨rfl,kB,kkB⟩;conv=>whnf
  exact ⟨rfl,kB,(s2.keeps _).trans (kkB.mono (by simp))⟩
 | false =>
 obtain ⟨hb1,hb2⟩:=Bool.or_eq_false_iff.1 hB
 have hhas:c.has li lt=true:=by simpa using hb1
 rw [if_neg (by rw [hhas,hb2];simp)]
 have hap:=hap (by rw [← hlt,hal] at *;exact hb2)
 have hall:=steps_all (les.map EH.abs) c li lt lo hhas hap
 conv=>whnf
 refine ALoop.mk (fun e h'=>∃ e0,∃ j:Nat,∃ cj:CX,∃ d:CoreM,e=updL 189 e0 [(0,Ptr p),(3,Ptr b3),(4,I stop),(7, .slice la ln lc),(12,I j)]∧j≤ln∧d=((les.take j).map EH.abs).foldl CoreM.step1 c ∧
   RX h' p o oo d cj∧Keeps [o,o+1,oo] h h'∧h' b3=some (row (0,1) x.cells 49)∧Ents h' t1 t2 la ln lc les∧LOk d.log∧d.log.es.length≤c.log.es.length+j∧d.out.entries.length≤c.out.entries.length+j∧d.out.posts=c.out.posts) (fun e=>ln-natOf (e 12))
  ⟨_,0,cx,c,updL_self ⟨rfl,rfl,rfl,rfl,rfl,trivial⟩,by omega,rfl,q,s2.keeps _,k3,XL,lo,by omega,by omega,rfl⟩ ?_
 clear q k3 XL
 rintro e h6 ⟨e2,j,cj,d,rfl,hj,hd,q6,KK6,k36,X6,lod,hdl,hde,hdp⟩
 conv=>whnf
 refine AIf.go ?_;conv=>whnf
 by_cases hjn:j<ln
 ·refine ACmp.yes (by omega) ?_;conv=>whnf
  obtain ⟨y,hy⟩:∃ y,les[j]? = some y:=⟨les[j]'(by omega),by simp⟩
  have my:=List.mem_of_getElem? hy
  have hyn:y.n≤1200:=hls y my
  have hsucc:((les.take (j+1)).map EH.abs).foldl CoreM.step1 c=d.step1 y.abs:=by
   rw [List.take_succ_eq_append_getElem (show j<les.length by omega),(List.getElem?_eq_some_iff.1 hy).2,List.map_append,List.foldl_append,← hd];rfl
  obtain ⟨sp1,sp2,sp3,_,_⟩:=step1_same d y.abs
  have slo:=step1_lo lod y.abs
  obtain ⟨bf,off,lf,Ef,fzf,efa,hbf,hcf⟩:=X6.sl.pos (by omega)
  have tf:t1≠(o,0)∧t1.1≠o+1∧t1.1≠oo:=⟨fun c=>tn1 (by rw [c];simp),fun c=>tn1 (by rw [c];simp),fun c=>tn1 (by rw [c];simp)⟩
  have g0:(lf.drop (off+j*4)).take 4=y.cells:=by rw [part_of_take hcf (by omega),encs_part hy]
  have gI:lf[off+j*4+1]? = some (I y.index):=by have:=congrArg (fun q:List Value=>q[1]?) g0;simpa [List.getElem?_take,List.getElem?_drop,EH.cells] using this
  have gT:lf[off+j*4]? = some (I y.term):=by have:=congrArg (fun q:List Value=>q[0]?) g0;simpa [List.getElem?_take,List.getElem?_drop,EH.cells] using this
  subst efa
  refine AIf.go ?_;conv=>whnf
  refine AIf.go ?_;conv=>whnf
  refine ADrawn.mk (h6) [] (Sub.refl _) (by decide +kernel) ?_;conv=>whnf
  refine ALoad.one rfl q6.str rfl ?_;conv=>whnf
  refine AIdx.nat (n:=ln) (z:=4) (j:=j) rfl hjn rfl rfl ?_;conv=>whnf
  refine ALoad.one rfl hbf gI ?_;conv=>whnf
  refine ACalls.mono (rTerm_c q6.log lod y.index) ?_;rintro _ _ ⟨rfl,rfl⟩;conv=>whnf
  refine ⟨Sub.refl _,?_⟩;conv=>whnf
  refine AIf.go ?_;conv=>whnf
  refine AIf.go ?_;conv=>whnf
  by_cases f0:(d.log.term y.index).2=0∧(d.log.term y.index).1=y.term
  ·
   refine ACmp.yes (f0.1) ?_;conv=>whnf
   refine AIdx.nat (n:=ln) (z:=4) (j:=j) rfl hjn rfl rfl ?_;conv=>whnf
   refine ALoad.one rfl hbf gT ?_;conv=>whnf
   refine ACmp.yes (f0.2) ?_;conv=>whnf
   have e1:d.step1 y.abs=d:=if_pos (decide_eq_true f0)
   have QN:RX h6 p o oo (d.step1 y.abs) cj:=by rw [e1];exact q6
   refine AArith.ok (by omega) (by omega) ((by omega:(j:Int)+1=((j+1:Nat):Int))) ?_;conv=>whnf
   refine ⟨⟨_,j+1,_,d.step1 y.abs,updL_self ⟨rfl,rfl,rfl,rfl,rfl,trivial⟩,by omega,hsucc.symm,QN,KK6,k36,X6,slo,by omega,by omega,sp1.trans hdp⟩,?_⟩
   show ln-(j+1)<ln-j
   omega
  ·have e1:d.step1 y.abs=(d.cutIf y.abs).push y.abs:=if_neg fun z=>f0 (of_decide_eq_true z)
   by_cases z0:(d.log.term y.index).2=0
   ·refine ACmp.yes (z0) ?_;conv=>whnf
    refine AIdx.nat (n:=ln) (z:=4) (j:=j) rfl hjn rfl rfl ?_;conv=>whnf
    refine ALoad.one rfl hbf gT ?_;conv=>whnf
    refine ACmp.no ((fun c=>f0 ⟨z0,c⟩)) ?_;conv=>whnf
    refine AIf.cut (fun e h'=>∃ e0 g,e=updL 189 e0 [(0,Ptr p),(3,Ptr b3),(4,I stop),(7, .slice (some ⟨bf,off,none⟩) ln lc),(12,I j)]∧g=d.cutIf y.abs∧RX h' p o oo g cj∧Keeps [o,o+1,oo] h6 h') ?_ ?_
    ·conv=>whnf
     by_cases z0:(d.log.term y.index).2=0
     ·refine ACmp.yes (z0) ?_;conv=>whnf
      have eg:d.cutIf y.abs={d with log:=(d.log.cut y.index).2,out:={d.out with cut:=y.index}}:=if_pos z0
      refine AIf.go ?_;conv=>whnf
      refine ADrawn.mk (h6) [9] (Sub.refl _) (by decide +kernel) ?_;conv=>whnf
      refine ALoad.one rfl q6.str rfl ?_;conv=>whnf
      refine AIdx.nat (n:=ln) (z:=4) (j:=j) rfl hjn rfl rfl ?_;conv=>whnf
      refine ALoad.one rfl hbf gI ?_;conv=>whnf
      refine ACalls.mono (rCut_c (by omega) q6.log lod y.index (by omega)) ?_;rintro _ h7 ⟨rfl,l7,kk7⟩;conv=>whnf
      have q7:=kk7.get (by simp) q6.str
      have hbf7:=kk7.get tf.2.1 hbf
      refine AIdx.nat (n:=ln) (z:=4) (j:=j) rfl hjn rfl rfl ?_;conv=>whnf
      refine ALoad.one rfl hbf7 gI ?_;conv=>whnf
      refine AStore.oneN rfl rfl rfl (q7) rfl (coreCells {d with log:=(d.log.cut y.index).2,out:={d.out with cut:=y.index}} cj) rfl fun h8 t8 k8 a8 e8=>?_;conv=>whnf
      refine ⟨_,_,updL_self ⟨rfl,rfl,rfl,rfl,rfl,trivial⟩,eg.symm,⟨k8,(q6.sd.move fun b y e=>kk7.get (by simp) e).keepT t8 (by simp),KeepT.log l7 t8,(q6.rd.move fun b y e=>kk7.get (by simp) e).keepT t8 (by simp),?_⟩,(kk7.keeps (by simp)).trans (t8.keep.keeps (by simp))⟩
      have z:=(q6.out.move fun b t y ht e=>kk7 _ _ _ (by rw [ht];exact ap.b.symm) e:OutOk h7 oo d.out cj.ox).keepT ap.a t8
      exact ⟨z.od,z.oe,z.ed,z.ea,z.es,z.op,z.ps,z.pa,z.qr⟩
     ·refine ACmp.no (z0) ?_;conv=>whnf
      exact ⟨_,_,updL_self ⟨rfl,rfl,rfl,rfl,rfl,trivial⟩,(if_neg z0).symm,q6,Keeps.refl _ _⟩
    rintro e h8 ⟨e3,g,rfl,hg,q8,kk8⟩
    rw [← hg] at e1
    have hgl:LOk g.log∧g.log.es.length≤d.log.es.length∧g.out.entries=d.out.entries:=by
     rw [hg];unfold CoreM.cutIf;split
     ·refine ⟨lod.cut _,?_,rfl⟩
      show (d.log.cut y.abs.2.1).2.es.length≤_
      unfold LG.cut;split
      ·simp only [List.length_take];omega
      ·exact Nat.le_refl _
     ·exact ⟨lod,Nat.le_refl _,rfl⟩
    obtain ⟨gl1,gl2,gl3⟩:=hgl
    have X8:=X6.keeps kk8 tn1 tn2
    have hbf8:=kk8 _ _ _ tn1 hbf
    conv=>whnf
    refine AIf.go ?_;conv=>whnf
    refine ADrawn.mk ((few h8 [p,bf])) [9] (few_sub _ _) (by decide +kernel) ?_;conv=>whnf
    refine ALoad.one rfl ((few_at (by simp)).trans q8.str) rfl ?_;conv=>whnf
    refine AIdx.nat (n:=ln) (z:=4) (j:=j) rfl hjn rfl rfl ?_;conv=>whnf
    refine ALoad.agg rfl ((few_at (by simp)).trans hbf8) g0 rfl ?_;conv=>whnf
    refine ABuildSl.mkN (0,1) y.cells rfl rfl rfl rfl rfl rfl rfl fun b9 h9 n9 s9 k9=>?_;conv=>whnf
    refine ⟨(few_sub _ _).trans s9,?_⟩;conv=>whnf
    have q9:=q8.sub s9
    refine ACalls.mono (rAppend_c (by omega:o+1≠0) q9.log gl1 (t:=(0,1)) (td:=t2) (by simp) (fun c=>tn2 (by rw [c];simp)) (ents_one k9 (Sl.sub (X8.good y my) s9) (by omega)) (by omega)) ?_;rintro _ hA ⟨rfl,lA,kkA⟩;conv=>whnf
    have qA:=kkA.get (by simp) q9.str
    obtain ⟨g2,hg2⟩:∃ g2:CoreM,g2={g with log:=(g.log.append [y.abs]).2}:=⟨_,rfl⟩
    have QA:RX hA p o oo g2 cj:=by
     rw [hg2]
     exact ⟨qA,q9.sd.move fun b y e=>kkA.get (by simp) e,lA,q9.rd.move fun b y e=>kkA.get (by simp) e,q9.out.move fun b t y ht e=>kkA _ _ _ (by rw [ht];exact ap.b.symm) e⟩
    have KA:Keeps [o,o+1,oo] h8 hA:=(s9.keeps _).trans (kkA.keeps (by simp))
    have hbfA:=KA _ _ _ tn1 hbf8
    have XA:=X8.keeps KA tn1 tn2
    have eg2:(g.push y.abs)={g2 with out:={g2.out with entries:=g2.out.entries++[y.abs]}}:=by rw [hg2];rfl
    have hel:cj.ox.es.length=cj.ox.oe.n:=by
     have:=QA.out.oe.sl.len
     rw [encs_length] at this;omega
    have hel2:cj.ox.es.length=g.out.entries.length:=by
     have e:cj.ox.es.map EH.abs=g2.out.entries:=QA.out.ea
     have e:=congrArg List.length e
     rw [List.length_map] at e;rw [e,hg2]
    rw [gl3] at hel2
    refine ADrawn.mk ((few hA [p,bf])) [16] (few_sub _ _) (by decide +kernel) ?_;conv=>whnf
    refine ALoad.one rfl ((few_at (by simp)).trans QA.str) rfl ?_;conv=>whnf
    refine AIdx.nat (n:=ln) (z:=4) (j:=j) rfl hjn rfl rfl ?_;conv=>whnf
    refine ALoad.agg rfl ((few_at (by simp)).trans hbfA) g0 rfl ?_;conv=>whnf
    refine ACalls.mono (copyE_any hA (oo,2) (fun c=>ap.d (congrArg Prod.fst c)) y (XA.good y my) (by omega)) ?_
    rintro _ hB ⟨aB,cB,rfl,owB,sB⟩
    refine ⟨(few_sub _ _).trans sB,?_⟩;conv=>whnf
    obtain ⟨en,hen⟩:∃ en:EH,en=⟨y.term,y.index,y.kind,aB,y.n,cB,y.data⟩:=⟨_,rfl⟩
    rw [show #[I y.term,I y.index,I y.kind,Value.slice aB y.n cB]=en.cells.toArray by rw [hen];rfl]
    have ownB:en.Mine hB (oo,2):=by rw [hen];exact owB
    have hea:en.abs=y.abs:=by rw [hen];rfl
    have hnn:en.n≤1200:=by rw [hen];exact hyn
    refine ABuildSl.mkN (0,1) en.cells rfl rfl rfl rfl rfl rfl (by rw [hen];rfl) fun bC hC nC sC kC=>?_;conv=>whnf
    refine ⟨(few_sub _ _).trans (sB.trans sC),?_⟩;conv=>whnf
    have QC:=(QA.sub sB).sub sC
    refine AAppend.own (t:=(oo,1)) (E:=59) (z:=4) (by_:=48) (zero:=entry0z) (tx:=(0,1)) (xs:=en.cells) rfl ⟨_,rfl⟩ rfl rfl rfl rfl (by omega) QC.out.oe
     ⟨rfl,Nat.le_refl _, .inr ⟨bC,0,_,_,_,rfl,kC,rfl⟩⟩ (by rw [hen];rfl) (by omega) (by omega) fun aD cD hD owD tD _=>?_
    conv=>whnf
    have pD:=tD.get (u:=(o,0)) (fun c=>ap.a (congrArg Prod.fst c)) QC.str
    have bD:=tD.get (fun c=>tf.2.2 (by rw [c])) (sC _ _ (sB _ _ hbfA))
    refine ⟨few_get fun z hz w hw=>?_,?_⟩
    ·simp only [List.mem_cons,List.not_mem_nil,or_false] at hz
     rcases hz with rfl | rfl
     ·rw [QA.str] at hw;cases hw;exact pD
     ·rw [hbfA] at hw;cases hw;exact bD
    conv=>whnf
    refine AStore.oneN rfl rfl rfl (pD) rfl (coreCells {g2 with out:={g2.out with entries:=g2.out.entries++[en.abs]}} {cj with ox:={cj.ox with oe:=⟨aD,cj.ox.oe.n+1,cD⟩,es:=cj.ox.es++[en]}}) rfl fun hE tE kE aE eE=>?_;conv=>whnf
    have QE:=CoreX.pushE ap QC tD owD (Own.sub ownB sC) hnn tE kE
    rw [hea,← eg2,← e1] at QE
    have KE:Keeps [o,o+1,oo] h6 hE:=kk8.trans (KA.trans (((sB.trans sC).keeps _).trans ((tD.keep.keeps (by simp)).trans (tE.keep.keeps (by simp)))))
    have QN:=QE
    have KN:=KK6.trans KE
    have K3N:=KE _ _ _ (by have:=ap.c;have:=ap.d;simp;omega) k36
    have XN:=X6.keeps KE tn1 tn2
    refine AArith.ok (by omega) (by omega) ((by omega:(j:Int)+1=((j+1:Nat):Int))) ?_;conv=>whnf
    refine ⟨⟨_,j+1,_,d.step1 y.abs,updL_self ⟨rfl,rfl,rfl,rfl,rfl,trivial⟩,by omega,hsucc.symm,QN,KN,K3N,XN,slo,by omega,by omega,sp1.trans hdp⟩,?_⟩
    show ln-(j+1)<ln-j
    omega
   ·refine ACmp.no (z0) ?_;conv=>whnf
    refine AIf.cut (fun e h'=>∃ e0 g,e=updL 189 e0 [(0,Ptr p),(3,Ptr b3),(4,I stop),(7, .slice (some ⟨bf,off,none⟩) ln lc),(12,I j)]∧g=d.cutIf y.abs∧RX h' p o oo g cj∧Keeps [o,o+1,oo] h6 h') ?_ ?_
    ·conv=>whnf
     by_cases z0:(d.log.term y.index).2=0
     ·refine ACmp.yes (z0) ?_;conv=>whnf
      have eg:d.cutIf y.abs={d with log:=(d.log.cut y.index).2,out:={d.out with cut:=y.index}}:=if_pos z0
      refine AIf.go ?_;conv=>whnf
      refine ADrawn.mk (h6) [9] (Sub.refl _) (by decide +kernel) ?_;conv=>whnf
      refine ALoad.one rfl q6.str rfl ?_;conv=>whnf
      refine AIdx.nat (n:=ln) (z:=4) (j:=j) rfl hjn rfl rfl ?_;conv=>whnf
      refine ALoad.one rfl hbf gI ?_;conv=>whnf
      refine ACalls.mono (rCut_c (by omega) q6.log lod y.index (by omega)) ?_;rintro _ h7 ⟨rfl,l7,kk7⟩;conv=>whnf
      have q7:=kk7.get (by simp) q6.str
      have hbf7:=kk7.get tf.2.1 hbf
      refine AIdx.nat (n:=ln) (z:=4) (j:=j) rfl hjn rfl rfl ?_;conv=>whnf
      refine ALoad.one rfl hbf7 gI ?_;conv=>whnf
      refine AStore.oneN rfl rfl rfl (q7) rfl (coreCells {d with log:=(d.log.cut y.index).2,out:={d.out with cut:=y.index}} cj) rfl fun h8 t8 k8 a8 e8=>?_;conv=>whnf
      refine ⟨_,_,updL_self ⟨rfl,rfl,rfl,rfl,rfl,trivial⟩,eg.symm,⟨k8,(q6.sd.move fun b y e=>kk7.get (by simp) e).keepT t8 (by simp),KeepT.log l7 t8,(q6.rd.move fun b y e=>kk7.get (by simp) e).keepT t8 (by simp),?_⟩,(kk7.keeps (by simp)).trans (t8.keep.keeps (by simp))⟩
      have z:=(q6.out.move fun b t y ht e=>kk7 _ _ _ (by rw [ht];exact ap.b.symm) e:OutOk h7 oo d.out cj.ox).keepT ap.a t8
      exact ⟨z.od,z.oe,z.ed,z.ea,z.es,z.op,z.ps,z.pa,z.qr⟩
     ·refine ACmp.no (z0) ?_;conv=>whnf
      exact ⟨_,_,updL_self ⟨rfl,rfl,rfl,rfl,rfl,trivial⟩,(if_neg z0).symm,q6,Keeps.refl _ _⟩
    rintro e h8 ⟨e3,g,rfl,hg,q8,kk8⟩
    rw [← hg] at e1
    have hgl:LOk g.log∧g.log.es.length≤d.log.es.length∧g.out.entries=d.out.entries:=by
     rw [hg];unfold CoreM.cutIf;split
     ·refine ⟨lod.cut _,?_,rfl⟩
      show (d.log.cut y.abs.2.1).2.es.length≤_
      unfold LG.cut;split
      ·simp only [List.length_take];omega
      ·exact Nat.le_refl _
     ·exact ⟨lod,Nat.le_refl _,rfl⟩
    obtain ⟨gl1,gl2,gl3⟩:=hgl
    have X8:=X6.keeps kk8 tn1 tn2
    have hbf8:=kk8 _ _ _ tn1 hbf
    conv=>whnf
    refine AIf.go ?_;conv=>whnf
    refine ADrawn.mk ((few h8 [p,bf])) [9] (few_sub _ _) (by decide +kernel) ?_;conv=>whnf
    refine ALoad.one rfl ((few_at (by simp)).trans q8.str) rfl ?_;conv=>whnf
    refine AIdx.nat (n:=ln) (z:=4) (j:=j) rfl hjn rfl rfl ?_;conv=>whnf
    refine ALoad.agg rfl ((few_at (by simp)).trans hbf8) g0 rfl ?_;conv=>whnf
    refine ABuildSl.mkN (0,1) y.cells rfl rfl rfl rfl rfl rfl rfl fun b9 h9 n9 s9 k9=>?_;conv=>whnf
    refine ⟨(few_sub _ _).trans s9,?_⟩;conv=>whnf
    have q9:=q8.sub s9
    refine ACalls.mono (rAppend_c (by omega:o+1≠0) q9.log gl1 (t:=(0,1)) (td:=t2) (by simp) (fun c=>tn2 (by rw [c];simp)) (ents_one k9 (Sl.sub (X8.good y my) s9) (by omega)) (by omega)) ?_;rintro _ hA ⟨rfl,lA,kkA⟩;conv=>whnf
    have qA:=kkA.get (by simp) q9.str
    obtain ⟨g2,hg2⟩:∃ g2:CoreM,g2={g with log:=(g.log.append [y.abs]).2}:=⟨_,rfl⟩
    have QA:RX hA p o oo g2 cj:=by
     rw [hg2]
     exact ⟨qA,q9.sd.move fun b y e=>kkA.get (by simp) e,lA,q9.rd.move fun b y e=>kkA.get (by simp) e,q9.out.move fun b t y ht e=>kkA _ _ _ (by rw [ht];exact ap.b.symm) e⟩
    have KA:Keeps [o,o+1,oo] h8 hA:=(s9.keeps _).trans (kkA.keeps (by simp))
    have hbfA:=KA _ _ _ tn1 hbf8
    have XA:=X8.keeps KA tn1 tn2
    have eg2:(g.push y.abs)={g2 with out:={g2.out with entries:=g2.out.entries++[y.abs]}}:=by rw [hg2];rfl
    have hel:cj.ox.es.length=cj.ox.oe.n:=by
     have:=QA.out.oe.sl.len
     rw [encs_length] at this;omega
    have hel2:cj.ox.es.length=g.out.entries.length:=by
     have e:cj.ox.es.map EH.abs=g2.out.entries:=QA.out.ea
     have e:=congrArg List.length e
     rw [List.length_map] at e;rw [e,hg2]
    rw [gl3] at hel2
    refine ADrawn.mk ((few hA [p,bf])) [16] (few_sub _ _) (by decide +kernel) ?_;conv=>whnf
    refine ALoad.one rfl ((few_at (by simp)).trans QA.str) rfl ?_;conv=>whnf
    refine AIdx.nat (n:=ln) (z:=4) (j:=j) rfl hjn rfl rfl ?_;conv=>whnf
    refine ALoad.agg rfl ((few_at (by simp)).trans hbfA) g0 rfl ?_;conv=>whnf
    refine ACalls.mono (copyE_any hA (oo,2) (fun c=>ap.d (congrArg Prod.fst c)) y (XA.good y my) (by omega)) ?_
    rintro _ hB ⟨aB,cB,rfl,owB,sB⟩
    refine ⟨(few_sub _ _).trans sB,?_⟩;conv=>whnf
    obtain ⟨en,hen⟩:∃ en:EH,en=⟨y.term,y.index,y.kind,aB,y.n,cB,y.data⟩:=⟨_,rfl⟩
    rw [show #[I y.term,I y.index,I y.kind,Value.slice aB y.n cB]=en.cells.toArray by rw [hen];rfl]
    have ownB:en.Mine hB (oo,2):=by rw [hen];exact owB
    have hea:en.abs=y.abs:=by rw [hen];rfl
    have hnn:en.n≤1200:=by rw [hen];exact hyn
    refine ABuildSl.mkN (0,1) en.cells rfl rfl rfl rfl rfl rfl (by rw [hen];rfl) fun bC hC nC sC kC=>?_;conv=>whnf
    refine ⟨(few_sub _ _).trans (sB.trans sC),?_⟩;conv=>whnf
    have QC:=(QA.sub sB).sub sC
    refine AAppend.own (t:=(oo,1)) (E:=59) (z:=4) (by_:=48) (zero:=entry0z) (tx:=(0,1)) (xs:=en.cells) rfl ⟨_,rfl⟩ rfl rfl rfl rfl (by omega) QC.out.oe
     ⟨rfl,Nat.le_refl _, .inr ⟨bC,0,_,_,_,rfl,kC,rfl⟩⟩ (by rw [hen];rfl) (by omega) (by omega) fun aD cD hD owD tD _=>?_
    conv=>whnf
    have pD:=tD.get (u:=(o,0)) (fun c=>ap.a (congrArg Prod.fst c)) QC.str
    have bD:=tD.get (fun c=>tf.2.2 (by rw [c])) (sC _ _ (sB _ _ hbfA))
    refine ⟨few_get fun z hz w hw=>?_,?_⟩
    ·simp only [List.mem_cons,List.not_mem_nil,or_false] at hz
     rcases hz with rfl | rfl
     ·rw [QA.str] at hw;cases hw;exact pD
     ·rw [hbfA] at hw;cases hw;exact bD
    conv=>whnf
    refine AStore.oneN rfl rfl rfl (pD) rfl (coreCells {g2 with out:={g2.out with entries:=g2.out.entries++[en.abs]}} {cj with ox:={cj.ox with oe:=⟨aD,cj.ox.oe.n+1,cD⟩,es:=cj.ox.es++[en]}}) rfl fun hE tE kE aE eE=>?_;conv=>whnf
    have QE:=CoreX.pushE ap QC tD owD (Own.sub ownB sC) hnn tE kE
    rw [hea,← eg2,← e1] at QE
    have KE:Keeps [o,o+1,oo] h6 hE:=kk8.trans (KA.trans (((sB.trans sC).keeps _).trans ((tD.keep.keeps (by simp)).trans (tE.keep.keeps (by simp)))))
    have QN:=QE
    have KN:=KK6.trans KE
    have K3N:=KE _ _ _ (by have:=ap.c;have:=ap.d;simp;omega) k36
    have XN:=X6.keeps KE tn1 tn2
    refine AArith.ok (by omega) (by omega) ((by omega:(j:Int)+1=((j+1:Nat):Int))) ?_;conv=>whnf
    refine ⟨⟨_,j+1,_,d.step1 y.abs,updL_self ⟨rfl,rfl,rfl,rfl,rfl,trivial⟩,by omega,hsucc.symm,QN,KN,K3N,XN,slo,by omega,by omega,sp1.trans hdp⟩,?_⟩
    show ln-(j+1)<ln-j
    omega
 ·refine ACmp.no (by omega) ?_;conv=>whnf
  obtain rfl:j=ln:=by omega
  rw [List.take_of_length_le (by omega),hall] at hd
  refine AIf.go ?_;conv=>whnf
  refine ADrawn.mk (h6) [12] (Sub.refl _) (by decide +kernel) ?_;conv=>whnf
  refine ALoad.one rfl q6.str rfl ?_
  refine ALoad.one rfl k36 rfl ?_;conv=>whnf
  refine AInt.as (rfl) ?_;conv=>whnf
  refine AInt.as (rfl) ?_;conv=>whnf
  refine AStore.oneN rfl rfl rfl (q6.str) rfl (coreCells {d with commit:=if d.commit<(if stop<x.commit then stop else x.commit) then (if stop<x.commit then stop else x.commit) else d.commit} cj) rfl fun h7 t7 k7 a7 e7=>?_;conv=>whnf
  have q7:=q6.set' ap.a t7 k7
  have k37:=t7.get (tag_ne ap.c) k36
  refine ALoad.one rfl k37 rfl ?_
  refine ALoad.one rfl k37 rfl ?_;conv=>whnf
  refine ACalls.mono (rsay_any ap.a ap.b ap.c ap.d ⟨_,q7⟩ x.src {post1 with kind:=4,dst:=x.src,ok:=true,index:=stop,hint:=x.hint} rfl (made0 rfl rfl rfl rfl) (by show d.out.posts.length≤_;rw [hdp];exact hp)) ?_;rintro _ h8 ⟨rfl,k8,kk8⟩;conv=>whnf
  refine ⟨rfl,?_,KK6.trans ((t7.keep.keeps (by simp)).trans (kk8.mono (by simp)))⟩
  have hst:x.abs.index+(x.abs.entries.length:Int)=stop:=by rw [hstop,← hxl];simp [PH.abs]
  unfold CoreM.appendOk
  rw [← hd]
  simp only [hst]
  exact k8
set_option maxHeartbeats 2000000 in
theorem sameEnts_any {h:Heap} {t1 t2 t3 t4:Tag} {a b:Option Addr} {n m c d:Nat} {xs ys:List EH} (X:Ents h t1 t2 a n c xs) (Y:Ents h t3 t4 b m d ys) (hn:n≤4611686018427387904) :
  ACalls PR 110 #[.slice a n c, .slice b m d] h (fun v h'=>v = .bool (decide (xs.map EH.abs=ys.map EH.abs))∧h=h'):=by
 have hx:=X.len
 have hy:=Y.len
 refine acalls_pure (acalls_of mix Tryz.func110 rfl rfl Tryz.ntmps110 Tryz.results110 rfl ?_);conv=>whnf
 by_cases hl:n=m
 ·subst hl
  refine ACmp.no ((by simp)) ?_;conv=>whnf
  refine ALoop.mk (fun e h'=>h=h'∧∃ e0,∃ j:Nat,e=updL 68 e0 [(0, .slice a n c),(1, .slice b n d),(5,I j)]∧j≤n∧(xs.take j).map EH.abs=(ys.take j).map EH.abs) (fun e=>n-natOf (e 5))
   ⟨rfl,_,0,updL_self ⟨rfl,rfl,rfl,trivial⟩,by omega,rfl⟩ ?_
  rintro e _ ⟨rfl,e0,j,rfl,hj,hs⟩
  conv=>whnf
  by_cases hjn:j<n
  ·refine ACmp.yes (by omega) ?_;conv=>whnf
   obtain ⟨x,hxj⟩:∃ x,xs[j]? = some x:=⟨xs[j]'(by omega),by simp⟩
   obtain ⟨y,hyj⟩:∃ y,ys[j]? = some y:=⟨ys[j]'(by omega),by simp⟩
   obtain ⟨b1,o1,l1,E1,f1,ea,hb1,hc1⟩:=X.sl.pos (by omega)
   obtain ⟨b2,o2,l2,E2,f2,eb,hb2,hc2⟩:=Y.sl.pos (by omega)
   have gx:(l1.drop (o1+j*4)).take 4=x.cells:=by rw [part_of_take hc1 (by omega),encs_part hxj]
   have gy:(l2.drop (o2+j*4)).take 4=y.cells:=by rw [part_of_take hc2 (by omega),encs_part hyj]
   have gX:∀ i,i<4→l1[o1+j*4+i]? = x.cells[i]? := fun i hi=>by have:=congrArg (fun q:List Value=>q[i]?) gx;simpa [List.getElem?_take,List.getElem?_drop,hi] using this
   have gY:∀ i,i<4→l2[o2+j*4+i]? = y.cells[i]? := fun i hi=>by have:=congrArg (fun q:List Value=>q[i]?) gy;simpa [List.getElem?_take,List.getElem?_drop,hi] using this
   have sx:(xs.take (j+1)).map EH.abs=(xs.take j).map EH.abs++[x.abs]:=by rw [List.take_succ_eq_append_getElem (by omega),(List.getElem?_eq_some_iff.1 hxj).2,List.map_append];rfl
   have sy:(ys.take (j+1)).map EH.abs=(ys.take j).map EH.abs++[y.abs]:=by rw [List.take_succ_eq_append_getElem (by omega),(List.getElem?_eq_some_iff.1 hyj).2,List.map_append];rfl
   have hno:¬ x.abs=y.abs→decide (xs.map EH.abs=ys.map EH.abs)=false:=fun n=>decide_eq_false fun e=>n (by
    have:=congrArg (fun l:List Abs=>l[j]?) e
    simpa [hxj,hyj] using this)
   rw [ea,eb]
   refine ADrawn.mk (h) [] (Sub.refl _) (by decide +kernel) ?_;conv=>whnf
   refine AIdx.nat (n:=n) (z:=4) (j:=j) rfl hjn rfl rfl ?_;conv=>whnf
   refine ALoad.one rfl hb1 (gX 0 (by omega)) ?_;conv=>whnf
   refine AIdx.nat (n:=n) (z:=4) (j:=j) rfl hjn rfl rfl ?_;conv=>whnf
   refine ALoad.one rfl hb2 (gY 0 (by omega)) ?_;conv=>whnf
   by_cases c1:x.term=y.term
   ·refine ACmp.no ((by simpa using c1)) ?_;conv=>whnf
    refine AIdx.nat (n:=n) (z:=4) (j:=j) rfl hjn rfl rfl ?_;conv=>whnf
    refine ALoad.one rfl hb1 (gX 1 (by omega)) ?_;conv=>whnf
    refine AIdx.nat (n:=n) (z:=4) (j:=j) rfl hjn rfl rfl ?_;conv=>whnf
    refine ALoad.one rfl hb2 (gY 1 (by omega)) ?_;conv=>whnf
    by_cases c2:x.index=y.index
    ·refine ACmp.no ((by simpa using c2)) ?_;conv=>whnf
     refine AIdx.nat (n:=n) (z:=4) (j:=j) rfl hjn rfl rfl ?_;conv=>whnf
     refine ALoad.one rfl hb1 (gX 2 (by omega)) ?_;conv=>whnf
     refine AIdx.nat (n:=n) (z:=4) (j:=j) rfl hjn rfl rfl ?_;conv=>whnf
     refine ALoad.one rfl hb2 (gY 2 (by omega)) ?_;conv=>whnf
     by_cases c3:x.kind=y.kind
     ·refine ACmp.no ((by simpa using c3)) ?_;conv=>whnf
      refine AIdx.nat (n:=n) (z:=4) (j:=j) rfl hjn rfl rfl ?_;conv=>whnf
      refine ALoad.one rfl hb1 (gX 3 (by omega)) ?_;conv=>whnf
      refine AIdx.nat (n:=n) (z:=4) (j:=j) rfl hjn rfl rfl ?_;conv=>whnf
      refine ALoad.one rfl hb2 (gY 3 (by omega)) ?_;conv=>whnf
      refine ACalls.mono (eqBytes_any h (X.good x (List.mem_of_getElem? hxj)) (Y.good y (List.mem_of_getElem? hyj)) (X.small x (List.mem_of_getElem? hxj))) ?_
      by_cases c4:x.data=y.data
      ·rw [decide_eq_true c4]
       rintro _ _ ⟨rfl,rfl⟩
       conv=>whnf
       refine ⟨Sub.refl _,?_⟩;conv=>whnf
       refine AArith.ok (by omega) (by omega) ((by omega:(j:Int)+1=((j+1:Nat):Int))) ?_;conv=>whnf
       refine ⟨⟨rfl,_,j+1,updL_self ⟨rfl,rfl,rfl,trivial⟩,by omega,by rw [sx,sy,hs];unfold EH.abs;rw [c1,c2,c3,c4]⟩,?_⟩
       show n-(j+1)<n-j
       omega
      ·rw [decide_eq_false c4]
       rintro _ _ ⟨rfl,rfl⟩
       conv=>whnf
       refine ⟨Sub.refl _,?_⟩;conv=>whnf
       exact ⟨congrArg Value.bool (hno fun e=>c4 (congrArg (·.2.2.2) e)).symm,Sub.refl _⟩
     ·refine ACmp.yes ((by simpa using c3)) ?_;conv=>whnf
      exact ⟨congrArg Value.bool (hno fun e=>c3 (congrArg (·.2.2.1) e)).symm,Sub.refl _⟩
    ·refine ACmp.yes ((by simpa using c2)) ?_;conv=>whnf
     exact ⟨congrArg Value.bool (hno fun e=>c2 (congrArg (·.2.1) e)).symm,Sub.refl _⟩
   ·refine ACmp.yes ((by simpa using c1)) ?_;conv=>whnf
    exact ⟨congrArg Value.bool (hno fun e=>c1 (congrArg (·.1) e)).symm,Sub.refl _⟩
  ·refine ACmp.no (by omega) ?_;conv=>whnf
   rw [List.take_of_length_le (by omega),List.take_of_length_le (by omega)] at hs
   exact ⟨congrArg Value.bool (decide_eq_true hs).symm,Sub.refl _⟩
 ·refine ACmp.yes ((by omega)) ?_;conv=>whnf
  exact ⟨congrArg Value.bool (decide_eq_false fun e=>hl (by have:=congrArg List.length e;simp only [List.length_map] at this;omega)).symm,Sub.refl _⟩
theorem sameSnap_any {h:Heap} {t1 t2:Tag} {i1 m1 r1 i2 m2 r2:Int} {d1 d2:SlV} {x1 x2:List Int} (s1:Sl h t1 d1.a d1.n d1.c 1 (bytesV x1)) (s2:Sl h t2 d2.a d2.n d2.c 1 (bytesV x2)) (hn:d1.n≤4611686018427387904) :
  ACalls PR 44 #[.agg #[I i1,I m1,I r1, .slice d1.a d1.n d1.c], .agg #[I i2,I m2,I r2, .slice d2.a d2.n d2.c]] h (fun v h'=>v = .bool (SnapM.same ⟨i1,m1,r1,x1⟩ ⟨i2,m2,r2,x2⟩)∧h=h'):=by
 refine acalls_pure (acalls_of mix Tryz.func44 rfl rfl Tryz.ntmps44 Tryz.results44 rfl ?_);conv=>whnf
 refine ABox.mkN (0,1) ([I i1,I m1,I r1, .slice d1.a d1.n d1.c]) rfl fun b1 h1 n1 q1 k1=>?_;conv=>whnf
 refine ABox.mkN (0,1) ([I i2,I m2,I r2, .slice d2.a d2.n d2.c]) rfl fun b2 h2 n2 q2 k2=>?_;conv=>whnf
 have k12:=q2 _ _ k1
 have q12:=q1.trans q2
 unfold SnapM.same
 simp only []
 refine ALoad.one rfl k12 rfl ?_
 refine ALoad.one rfl k2 rfl ?_;conv=>whnf
 by_cases c1:i1=i2
 ·refine ACmp.yes (c1) ?_;conv=>whnf
  refine ALoad.one rfl k12 rfl ?_
  refine ALoad.one rfl k2 rfl ?_;conv=>whnf
  by_cases c2:m1=m2
  ·refine ACmp.yes (c2) ?_;conv=>whnf
   refine ALoad.one rfl k12 rfl ?_
   refine ALoad.one rfl k2 rfl ?_;conv=>whnf
   by_cases c3:r1=r2
   ·refine ACmp.yes (c3) ?_;conv=>whnf
    refine ALoad.one rfl k12 rfl ?_
    refine ALoad.one rfl k2 rfl ?_;conv=>whnf
    refine ACalls.mono (eqBytes_any h2 (Sl.sub s1 q12) (Sl.sub s2 q12) hn) ?_;rintro _ _ ⟨rfl,rfl⟩;conv=>whnf
    exact ⟨by simp [c1,c2,c3],q12⟩
   ·refine ACmp.no (c3) ?_;conv=>whnf
    exact ⟨by simp [c3],q12⟩
  ·refine ACmp.no (c2) ?_;conv=>whnf
   exact ⟨by simp [c2],q12⟩
 ·refine ACmp.no (c1) ?_;conv=>whnf
  exact ⟨by simp [c1],q12⟩
theorem same_of (x y:PH):x.abs.same y.abs=(decide (x.kind=y.kind)&&(decide (x.src=y.src)&&(decide (x.dst=y.dst)&&(decide (x.term=y.term)&&(decide (x.index=y.index)&&(decide (x.logTerm=y.logTerm)&&(decide (x.commit=y.commit)&&(decide (x.ok=y.ok)&&(decide (x.hint=y.hint)&&(decide (x.es.map EH.abs=y.es.map EH.abs)&&SnapM.same ⟨x.si,x.st,x.sc,x.data⟩ ⟨y.si,y.st,y.sc,y.data⟩)))))))))):=by
 rw [Bool.eq_iff_iff]
 unfold PostM.same
 simp only [Bool.and_eq_true,decide_eq_true_iff]
 simp only [PH.abs,and_assoc]
set_option maxHeartbeats 2000000 in
theorem rsame_any {h:Heap} {t1 t2 t3 u1 u2 u3:Tag} {x y:PH} (kx:x.Ok h t1 t2 t3) (ky:y.Ok h u1 u2 u3) (hn:x.e.n≤4611686018427387904) (hd:x.d.n≤4611686018427387904) :
  ACalls PR 111 #[.agg x.cells.toArray, .agg y.cells.toArray] h (fun v h'=>v = .bool (x.abs.same y.abs)∧h=h'):=by
 rw [same_of]
 refine acalls_pure (acalls_of mix Tryz.func111 rfl rfl Tryz.ntmps111 Tryz.results111 rfl ?_);conv=>whnf
 refine ABox.mkN (0,1) (x.cells) rfl fun b1 h1 n1 q1 k1=>?_;conv=>whnf
 refine ABox.mkN (0,1) (y.cells) rfl fun b2 h2 n2 q2 k2=>?_;conv=>whnf
 have k12:=q2 _ _ k1
 have q12:=q1.trans q2
 refine ALoad.one rfl k12 rfl ?_
 refine ALoad.one rfl k2 rfl ?_;conv=>whnf
 by_cases c1:(x.kind=y.kind)
 rotate_left
 ·refine ACmp.no (c1) ?_;conv=>whnf
  exact ⟨by rw [decide_eq_false c1];simp,q12⟩
 rw [decide_eq_true c1,Bool.true_and]
 refine ACmp.yes (c1) ?_;conv=>whnf
 refine ALoad.one rfl k12 rfl ?_
 refine ALoad.one rfl k2 rfl ?_;conv=>whnf
 by_cases c2:(x.src=y.src)
 rotate_left
 ·refine ACmp.no (c2) ?_;conv=>whnf
  exact ⟨by rw [decide_eq_false c2];simp,q12⟩
 rw [decide_eq_true c2,Bool.true_and]
 refine ACmp.yes (c2) ?_;conv=>whnf
 refine ALoad.one rfl k12 rfl ?_
 refine ALoad.one rfl k2 rfl ?_;conv=>whnf
 by_cases c3:(x.dst=y.dst)
 rotate_left
 ·refine ACmp.no (c3) ?_;conv=>whnf
  exact ⟨by rw [decide_eq_false c3];simp,q12⟩
 rw [decide_eq_true c3,Bool.true_and]
 refine ACmp.yes (c3) ?_;conv=>whnf
 refine ALoad.one rfl k12 rfl ?_
 refine ALoad.one rfl k2 rfl ?_;conv=>whnf
 by_cases c4:(x.term=y.term)
 rotate_left
 ·refine ACmp.no (c4) ?_;conv=>whnf
  exact ⟨by rw [decide_eq_false c4];simp,q12⟩
 rw [decide_eq_true c4,Bool.true_and]
 refine ACmp.yes (c4) ?_;conv=>whnf
 refine ALoad.one rfl k12 rfl ?_
 refine ALoad.one rfl k2 rfl ?_;conv=>whnf
 by_cases c5:(x.index=y.index)
 rotate_left
 ·refine ACmp.no (c5) ?_;conv=>whnf
  exact ⟨by rw [decide_eq_false c5];simp,q12⟩
 rw [decide_eq_true c5,Bool.true_and]
 refine ACmp.yes (c5) ?_;conv=>whnf
 refine ALoad.one rfl k12 rfl ?_
 refine ALoad.one rfl k2 rfl ?_;conv=>whnf
 by_cases c6:(x.logTerm=y.logTerm)
 rotate_left
 ·refine ACmp.no (c6) ?_;conv=>whnf
  exact ⟨by rw [decide_eq_false c6];simp,q12⟩
 rw [decide_eq_true c6,Bool.true_and]
 refine ACmp.yes (c6) ?_;conv=>whnf
 refine ALoad.one rfl k12 rfl ?_
 refine ALoad.one rfl k2 rfl ?_;conv=>whnf
 by_cases c7:(x.commit=y.commit)
 rotate_left
 ·refine ACmp.no (c7) ?_;conv=>whnf
  exact ⟨by rw [decide_eq_false c7];simp,q12⟩
 rw [decide_eq_true c7,Bool.true_and]
 refine ACmp.yes (c7) ?_;conv=>whnf
 refine ALoad.one rfl k12 rfl ?_
 refine ALoad.one rfl k2 rfl ?_;conv=>whnf
 cases hx:x.ok with
 | true =>
  cases hy:y.ok with
  | true =>
   conv=>whnf
   rw [decide_eq_true (rfl:true=true),Bool.true_and]
   refine ALoad.one rfl k12 rfl ?_
   refine ALoad.one rfl k2 rfl ?_;conv=>whnf
   by_cases c8:(x.hint=y.hint)
   rotate_left
   ·refine ACmp.no (c8) ?_;conv=>whnf
    exact ⟨by rw [decide_eq_false c8];simp,q12⟩
   rw [decide_eq_true c8,Bool.true_and]
   refine ACmp.yes (c8) ?_;conv=>whnf
   refine ALoad.one rfl k12 rfl ?_
   refine ALoad.one rfl k2 rfl ?_;conv=>whnf
   refine ACalls.mono (sameEnts_any (kx.es.sub q12) (ky.es.sub q12) hn) ?_
   cases ce:decide (x.es.map EH.abs=y.es.map EH.abs) with
   | false =>
    rintro _ _ ⟨rfl,rfl⟩
    conv=>whnf
    exact ⟨rfl,q12⟩
   | true =>
    rintro _ _ ⟨rfl,rfl⟩
    conv=>whnf
    refine ALoad.agg rfl k12 rfl rfl ?_
    refine ALoad.agg rfl k2 rfl rfl ?_;conv=>whnf
    refine ACalls.mono (sameSnap_any (d1:=x.d) (d2:=y.d) (kx.sd.sub q12) (ky.sd.sub q12) hd) ?_;rintro _ _ ⟨rfl,rfl⟩;conv=>whnf
    exact ⟨rfl,q12⟩
  | false =>
   conv=>whnf
   exact ⟨rfl,q12⟩
 | false =>
  cases hy:y.ok with
  | true =>
   conv=>whnf
   exact ⟨rfl,q12⟩
  | false =>
   conv=>whnf
   rw [decide_eq_true (rfl:false=false),Bool.true_and]
   refine ALoad.one rfl k12 rfl ?_
   refine ALoad.one rfl k2 rfl ?_;conv=>whnf
   by_cases c8:(x.hint=y.hint)
   rotate_left
   ·refine ACmp.no (c8) ?_;conv=>whnf
    exact ⟨by rw [decide_eq_false c8];simp,q12⟩
   rw [decide_eq_true c8,Bool.true_and]
   refine ACmp.yes (c8) ?_;conv=>whnf
   refine ALoad.one rfl k12 rfl ?_
   refine ALoad.one rfl k2 rfl ?_;conv=>whnf
   refine ACalls.mono (sameEnts_any (kx.es.sub q12) (ky.es.sub q12) hn) ?_
   cases ce:decide (x.es.map EH.abs=y.es.map EH.abs) with
   | false =>
    rintro _ _ ⟨rfl,rfl⟩
    conv=>whnf
    exact ⟨rfl,q12⟩
   | true =>
    rintro _ _ ⟨rfl,rfl⟩
    conv=>whnf
    refine ALoad.agg rfl k12 rfl rfl ?_
    refine ALoad.agg rfl k2 rfl rfl ?_;conv=>whnf
    refine ACalls.mono (sameSnap_any (d1:=x.d) (d2:=y.d) (kx.sd.sub q12) (ky.sd.sub q12) hd) ?_;rintro _ _ ⟨rfl,rfl⟩;conv=>whnf
    exact ⟨rfl,q12⟩
theorem rnum_any (h:Heap) (n:Int):ACalls PR 186 #[I n] h (fun v h'=>v = .bool (numB n)∧h=h'):=by
 refine acalls_pure (acalls_of mix Tryz.func186 rfl rfl Tryz.ntmps186 Tryz.results186 rfl ?_);conv=>whnf
 unfold numB
 by_cases c:0≤n
 ·refine ACmp.yes (c) ?_;conv=>whnf
  refine ACmp.dec ?_;conv=>whnf
  exact ⟨by simp [c],Sub.refl _⟩
 ·refine ACmp.no (c) ?_;conv=>whnf
  exact ⟨by simp [c],Sub.refl _⟩
set_option maxHeartbeats 1000000 in
theorem rkept_any (h:Heap) (x:PH):ACalls PR 187 #[.agg x.cells.toArray] h (fun v h'=>v = .agg x.bare.cells.toArray∧h=h'):=by
 refine acalls_pure ?_
 refine acalls_ofj mix Tryz.func187 rfl rfl Tryz.ntmps187 Tryz.results187 rfl ?_;conv=>whnf
 refine ABox.mkN (0,1) (x.cells) rfl fun b1 h1 n1 s1 k1=>?_;conv=>whnf
 refine AAlloc.mkN (0,1) (post1.cells) rfl fun b2 h2 n2 s2 k2=>?_;conv=>whnf
 have k12:=s2 _ _ k1
 refine ALoad.one rfl k12 rfl ?_
 refine ALoad.one rfl k12 rfl ?_
 refine ALoad.one rfl k12 rfl ?_
 refine ALoad.one rfl k12 rfl ?_;conv=>whnf
 refine AAlloc.mkN (0,1) (post1.cells) rfl fun b3 h3 n3 s3 k3=>?_;conv=>whnf
 refine AStore.aggN rfl rfl rfl (k3) rfl (({post1 with kind:=x.kind,src:=x.src,dst:=x.dst,term:=x.term}:PH).cells) rfl fun h4 t4 k4 a4 e4=>?_;conv=>whnf
 have b13:b1≠b3:=fun c=>by rw [c,n3] at k12;cases k12
 have b23:b2≠b3:=fun c=>by rw [c,n3] at k2;cases k2
 have k14:=e4 _ _ b13 (s3 _ _ k12)
 have k24:=e4 _ _ b23 (s3 _ _ k2)
 have hb2:h b2=none:=by
  cases e:h b2 with
  | none=>rfl
  | some y=>rw [s1 _ _ e] at n2;cases n2
 have hb3:h b3=none:=by
  cases e:h b3 with
  | none=>rfl
  | some y=>rw [s2 _ _ (s1 _ _ e)] at n3;cases n3
 have s4:Sub h h4:=a4 h ((s1.trans s2).trans s3) hb3
 clear s1 s2 s3 k1 k2 k3 k12 n1 n2 n3 t4 a4 e4
 unfold PH.bare
 refine AIf.cut (fun e h'=>∃ e0,e=updL 73 e0 [(2,Ptr b2),(3,Ptr b3)]∧h' b3=some (row (0,1) (PH.cells (if x.kind=1 then {post1 with kind:=x.kind,src:=x.src,dst:=x.dst,term:=x.term,index:=x.index,logTerm:=x.logTerm}
  else if x.kind=2 then {post1 with kind:=x.kind,src:=x.src,dst:=x.dst,term:=x.term,ok:=x.ok}
  else if x.kind=3 then {post1 with kind:=x.kind,src:=x.src,dst:=x.dst,term:=x.term,index:=x.index,logTerm:=x.logTerm,commit:=x.commit,hint:=x.hint,e:=x.e,es:=x.es}
  else if x.kind=4 then {post1 with kind:=x.kind,src:=x.src,dst:=x.dst,term:=x.term,ok:=x.ok,index:=x.index,hint:=x.hint}
  else if x.kind=5 then {post1 with kind:=x.kind,src:=x.src,dst:=x.dst,term:=x.term,hint:=x.hint,si:=x.si,st:=x.st,sc:=x.sc,d:=x.d,data:=x.data}
  else if x.kind=6 then {post1 with kind:=x.kind,src:=x.src,dst:=x.dst,term:=x.term,index:=x.index,hint:=x.hint}
  else {post1 with kind:=x.kind,src:=x.src,dst:=x.dst,term:=x.term})) 49)∧∀ b y,b≠b3→h4 b=some y→h' b=some y) ?_ ?_
 rotate_left
 ·rintro e h5 ⟨e0,rfl,k5,mv⟩
  conv=>whnf
  refine ALoad.agg rfl k5 rfl rfl ?_;conv=>whnf
  refine AStore.aggN rfl rfl rfl ((mv _ _ b23 k24)) rfl (PH.cells (if x.kind=1 then {post1 with kind:=x.kind,src:=x.src,dst:=x.dst,term:=x.term,index:=x.index,logTerm:=x.logTerm} else if x.kind=2 then {post1 with kind:=x.kind,src:=x.src,dst:=x.dst,term:=x.term,ok:=x.ok} else if x.kind=3 then {post1 with kind:=x.kind,src:=x.src,dst:=x.dst,term:=x.term,index:=x.index,logTerm:=x.logTerm,commit:=x.commit,hint:=x.hint,e:=x.e,es:=x.es} else if x.kind=4 then {post1 with kind:=x.kind,src:=x.src,dst:=x.dst,term:=x.term,ok:=x.ok,index:=x.index,hint:=x.hint} else if x.kind=5 then {post1 with kind:=x.kind,src:=x.src,dst:=x.dst,term:=x.term,hint:=x.hint,si:=x.si,st:=x.st,sc:=x.sc,d:=x.d,data:=x.data} else if x.kind=6 then {post1 with kind:=x.kind,src:=x.src,dst:=x.dst,term:=x.term,index:=x.index,hint:=x.hint} else {post1 with kind:=x.kind,src:=x.src,dst:=x.dst,term:=x.term})) rfl fun hz tz kz az ez=>?_;conv=>whnf
  refine ALoad.agg rfl kz rfl rfl ?_;conv=>whnf
  refine ⟨rfl,?_⟩
  have s5:Sub h h5:=fun b y e=>mv b y (fun c=>by rw [c,hb3] at e;cases e) (s4 _ _ e)
  exact az h s5 hb2
 conv=>whnf
 refine ALoad.one rfl k14 rfl ?_;conv=>whnf
 by_cases c1:x.kind=1
 ·refine ACmp.yes (c1) ?_;conv=>whnf
  rw [if_pos c1]
  refine ALoad.one rfl k14 rfl ?_;conv=>whnf
  refine AStore.oneN rfl rfl rfl (k4) rfl (({post1 with kind:=x.kind,src:=x.src,dst:=x.dst,term:=x.term,index:=x.index}:PH).cells) rfl fun h5 t5 k5 a5 e5=>?_;conv=>whnf
  refine ALoad.one rfl (e5 _ _ b13 k14) rfl ?_;conv=>whnf
  refine AStore.oneN rfl rfl rfl (k5) rfl (({post1 with kind:=x.kind,src:=x.src,dst:=x.dst,term:=x.term,index:=x.index,logTerm:=x.logTerm}:PH).cells) rfl fun h6 t6 k6 a6 e6=>?_;conv=>whnf
  exact ⟨_,updL_self ⟨rfl,rfl,trivial⟩,k6,fun b y n e=>e6 _ _ n (e5 _ _ n e)⟩
 refine ACmp.no (c1) ?_;conv=>whnf
 rw [if_neg c1]
 by_cases c2:x.kind=2
 ·refine ACmp.yes (c2) ?_;conv=>whnf
  rw [if_pos c2]
  refine ALoad.one rfl k14 rfl ?_;conv=>whnf
  refine AStore.oneN rfl rfl rfl (k4) rfl (({post1 with kind:=x.kind,src:=x.src,dst:=x.dst,term:=x.term,ok:=x.ok}:PH).cells) rfl fun h5 t5 k5 a5 e5=>?_;conv=>whnf
  exact ⟨_,updL_self ⟨rfl,rfl,trivial⟩,k5,e5⟩
 refine ACmp.no (c2) ?_;conv=>whnf
 rw [if_neg c2]
 by_cases c3:x.kind=3
 ·refine ACmp.yes (c3) ?_;conv=>whnf
  rw [if_pos c3]
  refine ALoad.one rfl k14 rfl ?_;conv=>whnf
  refine AStore.oneN rfl rfl rfl (k4) rfl (({post1 with kind:=x.kind,src:=x.src,dst:=x.dst,term:=x.term,index:=x.index}:PH).cells) rfl fun h5 t5 k5 a5 e5=>?_;conv=>whnf
  have k15:=e5 _ _ b13 k14
  refine ALoad.one rfl k15 rfl ?_;conv=>whnf
  refine AStore.oneN rfl rfl rfl (k5) rfl (({post1 with kind:=x.kind,src:=x.src,dst:=x.dst,term:=x.term,index:=x.index,logTerm:=x.logTerm}:PH).cells) rfl fun h6 t6 k6 a6 e6=>?_;conv=>whnf
  have k16:=e6 _ _ b13 k15
  refine ALoad.one rfl k16 rfl ?_;conv=>whnf
  refine AStore.oneN rfl rfl rfl (k6) rfl (({post1 with kind:=x.kind,src:=x.src,dst:=x.dst,term:=x.term,index:=x.index,logTerm:=x.logTerm,commit:=x.commit}:PH).cells) rfl fun h7 t7 k7 a7 e7=>?_;conv=>whnf
  have k17:=e7 _ _ b13 k16
  refine ALoad.one rfl k17 rfl ?_;conv=>whnf
  refine AStore.oneN rfl rfl rfl (k7) rfl (({post1 with kind:=x.kind,src:=x.src,dst:=x.dst,term:=x.term,index:=x.index,logTerm:=x.logTerm,commit:=x.commit,hint:=x.hint}:PH).cells) rfl fun h8 t8 k8 a8 e8=>?_;conv=>whnf
  refine ALoad.one rfl (e8 _ _ b13 k17) rfl ?_;conv=>whnf
  refine AStore.oneN rfl rfl rfl (k8) rfl (({post1 with kind:=x.kind,src:=x.src,dst:=x.dst,term:=x.term,index:=x.index,logTerm:=x.logTerm,commit:=x.commit,hint:=x.hint,e:=x.e,es:=x.es}:PH).cells) rfl fun h9 t9 k9 a9 e9=>?_;conv=>whnf
  exact ⟨_,updL_self ⟨rfl,rfl,trivial⟩,k9,fun b y n e=>e9 _ _ n (e8 _ _ n (e7 _ _ n (e6 _ _ n (e5 _ _ n e))))⟩
 refine ACmp.no (c3) ?_;conv=>whnf
 rw [if_neg c3]
 by_cases c4:x.kind=4
 ·refine ACmp.yes (c4) ?_;conv=>whnf
  rw [if_pos c4]
  refine ALoad.one rfl k14 rfl ?_;conv=>whnf
  refine AStore.oneN rfl rfl rfl (k4) rfl (({post1 with kind:=x.kind,src:=x.src,dst:=x.dst,term:=x.term,ok:=x.ok}:PH).cells) rfl fun h5 t5 k5 a5 e5=>?_;conv=>whnf
  have k15:=e5 _ _ b13 k14
  refine ALoad.one rfl k15 rfl ?_;conv=>whnf
  refine AStore.oneN rfl rfl rfl (k5) rfl (({post1 with kind:=x.kind,src:=x.src,dst:=x.dst,term:=x.term,ok:=x.ok,index:=x.index}:PH).cells) rfl fun h6 t6 k6 a6 e6=>?_;conv=>whnf
  refine ALoad.one rfl (e6 _ _ b13 k15) rfl ?_;conv=>whnf
  refine AStore.oneN rfl rfl rfl (k6) rfl (({post1 with kind:=x.kind,src:=x.src,dst:=x.dst,term:=x.term,ok:=x.ok,index:=x.index,hint:=x.hint}:PH).cells) rfl fun h7 t7 k7 a7 e7=>?_;conv=>whnf
  exact ⟨_,updL_self ⟨rfl,rfl,trivial⟩,k7,fun b y n e=>e7 _ _ n (e6 _ _ n (e5 _ _ n e))⟩
 refine ACmp.no (c4) ?_;conv=>whnf
 rw [if_neg c4]
 by_cases c5:x.kind=5
 ·refine ACmp.yes (c5) ?_;conv=>whnf
  rw [if_pos c5]
  refine ALoad.one rfl k14 rfl ?_;conv=>whnf
  refine AStore.oneN rfl rfl rfl (k4) rfl (({post1 with kind:=x.kind,src:=x.src,dst:=x.dst,term:=x.term,hint:=x.hint}:PH).cells) rfl fun h5 t5 k5 a5 e5=>?_;conv=>whnf
  refine ALoad.agg rfl (e5 _ _ b13 k14) rfl rfl ?_;conv=>whnf
  refine AStore.aggN rfl rfl rfl (k5) rfl (({post1 with kind:=x.kind,src:=x.src,dst:=x.dst,term:=x.term,hint:=x.hint,si:=x.si,st:=x.st,sc:=x.sc,d:=x.d,data:=x.data}:PH).cells) rfl fun h6 t6 k6 a6 e6=>?_;conv=>whnf
  exact ⟨_,updL_self ⟨rfl,rfl,trivial⟩,k6,fun b y n e=>e6 _ _ n (e5 _ _ n e)⟩
 refine ACmp.no (c5) ?_;conv=>whnf
 rw [if_neg c5]
 by_cases c6:x.kind=6
 ·refine ACmp.yes (c6) ?_;conv=>whnf
  rw [if_pos c6]
  refine ALoad.one rfl k14 rfl ?_;conv=>whnf
  refine AStore.oneN rfl rfl rfl (k4) rfl (({post1 with kind:=x.kind,src:=x.src,dst:=x.dst,term:=x.term,index:=x.index}:PH).cells) rfl fun h5 t5 k5 a5 e5=>?_;conv=>whnf
  refine ALoad.one rfl (e5 _ _ b13 k14) rfl ?_;conv=>whnf
  refine AStore.oneN rfl rfl rfl (k5) rfl (({post1 with kind:=x.kind,src:=x.src,dst:=x.dst,term:=x.term,index:=x.index,hint:=x.hint}:PH).cells) rfl fun h6 t6 k6 a6 e6=>?_;conv=>whnf
  exact ⟨_,updL_self ⟨rfl,rfl,trivial⟩,k6,fun b y n e=>e6 _ _ n (e5 _ _ n e)⟩
 refine ACmp.no (c6) ?_;conv=>whnf
 rw [if_neg c6]
 exact ⟨_,updL_self ⟨rfl,rfl,trivial⟩,k4,fun _ _ _ e=>e⟩
set_option maxHeartbeats 1000000 in
theorem rlists_any {h:Heap} {t1 t2 t3:Tag} {x:PH} (k:x.Ok h t1 t2 t3) (hi:numB x.index=true) (hn:x.e.n≤4611686018427387904) :
  ACalls PR 188 #[.agg x.cells.toArray] h (fun v h'=>v = .bool (decide (x.es.length≤8)&&entriesMay x.term x.index x.logTerm (x.es.map EH.abs))∧h=h'):=by
 have hl:=k.es.len
 have hi':0≤x.index∧x.index≤9007199254740991:=by simpa [numB] using hi
 obtain ⟨R,hR⟩:∃ R,R=entriesMay x.term x.index x.logTerm (x.es.map EH.abs):=⟨_,rfl⟩
 rw [← hR,hl]
 refine acalls_pure (acalls_of mix Tryz.func188 rfl rfl Tryz.ntmps188 Tryz.results188 rfl ?_);conv=>whnf
 refine ABox.mkN (0,1) (x.cells) rfl fun b1 h1 n1 s1 k1=>?_;conv=>whnf
 refine ALoad.one rfl k1 rfl ?_;conv=>whnf
 by_cases c8:x.e.n≤8
 rotate_left
 ·refine ACmp.yes ((by omega)) ?_;conv=>whnf
  exact ⟨by rw [decide_eq_false c8];rfl,s1⟩
 rw [decide_eq_true c8,Bool.true_and]
 refine ACmp.no ((by omega)) ?_;conv=>whnf
 refine ALoad.one rfl k1 rfl ?_;conv=>whnf
 refine ALoop.mk (fun e h'=>Sub h1 h'∧∃ e0,∃ j:Nat,∃ tm:Int,e=updL 69 e0 [(1,Ptr b1),(3,I tm),(4,I j)]∧j≤x.e.n ∧
   entriesMay x.term (x.index+j) tm ((x.es.drop j).map EH.abs)=R) (fun e=>x.e.n-natOf (e 4))
  ⟨Sub.refl _,_,0,x.logTerm,updL_self ⟨rfl,rfl,rfl,trivial⟩,by omega,by rw [hR];simp⟩ ?_
 rintro e h2 ⟨s2,e0,j,tm,rfl,hj,hm⟩
 conv=>whnf
 refine ALoad.one rfl (s2 _ _ k1) rfl ?_;conv=>whnf
 by_cases hjn:j<x.e.n
 ·refine ACmp.yes (by omega) ?_;conv=>whnf
  obtain ⟨y,hy⟩:∃ y,x.es[j]? = some y:=⟨x.es[j]'(by omega),by simp⟩
  have my:=List.mem_of_getElem? hy
  have gy:=(k.es.good y my).len
  have gy:y.data.length=y.n:=by simpa [bytesV] using gy
  have hm2:entriesMay x.term (x.index+j) tm (y.abs::(x.es.drop (j+1)).map EH.abs)=R:=by
   rw [← hm,List.drop_eq_getElem_cons (show j<x.es.length by omega),(List.getElem?_eq_some_iff.1 hy).2];rfl
  have hm3:(decide (y.index=x.index+j+1)&&(numB y.index&&(decide (tm≤y.term∧y.term≤x.term)&&(decide (0≤y.kind∧y.kind≤2)&&(decide (y.data.length≤1200)&&entriesMay x.term (x.index+j+1) y.term ((x.es.drop (j+1)).map EH.abs))))))=R:=by
   have hm4:(decide (y.index=x.index+j+1)&&numB y.index&&decide (tm≤y.term∧y.term≤x.term)&&decide (0≤y.kind∧y.kind≤2)&&decide (y.data.length≤1200)&&entriesMay x.term (x.index+j+1) y.term ((x.es.drop (j+1)).map EH.abs))=R:=hm2
   rw [← hm4];simp only [Bool.and_assoc]
  obtain ⟨b,off,l,E,fz,ea,hb,hc⟩:=((k.es.sl.sub s1).sub s2).pos (by omega)
  have g0:(l.drop (off+j*4)).take 4=y.cells:=by rw [part_of_take hc (by omega),encs_part hy]
  refine ALoad.one rfl (s2 _ _ k1) rfl ?_;conv=>whnf
  rw [ea]
  refine AIdx.nat (n:=x.e.n) (z:=4) (j:=j) rfl hjn rfl rfl ?_;conv=>whnf
  refine ALoad.agg rfl hb g0 rfl ?_;conv=>whnf
  refine AAlloc.mkN (0,1) (entry0z) rfl fun b5 h3 n3 s3 k3=>?_;conv=>whnf
  refine AStore.aggN rfl rfl rfl (k3) rfl (y.cells) rfl fun h4 t4 k4 a4 e4=>?_;conv=>whnf
  have s4:Sub h1 h4:=a4 h1 (s2.trans s3) (by
   cases e:h1 b5 with
   | none=>rfl
   | some y=>rw [s2 _ _ e] at n3;cases n3)
  have k14:=s4 _ _ k1
  refine ALoad.one rfl k4 rfl ?_;conv=>whnf
  refine ACalls.mono (rnum_any h4 y.index) ?_
  cases c2:numB y.index with
  | false =>
   rintro _ _ ⟨rfl,rfl⟩
   conv=>whnf
   exact ⟨congrArg Value.bool (by rw [← hm3,c2];simp),s1.trans s4⟩
  | true =>
  rintro _ _ ⟨rfl,rfl⟩
  conv=>whnf
  refine ALoad.one rfl k4 rfl ?_
  refine ALoad.one rfl k14 rfl ?_;conv=>whnf
  refine AArith.ok (by omega) (by omega) (rfl) ?_;conv=>whnf
  refine AArith.ok (by omega) (by omega) (rfl) ?_;conv=>whnf
  by_cases c1:y.index=x.index+1+j
  rotate_left
  ·refine ACmp.yes ((by simpa using c1)) ?_;conv=>whnf
   have c1':=decide_eq_false (show ¬ (y.index=x.index+j+1) by omega)
   exact ⟨congrArg Value.bool (by rw [← hm3,c1'];simp),s1.trans s4⟩
  refine ACmp.no ((by simpa using c1)) ?_;conv=>whnf
  refine ALoad.one rfl k4 rfl ?_;conv=>whnf
  by_cases c3:tm≤y.term
  rotate_left
  ·refine ACmp.yes ((by omega)) ?_;conv=>whnf
   have c1':=decide_eq_false (show ¬ (tm≤y.term∧y.term≤x.term) from fun c=>c3 c.1)
   exact ⟨congrArg Value.bool (by rw [← hm3,c1'];simp),s1.trans s4⟩
  refine ACmp.no ((by omega)) ?_;conv=>whnf
  refine ALoad.one rfl k4 rfl ?_
  refine ALoad.one rfl k14 rfl ?_;conv=>whnf
  by_cases c4:y.term≤x.term
  rotate_left
  ·refine ACmp.yes ((by omega)) ?_;conv=>whnf
   have c1':=decide_eq_false (show ¬ (tm≤y.term∧y.term≤x.term) from fun c=>c4 c.2)
   exact ⟨congrArg Value.bool (by rw [← hm3,c1'];simp),s1.trans s4⟩
  refine ACmp.no ((by omega)) ?_;conv=>whnf
  refine ALoad.one rfl k4 rfl ?_;conv=>whnf
  by_cases c5:0≤y.kind
  rotate_left
  ·refine ACmp.yes ((by omega)) ?_;conv=>whnf
   have c1':=decide_eq_false (show ¬ (0≤y.kind∧y.kind≤2) from fun c=>c5 c.1)
   exact ⟨congrArg Value.bool (by rw [← hm3,c1'];simp),s1.trans s4⟩
  refine ACmp.no ((by omega)) ?_;conv=>whnf
  refine ALoad.one rfl k4 rfl ?_;conv=>whnf
  by_cases c6:y.kind≤2
  rotate_left
  ·refine ACmp.yes ((by omega)) ?_;conv=>whnf
   have c1':=decide_eq_false (show ¬ (0≤y.kind∧y.kind≤2) from fun c=>c6 c.2)
   exact ⟨congrArg Value.bool (by rw [← hm3,c1'];simp),s1.trans s4⟩
  refine ACmp.no ((by omega)) ?_;conv=>whnf
  refine ALoad.one rfl k4 rfl ?_;conv=>whnf
  by_cases c7:y.n≤1200
  rotate_left
  ·refine ACmp.yes ((by omega)) ?_;conv=>whnf
   have c1':=decide_eq_false (show ¬ (y.data.length≤1200) by omega)
   exact ⟨congrArg Value.bool (by rw [← hm3,c1'];simp),s1.trans s4⟩
  refine ACmp.no ((by omega)) ?_;conv=>whnf
  refine ALoad.one rfl k4 rfl ?_;conv=>whnf
  refine AArith.ok (by omega) (by omega) ((by omega:(j:Int)+1=((j+1:Nat):Int))) ?_;conv=>whnf
  refine ⟨⟨s4,_,j+1,y.term,updL_self ⟨rfl,rfl,rfl,trivial⟩,by omega,?_⟩,?_⟩
  ·rw [← hm3,c2,decide_eq_true (show y.index=x.index+j+1 by omega),decide_eq_true (show tm≤y.term∧y.term≤x.term from ⟨c3,c4⟩),decide_eq_true (show 0≤y.kind∧y.kind≤2 from ⟨c5,c6⟩),decide_eq_true (show y.data.length≤1200 by omega)]
   rw [show x.index+((j+1:Nat):Int)=x.index+j+1 by omega];rfl
  ·show x.e.n-(j+1)<x.e.n-j
   omega
 ·refine ACmp.no (by omega) ?_;conv=>whnf
  obtain rfl:j=x.e.n:=by omega
  rw [List.drop_of_length_le (by omega)] at hm
  exact ⟨congrArg Value.bool (by rw [← hm];rfl),s1.trans s2⟩
theorem rsnapMay_any {h:Heap} {t1 t2 t3:Tag} {x:PH} (k:x.Ok h t1 t2 t3) (hc0 : -9223372036854775808≤x.sc) (hc1:x.sc≤9223372036854775807) :
  ACalls PR 189 #[.agg x.cells.toArray] h (fun v h'=>v = .bool x.abs.snapMay∧h=h'):=by
 have hdl:x.d.n=x.data.length:=by have:=k.sd.len;simpa [bytesV] using this.symm
 have hR:=snapMay_eq x
 generalize x.abs.snapMay=R at hR ⊢
 refine acalls_pure (acalls_of mix Tryz.func189 rfl rfl Tryz.ntmps189 Tryz.results189 rfl ?_);conv=>whnf
 refine ABox.mkN (0,1) (x.cells) rfl fun b1 h1 n1 s1 k1=>?_;conv=>whnf
 refine ALoad.agg rfl k1 rfl rfl ?_;conv=>whnf
 refine AAlloc.mkN (0,1) ([I 0,I 0,I 0, .slice none 0 0]) rfl fun b3 h2 n2 s2 k2=>?_;conv=>whnf
 refine AStore.aggN rfl rfl rfl (k2) rfl ([I x.si,I x.st,I x.sc, .slice x.d.a x.d.n x.d.c]) rfl fun h3 t3 k3 a3 e3=>?_;conv=>whnf
 have b13:b1≠b3:=fun c=>by rw [c,n2] at k1;cases k1
 have k13:=e3 _ _ b13 (s2 _ _ k1)
 have hb3:h b3=none:=by
  cases e:h b3 with
  | none=>rfl
  | some y=>rw [s1 _ _ e] at n2;cases n2
 have s3:Sub h h3:=a3 h (s1.trans s2) hb3
 refine ALoad.one rfl k3 rfl ?_;conv=>whnf
 by_cases c1:(1≤x.si)
 rotate_left
 ·refine ACmp.no (c1) ?_;conv=>whnf
  have c1':=decide_eq_false (show ¬ (1≤x.si∧x.si≤9007199254740991) from fun c=>by omega)
  exact ⟨congrArg Value.bool (by rw [hR,c1'];simp),s3⟩
 refine ACmp.yes (c1) ?_;conv=>whnf
 refine ALoad.one rfl k3 rfl ?_;conv=>whnf
 refine ACalls.mono (rnum_any h3 x.si) ?_
 cases c2:numB x.si with
 | false =>
  rintro _ _ ⟨rfl,rfl⟩
  conv=>whnf
  have c1':=decide_eq_false (show ¬ (1≤x.si∧x.si≤9007199254740991) from fun c=>by unfold numB at c2;simp at c2;omega)
  exact ⟨congrArg Value.bool (by rw [hR,c1'];simp),s3⟩
 | true =>
 rintro _ _ ⟨rfl,rfl⟩
 conv=>whnf
 have c2':x.si≤9007199254740991:=by unfold numB at c2;simp at c2;omega
 refine ALoad.one rfl k3 rfl ?_;conv=>whnf
 by_cases c3:(0≤x.st)
 rotate_left
 ·refine ACmp.no (c3) ?_;conv=>whnf
  have c1':=decide_eq_false (show ¬ (0≤x.st∧x.st≤x.term) from fun c=>by omega)
  exact ⟨congrArg Value.bool (by rw [hR,c1'];simp),s3⟩
 refine ACmp.yes (c3) ?_;conv=>whnf
 refine ALoad.one rfl k3 rfl ?_
 refine ALoad.one rfl k13 rfl ?_;conv=>whnf
 by_cases c4:(x.st≤x.term)
 rotate_left
 ·refine ACmp.no (c4) ?_;conv=>whnf
  have c1':=decide_eq_false (show ¬ (0≤x.st∧x.st≤x.term) from fun c=>by omega)
  exact ⟨congrArg Value.bool (by rw [hR,c1'];simp),s3⟩
 refine ACmp.yes (c4) ?_;conv=>whnf
 refine ALoad.one rfl k3 rfl ?_;conv=>whnf
 by_cases c5:(x.sc > 0)
 rotate_left
 ·refine ACmp.no (c5) ?_;conv=>whnf
  have c1':=decide_eq_false (show ¬ (x.sc % 2=0∧1≤x.sc∧x.sc≤63) from fun c=>by omega)
  exact ⟨congrArg Value.bool (by rw [hR,c1'];simp),s3⟩
 refine ACmp.yes (c5) ?_;conv=>whnf
 refine ALoad.one rfl k3 rfl ?_;conv=>whnf
 by_cases c6:(x.sc<64)
 rotate_left
 ·refine ACmp.no (c6) ?_;conv=>whnf
  have c1':=decide_eq_false (show ¬ (x.sc % 2=0∧1≤x.sc∧x.sc≤63) from fun c=>by omega)
  exact ⟨congrArg Value.bool (by rw [hR,c1'];simp),s3⟩
 refine ACmp.yes (c6) ?_;conv=>whnf
 refine ALoad.one rfl k3 rfl ?_;conv=>whnf
 refine ⟨by omega,?_⟩
 refine AInt.as (Int.tmod_eq_emod_of_nonneg (by omega)) ?_;conv=>whnf
 by_cases c7:(x.sc % 2=0)
 rotate_left
 ·refine ACmp.no (c7) ?_;conv=>whnf
  have c1':=decide_eq_false (show ¬ (x.sc % 2=0∧1≤x.sc∧x.sc≤63) from fun c=>by omega)
  exact ⟨congrArg Value.bool (by rw [hR,c1'];simp),s3⟩
 refine ACmp.yes (c7) ?_;conv=>whnf
 refine ALoad.one rfl k3 rfl ?_;conv=>whnf
 refine ACmp.dec ?_;conv=>whnf
 refine ⟨congrArg Value.bool ?_,s3⟩
 rw [hR,decide_eq_true (show 1≤x.si∧x.si≤9007199254740991 from ⟨c1,c2'⟩),decide_eq_true (show 0≤x.st∧x.st≤x.term from ⟨c3,c4⟩),decide_eq_true (show x.sc % 2=0∧1≤x.sc∧x.sc≤63 by omega)]
 simp only [Bool.true_and]
 exact decide_eq_decide.2 (by omega)
theorem bare_ok {h:Heap} {t1 t2 t3:Tag} {x:PH} (k:x.Ok h t1 t2 t3):x.bare.Ok h t1 t2 t3∧x.bare.abs=x.abs.bare∧x.bare.e.n≤x.e.n∧x.bare.d.n≤x.d.n:=by
 unfold PH.bare PostM.bare
 have z:∀ {y:PH},y.e=slv0→y.es=[]→y.d=slv0→y.data=[]→y.Ok h t1 t2 t3:=fun a b c d=>⟨by rw [a,b];exact ⟨Sl.nil ..,by simp,by simp⟩,by rw [c,d];exact Sl.nil ..⟩
 have le:∀ {s t:SlV},s=slv0→s.n≤t.n:=fun a=>by rw [a];exact Nat.zero_le _
 by_cases c1:x.kind=1
 ·rw [if_pos c1,if_pos (show x.abs.kind=1 from c1)]
  exact ⟨z rfl rfl rfl rfl,rfl,le rfl,le rfl⟩
 rw [if_neg c1,if_neg (show ¬ x.abs.kind=1 from c1)]
 by_cases c2:x.kind=2
 ·rw [if_pos c2,if_pos (show x.abs.kind=2 from c2)]
  exact ⟨z rfl rfl rfl rfl,rfl,le rfl,le rfl⟩
 rw [if_neg c2,if_neg (show ¬ x.abs.kind=2 from c2)]
 by_cases c3:x.kind=3
 ·rw [if_pos c3,if_pos (show x.abs.kind=3 from c3)]
  exact ⟨⟨k.es,Sl.nil ..⟩,rfl,Nat.le_refl _,le rfl⟩
 rw [if_neg c3,if_neg (show ¬ x.abs.kind=3 from c3)]
 by_cases c4:x.kind=4
 ·rw [if_pos c4,if_pos (show x.abs.kind=4 from c4)]
  exact ⟨z rfl rfl rfl rfl,rfl,le rfl,le rfl⟩
 rw [if_neg c4,if_neg (show ¬ x.abs.kind=4 from c4)]
 by_cases c5:x.kind=5
 ·rw [if_pos c5,if_pos (show x.abs.kind=5 from c5)]
  exact ⟨⟨⟨Sl.nil ..,by simp [post1],by simp [post1]⟩,k.sd⟩,rfl,le rfl,Nat.le_refl _⟩
 rw [if_neg c5,if_neg (show ¬ x.abs.kind=5 from c5)]
 by_cases c6:x.kind=6
 ·rw [if_pos c6,if_pos (show x.abs.kind=6 from c6)]
  exact ⟨z rfl rfl rfl rfl,rfl,le rfl,le rfl⟩
 rw [if_neg c6,if_neg (show ¬ x.abs.kind=6 from c6)]
 exact ⟨z rfl rfl rfl rfl,rfl,le rfl,le rfl⟩
theorem same_comm (a b:PostM):a.same b=b.same a:=by
 rw [Bool.eq_iff_iff]
 unfold PostM.same SnapM.same
 simp only [Bool.and_eq_true,decide_eq_true_iff]
 constructor
 ·rintro ⟨⟨h1,h2,h3,h4,h5,h6,h7,h8,h9,h10⟩,h11,h12,h13,h14⟩
  exact ⟨⟨h1.symm,h2.symm,h3.symm,h4.symm,h5.symm,h6.symm,h7.symm,h8.symm,h9.symm,h10.symm⟩,h11.symm,h12.symm,h13.symm,h14.symm⟩
 ·rintro ⟨⟨h1,h2,h3,h4,h5,h6,h7,h8,h9,h10⟩,h11,h12,h13,h14⟩
  exact ⟨⟨h1.symm,h2.symm,h3.symm,h4.symm,h5.symm,h6.symm,h7.symm,h8.symm,h9.symm,h10.symm⟩,h11.symm,h12.symm,h13.symm,h14.symm⟩
set_option maxHeartbeats 4000000 in
theorem rCheck_any {h:Heap} {t1 t2 t3:Tag} {x:PH} (k:x.Ok h t1 t2 t3) (hc0 : -9223372036854775808≤x.sc) (hc1:x.sc≤9223372036854775807) (hn:x.e.n≤4611686018427387904) (hd:x.d.n≤4611686018427387904) :
  ACalls PR 158 #[.agg x.cells.toArray] h (fun v h'=>v=I (if x.abs.check=true then 0 else 2)∧h=h'):=by
 have hR:=check_eq x
 generalize x.abs.check=R at hR ⊢
 rw [List.length_map] at hR
 refine acalls_pure (acalls_of mix Tryz.func158 rfl rfl Tryz.ntmps158 Tryz.results158 rfl ?_);conv=>whnf
 refine ABox.mkN (0,1) (x.cells) rfl fun b1 h1 n1 s1 k1=>?_;conv=>whnf
 have q1:x.Ok h1 t1 t2 t3:=⟨k.es.sub s1,k.sd.sub s1⟩
 refine ALoad.one rfl k1 rfl ?_;conv=>whnf
 by_cases a1:(x.kind<1)
 ·refine ACmp.yes (a1) ?_;conv=>whnf
  have c1':=decide_eq_false (show ¬ (1≤x.kind∧x.kind≤6) from fun c=>by omega)
  exact ⟨congrArg I (by rw [if_neg];rw [hR,c1'];simp),s1⟩
 refine ACmp.no (a1) ?_;conv=>whnf
 refine ALoad.one rfl k1 rfl ?_;conv=>whnf
 by_cases a2:(x.kind > 6)
 ·refine ACmp.yes (a2) ?_;conv=>whnf
  have c1':=decide_eq_false (show ¬ (1≤x.kind∧x.kind≤6) from fun c=>by omega)
  exact ⟨congrArg I (by rw [if_neg];rw [hR,c1'];simp),s1⟩
 refine ACmp.no (a2) ?_;conv=>whnf
 refine ALoad.one rfl k1 rfl ?_;conv=>whnf
 by_cases a3:(x.src<1)
 ·refine ACmp.yes (a3) ?_;conv=>whnf
  have c1':=decide_eq_false (show ¬ (1≤x.src∧x.src≤5∧1≤x.dst∧x.dst≤5∧x.src≠x.dst) from fun c=>by omega)
  exact ⟨congrArg I (by rw [if_neg];rw [hR,c1'];simp),s1⟩
 refine ACmp.no (a3) ?_;conv=>whnf
 refine ALoad.one rfl k1 rfl ?_;conv=>whnf
 by_cases a4:(x.src > 5)
 ·refine ACmp.yes (a4) ?_;conv=>whnf
  have c1':=decide_eq_false (show ¬ (1≤x.src∧x.src≤5∧1≤x.dst∧x.dst≤5∧x.src≠x.dst) from fun c=>by omega)
  exact ⟨congrArg I (by rw [if_neg];rw [hR,c1'];simp),s1⟩
 refine ACmp.no (a4) ?_;conv=>whnf
 refine ALoad.one rfl k1 rfl ?_;conv=>whnf
 by_cases a5:(x.dst<1)
 ·refine ACmp.yes (a5) ?_;conv=>whnf
  have c1':=decide_eq_false (show ¬ (1≤x.src∧x.src≤5∧1≤x.dst∧x.dst≤5∧x.src≠x.dst) from fun c=>by omega)
  exact ⟨congrArg I (by rw [if_neg];rw [hR,c1'];simp),s1⟩
 refine ACmp.no (a5) ?_;conv=>whnf
 refine ALoad.one rfl k1 rfl ?_;conv=>whnf
 by_cases a6:(x.dst > 5)
 ·refine ACmp.yes (a6) ?_;conv=>whnf
  have c1':=decide_eq_false (show ¬ (1≤x.src∧x.src≤5∧1≤x.dst∧x.dst≤5∧x.src≠x.dst) from fun c=>by omega)
  exact ⟨congrArg I (by rw [if_neg];rw [hR,c1'];simp),s1⟩
 refine ACmp.no (a6) ?_;conv=>whnf
 refine ALoad.one rfl k1 rfl ?_
 refine ALoad.one rfl k1 rfl ?_;conv=>whnf
 by_cases a7:(x.src=x.dst)
 ·refine ACmp.yes (a7) ?_;conv=>whnf
  have c1':=decide_eq_false (show ¬ (1≤x.src∧x.src≤5∧1≤x.dst∧x.dst≤5∧x.src≠x.dst) from fun c=>by omega)
  exact ⟨congrArg I (by rw [if_neg];rw [hR,c1'];simp),s1⟩
 refine ACmp.no (a7) ?_;conv=>whnf
 have A1:=decide_eq_true (show 1≤x.kind∧x.kind≤6 by omega)
 have A2:=decide_eq_true (show 1≤x.src∧x.src≤5∧1≤x.dst∧x.dst≤5∧x.src≠x.dst by omega)
 rw [A1,A2,Bool.true_and,Bool.true_and] at hR
 clear a1 a2 a3 a4 a5 a6 a7 A1 A2
 refine ALoad.one rfl k1 rfl ?_;conv=>whnf
 refine ACalls.mono (rnum_any h1 (x.term)) ?_
 cases n1':numB (x.term) with
 | false =>
  rintro _ _ ⟨rfl,rfl⟩
  conv=>whnf
  exact ⟨congrArg I (by rw [if_neg];rw [hR,n1'];simp),s1⟩
 | true =>
 rintro _ _ ⟨rfl,rfl⟩
 conv=>whnf
 refine ALoad.one rfl k1 rfl ?_;conv=>whnf
 refine ACalls.mono (rnum_any h1 (x.index)) ?_
 cases n2':numB (x.index) with
 | false =>
  rintro _ _ ⟨rfl,rfl⟩
  conv=>whnf
  exact ⟨congrArg I (by rw [if_neg];rw [hR,n2'];simp),s1⟩
 | true =>
 rintro _ _ ⟨rfl,rfl⟩
 conv=>whnf
 refine ALoad.one rfl k1 rfl ?_;conv=>whnf
 refine ACalls.mono (rnum_any h1 x.logTerm) ?_
 cases n3':numB x.logTerm with
 | false =>
  rintro _ _ ⟨rfl,rfl⟩
  conv=>whnf
  have c1':=decide_eq_false (show ¬ (0≤x.logTerm∧x.logTerm≤x.term) from fun c=>by unfold numB at n1' n3';simp at n1' n3';omega)
  exact ⟨congrArg I (by rw [if_neg];rw [hR,c1'];simp),s1⟩
 | true =>
 rintro _ _ ⟨rfl,rfl⟩
 conv=>whnf
 refine ALoad.one rfl k1 rfl ?_;conv=>whnf
 refine ACalls.mono (rnum_any h1 (x.commit)) ?_
 cases n4':numB (x.commit) with
 | false =>
  rintro _ _ ⟨rfl,rfl⟩
  conv=>whnf
  exact ⟨congrArg I (by rw [if_neg];rw [hR,n4'];simp),s1⟩
 | true =>
 rintro _ _ ⟨rfl,rfl⟩
 conv=>whnf
 refine ALoad.one rfl k1 rfl ?_;conv=>whnf
 refine ACalls.mono (rnum_any h1 (x.hint)) ?_
 cases n5':numB (x.hint) with
 | false =>
  rintro _ _ ⟨rfl,rfl⟩
  conv=>whnf
  exact ⟨congrArg I (by rw [if_neg];rw [hR,n5'];simp),s1⟩
 | true =>
 rintro _ _ ⟨rfl,rfl⟩
 conv=>whnf
 refine ALoad.one rfl k1 rfl ?_
 refine ALoad.one rfl k1 rfl ?_;conv=>whnf
 by_cases a1:(x.logTerm > x.term)
 ·refine ACmp.yes (a1) ?_;conv=>whnf
  have c1':=decide_eq_false (show ¬ (0≤x.logTerm∧x.logTerm≤x.term) from fun c=>by omega)
  exact ⟨congrArg I (by rw [if_neg];rw [hR,c1'];simp),s1⟩
 refine ACmp.no (a1) ?_;conv=>whnf
 have A1:=decide_eq_true (show 0≤x.logTerm∧x.logTerm≤x.term from by unfold numB at n3';simp at n3';omega)
 rw [n1',n2',n4',n5',A1] at hR
 simp only [Bool.true_and,Bool.and_true] at hR
 obtain ⟨k2,kb,kbn,kbd⟩:=bare_ok q1
 refine ADrawn.mkO (h1) [] ([0,2,1]++(List.range 17).map (3 + ·)) (Sub.refl _) (by decide +kernel) ?_;conv=>whnf
 refine ALoad.agg rfl k1 rfl rfl ?_
 refine ALoad.agg rfl k1 rfl rfl ?_;conv=>whnf
 refine ACalls.mono (rkept_any h1 x) ?_;rintro _ _ ⟨rfl,rfl⟩;conv=>whnf
 refine ⟨Sub.refl _,?_⟩;conv=>whnf
 refine ACalls.mono (rsame_any k2 q1 (by omega) (by omega)) ?_
 rw [kb,same_comm]
 cases d1:x.abs.same x.abs.bare with
 | false =>
  rintro _ _ ⟨rfl,rfl⟩
  conv=>whnf
  refine ⟨Sub.refl _,?_⟩;conv=>whnf
  exact ⟨congrArg I (by rw [if_neg];rw [hR,d1];simp),s1⟩
 | true =>
 rintro _ _ ⟨rfl,rfl⟩
 conv=>whnf
 refine ⟨Sub.refl _,?_⟩;conv=>whnf
 refine ALoad.agg rfl k1 rfl rfl ?_;conv=>whnf
 refine ACalls.mono (rlists_any q1 n2' hn) ?_
 cases e1:(decide (x.es.length≤8)&&entriesMay x.term x.index x.logTerm (x.es.map EH.abs)) with
 | false =>
  rintro _ _ ⟨rfl,rfl⟩
  conv=>whnf
  refine ⟨Sub.refl _,?_⟩;conv=>whnf
  exact ⟨congrArg I (by rw [if_neg];rw [hR,e1];simp),s1⟩
 | true =>
 rintro _ _ ⟨rfl,rfl⟩
 conv=>whnf
 refine ⟨Sub.refl _,?_⟩;conv=>whnf
 rw [d1,e1] at hR
 refine ALoad.one rfl k1 rfl ?_;conv=>whnf
 by_cases k5:x.kind=5
 ·refine ACmp.yes (k5) ?_;conv=>whnf
  refine ALoad.agg rfl k1 rfl rfl ?_;conv=>whnf
  refine ACalls.mono (rsnapMay_any q1 hc0 hc1) ?_
  cases f1:x.abs.snapMay with
  | false =>
   rintro _ _ ⟨rfl,rfl⟩
   conv=>whnf
   refine ⟨Sub.refl _,?_⟩;conv=>whnf
   exact ⟨congrArg I (by rw [if_neg];rw [hR,f1,decide_eq_false (by simpa using k5)];simp),s1⟩
  | true =>
   rintro _ _ ⟨rfl,rfl⟩
   conv=>whnf
   refine ⟨Sub.refl _,?_⟩;conv=>whnf
   exact ⟨congrArg I (by rw [if_pos];rw [hR,f1];simp),s1⟩
 ·refine ACmp.no (k5) ?_;conv=>whnf
  exact ⟨congrArg I (by rw [if_pos];rw [hR,decide_eq_true k5];simp),s1⟩
theorem rcrewEntry_any (h:Heap) {t:Tag} (e:EH) (g:e.Good h t) (hb:∀ x∈e.data,0≤x∧x<256) :
  ACalls PR 37 #[.agg e.cells.toArray] h (fun v h'=>v = .bool (decide (e.kind≠2) || crewOk e.abs)∧h=h'):=by
 have hl:e.data.length=e.n:=by have:=g.len;simpa [bytesV] using this
 refine acalls_pure (acalls_of mix Tryz.func37 rfl rfl Tryz.ntmps37 Tryz.results37 rfl ?_);conv=>whnf
 refine ABox.mkN (0,1) (e.cells) rfl fun b1 h1 n1 s1 k1=>?_;conv=>whnf
 have g1:=Sl.sub g s1
 refine ALoad.one rfl k1 rfl ?_;conv=>whnf
 by_cases c0:e.kind≠2
 ·refine ACmp.yes (c0) ?_;conv=>whnf
  exact ⟨by rw [decide_eq_true c0];rfl,s1⟩
 refine ACmp.no (c0) ?_;conv=>whnf
 rw [decide_eq_false c0,Bool.false_or]
 refine ALoad.one rfl k1 rfl ?_;conv=>whnf
 by_cases c1:e.n=1
 ·refine ACmp.yes (by omega) ?_;conv=>whnf
  obtain ⟨x,hx⟩:∃ x,e.data=[x]:=by
   match hd:e.data,(show e.data.length=1 by omega) with
   | [x],_=>exact ⟨x,rfl⟩
  have hbx:=hb x (by rw [hx];simp)
  obtain ⟨b,off,l,E,fz,ea,hbk,hc⟩:=g1.pos (by omega)
  have g0:l[off+0*1]? = some (.int .u8 x):=by rw [get_of_take hc (by omega),hx];rfl
  refine ALoad.one rfl k1 rfl ?_;conv=>whnf
  rw [ea]
  refine AIdx.nat (z:=1) (j:=0) rfl (by omega) rfl rfl ?_;conv=>whnf
  refine ALoad.one rfl hbk g0 ?_;conv=>whnf
  refine AArith.as (i64_wrap (by omega) (by omega)) ?_;conv=>whnf
  refine ACalls.mono (refCheck_any _ x (by omega) (by omega)) ?_;rintro _ _ ⟨rfl,rfl⟩;conv=>whnf
  refine ACmp.dec ?_;conv=>whnf
  exact ⟨by simp [crewOk,EH.abs,hx],s1⟩
 ·refine ACmp.no (by omega) ?_;conv=>whnf
  have:=crew_none (e:=e.abs) (by show e.data.length≠1;omega)
  exact ⟨by rw [this.2],s1⟩
set_option maxHeartbeats 4000000 in
theorem rtakes_any {h:Heap} {p o oo:Nat} {c:CoreM} {cx:CX} (kc:RX h p o oo c cx) {t1 t2 t3:Tag} {x:PH} (k:x.Ok h t1 t2 t3) (by_:∀ e∈x.es,∀ z∈e.data,0≤z∧z<256)
  (hc0 : -9223372036854775808≤x.sc) (hc1:x.sc≤9223372036854775807) (hn:x.e.n≤4611686018427387904) (hd:x.d.n≤4611686018427387904) :
  ACalls PR 91 #[Ptr p, .agg x.cells.toArray] h (fun v h'=>v = .bool (c.takes x.abs)∧h=h'):=by
 have hl:=k.es.len
 have hR:c.takes x.abs=(x.abs.check&&decide (x.dst=c.self)&&decide (0<x.term)&&(x.es.map EH.abs).all (fun e=>decide (1≤e.1))&&(decide (x.kind≠5) || decide (1≤x.st))&&crewsMay (x.es.map EH.abs)):=rfl
 generalize c.takes x.abs=R at hR ⊢
 refine acalls_pure (acalls_of mix Tryz.func91 rfl rfl Tryz.ntmps91 Tryz.results91 rfl ?_);conv=>whnf
 refine ABox.mkN (0,1) (x.cells) rfl fun b3 h1 n1 s1 k1=>?_;conv=>whnf
 have q1:x.Ok h1 t1 t2 t3:=⟨k.es.sub s1,k.sd.sub s1⟩
 have kc1:=kc.sub s1
 refine ADrawn.mk (h1) [] (Sub.refl _) (by decide +kernel) ?_;conv=>whnf
 refine ALoad.agg rfl k1 rfl rfl ?_;conv=>whnf
 refine ACalls.mono (rCheck_any q1 hc0 hc1 hn hd) ?_
 cases k0:x.abs.check with
 | false =>
  rintro _ _ ⟨rfl,rfl⟩
  conv=>whnf
  refine ⟨Sub.refl _,?_⟩;conv=>whnf
  refine ACmp.yes ((by simp)) ?_;conv=>whnf
  exact ⟨congrArg Value.bool (by rw [hR,k0];simp),s1⟩
 | true =>
 rintro _ _ ⟨rfl,rfl⟩
 conv=>whnf
 refine ⟨Sub.refl _,?_⟩;conv=>whnf
 refine ACmp.no ((by simp)) ?_;conv=>whnf
 refine ALoad.one rfl k1 rfl ?_
 refine ALoad.one rfl kc1.str rfl ?_;conv=>whnf
 by_cases a1:x.dst=c.self
 rotate_left
 ·refine ACmp.yes (a1) ?_;conv=>whnf
  have c1':=decide_eq_false a1
  exact ⟨congrArg Value.bool (by rw [hR,c1'];simp),s1⟩
 refine ACmp.no ((by simpa using a1)) ?_;conv=>whnf
 refine ALoad.one rfl k1 rfl ?_;conv=>whnf
 by_cases a2:0<x.term
 rotate_left
 ·refine ACmp.yes ((by omega)) ?_;conv=>whnf
  have c1':=decide_eq_false a2
  exact ⟨congrArg Value.bool (by rw [hR,c1'];simp),s1⟩
 refine ACmp.no ((by omega)) ?_;conv=>whnf
 refine ALoad.one rfl k1 rfl ?_;conv=>whnf
 by_cases k5:x.kind=5
 ·refine ACmp.yes (k5) ?_;conv=>whnf
  refine ALoad.one rfl k1 rfl ?_;conv=>whnf
  by_cases a3:1≤x.st
  ·refine ACmp.no ((by omega)) ?_;conv=>whnf
   have SN':(decide (x.kind≠5) || decide (1≤x.st))=true:=by simp [a3]
   rw [k0,decide_eq_true a1,decide_eq_true a2,SN'] at hR
   simp only [Bool.true_and,Bool.and_true] at hR
   refine ALoop.mk (fun e h'=>h1=h'∧∃ e0,∃ j:Nat,e=updL 57 e0 [(3,Ptr b3),(5,I j)]∧j≤x.e.n∧R=(((x.es.drop j).map EH.abs).all (fun e=>decide (1≤e.1))&&crewsMay ((x.es.drop j).map EH.abs))) (fun e=>x.e.n-natOf (e 5))
    ⟨rfl,_,0,updL_self ⟨rfl,rfl,trivial⟩,by omega,by rw [List.drop_zero];exact hR⟩ ?_
   clear hR
   rintro e _ ⟨rfl,e0,j,rfl,hj,hR⟩
   conv=>whnf
   refine ALoad.one rfl k1 rfl ?_;conv=>whnf
   by_cases hjn:j<x.e.n
   ·refine ACmp.yes (by omega) ?_;conv=>whnf
    obtain ⟨y,hy⟩:∃ y,x.es[j]? = some y:=⟨x.es[j]'(by omega),by simp⟩
    have my:=List.mem_of_getElem? hy
    have hdr:(x.es.drop j).map EH.abs=y.abs::(x.es.drop (j+1)).map EH.abs:=by
     rw [List.drop_eq_getElem_cons (show j<x.es.length by omega),(List.getElem?_eq_some_iff.1 hy).2];rfl
    have hR2:R=(decide (1≤y.term)&&((decide (y.kind≠2) || crewOk y.abs)&&(((x.es.drop (j+1)).map EH.abs).all (fun e=>decide (1≤e.1))&&crewsMay ((x.es.drop (j+1)).map EH.abs)))):=by
     rw [hR,hdr]
     show (decide (1≤y.term)&&_&&((decide (y.kind≠2) || crewOk y.abs)&&crewsMay _))=_
     simp only [Bool.and_assoc,Bool.and_left_comm]
    obtain ⟨b,off,l,E,fz,ea,hb,hc⟩:=q1.es.sl.pos (by omega)
    have g0:(l.drop (off+j*4)).take 4=y.cells:=by rw [part_of_take hc (by omega),encs_part hy]
    have gT:l[off+j*4]? = some (I y.term):=by have:=congrArg (fun q:List Value=>q[0]?) g0;simpa [List.getElem?_take,List.getElem?_drop,EH.cells] using this
    refine ALoad.one rfl k1 rfl ?_;conv=>whnf
    rw [ea]
    refine AIdx.nat (n:=x.e.n) (z:=4) (j:=j) rfl hjn rfl rfl ?_;conv=>whnf
    refine ALoad.one rfl hb gT ?_;conv=>whnf
    by_cases c1:1≤y.term
    rotate_left
    ·refine ACmp.yes ((by omega)) ?_;conv=>whnf
     exact ⟨congrArg Value.bool (by rw [hR2,decide_eq_false c1];rfl),s1⟩
    refine ACmp.no ((by omega)) ?_;conv=>whnf
    refine ALoad.one rfl k1 rfl ?_;conv=>whnf
    rw [ea]
    refine AIdx.nat (n:=x.e.n) (z:=4) (j:=j) rfl hjn rfl rfl ?_;conv=>whnf
    refine ALoad.agg rfl hb g0 rfl ?_;conv=>whnf
    refine ACalls.mono (rcrewEntry_any h1 y (q1.es.good y my) (by_ y my)) ?_
    cases c2:(decide (y.kind≠2) || crewOk y.abs) with
    | false =>
     rintro _ _ ⟨rfl,rfl⟩
     conv=>whnf
     exact ⟨congrArg Value.bool (by rw [hR2,c2];simp),s1⟩
    | true =>
    rintro _ _ ⟨rfl,rfl⟩
    conv=>whnf
    rw [decide_eq_true c1,c2,Bool.true_and,Bool.true_and] at hR2
    refine AArith.ok (by omega) (by omega) ((by omega:(j:Int)+1=((j+1:Nat):Int))) ?_;conv=>whnf
    refine ⟨⟨rfl,_,j+1,updL_self ⟨rfl,rfl,trivial⟩,by omega,hR2⟩,?_⟩
    show x.e.n-(j+1)<x.e.n-j
    omega
   ·refine ACmp.no (by omega) ?_;conv=>whnf
    rw [List.drop_of_length_le (by omega)] at hR
    exact ⟨congrArg Value.bool (by rw [hR];rfl),s1⟩
  ·refine ACmp.yes ((by omega)) ?_;conv=>whnf
   have SN':(decide (x.kind≠5) || decide (1≤x.st))=false:=by simp [a3,k5]
   exact ⟨congrArg Value.bool (by rw [hR,SN'];simp),s1⟩
 ·refine ACmp.no (k5) ?_;conv=>whnf
  have SN':(decide (x.kind≠5) || decide (1≤x.st))=true:=by simp [k5]
  rw [k0,decide_eq_true a1,decide_eq_true a2,SN'] at hR
  simp only [Bool.true_and,Bool.and_true] at hR
  refine ALoop.mk (fun e h'=>h1=h'∧∃ e0,∃ j:Nat,e=updL 57 e0 [(3,Ptr b3),(5,I j)]∧j≤x.e.n∧R=(((x.es.drop j).map EH.abs).all (fun e=>decide (1≤e.1))&&crewsMay ((x.es.drop j).map EH.abs))) (fun e=>x.e.n-natOf (e 5))
   ⟨rfl,_,0,updL_self ⟨rfl,rfl,trivial⟩,by omega,by rw [List.drop_zero];exact hR⟩ ?_
  clear hR
  rintro e _ ⟨rfl,e0,j,rfl,hj,hR⟩
  conv=>whnf
  refine ALoad.one rfl k1 rfl ?_;conv=>whnf
  by_cases hjn:j<x.e.n
  ·refine ACmp.yes (by omega) ?_;conv=>whnf
   obtain ⟨y,hy⟩:∃ y,x.es[j]? = some y:=⟨x.es[j]'(by omega),by simp⟩
   have my:=List.mem_of_getElem? hy
   have hdr:(x.es.drop j).map EH.abs=y.abs::(x.es.drop (j+1)).map EH.abs:=by
    rw [List.drop_eq_getElem_cons (show j<x.es.length by omega),(List.getElem?_eq_some_iff.1 hy).2];rfl
   have hR2:R=(decide (1≤y.term)&&((decide (y.kind≠2) || crewOk y.abs)&&(((x.es.drop (j+1)).map EH.abs).all (fun e=>decide (1≤e.1))&&crewsMay ((x.es.drop (j+1)).map EH.abs)))):=by
    rw [hR,hdr]
    show (decide (1≤y.term)&&_&&((decide (y.kind≠2) || crewOk y.abs)&&crewsMay _))=_
    simp only [Bool.and_assoc,Bool.and_left_comm]
   obtain ⟨b,off,l,E,fz,ea,hb,hc⟩:=q1.es.sl.pos (by omega)
   have g0:(l.drop (off+j*4)).take 4=y.cells:=by rw [part_of_take hc (by omega),encs_part hy]
   have gT:l[off+j*4]? = some (I y.term):=by have:=congrArg (fun q:List Value=>q[0]?) g0;simpa [List.getElem?_take,List.getElem?_drop,EH.cells] using this
   refine ALoad.one rfl k1 rfl ?_;conv=>whnf
   rw [ea]
   refine AIdx.nat (n:=x.e.n) (z:=4) (j:=j) rfl hjn rfl rfl ?_;conv=>whnf
   refine ALoad.one rfl hb gT ?_;conv=>whnf
   by_cases c1:1≤y.term
   rotate_left
   ·refine ACmp.yes ((by omega)) ?_;conv=>whnf
    exact ⟨congrArg Value.bool (by rw [hR2,decide_eq_false c1];rfl),s1⟩
   refine ACmp.no ((by omega)) ?_;conv=>whnf
   refine ALoad.one rfl k1 rfl ?_;conv=>whnf
   rw [ea]
   refine AIdx.nat (n:=x.e.n) (z:=4) (j:=j) rfl hjn rfl rfl ?_;conv=>whnf
   refine ALoad.agg rfl hb g0 rfl ?_;conv=>whnf
   refine ACalls.mono (rcrewEntry_any h1 y (q1.es.good y my) (by_ y my)) ?_
   cases c2:(decide (y.kind≠2) || crewOk y.abs) with
   | false =>
    rintro _ _ ⟨rfl,rfl⟩
    conv=>whnf
    exact ⟨congrArg Value.bool (by rw [hR2,c2];simp),s1⟩
   | true =>
   rintro _ _ ⟨rfl,rfl⟩
   conv=>whnf
   rw [decide_eq_true c1,c2,Bool.true_and,Bool.true_and] at hR2
   refine AArith.ok (by omega) (by omega) ((by omega:(j:Int)+1=((j+1:Nat):Int))) ?_;conv=>whnf
   refine ⟨⟨rfl,_,j+1,updL_self ⟨rfl,rfl,trivial⟩,by omega,hR2⟩,?_⟩
   show x.e.n-(j+1)<x.e.n-j
   omega
  ·refine ACmp.no (by omega) ?_;conv=>whnf
   rw [List.drop_of_length_le (by omega)] at hR
   exact ⟨congrArg Value.bool (by rw [hR];rfl),s1⟩
theorem takes_more {c:CoreM} {x:PH} (h:c.takes x.abs=true):entriesMay x.term x.index x.logTerm (x.es.map EH.abs)=true∧∀ e∈x.es,1≤e.term:=by
 rw [takes_eq] at h
 simp only [Bool.and_eq_true,Bool.not_eq_true',Bool.or_eq_false_iff] at h
 have h1:=h.1.1.1.1
 rw [check_eq] at h1
 simp only [Bool.and_eq_true] at h1
 refine ⟨h1.1.2.2,fun e he=>?_⟩
 have:=(List.any_eq_false.1 h.1.2.1) e he
 simp only [decide_eq_true_eq] at this
 omega
set_option maxHeartbeats 8000000 in
theorem rTake_any {h:Heap} {p o oo:Nat} {c:CoreM} (ap:Apart o oo) (k:RCore h p o oo c) (dk:DOk c) (x:PH) (g:Given h o oo x) (draw:Int) (hdn:x.d.n≤4611686018427387904) :
  ACalls PR 40 #[Ptr p, .agg x.cells.toArray,I draw] h (fun v h'=>((c.takes x.abs=false∨draw<0)∧v = .tuple #[.agg (outCells out0 ox0).toArray,I 2]∧Sub h h')∨(c.takes x.abs=true∧0≤draw∧∃ u,v = .tuple #[u,I 0]∧RTold p o oo (c.take x.abs draw) h u h')):=by
 have ok:=dk.ok
 have hxd:x.data.length=x.d.n:=g.ok.elim fun _ ⟨_,_,ok,_⟩=>ok.len.2
 refine acalls_ofj mix Tryz.func40 rfl rfl Tryz.ntmps40 Tryz.results40 rfl ?_;conv=>whnf
 refine ABox.mkN (0,1) (x.cells) rfl fun b4 h1 n1 s1 k4=>?_;conv=>whnf
 refine AAlloc.mkN (0,1) (outCells out0 ox0) rfl fun b6 h2 n2 s2 k6=>?_;conv=>whnf
 have s12:=s1.trans s2
 have n2:h b6=none:=by
  cases e:h b6 with
  | none=>rfl
  | some y=>rw [s1 _ _ e] at n2;cases n2
 have k42:=s2 _ _ k4
 obtain ⟨cx,q⟩:=k
 have q:=q.sub s12
 have g2:=g.sub s12
 refine AIf.go ?_;conv=>whnf
 refine AIf.go ?_;conv=>whnf
 refine ALoad.agg rfl k42 rfl rfl ?_;conv=>whnf
 obtain ⟨⟨t1,t2,t3,okx,tn1,tn2,tn3⟩,hby,hsc0,hsc1,hn1⟩:=id g2
 refine ACalls.mono (rtakes_any q okx hby hsc0 hsc1 (by omega) hdn) ?_
 cases htk:c.takes x.abs with
 | false =>
  rintro _ _ ⟨rfl,rfl⟩
  conv=>whnf
  have WHY':false=false∨draw<0 := .inl rfl
  refine AStore.aggN rfl rfl rfl (k6) rfl (outCells out0 ox0) rfl fun h3 t3 k3 a3 e3=>?_;conv=>whnf
  refine ALoad.agg rfl k3 rfl rfl ?_;conv=>whnf
  exact .inl ⟨WHY',rfl,a3 h s12 n2⟩
 | true =>
 rintro _ _ ⟨rfl,rfl⟩
 conv=>whnf
 by_cases hd0:draw<0
 ·refine ACmp.yes (hd0) ?_;conv=>whnf
  have WHY':true=false∨draw<0 := .inr hd0
  refine AStore.aggN rfl rfl rfl (k6) rfl (outCells out0 ox0) rfl fun h3 t3 k3 a3 e3=>?_;conv=>whnf
  refine ALoad.agg rfl k3 rfl rfl ?_;conv=>whnf
  exact .inl ⟨WHY',rfl,a3 h s12 n2⟩
 refine ACmp.no (hd0) ?_;conv=>whnf
 have ch:=takes_facts htk
 obtain ⟨hm,ht1⟩:=takes_more htk
 clear okx hby hsc0 hsc1 hn1
 refine ACalls.mono (rbegin_any ap.a ok.out ⟨_,q⟩) ?_;rintro _ h3 ⟨rfl,⟨cx3,q3⟩,kk3⟩;conv=>whnf
 have ne0:∀ {r:Nat},((0,r):Tag).1∉[o,o+1,oo]:=by have:=ap.c;have:=ap.d;simp;omega
 have KK3:Keeps [o,o+1,oo] h2 h3:=kk3.keeps (by simp)
 have g3:=g2.keeps KK3
 have k43:=KK3 _ _ _ ne0 k42
 have k63:=KK3 _ _ _ ne0 k6
 rw [CoreM.take_eq]
 have hled:c.led=(decide (c.state=2) || (decide (c.quiet<10)&&decide (c.head≠0))):=rfl
 refine AIf.go ?_;conv=>whnf
 refine AIf.cut (fun e h'=>∃ e0,e=updL 132 e0 [(0,Ptr p),(2,I draw),(4,Ptr b4),(6,Ptr b6),(42, .bool (decide (x.kind=1)&&c.led))]∧h3=h') ?_ ?_
 ·conv=>whnf
  refine ALoad.one rfl k43 rfl ?_;conv=>whnf
  by_cases e1:x.kind=1
  ·refine ACmp.yes (e1) ?_;conv=>whnf
   refine ALoad.one rfl q3.str rfl ?_;conv=>whnf
   by_cases e2:c.state=2
   ·refine ACmp.yes (e2) ?_;conv=>whnf
    exact ⟨_,updL_self ⟨rfl,rfl,rfl,rfl,congrArg Value.bool (by rw [hled];simp [e1,e2]),trivial⟩,rfl⟩
   ·refine ACmp.no (e2) ?_;conv=>whnf
    refine ALoad.one rfl q3.str rfl ?_;conv=>whnf
    by_cases e3:c.quiet<10
    ·refine ACmp.yes (e3) ?_;conv=>whnf
     refine ALoad.one rfl q3.str rfl ?_;conv=>whnf
     by_cases e4:c.head≠0
     ·refine ACmp.yes (e4) ?_;conv=>whnf
      exact ⟨_,updL_self ⟨rfl,rfl,rfl,rfl,congrArg Value.bool (by rw [hled];simp [e1,e3,e4]),trivial⟩,rfl⟩
     ·refine ACmp.no (e4) ?_;conv=>whnf
      have e4':c.head=0:=by simpa using e4
      exact ⟨_,updL_self ⟨rfl,rfl,rfl,rfl,congrArg Value.bool (by rw [hled];simp [e2,e4']),trivial⟩,rfl⟩
    ·refine ACmp.no (e3) ?_;conv=>whnf
     exact ⟨_,updL_self ⟨rfl,rfl,rfl,rfl,congrArg Value.bool (by rw [hled];simp [e2];omega),trivial⟩,rfl⟩
  ·refine ACmp.no (e1) ?_;conv=>whnf
   exact ⟨_,updL_self ⟨rfl,rfl,rfl,rfl,congrArg Value.bool (by simp [e1]),trivial⟩,rfl⟩
 rintro e _ ⟨e0,rfl,rfl⟩
 cases hL:(decide (x.kind=1)&&c.led) with
 | true =>
  conv=>whnf
  rw [if_pos (by have:=Bool.and_eq_true_iff.1 hL;exact ⟨of_decide_eq_true this.1,this.2⟩)]
  have KC:RCore h3 p o oo c:=⟨_,q3⟩
  have KK:Keeps [o,o+1,oo] h3 h3:=Keeps.refl _ _
  refine ACalls.mono (rend_any ap.a ap.c ap.d KC) ?_;rintro _ h8 ⟨ox,rfl,o8,q8,kk8⟩;conv=>whnf
  refine AStore.aggN rfl rfl rfl ((kk8.get (Ne.symm ap.c) (KK _ _ _ ne0 k63))) rfl (outCells _ ox) rfl fun h9 t9 k9 a9 e9=>?_;conv=>whnf
  refine ALoad.agg rfl k9 rfl rfl ?_;conv=>whnf
  exact .inr ⟨rfl,by omega,_,rfl,rtold_end ap n2 ((s12.keeps _).trans (KK3.trans KK)) kk8 o8 q8 t9 e9⟩
 | false =>
 rw [if_neg (fun z=>by rw [decide_eq_true (show x.kind=1 from z.1),z.2] at hL;cases hL)]
 conv=>whnf
 obtain ⟨D,hD⟩:∃ D,D=if c.term<x.term then c.learn x.term else c:=⟨_,rfl⟩
 refine AIf.cut (fun e h'=>∃ e0,e=updL 132 e0 [(0,Ptr p),(2,I draw),(4,Ptr b4),(6,Ptr b6)]∧RCore h' p o oo D∧Keeps [o,o+1,oo] h3 h') ?_ ?_
 ·conv=>whnf
  refine AIf.go ?_;conv=>whnf
  refine ADrawn.mk (h3) [] (Sub.refl _) (by decide +kernel) ?_;conv=>whnf
  refine ALoad.one rfl k43 rfl ?_
  refine ALoad.one rfl q3.str rfl ?_;conv=>whnf
  by_cases e1:c.term<x.term
  ·refine ACmp.yes (e1) ?_;conv=>whnf
   refine ALoad.one rfl k43 rfl ?_;conv=>whnf
   refine ACalls.mono (rgreater_any ap.a ⟨_,q3⟩ x.term) ?_;rintro _ h4 ⟨rfl,k4',kk4⟩;conv=>whnf
   exact ⟨_,updL_self ⟨rfl,rfl,rfl,rfl,trivial⟩,by rw [hD,if_pos e1];exact k4',kk4.keeps (by simp)⟩
  ·refine ACmp.no (e1) ?_;conv=>whnf
   exact ⟨_,updL_self ⟨rfl,rfl,rfl,rfl,trivial⟩,by rw [hD,if_neg e1];exact ⟨_,q3⟩,Keeps.refl _ _⟩
 rintro e h4 ⟨e1,rfl,⟨cx4,q4⟩,KK4⟩
 have g4:=g3.keeps KK4
 have k44:=KK4 _ _ _ ne0 k43
 have td:TOk D:=by
  rw [hD];split
  ·exact ok.t.learn _
  ·exact ok.t
 have dl:DLk D:=by
  rw [hD];split
  ·exact dk.lk.same rfl rfl rfl
  ·exact dk.lk
 have dbc:D.log.bi≤D.commit:=by
  rw [hD];split
  ·exact dk.bc
  ·exact dk.bc
 have hx1:=ch.s1;have hx2:=ch.s2
 conv=>whnf
 refine AIf.go ?_;conv=>whnf
 refine AIf.go ?_;conv=>whnf
 refine ADrawn.mk (h4) [] (Sub.refl _) (by decide +kernel) ?_;conv=>whnf
 refine ALoad.one rfl k44 rfl ?_
 refine ALoad.one rfl q4.str rfl ?_;conv=>whnf
 by_cases el:x.term<D.term
 ·have eDc:¬ c.term<x.term∧D=c:=by
   by_cases z:c.term<x.term
   ·rw [hD,if_pos z] at el;exact absurd el (Int.lt_irrefl _)
   ·exact ⟨z,by rw [hD,if_neg z]⟩
  refine ACmp.yes (el) ?_;conv=>whnf
  rw [show c.takeIn x.abs draw=D.refuse x.abs by rw [eDc.2] at el ⊢;exact if_pos el]
  have hop:D.out.posts.length≤1000000000:=by rw [td.o3];simp
  refine AIf.cut (fun e h'=>∃ e0,e=updL 132 e0 [(0,Ptr p),(4,Ptr b4),(6,Ptr b6)]∧RCore h' p o oo (if x.kind=1 then D.say x.src {post0 with kind:=2} else D)∧Keeps [o,o+1,oo] h4 h') ?_ ?_
  ·conv=>whnf
   refine ALoad.one rfl k44 rfl ?_;conv=>whnf
   by_cases e1:x.kind=1
   ·refine ACmp.yes (e1) ?_;conv=>whnf
    rw [if_pos e1]
    refine ALoad.one rfl k44 rfl ?_;conv=>whnf
    refine ACalls.mono (rsay_any ap.a ap.b ap.c ap.d ⟨_,q4⟩ x.src {post1 with kind:=2,dst:=x.src} rfl (made0 rfl rfl rfl rfl) hop) ?_;rintro _ h5 ⟨rfl,k5,kk5⟩;conv=>whnf
    exact ⟨_,updL_self ⟨rfl,rfl,rfl,trivial⟩,k5,kk5.mono (by simp)⟩
   ·refine ACmp.no (e1) ?_;conv=>whnf
    rw [if_neg e1]
    exact ⟨_,updL_self ⟨rfl,rfl,rfl,trivial⟩,⟨_,q4⟩,Keeps.refl _ _⟩
  rintro e h5 ⟨e2,rfl,k5,KK5⟩
  have k45:=KK5 _ _ _ ne0 k44
  conv=>whnf
  refine AIf.cut (fun e h'=>∃ e0,e=updL 132 e0 [(0,Ptr p),(6,Ptr b6)]∧RCore h' p o oo (D.refuse x.abs)∧Keeps [o,o+1,oo] h3 h') ?_ ?_
  ·conv=>whnf
   refine ALoad.one rfl k45 rfl ?_;conv=>whnf
   unfold CoreM.refuse
   by_cases e3:x.kind=3
   ·refine ACmp.yes (e3) ?_;conv=>whnf
    have e1:¬ x.kind=1:=by omega
    rw [if_neg e1] at k5
    refine ALoad.one rfl k45 rfl ?_;conv=>whnf
    refine ACalls.mono (rsay_any ap.a ap.b ap.c ap.d k5 x.src {post1 with kind:=4,dst:=x.src} rfl (made0 rfl rfl rfl rfl) hop) ?_;rintro _ h6 ⟨rfl,k6',kk6⟩;conv=>whnf
    refine ⟨_,updL_self ⟨rfl,rfl,trivial⟩,?_,KK4.trans (KK5.trans (kk6.mono (by simp)))⟩
    rw [if_neg (show ¬ x.abs.kind=1 from e1),if_pos (show x.abs.kind=3 from e3)];exact k6'
   ·refine ACmp.no (e3) ?_;conv=>whnf
    refine ⟨_,updL_self ⟨rfl,rfl,trivial⟩,?_,KK4.trans KK5⟩
    by_cases e1:x.kind=1
    ·rw [if_pos (show x.abs.kind=1 from e1)];rw [if_pos e1] at k5;exact k5
    ·rw [if_neg (show ¬ x.abs.kind=1 from e1),if_neg (show ¬ x.abs.kind=3 from e3)];rw [if_neg e1] at k5;exact k5
  rintro e h6 ⟨e3,rfl,KC,KK⟩
  conv=>whnf
  refine ACalls.mono (rend_any ap.a ap.c ap.d KC) ?_;rintro _ h8 ⟨ox,rfl,o8,q8,kk8⟩;conv=>whnf
  refine AStore.aggN rfl rfl rfl ((kk8.get (Ne.symm ap.c) (KK _ _ _ ne0 k63))) rfl (outCells _ ox) rfl fun h9 t9 k9 a9 e9=>?_;conv=>whnf
  refine ALoad.agg rfl k9 rfl rfl ?_;conv=>whnf
  exact .inr ⟨rfl,by omega,_,rfl,rtold_end ap n2 ((s12.keeps _).trans (KK3.trans KK)) kk8 o8 q8 t9 e9⟩
 refine ACmp.no (el) ?_;conv=>whnf
 have hti:c.takeIn x.abs draw=D.take1 x.abs draw:=by
  unfold CoreM.takeIn
  by_cases z:c.term<x.term
  ·rw [if_neg (show ¬ x.abs.term<c.term by show ¬ x.term<c.term;omega),if_pos (show c.term<x.abs.term from z),hD,if_pos z];rfl
  ·rw [hD,if_neg z] at el ⊢
   rw [if_neg (show ¬ x.abs.term<c.term from el),if_neg (show ¬ c.term<x.abs.term from z)]
 rw [hti]
 refine AIf.cut (fun e h'=>∃ e0,e=updL 132 e0 [(0,Ptr p),(6,Ptr b6)]∧RCore h' p o oo (D.take1 x.abs draw)∧Keeps [o,o+1,oo] h4 h') ?_ ?_
 rotate_left
 ·rintro e h6 ⟨e3,rfl,KC,KK'⟩
  have KK:=KK4.trans KK'
  conv=>whnf
  refine ACalls.mono (rend_any ap.a ap.c ap.d KC) ?_;rintro _ h8 ⟨ox,rfl,o8,q8,kk8⟩;conv=>whnf
  refine AStore.aggN rfl rfl rfl ((kk8.get (Ne.symm ap.c) (KK _ _ _ ne0 k63))) rfl (outCells _ ox) rfl fun h9 t9 k9 a9 e9=>?_;conv=>whnf
  refine ALoad.agg rfl k9 rfl rfl ?_;conv=>whnf
  exact .inr ⟨rfl,by omega,_,rfl,rtold_end ap n2 ((s12.keeps _).trans (KK3.trans KK)) kk8 o8 q8 t9 e9⟩
 conv=>whnf
 refine ALoad.one rfl k44 rfl ?_;conv=>whnf
 have ht1e:∀ {R:CoreM},D.take1 x.abs draw=R→∀ {h':Heap},RCore h' p o oo R→RCore h' p o oo (D.take1 x.abs draw):=fun e _ k=>by rw [e];exact k
 by_cases e1:x.kind=1
 ·refine ACmp.yes (e1) ?_;conv=>whnf
  refine ALoad.agg rfl k44 rfl rfl ?_;conv=>whnf
  refine ACalls.mono (rvote_any ap ⟨_,q4⟩ td.lk.lo x draw (by omega) (by rw [td.o3];simp)) ?_;rintro _ h5 ⟨rfl,k5,kk5⟩;conv=>whnf
  exact ⟨_,updL_self ⟨rfl,rfl,trivial⟩,ht1e (if_pos e1) k5,kk5.mono (by simp)⟩
 refine ACmp.no (e1) ?_;conv=>whnf
 by_cases e2:x.kind=2
 ·refine ACmp.yes (e2) ?_;conv=>whnf
  refine ALoad.agg rfl k44 rfl rfl ?_;conv=>whnf
  refine ACalls.mono (rvoted_any ap ⟨_,q4⟩ dl td.s1 td.s2 td.v1 td.v2 x ch.s1 ch.s2 (by have:=td.es;omega) (by rw [td.o2];simp) (by rw [td.o3];simp)) ?_;rintro _ h5 ⟨rfl,k5,kk5⟩;conv=>whnf
  exact ⟨_,updL_self ⟨rfl,rfl,trivial⟩,ht1e ((if_neg e1).trans (if_pos e2)) k5,kk5⟩
 refine ACmp.no (e2) ?_;conv=>whnf
 by_cases e3:x.kind=3
 ·refine ACmp.yes (e3) ?_;conv=>whnf
  refine ALoad.one rfl q4.str rfl ?_;conv=>whnf
  by_cases s2:D.state≠2
  ·refine ACmp.yes (s2) ?_;conv=>whnf
   have hs2:¬ D.state=2:=s2
   refine ALoad.agg rfl k44 rfl rfl ?_;conv=>whnf
   refine ACalls.mono (rheard_any ap ⟨_,q4⟩ x draw (by omega)) ?_;rintro _ h5 ⟨rfl,k5,kk5⟩;conv=>whnf
   have k45:=kk5.get (Ne.symm ap.c) k44
   have g5:=g4.keeps (kk5.keeps (by simp))
   have tE:D.take1 x.abs draw=(if x.abs.kind=5 then (D.heardOf x.abs draw).install x.abs else (D.heardOf x.abs draw).append x.abs):=(if_neg e1).trans ((if_neg e2).trans ((if_pos (.inl e3)).trans (if_neg hs2)))
   refine ALoad.agg rfl k45 rfl rfl ?_;conv=>whnf
   refine ACalls.mono (rentries_any ap k5 td.lk.lo x g5 ch.ix.1 ch.ix.2 ch.el (fun e he=>by have:=ch.en e he;rw [given_len g5 e he] at this;exact this) hm ht1 ch.tm.2 (by show (D.log.es.length+8)*48≤_;have:=td.es;omega) (by show D.out.entries.length≤_;rw [td.o2];simp) (by show D.out.posts.length≤_;rw [td.o3];simp)) ?_;rintro _ h6 ⟨rfl,k6',kk6⟩;conv=>whnf
   exact ⟨_,updL_self ⟨rfl,rfl,trivial⟩,ht1e (tE.trans (if_neg (by show ¬ x.kind=5;omega))) k6',(kk5.keeps (by simp)).trans kk6⟩
  ·refine ACmp.no (s2) ?_;conv=>whnf
   exact ⟨_,updL_self ⟨rfl,rfl,trivial⟩,ht1e ((if_neg e1).trans ((if_neg e2).trans ((if_pos (.inl e3)).trans (if_pos (by simpa using s2))))) ⟨_,q4⟩,Keeps.refl _ _⟩
 refine ACmp.no (e3) ?_;conv=>whnf
 by_cases e5:x.kind=5
 ·refine ACmp.yes (e5) ?_;conv=>whnf
  refine ALoad.one rfl q4.str rfl ?_;conv=>whnf
  by_cases s2:D.state≠2
  ·refine ACmp.yes (s2) ?_;conv=>whnf
   have hs2:¬ D.state=2:=s2
   refine ALoad.agg rfl k44 rfl rfl ?_;conv=>whnf
   refine ACalls.mono (rheard_any ap ⟨_,q4⟩ x draw (by omega)) ?_;rintro _ h5 ⟨rfl,k5,kk5⟩;conv=>whnf
   have k45:=kk5.get (Ne.symm ap.c) k44
   have g5:=g4.keeps (kk5.keeps (by simp))
   have tE:D.take1 x.abs draw=(if x.abs.kind=5 then (D.heardOf x.abs draw).install x.abs else (D.heardOf x.abs draw).append x.abs):=(if_neg e1).trans ((if_neg e2).trans ((if_pos (.inr e5)).trans (if_neg hs2)))
   refine ALoad.agg rfl k45 rfl rfl ?_;conv=>whnf
   obtain ⟨sn1,sn2⟩:=ch.sn e5
   refine ACalls.mono (rsnap_any ap k5 td.lk.lo dbc x g5 sn1 (by omega) (by show D.log.es.length*48≤_;have:=td.es;omega) (by show D.out.posts.length≤_;rw [td.o3];simp)) ?_;rintro _ h6 ⟨rfl,k6',kk6⟩;conv=>whnf
   exact ⟨_,updL_self ⟨rfl,rfl,trivial⟩,ht1e (tE.trans (if_pos e5)) k6',(kk5.keeps (by simp)).trans kk6⟩
  ·refine ACmp.no (s2) ?_;conv=>whnf
   exact ⟨_,updL_self ⟨rfl,rfl,trivial⟩,ht1e ((if_neg e1).trans ((if_neg e2).trans ((if_pos (.inr e5)).trans (if_pos (by simpa using s2))))) ⟨_,q4⟩,Keeps.refl _ _⟩
 refine ACmp.no (e5) ?_;conv=>whnf
 refine ALoad.one rfl q4.str rfl ?_;conv=>whnf
 have e35:¬ (x.abs.kind=3∨x.abs.kind=5):=fun c=>c.elim e3 e5
 by_cases s2:D.state=2
 ·refine ACmp.yes (s2) ?_;conv=>whnf
  refine ALoad.agg rfl k44 rfl rfl ?_;conv=>whnf
  refine ACalls.mono (rtold_any ap ⟨_,q4⟩ dl td.nk td.mt td.s1 td.s2 x ch.s1 ch.s2 ch.ix.1 ch.ix.2 td.o1 td.rd (by rw [td.o3];simp)) ?_;rintro _ h5 ⟨rfl,k5,kk5⟩;conv=>whnf
  exact ⟨_,updL_self ⟨rfl,rfl,trivial⟩,ht1e ((if_neg e1).trans ((if_neg e2).trans ((if_neg e35).trans (if_pos s2)))) k5,kk5⟩
 ·refine ACmp.no (s2) ?_;conv=>whnf
  exact ⟨_,updL_self ⟨rfl,rfl,trivial⟩,ht1e ((if_neg e1).trans ((if_neg e2).trans ((if_neg e35).trans (if_neg s2)))) ⟨_,q4⟩,Keeps.refl _ _⟩
theorem ls_bits:∀ k:Nat,k<32→ls k=[1,2,3,4,5].filter (fun n:Int=>decide (1≤n∧n≤5)&&bt k (n-1).toNat):=by decide +kernel
theorem ls_hasB (c:Int):ls (m5 c)=[1,2,3,4,5].filter (hasB c):=ls_bits _ (m5_lt c)
def CoreM.freshIf (was now index:Int) (x:CoreM) (n:Int):CoreM:=if (hasB now n && !hasB was n)=true then x.fresh1 index n else x
theorem fresh_five (was now index:Int) (d:CoreM):((ls (m5 now)).filter fun n => !hasB was n).foldl (CoreM.fresh1 index) d=[1,2,3,4,5].foldl (CoreM.freshIf was now index) d:=by
 rw [ls_hasB,List.filter_filter,List.foldl_filter]
 congr 1
 funext x n
 unfold CoreM.freshIf
 rw [Bool.and_comm]
theorem CoreM.propose_r (c:CoreM) (kind:Int) (data:List Int):c.propose kind data=(([1,2,3,4,5].foldl (CoreM.freshIf c.crewNow.1 (c.put kind data).crewNow.1 (c.log.last.1+1)) (c.put kind data)).sendAll).rank:=by
 rw [← fresh_five,← foldl_pick (P:=hasB c.crewNow.1) (f:=CoreM.fresh1 (c.log.last.1+1))]
 rfl
theorem five_take (j:Nat) (h:j<5):([1,2,3,4,5]:List Int).take (j+1)=([1,2,3,4,5]:List Int).take j++[(j:Int)+1]:=by
 have:j=0∨j=1∨j=2∨j=3∨j=4:=by omega
 rcases this with rfl | rfl | rfl | rfl | rfl <;> rfl
set_option maxHeartbeats 4000000 in
theorem rPropose_any {h:Heap} {p o oo:Nat} {c:CoreM} (ap:Apart o oo) (k:RCore h p o oo c) (dk:DOk c) (kind:Int) {t:Tag} {d:SlV} {data:List Int} (g:Sl h t d.a d.n d.c 1 (bytesV data)) (ht:t.1≠o) (hb:∀ z∈data,0≤z∧z<256) :
  ACalls PR 41 #[Ptr p,I kind, .slice d.a d.n d.c] h (fun v h'=>(c.proposeE kind data≠0∧v = .tuple #[I 0, .agg (outCells out0 ox0).toArray,I (c.proposeE kind data)]∧Sub h h') ∨
   (c.proposeE kind data=0∧∃ u,v = .tuple #[I (c.log.last.1+1),u,I 0]∧RTold p o oo (c.propose kind data) h u h')):=by
 have ok:=dk.ok
 obtain ⟨cx,k0⟩:=k
 have hdl:data.length=d.n:=by have:=g.len;simpa [bytesV] using this
 have hl:=ok.lk.lo.last
 have htp:=ok.lk.lo.top
 have hl0:=ok.lk.lo.lo
 have hm1:=ok.m1
 have hm2:=ok.m2
 have hes:=ok.es
 have hout:=ok.out
 obtain ⟨E,hE⟩:∃ E,E=c.proposeE kind data:=⟨_,rfl⟩
 have hE':=hE
 unfold CoreM.proposeE at hE'
 rw [← hE]
 refine acalls_ofj mix Tryz.func41 rfl rfl Tryz.ntmps41 Tryz.results41 rfl ?_;conv=>whnf
 refine AAlloc.mkN (0,1) (outCells out0 ox0) rfl fun b7 h1 n1 s1 k1=>?_;conv=>whnf
 have k:=k0.sub s1
 have g1:=g.sub s1
 refine AIf.go ?_;conv=>whnf
 refine ALoad.one rfl k.str rfl ?_;conv=>whnf
 by_cases c1:c.state≠2
 ·refine ACmp.yes (c1) ?_;conv=>whnf
  have HC:=hE'.trans (if_pos c1)
  refine AStore.aggN rfl rfl rfl (k1) rfl (outCells out0 ox0) rfl fun h3 t3 k3 a3 e3=>?_;conv=>whnf
  refine ALoad.agg rfl k3 rfl rfl ?_;conv=>whnf
  exact .inl ⟨by rw [HC];decide,by rw [HC];rfl,a3 h s1 n1⟩
 refine ACmp.no (c1) ?_;conv=>whnf
 rw [if_neg c1] at hE'
 refine AIf.go ?_;conv=>whnf
 refine AIf.cut (fun e h'=>∃ e0,e=updL 133 e0 [(0,Ptr p),(1,I kind),(2, .slice d.a d.n d.c),(7,Ptr b7),(28, .bool (decide (kind≠1∧kind≠2)))]∧h1=h') ?_ ?_
 ·conv=>whnf
  by_cases e1:kind≠1
  ·refine ACmp.yes (e1) ?_;conv=>whnf
   by_cases e2:kind≠2
   ·refine ACmp.yes (e2) ?_;conv=>whnf
    exact ⟨_,updL_self ⟨rfl,rfl,rfl,rfl,congrArg Value.bool (by simp [e1,e2]),trivial⟩,rfl⟩
   ·refine ACmp.no (e2) ?_;conv=>whnf
    exact ⟨_,updL_self ⟨rfl,rfl,rfl,rfl,congrArg Value.bool (by simp at e2;simp [e2]),trivial⟩,rfl⟩
  ·refine ACmp.no (e1) ?_;conv=>whnf
   exact ⟨_,updL_self ⟨rfl,rfl,rfl,rfl,congrArg Value.bool (by simp at e1;simp [e1]),trivial⟩,rfl⟩
 rintro e _ ⟨e0,rfl,rfl⟩
 by_cases c2:kind≠1∧kind≠2
 ·rw [decide_eq_true c2]
  conv=>whnf
  have HC:=hE'.trans (if_pos c2)
  refine AStore.aggN rfl rfl rfl (k1) rfl (outCells out0 ox0) rfl fun h3 t3 k3 a3 e3=>?_;conv=>whnf
  refine ALoad.agg rfl k3 rfl rfl ?_;conv=>whnf
  exact .inl ⟨by rw [HC];decide,by rw [HC];rfl,a3 h s1 n1⟩
 rw [decide_eq_false c2]
 rw [if_neg c2] at hE'
 conv=>whnf
 refine ACalls.mono (rlast_any k ok.lk.lo) ?_;rintro _ _ ⟨rfl,rfl⟩;conv=>whnf
 refine AIf.go ?_;conv=>whnf
 refine AIf.cut (fun e h'=>∃ e0,e=updL 133 e0 [(0,Ptr p),(1,I kind),(2, .slice d.a d.n d.c),(7,Ptr b7),(9,I c.log.last.1),(41, .bool (decide (1200<data.length∨c.log.last.1=9007199254740991)))]∧h1=h') ?_ ?_
 ·conv=>whnf
  by_cases e1:1200<data.length
  ·refine ACmp.yes ((by omega)) ?_;conv=>whnf
   exact ⟨_,updL_self ⟨rfl,rfl,rfl,rfl,rfl,congrArg Value.bool (by simp [e1]),trivial⟩,rfl⟩
  ·refine ACmp.no ((by omega)) ?_;conv=>whnf
   by_cases e2:c.log.last.1=9007199254740991
   ·refine ACmp.yes ((by omega)) ?_;conv=>whnf
    exact ⟨_,updL_self ⟨rfl,rfl,rfl,rfl,rfl,congrArg Value.bool (by simp [e2]),trivial⟩,rfl⟩
   ·refine ACmp.no ((by omega)) ?_;conv=>whnf
    exact ⟨_,updL_self ⟨rfl,rfl,rfl,rfl,rfl,congrArg Value.bool (by simp [e1,e2]),trivial⟩,rfl⟩
 rintro e _ ⟨e1,rfl,rfl⟩
 by_cases c3:1200<data.length∨c.log.last.1=9007199254740991
 ·rw [decide_eq_true c3]
  conv=>whnf
  have HC:=hE'.trans (if_pos c3)
  refine AStore.aggN rfl rfl rfl (k1) rfl (outCells out0 ox0) rfl fun h3 t3 k3 a3 e3=>?_;conv=>whnf
  refine ALoad.agg rfl k3 rfl rfl ?_;conv=>whnf
  exact .inl ⟨by rw [HC];decide,by rw [HC];rfl,a3 h s1 n1⟩
 rw [decide_eq_false c3]
 rw [if_neg c3] at hE'
 have c3:¬ 1200<data.length∧¬ c.log.last.1=9007199254740991:=⟨fun z=>c3 (.inl z),fun z=>c3 (.inr z)⟩
 conv=>whnf
 refine AIf.go ?_;conv=>whnf
 refine ALoad.one rfl k.str rfl ?_;conv=>whnf
 refine AArith.ok (by omega) (by omega) (rfl) ?_;conv=>whnf
 by_cases c5:64≤c.log.last.1-c.commit
 ·refine ACmp.yes (c5) ?_;conv=>whnf
  have HC:=hE'.trans (if_pos c5)
  refine AStore.aggN rfl rfl rfl (k1) rfl (outCells out0 ox0) rfl fun h3 t3 k3 a3 e3=>?_;conv=>whnf
  refine ALoad.agg rfl k3 rfl rfl ?_;conv=>whnf
  exact .inl ⟨by rw [HC];decide,by rw [HC];rfl,a3 h s1 n1⟩
 refine ACmp.no (c5) ?_;conv=>whnf
 rw [if_neg c5] at hE'
 refine ACalls.mono (rcrew_any k dk.lk.lk.lo dk.lk.sy) ?_;rintro _ _ ⟨rfl,rfl⟩;conv=>whnf
 refine AIf.go ?_;conv=>whnf
 obtain ⟨R,hR⟩:∃ R,R=(decide (kind=2) && !c.changes data):=⟨_,rfl⟩
 refine AIf.cut (fun e h'=>∃ e0,e=updL 133 e0 [(0,Ptr p),(1,I kind),(2, .slice d.a d.n d.c),(7,Ptr b7),(9,I c.log.last.1),(11,I c.crewNow.1),(84, .bool R)]∧h1=h') ?_ ?_
 ·conv=>whnf
  by_cases e1:kind=2
  ·refine ACmp.yes (e1) ?_;conv=>whnf
   rw [decide_eq_true e1,Bool.true_and] at hR
   unfold CoreM.changes at hR
   by_cases e2:d.n=1
   ·refine ACmp.no (by omega) ?_;conv=>whnf
    obtain ⟨x,hx⟩:∃ x,data=[x]:=by
     match data,(show data.length=1 by omega) with
     | [x],_=>exact ⟨x,rfl⟩
    have hbx:=hb x (by rw [hx];simp)
    obtain ⟨b,off,l,E',fz,ea,hbk,hc⟩:=g1.pos (by omega)
    have g0:l[off+0*1]? = some (.int .u8 x):=by rw [get_of_take hc (by omega),hx];rfl
    have hn:=dk.lk.now
    rw [ea]
    refine AIdx.nat (z:=1) (j:=0) rfl (by omega) rfl rfl ?_;conv=>whnf
    refine ALoad.one rfl hbk g0 ?_;conv=>whnf
    refine AArith.as (i64_wrap (by omega) (by omega)) ?_;conv=>whnf
    refine ACalls.mono (refChange_any h1 c.crewNow.1 x (by omega) (by omega) (by omega) (by omega)) ?_;rintro _ _ ⟨rfl,rfl⟩;conv=>whnf
    have hnum:crewNum (0,0,0,data)=x:=by rw [hx];rfl
    have hco:crewOk (0,0,0,data)=decide (cchk x=0):=by rw [hx];rfl
    rw [hnum,hco] at hR
    by_cases e3:chg c.crewNow.1 x=0
    ·refine ACmp.no (by simpa using e3) ?_;conv=>whnf
     have hx0:cchk x=0:=by
      unfold chg at e3
      split at e3
      ·rename_i z;exact z.2.1
      ·exact absurd e3 (by decide)
     refine ALoad.one rfl k.str rfl ?_;conv=>whnf
     by_cases e4:c.commit<c.crewNow.2
     ·refine ACmp.yes (e4) ?_;conv=>whnf
      exact ⟨_,updL_self ⟨rfl,rfl,rfl,rfl,rfl,rfl,congrArg Value.bool (by rw [hR];simp;omega),trivial⟩,rfl⟩
     ·refine ACmp.no (e4) ?_;conv=>whnf
      refine ACalls.mono (rown_any k dk.lk.lk.lo) ?_
      rintro _ _ ⟨rfl,rfl⟩
      conv=>whnf
      exact ⟨_,updL_self ⟨rfl,rfl,rfl,rfl,rfl,rfl,congrArg Value.bool (by rw [hR];simp [hx0,e3];omega),trivial⟩,rfl⟩
    ·refine ACmp.yes (e3) ?_;conv=>whnf
     exact ⟨_,updL_self ⟨rfl,rfl,rfl,rfl,rfl,rfl,congrArg Value.bool (by rw [hR];simp [e3]),trivial⟩,rfl⟩
   ·refine ACmp.yes (by omega) ?_;conv=>whnf
    have hco:crewOk (0,0,0,data)=false:=(crew_none (e:=(0,0,0,data)) (by show data.length≠1;omega)).2
    exact ⟨_,updL_self ⟨rfl,rfl,rfl,rfl,rfl,rfl,congrArg Value.bool (by rw [hR,hco];simp),trivial⟩,rfl⟩
  ·refine ACmp.no (e1) ?_;conv=>whnf
   exact ⟨_,updL_self ⟨rfl,rfl,rfl,rfl,rfl,rfl,congrArg Value.bool (by rw [hR];simp [e1]),trivial⟩,rfl⟩
 rintro e _ ⟨e2,rfl,rfl⟩
 have hRi:R=true↔(kind=2∧c.changes data=false):=by rw [hR];simp
 cases R with
 | true =>
  conv=>whnf
  have HC:=hE'.trans (if_pos (hRi.1 rfl))
  refine AStore.aggN rfl rfl rfl (k1) rfl (outCells out0 ox0) rfl fun h3 t3 k3 a3 e3=>?_;conv=>whnf
  refine ALoad.agg rfl k3 rfl rfl ?_;conv=>whnf
  exact .inl ⟨by rw [HC];decide,by rw [HC];rfl,a3 h s1 n1⟩
 | false =>
 rw [if_neg (fun z=>by have:=hRi.2 z;cases this)] at hE'
 have hch:kind=2→c.changes data=true:=fun z=>by
  cases hc:c.changes data with
  | true=>rfl
  | false=>have:=hRi.2 ⟨z,hc⟩;cases this
 conv=>whnf
 refine ACalls.mono (rbegin_any ap.a hout ⟨_,k⟩) ?_;rintro _ h2 ⟨rfl,k2,kk2⟩;conv=>whnf
 have g2:=g1.keep kk2 ht
 refine ACalls.mono (rput_any ap k2 ok.lk.lo (by omega) (by omega) kind g2 (by omega) (by rw [hout];simp [out0])) ?_;rintro _ h3 ⟨rfl,⟨cx3,k3⟩,kk3⟩;conv=>whnf
 have KK3:Keeps [o,o+1,oo] h1 h3:=(kk2.keeps (by simp)).trans kk3
 obtain ⟨dd,hdd⟩:∃ dd,dd=c.put kind data:=⟨_,rfl⟩
 obtain ⟨p1,p2,p3,p4,p5,p6,p7,p8⟩:=put_same c kind data
 have lk3:DLk dd:=by
  rw [hdd]
  refine dk.lk.put (by omega) fun hk=>⟨?_,hb⟩
  have:=hch hk
  unfold CoreM.changes at this
  simp only [Bool.and_eq_true] at this
  exact this.1.1.1
 rw [CoreM.propose_r,← hdd]
 rw [← hdd] at k3 p1 p2 p3 p4 p5 p6 p7 p8
 have hnow:=lk3.now
 have hwas:=dk.lk.now
 refine ACalls.mono (rcrew_any k3 lk3.lk.lo lk3.sy) ?_;rintro _ _ ⟨rfl,rfl⟩;conv=>whnf
 obtain ⟨F,hF⟩:∃ F,F=CoreM.freshIf c.crewNow.1 dd.crewNow.1 (c.log.last.1+1):=⟨_,rfl⟩
 rw [← hF]
 refine ALoop.mk (fun e h'=>∃ e0,∃ j:Nat,e=updL 133 e0 [(0,Ptr p),(7,Ptr b7),(11,I c.crewNow.1),(13,I (c.log.last.1+1)),(14,I dd.crewNow.1),(16,I ((j:Int)+1))]∧j≤5∧RCore h' p o oo (([1,2,3,4,5].take j).foldl F dd)∧Keeps [o,o+1,oo] h1 h') (fun e=>6-natOf (e 16))
  ⟨_,0,updL_self ⟨rfl,rfl,rfl,rfl,rfl,rfl,trivial⟩,by omega,⟨_,k3⟩,KK3⟩ ?_
 rintro e h4 ⟨e0,j,rfl,hj,⟨cx4,k4⟩,kk4⟩
 conv=>whnf
 refine AIf.go ?_;conv=>whnf
 by_cases hj5:j<5
 ·refine ACmp.yes (by omega) ?_;conv=>whnf
  obtain ⟨e4,he4⟩:∃ e4,e4=([1,2,3,4,5].take j).foldl F dd:=⟨_,rfl⟩
  have hst:([1,2,3,4,5].take (j+1)).foldl F dd=F e4 ((j:Int)+1):=by rw [five_take j hj5,List.foldl_append,← he4];rfl
  rw [← he4] at k4
  refine AIf.cut (fun e h'=>∃ e0,e=updL 133 e0 [(0,Ptr p),(7,Ptr b7),(11,I c.crewNow.1),(13,I (c.log.last.1+1)),(14,I dd.crewNow.1),(16,I ((j:Int)+1))]∧RCore h' p o oo (F e4 ((j:Int)+1))∧Keeps [o,o+1,oo] h4 h') ?_ ?_
  rotate_left
  ·rintro e h5 ⟨e5,rfl,k5,kk5⟩
   conv=>whnf
   refine AArith.ok (by omega) (by omega) ((by omega:(j:Int)+1+1=((j+1:Nat):Int)+1)) ?_;conv=>whnf
   refine ⟨⟨_,j+1,updL_self ⟨rfl,rfl,rfl,rfl,rfl,rfl,trivial⟩,by omega,by rw [hst];exact k5,kk4.trans kk5⟩,?_⟩
   show 6-(((j+1:Nat):Int)+1).toNat<6-((j:Int)+1).toNat
   omega
  ·conv=>whnf
   have hFe:F e4 ((j:Int)+1)=if (hasB dd.crewNow.1 ((j:Int)+1) && !hasB c.crewNow.1 ((j:Int)+1))=true then e4.fresh1 (c.log.last.1+1) ((j:Int)+1) else e4:=by rw [hF];rfl
   rw [hFe]
   refine AIf.cut (fun e h'=>∃ e0,e=updL 133 e0 [(0,Ptr p),(7,Ptr b7),(11,I c.crewNow.1),(13,I (c.log.last.1+1)),(14,I dd.crewNow.1),(16,I ((j:Int)+1)),(109, .bool (hasB dd.crewNow.1 ((j:Int)+1) && !hasB c.crewNow.1 ((j:Int)+1)))]∧h4=h') ?_ ?_
   ·conv=>whnf
    refine ACalls.mono (refHas_any h4 dd.crewNow.1 ((j:Int)+1) (by omega) (by omega)) ?_
    cases hasB dd.crewNow.1 ((j:Int)+1) with
    | true =>
     rintro _ _ ⟨rfl,rfl⟩
     conv=>whnf
     refine ACalls.mono (refHas_any h4 c.crewNow.1 ((j:Int)+1) (by omega) (by omega)) ?_;rintro _ _ ⟨rfl,rfl⟩;conv=>whnf
     exact ⟨_,updL_self ⟨rfl,rfl,rfl,rfl,rfl,rfl,rfl,trivial⟩,rfl⟩
    | false =>
     rintro _ _ ⟨rfl,rfl⟩
     conv=>whnf
     exact ⟨_,updL_self ⟨rfl,rfl,rfl,rfl,rfl,rfl,rfl,trivial⟩,rfl⟩
   rintro e _ ⟨e5,rfl,rfl⟩
   cases (hasB dd.crewNow.1 ((j:Int)+1) && !hasB c.crewNow.1 ((j:Int)+1)) with
   | false =>
    conv=>whnf
    exact ⟨_,updL_self ⟨rfl,rfl,rfl,rfl,rfl,rfl,trivial⟩,⟨_,k4⟩,Keeps.refl _ _⟩
   | true =>
    conv=>whnf
    obtain ⟨m,hm⟩:∃ m:Nat,m=j+1:=⟨_,rfl⟩
    rw [show (j:Int)+1=((m:Nat):Int) by omega]
    have hm1:1≤(m:Int):=by omega
    have hm2:(m:Int)≤5:=by omega
    refine AIdxA.nat (n:=6) (z:=1) (j:=m) (by omega) (by omega) rfl rfl ?_;conv=>whnf
    refine AStore.oneN rfl rfl rfl k4.str (by have:=next_cell e4 cx4 hm1 hm2;rw [show 0+14+1+m*1=15+(m:Int).toNat by omega];exact Nat.ble_eq_true_of_le (List.getElem?_eq_some_iff.1 this).1) (coreCells {e4 with next:=e4.next.set m (c.log.last.1+1)} cx4) (by rw [show 0+14+1+m*1=15+(m:Int).toNat by omega];exact next_set e4 cx4 hm1 hm2 _) fun h5 t5 k5 a5 x5=>?_;conv=>whnf
    refine AIdxA.nat (n:=6) (z:=1) (j:=m) (by omega) (by omega) rfl rfl ?_;conv=>whnf
    refine AStore.oneN rfl rfl rfl k5 (by have:=mtch_cell {e4 with next:=e4.next.set m (c.log.last.1+1)} cx4 hm1 hm2;rw [show 0+14+7+m*1=21+(m:Int).toNat by omega];exact Nat.ble_eq_true_of_le (List.getElem?_eq_some_iff.1 this).1) (coreCells {e4 with next:=e4.next.set m (c.log.last.1+1),mtch:=e4.mtch.set m 0} cx4) (by rw [show 0+14+7+m*1=21+(m:Int).toNat by omega];exact mtch_set {e4 with next:=e4.next.set m (c.log.last.1+1)} cx4 hm1 hm2 _) fun h6 t6 k6 a6 x6=>?_;conv=>whnf
    refine AIdxA.nat (n:=6) (z:=1) (j:=m) (by omega) (by omega) rfl rfl ?_;conv=>whnf
    refine AStore.oneN rfl rfl rfl k6 (by have:=heard_cell {e4 with next:=e4.next.set m (c.log.last.1+1),mtch:=e4.mtch.set m 0} cx4 hm1 hm2;rw [show 0+14+13+m*1=27+(m:Int).toNat by omega];exact Nat.ble_eq_true_of_le (List.getElem?_eq_some_iff.1 this).1) (coreCells (e4.fresh1 (c.log.last.1+1) m) cx4) (by rw [show 0+14+13+m*1=27+(m:Int).toNat by omega];exact heard_set {e4 with next:=e4.next.set m (c.log.last.1+1),mtch:=e4.mtch.set m 0} cx4 hm1 hm2 _) fun h7 t7 k7 a7 x7=>?_;conv=>whnf
    have tt:=t5.trans (t6.trans t7)
    have q7:=k4.set' (c':=e4.fresh1 (c.log.last.1+1) m) ap.a tt k7
    exact ⟨_,updL_self ⟨rfl,rfl,rfl,rfl,rfl,rfl,trivial⟩,⟨_,q7⟩,tt.keep.keeps (by simp)⟩
 ·refine ACmp.no (by omega) ?_;conv=>whnf
  rw [List.take_of_length_le (by show 5≤j;omega)] at k4
  obtain ⟨fa,fb,fd,fe,fh⟩:=freshes (c.log.last.1+1) ((ls (m5 dd.crewNow.1)).filter fun n => !hasB c.crewNow.1 n) dd fun n hn=>ls_in _ n (List.mem_filter.1 hn).1
  rw [fresh_five,← hF] at fe
  obtain ⟨e4,he4⟩:∃ e4,e4=[1,2,3,4,5].foldl F dd:=⟨_,rfl⟩
  rw [← he4] at k4 fe ⊢
  have lk4:DLk e4:=by rw [fe];exact lk3.same rfl rfl rfl
  have nk4:NextOk e4:=fun n h1 h2=>by
   rw [fe];show 0≤fa.get n∧fa.get n≤_
   have:=ok.nk n h1 h2
   rcases (fh n h1 h2).1 with z | z <;> rw [z]
   ·rw [p1];exact this
   ·omega
  have o4:e4.out.posts.length≤999999990:=by rw [fe];show dd.out.posts.length≤_;rw [p4,hout];simp [out0]
  have sf4:e4.self=c.self:=by rw [fe];exact p3
  refine ACalls.mono (rsendAll_any ap ⟨_,k4⟩ lk4 nk4 o4) ?_;rintro _ h8 ⟨rfl,k8,kk8⟩;conv=>whnf
  obtain ⟨y1,_⟩:=sends_more e4.others e4
  refine ACalls.mono (rrank_any ap k8 lk4.sendAll (by unfold CoreM.sendAll;rw [y1,sf4];exact ok.s1) (by unfold CoreM.sendAll;rw [y1,sf4];exact ok.s2)) ?_;rintro _ h9 ⟨rfl,k9,kk9⟩;conv=>whnf
  have KK:Keeps [o,o+1,oo] h1 h9:=kk4.trans ((kk8.mono (by simp)).trans (kk9.keeps (by simp)))
  have kb:h9 b7=some (row (0,1) (outCells out0 ox0) 96):=KK _ _ _ (by have:=ap.c;have:=ap.d;simp;omega) k1
  refine ACalls.mono (rend_any ap.a ap.c ap.d k9) ?_;rintro _ h11 ⟨ox,rfl,o11,q11,kk11⟩;conv=>whnf
  refine AStore.aggN rfl rfl rfl ((kk11.get (Ne.symm ap.c) kb)) rfl (outCells _ ox) rfl fun h12 t12 k12 a12 e12=>?_;conv=>whnf
  refine ALoad.agg rfl k12 rfl rfl ?_;conv=>whnf
  exact .inr ⟨hE',_,rfl,rtold_end ap n1 ((s1.keeps _).trans KK) kk11 o11 q11 t12 e12⟩
set_option maxHeartbeats 4000000 in
theorem rRead_any {h:Heap} {p o oo:Nat} {c:CoreM} (ap:Apart o oo) (k:RCore h p o oo c) (dk:DOk c) :
  ACalls PR 42 #[Ptr p] h (fun v h'=>(c.readE≠0∧v = .tuple #[I 0, .agg (outCells out0 ox0).toArray,I c.readE]∧Sub h h')∨(c.readE=0∧∃ u,v = .tuple #[I (c.round+1),u,I 0]∧RTold p o oo c.read h u h')):=by
 have ok:=dk.ok
 obtain ⟨cx,k0⟩:=k
 have hr1:=ok.r1
 have hr2:=ok.r2
 have hrd:=ok.rd
 have hout:=ok.out
 refine acalls_ofj mix Tryz.func42 rfl rfl Tryz.ntmps42 Tryz.results42 rfl ?_;conv=>whnf
 refine AAlloc.mkN (0,1) (outCells out0 ox0) rfl fun b3 h1 n1 s1 k1=>?_;conv=>whnf
 have k:=k0.sub s1
 refine AIf.go ?_;conv=>whnf
 refine ALoad.one rfl k.str rfl ?_;conv=>whnf
 by_cases c1:c.state=2
 rotate_left
 ·refine ACmp.yes (c1) ?_;conv=>whnf
  refine AStore.aggN rfl rfl rfl (k1) rfl (outCells out0 ox0) rfl fun h3 t3 k3 a3 e3=>?_;conv=>whnf
  refine ALoad.agg rfl k3 rfl rfl ?_;conv=>whnf
  have he:c.readE=200:=by unfold CoreM.readE;rw [if_pos c1]
  exact .inl ⟨by rw [he];decide,by rw [he];rfl,a3 h s1 n1⟩
 refine ACmp.no ((by simpa using c1)) ?_;conv=>whnf
 refine AIf.go ?_;conv=>whnf
 refine ACalls.mono (rown_any k ok.lk.lo) ?_
 cases hs:c.settled with
 | false =>
  rintro _ _ ⟨rfl,rfl⟩
  conv=>whnf
  refine AStore.aggN rfl rfl rfl (k1) rfl (outCells out0 ox0) rfl fun h3 t3 k3 a3 e3=>?_;conv=>whnf
  refine ALoad.agg rfl k3 rfl rfl ?_;conv=>whnf
  have he:c.readE=202:=by unfold CoreM.readE;rw [if_neg (by simpa using c1),if_pos hs]
  exact .inl ⟨by rw [he];decide,by rw [he];rfl,a3 h s1 n1⟩
 | true =>
  rintro _ _ ⟨rfl,rfl⟩
  conv=>whnf
  have he:c.readE=0:=by unfold CoreM.readE;rw [if_neg (by simpa using c1),if_neg (by rw [hs];simp)]
  refine ACalls.mono (rbegin_any ap.a hout ⟨_,k⟩) ?_;rintro _ h2 ⟨rfl,⟨cx2,k2⟩,kk2⟩;conv=>whnf
  refine ALoad.one rfl k2.str rfl ?_;conv=>whnf
  refine AArith.ok (by omega) (by omega) (rfl) ?_;conv=>whnf
  refine AStore.oneN rfl rfl rfl (k2.str) rfl (coreCells {c with round:=c.round+1} cx2) rfl fun h3 t3 k3' a3 e3=>?_;conv=>whnf
  have k3:RX h3 p o oo {c with round:=c.round+1} cx2:=k2.set' ap.a t3 k3'
  refine ALoad.one rfl k3.str rfl ?_;conv=>whnf
  have hrl:cx2.rd.n=c.reads.length:=by have:=k3.rd.sl.len;simpa using this.symm
  refine ALoad.one rfl k3.str rfl ?_;conv=>whnf
  refine ABuildSl.mkN (0,1) [I (c.round+1)] rfl rfl rfl rfl rfl rfl rfl fun b6 h5 n5 s5 k6=>?_;conv=>whnf
  refine AAppend.own (t:=(o,4)) (E:=3) (z:=1) (by_:=8) (zero:=[I 0]) (tx:=(0,1)) (xs:=[I (c.round+1)]) rfl ⟨_,rfl⟩ rfl rfl rfl rfl (by omega) (k3.rd.move fun _ _ e=>s5 _ _ e)
   ⟨rfl,Nat.le_refl _, .inr ⟨b6,0,_,_,_,rfl,k6,rfl⟩⟩ rfl (by omega) (by omega) fun a7 c7 h7 ow7 t7 _=>?_
  conv=>whnf
  have p7:=t7.get (u:=(o,0)) (by simp) (s5 _ _ k3.str)
  refine AStore.oneN rfl rfl rfl (p7) rfl (coreCells c.asks {cx2 with rd:=⟨a7,cx2.rd.n+1,c7⟩}) rfl fun h8 t8 k8 a8 e8=>?_;conv=>whnf
  have q8:RX h8 p o oo c.asks {cx2 with rd:=⟨a7,cx2.rd.n+1,c7⟩}:=by
   refine ⟨k8,((k3.sd.move fun _ _ e=>s5 _ _ e).keepT t7 (by simp)).keepT t8 (by simp),KeepT.log (KeepT.log (Moves.move k3.log fun _ _ _ _ e=>s5 _ _ e) t7) t8,?_,?_⟩
   ·have:=ow7.keepT t8 (by simp)
    show Own h8 (o,4) 3 a7 (cx2.rd.n+1) c7 1 ((c.reads++[c.round+1]).map I)
    rw [List.map_append];exact this
   ·exact ((k3.out.move fun b t y _ e=>s5 _ _ e).keepT ap.a t7).keepT ap.a t8
  have KK8:Keeps [o,o+1,oo] h1 h8:=(kk2.trans (t3.keep.trans ((s5.keep o).trans (t7.keep.trans t8.keep)))).keeps (by simp)
  have lk8:DLk c.asks:=dk.lk.same rfl rfl rfl
  refine ACalls.mono (rsendAll_any ap ⟨_,q8⟩ lk8 ok.nk (by show c.out.posts.length≤_;rw [hout];simp [out0])) ?_;rintro _ h9 ⟨rfl,k9,kk9⟩;conv=>whnf
  obtain ⟨y1,y2,y3,y4,y5,y6,y7,y8⟩:=sends_more c.asks.others c.asks
  have hsr:∀ (l:List Int) (d:CoreM),(l.foldl CoreM.send d).out.reads=d.out.reads:=by
   intro l
   induction l with
   | nil=>intro d;rfl
   | cons n l ih=>intro d;rw [List.foldl_cons,ih];unfold CoreM.send;split <;> rfl
  refine ACalls.mono (rconfirm_any ap k9 lk8.sendAll (by unfold CoreM.sendAll;rw [y1];exact ok.s1) (by unfold CoreM.sendAll;rw [y1];exact ok.s2) (by unfold CoreM.sendAll;rw [hsr,y7];show c.out.reads.length+(c.reads++[c.round+1]).length≤_;rw [hout,List.length_append];simp [out0];omega)) ?_;rintro _ h10 ⟨rfl,k10,kk10⟩;conv=>whnf
  have KK:Keeps [o,o+1,oo] h1 h10:=KK8.trans ((kk9.mono (by simp)).trans (kk10.mono (by simp)))
  have kb:h10 b3=some (row (0,1) (outCells out0 ox0) 96):=KK _ _ _ (by have:=ap.c;have:=ap.d;simp;omega) k1
  refine ACalls.mono (rend_any ap.a ap.c ap.d k10) ?_;rintro _ h11 ⟨ox,rfl,o11,q11,kk11⟩;conv=>whnf
  refine AStore.aggN rfl rfl rfl ((kk11.get (Ne.symm ap.c) kb)) rfl (outCells _ ox) rfl fun h12 t12 k12 a12 e12=>?_;conv=>whnf
  refine ALoad.agg rfl k12 rfl rfl ?_;conv=>whnf
  exact .inr ⟨he,_,rfl,rtold_end ap n1 ((s1.keeps _).trans KK) kk11 o11 q11 t12 e12⟩
set_option maxHeartbeats 4000000 in
theorem rCompact_any {h:Heap} {p o oo:Nat} {c:CoreM} (ap:Apart o oo) (k:RIdle h p o c) (dk:DOk c) (hbi:c.log.bi≤c.snap.index) (hsi:c.snap.index≤9007199254740991) (i:Int) {t:Tag} {d:SlV} {data:List Int} (g:Sl h t d.a d.n d.c 1 (bytesV data)) (ht:t.1≠o) (ht1:t.1≠o+1) (hdn:d.n≤140737488355328) :
  ACalls PR 43 #[Ptr p,I i, .slice d.a d.n d.c] h (fun v h'=>(c.compactE i data≠0∧v = .tuple #[.agg #[I 0,I 0,I 0, .slice none 0 0],I (c.compactE i data)]∧Sub h h') ∨
   (c.compactE i data=0∧∃ a n cc,v = .tuple #[.agg #[I i,I (c.compact i data).snap.term,I (c.compact i data).snap.crew, .slice a n cc],I 0]∧Own h' (oo,6) 5 a n cc 1 (bytesV data)∧RIdle h' p o (c.compact i data)∧Keeps [o,o+1,oo] h h')):=by
 have ok:=dk.ok
 obtain ⟨cx,i1,i2,i3,i4,i5,i6⟩:=k
 have k0:RX h p o oo c cx:=⟨i1,i2,i3,i4,by rw [i5];exact i6 h oo⟩
 have hdl:data.length=d.n:=by have:=g.len;simpa [bytesV] using this
 have hl:=ok.lk.lo.last
 have ht2:=ok.lk.lo.top
 have hl0:=ok.lk.lo.lo
 have hes:=ok.es
 have hout:=ok.out
 obtain ⟨E,hE⟩:∃ E,E=c.compactE i data:=⟨_,rfl⟩
 have hE':=hE
 unfold CoreM.compactE at hE'
 rw [← hE]
 refine acalls_ofj mix Tryz.func43 rfl rfl Tryz.ntmps43 Tryz.results43 rfl ?_;conv=>whnf
 refine AAlloc.mkN (0,1) ([I 0,I 0,I 0, .slice none 0 0]) rfl fun b6 h1 n1 s1 k1=>?_;conv=>whnf
 have k:=k0.sub s1
 have g1:=g.sub s1
 refine ACalls.mono (rlast_any k ok.lk.lo) ?_;rintro _ _ ⟨rfl,rfl⟩;conv=>whnf
 refine AIf.go ?_;conv=>whnf
 refine AIf.cut (fun e h'=>∃ e0,e=updL 77 e0 [(0,Ptr p),(1,I i),(2, .slice d.a d.n d.c),(6,Ptr b6),(36, .bool (decide (¬(c.snap.index+1≤i∧i≤minI c.commit c.log.last.1))))]∧h1=h') ?_ ?_
 ·conv=>whnf
  refine ALoad.one rfl k.str rfl ?_;conv=>whnf
  by_cases e1:i≤c.snap.index
  ·refine ACmp.yes (e1) ?_;conv=>whnf
   exact ⟨_,updL_self ⟨rfl,rfl,rfl,rfl,congrArg Value.bool (by rw [decide_eq_true (by omega)]),trivial⟩,rfl⟩
  ·refine ACmp.no (e1) ?_;conv=>whnf
   refine ALoad.one rfl k.str rfl ?_;conv=>whnf
   refine AInt.as (show _=minI c.commit c.log.last.1 from rfl) ?_;conv=>whnf
   by_cases e2:minI c.commit c.log.last.1<i
   ·refine ACmp.yes (e2) ?_;conv=>whnf
    exact ⟨_,updL_self ⟨rfl,rfl,rfl,rfl,congrArg Value.bool (by rw [decide_eq_true (by omega)]),trivial⟩,rfl⟩
   ·refine ACmp.no (e2) ?_;conv=>whnf
    exact ⟨_,updL_self ⟨rfl,rfl,rfl,rfl,congrArg Value.bool (by rw [decide_eq_false (by omega)]),trivial⟩,rfl⟩
 rintro e _ ⟨e0,rfl,rfl⟩
 by_cases c1:c.snap.index+1≤i∧i≤minI c.commit c.log.last.1
 rotate_left
 ·rw [decide_eq_true c1]
  conv=>whnf
  have HC:=hE'.trans (if_pos c1)
  refine AStore.aggN rfl rfl rfl (k1) rfl ([I 0,I 0,I 0, .slice none 0 0]) rfl fun h3 t3 k3 a3 e3=>?_;conv=>whnf
  refine ALoad.agg rfl k3 rfl rfl ?_;conv=>whnf
  exact .inl ⟨by rw [HC];decide,by rw [HC],a3 h s1 n1⟩
 rw [decide_eq_false (by simpa using c1)]
 conv=>whnf
 rw [if_neg (by simpa using c1)] at hE'
 refine AIf.go ?_;conv=>whnf
 by_cases c2:8192<data.length
 ·refine ACmp.yes ((by omega)) ?_;conv=>whnf
  have HC:=hE'.trans (if_pos c2)
  refine AStore.aggN rfl rfl rfl (k1) rfl ([I 0,I 0,I 0, .slice none 0 0]) rfl fun h3 t3 k3 a3 e3=>?_;conv=>whnf
  refine ALoad.agg rfl k3 rfl rfl ?_;conv=>whnf
  exact .inl ⟨by rw [HC];decide,by rw [HC],a3 h s1 n1⟩
 refine ACmp.no ((by omega)) ?_;conv=>whnf
 rw [if_neg c2] at hE'
 have hi2:i≤c.log.bi+c.log.es.length:=by
  have:=c1.2;unfold minI at this;split at this <;> omega
 have hco:(c.log.compact i).1=0:=LG.compact_ok ok.lk.lo (by omega) hi2
 rw [hco] at hE'
 refine ALoad.one rfl k.str rfl ?_;conv=>whnf
 refine ACalls.mono (rTerm_c k.log ok.lk.lo i) ?_;rintro _ _ ⟨rfl,rfl⟩;conv=>whnf
 refine ACalls.mono (rcrewUpTo_any k ok.lk.lo dk.sy i hi2) ?_;rintro _ _ ⟨rfl,rfl⟩;conv=>whnf
 refine ACalls.mono (copyB_any h1 (o,3) g1 hdn) ?_
 rintro v h2 ⟨a2,c2,rfl,ow2,s2⟩
 conv=>whnf
 refine AAlloc.mkN (0,1) ([I 0,I 0,I 0, .slice none 0 0]) rfl fun b14 h3 n3 s3 k3=>?_;conv=>whnf
 refine AStore.aggN rfl rfl rfl (k3) rfl ([I i,I (c.log.term i).1,I (c.crewUpTo i).1, .slice a2 d.n c2]) rfl fun h4 t4 k4 a4 e4=>?_;conv=>whnf
 have hb14:h1 b14=none:=by
  cases e:h1 b14 with
  | none=>rfl
  | some y=>rw [s2 _ _ e] at n3;cases n3
 have s4:Sub h1 h4:=a4 h1 (s2.trans s3) hb14
 have q4:=k.sub s4
 have g4:=g1.sub s4
 have ow4:=(ow2.sub s3).keepT t4 (fun c=>ap.c (congrArg Prod.fst c))
 refine ALoad.one rfl q4.str rfl ?_;conv=>whnf
 refine ACalls.mono (rCompact_c (by omega) q4.log ok.lk.lo i (by omega)) ?_;rintro _ h5 ⟨rfl,l5,kk5⟩;conv=>whnf
 rw [show (c.log.compact i).1=0 from hco]
 have k145:=kk5.get (by simp) k4
 have g5:=g4.keep kk5 ht1
 refine ALoad.agg rfl k145 rfl rfl ?_;conv=>whnf
 have p5:=kk5.get (by simp) q4.str
 refine AStore.aggN rfl rfl rfl (p5) rfl (coreCells (c.compact i data) {cx with sd:=⟨a2,d.n,c2⟩}) rfl fun h6 t6 k6 a6 e6=>?_;conv=>whnf
 have q6:RX h6 p o oo (c.compact i data) {cx with sd:=⟨a2,d.n,c2⟩}:=by
  refine ⟨k6,(Own.move ow4 fun _ _ e=>kk5.get (by simp) e).keepT t6 (by simp),KeepT.log l5 t6,(q4.rd.move fun _ _ e=>kk5.get (by simp) e).keepT t6 (by simp),?_⟩
  exact (q4.out.move fun b t y ht e=>kk5 _ _ _ (by rw [ht];exact ap.b.symm) e).keepT ap.a t6
 have g6:=g5.keep t6.keep ht
 have n6:∀ b y,h6 b=some ((oo,6),y)→h6 b=some ((oo,6),y):=fun _ _ e=>e
 refine ACalls.mono (copyB_any h6 (oo,6) g6 hdn) ?_
 rintro v h7 ⟨a7,c7,rfl,ow7,s7⟩
 conv=>whnf
 have k147:=s7 _ _ (t6.get (u:=(0,1)) (fun c=>ap.c (congrArg Prod.fst c).symm) k145)
 refine AStore.oneN rfl rfl rfl (k147) rfl ([I i,I (c.log.term i).1,I (c.crewUpTo i).1, .slice a7 d.n c7]) rfl fun h8 t8 k8 a8 e8=>?_;conv=>whnf
 refine ALoad.agg rfl k8 rfl rfl ?_;conv=>whnf
 have KK7:Keeps [o,o+1,oo] h1 h7:=(s4.keeps _).trans ((kk5.keeps (by simp)).trans ((t6.keep.keeps (by simp)).trans (s7.keeps _)))
 have b614:b6≠b14:=fun c=>by rw [c] at k1;rw [k1] at hb14;cases hb14
 have k68:=e8 _ _ b614 (KK7 _ _ _ (by have:=ap.c;have:=ap.d;simp;omega) k1)
 refine AStore.aggN rfl rfl rfl (k68) rfl ([I i,I (c.log.term i).1,I (c.crewUpTo i).1, .slice a7 d.n c7]) rfl fun h9 t9 k9 a9 e9=>?_;conv=>whnf
 refine ALoad.agg rfl k9 rfl rfl ?_;conv=>whnf
 have tt:=t8.trans t9
 refine .inr ⟨hE',a7,d.n,c7,rfl,ow7.keepT tt (fun c=>ap.d (congrArg Prod.fst c)),?_,fun b t y hb e=>?_⟩
 ·have q9:=q6.sub s7
  exact ⟨{cx with sd:=⟨a2,d.n,c2⟩},tt.get (u:=(o,0)) (Ne.symm (tag_ne ap.c)) q9.str,q9.sd.keepT tt (Ne.symm (tag_ne ap.c)),Moves.move q9.log fun _ t _ ht e=>tt _ _ _ (fun c=>by rw [c] at ht;simp at ht) e,q9.rd.keepT tt (Ne.symm (tag_ne ap.c)),hout,i6⟩
 ·have e1:=s1 _ _ e
  have e7:=KK7 _ _ _ hb e1
  refine e9 _ _ (fun c=>?_) (e8 _ _ (fun c=>?_) e7)
  ·rw [c,n1] at e;cases e
  ·rw [c,hb14] at e1;cases e1
end Go.Ah
