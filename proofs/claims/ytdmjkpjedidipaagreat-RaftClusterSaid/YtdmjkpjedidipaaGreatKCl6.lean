/- Texts that the law leans on, one behind the other. -/
import Derived.Test.YtdmjkpjedidipaaGreatKCl5
namespace Go.Ah
open Go.Proofs
set_option linter.unusedVariables false
set_option linter.unusedSimpArgs false
set_option maxRecDepth 20000
theorem listSome_any (h:Heap) (c:Int) (N:Nat):ACalls PR 55 #[I c] h (fun v h'=>∃ a cp f,v = .slice a (ls (m5 c)).length cp∧Sl h' (f,0) a (ls (m5 c)).length cp 1 ((ls (m5 c)).map I)∧N<f∧Sub h h'):=by
 refine ACalls.owner ⟨_,Tryz.func55,rfl,rfl⟩ fun o0 ho0 bnd=>?_
 refine (List_own h c (o0+N+1) (bnd.no (by omega))).mono ?_
 rintro v h' ⟨a,cp,e,ow,s⟩
 exact ⟨a,cp,_,e,ow.sl,by omega,s⟩
def CoreM.fresh1 (index:Int) (x:CoreM) (n:Int):CoreM:={x with next:=x.next.set n index,mtch:=x.mtch.set n 0,heard:=x.heard.set n 0}
theorem freshes (index:Int):∀ (l:List Int) (c:CoreM),(∀ n∈l,1≤n∧n≤5)→∃ a b d,l.foldl (CoreM.fresh1 index) c={c with next:=a,mtch:=b,heard:=d}∧∀ n:Int,1≤n→n≤5→(a.get n=c.next.get n∨a.get n=index)∧(b.get n=c.mtch.get n∨b.get n=0)
 | [],c,_=>⟨c.next,c.mtch,c.heard,rfl,fun n _ _=>⟨.inl rfl, .inl rfl⟩⟩
 | m::l,c,hl=>by
  obtain ⟨a,b,d,e,h⟩:=freshes index l (c.fresh1 index m) fun n hn=>hl n (by simp [hn])
  refine ⟨a,b,d,by rw [List.foldl_cons,e];rfl,fun n h1 h2=>?_⟩
  obtain ⟨x,y⟩:=h n h1 h2
  have ex:(c.fresh1 index m).next.get n=if n=m then index else c.next.get n:=Five.get_set _ _ _ _ h1 h2
  have ey:(c.fresh1 index m).mtch.get n=if n=m then 0 else c.mtch.get n:=Five.get_set _ _ _ _ h1 h2
  rw [ex] at x;rw [ey] at y
  by_cases hm:n=m
  ·rw [if_pos hm] at x y
   exact ⟨.inr (by rcases x with x | x <;> exact x), .inr (by rcases y with y | y <;> exact y)⟩
  ·rw [if_neg hm] at x y
   exact ⟨x,y⟩
theorem ls_in (k:Int):∀ n∈ls (m5 k),1≤n∧n≤5:=fun n hn=>by
 have:=List.all_eq_true.1 (ls_ok (m5 k) (m5_lt _)) n hn
 simpa [ok1] using this
theorem foldl_pick {P:Int→Bool} {f:CoreM→Int→CoreM}:∀ (l:List Int) (c:CoreM),l.foldl (fun x n=>if P n=true then x else f x n) c=(l.filter fun n => !P n).foldl f c
 | [],c=>rfl
 | n::l,c=>by
  rw [List.foldl_cons,foldl_pick l]
  cases h:P n <;> simp [h]
theorem ls_new (now was:Int):ls (m5 (IntKind.i64.wrap ((BitVec.ofInt 64 now &&& ~~~(BitVec.ofInt 64 was)).toNat:Int)))=(ls (m5 now)).filter fun n => !hasB was n:=by
 rw [m5_andNot,ls_andNot _ (m5_lt _) _ (m5_lt _)]
 refine List.filter_congr fun n hn=>?_
 have:=ls_in now n hn
 unfold hasB
 rw [decide_eq_true (by omega),Bool.true_and]
theorem CoreM.propose_eq (c:CoreM) (kind:Int) (data:List Int):c.propose kind data=(((ls (m5 (IntKind.i64.wrap ((BitVec.ofInt 64 (c.put kind data).crewNow.1 &&& ~~~(BitVec.ofInt 64 c.crewNow.1)).toNat:Int)))).foldl (CoreM.fresh1 (c.log.last.1+1)) (c.put kind data)).sendAll).rank:=by
 rw [ls_new,← foldl_pick (P:=hasB c.crewNow.1) (f:=CoreM.fresh1 (c.log.last.1+1))]
 rfl
set_option maxHeartbeats 8000000 in
theorem Propose_any {h:Heap} {p o oo:Nat} {c:CoreM} (ap:Apart o oo) (k:PCore h p o oo c) (ok:COk c) (kind:Int) {t:Tag} {d:SlV} {data:List Int} (g:Sl h t d.a d.n d.c 1 (bytesV data)) (hb:∀ z∈data,0≤z∧z<256) :
  ACalls PR 21 #[Ptr p,I kind, .slice d.a d.n d.c] h (fun v h'=>(c.proposeE kind data≠0∧v = .tuple #[I 0, .agg (outCells out0 ox0).toArray,I (c.proposeE kind data)]∧Sub h h') ∨
   (c.proposeE kind data=0∧∃ u,v = .tuple #[I (c.log.last.1+1),u,I 0]∧Told p o oo (c.propose kind data) h u h')):=by
 obtain ⟨cx,k0⟩:=k
 have hdl:data.length=d.n:=by have:=g.len;simpa [bytesV] using this
 have hl:=ok.lk.lo.last
 have ht:=ok.lk.lo.top
 have hl0:=ok.lk.lo.lo
 have hm1:=ok.m1
 have hm2:=ok.m2
 have hes:=ok.es
 have hout:=ok.out
 obtain ⟨E,hE⟩:∃ E,E=c.proposeE kind data:=⟨_,rfl⟩
 have hE':=hE
 unfold CoreM.proposeE at hE'
 rw [← hE]
 refine acalls_of mix Tryz.func21 rfl rfl Tryz.ntmps21 Tryz.results21 rfl ?_;conv=>whnf
 refine AAlloc.mkN (0,1) (outCells out0 ox0) rfl fun b7 h1 n1 s1 k1=>?_;conv=>whnf
 have k:=k0.sub s1
 refine ACalls.mono (none_core k) ?_;rintro _ _ ⟨rfl,rfl⟩;conv=>whnf
 refine ALoad.one rfl k.str rfl ?_;conv=>whnf
 refine ACalls.mono (Last_c k.log ok.lk.lo) ?_;rintro _ _ ⟨rfl,rfl⟩;conv=>whnf
 refine ALoad.one rfl k.str rfl ?_;conv=>whnf
 by_cases c1:c.state≠2
 ·refine ACmp.yes (c1) ?_;conv=>whnf
  have HC:=hE'.trans (if_pos c1)
  refine AStore.aggN rfl rfl rfl (k1) rfl (outCells out0 ox0) rfl fun h3 t3 k3 a3 e3=>?_;conv=>whnf
  refine ALoad.agg rfl k3 rfl rfl ?_;conv=>whnf
  exact .inl ⟨by rw [HC];decide,by rw [HC];rfl,a3 h s1 n1⟩
 refine ACmp.no (c1) ?_;conv=>whnf
 rw [if_neg c1] at hE'
 by_cases ck1:kind=1
 ·refine ACmp.no ((by simpa using ck1)) ?_;conv=>whnf
  have c2:¬(kind≠1∧kind≠2):=fun c=>c.1 ck1
  rw [if_neg c2] at hE'
  by_cases c3:1200<data.length
  ·refine ACmp.yes ((by omega)) ?_;conv=>whnf
   have HF:1200<data.length∨c.log.last.1=9007199254740991 := .inl c3
   have HC:=hE'.trans (if_pos HF)
   refine AStore.aggN rfl rfl rfl (k1) rfl (outCells out0 ox0) rfl fun h3 t3 k3 a3 e3=>?_;conv=>whnf
   refine ALoad.agg rfl k3 rfl rfl ?_;conv=>whnf
   exact .inl ⟨by rw [HC];decide,by rw [HC];rfl,a3 h s1 n1⟩
  refine ACmp.no ((by omega)) ?_;conv=>whnf
  by_cases c4:c.log.last.1=9007199254740991
  ·refine ACmp.yes (c4) ?_;conv=>whnf
   have HF:1200<data.length∨c.log.last.1=9007199254740991 := .inr c4
   have HC:=hE'.trans (if_pos HF)
   refine AStore.aggN rfl rfl rfl (k1) rfl (outCells out0 ox0) rfl fun h3 t3 k3 a3 e3=>?_;conv=>whnf
   refine ALoad.agg rfl k3 rfl rfl ?_;conv=>whnf
   exact .inl ⟨by rw [HC];decide,by rw [HC];rfl,a3 h s1 n1⟩
  refine ACmp.no (c4) ?_;conv=>whnf
  rw [if_neg (by omega)] at hE'
  refine ALoad.one rfl k.str rfl ?_;conv=>whnf
  refine AArith.ok (by omega) (by omega) (rfl) ?_;conv=>whnf
  by_cases c5:64≤c.log.last.1-c.commit
  ·refine ACmp.yes (c5) ?_;conv=>whnf
   have HC:=hE'.trans (if_pos c5)
   refine AStore.aggN rfl rfl rfl (k1) rfl (outCells out0 ox0) rfl fun h3 t3 k3 a3 e3=>?_;conv=>whnf
   refine ALoad.agg rfl k3 rfl rfl ?_;conv=>whnf
   exact .inl ⟨by rw [HC];decide,by rw [HC];rfl,a3 h s1 n1⟩
  refine ACmp.no (c5) ?_;conv=>whnf
  rw [if_neg c5] at hE'
  refine ACmp.no ((by omega)) ?_;conv=>whnf
  have HZ:=hE'.trans (if_neg fun c=>absurd c.1 (by omega))
  refine ACalls.mono (crewNow_any k ok.lk.lo ok.lk.by_) ?_;rintro _ _ ⟨rfl,rfl⟩;conv=>whnf
  refine ACalls.mono (put_any ap ⟨_,k⟩ ok.lk.lo (by omega) (by omega) kind (g.sub s1) (by omega) (by rw [hout];simp [out0])) ?_;rintro _ h2 ⟨rfl,⟨cx2,k2⟩,kk2⟩;conv=>whnf
  obtain ⟨dd,hdd⟩:∃ dd,dd=c.put kind data:=⟨_,rfl⟩
  obtain ⟨p1,p2,p3,p4,p5,p6,p7,p8⟩:=put_same c kind data
  have lk2:LogOk dd:=by rw [hdd];exact ok.lk.put (by omega) (fun _=>hb)
  rw [CoreM.propose_eq,← hdd]
  rw [← hdd] at k2 p1 p2 p3 p4 p5 p6 p7 p8
  refine ACalls.mono (crewNow_any k2 lk2.lo lk2.by_) ?_;rintro _ _ ⟨rfl,rfl⟩;conv=>whnf
  refine AInt.as rfl ?_;conv=>whnf
  refine ACalls.mono (listSome_any h2 (IntKind.i64.wrap ((BitVec.ofInt 64 dd.crewNow.1 &&& ~~~(BitVec.ofInt 64 c.crewNow.1)).toNat:Int)) (o+oo+2)) ?_
  rintro v h3 ⟨al,cp,f,rfl,sl,hf,s3⟩
  conv=>whnf
  have hin:=ls_in (IntKind.i64.wrap ((BitVec.ofInt 64 dd.crewNow.1 &&& ~~~(BitVec.ofInt 64 c.crewNow.1)).toNat:Int))
  have hll5:(ls (m5 (IntKind.i64.wrap ((BitVec.ofInt 64 dd.crewNow.1 &&& ~~~(BitVec.ofInt 64 c.crewNow.1)).toNat:Int)))).length≤5:=lsTo_len _ 5
  generalize ls (m5 (IntKind.i64.wrap ((BitVec.ofInt 64 dd.crewNow.1 &&& ~~~(BitVec.ofInt 64 c.crewNow.1)).toNat:Int)))=ll at sl hin hll5 ⊢
  refine ALoop.mk (fun e h'=>∃ e0,∃ j:Nat,e=updL 122 e0 [(0,Ptr p),(7,Ptr b7),(13,I (c.log.last.1+1)),(89, .slice al ll.length cp),(90,I ll.length),(91,I j)]∧j≤ll.length∧PCore h' p o oo ((ll.take j).foldl (CoreM.fresh1 (c.log.last.1+1)) dd)∧Keeps [o,o+1,oo] h1 h'∧Sl h' (f,0) al ll.length cp 1 (ll.map I)) (fun e=>ll.length-natOf (e 91))
   ⟨_,0,updL_self ⟨rfl,rfl,rfl,rfl,rfl,rfl,trivial⟩,by omega,⟨_,k2.sub s3⟩,kk2.trans (s3.keeps _),sl⟩ ?_
  rintro e h4 ⟨e0,j,rfl,hj,⟨cx4,k4⟩,kk4,s4⟩
  conv=>whnf
  by_cases hjn:j<ll.length
  ·refine ACmp.yes (by omega) ?_;conv=>whnf
   obtain ⟨n,hn⟩:∃ n,ll[j]? = some n:=⟨ll[j]'hjn,by simp⟩
   obtain ⟨hn1,hn2⟩:=hin n (List.mem_of_getElem? hn)
   obtain ⟨m,hm⟩:∃ m:Nat,n=m:=⟨n.toNat,by omega⟩
   obtain ⟨b,off,l,E,fz,rfl,hbb,hc⟩:=s4.pos (by omega)
   have g0:l[off+j*1]? = some (I n):=by rw [get_of_take hc (by omega),Nat.mul_one];simp [hn]
   refine AIdx.nat (z:=1) (j:=j) rfl hjn rfl rfl ?_;conv=>whnf
   refine ALoad.one rfl hbb g0 ?_;conv=>whnf
   obtain ⟨e4,he4⟩:∃ e4,e4=(ll.take j).foldl (CoreM.fresh1 (c.log.last.1+1)) dd:=⟨_,rfl⟩
   rw [← he4] at k4
   refine ADrawn.mkO (h4) [11] [0,1,2,3,4,5,6,7,8,9,10,12,13,14,17,18,19,11,15,16,20,21] (Sub.refl _) (by decide +kernel) ?_;conv=>whnf
   refine AIdxA.nat (n:=6) (z:=1) (j:=m) (by omega) (by omega) rfl rfl ?_;conv=>whnf
   refine AStore.oneN rfl rfl rfl k4.str (by have:=next_cell e4 cx4 hn1 hn2;rw [show 0+14+1+m*1=15+n.toNat by omega];exact Nat.ble_eq_true_of_le (List.getElem?_eq_some_iff.1 this).1) (coreCells {e4 with next:=e4.next.set n (c.log.last.1+1)} cx4) (by rw [show 0+14+1+m*1=15+n.toNat by omega];exact next_set e4 cx4 hn1 hn2 _) fun h5 t5 k5 a5 x5=>?_;conv=>whnf
   refine AIdxA.nat (n:=6) (z:=1) (j:=m) (by omega) (by omega) rfl rfl ?_;conv=>whnf
   refine AStore.oneN rfl rfl rfl k5 (by have:=mtch_cell {e4 with next:=e4.next.set n (c.log.last.1+1)} cx4 hn1 hn2;rw [show 0+14+7+m*1=21+n.toNat by omega];exact Nat.ble_eq_true_of_le (List.getElem?_eq_some_iff.1 this).1) (coreCells {e4 with next:=e4.next.set n (c.log.last.1+1),mtch:=e4.mtch.set n 0} cx4) (by rw [show 0+14+7+m*1=21+n.toNat by omega];exact mtch_set {e4 with next:=e4.next.set n (c.log.last.1+1)} cx4 hn1 hn2 _) fun h6 t6 k6 a6 x6=>?_;conv=>whnf
   refine ⟨(fun b y e=>by cases e),?_⟩;conv=>whnf
   refine AIdxA.nat (n:=6) (z:=1) (j:=m) (by omega) (by omega) rfl rfl ?_;conv=>whnf
   refine AStore.oneN rfl rfl rfl k6 (by have:=heard_cell {e4 with next:=e4.next.set n (c.log.last.1+1),mtch:=e4.mtch.set n 0} cx4 hn1 hn2;rw [show 0+14+13+m*1=27+n.toNat by omega];exact Nat.ble_eq_true_of_le (List.getElem?_eq_some_iff.1 this).1) (coreCells (e4.fresh1 (c.log.last.1+1) n) cx4) (by rw [show 0+14+13+m*1=27+n.toNat by omega];exact heard_set {e4 with next:=e4.next.set n (c.log.last.1+1),mtch:=e4.mtch.set n 0} cx4 hn1 hn2 _) fun h7 t7 k7 a7 x7=>?_;conv=>whnf
   refine ⟨(fun b y e=>by cases e),?_⟩;conv=>whnf
   have tt:=t5.trans (t6.trans t7)
   have q7:=k4.set' (c':=e4.fresh1 (c.log.last.1+1) n) ap.a tt k7
   refine AArith.ok (by omega) (by omega) ((by omega:(j:Int)+1=((j+1:Nat):Int))) ?_;conv=>whnf
   have kt7:Keeps [o,o+1,oo] h4 h7:=tt.keep.keeps (by simp)
   refine ⟨⟨_,j+1,updL_self ⟨rfl,rfl,rfl,rfl,rfl,rfl,trivial⟩,by omega,?_,kk4.trans kt7,s4.keeps kt7 (by simp;omega)⟩,?_⟩
   ·rw [List.take_succ_eq_append_getElem hjn,(List.getElem?_eq_some_iff.1 hn).2,List.foldl_append]
    rw [he4] at q7
    exact ⟨_,q7⟩
   ·show ll.length-(j+1)<ll.length-j
    omega
  ·refine ACmp.no (by omega) ?_;conv=>whnf
   rw [List.take_of_length_le (by omega)] at k4
   obtain ⟨fa,fb,fd,fe,fh⟩:=freshes (c.log.last.1+1) ll dd hin
   obtain ⟨e4,he4⟩:∃ e4,e4=ll.foldl (CoreM.fresh1 (c.log.last.1+1)) dd:=⟨_,rfl⟩
   rw [← he4] at k4 ⊢
   rw [← he4] at fe
   have lk4:LogOk e4:=by rw [fe];exact lk2.same rfl rfl
   have nk4:NextOk e4:=fun n h1 h2=>by
    rw [fe];show 0≤fa.get n∧fa.get n≤_
    have:=ok.nk n h1 h2
    rcases (fh n h1 h2).1 with z | z <;> rw [z]
    ·rw [p1];exact this
    ·omega
   have o4:e4.out.posts.length≤999999990:=by rw [fe];show dd.out.posts.length≤_;rw [p4,hout];simp [out0]
   have sf4:e4.self=c.self:=by rw [fe];exact p3
   refine ACalls.mono (sendAll_any ap ⟨_,k4⟩ lk4 nk4 o4) ?_;rintro _ h8 ⟨rfl,k8,kk8⟩;conv=>whnf
   obtain ⟨y1,_⟩:=sends_more e4.others e4
   refine ACalls.mono (rank_any ap k8 lk4.sendAll (by unfold CoreM.sendAll;rw [y1,sf4];exact ok.s1) (by unfold CoreM.sendAll;rw [y1,sf4];exact ok.s2)) ?_;rintro _ h9 ⟨rfl,k9,kk9⟩;conv=>whnf
   have KK:Keeps [o,o+1,oo] h1 h9:=kk4.trans ((kk8.mono (by simp)).trans (kk9.keeps (by simp)))
   have kb:h9 b7=some (row (0,1) (outCells out0 ox0) 65):=KK _ _ _ (by have:=ap.c;have:=ap.d;simp;omega) k1
   refine ACalls.mono (done_any ap.a ap.c ap.d k9) ?_;rintro _ h11 ⟨ox,rfl,o11,q11,kk11⟩;conv=>whnf
   refine AStore.aggN rfl rfl rfl ((kk11.get (Ne.symm ap.c) kb)) rfl (outCells _ ox) rfl fun h12 t12 k12 a12 e12=>?_;conv=>whnf
   refine ALoad.agg rfl k12 rfl rfl ?_;conv=>whnf
   exact .inr ⟨HZ,_,rfl,told_end ap n1 ((s1.keeps _).trans KK) kk11 o11 q11 t12 e12⟩
 ·refine ACmp.yes (ck1) ?_;conv=>whnf
  by_cases ck2:kind=2
  ·refine ACmp.no ((by simpa using ck2)) ?_;conv=>whnf
   have c2:¬(kind≠1∧kind≠2):=fun c=>c.2 ck2
   rw [if_neg c2] at hE'
   by_cases c3:1200<data.length
   ·refine ACmp.yes ((by omega)) ?_;conv=>whnf
    have HF:1200<data.length∨c.log.last.1=9007199254740991 := .inl c3
    have HC:=hE'.trans (if_pos HF)
    refine AStore.aggN rfl rfl rfl (k1) rfl (outCells out0 ox0) rfl fun h3 t3 k3 a3 e3=>?_;conv=>whnf
    refine ALoad.agg rfl k3 rfl rfl ?_;conv=>whnf
    exact .inl ⟨by rw [HC];decide,by rw [HC];rfl,a3 h s1 n1⟩
   refine ACmp.no ((by omega)) ?_;conv=>whnf
   by_cases c4:c.log.last.1=9007199254740991
   ·refine ACmp.yes (c4) ?_;conv=>whnf
    have HF:1200<data.length∨c.log.last.1=9007199254740991 := .inr c4
    have HC:=hE'.trans (if_pos HF)
    refine AStore.aggN rfl rfl rfl (k1) rfl (outCells out0 ox0) rfl fun h3 t3 k3 a3 e3=>?_;conv=>whnf
    refine ALoad.agg rfl k3 rfl rfl ?_;conv=>whnf
    exact .inl ⟨by rw [HC];decide,by rw [HC];rfl,a3 h s1 n1⟩
   refine ACmp.no (c4) ?_;conv=>whnf
   rw [if_neg (by omega)] at hE'
   refine ALoad.one rfl k.str rfl ?_;conv=>whnf
   refine AArith.ok (by omega) (by omega) (rfl) ?_;conv=>whnf
   by_cases c5:64≤c.log.last.1-c.commit
   ·refine ACmp.yes (c5) ?_;conv=>whnf
    have HC:=hE'.trans (if_pos c5)
    refine AStore.aggN rfl rfl rfl (k1) rfl (outCells out0 ox0) rfl fun h3 t3 k3 a3 e3=>?_;conv=>whnf
    refine ALoad.agg rfl k3 rfl rfl ?_;conv=>whnf
    exact .inl ⟨by rw [HC];decide,by rw [HC];rfl,a3 h s1 n1⟩
   refine ACmp.no (c5) ?_;conv=>whnf
   rw [if_neg c5] at hE'
   refine ACmp.yes (ck2) ?_;conv=>whnf
   have hch:=changes_any k ok.lk ok.fc ok.sc (g.sub s1) hb
   refine ACalls.mono hch ?_
   clear hch
   cases hcc:c.changes data with
   | false =>
    rintro _ _ ⟨rfl,rfl⟩
    conv=>whnf
    have HC:=hE'.trans (if_pos ⟨ck2,hcc⟩)
    refine AStore.aggN rfl rfl rfl (k1) rfl (outCells out0 ox0) rfl fun h3 t3 k3 a3 e3=>?_;conv=>whnf
    refine ALoad.agg rfl k3 rfl rfl ?_;conv=>whnf
    exact .inl ⟨by rw [HC];decide,by rw [HC];rfl,a3 h s1 n1⟩
   | true =>
    rintro _ _ ⟨rfl,rfl⟩
    conv=>whnf
    have HZ:=hE'.trans (if_neg fun c=>by rw [hcc] at c;cases c.2)
    refine ACalls.mono (crewNow_any k ok.lk.lo ok.lk.by_) ?_;rintro _ _ ⟨rfl,rfl⟩;conv=>whnf
    refine ACalls.mono (put_any ap ⟨_,k⟩ ok.lk.lo (by omega) (by omega) kind (g.sub s1) (by omega) (by rw [hout];simp [out0])) ?_;rintro _ h2 ⟨rfl,⟨cx2,k2⟩,kk2⟩;conv=>whnf
    obtain ⟨dd,hdd⟩:∃ dd,dd=c.put kind data:=⟨_,rfl⟩
    obtain ⟨p1,p2,p3,p4,p5,p6,p7,p8⟩:=put_same c kind data
    have lk2:LogOk dd:=by rw [hdd];exact ok.lk.put (by omega) (fun _=>hb)
    rw [CoreM.propose_eq,← hdd]
    rw [← hdd] at k2 p1 p2 p3 p4 p5 p6 p7 p8
    refine ACalls.mono (crewNow_any k2 lk2.lo lk2.by_) ?_;rintro _ _ ⟨rfl,rfl⟩;conv=>whnf
    refine AInt.as rfl ?_;conv=>whnf
    refine ACalls.mono (listSome_any h2 (IntKind.i64.wrap ((BitVec.ofInt 64 dd.crewNow.1 &&& ~~~(BitVec.ofInt 64 c.crewNow.1)).toNat:Int)) (o+oo+2)) ?_
    rintro v h3 ⟨al,cp,f,rfl,sl,hf,s3⟩
    conv=>whnf
    have hin:=ls_in (IntKind.i64.wrap ((BitVec.ofInt 64 dd.crewNow.1 &&& ~~~(BitVec.ofInt 64 c.crewNow.1)).toNat:Int))
    have hll5:(ls (m5 (IntKind.i64.wrap ((BitVec.ofInt 64 dd.crewNow.1 &&& ~~~(BitVec.ofInt 64 c.crewNow.1)).toNat:Int)))).length≤5:=lsTo_len _ 5
    generalize ls (m5 (IntKind.i64.wrap ((BitVec.ofInt 64 dd.crewNow.1 &&& ~~~(BitVec.ofInt 64 c.crewNow.1)).toNat:Int)))=ll at sl hin hll5 ⊢
    refine ALoop.mk (fun e h'=>∃ e0,∃ j:Nat,e=updL 122 e0 [(0,Ptr p),(7,Ptr b7),(13,I (c.log.last.1+1)),(89, .slice al ll.length cp),(90,I ll.length),(91,I j)]∧j≤ll.length∧PCore h' p o oo ((ll.take j).foldl (CoreM.fresh1 (c.log.last.1+1)) dd)∧Keeps [o,o+1,oo] h1 h'∧Sl h' (f,0) al ll.length cp 1 (ll.map I)) (fun e=>ll.length-natOf (e 91))
     ⟨_,0,updL_self ⟨rfl,rfl,rfl,rfl,rfl,rfl,trivial⟩,by omega,⟨_,k2.sub s3⟩,kk2.trans (s3.keeps _),sl⟩ ?_
    rintro e h4 ⟨e0,j,rfl,hj,⟨cx4,k4⟩,kk4,s4⟩
    conv=>whnf
    by_cases hjn:j<ll.length
    ·refine ACmp.yes (by omega) ?_;conv=>whnf
     obtain ⟨n,hn⟩:∃ n,ll[j]? = some n:=⟨ll[j]'hjn,by simp⟩
     obtain ⟨hn1,hn2⟩:=hin n (List.mem_of_getElem? hn)
     obtain ⟨m,hm⟩:∃ m:Nat,n=m:=⟨n.toNat,by omega⟩
     obtain ⟨b,off,l,E,fz,rfl,hbb,hc⟩:=s4.pos (by omega)
     have g0:l[off+j*1]? = some (I n):=by rw [get_of_take hc (by omega),Nat.mul_one];simp [hn]
     refine AIdx.nat (z:=1) (j:=j) rfl hjn rfl rfl ?_;conv=>whnf
     refine ALoad.one rfl hbb g0 ?_;conv=>whnf
     obtain ⟨e4,he4⟩:∃ e4,e4=(ll.take j).foldl (CoreM.fresh1 (c.log.last.1+1)) dd:=⟨_,rfl⟩
     rw [← he4] at k4
     refine ADrawn.mkO (h4) [11] [0,1,2,3,4,5,6,7,8,9,10,12,13,14,17,18,19,11,15,16,20,21] (Sub.refl _) (by decide +kernel) ?_;conv=>whnf
     refine AIdxA.nat (n:=6) (z:=1) (j:=m) (by omega) (by omega) rfl rfl ?_;conv=>whnf
     refine AStore.oneN rfl rfl rfl k4.str (by have:=next_cell e4 cx4 hn1 hn2;rw [show 0+14+1+m*1=15+n.toNat by omega];exact Nat.ble_eq_true_of_le (List.getElem?_eq_some_iff.1 this).1) (coreCells {e4 with next:=e4.next.set n (c.log.last.1+1)} cx4) (by rw [show 0+14+1+m*1=15+n.toNat by omega];exact next_set e4 cx4 hn1 hn2 _) fun h5 t5 k5 a5 x5=>?_;conv=>whnf
     refine AIdxA.nat (n:=6) (z:=1) (j:=m) (by omega) (by omega) rfl rfl ?_;conv=>whnf
     refine AStore.oneN rfl rfl rfl k5 (by have:=mtch_cell {e4 with next:=e4.next.set n (c.log.last.1+1)} cx4 hn1 hn2;rw [show 0+14+7+m*1=21+n.toNat by omega];exact Nat.ble_eq_true_of_le (List.getElem?_eq_some_iff.1 this).1) (coreCells {e4 with next:=e4.next.set n (c.log.last.1+1),mtch:=e4.mtch.set n 0} cx4) (by rw [show 0+14+7+m*1=21+n.toNat by omega];exact mtch_set {e4 with next:=e4.next.set n (c.log.last.1+1)} cx4 hn1 hn2 _) fun h6 t6 k6 a6 x6=>?_;conv=>whnf
     refine ⟨(fun b y e=>by cases e),?_⟩;conv=>whnf
     refine AIdxA.nat (n:=6) (z:=1) (j:=m) (by omega) (by omega) rfl rfl ?_;conv=>whnf
     refine AStore.oneN rfl rfl rfl k6 (by have:=heard_cell {e4 with next:=e4.next.set n (c.log.last.1+1),mtch:=e4.mtch.set n 0} cx4 hn1 hn2;rw [show 0+14+13+m*1=27+n.toNat by omega];exact Nat.ble_eq_true_of_le (List.getElem?_eq_some_iff.1 this).1) (coreCells (e4.fresh1 (c.log.last.1+1) n) cx4) (by rw [show 0+14+13+m*1=27+n.toNat by omega];exact heard_set {e4 with next:=e4.next.set n (c.log.last.1+1),mtch:=e4.mtch.set n 0} cx4 hn1 hn2 _) fun h7 t7 k7 a7 x7=>?_;conv=>whnf
     refine ⟨(fun b y e=>by cases e),?_⟩;conv=>whnf
     have tt:=t5.trans (t6.trans t7)
     have q7:=k4.set' (c':=e4.fresh1 (c.log.last.1+1) n) ap.a tt k7
     refine AArith.ok (by omega) (by omega) ((by omega:(j:Int)+1=((j+1:Nat):Int))) ?_;conv=>whnf
     have kt7:Keeps [o,o+1,oo] h4 h7:=tt.keep.keeps (by simp)
     refine ⟨⟨_,j+1,updL_self ⟨rfl,rfl,rfl,rfl,rfl,rfl,trivial⟩,by omega,?_,kk4.trans kt7,s4.keeps kt7 (by simp;omega)⟩,?_⟩
     ·rw [List.take_succ_eq_append_getElem hjn,(List.getElem?_eq_some_iff.1 hn).2,List.foldl_append]
      rw [he4] at q7
      exact ⟨_,q7⟩
     ·show ll.length-(j+1)<ll.length-j
      omega
    ·refine ACmp.no (by omega) ?_;conv=>whnf
     rw [List.take_of_length_le (by omega)] at k4
     obtain ⟨fa,fb,fd,fe,fh⟩:=freshes (c.log.last.1+1) ll dd hin
     obtain ⟨e4,he4⟩:∃ e4,e4=ll.foldl (CoreM.fresh1 (c.log.last.1+1)) dd:=⟨_,rfl⟩
     rw [← he4] at k4 ⊢
     rw [← he4] at fe
     have lk4:LogOk e4:=by rw [fe];exact lk2.same rfl rfl
     have nk4:NextOk e4:=fun n h1 h2=>by
      rw [fe];show 0≤fa.get n∧fa.get n≤_
      have:=ok.nk n h1 h2
      rcases (fh n h1 h2).1 with z | z <;> rw [z]
      ·rw [p1];exact this
      ·omega
     have o4:e4.out.posts.length≤999999990:=by rw [fe];show dd.out.posts.length≤_;rw [p4,hout];simp [out0]
     have sf4:e4.self=c.self:=by rw [fe];exact p3
     refine ACalls.mono (sendAll_any ap ⟨_,k4⟩ lk4 nk4 o4) ?_;rintro _ h8 ⟨rfl,k8,kk8⟩;conv=>whnf
     obtain ⟨y1,_⟩:=sends_more e4.others e4
     refine ACalls.mono (rank_any ap k8 lk4.sendAll (by unfold CoreM.sendAll;rw [y1,sf4];exact ok.s1) (by unfold CoreM.sendAll;rw [y1,sf4];exact ok.s2)) ?_;rintro _ h9 ⟨rfl,k9,kk9⟩;conv=>whnf
     have KK:Keeps [o,o+1,oo] h1 h9:=kk4.trans ((kk8.mono (by simp)).trans (kk9.keeps (by simp)))
     have kb:h9 b7=some (row (0,1) (outCells out0 ox0) 65):=KK _ _ _ (by have:=ap.c;have:=ap.d;simp;omega) k1
     refine ACalls.mono (done_any ap.a ap.c ap.d k9) ?_;rintro _ h11 ⟨ox,rfl,o11,q11,kk11⟩;conv=>whnf
     refine AStore.aggN rfl rfl rfl ((kk11.get (Ne.symm ap.c) kb)) rfl (outCells _ ox) rfl fun h12 t12 k12 a12 e12=>?_;conv=>whnf
     refine ALoad.agg rfl k12 rfl rfl ?_;conv=>whnf
     exact .inr ⟨HZ,_,rfl,told_end ap n1 ((s1.keeps _).trans KK) kk11 o11 q11 t12 e12⟩
  ·refine ACmp.yes (ck2) ?_;conv=>whnf
   have HC:=hE'.trans (if_pos ⟨ck1,ck2⟩)
   refine AStore.aggN rfl rfl rfl (k1) rfl (outCells out0 ox0) rfl fun h3 t3 k3 a3 e3=>?_;conv=>whnf
   refine ALoad.agg rfl k3 rfl rfl ?_;conv=>whnf
   exact .inl ⟨by rw [HC];decide,by rw [HC];rfl,a3 h s1 n1⟩
def Idle (T:TypeId) (LP:Heap→Nat→Nat→LG→Prop) (h:Heap) (p o:Nat) (c:CoreM):Prop :=
  ∃ x:CX,h p=some (row (o,0) (coreCells c x) T)∧Own h (o,3) 5 x.sd.a x.sd.n x.sd.c 1 (bytesV c.snap.data)∧LP h x.log (o+1) c.log∧Own h (o,4) 3 x.rd.a x.rd.n x.rd.c 1 (c.reads.map I)∧c.out=out0∧∀ h' oo,OutOk h' oo out0 x.ox
abbrev PIdle:=Idle 81 LA
abbrev RIdle:=Idle 98 RL
theorem Idle.all {T:TypeId} {LP:Heap→Nat→Nat→LG→Prop} {h:Heap} {p o:Nat} {c:CoreM} (k:Idle T LP h p o c) (oo:Nat):CoreAt T LP h p o oo c:=by
 obtain ⟨x,a,b,d,e,f,g⟩:=k
 exact ⟨x,a,b,d,e,by rw [f];exact g h oo⟩
theorem own_two {h:Heap} {t u:Tag} {E:TypeId} {a a':Option Addr} {n n' cap cap' z:Nat} {cs:List Value} (hn:t≠u) (ha:a=a') (hn2:n=n') (hc:cap=cap') (x:Own h t E a n cap z cs) (y:Own h u E a' n' cap' z cs):n=0∧cap=0∧cs=[]:=by
 subst ha;subst hn2;subst hc
 rcases x with x | ⟨b,l,rfl,hb,_⟩
 ·exact x
 ·rcases y with y | ⟨b',l',e,hb',_⟩
  ·exact y
  ·cases e
   rw [hb] at hb'
   exact absurd (by cases hb';rfl) hn
theorem Idle.of {T:TypeId} {LP:Heap→Nat→Nat→LG→Prop} {h:Heap} {p o:Nat} {c:CoreM} (k:∀ oo,oo≠0→CoreAt T LP h p o oo c) (hc:c.out=out0):Idle T LP h p o c:=by
 obtain ⟨x,k1⟩:=k 1 (by omega)
 obtain ⟨y,k2⟩:=k 2 (by omega)
 have e:=k1.str.symm.trans k2.str
 have e2:coreCells c x=coreCells c y:=by
  have:=Option.some.inj e
  simp only [row,Prod.mk.injEq,Obj.cells.injEq,true_and,and_true] at this
  simpa using this
 simp only [coreCells,List.cons.injEq,Value.slice.injEq,true_and,and_true] at e2
 obtain ⟨_,_,_,_,_,_,d1,d2,d3,d4⟩:=e2
 have o1:=k1.out
 have o2:=k2.out
 rw [hc] at o1 o2
 have ne:∀ r s:Nat,((1,r):Tag)≠(2,s):=fun r s c=>by cases c
 have e3:x.ox.es=[]:=List.map_eq_nil_iff.1 o1.ea
 have e4:x.ox.ps=[]:=List.map_eq_nil_iff.1 o1.pa
 have e5:y.ox.es=[]:=List.map_eq_nil_iff.1 o2.ea
 have e6:y.ox.ps=[]:=List.map_eq_nil_iff.1 o2.pa
 have w1:=own_two (ne 6 6) d1.1 d1.2.1 d1.2.2 o1.od o2.od
 have w2:=o1.oe;have w2':=o2.oe
 have w3:=o1.op;have w3':=o2.op
 rw [e3] at w2;rw [e5] at w2';rw [e4] at w3;rw [e6] at w3'
 have w2:=own_two (ne 1 1) d2.1 d2.2.1 d2.2.2 w2 w2'
 have w3:=own_two (ne 3 3) d3.1 d3.2.1 d3.2.2 w3 w3'
 have w4:=own_two (ne 7 7) d4.1 d4.2.1 d4.2.2 o1.qr o2.qr
 refine ⟨x,k1.str,k1.sd,k1.log,k1.rd,hc,fun h' oo=>⟨.inl ⟨w1.1,w1.2.1,rfl⟩,by rw [e3];exact .inl ⟨w2.1,w2.2.1,rfl⟩,by rw [e3];simp,by rw [e3];rfl,by rw [e3];simp,by rw [e4];exact .inl ⟨w3.1,w3.2.1,rfl⟩,by rw [e4];simp,by rw [e4];rfl, .inl ⟨w4.1,w4.2.1,rfl⟩⟩⟩
theorem Idle.keeps {T:TypeId} {LP:Heap→Nat→Nat→LG→Prop} [Moves LP] {h h':Heap} {p o:Nat} {c:CoreM} {os:List Nat} (k:Idle T LP h p o c) (m:Keeps os h h') (h1:o∉os) (h2:o+1∉os):Idle T LP h' p o c:=by
 obtain ⟨x,a,b,d,e,f,g⟩:=k
 exact ⟨x,m _ _ _ h1 a,b.move fun _ _ e=>m _ _ _ h1 e,Moves.move d fun _ _ _ ht e=>m _ _ _ (by rw [ht];exact h2) e,e.move fun _ _ e=>m _ _ _ h1 e,f,g⟩
theorem rwithin_any (h:Heap) (a b c:Int):ACalls PR 66 #[I a,I b,I c] h (fun v h'=>v = .bool (decide (b≤a∧a≤c))∧h=h'):=by
 refine acalls_pure (acalls_of mix Tryz.func66 rfl rfl Tryz.ntmps66 Tryz.results66 rfl ?_);conv=>whnf
 by_cases c1:b≤a
 ·refine ACmp.yes (c1) ?_;conv=>whnf
  by_cases c2:a≤c
  ·refine ACmp.yes (c2) ?_;conv=>whnf
   exact ⟨by rw [decide_eq_true ⟨c1,c2⟩],Sub.refl _⟩
  ·refine ACmp.no (c2) ?_;conv=>whnf
   exact ⟨by rw [decide_eq_false fun c=>c2 c.2],Sub.refl _⟩
 ·refine ACmp.no (c1) ?_;conv=>whnf
  exact ⟨by rw [decide_eq_false fun c=>c1 c.1],Sub.refl _⟩
theorem rwithin_yes (h:Heap) {a b c:Int} (p:b≤a∧a≤c):ACalls PR 66 #[I a,I b,I c] h (fun v h'=>v = .bool true∧h=h'):=by
 have:=rwithin_any h a b c;rw [decide_eq_true p] at this;exact this
theorem rwithin_no (h:Heap) {a b c:Int} (p:¬(b≤a∧a≤c)):ACalls PR 66 #[I a,I b,I c] h (fun v h'=>v = .bool false∧h=h'):=by
 have:=rwithin_any h a b c;rw [decide_eq_false p] at this;exact this
theorem Crew_any {h:Heap} {p o oo:Nat} {c:CoreM} {x:CX} (k:CoreX 81 LA h p o oo c x) (lk:LogOk c):ACalls PR 29 #[Ptr p] h (fun v h'=>v=I c.crewNow.1∧h=h'):=by
 refine acalls_pure (acalls_of mix Tryz.func29 rfl rfl Tryz.ntmps29 Tryz.results29 rfl ?_);conv=>whnf
 refine ACalls.mono (none_core k) ?_;rintro _ _ ⟨rfl,rfl⟩;conv=>whnf
 refine ACalls.mono (crewNow_any k lk.lo lk.by_) ?_;rintro _ _ ⟨rfl,rfl⟩;conv=>whnf
 exact ⟨rfl,Sub.refl _⟩
theorem LG.compact_ok {L:LG} {i:Int} (lo:LOk L) (h1:L.bi<i) (h2:i≤L.bi+L.es.length):(L.compact i).1=0:=by
 unfold LG.compact
 obtain ⟨e,he⟩:=spot_some_of h1 h2
 rw [he]
set_option maxHeartbeats 4000000 in
theorem Compact_any {h:Heap} {p o oo:Nat} {c:CoreM} (ap:Apart o oo) (k:PIdle h p o c) (ok:COk c) (hbi:c.log.bi≤c.snap.index) (hsi:c.snap.index≤9007199254740991) (i:Int) {t:Tag} {d:SlV} {data:List Int} (g:Sl h t d.a d.n d.c 1 (bytesV data)) (ht:t.1≠o+1) (hdn:d.n≤140737488355328) :
  ACalls PR 27 #[Ptr p,I i, .slice d.a d.n d.c] h (fun v h'=>(c.compactE i data≠0∧v = .tuple #[.agg #[I 0,I 0,I 0, .slice none 0 0],I (c.compactE i data)]∧Sub h h') ∨
   (c.compactE i data=0∧∃ a n cc,v = .tuple #[.agg #[I i,I (c.compact i data).snap.term,I (c.compact i data).snap.crew, .slice a n cc],I 0]∧Own h' (oo,6) 5 a n cc 1 (bytesV data)∧PIdle h' p o (c.compact i data)∧Keeps [o,o+1,oo] h h')):=by
 obtain ⟨cx,i1,i2,i3,i4,i5,i6⟩:=k
 have k0:CoreX 81 LA h p o oo c cx:=⟨i1,i2,i3,i4,by rw [i5];exact i6 h oo⟩
 have hdl:data.length=d.n:=by have:=g.len;simpa [bytesV] using this
 have hl:=ok.lk.lo.last
 have ht2:=ok.lk.lo.top
 have hl0:=ok.lk.lo.lo
 have hes:=ok.es
 have hout:=ok.out
 obtain ⟨E,hE⟩:∃ E,E=c.compactE i data:=⟨_,rfl⟩
 have hE':=hE
 unfold CoreM.compactE at hE'
 rw [← hE]
 refine acalls_of mix Tryz.func27 rfl rfl Tryz.ntmps27 Tryz.results27 rfl ?_;conv=>whnf
 refine AAlloc.mkN (0,1) ([I 0,I 0,I 0, .slice none 0 0]) rfl fun b6 h1 n1 s1 k1=>?_;conv=>whnf
 have k:=k0.sub s1
 refine ACalls.mono (none_core k) ?_;rintro _ _ ⟨rfl,rfl⟩;conv=>whnf
 refine ALoad.one rfl k.str rfl ?_;conv=>whnf
 refine ACalls.mono (Last_c k.log ok.lk.lo) ?_;rintro _ _ ⟨rfl,rfl⟩;conv=>whnf
 refine ADrawn.mk (h1) [] (Sub.refl _) (by decide +kernel) ?_;conv=>whnf
 refine ALoad.one rfl k.str rfl ?_;conv=>whnf
 refine AArith.ok (by omega) (by omega) (rfl) ?_;conv=>whnf
 refine ALoad.one rfl k.str rfl ?_;conv=>whnf
 refine AInt.as (show _=minI c.commit c.log.last.1 from rfl) ?_;conv=>whnf
 by_cases c1:c.snap.index+1≤i∧i≤minI c.commit c.log.last.1
 ·refine ACalls.mono (rwithin_yes h1 c1) ?_;rintro _ _ ⟨rfl,rfl⟩;conv=>whnf
  refine ⟨Sub.refl _,?_⟩;conv=>whnf
  rw [if_neg (by simpa using c1)] at hE'
  by_cases c2:8192<data.length
  ·refine ACmp.yes ((by omega)) ?_;conv=>whnf
   have HC:=hE'.trans (if_pos c2)
   refine AStore.aggN rfl rfl rfl (k1) rfl ([I 0,I 0,I 0, .slice none 0 0]) rfl fun h3 t3 k3 a3 e3=>?_;conv=>whnf
   refine ALoad.agg rfl k3 rfl rfl ?_;conv=>whnf
   exact .inl ⟨by rw [HC];decide,by rw [HC],a3 h s1 n1⟩
  refine ACmp.no ((by omega)) ?_;conv=>whnf
  rw [if_neg c2] at hE'
  have hi2:i≤c.log.bi+c.log.es.length:=by
   have:=c1.2;unfold minI at this;split at this <;> omega
  rw [LG.compact_ok ok.lk.lo (by omega) hi2] at hE'
  refine ACalls.mono (crewUpTo_any k ok.lk.lo ok.lk.by_ i hi2) ?_;rintro _ _ ⟨rfl,rfl⟩;conv=>whnf
  refine ALoad.one rfl k.str rfl ?_;conv=>whnf
  refine ACalls.mono (Term_c k.log ok.lk.lo i) ?_;rintro _ _ ⟨rfl,rfl⟩;conv=>whnf
  refine ALoad.one rfl k.str rfl ?_;conv=>whnf
  refine ACalls.mono (Compact_c (by omega) k.log ok.lk.lo i (by omega)) ?_;rintro _ h2 ⟨rfl,l2,kk2⟩;conv=>whnf
  rw [LG.compact_ok ok.lk.lo (by omega) hi2]
  refine ACmp.no ((by decide)) ?_;conv=>whnf
  have g2:=(g.sub s1).keep kk2 ht
  refine ACalls.mono (cloned_any h2 (o,3) (fun c=>ap.c (congrArg Prod.fst c)) (i:=i) (tm:=(c.log.term i).1) (cr:=(c.crewUpTo i).1) (d:=d) g2 hdn) ?_
  rintro v h3 ⟨a3,c3,rfl,ow3,s3⟩
  conv=>whnf
  have p3:=s3 _ _ (kk2.get (by simp) k.str)
  refine AStore.aggN rfl rfl rfl (p3) rfl (coreCells (c.compact i data) {cx with sd:=⟨a3,d.n,c3⟩}) rfl fun h4 t4 k4 a4 e4=>?_;conv=>whnf
  have q4:CoreX 81 LA h4 p o oo (c.compact i data) {cx with sd:=⟨a3,d.n,c3⟩}:=by
   refine ⟨k4,ow3.keepT t4 (by simp),KeepT.log (Moves.move l2 fun _ _ _ _ e=>s3 _ _ e) t4,((k.rd.move fun _ _ e=>kk2.get (by simp) e).move fun _ _ e=>s3 _ _ e).keepT t4 (by simp),?_⟩
   exact ((k.out.move fun b t y ht e=>kk2 _ _ _ (by rw [ht];exact ap.b.symm) e).move fun _ _ _ _ e=>s3 _ _ e).keepT ap.a t4
  refine ALoad.agg rfl q4.str rfl rfl ?_;conv=>whnf
  refine ACalls.mono (cloned_any h4 (oo,6) (fun c=>ap.d (congrArg Prod.fst c)) (i:=i) (tm:=(c.log.term i).1) (cr:=(c.crewUpTo i).1) (d:=⟨a3,d.n,c3⟩) q4.sd.sl hdn) ?_
  rintro v h5 ⟨a5,c5,rfl,ow5,s5⟩
  conv=>whnf
  have KK4:Keeps [o,o+1,oo] h1 h4:=(kk2.keeps (by simp)).trans ((s3.keeps _).trans (t4.keep.keeps (by simp)))
  have kb:h5 b6=some (row (0,1) [I 0,I 0,I 0, .slice none 0 0] 31):=s5 _ _ (KK4 _ _ _ (by have:=ap.c;have:=ap.d;simp;omega) k1)
  refine AStore.aggN rfl rfl rfl (kb) rfl ([I i,I (c.log.term i).1,I (c.crewUpTo i).1, .slice a5 d.n c5]) rfl fun h6 t6 k6 a6 e6=>?_;conv=>whnf
  refine ALoad.agg rfl k6 rfl rfl ?_;conv=>whnf
  refine .inr ⟨hE',a5,d.n,c5,rfl,ow5.keepT t6 (fun c=>ap.d (congrArg Prod.fst c)),?_,fun b t y hb e=>e6 _ _ (fun hc=>by rw [hc,n1] at e;cases e) (s5 _ _ (KK4 _ _ _ hb (s1 _ _ e)))⟩
  have q5:=q4.sub s5
  exact ⟨{cx with sd:=⟨a3,d.n,c3⟩},t6.get (u:=(o,0)) (Ne.symm (tag_ne ap.c)) q5.str,q5.sd.keepT t6 (Ne.symm (tag_ne ap.c)),Moves.move q5.log fun _ t _ ht e=>t6 _ _ _ (fun c=>by rw [c] at ht;simp at ht) e,q5.rd.keepT t6 (Ne.symm (tag_ne ap.c)),hout,i6⟩
 ·refine ACalls.mono (rwithin_no h1 c1) ?_;rintro _ _ ⟨rfl,rfl⟩;conv=>whnf
  refine ⟨Sub.refl _,?_⟩;conv=>whnf
  have HC:=hE'.trans (if_pos c1)
  refine AStore.aggN rfl rfl rfl (k1) rfl ([I 0,I 0,I 0, .slice none 0 0]) rfl fun h3 t3 k3 a3 e3=>?_;conv=>whnf
  refine ALoad.agg rfl k3 rfl rfl ?_;conv=>whnf
  exact .inl ⟨by rw [HC];decide,by rw [HC],a3 h s1 n1⟩
structure SH where
  term:Int
  vote:Int
  si:Int
  st:Int
  sc:Int
  d:SlV
  data:List Int
  e:SlV
  es:List EH
def SH.cells (x:SH):List Value:=[I x.term,I x.vote,I x.si,I x.st,I x.sc, .slice x.d.a x.d.n x.d.c, .slice x.e.a x.e.n x.e.c]
def SH.abs (x:SH):SavedM:=⟨x.term,x.vote,⟨x.si,x.st,x.sc,x.data⟩,x.es.map EH.abs⟩
structure SH.Ok (h:Heap) (t1 t2 t3:Tag) (x:SH):Prop where
  es:Ents h t1 t2 x.e.a x.e.n x.e.c x.es
  sd:Sl h t3 x.d.a x.d.n x.d.c 1 (bytesV x.data)
def SH.snapB (x:SH):Bool:=decide (x.si=0∧x.st=0∧x.sc=0∧x.data=[]) || (decide (0<x.si)&&decide (1≤x.st∧x.st≤x.term)&&decide (cchk x.sc=0))
theorem may_eq (x:SH):x.abs.may=(numB x.term&&decide (0≤x.vote∧x.vote≤5)&&x.snapB && !(x.es.any fun e=>decide (x.term<e.term))&&crewsMay (x.es.map EH.abs)):=by
 have e1:(x.es.map EH.abs).all (fun e=>decide (e.1≤x.term)) = !x.es.any (fun e=>decide (x.term<e.term)):=by
  rw [List.all_map,List.not_any_eq_all_not]
  congr 1
  funext e
  show decide (e.term≤x.term) = !decide (x.term<e.term)
  rw [← decide_not,decide_eq_decide];omega
 show (numB x.term&&decide (0≤x.vote∧x.vote≤5)&&x.snapB&&(x.es.map EH.abs).all (fun e=>decide (e.1≤x.term))&&crewsMay (x.es.map EH.abs))=_
 rw [e1]
set_option maxHeartbeats 8000000 in
theorem savedMay_any {h:Heap} {t1 t2 t3:Tag} {x:SH} (k:x.Ok h t1 t2 t3) (by_:∀ e∈x.es,∀ z∈e.data,0≤z∧z<256) (hc0 : -9223372036854775808≤x.sc) (hc1:x.sc≤9223372036854775807) (hn:x.e.n≤4611686018427387904) :
  ACalls PR 76 #[.agg x.cells.toArray] h (fun v h'=>v = .bool x.abs.may∧h=h'):=by
 have hd:x.data.length=x.d.n:=by have:=k.sd.len;simpa [bytesV] using this
 have hd0:x.data=[]↔x.d.n=0:=by rw [← hd,List.length_eq_zero_iff]
 have hR:=may_eq x
 generalize x.abs.may=R at hR ⊢
 obtain ⟨S,hS⟩:∃ S,S=x.snapB:=⟨_,rfl⟩
 obtain ⟨L,hL⟩:∃ L,L=x.es.any fun e=>decide (x.term<e.term):=⟨_,rfl⟩
 obtain ⟨W,hW⟩:∃ W,W=crewsMay (x.es.map EH.abs):=⟨_,rfl⟩
 rw [← hS,← hL,← hW] at hR
 unfold SH.snapB at hS
 refine acalls_pure (acalls_of mix Tryz.func76 rfl rfl Tryz.ntmps76 Tryz.results76 rfl ?_);conv=>whnf
 refine ABox.mkN (0,1) (x.cells) rfl fun b1 h1 n1 s1 k1=>?_;conv=>whnf
 refine ALoad.agg rfl k1 rfl rfl ?_;conv=>whnf
 refine AAlloc.mkN (0,1) ([I 0,I 0,I 0, .slice none 0 0]) rfl fun b3 h2 n2 s2 k2=>?_;conv=>whnf
 refine AStore.aggN rfl rfl rfl (k2) rfl ([I x.si,I x.st,I x.sc, .slice x.d.a x.d.n x.d.c]) rfl fun h3 t3' k3 a3 e3=>?_;conv=>whnf
 have b13:b1≠b3:=fun c=>by rw [c,n2] at k1;cases k1
 have k13:=e3 _ _ b13 (s2 _ _ k1)
 have hb3:h b3=none:=by
  cases e:h b3 with
  | none=>rfl
  | some y=>rw [s1 _ _ e] at n2;cases n2
 have s3:Sub h h3:=a3 h (s1.trans s2) hb3
 have X3:=k.es.sub s3
 clear s1 s2 k1 k2 n1 n2 t3' a3 e3
 have A:AsksE 151 [Ptr b1] x.es (fun e=>decide (x.term<e.term)) h3:=by
  intro e he h' s
  refine acalls_pure (acalls_of mix Tryz.func151 rfl rfl Tryz.ntmps151 Tryz.results151 rfl ?_);conv=>whnf
  refine ABox.mkN (0,1) (e.cells) rfl fun b5 h5 n5 s5 k5=>?_;conv=>whnf
  refine ALoad.one rfl k5 rfl ?_
  refine ALoad.one rfl (s5 _ _ (s _ _ k13)) rfl ?_;conv=>whnf
  refine ACmp.dec ?_;conv=>whnf
  exact ⟨rfl,s5⟩
 have hlate:=ContainsE_any A X3 hn
 rw [← hL] at hlate
 have hcm:=crewsMay_any X3 hn by_
 rw [← hW] at hcm
 refine ALoad.one rfl k3 rfl ?_;conv=>whnf
 by_cases c1:x.si=0
 ·refine ACmp.yes (c1) ?_;conv=>whnf
  refine ALoad.one rfl k3 rfl ?_;conv=>whnf
  by_cases c2:x.st=0
  ·refine ACmp.yes (c2) ?_;conv=>whnf
   refine ALoad.one rfl k3 rfl ?_;conv=>whnf
   by_cases c3:x.sc=0
   ·refine ACmp.yes (c3) ?_;conv=>whnf
    refine ALoad.one rfl k3 rfl ?_;conv=>whnf
    by_cases c4:x.d.n=0
    ·refine ACmp.yes ((by omega)) ?_;conv=>whnf
     have HS:S=true:=by rw [hS,decide_eq_true ⟨c1,c2,c3,hd0.2 c4⟩];rfl
     refine ALoad.one rfl k13 rfl ?_;conv=>whnf
     refine ACalls.mono hlate ?_
     clear hlate
     cases L with
     | true =>
      rintro _ _ ⟨rfl,rfl⟩
      conv=>whnf
      refine ALoad.one rfl k13 rfl ?_;conv=>whnf
      by_cases a1:0≤x.term∧x.term≤9007199254740991
      ·refine ACalls.mono (rwithin_yes h3 a1) ?_;rintro _ _ ⟨rfl,rfl⟩;conv=>whnf
       refine ALoad.one rfl k13 rfl ?_;conv=>whnf
       by_cases a2:0≤x.vote∧x.vote≤5
       ·refine ACalls.mono (rwithin_yes h3 a2) ?_;rintro _ _ ⟨rfl,rfl⟩;conv=>whnf
        exact ⟨by rw [hR];simp,s3⟩
       ·refine ACalls.mono (rwithin_no h3 a2) ?_;rintro _ _ ⟨rfl,rfl⟩;conv=>whnf
        exact ⟨by rw [hR];simp,s3⟩
      ·refine ACalls.mono (rwithin_no h3 a1) ?_;rintro _ _ ⟨rfl,rfl⟩;conv=>whnf
       exact ⟨by rw [hR];simp,s3⟩
     | false =>
      rintro _ _ ⟨rfl,rfl⟩
      conv=>whnf
      refine ALoad.one rfl k13 rfl ?_;conv=>whnf
      by_cases a1:0≤x.term∧x.term≤9007199254740991
      ·refine ACalls.mono (rwithin_yes h3 a1) ?_;rintro _ _ ⟨rfl,rfl⟩;conv=>whnf
       refine ALoad.one rfl k13 rfl ?_;conv=>whnf
       by_cases a2:0≤x.vote∧x.vote≤5
       ·refine ACalls.mono (rwithin_yes h3 a2) ?_;rintro _ _ ⟨rfl,rfl⟩;conv=>whnf
        first
         |exact ⟨by rw [hR,HS];simp,s3⟩
         |refine ALoad.one rfl k13 rfl ?_
          conv=>whnf
          refine ACalls.mono hcm ?_
          clear hcm
          cases W with
          | false =>
           rintro _ _ ⟨rfl,rfl⟩
           conv=>whnf
           exact ⟨by rw [hR];simp,s3⟩
          | true =>
           rintro _ _ ⟨rfl,rfl⟩
           conv=>whnf
           exact ⟨by rw [hR,HS,show numB x.term=true from decide_eq_true a1,decide_eq_true a2];rfl,s3⟩
       ·refine ACalls.mono (rwithin_no h3 a2) ?_;rintro _ _ ⟨rfl,rfl⟩;conv=>whnf
        exact ⟨by rw [hR,decide_eq_false a2];simp,s3⟩
      ·refine ACalls.mono (rwithin_no h3 a1) ?_;rintro _ _ ⟨rfl,rfl⟩;conv=>whnf
       exact ⟨by rw [hR,show numB x.term=false from decide_eq_false a1];simp,s3⟩
    ·refine ACmp.no ((by omega)) ?_;conv=>whnf
     refine ALoad.one rfl k3 rfl ?_;conv=>whnf
     refine ACmp.no ((by omega)) ?_;conv=>whnf
     have HS:S=false:=by rw [hS,decide_eq_false (fun c=>c4 (hd0.1 c.2.2.2)),decide_eq_false (show ¬ 0<x.si by omega)];rfl
     refine ALoad.one rfl k13 rfl ?_;conv=>whnf
     refine ACalls.mono hlate ?_
     clear hlate
     cases L with
     | true =>
      rintro _ _ ⟨rfl,rfl⟩
      conv=>whnf
      refine ALoad.one rfl k13 rfl ?_;conv=>whnf
      by_cases a1:0≤x.term∧x.term≤9007199254740991
      ·refine ACalls.mono (rwithin_yes h3 a1) ?_;rintro _ _ ⟨rfl,rfl⟩;conv=>whnf
       refine ALoad.one rfl k13 rfl ?_;conv=>whnf
       by_cases a2:0≤x.vote∧x.vote≤5
       ·refine ACalls.mono (rwithin_yes h3 a2) ?_;rintro _ _ ⟨rfl,rfl⟩;conv=>whnf
        exact ⟨by rw [hR];simp,s3⟩
       ·refine ACalls.mono (rwithin_no h3 a2) ?_;rintro _ _ ⟨rfl,rfl⟩;conv=>whnf
        exact ⟨by rw [hR];simp,s3⟩
      ·refine ACalls.mono (rwithin_no h3 a1) ?_;rintro _ _ ⟨rfl,rfl⟩;conv=>whnf
       exact ⟨by rw [hR];simp,s3⟩
     | false =>
      rintro _ _ ⟨rfl,rfl⟩
      conv=>whnf
      refine ALoad.one rfl k13 rfl ?_;conv=>whnf
      by_cases a1:0≤x.term∧x.term≤9007199254740991
      ·refine ACalls.mono (rwithin_yes h3 a1) ?_;rintro _ _ ⟨rfl,rfl⟩;conv=>whnf
       refine ALoad.one rfl k13 rfl ?_;conv=>whnf
       by_cases a2:0≤x.vote∧x.vote≤5
       ·refine ACalls.mono (rwithin_yes h3 a2) ?_;rintro _ _ ⟨rfl,rfl⟩;conv=>whnf
        first
         |exact ⟨by rw [hR,HS];simp,s3⟩
         |refine ALoad.one rfl k13 rfl ?_
          conv=>whnf
          refine ACalls.mono hcm ?_
          clear hcm
          cases W with
          | false =>
           rintro _ _ ⟨rfl,rfl⟩
           conv=>whnf
           exact ⟨by rw [hR];simp,s3⟩
          | true =>
           rintro _ _ ⟨rfl,rfl⟩
           conv=>whnf
           exact ⟨by rw [hR,HS,show numB x.term=true from decide_eq_true a1,decide_eq_true a2];rfl,s3⟩
       ·refine ACalls.mono (rwithin_no h3 a2) ?_;rintro _ _ ⟨rfl,rfl⟩;conv=>whnf
        exact ⟨by rw [hR,decide_eq_false a2];simp,s3⟩
      ·refine ACalls.mono (rwithin_no h3 a1) ?_;rintro _ _ ⟨rfl,rfl⟩;conv=>whnf
       exact ⟨by rw [hR,show numB x.term=false from decide_eq_false a1];simp,s3⟩
   ·refine ACmp.no (c3) ?_;conv=>whnf
    refine ALoad.one rfl k3 rfl ?_;conv=>whnf
    refine ACmp.no ((by omega)) ?_;conv=>whnf
    have HS:S=false:=by rw [hS,decide_eq_false (fun c=>c3 c.2.2.1),decide_eq_false (show ¬ 0<x.si by omega)];rfl
    refine ALoad.one rfl k13 rfl ?_;conv=>whnf
    refine ACalls.mono hlate ?_
    clear hlate
    cases L with
    | true =>
     rintro _ _ ⟨rfl,rfl⟩
     conv=>whnf
     refine ALoad.one rfl k13 rfl ?_;conv=>whnf
     by_cases a1:0≤x.term∧x.term≤9007199254740991
     ·refine ACalls.mono (rwithin_yes h3 a1) ?_;rintro _ _ ⟨rfl,rfl⟩;conv=>whnf
      refine ALoad.one rfl k13 rfl ?_;conv=>whnf
      by_cases a2:0≤x.vote∧x.vote≤5
      ·refine ACalls.mono (rwithin_yes h3 a2) ?_;rintro _ _ ⟨rfl,rfl⟩;conv=>whnf
       exact ⟨by rw [hR];simp,s3⟩
      ·refine ACalls.mono (rwithin_no h3 a2) ?_;rintro _ _ ⟨rfl,rfl⟩;conv=>whnf
       exact ⟨by rw [hR];simp,s3⟩
     ·refine ACalls.mono (rwithin_no h3 a1) ?_;rintro _ _ ⟨rfl,rfl⟩;conv=>whnf
      exact ⟨by rw [hR];simp,s3⟩
    | false =>
     rintro _ _ ⟨rfl,rfl⟩
     conv=>whnf
     refine ALoad.one rfl k13 rfl ?_;conv=>whnf
     by_cases a1:0≤x.term∧x.term≤9007199254740991
     ·refine ACalls.mono (rwithin_yes h3 a1) ?_;rintro _ _ ⟨rfl,rfl⟩;conv=>whnf
      refine ALoad.one rfl k13 rfl ?_;conv=>whnf
      by_cases a2:0≤x.vote∧x.vote≤5
      ·refine ACalls.mono (rwithin_yes h3 a2) ?_;rintro _ _ ⟨rfl,rfl⟩;conv=>whnf
       first
        |exact ⟨by rw [hR,HS];simp,s3⟩
        |refine ALoad.one rfl k13 rfl ?_
         conv=>whnf
         refine ACalls.mono hcm ?_
         clear hcm
         cases W with
         | false =>
          rintro _ _ ⟨rfl,rfl⟩
          conv=>whnf
          exact ⟨by rw [hR];simp,s3⟩
         | true =>
          rintro _ _ ⟨rfl,rfl⟩
          conv=>whnf
          exact ⟨by rw [hR,HS,show numB x.term=true from decide_eq_true a1,decide_eq_true a2];rfl,s3⟩
      ·refine ACalls.mono (rwithin_no h3 a2) ?_;rintro _ _ ⟨rfl,rfl⟩;conv=>whnf
       exact ⟨by rw [hR,decide_eq_false a2];simp,s3⟩
     ·refine ACalls.mono (rwithin_no h3 a1) ?_;rintro _ _ ⟨rfl,rfl⟩;conv=>whnf
      exact ⟨by rw [hR,show numB x.term=false from decide_eq_false a1];simp,s3⟩
  ·refine ACmp.no (c2) ?_;conv=>whnf
   refine ALoad.one rfl k3 rfl ?_;conv=>whnf
   refine ACmp.no ((by omega)) ?_;conv=>whnf
   have HS:S=false:=by rw [hS,decide_eq_false (fun c=>c2 c.2.1),decide_eq_false (show ¬ 0<x.si by omega)];rfl
   refine ALoad.one rfl k13 rfl ?_;conv=>whnf
   refine ACalls.mono hlate ?_
   clear hlate
   cases L with
   | true =>
    rintro _ _ ⟨rfl,rfl⟩
    conv=>whnf
    refine ALoad.one rfl k13 rfl ?_;conv=>whnf
    by_cases a1:0≤x.term∧x.term≤9007199254740991
    ·refine ACalls.mono (rwithin_yes h3 a1) ?_;rintro _ _ ⟨rfl,rfl⟩;conv=>whnf
     refine ALoad.one rfl k13 rfl ?_;conv=>whnf
     by_cases a2:0≤x.vote∧x.vote≤5
     ·refine ACalls.mono (rwithin_yes h3 a2) ?_;rintro _ _ ⟨rfl,rfl⟩;conv=>whnf
      exact ⟨by rw [hR];simp,s3⟩
     ·refine ACalls.mono (rwithin_no h3 a2) ?_;rintro _ _ ⟨rfl,rfl⟩;conv=>whnf
      exact ⟨by rw [hR];simp,s3⟩
    ·refine ACalls.mono (rwithin_no h3 a1) ?_;rintro _ _ ⟨rfl,rfl⟩;conv=>whnf
     exact ⟨by rw [hR];simp,s3⟩
   | false =>
    rintro _ _ ⟨rfl,rfl⟩
    conv=>whnf
    refine ALoad.one rfl k13 rfl ?_;conv=>whnf
    by_cases a1:0≤x.term∧x.term≤9007199254740991
    ·refine ACalls.mono (rwithin_yes h3 a1) ?_;rintro _ _ ⟨rfl,rfl⟩;conv=>whnf
     refine ALoad.one rfl k13 rfl ?_;conv=>whnf
     by_cases a2:0≤x.vote∧x.vote≤5
     ·refine ACalls.mono (rwithin_yes h3 a2) ?_;rintro _ _ ⟨rfl,rfl⟩;conv=>whnf
      first
       |exact ⟨by rw [hR,HS];simp,s3⟩
       |refine ALoad.one rfl k13 rfl ?_
        conv=>whnf
        refine ACalls.mono hcm ?_
        clear hcm
        cases W with
        | false =>
         rintro _ _ ⟨rfl,rfl⟩
         conv=>whnf
         exact ⟨by rw [hR];simp,s3⟩
        | true =>
         rintro _ _ ⟨rfl,rfl⟩
         conv=>whnf
         exact ⟨by rw [hR,HS,show numB x.term=true from decide_eq_true a1,decide_eq_true a2];rfl,s3⟩
     ·refine ACalls.mono (rwithin_no h3 a2) ?_;rintro _ _ ⟨rfl,rfl⟩;conv=>whnf
      exact ⟨by rw [hR,decide_eq_false a2];simp,s3⟩
    ·refine ACalls.mono (rwithin_no h3 a1) ?_;rintro _ _ ⟨rfl,rfl⟩;conv=>whnf
     exact ⟨by rw [hR,show numB x.term=false from decide_eq_false a1];simp,s3⟩
 ·refine ACmp.no (c1) ?_;conv=>whnf
  refine ALoad.one rfl k3 rfl ?_;conv=>whnf
  rw [decide_eq_false (fun c=>c1 c.1),Bool.false_or] at hS
  by_cases c5:0<x.si
  ·refine ACmp.yes (c5) ?_;conv=>whnf
   refine ALoad.one rfl k3 rfl ?_
   refine ALoad.one rfl k13 rfl ?_;conv=>whnf
   by_cases c6:1≤x.st∧x.st≤x.term
   ·refine ACalls.mono (rwithin_yes h3 c6) ?_;rintro _ _ ⟨rfl,rfl⟩;conv=>whnf
    refine ALoad.one rfl k3 rfl ?_;conv=>whnf
    refine ACalls.mono (Check_any h3 x.sc hc0 hc1) ?_;rintro _ _ ⟨rfl,rfl⟩;conv=>whnf
    by_cases c7:cchk x.sc=0
    ·refine ACmp.yes (c7) ?_;conv=>whnf
     have HS:S=true:=by rw [hS,decide_eq_true c5,decide_eq_true c6,decide_eq_true c7];rfl
     refine ALoad.one rfl k13 rfl ?_;conv=>whnf
     refine ACalls.mono hlate ?_
     clear hlate
     cases L with
     | true =>
      rintro _ _ ⟨rfl,rfl⟩
      conv=>whnf
      refine ALoad.one rfl k13 rfl ?_;conv=>whnf
      by_cases a1:0≤x.term∧x.term≤9007199254740991
      ·refine ACalls.mono (rwithin_yes h3 a1) ?_;rintro _ _ ⟨rfl,rfl⟩;conv=>whnf
       refine ALoad.one rfl k13 rfl ?_;conv=>whnf
       by_cases a2:0≤x.vote∧x.vote≤5
       ·refine ACalls.mono (rwithin_yes h3 a2) ?_;rintro _ _ ⟨rfl,rfl⟩;conv=>whnf
        exact ⟨by rw [hR];simp,s3⟩
       ·refine ACalls.mono (rwithin_no h3 a2) ?_;rintro _ _ ⟨rfl,rfl⟩;conv=>whnf
        exact ⟨by rw [hR];simp,s3⟩
      ·refine ACalls.mono (rwithin_no h3 a1) ?_;rintro _ _ ⟨rfl,rfl⟩;conv=>whnf
       exact ⟨by rw [hR];simp,s3⟩
     | false =>
      rintro _ _ ⟨rfl,rfl⟩
      conv=>whnf
      refine ALoad.one rfl k13 rfl ?_;conv=>whnf
      by_cases a1:0≤x.term∧x.term≤9007199254740991
      ·refine ACalls.mono (rwithin_yes h3 a1) ?_;rintro _ _ ⟨rfl,rfl⟩;conv=>whnf
       refine ALoad.one rfl k13 rfl ?_;conv=>whnf
       by_cases a2:0≤x.vote∧x.vote≤5
       ·refine ACalls.mono (rwithin_yes h3 a2) ?_;rintro _ _ ⟨rfl,rfl⟩;conv=>whnf
        first
         |exact ⟨by rw [hR,HS];simp,s3⟩
         |refine ALoad.one rfl k13 rfl ?_
          conv=>whnf
          refine ACalls.mono hcm ?_
          clear hcm
          cases W with
          | false =>
           rintro _ _ ⟨rfl,rfl⟩
           conv=>whnf
           exact ⟨by rw [hR];simp,s3⟩
          | true =>
           rintro _ _ ⟨rfl,rfl⟩
           conv=>whnf
           exact ⟨by rw [hR,HS,show numB x.term=true from decide_eq_true a1,decide_eq_true a2];rfl,s3⟩
       ·refine ACalls.mono (rwithin_no h3 a2) ?_;rintro _ _ ⟨rfl,rfl⟩;conv=>whnf
        exact ⟨by rw [hR,decide_eq_false a2];simp,s3⟩
      ·refine ACalls.mono (rwithin_no h3 a1) ?_;rintro _ _ ⟨rfl,rfl⟩;conv=>whnf
       exact ⟨by rw [hR,show numB x.term=false from decide_eq_false a1];simp,s3⟩
    ·refine ACmp.no (c7) ?_;conv=>whnf
     have HS:S=false:=by rw [hS,decide_eq_false c7];simp
     refine ALoad.one rfl k13 rfl ?_;conv=>whnf
     refine ACalls.mono hlate ?_
     clear hlate
     cases L with
     | true =>
      rintro _ _ ⟨rfl,rfl⟩
      conv=>whnf
      refine ALoad.one rfl k13 rfl ?_;conv=>whnf
      by_cases a1:0≤x.term∧x.term≤9007199254740991
      ·refine ACalls.mono (rwithin_yes h3 a1) ?_;rintro _ _ ⟨rfl,rfl⟩;conv=>whnf
       refine ALoad.one rfl k13 rfl ?_;conv=>whnf
       by_cases a2:0≤x.vote∧x.vote≤5
       ·refine ACalls.mono (rwithin_yes h3 a2) ?_;rintro _ _ ⟨rfl,rfl⟩;conv=>whnf
        exact ⟨by rw [hR];simp,s3⟩
       ·refine ACalls.mono (rwithin_no h3 a2) ?_;rintro _ _ ⟨rfl,rfl⟩;conv=>whnf
        exact ⟨by rw [hR];simp,s3⟩
      ·refine ACalls.mono (rwithin_no h3 a1) ?_;rintro _ _ ⟨rfl,rfl⟩;conv=>whnf
       exact ⟨by rw [hR];simp,s3⟩
     | false =>
      rintro _ _ ⟨rfl,rfl⟩
      conv=>whnf
      refine ALoad.one rfl k13 rfl ?_;conv=>whnf
      by_cases a1:0≤x.term∧x.term≤9007199254740991
      ·refine ACalls.mono (rwithin_yes h3 a1) ?_;rintro _ _ ⟨rfl,rfl⟩;conv=>whnf
       refine ALoad.one rfl k13 rfl ?_;conv=>whnf
       by_cases a2:0≤x.vote∧x.vote≤5
       ·refine ACalls.mono (rwithin_yes h3 a2) ?_;rintro _ _ ⟨rfl,rfl⟩;conv=>whnf
        first
         |exact ⟨by rw [hR,HS];simp,s3⟩
         |refine ALoad.one rfl k13 rfl ?_
          conv=>whnf
          refine ACalls.mono hcm ?_
          clear hcm
          cases W with
          | false =>
           rintro _ _ ⟨rfl,rfl⟩
           conv=>whnf
           exact ⟨by rw [hR];simp,s3⟩
          | true =>
           rintro _ _ ⟨rfl,rfl⟩
           conv=>whnf
           exact ⟨by rw [hR,HS,show numB x.term=true from decide_eq_true a1,decide_eq_true a2];rfl,s3⟩
       ·refine ACalls.mono (rwithin_no h3 a2) ?_;rintro _ _ ⟨rfl,rfl⟩;conv=>whnf
        exact ⟨by rw [hR,decide_eq_false a2];simp,s3⟩
      ·refine ACalls.mono (rwithin_no h3 a1) ?_;rintro _ _ ⟨rfl,rfl⟩;conv=>whnf
       exact ⟨by rw [hR,show numB x.term=false from decide_eq_false a1];simp,s3⟩
   ·refine ACalls.mono (rwithin_no h3 c6) ?_;rintro _ _ ⟨rfl,rfl⟩;conv=>whnf
    have HS:S=false:=by rw [hS,decide_eq_false c6];simp
    refine ALoad.one rfl k13 rfl ?_;conv=>whnf
    refine ACalls.mono hlate ?_
    clear hlate
    cases L with
    | true =>
     rintro _ _ ⟨rfl,rfl⟩
     conv=>whnf
     refine ALoad.one rfl k13 rfl ?_;conv=>whnf
     by_cases a1:0≤x.term∧x.term≤9007199254740991
     ·refine ACalls.mono (rwithin_yes h3 a1) ?_;rintro _ _ ⟨rfl,rfl⟩;conv=>whnf
      refine ALoad.one rfl k13 rfl ?_;conv=>whnf
      by_cases a2:0≤x.vote∧x.vote≤5
      ·refine ACalls.mono (rwithin_yes h3 a2) ?_;rintro _ _ ⟨rfl,rfl⟩;conv=>whnf
       exact ⟨by rw [hR];simp,s3⟩
      ·refine ACalls.mono (rwithin_no h3 a2) ?_;rintro _ _ ⟨rfl,rfl⟩;conv=>whnf
       exact ⟨by rw [hR];simp,s3⟩
     ·refine ACalls.mono (rwithin_no h3 a1) ?_;rintro _ _ ⟨rfl,rfl⟩;conv=>whnf
      exact ⟨by rw [hR];simp,s3⟩
    | false =>
     rintro _ _ ⟨rfl,rfl⟩
     conv=>whnf
     refine ALoad.one rfl k13 rfl ?_;conv=>whnf
     by_cases a1:0≤x.term∧x.term≤9007199254740991
     ·refine ACalls.mono (rwithin_yes h3 a1) ?_;rintro _ _ ⟨rfl,rfl⟩;conv=>whnf
      refine ALoad.one rfl k13 rfl ?_;conv=>whnf
      by_cases a2:0≤x.vote∧x.vote≤5
      ·refine ACalls.mono (rwithin_yes h3 a2) ?_;rintro _ _ ⟨rfl,rfl⟩;conv=>whnf
       first
        |exact ⟨by rw [hR,HS];simp,s3⟩
        |refine ALoad.one rfl k13 rfl ?_
         conv=>whnf
         refine ACalls.mono hcm ?_
         clear hcm
         cases W with
         | false =>
          rintro _ _ ⟨rfl,rfl⟩
          conv=>whnf
          exact ⟨by rw [hR];simp,s3⟩
         | true =>
          rintro _ _ ⟨rfl,rfl⟩
          conv=>whnf
          exact ⟨by rw [hR,HS,show numB x.term=true from decide_eq_true a1,decide_eq_true a2];rfl,s3⟩
      ·refine ACalls.mono (rwithin_no h3 a2) ?_;rintro _ _ ⟨rfl,rfl⟩;conv=>whnf
       exact ⟨by rw [hR,decide_eq_false a2];simp,s3⟩
     ·refine ACalls.mono (rwithin_no h3 a1) ?_;rintro _ _ ⟨rfl,rfl⟩;conv=>whnf
      exact ⟨by rw [hR,show numB x.term=false from decide_eq_false a1];simp,s3⟩
  ·refine ACmp.no (c5) ?_;conv=>whnf
   have HS:S=false:=by rw [hS,decide_eq_false c5];simp
   refine ALoad.one rfl k13 rfl ?_;conv=>whnf
   refine ACalls.mono hlate ?_
   clear hlate
   cases L with
   | true =>
    rintro _ _ ⟨rfl,rfl⟩
    conv=>whnf
    refine ALoad.one rfl k13 rfl ?_;conv=>whnf
    by_cases a1:0≤x.term∧x.term≤9007199254740991
    ·refine ACalls.mono (rwithin_yes h3 a1) ?_;rintro _ _ ⟨rfl,rfl⟩;conv=>whnf
     refine ALoad.one rfl k13 rfl ?_;conv=>whnf
     by_cases a2:0≤x.vote∧x.vote≤5
     ·refine ACalls.mono (rwithin_yes h3 a2) ?_;rintro _ _ ⟨rfl,rfl⟩;conv=>whnf
      exact ⟨by rw [hR];simp,s3⟩
     ·refine ACalls.mono (rwithin_no h3 a2) ?_;rintro _ _ ⟨rfl,rfl⟩;conv=>whnf
      exact ⟨by rw [hR];simp,s3⟩
    ·refine ACalls.mono (rwithin_no h3 a1) ?_;rintro _ _ ⟨rfl,rfl⟩;conv=>whnf
     exact ⟨by rw [hR];simp,s3⟩
   | false =>
    rintro _ _ ⟨rfl,rfl⟩
    conv=>whnf
    refine ALoad.one rfl k13 rfl ?_;conv=>whnf
    by_cases a1:0≤x.term∧x.term≤9007199254740991
    ·refine ACalls.mono (rwithin_yes h3 a1) ?_;rintro _ _ ⟨rfl,rfl⟩;conv=>whnf
     refine ALoad.one rfl k13 rfl ?_;conv=>whnf
     by_cases a2:0≤x.vote∧x.vote≤5
     ·refine ACalls.mono (rwithin_yes h3 a2) ?_;rintro _ _ ⟨rfl,rfl⟩;conv=>whnf
      first
       |exact ⟨by rw [hR,HS];simp,s3⟩
       |refine ALoad.one rfl k13 rfl ?_
        conv=>whnf
        refine ACalls.mono hcm ?_
        clear hcm
        cases W with
        | false =>
         rintro _ _ ⟨rfl,rfl⟩
         conv=>whnf
         exact ⟨by rw [hR];simp,s3⟩
        | true =>
         rintro _ _ ⟨rfl,rfl⟩
         conv=>whnf
         exact ⟨by rw [hR,HS,show numB x.term=true from decide_eq_true a1,decide_eq_true a2];rfl,s3⟩
     ·refine ACalls.mono (rwithin_no h3 a2) ?_;rintro _ _ ⟨rfl,rfl⟩;conv=>whnf
      exact ⟨by rw [hR,decide_eq_false a2];simp,s3⟩
    ·refine ACalls.mono (rwithin_no h3 a1) ?_;rintro _ _ ⟨rfl,rfl⟩;conv=>whnf
     exact ⟨by rw [hR,show numB x.term=false from decide_eq_false a1];simp,s3⟩
set_option maxHeartbeats 8000000 in
theorem New_any' {h:Heap} (o:Nat) (ho:o≠0) (self first:Int) {t1 t2 t3:Tag} {x:SH} (draw:Int) (k:x.Ok h t1 t2 t3) (tn1:t1.1≠o+1) (tn2:t2.1≠o+1) (tn3:t3.1≠o+1) (by_:∀ e∈x.es,∀ z∈e.data,0≤z∧z<256)
  (hf0 : -9223372036854775808≤first) (hf1:first≤9223372036854775807) (hc0 : -9223372036854775808≤x.sc) (hc1:x.sc≤9223372036854775807) (hn:x.e.n*48≤140737488355328) (hdn:x.d.n≤140737488355328) :
  ACalls PR 32 #[I self,I first, .agg x.cells.toArray,I draw] h (fun v h'=>(cnewOk self first x.abs draw=false∧v = .tuple #[.pointer none,I 2]∧Keep (o+1) h h') ∨
   (cnewOk self first x.abs draw=true∧∃ p,v = .tuple #[Ptr p,I 0]∧PIdle h' p o (cnew self first x.abs draw)∧Keep (o+1) h h')):=by
 have hlen:x.es.length=x.e.n:=k.es.len
 have hR:cnewOk self first x.abs draw=(decide (1≤self∧self≤5)&&decide (cchk first=0)&&decide (0≤draw)&&x.abs.may&&okBase x.si x.st&&decide (((lnew x.si x.st).append (x.es.map EH.abs)).1=0)):=rfl
 obtain ⟨R,hR'⟩:∃ R,R=cnewOk self first x.abs draw:=⟨_,rfl⟩
 rw [← hR']
 rw [← hR'] at hR
 refine acalls_of mix Tryz.func32 rfl rfl Tryz.ntmps32 Tryz.results32 rfl ?_;conv=>whnf
 refine ABox.mkN (0,1) (x.cells) rfl fun b6 h1 n1 s1 k1=>?_;conv=>whnf
 have k':x.Ok h1 t1 t2 t3:=⟨k.es.sub s1,k.sd.sub s1⟩
 by_cases a1:1≤self∧self≤5
 ·refine ACalls.mono (rwithin_yes h1 a1) ?_;rintro _ _ ⟨rfl,rfl⟩;conv=>whnf
  refine ACalls.mono (Check_any h1 first hf0 hf1) ?_;rintro _ _ ⟨rfl,rfl⟩;conv=>whnf
  by_cases a2:cchk first=0
  ·refine ACmp.no ((by simpa using a2)) ?_;conv=>whnf
   by_cases a3:draw<0
   ·refine ACmp.yes (a3) ?_;conv=>whnf
    have HN:decide (0≤draw)=false:=decide_eq_false (by omega)
    exact .inl ⟨by rw [hR,HN];simp,rfl,s1.keep _⟩
   ·refine ACmp.no (a3) ?_;conv=>whnf
    refine ALoad.agg rfl k1 rfl rfl ?_;conv=>whnf
    refine ACalls.mono (savedMay_any k' by_ hc0 hc1 (by omega)) ?_
    cases a4:x.abs.may with
    | false =>
     rintro _ _ ⟨rfl,rfl⟩
     conv=>whnf
     have HN:=a4
     exact .inl ⟨by rw [hR,HN];simp,rfl,s1.keep _⟩
    | true =>
     rintro _ _ ⟨rfl,rfl⟩
     conv=>whnf
     refine ALoad.one rfl k1 rfl ?_
     refine ALoad.one rfl k1 rfl ?_;conv=>whnf
     refine ACalls.mono (New_c h1 (o+1) (by omega) x.si x.st) ?_
     rintro v h2 (⟨a5,lp,rfl,l2,s2⟩ | ⟨a5,rfl,s2⟩)
     ·conv=>whnf
      refine ACmp.no ((by decide)) ?_;conv=>whnf
      refine ALoad.one rfl (s2 _ _ k1) rfl ?_;conv=>whnf
      have lo2:LOk (lnew x.si x.st):=LOk.new (okBase_bd a5).1 (okBase_bd a5).2
      refine ACalls.mono (Append_c (by omega:o+1≠0) l2 lo2 tn1 tn2 (k'.es.sub s2) (by simp [lnew];omega)) ?_;rintro _ h3 ⟨rfl,l3,kk3⟩;conv=>whnf
      have k13:=kk3.get (by simp) (s2 _ _ k1)
      have KK3:Keep (o+1) h h3:=((s1.trans s2).keep _).trans kk3
      by_cases a6:((lnew x.si x.st).append (x.es.map EH.abs)).1=0
      ·refine ACmp.no ((by simpa using a6)) ?_;conv=>whnf
       refine ADrawn.mkO ((few h3 [b6])) [] [0,1,2,3,4,5,6,7,9,10,11,12,13,8,14,15,16,17,18] (few_sub _ _) (by decide +kernel) ?_;conv=>whnf
       refine ALoad.one rfl ((few_at (by simp)).trans k13) rfl ?_
       refine ALoad.one rfl ((few_at (by simp)).trans k13) rfl ?_
       refine ALoad.agg rfl ((few_at (by simp)).trans k13) rfl rfl ?_
       refine ALoad.one rfl ((few_at (by simp)).trans k13) rfl ?_;conv=>whnf
       have sd3:Sl h3 t3 x.d.a x.d.n x.d.c 1 (bytesV x.data):=(k.sd.sub (s1.trans s2)).keep kk3 tn3
       refine ACalls.mono (cloned_any h3 (o,3) (fun c=>ho (congrArg Prod.fst c)) (i:=x.si) (tm:=x.st) (cr:=x.sc) (d:=x.d) sd3 hdn) ?_
       rintro v h4 ⟨a',c',rfl,ow4,s4⟩
       refine ⟨(few_sub _ _).trans s4,?_⟩;conv=>whnf
       refine ACalls.mono (waits_any h4 draw (by omega)) ?_;rintro _ _ ⟨rfl,rfl⟩;conv=>whnf
       refine ⟨(few_sub _ _).trans s4,?_⟩;conv=>whnf
       refine ABox.mkN (o,0) (coreCells (cnew self first x.abs draw) ⟨⟨a',x.d.n,c'⟩,lp,0,0,0,slv0,ox0⟩) rfl fun p h5 n5 s5 k5=>?_;conv=>whnf
       refine ⟨((few_sub _ _).trans s4).trans s5,?_⟩;conv=>whnf
       refine .inr ⟨by rw [hR,decide_eq_true a1,decide_eq_true a2,decide_eq_true (show 0≤draw by omega),a4,a5,decide_eq_true a6];rfl,p,rfl,⟨⟨⟨a',x.d.n,c'⟩,lp,0,0,0,slv0,ox0⟩,k5,Own.sub ow4 s5,Moves.move l3 fun _ _ _ _ e=>s5 _ _ (s4 _ _ e), .inl ⟨rfl,rfl,rfl⟩,rfl,fun h' oo=>OutOk.zero h' oo⟩,KK3.trans ((s4.trans s5).keep _)⟩
      ·refine ACmp.yes (a6) ?_;conv=>whnf
       exact .inl ⟨by rw [hR,decide_eq_false a6];simp,rfl,KK3⟩
     ·conv=>whnf
      refine ACmp.yes ((by decide)) ?_;conv=>whnf
      exact .inl ⟨by rw [hR,a5];simp,rfl,(s1.trans s2).keep _⟩
  ·refine ACmp.yes (a2) ?_;conv=>whnf
   have HN:decide (cchk first=0)=false:=decide_eq_false a2
   exact .inl ⟨by rw [hR,HN];simp,rfl,s1.keep _⟩
 ·refine ACalls.mono (rwithin_no h1 a1) ?_;rintro _ _ ⟨rfl,rfl⟩;conv=>whnf
  have HN:decide (1≤self∧self≤5)=false:=decide_eq_false a1
  exact .inl ⟨by rw [hR,HN];simp,rfl,s1.keep _⟩
abbrev RX:=CoreX 98 RL
def SaysOk (l:List Abs):Prop:=∀ e∈l,e.2.2.1=2→crewOk e=true∧∀ x∈e.2.2.2,0≤x∧x<256
theorem crewOk_one {e:Abs} (h:crewOk e=true):∃ x,e.2.2.2=[x]∧crewNum e=x:=by
 unfold crewOk at h
 split at h
 ·rename_i x hx;exact ⟨x,hx,by unfold crewNum;rw [hx]⟩
 ·cases h
theorem rlast_any {h:Heap} {p o oo:Nat} {c:CoreM} {x:CX} (k:RX h p o oo c x) (lo:LOk c.log):ACalls PR 100 #[Ptr p] h (fun v h'=>v = .tuple #[I c.log.last.1,I c.log.last.2]∧h=h'):=by
 refine acalls_pure (acalls_of mix Tryz.func100 rfl rfl Tryz.ntmps100 Tryz.results100 rfl ?_);conv=>whnf
 refine ALoad.one rfl k.str rfl ?_;conv=>whnf
 refine ACalls.mono (rLast_c k.log lo) ?_;rintro _ _ ⟨rfl,rfl⟩;conv=>whnf
 exact ⟨rfl,Sub.refl _⟩
theorem rcrewUpTo_any {h:Heap} {p o oo:Nat} {c:CoreM} {x:CX} (k:RX h p o oo c x) (lo:LOk c.log) (by_:SaysOk c.log.es) (i:Int) (hi:i≤c.log.bi+c.log.es.length) :
  ACalls PR 107 #[Ptr p,I i] h (fun v h'=>v = .tuple #[I (c.crewUpTo i).1,I (c.crewUpTo i).2]∧h=h'):=by
 have htop:=lo.top
 have hlo:=lo.lo
 refine acalls_pure (acalls_of mix Tryz.func107 rfl rfl Tryz.ntmps107 Tryz.results107 rfl ?_);conv=>whnf
 refine ALoop.mk (fun e h'=>Sub h h'∧∃ e0,∃ j:Int,e=updL 56 e0 [(0,Ptr p),(6,I j)]∧j≤c.log.bi+c.log.es.length∧crewIn c.log (j-c.log.bi).toNat=crewIn c.log (i-c.log.bi).toNat) (fun e=>natOf (e 6))
  ⟨Sub.refl _,_,i,updL_self ⟨rfl,rfl,trivial⟩,hi,rfl⟩ ?_
 rintro e h2 ⟨s2,e0,j,rfl,hj,hin⟩
 have k2:=k.sub s2
 conv=>whnf
 refine ALoad.one rfl k2.str rfl ?_;conv=>whnf
 refine ACalls.mono (rFirst_c k2.log lo) ?_;rintro _ _ ⟨rfl,rfl⟩;conv=>whnf
 by_cases c1:c.log.bi+1≤j
 ·refine ACmp.yes (c1) ?_;conv=>whnf
  obtain ⟨ab,hab⟩:=spot_some_of (L:=c.log) (i:=j) (by omega) hj
  obtain ⟨q1,q2,q3⟩:=LG.spot_some hab
  obtain ⟨m,hm⟩:∃ m:Nat,(j-c.log.bi).toNat=m+1:=⟨(j-c.log.bi).toNat-1,by omega⟩
  have hm1:(j-c.log.bi-1).toNat=m:=by omega
  have hjm:j=c.log.bi+1+m:=by omega
  rw [hm1] at q3
  rw [hm,crewIn,q3] at hin
  simp only [] at hin
  refine ALoad.one rfl k2.str rfl ?_;conv=>whnf
  refine ACalls.mono (rGet_c k2.log lo (0,2) (by decide) j) ?_;rintro _ h3 ⟨ge,rfl,gm,gabs,gn,s3⟩;conv=>whnf
  rw [LG.get,hab] at gabs ⊢
  simp only [] at gabs
  refine AAlloc.mkN (0,1) ([I 0,I 0,I 0, .slice none 0 0]) rfl fun b7 h4 n4 s4 k4=>?_;conv=>whnf
  refine AStore.aggN rfl rfl rfl (k4) rfl (ge.cells) rfl fun h5 t5 k5 a5 e5=>?_;conv=>whnf
  have n3:h3 b7=none:=n4
  have n2:h b7=none:=by
   cases e:h b7 with
   | none=>rfl
   | some y=>rw [s3 _ _ (s2 _ _ e)] at n4;cases n4
  have s5:Sub h h5:=a5 h ((s2.trans s3).trans s4) n2
  have gm5:=Own.sub gm (a5 h3 s4 n3)
  refine ACmp.yes (rfl) ?_;conv=>whnf
  refine ALoad.one rfl k5 rfl ?_;conv=>whnf
  have gk:ge.kind=ab.2.2.1:=by rw [← gabs];rfl
  by_cases c2:ab.2.2.1=2
  ·refine ACmp.yes (by rw [gk];exact c2) ?_;conv=>whnf
   rw [if_pos c2] at hin
   obtain ⟨cok,hby⟩:=by_ ab (List.mem_of_getElem? q3) c2
   obtain ⟨z,hz,hzn⟩:=crewOk_one cok
   rw [hz] at hby
   have hzb:=hby z (by simp)
   have hgd:ge.data=[z]:=by rw [← hz,← gabs];rfl
   have hgn:ge.n=1:=by have:=gm5.sl.len;rw [hgd] at this;simpa [bytesV] using this.symm
   obtain ⟨b,off,l,E,fz,ea,hbk,hc⟩:=gm5.sl.pos (by omega)
   have g0:l[off+0*1]? = some (.int .u8 z):=by rw [get_of_take hc (by omega),hgd];rfl
   refine ALoad.one rfl k5 rfl ?_;conv=>whnf
   rw [ea]
   refine AIdx.nat (z:=1) (j:=0) rfl (by omega) rfl rfl ?_;conv=>whnf
   refine ALoad.one rfl hbk g0 ?_;conv=>whnf
   refine AArith.as (i64_wrap (by omega) (by omega)) ?_;conv=>whnf
   refine ⟨?_,s5⟩
   unfold CoreM.crewUpTo
   rw [← hin]
   simp only [hzn,← hjm]
  ·refine ACmp.no (by rw [gk];exact c2) ?_;conv=>whnf
   rw [if_neg c2] at hin
   refine AArith.ok (by omega) (by omega) (rfl) ?_;conv=>whnf
   refine ⟨⟨s5,_,j-1,updL_self ⟨rfl,rfl,trivial⟩,by omega,by rw [← hin];congr 1;omega⟩,?_⟩
   show (j-1).toNat<j.toNat
   omega
 ·refine ACmp.no (c1) ?_;conv=>whnf
  have hin0:crewIn c.log (i-c.log.bi).toNat=none:=by rw [← hin,show (j-c.log.bi).toNat=0 by omega];rfl
  refine ALoad.one rfl k2.str rfl ?_;conv=>whnf
  unfold CoreM.crewUpTo
  rw [hin0]
  by_cases c3:0<c.snap.index
  ·refine ACmp.yes (c3) ?_;conv=>whnf
   refine ALoad.one rfl k2.str rfl ?_;conv=>whnf
   exact ⟨by simp [c3],s2⟩
  ·refine ACmp.no (c3) ?_;conv=>whnf
   refine ALoad.one rfl k2.str rfl ?_;conv=>whnf
   exact ⟨by simp [c3],s2⟩
theorem rcrew_any {h:Heap} {p o oo:Nat} {c:CoreM} {x:CX} (k:RX h p o oo c x) (lo:LOk c.log) (by_:SaysOk c.log.es) :
  ACalls PR 88 #[Ptr p] h (fun v h'=>v = .tuple #[I c.crewNow.1,I c.crewNow.2]∧h=h'):=by
 refine acalls_pure (acalls_of mix Tryz.func88 rfl rfl Tryz.ntmps88 Tryz.results88 rfl ?_);conv=>whnf
 refine ACalls.mono (rlast_any k lo) ?_;rintro _ _ ⟨rfl,rfl⟩;conv=>whnf
 refine ACalls.mono (rcrewUpTo_any k lo by_ c.log.last.1 (by rw [lo.last];exact Int.le_refl _)) ?_;rintro _ _ ⟨rfl,rfl⟩;conv=>whnf
 exact ⟨rfl,Sub.refl _⟩
def NowOk (c:CoreM):Prop := -9223372036854775808≤c.crewNow.1∧c.crewNow.1≤9223372036854775807
theorem rothers_any {h:Heap} {p o oo:Nat} {c:CoreM} {x:CX} (k:RX h p o oo c x) (lo:LOk c.log) (by_:SaysOk c.log.es) (hn:NowOk c) :
  ACalls PR 154 #[Ptr p] h (fun v h'=>∃ a cp f,v = .slice a c.others.length cp∧Sl h' (f,0) a c.others.length cp 1 (c.others.map I)∧o+1<f∧oo<f∧Sub h h'):=by
 refine ACalls.owner ⟨_,Tryz.func154,rfl,rfl⟩ fun o0 ho0 bnd=>?_
 obtain ⟨f,hf⟩:∃ f,f=o0+o+oo+3:=⟨_,rfl⟩
 have nof:NoOwner f h:=bnd.no (by omega)
 refine (?_:ACalls PR 154 _ h (fun v h'=>(∃ a cp,v = .slice a c.others.length cp∧Sl h' (f,0) a c.others.length cp 1 (c.others.map I))∧Keep f h h')).mono fun v h' ⟨⟨a,cp,e,s⟩,kk⟩=>⟨a,cp,f,e,s,by omega,by omega,kk.toSub nof⟩
 refine acalls_of mix Tryz.func154 rfl rfl Tryz.ntmps154 Tryz.results154 rfl ?_;conv=>whnf
 refine ACalls.mono (rcrew_any k lo by_) ?_;rintro _ _ ⟨rfl,rfl⟩;conv=>whnf
 have nof1:NoOwner (f+1) h:=bnd.no (by omega)
 refine ACalls.mono (refList_own _ c.crewNow.1 hn.1 hn.2 (f+1) nof1) ?_;rintro _ h2 ⟨al,cl,rfl,ow,s2⟩;conv=>whnf
 obtain ⟨L,hL⟩:∃ L,L=ls (m5 c.crewNow.1):=⟨_,rfl⟩
 have hLl:L.length≤5:=by rw [hL];exact lsTo_len _ 5
 have hoth:c.others=L.filter fun n=>decide (n≠c.self):=by rw [hL];rfl
 rw [← hL] at ow ⊢
 rw [hoth]
 refine ALoop.mk (fun e h'=>∃ e0,∃ j:Nat,∃ a cp,e=updL 38 e0 [(0,Ptr p),(5, .slice al L.length cl),(6, .slice a ((L.take j).filter fun n=>decide (n≠c.self)).length cp),(7,I j)]∧j≤L.length ∧
   Own h' (f,0) 3 a ((L.take j).filter fun n=>decide (n≠c.self)).length cp 1 (((L.take j).filter fun n=>decide (n≠c.self)).map I)∧Keep f h2 h') (fun e=>L.length-natOf (e 7))
  ⟨_,0,none,0,updL_self ⟨rfl,rfl,rfl,rfl,trivial⟩,by omega, .inl ⟨rfl,rfl,rfl⟩,Keep.refl _ _⟩ ?_
 rintro e h3 ⟨e0,j,a,cp,rfl,hj,ow3,kk3⟩
 have q3:h3 p=_:=kk3.get (by simp;omega) (s2 _ _ k.str)
 have sl3:=ow.sl.keep kk3 (by simp)
 conv=>whnf
 by_cases hjn:j<L.length
 ·refine ACmp.yes (by omega) ?_;conv=>whnf
  obtain ⟨n,hnj⟩:∃ n,L[j]? = some n:=⟨L[j]'hjn,by simp⟩
  obtain ⟨b,off,l,E,fz,ea,hb,hc⟩:=sl3.pos (by omega)
  have g0:l[off+j*1]? = some (I n):=by rw [get_of_take hc (by omega),Nat.mul_one];simp [hnj]
  have htk:L.take (j+1)=L.take j++[n]:=by rw [List.take_succ_eq_append_getElem hjn,(List.getElem?_eq_some_iff.1 hnj).2]
  have hfl:((L.take j).filter fun n=>decide (n≠c.self)).length≤5:=Nat.le_trans (List.length_filter_le _ _) (by simp;omega)
  refine ADrawn.mk (h3) [] (Sub.refl _) (by decide +kernel) ?_;conv=>whnf
  rw [ea]
  refine AIdx.nat (z:=1) (j:=j) rfl hjn rfl rfl ?_;conv=>whnf
  refine ALoad.one rfl hb g0 ?_
  refine ALoad.one rfl q3 rfl ?_;conv=>whnf
  by_cases cs:n=c.self
  ·refine ACmp.no (by simp [cs]) ?_;conv=>whnf
   have e1:(L.take (j+1)).filter (fun n=>decide (n≠c.self))=(L.take j).filter (fun n=>decide (n≠c.self)):=by rw [htk,List.filter_append];simp [cs]
   refine AArith.ok (by omega) (by omega) ((by omega:(j:Int)+1=((j+1:Nat):Int))) ?_;conv=>whnf
   refine ⟨⟨_,j+1,a,cp,updL_self ⟨rfl,rfl,by rw [e1];rfl,rfl,trivial⟩,by omega,by rw [e1];exact ow3,kk3⟩,?_⟩
   show L.length-(j+1)<L.length-j
   omega
  ·refine ACmp.yes (cs) ?_;conv=>whnf
   have e1:(L.take (j+1)).filter (fun n=>decide (n≠c.self))=(L.take j).filter (fun n=>decide (n≠c.self))++[n]:=by rw [htk,List.filter_append];simp [cs]
   refine AIdx.nat (z:=1) (j:=j) rfl hjn rfl rfl ?_;conv=>whnf
   refine ALoad.one rfl hb g0 ?_;conv=>whnf
   refine ABuildSl.mk (0,1) rfl rfl rfl rfl rfl rfl rfl fun b3 f3=>?_;conv=>whnf
   have s3:=f3.sub (row (0,1) [I n] 3)
   refine AAppend.own (t:=(f,0)) (E:=3) (z:=1) (by_:=8) (zero:=[I 0]) (tx:=(0,1)) (xs:=[I n]) rfl ⟨_,rfl⟩ rfl rfl rfl rfl (by omega) (ow3.move fun _ _ z=>s3 _ _ z)
    ⟨rfl,Nat.le_refl _, .inr ⟨b3,0,_,_,_,rfl,Heap.set_same _ _ _,rfl⟩⟩ rfl (by omega) (by omega) fun a5 cap5 h5 hown5 hk5 _=>?_
   conv=>whnf
   refine AArith.ok (by omega) (by omega) ((by omega:(j:Int)+1=((j+1:Nat):Int))) ?_;conv=>whnf
   have e2:((L.take (j+1)).filter fun n=>decide (n≠c.self)).length=((L.take j).filter fun n=>decide (n≠c.self)).length+1:=by rw [e1,List.length_append];rfl
   refine ⟨⟨_,j+1,a5,cap5,updL_self ⟨rfl,rfl,by rw [e2];rfl,rfl,trivial⟩,by omega,?_,kk3.trans ((s3.keep f).trans hk5.keep)⟩,?_⟩
   ·rw [e2,e1,List.map_append];exact hown5
   show L.length-(j+1)<L.length-j
   omega
 ·refine ACmp.no (by omega) ?_;conv=>whnf
  rw [List.take_of_length_le (by omega)] at ow3 ⊢
  exact ⟨⟨a,cp,rfl,ow3.sl⟩,(s2.keep f).trans kk3⟩
theorem rfollow_any {h:Heap} {p o oo:Nat} {c:CoreM} (ho:o≠oo) (k:RCore h p o oo c):ACalls PR 159 #[Ptr p] h (fun v h'=>v = .tuple #[]∧RCore h' p o oo c.follow∧Keep o h h'):=by
 obtain ⟨x,k⟩:=k
 refine acalls_of mix Tryz.func159 rfl rfl Tryz.ntmps159 Tryz.results159 rfl ?_;conv=>whnf
 refine AStore.oneN rfl rfl rfl (k.str) rfl (coreCells {c with state:=0} x) rfl fun h1 t1 k1 a1 e1=>?_;conv=>whnf
 refine AStore.oneN rfl rfl rfl (k1) rfl (coreCells {c with state:=0,votes:=0} x) rfl fun h2 t2 k2 a2 e2=>?_;conv=>whnf
 refine AStore.aggN rfl rfl rfl (k2) rfl (coreCells {c with state:=0,votes:=0,next:=five0} {x with z1:=0}) rfl fun h3 t3 k3 a3 e3=>?_;conv=>whnf
 refine AStore.aggN rfl rfl rfl (k3) rfl (coreCells {c with state:=0,votes:=0,next:=five0,mtch:=five0} {x with z1:=0,z2:=0}) rfl fun h4 t4 k4 a4 e4=>?_;conv=>whnf
 refine AStore.aggN rfl rfl rfl (k4) rfl (coreCells {c with state:=0,votes:=0,next:=five0,mtch:=five0,heard:=five0} {x with z1:=0,z2:=0,z3:=0}) rfl fun h5 t5 k5 a5 e5=>?_;conv=>whnf
 refine AStore.oneN rfl rfl rfl (k5) rfl (coreCells {c with state:=0,votes:=0,next:=five0,mtch:=five0,heard:=five0,beat:=0} {x with z1:=0,z2:=0,z3:=0}) rfl fun h6 t6 k6 a6 e6=>?_;conv=>whnf
 refine AStore.oneN rfl rfl rfl (k6) rfl (coreCells {c with state:=0,votes:=0,next:=five0,mtch:=five0,heard:=five0,beat:=0,round:=0} {x with z1:=0,z2:=0,z3:=0}) rfl fun h7 t7 k7 a7 e7=>?_;conv=>whnf
 refine AStore.oneN rfl rfl rfl (k7) rfl (coreCells c.follow {x with z1:=0,z2:=0,z3:=0,rd:=slv0}) rfl fun h8 t8 k8 a8 e8=>?_;conv=>whnf
 have kt:=t1.trans (t2.trans (t3.trans (t4.trans (t5.trans (t6.trans (t7.trans t8))))))
 exact ⟨rfl,⟨{x with z1:=0,z2:=0,z3:=0,rd:=slv0},k8,k.sd.keepT kt (by simp),KeepT.log k.log kt, .inl ⟨rfl,rfl,rfl⟩,k.out.keepT ho kt⟩,kt.keep⟩
theorem rgreater_any {h:Heap} {p o oo:Nat} {c:CoreM} (ho:o≠oo) (k:RCore h p o oo c) (t:Int):ACalls PR 92 #[Ptr p,I t] h (fun v h'=>v = .tuple #[]∧RCore h' p o oo (c.learn t)∧Keep o h h'):=by
 obtain ⟨x,k⟩:=k
 refine acalls_of mix Tryz.func92 rfl rfl Tryz.ntmps92 Tryz.results92 rfl ?_;conv=>whnf
 refine AStore.oneN rfl rfl rfl (k.str) rfl (coreCells {c with term:=t} x) rfl fun h1 t1 k1 a1 e1=>?_;conv=>whnf
 refine AStore.oneN rfl rfl rfl (k1) rfl (coreCells {c with term:=t,vote:=0} x) rfl fun h2 t2 k2 a2 e2=>?_;conv=>whnf
 refine AStore.oneN rfl rfl rfl (k2) rfl (coreCells {c with term:=t,vote:=0,head:=0} x) rfl fun h3 t3 k3 a3 e3=>?_;conv=>whnf
 refine AStore.oneN rfl rfl rfl (k3) rfl (coreCells {c with term:=t,vote:=0,head:=0,out:={c.out with hard:=true}} x) rfl fun h4 t4 k4 a4 e4=>?_;conv=>whnf
 have kt:=t1.trans (t2.trans (t3.trans t4))
 have k5:RX h4 p o oo {c with term:=t,vote:=0,head:=0,out:={c.out with hard:=true}} x:=k.set' ho kt k4
 refine ACalls.mono (rfollow_any ho ⟨x,k5⟩) ?_;rintro _ h6 ⟨rfl,k6,kk6⟩;conv=>whnf
 exact ⟨rfl,k6,kt.keep.trans kk6⟩
theorem rbegin_any {h:Heap} {p o oo:Nat} {c:CoreM} (ho:o≠oo) (hc:c.out=out0) (k:RCore h p o oo c):ACalls PR 85 #[Ptr p] h (fun v h'=>v = .tuple #[]∧RCore h' p o oo c∧Keep o h h'):=by
 obtain ⟨x,k⟩:=k
 refine acalls_of mix Tryz.func85 rfl rfl Tryz.ntmps85 Tryz.results85 rfl ?_;conv=>whnf
 refine AStore.aggN rfl rfl rfl (k.str) rfl (coreCells {c with out:=out0} {x with ox:=ox0}) rfl fun h1 t1 k1 a1 e1=>?_;conv=>whnf
 rw [show ({c with out:=out0}:CoreM)=c by rw [← hc]] at k1
 exact ⟨rfl,⟨{x with ox:=ox0},k1,k.sd.keepT t1 (by simp),KeepT.log k.log t1,k.rd.keepT t1 (by simp),by rw [hc];exact OutOk.zero _ _⟩,t1.keep⟩
theorem rend_any {h:Heap} {p o oo:Nat} {c:CoreM} (ho:o≠oo) (ho0:o≠0) (hoo:oo≠0) (k:RCore h p o oo c) :
  ACalls PR 87 #[Ptr p] h (fun v h'=>∃ ox,v = .agg (outCells c.done.2 ox).toArray∧OutOk h' oo c.done.2 ox∧(∀ oo2,RCore h' p o oo2 c.done.1)∧Keep o h h'):=by
 obtain ⟨x,k⟩:=k
 refine acalls_of mix Tryz.func87 rfl rfl Tryz.ntmps87 Tryz.results87 rfl ?_;conv=>whnf
 refine AAlloc.mkN (0,1) (outCells out0 ox0) rfl fun b2 h2 n2 s2 k2=>?_;conv=>whnf
 have q2:=k.sub s2
 refine ALoad.agg rfl q2.str rfl rfl ?_;conv=>whnf
 refine AAlloc.mkN (0,1) (outCells out0 ox0) rfl fun b3 h3 n3 s3 k3'=>?_;conv=>whnf
 refine AStore.aggN rfl rfl rfl (k3') rfl (outCells c.out x.ox) rfl fun h4 t4 k3 a4 e4=>?_;conv=>whnf
 have b23:b2≠b3:=fun c=>by rw [c,n3] at k2;cases k2
 have n3:h b3=none:=by
  cases e:h b3 with
  | none=>rfl
  | some y=>rw [s2 _ _ e] at n3;cases n3
 have s4:Sub h h4:=a4 h (s2.trans s3) n3
 have q4:=k.sub s4
 have k24:=e4 _ _ b23 (s3 _ _ k2)
 refine AStore.aggN rfl rfl rfl (q4.str) rfl (coreCells {c with out:=out0} {x with ox:=ox0}) rfl fun h5 t5 p5 _ e5=>?_;conv=>whnf
 have k35:=e5 _ _ (ne_of_tag k3 q4.str (tag_ne ho0)) k3
 have k25:=e5 _ _ (ne_of_tag k24 q4.str (tag_ne ho0)) k24
 have o5:=q4.out.keepT ho t5
 have c5:∀ oo2,RX h5 p o oo2 {c with out:=out0} {x with ox:=ox0}:=fun oo2 =>
  ⟨p5,q4.sd.keepT t5 (by simp),KeepT.log q4.log t5,q4.rd.keepT t5 (by simp),OutOk.zero _ _⟩
 have kk5:Keep o h h5:=(s4.keep o).trans t5.keep
 have b3p:p≠b3:=Ne.symm (ne_of_tag k35 p5 (tag_ne ho0))
 have b2p:p≠b2:=Ne.symm (ne_of_tag k25 p5 (tag_ne ho0))
 refine ALoad.one rfl p5 rfl ?_;conv=>whnf
 refine AStore.oneN rfl rfl rfl (k35) rfl (outCells {c.out with term:=c.term} x.ox) rfl fun h6 t6 k6 a6 e6=>?_;conv=>whnf
 refine ALoad.one rfl (e6 _ _ b3p p5) rfl ?_;conv=>whnf
 refine AStore.oneN rfl rfl rfl (k6) rfl (outCells {c.out with term:=c.term,vote:=c.vote} x.ox) rfl fun h7 t7 k7 a7 e7=>?_;conv=>whnf
 refine ALoad.one rfl (e7 _ _ b3p (e6 _ _ b3p p5)) rfl ?_;conv=>whnf
 refine AStore.oneN rfl rfl rfl (k7) rfl (outCells c.done.2 x.ox) rfl fun h8 t8 k8 a8 e8=>?_;conv=>whnf
 refine ALoad.agg rfl k8 rfl rfl ?_;conv=>whnf
 refine AStore.aggN rfl rfl rfl ((e8 _ _ b23 (e7 _ _ b23 (e6 _ _ b23 k25)))) rfl (outCells c.done.2 x.ox) rfl fun h9 t9 k9 a9 e9=>?_;conv=>whnf
 refine ALoad.agg rfl k9 rfl rfl ?_;conv=>whnf
 have tt:KeepT (0,1) h5 h9:=t6.trans (t7.trans (t8.trans t9))
 have kk:Keep o h h9:=fun b t y ht e=>by
  have e5':=kk5 _ _ _ ht e
  exact e9 _ _ (fun c=>by rw [c,n2] at e;cases e) (e8 _ _ (fun c=>by rw [c,n3] at e;cases e) (e7 _ _ (fun c=>by rw [c,n3] at e;cases e) (e6 _ _ (fun c=>by rw [c,n3] at e;cases e) e5')))
 have c9:∀ oo2,RX h9 p o oo2 {c with out:=out0} {x with ox:=ox0}:=fun oo2 =>
  ⟨tt.get (Ne.symm (tag_ne ho0)) p5,(c5 oo2).sd.keepT tt (Ne.symm (tag_ne ho0)),Moves.move (c5 oo2).log fun _ t _ ht e=>tt _ _ _ (fun c=>by rw [c] at ht;simp at ht) e,(c5 oo2).rd.keepT tt (Ne.symm (tag_ne ho0)),OutOk.zero _ _⟩
 have o9:=o5.keepT (Ne.symm hoo) tt
 exact ⟨x.ox,rfl,⟨o9.od,o9.oe,o9.ed,o9.ea,o9.es,o9.op,o9.ps,o9.pa,o9.qr⟩,fun oo2=>⟨_,c9 oo2⟩,kk⟩
theorem CoreX.pushP {T:TypeId} {LP:Heap→Nat→Nat→LG→Prop} [Moves LP] {h5 h7 h8:Heap} {p o oo:Nat} {c:CoreM} {x:CX} (ho:o≠oo) (ho1:o+1≠oo) (q:CoreX T LP h5 p o oo c x) {n:Int} {ph:PH} (m:ph.Made h5 oo (10+c.out.posts.length)) {a7:Option Addr} {c7:Nat}
  (t7:KeepT (oo,3) h5 h7) (ow7:Own h7 (oo,3) 49 a7 (x.ox.op.n+1) c7 14 ((x.ox.ps.map PH.cells).flatten++PH.cells {ph with src:=c.self,dst:=n,term:=c.term})) (t8:KeepT (o,0) h7 h8)
  (k8:h8 p=some (row (o,0) (coreCells (c.say n ph.abs) {x with ox:={x.ox with op:=⟨a7,x.ox.op.n+1,c7⟩,ps:=x.ox.ps++[{ph with src:=c.self,dst:=n,term:=c.term}]}}) T)):CoreAt T LP h8 p o oo (c.say n ph.abs):=by
 have hpl2:x.ox.ps.length=c.out.posts.length:=by rw [← q.out.pa];simp
 obtain ⟨pm,hpm⟩:∃ pm:PH,pm={ph with src:=c.self,dst:=n,term:=c.term}:=⟨_,rfl⟩
 rw [← hpm] at ow7 k8
 have nt:∀ r:Nat,((oo,r):Tag)≠(o,0):=fun r c=>ho (congrArg Prod.fst c).symm
 have go:∀ r:Nat,r≠3→∀ b y,h5 b=some ((oo,r),y)→h8 b=some ((oo,r),y):=fun r hr b y e=>t8.get (nt r) (t7.get (fun c=>hr (congrArg Prod.snd c)) e)
 have gc:∀ (t:Tag),t.1=o∨t.1=o+1→t≠(o,0)→∀ b y,h5 b=some (t,y)→h8 b=some (t,y):=fun t ht hn b y e=>t8.get hn (t7.get (fun c=>by rw [c] at ht;simp at ht;omega) e)
 refine ⟨_,k8,q.sd.move fun _ _ e=>gc _ (.inl rfl) (by simp) _ _ e,Moves.move q.log fun _ t _ ht e=>gc t (.inr ht) (fun c=>by rw [c] at ht;simp at ht) _ _ e,q.rd.move fun _ _ e=>gc _ (.inl rfl) (by simp) _ _ e,?_⟩
 have mv:∀ (y:PH) (r:Nat),y.Made h5 oo (10+r)→y.Made h8 oo (10+r):=fun y r hy=>hy.move fun b t z ht hr e=>by
  obtain ⟨t1,t2⟩:=t
  simp only at ht hr;subst ht
  exact go t2 (by omega) b z e
 have mp:pm.Made h8 oo (10+x.ox.ps.length):=by
  have:=mv ph _ m
  rw [hpm,hpl2]
  exact ⟨this.es,this.ed,this.sm,this.sd⟩
 refine ⟨q.out.od.move fun _ _ e=>go 6 (by decide) _ _ e,q.out.oe.move fun _ _ e=>go 1 (by decide) _ _ e,fun y hy=>Own.move (q.out.ed y hy) fun _ _ e=>go 2 (by decide) _ _ e,q.out.ea,q.out.es,?_,?_,?_,q.out.qr.move fun _ _ e=>go 7 (by decide) _ _ e⟩
 ·have:=ow7.keepT t8 (nt 3)
  simp only [List.map_append,List.map_cons,List.map_nil,List.flatten_append,List.flatten_cons,List.flatten_nil,List.append_nil]
  exact this
 ·intro i y hy
  rw [List.getElem?_append] at hy
  split at hy
  ·exact mv y i (q.out.ps i y hy)
  ·rename_i hge
   have:i-x.ox.ps.length=0:=by
    have:=(List.getElem?_eq_some_iff.1 hy).1
    simp at this;omega
   rw [this] at hy
   simp only [List.getElem?_cons_zero,Option.some.injEq] at hy
   subst hy
   rw [show i=x.ox.ps.length by omega]
   exact mp
 ·rw [List.map_append,q.out.pa,hpm];rfl
theorem rsay_any {h:Heap} {p o oo:Nat} {c:CoreM} (ho:o≠oo) (ho1:o+1≠oo) (ho0:o≠0) (hoo:oo≠0) (k:RCore h p o oo c) (n:Int) (ph:PH) (hd:ph.dst=n) (m:ph.Made h oo (10+c.out.posts.length)) (hroom:c.out.posts.length≤1000000000) :
  ACalls PR 93 #[Ptr p, .agg ph.cells.toArray] h (fun v h'=>v = .tuple #[]∧RCore h' p o oo (c.say n ph.abs)∧Keeps [o,oo] h h'):=by
 obtain ⟨x,k⟩:=k
 have hpl:x.ox.ps.length=x.ox.op.n:=by
  have:=k.out.op.sl.len
  rw [flat_len (z:=14) (by intro e he;obtain ⟨y,_,rfl⟩:=List.mem_map.1 he;rfl)] at this
  simp at this;omega
 have hpl2:x.ox.ps.length=c.out.posts.length:=by rw [← k.out.pa];simp
 refine acalls_of mix Tryz.func93 rfl rfl Tryz.ntmps93 Tryz.results93 rfl ?_;conv=>whnf
 refine ABox.mkN (0,1) (ph.cells) rfl fun b5 h1 n1 s1 k1=>?_;conv=>whnf
 have q1:=k.sub s1
 have b5p:p≠b5:=Ne.symm (ne_of_tag k1 q1.str (tag_ne ho0))
 refine ALoad.one rfl q1.str rfl ?_;conv=>whnf
 refine AStore.oneN rfl rfl rfl (k1) rfl (({ph with src:=c.self}:PH).cells) rfl fun h2 t2 k2 a2 e2=>?_;conv=>whnf
 refine ALoad.one rfl (e2 _ _ b5p q1.str) rfl ?_;conv=>whnf
 refine AStore.oneN rfl rfl rfl (k2) rfl (({ph with src:=c.self,term:=c.term}:PH).cells) rfl fun h4 t4 k4 a4 e4=>?_;conv=>whnf
 have hpm0:({ph with src:=c.self,term:=c.term}:PH)={ph with src:=c.self,dst:=n,term:=c.term}:=by rw [← hd]
 rw [hpm0] at k4
 have s4:Sub h h4:=a4 h (a2 h s1 n1) n1
 have q4:=k.sub s4
 have m4:=m.sub s4
 clear t2 t4 a2 a4 e2 e4 k2 q1 k1 s1 n1
 refine ADrawn.mk (two h4 p b5) [12] (two_sub _ _ _) (by decide +kernel) ?_;conv=>whnf
 refine ALoad.one rfl ((two_l _ _ _).trans q4.str) rfl ?_
 refine ALoad.agg rfl ((two_r _ _ _).trans k4) rfl rfl ?_;conv=>whnf
 refine ABuildSl.mkN (0,1) (PH.cells {ph with src:=c.self,dst:=n,term:=c.term}) rfl rfl rfl rfl rfl rfl rfl fun b6 h5 n5 s5 k6=>?_;conv=>whnf
 refine ⟨(two_sub _ _ _).trans s5,?_⟩;conv=>whnf
 have q5:=q4.sub s5
 refine AAppend.own (t:=(oo,3)) (E:=49) (z:=14) (by_:=144) (zero:=post0z) (tx:=(0,1)) (xs:=PH.cells {ph with src:=c.self,dst:=n,term:=c.term}) rfl ⟨_,rfl⟩ rfl rfl rfl rfl (by omega) q5.out.op
  ⟨rfl,Nat.le_refl _, .inr ⟨b6,0,_,_,_,rfl,k6,rfl⟩⟩ rfl (by omega) (by omega) fun a7 c7 h7 ow7 t7 _=>?_
 conv=>whnf
 have p7:=t7.get (u:=(o,0)) (fun c=>ho (congrArg Prod.fst c)) q5.str
 have b7:=t7.get (u:=(0,1)) (fun c=>hoo (congrArg Prod.fst c).symm) (s5 _ _ k4)
 refine ⟨two_get (fun y hy=>?_) (fun y hy=>?_),?_⟩
 ·rw [q4.str] at hy;cases hy;exact p7
 ·rw [k4] at hy;cases hy;exact b7
 conv=>whnf
 refine AStore.oneN rfl rfl rfl (p7) rfl (coreCells (c.say n ph.abs) {x with ox:={x.ox with op:=⟨a7,x.ox.op.n+1,c7⟩,ps:=x.ox.ps++[{ph with src:=c.self,dst:=n,term:=c.term}]}}) rfl fun h8 t8 k8 a8 e8=>?_;conv=>whnf
 exact ⟨rfl,CoreX.pushP ho ho1 q5 (m4.sub s5) t7 ow7 t8 k8,((s4.trans s5).keeps _).trans ((t7.keep.keeps2 (.inr rfl)).trans (t8.keep.keeps2 (.inl rfl)))⟩
structure DLk (c:CoreM):Prop where
  lk:LogOk c
  sy:SaysOk c.log.es
  fc:0≤c.first∧c.first≤255
  sc:0≤c.snap.crew∧c.snap.crew≤255
theorem DLk.same {c d:CoreM} (k:DLk c) (h1:d.log=c.log) (h2:d.snap=c.snap) (h3:d.first=c.first):DLk d :=
 ⟨k.lk.same h1 h2,by rw [h1];exact k.sy,by rw [h3];exact k.fc,by rw [h2];exact k.sc⟩
theorem crewIn_byte {L:LG} (s:SaysOk L.es):∀ k r,crewIn L k=some r→0≤r.1∧r.1≤255
 | 0,r,h=>by cases h
 | k+1,r,h=>by
  unfold crewIn at h
  split at h
  ·rename_i e he
   split at h
   ·rename_i h2
    obtain ⟨a,b⟩:=s e (List.mem_of_getElem? he) h2
    obtain ⟨z,hz,hzn⟩:=crewOk_one a
    cases h
    have:=b z (by rw [hz];simp)
    simp only [hzn];omega
   ·exact crewIn_byte s k r h
  ·exact crewIn_byte s k r h
theorem DLk.now {c:CoreM} (k:DLk c):0≤c.crewNow.1∧c.crewNow.1≤255:=by
 unfold CoreM.crewNow CoreM.crewUpTo
 have hf:=k.fc;have hs:=k.sc
 split
 ·rename_i r hr;exact crewIn_byte k.sy _ r hr
 ·split
  ·exact hs
  ·exact hf
theorem DLk.nowOk {c:CoreM} (k:DLk c):NowOk c:=by have:=k.now;exact ⟨by omega,by omega⟩
set_option maxHeartbeats 1000000 in
theorem rsend_any {h:Heap} {p o oo:Nat} {c:CoreM} (ap:Apart o oo) (k:RCore h p o oo c) (lo:LOk c.log) {n:Int} (h1:1≤n) (h2:n≤5) (hx0:0≤c.next.get n) (hx1:c.next.get n≤9007199254740992)
  (hroom:c.out.posts.length≤1000000000) (hsd:c.snap.data.length≤8192) (hes:c.log.es.length*48≤140737488355328) :
  ACalls PR 155 #[Ptr p,I n] h (fun v h'=>v = .tuple #[]∧RCore h' p o oo (c.send n)∧Keeps [o,oo] h h'):=by
 obtain ⟨x,k⟩:=k
 have hpl2:x.ox.ps.length=c.out.posts.length:=by rw [← k.out.pa];simp
 obtain ⟨m,hm⟩:∃ m:Nat,n=m:=⟨n.toNat,by omega⟩
 have hnc:(coreCells c x)[0+14+1+m*1]? = some (I (c.next.get n)):=by
  have:=next_cell c x h1 h2;rw [show 0+14+1+m*1=15+n.toNat by omega];exact this
 refine acalls_of mix Tryz.func155 rfl rfl Tryz.ntmps155 Tryz.results155 rfl ?_;conv=>whnf
 refine ADrawn.mk (h) [] (Sub.refl _) (by decide +kernel) ?_;conv=>whnf
 refine AIdxA.nat (n:=6) (z:=1) (j:=m) (by omega) (by omega) rfl rfl ?_;conv=>whnf
 refine ALoad.one rfl k.str hnc ?_
 refine ALoad.one rfl k.str rfl ?_;conv=>whnf
 refine ACalls.mono (rFirst_c k.log lo) ?_;rintro _ _ ⟨rfl,rfl⟩;conv=>whnf
 refine ⟨Sub.refl _,?_⟩;conv=>whnf
 unfold CoreM.send
 by_cases c1:c.next.get n<c.log.bi+1
 ·refine ACmp.yes (c1) ?_;conv=>whnf
  rw [if_pos c1]
  refine ALoad.agg rfl k.str rfl rfl ?_;conv=>whnf
  refine AAlloc.mkN (0,1) ([I 0,I 0,I 0, .slice none 0 0]) rfl fun b4 h3 n3 s3 k3=>?_;conv=>whnf
  refine AStore.aggN rfl rfl rfl (k3) rfl ([I c.snap.index,I c.snap.term,I c.snap.crew, .slice x.sd.a x.sd.n x.sd.c]) rfl fun h4 t4 k4 a4 e4=>?_;conv=>whnf
  have s4:Sub h h4:=a4 h s3 n3
  have q4:=k.sub s4
  refine ALoad.one rfl q4.str rfl ?_;conv=>whnf
  refine ACalls.mono (copyB_any h4 (oo,6) q4.sd.sl (by rw [k.snapLen];omega)) ?_
  rintro _ h5 ⟨a',c',rfl,ow,s5⟩
  conv=>whnf
  refine AStore.oneN rfl rfl rfl ((s5 _ _ k4)) rfl ([I c.snap.index,I c.snap.term,I c.snap.crew, .slice a' x.sd.n c']) rfl fun h6 t6 k6 a6 e6=>?_;conv=>whnf
  have s6:Sub h h6:=a6 h (s4.trans s5) n3
  have q6:=k.sub s6
  have ow6:=ow.keepT t6 (fun c=>ap.d (congrArg Prod.fst c))
  have ph:∀ {h':Heap},Sub h6 h'→PH.Made h' oo (10+c.out.posts.length) ⟨5,0,n,0,0,0,0,false,c.round,slv0,[],c.snap.index,c.snap.term,c.snap.crew,⟨a',x.sd.n,c'⟩,c.snap.data⟩:=fun s=>⟨.inl ⟨rfl,rfl,rfl⟩,by simp,by simp,ow6.move fun _ _ e=>s _ _ e⟩
  refine ADrawn.mk (h6) [8] (Sub.refl _) (by decide +kernel) ?_;conv=>whnf
  refine ALoad.one rfl q6.str rfl ?_
  refine ALoad.agg rfl k6 rfl rfl ?_;conv=>whnf
  refine ACalls.mono (rsay_any ap.a ap.b ap.c ap.d ⟨x,q6⟩ n _ rfl (ph (Sub.refl _)) hroom) ?_;rintro _ h7 ⟨rfl,k7,kk7⟩;conv=>whnf
  exact ⟨rfl,k7,(s6.keeps _).trans kk7⟩
 ·refine ACmp.no (c1) ?_;conv=>whnf
  rw [if_neg c1]
  refine ADrawn.mk (h) [] (Sub.refl _) (by decide +kernel) ?_;conv=>whnf
  refine ALoad.one rfl k.str rfl ?_;conv=>whnf
  refine AIdxA.nat (n:=6) (z:=1) (j:=m) (by omega) (by omega) rfl rfl ?_;conv=>whnf
  refine ALoad.one rfl k.str hnc ?_;conv=>whnf
  refine AArith.ok (by omega) (by omega) (rfl) ?_;conv=>whnf
  refine ACalls.mono (rTerm_c k.log lo (c.next.get n-1)) ?_;rintro _ _ ⟨rfl,rfl⟩;conv=>whnf
  refine ⟨Sub.refl _,?_⟩;conv=>whnf
  refine ADrawn.mk (h) [10] (Sub.refl _) (by decide +kernel) ?_;conv=>whnf
  refine ALoad.one rfl k.str rfl ?_;conv=>whnf
  refine AIdxA.nat (n:=6) (z:=1) (j:=m) (by omega) (by omega) rfl rfl ?_;conv=>whnf
  refine ALoad.one rfl k.str hnc ?_;conv=>whnf
  refine ACalls.mono (rSlice_c k.log lo (oo,10+c.out.posts.length) (oo,5) (fun c=>ap.d (congrArg Prod.fst c)) (fun c=>ap.d (congrArg Prod.fst c)) (fun c=>ap.b c.symm) (fun d=>by have:=congrArg Prod.snd d;simp at this;omega) (c.next.get n) 8 hes) ?_;rintro _ h3 ⟨a3,n3,c3,zs,rfl,E3,abs3,sm3,kt3,ow3,m3⟩;conv=>whnf
  have kx:∀ t:Tag,(t.1=o∨t.1=o+1)→t≠(oo,10+c.out.posts.length):=fun t ht d=>by rw [d] at ht;have:=ap.a;have:=ap.b;simp at ht;omega
  have k3:RX h3 p o oo c x:=⟨kt3.get (kx _ (.inl rfl)) k.str,k.sd.keepT kt3 (kx _ (.inl rfl)),Moves.move k.log fun _ t _ ht e=>kt3 _ _ _ (kx t (.inr ht)) e,k.rd.keepT kt3 (kx _ (.inl rfl)),k.out.role kt3 (by omega)⟩
  refine ADrawn.mk (h3) [20] (Sub.refl _) (by decide +kernel) ?_;conv=>whnf
  refine AIdxA.nat (n:=6) (z:=1) (j:=m) (by omega) (by omega) rfl rfl ?_;conv=>whnf
  refine ALoad.one rfl k3.str hnc ?_;conv=>whnf
  refine AArith.ok (by omega) (by omega) (rfl) ?_;conv=>whnf
  refine ALoad.one rfl k3.str rfl ?_
  refine ALoad.one rfl k3.str rfl ?_;conv=>whnf
  have ph:PH.Made h3 oo (10+c.out.posts.length) ⟨3,0,n,0,c.next.get n-1,(c.log.term (c.next.get n-1)).1,c.commit,false,c.round,⟨a3,n3,c3⟩,zs,0,0,0,slv0,[]⟩:=⟨ow3,m3,sm3, .inl ⟨rfl,rfl,rfl⟩⟩
  refine ACalls.mono (rsay_any ap.a ap.b ap.c ap.d ⟨x,k3⟩ n _ rfl ph hroom) ?_;rintro _ h4 ⟨rfl,k4,kk4⟩;conv=>whnf
  refine ⟨rfl,?_,(kt3.keep.keeps2 (.inr rfl)).trans kk4⟩
  unfold PH.abs at k4
  simp only [abs3] at k4
  exact k4
set_option maxHeartbeats 1000000 in
theorem rsendAll_any {h:Heap} {p o oo:Nat} {c:CoreM} (ap:Apart o oo) (k:RCore h p o oo c) (lk:DLk c) (nk:NextOk c) (hroom:c.out.posts.length≤999999990) :
  ACalls PR 86 #[Ptr p] h (fun v h'=>v = .tuple #[]∧RCore h' p o oo c.sendAll∧Keeps [o,oo] h h'):=by
 obtain ⟨x,k⟩:=k
 have hl5:=others_len c
 refine acalls_of mix Tryz.func86 rfl rfl Tryz.ntmps86 Tryz.results86 rfl ?_;conv=>whnf
 refine ACalls.mono (rothers_any k lk.lk.lo lk.sy lk.nowOk) ?_;rintro _ h1 ⟨al,cp,f,rfl,sl,hf1,hf2,s1⟩;conv=>whnf
 refine ALoop.mk (fun e h'=>∃ e0,∃ j:Nat,e=updL 18 e0 [(0,Ptr p),(2, .slice al c.others.length cp),(3,I j)]∧j≤c.others.length∧RCore h' p o oo ((c.others.take j).foldl CoreM.send c)∧Keeps [o,oo] h h'∧Sl h' (f,0) al c.others.length cp 1 (c.others.map I)) (fun e=>c.others.length-natOf (e 3))
  ⟨_,0,updL_self ⟨rfl,rfl,rfl,trivial⟩,by omega,⟨x,k.sub s1⟩,s1.keeps _,sl⟩ ?_
 rintro e h2 ⟨e0,j,rfl,hj,k2,kk2,s2⟩
 conv=>whnf
 by_cases hjn:j<c.others.length
 ·refine ACmp.yes (by omega) ?_;conv=>whnf
  obtain ⟨n,hn⟩:∃ n,c.others[j]? = some n:=⟨c.others[j]'hjn,by simp⟩
  obtain ⟨hn1,hn2⟩:=others_in c n (List.mem_of_getElem? hn)
  obtain ⟨b,off,l,E,fz,rfl,hb,hc⟩:=s2.pos (by omega)
  have g0:l[off+j*1]? = some (I n):=by rw [get_of_take hc (by omega),Nat.mul_one];simp [hn]
  refine AIdx.nat (z:=1) (j:=j) rfl hjn rfl rfl ?_;conv=>whnf
  refine ALoad.one rfl hb g0 ?_;conv=>whnf
  obtain ⟨e1,e2,e3,e4⟩:=sends_same (c.others.take j) c
  have htl:(c.others.take j).length≤5:=by simp;omega
  refine ACalls.mono (rsend_any ap k2 (by rw [e1];exact lk.lk.lo) hn1 hn2 (by rw [e2];exact (nk n hn1 hn2).1) (by rw [e2];exact (nk n hn1 hn2).2) (by omega) (by rw [e3];exact lk.lk.snap) (by rw [e1];exact lk.lk.room)) ?_;rintro _ h3 ⟨rfl,k3,kk3⟩;conv=>whnf
  refine AArith.ok (by omega) (by omega) ((by omega:(j:Int)+1=((j+1:Nat):Int))) ?_;conv=>whnf
  refine ⟨⟨_,j+1,updL_self ⟨rfl,rfl,rfl,trivial⟩,by omega,?_,kk2.trans kk3,s2.keeps kk3 (by simp;omega)⟩,?_⟩
  ·rw [List.take_succ_eq_append_getElem hjn,(List.getElem?_eq_some_iff.1 hn).2,List.foldl_append]
   exact k3
  ·show c.others.length-(j+1)<c.others.length-j
   omega
 ·refine ACmp.no (by omega) ?_;conv=>whnf
  rw [List.take_of_length_le (by omega)] at k2
  exact ⟨rfl,k2,kk2⟩
theorem refMost_any (h:Heap) (a b:Int) (ha : -9223372036854775808≤a) (ha':a≤9223372036854775807) (hb : -9223372036854775808≤b) (hb':b≤9223372036854775807) :
  ACalls PR 156 #[I a,I b] h (fun v h'=>v = .bool (mostOf a (hasB b))∧h=h'):=by
 refine acalls_pure (acalls_of mix Tryz.func156 rfl rfl Tryz.ntmps156 Tryz.results156 rfl ?_);conv=>whnf
 refine ACalls.mono (refList_any _ a ha ha') ?_;rintro _ h2 ⟨al,cl,tl,rfl,sl,s2⟩;conv=>whnf
 have hnl5:(ls (m5 a)).length≤5:=lsTo_len _ 5
 unfold mostOf
 generalize ls (m5 a)=l at *
 refine ALoop.mk (fun e h'=>Sub h2 h'∧∃ e0,∃ k:Nat,e=updL 29 e0 [(1,I b),(5, .slice al l.length cl),(6,I (((l.take k).filter (hasB b)).length:Nat)),(7,I k)]∧k≤l.length)
  (fun e=>l.length-natOf (e 7)) ⟨Sub.refl _,_,0,updL_self ⟨rfl,rfl,rfl,rfl,trivial⟩,by omega⟩ ?_
 rintro e h3 ⟨s3,e0,k,rfl,hk⟩
 have hle:((l.take k).filter (hasB b)).length≤k:=Nat.le_trans (List.length_filter_le _ _) (by simp;omega)
 conv=>whnf
 by_cases hkn:k<l.length
 ·refine ACmp.yes (by omega) ?_;conv=>whnf
  obtain ⟨bb,off,L,E,fz,rfl,hb1,hc⟩:=(sl.sub s3).pos (by omega)
  have g1:L[off+k*1]? = some (I (l[k]'hkn)):=by rw [get_of_take hc (by omega)];simp [hkn]
  refine AIdx.nat (z:=1) (j:=k) rfl hkn rfl rfl ?_;conv=>whnf
  refine ALoad.one rfl hb1 g1 ?_;conv=>whnf
  have e1:(l.take (k+1)).filter (hasB b)=(l.take k).filter (hasB b)++[l[k]'hkn].filter (hasB b):=by
   rw [List.take_succ_eq_append_getElem hkn,List.filter_append]
  refine ACalls.mono (refHas_any h3 b _ hb hb') ?_
  rintro _ _ ⟨rfl,rfl⟩
  cases hh:hasB b (l[k]'hkn)
  ·conv=>whnf
   rw [show [l[k]'hkn].filter (hasB b)=[] by simp [hh],List.append_nil] at e1
   refine AArith.ok (by omega) (by omega) ((by omega:(k:Int)+1=((k+1:Nat):Int))) ?_;conv=>whnf
   refine ⟨⟨s3,_,k+1,updL_self ⟨rfl,rfl,by rw [e1];rfl,rfl,trivial⟩,by omega⟩,?_⟩
   show l.length-(k+1)<l.length-k
   omega
  ·conv=>whnf
   rw [show [l[k]'hkn].filter (hasB b)=[l[k]'hkn] by simp [hh]] at e1
   refine AArith.ok (by omega) (by omega) (rfl) ?_;conv=>whnf
   refine AArith.ok (by omega) (by omega) ((by omega:(k:Int)+1=((k+1:Nat):Int))) ?_;conv=>whnf
   refine ⟨⟨s3,_,k+1,updL_self ⟨rfl,rfl,by rw [e1,List.length_append];rfl,rfl,trivial⟩,by omega⟩,?_⟩
   show l.length-(k+1)<l.length-k
   omega
 ·refine ACmp.no (by omega) ?_;conv=>whnf
  rw [List.take_of_length_le (by omega)] at hle ⊢
  refine AArith.ok (by omega) (by omega) (rfl) ?_;conv=>whnf
  refine ACmp.dec ?_;conv=>whnf
  refine ⟨congrArg Value.bool ?_,s2.trans s3⟩
  by_cases z:l.length<2*(l.filter (hasB b)).length
  ·rw [decide_eq_true z,decide_eq_true (by omega)]
  ·rw [decide_eq_false z,decide_eq_false (by omega)]
theorem cnt_anti {v w:Int} (h:v≤w):∀ l:List Int,cnt w l≤cnt v l
 | []=>Nat.le_refl _
 | x::r=>by
  have:=cnt_anti h r
  simp only [cnt,List.countP_cons] at this ⊢
  by_cases c:w≤x
  ·rw [if_pos (by simpa using c),if_pos (by simp;omega)];omega
  ·rw [if_neg (by simpa using c)];split <;> omega
theorem max_mem:∀ (l:List Int),l≠[]→∃ s∈l,∀ x∈l,x≤s
 | [],h=>absurd rfl h
 | [x],_=>⟨x,by simp,by simp⟩
 | x::y::r,_=>by
  obtain ⟨s,hs,hm⟩:=max_mem (y::r) (by simp)
  by_cases c:s≤x
  ·exact ⟨x,by simp,fun z hz=>by rcases List.mem_cons.1 hz with rfl | hz;exact Int.le_refl _;exact Int.le_trans (hm z hz) c⟩
  ·exact ⟨s,List.mem_cons_of_mem _ hs,fun z hz=>by rcases List.mem_cons.1 hz with rfl | hz;omega;exact hm z hz⟩
theorem min_mem (l:List Int) (h:l≠[]):∃ s∈l,∀ x∈l,s≤x:=by
 obtain ⟨s,hs,hm⟩:=max_mem (l.map fun x => -x) (by simpa using h)
 obtain ⟨t,ht,rfl⟩:=List.mem_map.1 hs
 exact ⟨t,ht,fun x hx=>by have:=hm (-x) (List.mem_map.2 ⟨x,hx,rfl⟩);omega⟩
theorem rank_exists (l:List Int):∃ r,RankOf l r:=by
 by_cases h:l=[]
 ·exact ⟨0, .inl ⟨h,rfl⟩⟩
 ·have hl:0<l.length:=List.length_pos_iff.2 h
  obtain ⟨m,hm,hmin⟩:=min_mem l h
  have hcm:cnt m l=l.length:=List.countP_eq_length.2 fun x hx=>by simpa using hmin x hx
  obtain ⟨s,hs,hmax⟩:=max_mem (l.filter fun v=>decide (l.length<2*cnt v l)) (fun e=>by
   have:m∈l.filter fun v=>decide (l.length<2*cnt v l):=List.mem_filter.2 ⟨hm,by simp;omega⟩
   rw [e] at this;cases this)
  obtain ⟨hs1,hs2⟩:=List.mem_filter.1 hs
  have hs2:l.length<2*cnt s l:=by simpa using hs2
  refine ⟨_, .inr ⟨h,s,rfl,hs1,fun v=>⟨fun c=>by have:=cnt_anti c l;omega,fun c=>?_⟩⟩⟩
  have hne:l.filter (fun x=>decide (v≤x))≠[]:=fun e=>by
   have:cnt v l=0:=by unfold cnt;rw [List.countP_eq_length_filter,e];rfl
   omega
  obtain ⟨x,hx,hxm⟩:=min_mem _ hne
  obtain ⟨x1,x2⟩:=List.mem_filter.1 hx
  have x2:v≤x:=by simpa using x2
  have:cnt x l=cnt v l:=by
   unfold cnt
   refine List.countP_congr fun y hy=>?_
   simp only [decide_eq_true_eq]
   refine ⟨fun c=>by omega,fun c=>hxm y (List.mem_filter.2 ⟨hy,by simpa using c⟩)⟩
  have:=hmax x (List.mem_filter.2 ⟨x1,by simp;omega⟩)
  omega
theorem rrank_five (h:Heap) (now:Int) (z:Int) (f:Five) (h1 : -9223372036854775808≤now) (h2:now≤9223372036854775807) :
  ACalls PR 163 #[I now, .agg #[I z,I f.a1,I f.a2,I f.a3,I f.a4,I f.a5]] h (fun v h'=>v=I (rankOf now f)∧h=h'):=by
 obtain ⟨r,hr⟩:=rank_exists ((ls (m5 now)).map (six z f.a1 f.a2 f.a3 f.a4 f.a5))
 rw [← rankOf_eq hr]
 exact refRank_any h now z f.a1 f.a2 f.a3 f.a4 f.a5 h1 h2 r hr
set_option maxHeartbeats 1000000 in
theorem rput_any {h:Heap} {p o oo:Nat} {c:CoreM} (ap:Apart o oo) (k:RCore h p o oo c) (lo:LOk c.log) (hes:(c.log.es.length+1)*48≤140737488355328) (hlast:c.log.last.1≤9007199254740991)
  (kind:Int) {t:Tag} {d:SlV} {data:List Int} (g:Sl h t d.a d.n d.c 1 (bytesV data)) (hd:d.n≤1200) (hroom:c.out.entries.length≤1000000000) :
  ACalls PR 103 #[Ptr p,I kind, .slice d.a d.n d.c] h (fun v h'=>v=I (c.log.last.1+1)∧RCore h' p o oo (c.put kind data)∧Keeps [o,o+1,oo] h h'):=by
 obtain ⟨x,k⟩:=k
 have hl0:0≤c.log.last.1:=by rw [lo.last];have:=lo.lo;omega
 have hel2:x.ox.es.length=c.out.entries.length:=by rw [← k.out.ea];simp
 have hel:x.ox.es.length=x.ox.oe.n:=by
  have:=k.out.oe.sl.len
  rw [encs_length] at this;omega
 refine acalls_ofj mix Tryz.func103 rfl rfl Tryz.ntmps103 Tryz.results103 rfl ?_;conv=>whnf
 refine ACalls.mono (rlast_any k lo) ?_;rintro _ _ ⟨rfl,rfl⟩;conv=>whnf
 refine AIf.cut (fun e h'=>∃ e0 b9 a' c',e=updL 48 e0 [(0,Ptr p),(7,I c.log.last.1),(9,Ptr b9)]∧Sub h h'∧h b9=none∧h' b9=some (row (0,1) [I c.term,I (c.log.last.1+1),I kind, .slice a' d.n c'] 59)∧Own h' (0,2) 5 a' d.n c' 1 (bytesV data)) ?_ ?_
 ·conv=>whnf
  refine ADrawn.mkT (h) [11] (.take 0 (.take 1 (.take 2 (.take 3 (.take 4 (.take 5 (.take 6 (.take 7 (.alt 8 (.take 9 (.take 10 (.take 11 (.done)))) (.alt 10 (.take 8 (.take 9 (.take 11 (.done)))) (.stop))))))))))) (Sub.refl _) (by decide +kernel) ?_;conv=>whnf
  refine ALoad.one rfl k.str rfl ?_;conv=>whnf
  refine AArith.ok (by omega) (by omega) (rfl) ?_;conv=>whnf
  refine And.intro ?_ ?_
  ·conv=>whnf
   refine ACalls.mono (copyB_any h (0,2) g (by omega)) ?_
   rintro v h1 ⟨a',c',rfl,ow1,s1⟩
   refine ⟨s1,?_⟩;conv=>whnf
   refine AAlloc.mkN (0,1) (entry0z) rfl fun b9 h2 n2 s2 k2=>?_;conv=>whnf
   refine ⟨s1.trans s2,?_⟩;conv=>whnf
   refine AStore.aggN rfl rfl rfl (k2) rfl ([I c.term,I (c.log.last.1+1),I kind, .slice a' d.n c']) rfl fun h5 t5 k9 a5 e5=>?_;conv=>whnf
   have n0:h b9=none:=by
    cases e:h b9 with
    | none=>rfl
    | some y=>rw [s1 _ _ e] at n2;cases n2
   exact ⟨_,b9,a',c',updL_self ⟨rfl,rfl,rfl,trivial⟩,a5 h (s1.trans s2) n0,n0,k9,(Own.sub ow1 s2).keepT t5 (by simp)⟩
  ·conv=>whnf
   refine And.intro ?_ trivial
   conv=>whnf
   refine AAlloc.mkN (0,1) (entry0z) rfl fun b9 h2 n2 s2 k2=>?_;conv=>whnf
   refine ⟨s2,?_⟩;conv=>whnf
   refine ACalls.mono (copyB_any h2 (0,2) (Sl.sub g s2) (by omega)) ?_
   rintro v h1 ⟨a',c',rfl,ow1,s1⟩
   refine ⟨s2.trans s1,?_⟩;conv=>whnf
   refine AStore.aggN rfl rfl rfl ((s1 _ _ k2)) rfl ([I c.term,I (c.log.last.1+1),I kind, .slice a' d.n c']) rfl fun h5 t5 k9 a5 e5=>?_;conv=>whnf
   exact ⟨_,b9,a',c',updL_self ⟨rfl,rfl,rfl,trivial⟩,a5 h (s2.trans s1) n2,n2,k9,ow1.keepT t5 (by simp)⟩
 rintro e h5 ⟨e0,b9,a',c',rfl,s5,n9,k9,ow5⟩
 obtain ⟨en,hen⟩:∃ en:EH,en=⟨c.term,c.log.last.1+1,kind,a',d.n,c',data⟩:=⟨_,rfl⟩
 have hex:en.abs=(c.term,c.log.last.1+1,kind,data):=by rw [hen];rfl
 have hn5:en.n≤1200:=by rw [hen];exact hd
 rw [show [I c.term,I (c.log.last.1+1),I kind,Value.slice a' d.n c']=en.cells by rw [hen];rfl] at k9
 have own5:en.Mine h5 (0,2):=by rw [hen];exact ow5
 clear ow5
 have q5:=k.sub s5
 conv=>whnf
 refine AIf.cut (fun e h'=>∃ e0,e=updL 48 e0 [(7,I c.log.last.1)]∧RCore h' p o oo (c.put kind data)∧Keeps [o,o+1,oo] h h') ?_ ?_
 ·conv=>whnf
  refine AIf.go ?_;conv=>whnf
  refine ADrawn.mk (two h5 p b9) [] (two_sub _ _ _) (by decide +kernel) ?_;conv=>whnf
  refine ALoad.one rfl ((two_l _ _ _).trans q5.str) rfl ?_
  refine ALoad.agg rfl ((two_r _ _ _).trans k9) rfl rfl ?_;conv=>whnf
  refine ABuildSl.mkN (0,1) en.cells rfl rfl rfl rfl rfl rfl (by rw [hen];rfl) fun b6 h6 n6 s6 k6=>?_;conv=>whnf
  refine ⟨(two_sub _ _ _).trans s6,?_⟩;conv=>whnf
  have q6:=q5.sub s6
  have own6:en.Mine h6 (0,2):=Own.sub own5 s6
  have k69:=s6 _ _ k9
  refine ACalls.mono (rAppend_c (by omega:o+1≠0) q6.log lo (t:=(0,1)) (td:=(0,2)) (by simp) (by simp) (ents_one k6 own6.sl (by omega)) hes) ?_;rintro _ h7 ⟨rfl,l7,kk7⟩;conv=>whnf
  have k79:=kk7.get (by simp) k69
  have p7:=kk7.get (by simp) q6.str
  refine ⟨two_get (fun y hy=>?_) (fun y hy=>?_),?_⟩
  ·rw [q5.str] at hy;cases hy;exact p7
  ·rw [k9] at hy;cases hy;exact k79
  conv=>whnf
  have own7:en.Mine h7 (0,2):=Own.move own6 fun b y e=>kk7.get (by simp) e
  have out7:OutOk h7 oo c.out x.ox:=q6.out.move fun b t y ht e=>kk7 _ _ _ (by rw [ht];exact ap.b.symm) e
  have sd7:=q6.sd.move fun b y e=>kk7 _ _ _ (by simp:((o,3):Tag).1≠o+1) e
  have rd7:=q6.rd.move fun b y e=>kk7 _ _ _ (by simp:((o,4):Tag).1≠o+1) e
  simp only [List.map_cons,List.map_nil,hex] at l7 ⊢
  have kh7:Keeps [o,o+1,oo] h h7:=((s5.trans s6).keeps _).trans (kk7.keeps (by simp))
  refine ACmp.dec ?_;conv=>whnf
  by_cases c1:(c.log.append [(c.term,c.log.last.1+1,kind,data)]).1=0
  ·simp only [c1,decide_true]
   have eq:c.put kind data={c with log:=(c.log.append [(c.term,c.log.last.1+1,kind,data)]).2,out:={c.out with entries:=c.out.entries++[(c.term,c.log.last.1+1,kind,data)]}}:=by
    unfold CoreM.put;rw [if_pos c1]
   obtain ⟨d2,hd2⟩:∃ d2:CoreM,d2={c with log:=(c.log.append [(c.term,c.log.last.1+1,kind,data)]).2}:=⟨_,rfl⟩
   have q7:RX h7 p o oo d2 x:=by rw [hd2];exact ⟨p7,sd7,l7,rd7,out7⟩
   conv=>whnf
   refine ADrawn.mk (two h7 p b9) [13] (two_sub _ _ _) (by decide +kernel) ?_;conv=>whnf
   refine ALoad.one rfl ((two_l _ _ _).trans p7) rfl ?_
   refine ALoad.agg rfl ((two_r _ _ _).trans k79) rfl rfl ?_;conv=>whnf
   refine ACalls.mono (copyE_any h7 (oo,2) (fun c=>ap.d (congrArg Prod.fst c)) en own7.sl (by omega)) ?_
   rintro _ h8 ⟨a8,c8,rfl,ow8,s8⟩
   refine ⟨(two_sub _ _ _).trans s8,?_⟩;conv=>whnf
   obtain ⟨en2,hen2⟩:∃ en2:EH,en2=⟨en.term,en.index,en.kind,a8,en.n,c8,en.data⟩:=⟨_,rfl⟩
   rw [show #[I en.term,I en.index,I en.kind,Value.slice a8 en.n c8]=en2.cells.toArray by rw [hen2];rfl]
   have own8:en2.Mine h8 (oo,2):=by rw [hen2];exact ow8
   have hea2:en2.abs=en.abs:=by rw [hen2];rfl
   have hn2:en2.n≤1200:=by rw [hen2];exact hn5
   refine ABuildSl.mkN (0,1) en2.cells rfl rfl rfl rfl rfl rfl (by rw [hen2];rfl) fun b8 h9 n9' s9 k9'=>?_;conv=>whnf
   refine ⟨(two_sub _ _ _).trans (s8.trans s9),?_⟩;conv=>whnf
   have q9:=(q7.sub s8).sub s9
   refine AAppend.own (t:=(oo,1)) (E:=59) (z:=4) (by_:=48) (zero:=entry0z) (tx:=(0,1)) (xs:=en2.cells) rfl ⟨_,rfl⟩ rfl rfl rfl rfl (by omega) q9.out.oe
    ⟨rfl,Nat.le_refl _, .inr ⟨b8,0,_,_,_,rfl,k9',rfl⟩⟩ (by rw [hen2];rfl) (by omega) (by omega) fun a11 c11 h11 ow11 t11 _=>?_
   conv=>whnf
   have p11:=t11.get (u:=(o,0)) (fun c=>ap.a (congrArg Prod.fst c)) q9.str
   have e11:=t11.get (u:=(0,1)) (fun c=>ap.d (congrArg Prod.fst c).symm) (s9 _ _ (s8 _ _ k79))
   refine ⟨two_get (fun y hy=>?_) (fun y hy=>?_),?_⟩
   ·rw [p7] at hy;cases hy;rw [hd2] at p11;exact p11
   ·rw [k79] at hy;cases hy;exact e11
   conv=>whnf
   refine AStore.oneN rfl rfl rfl (p11) rfl (coreCells {d2 with out:={d2.out with entries:=d2.out.entries++[en2.abs]}} {x with ox:={x.ox with oe:=⟨a11,x.ox.oe.n+1,c11⟩,es:=x.ox.es++[en2]}}) rfl fun h12 t12 k12 a12 e12=>?_;conv=>whnf
   have k13:=CoreX.pushE ap q9 t11 ow11 (Own.sub own8 s9) hn2 t12 k12
   rw [eq]
   rw [hea2,hex,hd2] at k13
   exact ⟨_,updL_self ⟨rfl,trivial⟩,⟨_,k13⟩,kh7.trans (((s8.trans s9).keeps _).trans ((t11.keep.keeps (by simp)).trans (t12.keep.keeps (by simp))))⟩
  ·simp only [c1,decide_false]
   conv=>whnf
   have eq:c.put kind data=c:=by unfold CoreM.put;rw [if_neg c1]
   have eq2:(c.log.append [(c.term,c.log.last.1+1,kind,data)]).2=c.log:=by unfold LG.append at c1 ⊢;split <;> simp_all
   rw [eq2] at l7
   rw [eq]
   exact ⟨_,updL_self ⟨rfl,trivial⟩,⟨_,p7,sd7,l7,rd7,out7⟩,kh7⟩
 rintro e h' ⟨e1,rfl,kF,kkF⟩
 conv=>whnf
 refine AArith.ok (by omega) (by omega) (rfl) ?_;conv=>whnf
 exact ⟨rfl,kF,kkF⟩
theorem rrank_any {h:Heap} {p o oo:Nat} {c:CoreM} (ap:Apart o oo) (k:RCore h p o oo c) (lk:DLk c) (hs1:1≤c.self) (hs2:c.self≤5) :
  ACalls PR 104 #[Ptr p] h (fun v h'=>v = .tuple #[]∧RCore h' p o oo c.rank∧Keep o h h'):=by
 obtain ⟨x,k⟩:=k
 rw [CoreM.rank_eq]
 refine acalls_ofj mix Tryz.func104 rfl rfl Tryz.ntmps104 Tryz.results104 rfl ?_;conv=>whnf
 refine ACalls.mono (rlast_any k lk.lk.lo) ?_;rintro _ _ ⟨rfl,rfl⟩;conv=>whnf
 refine AIf.go ?_;conv=>whnf
 refine ADrawn.mk (h) [9] (Sub.refl _) (by decide +kernel) ?_;conv=>whnf
 refine ALoad.one rfl k.str rfl ?_;conv=>whnf
 obtain ⟨m,hm⟩:∃ m:Nat,c.self=m:=⟨c.self.toNat,by omega⟩
 refine AIdxA.nat (n:=6) (z:=1) (j:=m) (by omega) (by omega) rfl rfl ?_;conv=>whnf
 obtain ⟨d,hd⟩:∃ d:CoreM,d=c.matched:=⟨_,rfl⟩
 unfold CoreM.matched at hd
 refine AStore.oneN rfl rfl rfl k.str (by have:=mtch_cell c x hs1 hs2;rw [show 0+14+7+m*1=21+c.self.toNat by omega];exact Nat.ble_eq_true_of_le (List.getElem?_eq_some_iff.1 this).1) (coreCells d x) (by rw [hd,show 0+14+7+m*1=21+c.self.toNat by omega];exact mtch_set c x hs1 hs2 _) fun h2 t2 k2' a2 e2=>?_;conv=>whnf
 have k2:RX h2 p o oo d x:=k.set' ap.a t2 k2' (by rw [hd]) (by rw [hd]) (by rw [hd]) (by rw [hd]) (by rw [hd]) (by rw [hd]) (by rw [hd])
 rw [show c.matched=d from hd.symm]
 have e1:d.log=c.log:=by rw [hd]
 have e2':d.snap=c.snap:=by rw [hd]
 have e3:d.self=c.self:=by rw [hd]
 have e4:d.first=c.first:=by rw [hd]
 have lk2:DLk d:=lk.same e1 e2' e4
 refine ACalls.mono (rcrew_any k2 lk2.lk.lo lk2.sy) ?_;rintro _ _ ⟨rfl,rfl⟩;conv=>whnf
 refine ALoad.agg rfl k2.str rfl rfl ?_;conv=>whnf
 refine ACalls.mono (rrank_five h2 d.crewNow.1 x.z2 d.mtch lk2.nowOk.1 lk2.nowOk.2) ?_;rintro _ _ ⟨rfl,rfl⟩;conv=>whnf
 generalize rankOf d.crewNow.1 d.mtch=n
 refine ALoad.one rfl k2.str rfl ?_;conv=>whnf
 refine ACalls.mono (rTerm_c k2.log lk2.lk.lo n) ?_;rintro _ _ ⟨rfl,rfl⟩;conv=>whnf
 refine AIf.go ?_;conv=>whnf
 refine AIf.go ?_;conv=>whnf
 refine ALoad.one rfl k2.str rfl ?_;conv=>whnf
 unfold CoreM.ranked
 have fin:∀ {v:Value},v = .tuple #[]→RCore h2 p o oo d→v = .tuple #[]∧RCore h2 p o oo d∧Keep o h h2:=fun a b=>⟨a,b,t2.keep⟩
 have hh:d.has n d.term=decide ((d.log.term n).2=0∧(d.log.term n).1=d.term):=rfl
 by_cases c1:n≤d.commit
 ·refine ACmp.yes (c1) ?_;conv=>whnf
  rw [if_pos (.inl c1)]
  exact fin rfl ⟨_,k2⟩
 refine ACmp.no (c1) ?_;conv=>whnf
 by_cases c2:¬ (d.log.term n).2=0
 ·refine ACmp.yes (c2) ?_;conv=>whnf
  rw [if_pos (.inr (by rw [hh];simp [c2]))]
  exact fin rfl ⟨_,k2⟩
 refine ACmp.no ((by simpa using c2)) ?_;conv=>whnf
 refine ALoad.one rfl k2.str rfl ?_;conv=>whnf
 by_cases c3:¬ (d.log.term n).1=d.term
 ·refine ACmp.yes (c3) ?_;conv=>whnf
  rw [if_pos (.inr (by rw [hh];simp [c3]))]
  exact fin rfl ⟨_,k2⟩
 refine ACmp.no ((by simpa using c3)) ?_;conv=>whnf
 have c2:(d.log.term n).2=0:=by simpa using c2
 have c3:(d.log.term n).1=d.term:=by simpa using c3
 rw [if_neg (by rw [hh];simp [c1,c2,c3])]
 refine AStore.oneN rfl rfl rfl (k2.str) rfl (coreCells {d with commit:=n} x) rfl fun h3 t3 k3' a3 e3'=>?_;conv=>whnf
 have k3:RX h3 p o oo {d with commit:=n} x:=k2.set' ap.a t3 k3'
 refine AIf.go ?_;conv=>whnf
 refine ALoad.one rfl k3.str rfl ?_;conv=>whnf
 refine ACalls.mono (refHas_any h3 d.crewNow.1 d.self lk2.nowOk.1 lk2.nowOk.2) ?_
 have kk3:Keep o h h3:=t2.keep.trans t3.keep
 cases hb:hasB d.crewNow.1 d.self with
 | true =>
  rintro _ _ ⟨rfl,rfl⟩
  conv=>whnf
  rw [if_neg (by simp)]
  exact ⟨rfl,⟨_,k3⟩,kk3⟩
 | false =>
  rintro _ _ ⟨rfl,rfl⟩
  conv=>whnf
  refine ALoad.one rfl k3.str rfl ?_;conv=>whnf
  by_cases c4:d.crewNow.2≤n
  ·refine ACmp.yes (c4) ?_;conv=>whnf
   rw [if_pos ⟨rfl,c4⟩]
   refine ACalls.mono (rfollow_any ap.a ⟨_,k3⟩) ?_;rintro _ h4 ⟨rfl,k4,kk4⟩;conv=>whnf
   exact ⟨rfl,k4,kk3.trans kk4⟩
  ·refine ACmp.no (c4) ?_;conv=>whnf
   rw [if_neg (by simp [c4])]
   exact ⟨rfl,⟨_,k3⟩,kk3⟩
theorem rown_any {h:Heap} {p o oo:Nat} {c:CoreM} {x:CX} (k:RX h p o oo c x) (lo:LOk c.log):ACalls PR 102 #[Ptr p] h (fun v h'=>v = .bool c.settled∧h=h'):=by
 refine acalls_pure (acalls_of mix Tryz.func102 rfl rfl Tryz.ntmps102 Tryz.results102 rfl ?_);conv=>whnf
 refine ADrawn.mk (h) [] (Sub.refl _) (by decide +kernel) ?_;conv=>whnf
 refine ALoad.one rfl k.str rfl ?_
 refine ALoad.one rfl k.str rfl ?_;conv=>whnf
 refine ACalls.mono (rTerm_c k.log lo c.commit) ?_;rintro _ _ ⟨rfl,rfl⟩;conv=>whnf
 refine ⟨Sub.refl _,?_⟩;conv=>whnf
 unfold CoreM.settled CoreM.has
 by_cases c1:(c.log.term c.commit).2=0
 ·refine ACmp.yes (c1) ?_;conv=>whnf
  refine ALoad.one rfl k.str rfl ?_;conv=>whnf
  refine ACmp.dec ?_;conv=>whnf
  exact ⟨by simp [c1],Sub.refl _⟩
 ·refine ACmp.no (c1) ?_;conv=>whnf
  exact ⟨by simp [c1],Sub.refl _⟩
section
variable {g:Gh} {n:Int} {s:SavedM} {c:CoreM} {A:List Abs}
def Gh.wins (g:Gh) (n t:Int) (A:List Abs) (q:Int→Bool):Gh :=
  {g with H:={g.H with led:=fun u=>if u=t then n else g.H.led u,ll:=fun u=>if u=t then A else g.H.ll u,ini:=fun u=>if u=t then A else g.H.ini u,q:=fun u=>if u=t then q else g.H.q u,acc:=fun m u=>if m=n∧u=t then A.length else g.H.acc m u}}
theorem five0_at (m:Int):five0.get m=0:=by simp [five0,Five.get]
theorem five_all (x:Int) {m:Int} (h1:1≤m) (h2:m≤5):(Five.all x).get m=x:=by
 have:m=1∨m=2∨m=3∨m=4∨m=5:=by omega
 rcases this with rfl | rfl | rfl | rfl | rfl <;> rfl
def CoreM.office (c:CoreM):CoreM:={c.follow with state:=2,head:=c.self,beat:=2,next:=Five.all (c.log.last.1+1)}
theorem Mid.wins' (k:Mid g n s c A) (h1:c.state=1) (he:c.elected=true):∃ g',Ext n g g'∧g'.lim=g.lim∧Mid g' n s c.office A:=by
 obtain ⟨cd1,cd2,cd3,cd4,cd5,cd6⟩:=k.srv.cand h1
 have hn1:=k.srv.n1;have hn2:=k.srv.n2
 have htm:=k.srv.tm
 have hlim:=k.w.lim0 k.srv
 have hel:mostOf (conf g.H.first A) (hasB c.votes)=true:=by
  unfold CoreM.elected at he
  rw [k.srv.crew.1] at he
  rw [k.w.first];exact he
 have cw:Cand g.H c.term (· ≤ c.term) A (hasB c.votes):=⟨k.srv.good.lm,k.srv.good.mono,cd4,hel,fun v hv=>(cd6 v hv).2⟩
 have hl0:g.H.led c.term=0:=by
  by_cases z:g.H.led c.term=0
  ·exact z
  ·obtain ⟨v,v1,v2⟩:=cands_meet k.w.ok (k.w.ok.cand z).weak cw
   exact absurd ((k.w.q _ v z v1).symm.trans (cd6 v v2).1) cd1
 have cs:=cw.strict hl0
 have hll:=k.w.ll0 _ hl0
 have hac:∀ m,g.H.acc m c.term=0:=fun m=>by have:=k.w.acc m c.term;rw [hll] at this;simpa using this
 obtain ⟨g',hg'⟩:∃ g',g'=g.wins n c.term A (hasB c.votes):=⟨_,rfl⟩
 have e1:∀ u,g'.H.led u=if u=c.term then n else g.H.led u:=fun u=>by rw [hg'];rfl
 have e2:∀ u,g'.H.ll u=if u=c.term then A else g.H.ll u:=fun u=>by rw [hg'];rfl
 have e3:∀ u,g'.H.ini u=if u=c.term then A else g.H.ini u:=fun u=>by rw [hg'];rfl
 have e4:∀ u,g'.H.q u=if u=c.term then hasB c.votes else g.H.q u:=fun u=>by rw [hg'];rfl
 have e5:∀ m u,g'.H.acc m u=if m=n∧u=c.term then A.length else g.H.acc m u:=fun m u=>by rw [hg'];rfl
 have f1:g'.H.first=g.H.first:=by rw [hg'];rfl
 have f2:g'.tm=g.tm:=by rw [hg'];rfl
 have f3:g'.vt=g.vt:=by rw [hg'];rfl
 have f4:g'.cand=g.cand:=by rw [hg'];rfl
 have f5:g'.size=g.size:=by rw [hg'];rfl
 have f6:g'.lim=g.lim:=by rw [hg'];rfl
 clear hg'
 have ne:∀ u,g.H.led u≠0→u≠c.term:=fun u hu z=>hu (by rw [z];exact hl0)
 have x:Ext n g g':=by
  refine ⟨f5,by rw [f6];exact Int.le_refl _,f1,fun m _=>by rw [f2],by rw [f2];exact Int.le_refl _,fun m t _=>by rw [f3],fun m t _=>by rw [f3],fun t m _ _=>by rw [f4],fun t ht=>?_,fun t ht h=>?_,fun t ht _=>by rw [e2,if_neg (ne t ht)],fun m u=>?_,fun m u h=>?_⟩
  ·rw [e1,e2,e3,if_neg (ne t ht),if_neg (ne t ht),if_neg (ne t ht)];exact ⟨rfl,rfl,Pre.refl (Nat.le_refl _)⟩
  ·rw [e1] at h ⊢
   split
   ·rfl
   ·rename_i z;rw [if_neg z] at h;exact absurd ht h
  ·rw [e5];split
   ·rename_i z;rw [z.2,hac];omega
   ·exact Nat.le_refl _
  ·rw [e5,if_neg];rintro ⟨rfl,rfl⟩
   rcases h with h | h
   ·exact h rfl
   ·omega
 have ok:=k.w.ok
 have ho:HOk g'.H:=by
  refine ⟨fun t ht=>?_,fun t ht=>?_,fun t j e ht h=>?_,fun t j e ht h=>?_,fun t j e ht hk h=>?_,fun t ht=>?_,fun t v ht hv=>?_,fun u j e hu he2 h2 h1=>?_⟩
  ·rw [e2];split
   ·exact x.good k.srv.good
   ·rename_i z;rw [e1,if_neg z] at ht;exact x.good (ok.log t ht)
  ·rw [e2,e3];split
   ·exact Pre.refl (Nat.le_refl _)
   ·rename_i z;rw [e1,if_neg z] at ht;exact ok.ini t ht
  ·rw [e3] at h
   split at h
   ·rename_i z;rw [z];exact cd4 j e h
   ·rename_i z;rw [e1,if_neg z] at ht;exact ok.old t j e ht h
  ·rw [e2] at h
   split at h
   ·rename_i z;rw [z];have:=cd4 j e h;omega
   ·rename_i z;rw [e1,if_neg z] at ht;exact ok.top t j e ht h
  ·rw [e3] at hk;rw [e2] at h
   split at h
   ·rename_i z;rw [if_pos z] at hk
    have:=(List.getElem?_eq_some_iff.1 h).1;omega
   ·rename_i z;rw [if_neg z] at hk;rw [e1,if_neg z] at ht;exact ok.own t j e ht hk h
  ·rw [e3,e4,f1];split
   ·exact hel
   ·rename_i z;rw [e1,if_neg z] at ht;exact ok.most t ht
  ·rw [e4] at hv;rw [e3]
   split at hv
   ·rename_i z;rw [if_pos z,z]
    exact x.vow k.w (k.w.vt v c.term (by rw [(cd6 v hv).1];omega)) (cs.vow v hv)
   ·rename_i z;rw [if_neg z];rw [e1,if_neg z] at ht
    exact x.vow k.w (k.w.vt v t (by rw [k.w.q t v ht hv];exact ht)) (ok.vow t v ht hv)
  ·rw [e2] at he2 ⊢
   split at he2
   ·rename_i z;have:=cd4 j e he2;omega
   ·rename_i z;rw [if_neg z];rw [e1,if_neg z] at hu
    rw [f1]
    obtain ⟨a,i,b1,b2,b3,b4⟩:=ok.cf u j e hu he2 h2 h1
    exact ⟨a,i,b1,x.own hu b2,mostOf_mono (fun m hm=>by simp only [Acked,decide_eq_true_eq] at hm ⊢;exact Nat.le_trans hm (x.acc m u)) b3,b4⟩
 have w':Wld g':=by
  refine ⟨ho,f1.trans k.w.first,by rw [f5];exact k.w.sz3,by rw [f5];exact k.w.sz5,fun t ht=>?_,fun t ht=>?_,fun m u=>?_,fun m u hu=>?_,fun t ht=>?_,fun t v ht hv=>?_,fun m u hu=>?_,fun t e he=>?_,fun t j e he=>?_,fun t m hm hv=>?_,fun m m1 m2=>?_,fun t=>?_,by rw [f6];exact k.w.l3⟩
  ·rw [f2,f5];rw [e1] at ht ⊢
   split
   ·rename_i z;exact ⟨by rw [z];exact cd5,by rw [z,htm];exact Int.le_refl _,hn1,hn2⟩
   ·rename_i z;rw [if_neg z] at ht;exact k.w.led t ht
  ·rw [e1] at ht;rw [e2]
   split
   ·rename_i z;rw [if_pos z] at ht;omega
   ·rename_i z;rw [if_neg z] at ht;exact k.w.ll0 t ht
  ·rw [e5,e2]
   by_cases z:u=c.term
   ·rw [if_pos z];split
    ·exact Nat.le_refl _
    ·rw [z,hac];omega
   ·rw [if_neg z,if_neg fun y=>z y.2];exact k.w.acc m u
  ·rw [f2];rw [e5] at hu
   split at hu
   ·rename_i z;rw [z.1,z.2,htm];exact Int.le_refl _
   ·exact k.w.acc0 m u hu
  ·rw [e1] at ht ⊢;rw [e2,e5]
   by_cases z:t=c.term
   ·rw [if_pos z,if_pos z,if_pos ⟨rfl,z⟩]
   ·rw [if_neg z] at ht;rw [if_neg z,if_neg z,if_neg fun y=>z y.2];exact k.w.accL t ht
  ·rw [f3];rw [e1] at ht ⊢;rw [e4] at hv
   by_cases z:t=c.term
   ·rw [if_pos z] at hv ⊢;rw [z];exact (cd6 v hv).1
   ·rw [if_neg z] at hv ht ⊢;exact k.w.q t v ht hv
  ·rw [f3] at hu;rw [f2];exact k.w.vt m u hu
  ·rw [f5];rw [e2] at he
   split at he
   ·exact k.srv.eok e he
   ·exact k.w.eok t e he
  ·rw [e2] at he
   split at he
   ·exact k.srv.rep.ix j e he
   ·exact k.w.ix t j e he
  ·rw [f3] at hv;rw [f4]
   obtain ⟨a,b⟩:=k.w.cg t m hm hv
   exact ⟨x.good a,b⟩
  ·rw [f2,f6];rw [f5] at m2;exact k.w.l1 m m1 m2
  ·rw [e2,f6];split
   ·exact k.srv.al
   ·exact k.w.l2 t
 refine ⟨g',x,f6,w',?_,⟨k.kp.hard,k.kp.log⟩,fun p hp=>x.msg k.w (k.out p hp)⟩
 have hlast:=k.srv.rep.last
 have sv:=k.srv
 exact {
  n1:=sv.n1,n2:=by rw [f5];exact sv.n2,self:=sv.self,first:=sv.first,tm:=by rw [f2];exact sv.tm,t0:=sv.t0,rep:=sv.rep,si:=sv.si,s0:=sv.s0,s1:=sv.s1,sd:=sv.sd
  good:=x.good sv.good,low:=sv.low,eok:=by rw [f5];exact sv.eok,al:=by rw [f6];exact sv.al
  vl:=fun u i hu hl hw hi=>by
   rw [e1] at hl
   rw [e5] at hi
   by_cases z:u=c.term
   ·exfalso
    obtain ⟨j,e,rfl,h,he3⟩:=hw
    rw [e2,if_pos z] at h
    have:=cd4 j e h;omega
   ·rw [if_neg z] at hl;rw [if_neg fun y=>z y.2] at hi
    have hacc:=k.w.acc n u
    rcases sv.vl u i hu hl (x.own' hl (by omega) hw) hi with p | ⟨y,y1,y2,y3,y4⟩
    ·exact .inl (x.pre hl p)
    ·exact .inr ⟨y,y1,y2,by rw [(x.led y y3).1];exact y3,x.npre hl y3 (by omega) y4⟩
  c0:=sv.c0,c1:=sv.c1,com:=x.com (Int.le_refl _) sv.com,vote:=by rw [f3];exact sv.vote,vr0:=sv.vr0,vr1:=sv.vr1
  st := .inr (.inr rfl)
  lead:=fun _=>⟨by show g'.H.led c.term=n;rw [e1,if_pos rfl],by show g'.H.ll c.term=A;rw [e2,if_pos rfl],fun m m1 m2=>by
    show 0≤five0.get m∧(five0.get m).toNat≤_
    rw [five0_at];simp,fun m m1 m2=>by
    show 1≤(Five.all (c.log.last.1+1)).get m∧(Five.all (c.log.last.1+1)).get m≤_
    rw [five_all _ m1 m2,hlast];simp;omega⟩
  lc:=fun _ h2 h3=>by
   exfalso
   have h2':1≤c.commit:=h2
   have h3':termAt A c.commit.toNat=c.term:=h3
   have hc1:=sv.c1
   obtain ⟨e,he⟩:∃ e,A[c.commit.toNat-1]? = some e:=⟨A[c.commit.toNat-1],by simp⟩
   have:=termAt_some he
   rw [show c.commit.toNat-1+1=c.commit.toNat by omega] at this
   have:=cd4 _ e he
   omega
  cand:=fun h=>by cases h
  idle:=fun h=>absurd rfl h
  q1:=sv.q1,q2:=sv.q2,w1:=sv.w1,w2:=sv.w2
  b0:=fun _=>by show (1:Int)≤2;omega
  b1:=by show (0:Int)≤2;omega
  b2:=Int.le_refl 2
  v1:=Int.le_refl 0
  v2:=by show (0:Int)<64;omega
  r1:=Int.le_refl 0
  r2:=by show (0:Int)≤g'.lim;rw [f6];exact hlim
  rl:=by show (0:Int)≤g'.lim;rw [f6];exact hlim}
end
section
variable {g:Gh} {n:Int} {s:SavedM} {c:CoreM} {A:List Abs}
theorem put_ok (c:CoreM) (kind:Int) (data:List Int) (h:(c.log.append [(c.term,c.log.last.1+1,kind,data)]).1=0) :
  c.put kind data={c with log:=(c.log.append [(c.term,c.log.last.1+1,kind,data)]).2,out:={c.out with entries:=c.out.entries++[(c.term,c.log.last.1+1,kind,data)]}}:=if_pos h
theorem append_es {L:LG} {xs:List Abs} (h:(L.append xs).1=0):(L.append xs).2.es=L.es++xs∧(L.append xs).2.bt=L.bt:=by
 unfold LG.append at h ⊢
 split
 ·exact ⟨rfl,rfl⟩
 ·rename_i z;rw [if_neg z] at h;exact absurd h z
theorem Kp.push {c:CoreM} (k:Kp s c) {l:LG} {xs:List Abs} (hl:l.es=c.log.es++xs) (hs:c.out.snap.index=0):Kp s {c with log:=l,out:={c.out with entries:=c.out.entries++xs}}:=by
 refine ⟨k.hard,?_⟩
 rcases k.log with ⟨a,b,d,e⟩ | ⟨a,b,d,e,f,h⟩ | ⟨a,_⟩
 ·exact .inl ⟨a,b,d,by show l.es=_;rw [hl,e,List.append_assoc]⟩
 ·exact .inr (.inl ⟨a,b,d,e,f,by show l.es=_;rw [hl,h,List.append_assoc]⟩)
 ·omega
def Gh.leads (g:Gh) (n t:Int) (B:List Abs):Gh :=
  {g with H:={g.H with ll:=fun u=>if u=t then B else g.H.ll u,acc:=fun m u=>if m=n∧u=t then B.length else g.H.acc m u}}
theorem Mid.put (k:Mid g n s c A) (h2:c.state=2) (kind:Int) (data:List Int) (hs:c.out.snap.index=0) (hal:(A.length:Int)+1≤g.lim) (ht1:1≤c.term)
  (he:EOk g.size (c.term,(A.length:Int)+1,kind,data))
  (hcf:kind=2→Near (conf 14 A) (conf 14 (A++[(c.term,(A.length:Int)+1,kind,data)]))∧∃ i,i≤A.length∧Own1 g.H c.term i∧mostOf (conf 14 A) (Acked g.H c.term i)=true∧∀ j,Says A j→j<i) :
  ∃ g',Ext n g g'∧g'.lim=g.lim∧Mid g' n s (c.put kind data) (A++[(c.term,(A.length:Int)+1,kind,data)])∧(c.put kind data).state=2:=by
 obtain ⟨l1,l2,l3,l4⟩:=k.srv.lead h2
 have sv:=k.srv
 have hn1:=sv.n1;have hn2:=sv.n2
 have htm:=sv.tm
 have hlim:=k.w.lim0 sv
 have h3:=k.w.l3
 have hl0:g.H.led c.term≠0:=by rw [l1];omega
 have ok:=k.w.ok
 have hlast:=sv.rep.last
 have htl:=k.w.l1 n hn1 hn2
 obtain ⟨en,hen⟩:∃ en:Abs,en=(c.term,(A.length:Int)+1,kind,data):=⟨_,rfl⟩
 have en1:en.1=c.term:=by rw [hen]
 have en2:en.2.1=(A.length:Int)+1:=by rw [hen]
 have en3:en.2.2.1=kind:=by rw [hen]
 rw [← hen] at he hcf ⊢
 have hmono:∀ (i j:Nat) (e f:Abs),i≤j→(A++[en])[i]? = some e→(A++[en])[j]? = some f→e.1≤f.1:=by
  intro i j e f hij hi hj
  by_cases c1:j<A.length
  ·rw [List.getElem?_append_left (by omega)] at hi
   rw [List.getElem?_append_left c1] at hj
   exact sv.good.mono i j e f hij hi hj
  ·have hj':=(List.getElem?_eq_some_iff.1 hj).1
   simp only [List.length_append,List.length_singleton] at hj'
   have:j=A.length:=by omega
   subst this
   rw [List.getElem?_append_right (Nat.le_refl _),Nat.sub_self] at hj
   simp at hj;subst hj
   rw [en1]
   by_cases c2:i<A.length
   ·rw [List.getElem?_append_left c2] at hi;exact sv.low i e hi
   ·have:i=A.length:=by omega
    subst this
    rw [List.getElem?_append_right (Nat.le_refl _),Nat.sub_self] at hi
    simp at hi;subst hi;rw [en1];exact Int.le_refl _
 have happ:(c.log.append [en]).1=0:=by
  refine sv.rep.append_ok [en] (fun j e hj=>?_) hmono
  cases j with
  | zero =>
   simp at hj;subst hj
   refine ⟨by rw [en2];simp,by rw [en1];exact ht1,by rw [en1];omega,by rw [en2];omega,he.k0,he.k2,he.len⟩
  | succ j=>simp at hj
 have hput:=put_ok c kind data (by rw [hlast];rw [hen] at happ;exact happ)
 rw [hlast] at hput
 simp only [] at hput
 rw [← hen] at hput
 rw [hput]
 obtain ⟨rep',hbi⟩:=sv.rep.append [en] happ
 obtain ⟨hes,hbt⟩:=append_es happ
 obtain ⟨g',hg'⟩:∃ g',g'=g.leads n c.term (A++[en]):=⟨_,rfl⟩
 have e1:g'.H.led=g.H.led:=by rw [hg'];rfl
 have e2:∀ u,g'.H.ll u=if u=c.term then A++[en] else g.H.ll u:=fun u=>by rw [hg'];rfl
 have e3:g'.H.ini=g.H.ini:=by rw [hg'];rfl
 have e4:g'.H.q=g.H.q:=by rw [hg'];rfl
 have e5:∀ m u,g'.H.acc m u=if m=n∧u=c.term then (A++[en]).length else g.H.acc m u:=fun m u=>by rw [hg'];rfl
 have f1:g'.H.first=g.H.first:=by rw [hg'];rfl
 have f2:g'.tm=g.tm:=by rw [hg'];rfl
 have f3:g'.vt=g.vt:=by rw [hg'];rfl
 have f4:g'.cand=g.cand:=by rw [hg'];rfl
 have f5:g'.size=g.size:=by rw [hg'];rfl
 have f6:g'.lim=g.lim:=by rw [hg'];rfl
 clear hg'
 have haccn:g.H.acc n c.term≤A.length:=by rw [← l2];exact k.w.acc n c.term
 have x:Ext n g g':=by
  refine ⟨f5,by rw [f6];exact Int.le_refl _,f1,fun m _=>by rw [f2],by rw [f2];exact Int.le_refl _,fun m t _=>by rw [f3],fun m t _=>by rw [f3],fun t m _ _=>by rw [f4],fun t ht=>?_,fun t ht h=>by rw [e1] at h;exact absurd ht h,fun t ht h=>?_,fun m u=>?_,fun m u h=>?_⟩
  ·rw [e1,e2,e3];refine ⟨rfl,rfl,?_⟩
   split
   ·rename_i z;rw [z,l2];exact Pre.append
   ·exact Pre.refl (Nat.le_refl _)
  ·rw [e2,if_neg];rintro rfl;exact h l1
  ·rw [e5];split
   ·rename_i z;rw [z.1,z.2,List.length_append];omega
   ·exact Nat.le_refl _
  ·rw [e5,if_neg];rintro ⟨rfl,rfl⟩
   rcases h with h | h
   ·exact h rfl
   ·omega
 have getEn:∀ (j:Nat) (e:Abs),(A++[en])[j]? = some e→(A[j]? = some e∧j<A.length)∨(j=A.length∧e=en):=fun j e h=>by
  by_cases c1:j<A.length
  ·rw [List.getElem?_append_left c1] at h;exact .inl ⟨h,c1⟩
  ·have hj':=(List.getElem?_eq_some_iff.1 h).1
   simp only [List.length_append,List.length_singleton] at hj'
   have:j=A.length:=by omega
   subst this
   rw [List.getElem?_append_right (Nat.le_refl _),Nat.sub_self] at h
   simp at h;exact .inr ⟨rfl,h.symm⟩
 have hgood:Good g'.H (A++[en]):=by
  refine ⟨fun j e h=>?_,hmono⟩
  rcases getEn j e h with ⟨h,hj⟩ | ⟨rfl,rfl⟩
  ·obtain ⟨a,b,d⟩:=(x.good sv.good).lm j e h
   exact ⟨a,b,(Pre.append.le (by omega)).symm.trans d⟩
  ·refine ⟨by rw [en1];exact ht1,by rw [e1,en1];exact hl0,?_⟩
   rw [en1,e2,if_pos rfl];exact Pre.refl (by simp)
 have hini:(g.H.ini c.term).length≤A.length:=by have:=(ok.ini _ hl0).b;rw [l2] at this;exact this
 have ho:HOk g'.H:=by
  refine ⟨fun t ht=>?_,fun t ht=>?_,fun t j e ht h=>?_,fun t j e ht h=>?_,fun t j e ht hk h=>?_,fun t ht=>?_,fun t v ht hv=>?_,fun u j e hu he2 hk2 h1=>?_⟩
  ·rw [e1] at ht;rw [e2];split
   ·exact hgood
   ·exact x.good (ok.log t ht)
  ·rw [e1] at ht;rw [e2,e3];split
   ·rename_i z;have:=ok.ini t ht;rw [z,l2] at this;rw [z];exact this.trans (Pre.append.le this.b)
   ·exact ok.ini t ht
  ·rw [e1] at ht;rw [e3] at h;exact ok.old t j e ht h
  ·rw [e1] at ht;rw [e2] at h
   split at h
   ·rename_i z;rw [z]
    rcases getEn j e h with ⟨h,hj⟩ | ⟨rfl,rfl⟩
    ·exact sv.low j e h
    ·rw [en1];exact Int.le_refl _
   ·exact ok.top t j e ht h
  ·rw [e1] at ht;rw [e3] at hk;rw [e2] at h
   split at h
   ·rename_i z
    rcases getEn j e h with ⟨h,hj⟩ | ⟨rfl,rfl⟩
    ·exact ok.own t j e ht hk (by rw [z,l2];exact h)
    ·rw [en1,z]
   ·exact ok.own t j e ht hk h
  ·rw [e1] at ht;rw [e3,e4,f1];exact ok.most t ht
  ·rw [e1] at ht;rw [e4] at hv;rw [e3]
   exact x.vow k.w (k.w.vt v t (by rw [k.w.q t v ht hv];exact ht)) (ok.vow t v ht hv)
  ·rw [e1] at hu;rw [f1];rw [e2] at he2 ⊢
   have mono:∀ {i:Nat} {d:Int},mostOf d (Acked g.H u i)=true→mostOf d (Acked g'.H u i)=true:=fun h=>mostOf_mono (fun m hm=>by simp only [Acked,decide_eq_true_eq] at hm ⊢;exact Nat.le_trans hm (x.acc m u)) h
   split at he2
   ·rename_i z;rw [if_pos z]
    rcases getEn j e he2 with ⟨h,hj⟩ | ⟨rfl,rfl⟩
    ·obtain ⟨a,i,b1,b2,b3,b4⟩:=ok.cf u j e hu (by rw [z,l2];exact h) hk2 h1
     rw [z,l2] at a b3 b4
     rw [List.take_append_of_le_length (by omega),List.take_append_of_le_length (by omega)]
     rw [← z] at b3
     exact ⟨a,i,b1,x.own hu b2,mono b3,fun m hm sm=>b4 m hm ((Pre.append (A:=A) (B:=[en])).symm.says (by omega) sm)⟩
    ·obtain ⟨a,i,b1,b2,b3,b4⟩:=hcf (by rw [← en3];exact hk2)
     rw [List.take_append_of_le_length (Nat.le_refl _),List.take_of_length_le (show A.length≤A.length by omega),List.take_of_length_le (by simp),k.w.first]
     rw [← z] at b2 b3
     exact ⟨a,i,b1,x.own hu b2,mono b3,fun m hm sm=>b4 m ((Pre.append (A:=A) (B:=[e])).symm.says (by omega) sm)⟩
   ·rename_i z;rw [if_neg z]
    obtain ⟨a,i,b1,b2,b3,b4⟩:=ok.cf u j e hu he2 hk2 h1
    exact ⟨a,i,b1,x.own hu b2,mono b3,b4⟩
 have eok':∀ e∈A++[en],EOk g.size e:=fun e h=>by
  rcases List.mem_append.1 h with h | h
  ·exact sv.eok e h
  ·rw [List.mem_singleton.1 h];exact he
 have w':Wld g':=by
  refine ⟨ho,f1.trans k.w.first,by rw [f5];exact k.w.sz3,by rw [f5];exact k.w.sz5,fun t ht=>by rw [e1] at ht ⊢;rw [f2,f5];exact k.w.led t ht,fun t ht=>?_,fun m u=>?_,fun m u hu=>?_,fun t ht=>?_,fun t v ht hv=>by rw [e1] at ht ⊢;rw [e4] at hv;rw [f3];exact k.w.q t v ht hv,fun m u hu=>by rw [f3] at hu;rw [f2];exact k.w.vt m u hu,fun t e he=>?_,fun t j e he=>?_,fun t m hm hv=>?_,fun m m1 m2=>by rw [f2,f6];rw [f5] at m2;exact k.w.l1 m m1 m2,fun t=>?_,by rw [f6];exact h3⟩
  ·rw [e1] at ht;rw [e2,if_neg (fun z=>hl0 (by rw [← z];exact ht))];exact k.w.ll0 t ht
  ·rw [e5,e2]
   by_cases z:u=c.term
   ·rw [if_pos z];split
    ·exact Nat.le_refl _
    ·have:=k.w.acc m u;rw [z,l2] at this;rw [z,List.length_append];omega
   ·rw [if_neg z,if_neg fun y=>z y.2];exact k.w.acc m u
  ·rw [f2];rw [e5] at hu
   split at hu
   ·rename_i z;rw [z.1,z.2,htm];exact Int.le_refl _
   ·exact k.w.acc0 m u hu
  ·rw [e1] at ht ⊢;rw [e2,e5]
   by_cases z:t=c.term
   ·rw [if_pos z,if_pos ⟨by rw [z];exact l1,z⟩]
   ·rw [if_neg z,if_neg fun y=>z y.2];exact k.w.accL t ht
  ·rw [f5];rw [e2] at he
   split at he
   ·exact eok' e he
   ·exact k.w.eok t e he
  ·rw [e2] at he
   split at he
   ·exact rep'.ix j e he
   ·exact k.w.ix t j e he
  ·rw [f3] at hv;rw [f4]
   obtain ⟨a,b⟩:=k.w.cg t m hm hv
   exact ⟨x.good a,b⟩
  ·rw [e2,f6];split
   ·rw [List.length_append];simp;omega
   ·exact k.w.l2 t
 refine ⟨g',x,f6,⟨w',?_,k.kp.push hes hs,fun p hp=>x.msg k.w (k.out p hp)⟩,h2⟩
 have pA:Pre A.length A (A++[en]):=Pre.append
 have hc1:=sv.c1
 exact {
  n1:=sv.n1,n2:=by rw [f5];exact sv.n2,self:=sv.self,first:=sv.first,tm:=by rw [f2];exact sv.tm,t0:=sv.t0,rep:=rep',si:=by show c.snap.index=(c.log.append [en]).2.bi;rw [hbi];exact sv.si
  s0:=fun h=>sv.s0 (by have:(c.log.append [en]).2.bi=0:=h;rw [hbi] at this;exact this)
  s1:=fun h=>by
   have h':0<(c.log.append [en]).2.bi:=h
   rw [hbi] at h'
   have:=sv.s1 h'
   show c.snap.term=(c.log.append [en]).2.bt∧c.snap.crew=conf 14 ((A++[en]).take (c.log.append [en]).2.bi.toNat)
   rw [hbi,hbt,← pA.take_le sv.rep.le];exact this
  sd:=sv.sd
  good:=hgood
  low:=fun j e h=>by
   rcases getEn j e h with ⟨h,hj⟩ | ⟨rfl,rfl⟩
   ·exact sv.low j e h
   ·rw [en1];exact Int.le_refl _
  eok:=by rw [f5];exact eok',al:=by rw [f6,List.length_append];simp;omega
  vl:=fun u i hu hl hw hi=>by
   rw [e1] at hl
   by_cases z:u=c.term
   ·left
    rw [e5,if_pos ⟨rfl,z⟩] at hi
    rw [e2,if_pos z];exact Pre.refl hi
   ·rw [e5,if_neg fun y=>z y.2] at hi
    have hacc:=k.w.acc n u
    rcases sv.vl u i hu hl (x.own' hl (by omega) hw) hi with p | ⟨y,y1,y2,y3,y4⟩
    ·exact .inl ((x.pre hl p).trans (pA.le p.b))
    ·exact .inr ⟨y,y1,y2,by rw [e1];exact y3,x.npre hl y3 (by omega) y4⟩
  c0:=by show (c.log.append [en]).2.bi≤c.commit;rw [hbi];exact sv.c0
  c1:=by show c.commit≤((A++[en]).length:Nat);rw [List.length_append];simp;omega
  com:=(x.com (Int.le_refl _) sv.com).move (pA.le (by omega)),vote:=by rw [f3];exact sv.vote,vr0:=sv.vr0,vr1:=sv.vr1
  st := .inr (.inr h2)
  lead:=fun _=>⟨by rw [e1];exact l1,by show g'.H.ll c.term=_;rw [e2,if_pos rfl],fun m m1 m2=>⟨(l3 m m1 m2).1,Nat.le_trans (l3 m m1 m2).2 (x.acc _ _)⟩,fun m m1 m2=>by
    have:=l4 m m1 m2
    refine ⟨this.1,?_⟩
    show c.next.get m≤((A++[en]).length:Nat)+1
    rw [List.length_append];simp;omega⟩
  lc:=fun _ h2' h3'=>by
   have h2'':1≤c.commit:=h2'
   have h3'':termAt (A++[en]) c.commit.toNat=c.term:=h3'
   rw [← pA.termAt (by omega)] at h3''
   exact x.chosen (sv.lc h2 h2'' h3'')
  cand:=fun h=>by rw [show ({c with log:=(c.log.append [en]).2,out:={c.out with entries:=c.out.entries++[en]}}:CoreM).state=c.state from rfl,h2] at h;cases h
  idle:=fun h=>absurd h2 h
  q1:=sv.q1,q2:=sv.q2,w1:=sv.w1,w2:=sv.w2,b0:=sv.b0,b1:=sv.b1,b2:=sv.b2,v1:=sv.v1,v2:=sv.v2,r1:=sv.r1
  r2:=by rw [f6];exact sv.r2
  rl:=by rw [f6];exact sv.rl}
end
section
variable {g:Gh} {n:Int} {s:SavedM} {c:CoreM} {A:List Abs}
theorem Mid.send (k:Mid g n s c A) (h2:c.state=2) {m:Int} (m1:1≤m) (m2:m≤g.size) (mn:m≠n):Mid g n s (c.send m) A:=by
 obtain ⟨l1,l2,l3,l4⟩:=k.srv.lead h2
 have sv:=k.srv
 have hn1:=sv.n1;have hn2:=sv.n2;have hs5:=k.w.sz5
 have hl0:g.H.led c.term≠0:=by rw [l1];omega
 have ht1:=(k.w.led _ hl0).1
 have hself:=sv.self
 have hlim:=k.w.lim0 sv
 obtain ⟨x1,x2⟩:=l4 m m1 (by omega)
 have hb:=sv.rep.lo;have hle:=sv.rep.le
 have hc0:=sv.c0;have hc1:=sv.c1
 have htm:c.term≤g.tm n:=by rw [sv.tm];exact Int.le_refl _
 unfold CoreM.send
 split
 ·rename_i hx
  refine k.say ⟨by show 1≤c.self;omega,by show c.self≤g.size;omega,m1,m2,by show c.self≠m;omega,ht1,by show c.term≤g.tm c.self;rw [hself];exact htm,sv.r1,sv.r2, .inr (.inr (.inr (.inr (.inl ⟨rfl,rfl,?_⟩))))⟩
  have hbi:0<c.log.bi:=by omega
  obtain ⟨s1,s2⟩:=sv.s1 hbi
  show g.H.led c.term=c.self∧1≤c.snap.index∧c.snap.index≤(g.H.ll c.term).length∧c.snap.term=termAt (g.H.ll c.term) c.snap.index.toNat∧c.snap.crew=conf 14 ((g.H.ll c.term).take c.snap.index.toNat)∧c.snap.data.length≤8192∧Com g.H c.term c.snap.index.toNat (g.H.ll c.term)
  rw [l2,sv.si]
  exact ⟨by rw [l1,hself],by omega,by omega,by rw [s1,sv.rep.bt],s2,sv.sd,sv.com.less (by omega)⟩
 ·rename_i hx
  have hx':c.log.bi<c.next.get m:=by omega
  have hsl:=sv.rep.slice hx' x2
  have htr:=sv.rep.term_in (i:=c.next.get m-1) (by omega) (by omega)
  refine k.say ⟨by show 1≤c.self;omega,by show c.self≤g.size;omega,m1,m2,by show c.self≠m;omega,ht1,by show c.term≤g.tm c.self;rw [hself];exact htm,sv.r1,sv.r2, .inr (.inr (.inl ⟨rfl,rfl,?_⟩))⟩
  show g.H.led c.term=c.self∧0≤c.next.get m-1∧c.next.get m-1≤(g.H.ll c.term).length∧(c.log.term (c.next.get m-1)).1=termAt (g.H.ll c.term) (c.next.get m-1).toNat∧(c.log.slice (c.next.get m) 8).1.length≤8∧c.next.get m-1+(c.log.slice (c.next.get m) 8).1.length≤(g.H.ll c.term).length ∧
   (c.log.slice (c.next.get m) 8).1=((g.H.ll c.term).drop (c.next.get m-1).toNat).take (c.log.slice (c.next.get m) 8).1.length∧0≤c.commit∧c.commit≤(g.H.ll c.term).length∧Com g.H c.term c.commit.toNat (g.H.ll c.term)
  rw [l2,hsl,htr]
  refine ⟨by rw [l1,hself],by omega,by omega,rfl,by rw [List.length_take];omega,by rw [List.length_take,List.length_drop];omega,?_,by omega,hc1,sv.com⟩
  rw [List.length_take]
  by_cases h:8≤(A.drop (c.next.get m-1).toNat).length
  ·rw [Nat.min_eq_left h]
  ·rw [Nat.min_eq_right (by omega),List.take_of_length_le (by omega),List.take_length]
theorem send_st (c:CoreM) (m:Int):(c.send m).state=c.state:=by unfold CoreM.send;split <;> rfl
theorem Mid.sends (h2:c.state=2):∀ (l:List Int) (c:CoreM),c.state=2→Mid g n s c A→(∀ m∈l,1≤m∧m≤g.size∧m≠n)→Mid g n s (l.foldl CoreM.send c) A∧(l.foldl CoreM.send c).state=2
 | [],c,hc,k,_=>⟨k,hc⟩
 | m::l,c,hc,k,h=>by
  obtain ⟨m1,m2,m3⟩:=h m (by simp)
  rw [List.foldl_cons]
  exact Mid.sends h2 l _ ((send_st c m).trans hc) (k.send hc m1 m2 m3) fun j hj=>h j (by simp [hj])
theorem Mid.sendAll (k:Mid g n s c A) (h2:c.state=2):Mid g n s c.sendAll A∧c.sendAll.state=2 :=
 Mid.sends h2 c.others c h2 k fun m hm=>k.srv.others k.w m hm
theorem foldMax1:∀ (l:List Int) (a:Int),l.foldl (fun a b=>if a<b then b else a) a=a∨l.foldl (fun a b=>if a<b then b else a) a∈l
 | [],a => .inl rfl
 | y::l,a=>by
  rw [List.foldl_cons]
  rcases foldMax1 l (if a<y then y else a) with h | h
  ·split at h
   ·rename_i c;rw [if_pos c,h];exact .inr (by simp)
   ·rename_i c;rw [if_neg c,h];exact .inl rfl
  ·exact .inr (List.mem_cons_of_mem _ h)
theorem five_get_set (f:Five) (n m v:Int) (h1:1≤m) (h2:m≤5):(f.set n v).get m=if m=n then v else f.get m:=by
 have:m=1∨m=2∨m=3∨m=4∨m=5:=by omega
 rcases this with rfl | rfl | rfl | rfl | rfl <;> simp [Five.set,Five.get,eq_comm]
theorem k_first (w:Wld g):g.H.first=14:=w.first
theorem rankOf_most {now:Int} {f:Five} (h:0<rankOf now f):mostOf now (fun m=>decide (rankOf now f≤f.get m))=true:=by
 have hm:rankOf now f∈((ls (m5 now)).map f.get).filter fun v=>decide (((ls (m5 now)).map f.get).length<2*cnt v ((ls (m5 now)).map f.get)):=by
  have:=foldMax1 (((ls (m5 now)).map f.get).filter fun v=>decide (((ls (m5 now)).map f.get).length<2*cnt v ((ls (m5 now)).map f.get))) 0
  rcases this with e | e
  ·have e':rankOf now f=0:=e
   omega
  ·exact e
 generalize rankOf now f=r at *
 have:=(List.mem_filter.1 hm).2
 simp only [decide_eq_true_eq,List.length_map] at this
 simp only [mostOf,decide_eq_true_eq]
 have e:cnt r ((ls (m5 now)).map f.get)=((ls (m5 now)).filter fun m=>decide (r≤f.get m)).length:=by
  unfold cnt
  rw [List.countP_map,List.countP_eq_length_filter]
  rfl
 omega
theorem Srv.matched (w:Wld g) (k:Srv g n c A) (h2:c.state=2):Srv g n {c with mtch:=c.mtch.set c.self c.log.last.1} A:=by
 obtain ⟨l1,l2,l3,l4⟩:=k.lead h2
 have hn1:=k.n1;have hn2:=k.n2
 exact {k with
  lead:=fun _=>⟨l1,l2,fun m m1 m2=>by
   show 0≤(c.mtch.set c.self c.log.last.1).get m∧((c.mtch.set c.self c.log.last.1).get m).toNat≤_
   rw [five_get_set _ _ _ _ m1 m2,k.self,k.rep.last]
   split
   ·rename_i z
    refine ⟨by simp,?_⟩
    have:=w.accL c.term (by rw [l1];omega)
    rw [l1,l2] at this
    rw [z];show ((A.length:Int)).toNat≤g.H.acc n c.term;omega
   ·exact l3 m m1 m2,l4⟩
  idle:=fun h=>absurd h2 h}
theorem Mid.rank (k:Mid g n s c A) (h2:c.state=2):Mid g n s c.rank A:=by
 obtain ⟨d,hd⟩:∃ d:CoreM,d={c with mtch:=c.mtch.set c.self c.log.last.1}:=⟨_,rfl⟩
 have sd:Srv g n d A:=by rw [hd];exact k.srv.matched k.w h2
 have kd:Mid g n s d A:=⟨k.w,sd,by rw [hd];exact ⟨k.kp.hard,k.kp.log⟩,by rw [hd];exact k.out⟩
 have hd2:d.state=2:=by rw [hd];exact h2
 have er:c.rank=(let r:=rankOf d.crewNow.1 d.mtch;if r≤d.commit∨d.has r d.term=false then d else if hasB d.crewNow.1 d.self=false∧d.crewNow.2≤r then ({d with commit:=r}:CoreM).follow else {d with commit:=r}):=by rw [hd];rfl
 rw [er]
 clear er hd k
 obtain ⟨l1,l2,l3,l4⟩:=sd.lead hd2
 have hn1:=sd.n1;have hn2:=sd.n2
 have hl0:g.H.led d.term≠0:=by rw [l1];omega
 have hb:=sd.rep.lo;have hc0:=sd.c0;have hc1:=sd.c1
 simp only []
 generalize hr:rankOf d.crewNow.1 d.mtch=r
 by_cases c1:r≤d.commit∨d.has r d.term=false
 ·rw [if_pos c1];exact kd
 ·rw [if_neg c1]
  have hgt:d.commit<r:=by omega
  have hhas:d.has r d.term=true:=by
   cases hh:d.has r d.term
   ·exact absurd (.inr hh) c1
   ·rfl
  obtain ⟨r1,r2,r3⟩:=(sd.rep.has d rfl r d.term).1 hhas
  have hmost:=rankOf_most (now:=d.crewNow.1) (f:=d.mtch) (by rw [hr];omega)
  rw [hr,sd.crew.1] at hmost
  have hch:Chosen g.H d.term r.toNat:=by
   refine ⟨hl0,?_,A.length,by omega,by rw [l2];exact Nat.le_refl _,?_⟩
   ·obtain ⟨e,he⟩:∃ e,A[r.toNat-1]? = some e:=⟨A[r.toNat-1],by simp⟩
    have ht:=termAt_some he
    rw [show r.toNat-1+1=r.toNat by omega,r3] at ht
    exact ⟨r.toNat-1,e,by omega,by rw [l2];exact he,ht.symm⟩
   ·rw [k_first kd.w,l2,List.take_length]
    simp only [mostOf,decide_eq_true_eq] at hmost ⊢
    refine Nat.lt_of_lt_of_le hmost (Nat.mul_le_mul_left 2 ?_)
    have:∀ l:List Int,(∀ m∈l,1≤m∧m≤5)→(l.filter fun m=>decide (r≤d.mtch.get m)).length≤(l.filter (Acked g.H d.term r.toNat)).length:=by
     intro l
     induction l with
     | nil=>intro _;simp
     | cons z l ih =>
      intro hl
      have hz:=l3 z (hl z (by simp)).1 (hl z (by simp)).2
      have ih:=ih fun m hm=>hl m (by simp [hm])
      rw [List.filter_cons,List.filter_cons]
      by_cases c2:r≤d.mtch.get z
      ·rw [if_pos (by simpa using c2),if_pos (by simp only [Acked,decide_eq_true_eq];omega)];simp;exact ih
      ·rw [if_neg (by simpa using c2)]
       split
       ·simp;omega
       ·exact ih
    exact this _ (ls_in1 _)
  have sr:Srv g n {d with commit:=r} A:={sd with
   c0:=by show d.log.bi≤r;omega
   c1:=r2
   com := .inr ⟨d.term,r.toNat,hch,Int.le_refl _,Nat.le_refl _,by rw [l2];exact Pre.refl (by show r.toNat≤_;omega)⟩
   lc:=fun _ _ _=>hch}
  have km:Mid g n s {d with commit:=r} A:=⟨kd.w,sr,⟨kd.kp.hard,kd.kp.log⟩,kd.out⟩
  split
  ·exact km.follow
  ·exact km
theorem Mid.confirm (k:Mid g n s c A):Mid g n s c.confirm A:=by
 unfold CoreM.confirm
 split
 ·exact k
 ·rename_i h
  have sv:=k.srv
  refine ⟨k.w,?_,⟨k.kp.hard,k.kp.log⟩,k.out⟩
  exact {sv with
   idle:=fun z=>absurd z h
   rl:=by
    have:=List.length_filter_le (fun r => !c.roundOk r) c.reads
    have:=sv.rl
    show ((c.reads.filter fun r => !c.roundOk r).length:Int)≤_
    omega}
end
section
variable {g:Gh} {n:Int} {s:SavedM} {c:CoreM} {A:List Abs}
def Gh.more (g:Gh) (d:Int):Gh:={g with lim:=g.lim+d}
theorem ext_more {d:Int} (h:0≤d):Ext n g (g.more d) :=
 ⟨rfl,by show g.lim≤g.lim+d;omega,rfl,fun _ _=>rfl,Int.le_refl _,fun _ _ _=>rfl,fun _ _ _=>rfl,fun _ _ _ _=>rfl,fun _ _=>⟨rfl,rfl,Pre.refl (Nat.le_refl _)⟩,fun t h h'=>absurd h h',fun _ _ _=>rfl,fun _ _=>Nat.le_refl _,fun _ _ _=>rfl⟩
theorem Wld.more (w:Wld g) {d:Int} (h:0≤d) (hl:g.lim+d≤100000000):Wld (g.more d) :=
 {w with
  l1:=fun m m1 m2=>by have:=w.l1 m m1 m2;show g.tm m≤g.lim+d;omega
  l2:=fun t=>by have:=w.l2 t;show ((g.H.ll t).length:Int)≤g.lim+d;omega
  l3:=hl}
theorem Srv.more (k:Srv g n c A) {d:Int} (h:0≤d):Srv (g.more d) n c A :=
 {k with
  al:=by have:=k.al;show (A.length:Int)≤g.lim+d;omega
  r2:=by have:=k.r2;show c.round≤g.lim+d;omega
  rl:=by have:=k.rl;show (c.reads.length:Int)≤g.lim+d;omega}
theorem CoreM.lead_eq (c:CoreM):c.lead=((c.office.put 0 []).sendAll).rank:=rfl
theorem Mid.lead (k:Mid g n s c A) (h1:c.state=1) (he:c.elected=true) (hs:c.out.snap.index=0) (hal:(A.length:Int)+1≤g.lim) :
  ∃ g' A',Ext n g g'∧g'.lim=g.lim∧Mid g' n s c.lead A':=by
 obtain ⟨_,_,_,_,ct,_⟩:=k.srv.cand h1
 obtain ⟨g1,x1,l1,k1⟩:∃ g',Ext n g g'∧g'.lim=g.lim∧Mid g' n s c.office A:=by
  obtain ⟨g',x,l,y⟩:=k.wins' h1 he
  exact ⟨g',x,l,y⟩
 obtain ⟨g2,x2,l2,k2,s2⟩:=k1.put rfl 0 [] hs (by rw [l1];exact hal) ct ⟨Int.le_refl 0,by show (0:Int)≤2;omega,by simp,by simp,fun h=>by cases h⟩ (fun h=>by cases h)
 obtain ⟨k3,s3⟩:=k2.sendAll s2
 exact ⟨g2,_,x1.trans x2,l2.trans l1,k3.rank s3⟩
theorem Mid.saysVote (h1:c.state=1):∀ (l:List Int) (c:CoreM),c.state=1→Mid g n s c A→(∀ m∈l,1≤m∧m≤g.size∧m≠n) →
  Mid g n s (l.foldl (fun x m=>x.say m {post0 with kind:=1,index:=(A.length:Int),logTerm:=termAt A A.length}) c) A∧(l.foldl (fun x m=>x.say m {post0 with kind:=1,index:=(A.length:Int),logTerm:=termAt A A.length}) c).state=1
 | [],c,hc,k,_=>⟨k,hc⟩
 | m::l,c,hc,k,h=>by
  obtain ⟨m1,m2,m3⟩:=h m (by simp)
  obtain ⟨a,b,d,e,f,_⟩:=k.srv.cand hc
  have sv:=k.srv
  have hself:=sv.self
  have hn1:=sv.n1;have hn2:=sv.n2
  have hlim:=k.w.lim0 sv
  rw [List.foldl_cons]
  refine Mid.saysVote h1 l _ hc (k.say ?_) fun j hj=>h j (by simp [hj])
  refine ⟨by show 1≤c.self;omega,by show c.self≤g.size;omega,m1,m2,by show c.self≠m;omega,f,by show c.term≤g.tm c.self;rw [hself,sv.tm];exact Int.le_refl _,Int.le_refl 0,hlim, .inl ⟨rfl,rfl,?_⟩⟩
  show g.vt c.self c.term=c.self∧(A.length:Int)=(g.cand c.term c.self).length∧termAt A A.length=termAt (g.cand c.term c.self) (g.cand c.term c.self).length∧(A.length:Int)≤g.lim
  rw [hself,d]
  exact ⟨b,rfl,rfl,sv.al⟩
def CoreM.stoodM (c:CoreM):CoreM:={c.learn (c.term+1) with vote:=c.self,state:=1,votes:=2^c.self.toNat}
theorem CoreM.stand_is (c:CoreM):c.stand=if hasB c.crewNow.1 c.self=false∨c.term=9007199254740991 then c
 else if (c.stoodM.others.foldl (fun x m=>x.say m {post0 with kind:=1,index:=c.log.last.1,logTerm:=c.log.last.2}) c.stoodM).elected=true then (c.stoodM.others.foldl (fun x m=>x.say m {post0 with kind:=1,index:=c.log.last.1,logTerm:=c.log.last.2}) c.stoodM).lead
  else c.stoodM.others.foldl (fun x m=>x.say m {post0 with kind:=1,index:=c.log.last.1,logTerm:=c.log.last.2}) c.stoodM:=rfl
theorem says_out (p:PostM):∀ (l:List Int) (c:CoreM),(l.foldl (fun x m=>x.say m p) c).out.snap=c.out.snap
 | [],c=>rfl
 | m::l,c=>by rw [List.foldl_cons,says_out p l];rfl
theorem Mid.stand (k:Mid g n s c A) (hs:c.out.snap.index=0) (hal:(A.length:Int)+1≤g.lim) (htl:c.term+1≤g.lim):∃ g' A',Ext n g g'∧g'.lim=g.lim∧Mid g' n s c.stand A':=by
 rw [CoreM.stand_is]
 split
 ·exact ⟨g,A,Ext.refl _ _,rfl,k⟩
 ·obtain ⟨x,kd⟩:=k.stood htl
  have hlast:=k.srv.rep.last
  rw [hlast]
  simp only []
  have ho:=fun m hm=>kd.srv.others kd.w m hm
  obtain ⟨ke,se⟩:=Mid.saysVote (c:=c.stoodM) rfl c.stoodM.others c.stoodM rfl kd ho
  split
  ·rename_i hel
   obtain ⟨g2,A2,x2,l2,k2⟩:=ke.lead se hel (by rw [says_out];exact hs) hal
   exact ⟨g2,A2,x.trans x2,l2,k2⟩
  ·exact ⟨_,A,x,rfl,ke⟩
theorem Mid.tick (k:Mid g n s c A) (hs:c.out.snap.index=0) (hal:(A.length:Int)+1≤g.lim) (htl:c.term+1≤g.lim) {d:Int} (hd:0≤d):∃ g' A',Ext n g g'∧g'.lim=g.lim∧Mid g' n s (c.tick d) A':=by
 have sv:=k.srv
 unfold CoreM.tick
 split
 ·rename_i h2
  split
  ·have k':Mid g n s {c with beat:=2} A:=⟨k.w,{sv with b0:=fun _=>by show (1:Int)≤2;omega,b1:=by show (0:Int)≤2;omega,b2:=Int.le_refl 2},⟨k.kp.hard,k.kp.log⟩,k.out⟩
   exact ⟨g,A,Ext.refl _ _,rfl,(k'.sendAll h2).1⟩
  ·rename_i hb
   have:=sv.b0 h2;have:=sv.b2
   exact ⟨g,A,Ext.refl _ _,rfl,⟨k.w,{sv with b0:=fun _=>by show 1≤c.beat-1;omega,b1:=by show 0≤c.beat-1;omega,b2:=by show c.beat-1≤2;omega},⟨k.kp.hard,k.kp.log⟩,k.out⟩⟩
 ·rename_i h2
  obtain ⟨q,hq,hq1,hq2⟩:∃ q,q=(if 10<c.quiet+1 then 10 else c.quiet+1)∧0≤q∧q≤10:=by
   have:=sv.q1;have:=sv.q2
   refine ⟨_,rfl,?_,?_⟩ <;> split <;> omega
  rw [← hq]
  have hw1:=sv.w1;have hw2:=sv.w2
  simp only []
  split
  ·obtain ⟨y1,y2⟩:=waits_in hd
   have k':Mid g n s {c with quiet:=q,wait:=waits d} A:=⟨k.w,{sv with q1:=hq1,q2:=hq2,w1:=by show 1≤waits d;omega,w2:=y2},⟨k.kp.hard,k.kp.log⟩,k.out⟩
   exact k'.stand hs hal htl
  ·rename_i hw
   exact ⟨g,A,Ext.refl _ _,rfl,⟨k.w,{sv with q1:=hq1,q2:=hq2,w1:=by show 1≤c.wait-1;omega,w2:=by show c.wait-1≤19;omega},⟨k.kp.hard,k.kp.log⟩,k.out⟩⟩
end
section
variable {g:Gh} {n:Int} {s:SavedM} {c:CoreM} {A:List Abs}
theorem step_sub:∀ k,k<32→∀ j,j<32→pop (k ^^^ j)=1→((ls k).isSublist (ls j)=true∧(ls j).length=(ls k).length+1)∨((ls j).isSublist (ls k)=true∧(ls k).length=(ls j).length+1):=by decide +kernel
theorem near_sub {a b:Int} (h:(ls (m5 a)).Sublist (ls (m5 b))) (hl:(ls (m5 b)).length=(ls (m5 a)).length+1):Near a b:=fun p q hp hq=>by
 simp only [mostOf,decide_eq_true_eq] at hp hq
 have h1:=(h.filter p).length_le
 obtain ⟨n,_,r⟩:=two_filters p q (ls (m5 b)) (by omega)
 exact ⟨n,r⟩
theorem near_chg {a b:Int} (h:chg a b=0):Near a b:=by
 unfold chg at h
 split at h
 ·rename_i c
  rcases step_sub _ (m5_lt a) _ (m5_lt b) c.2.2 with ⟨h1,h2⟩ | ⟨h1,h2⟩
  ·exact near_sub (List.isSublist_iff_sublist.1 h1) h2
  ·exact (near_sub (List.isSublist_iff_sublist.1 h1) h2).symm
 ·cases h
def CoreM.anew (index:Int) (x:CoreM) (m:Int):CoreM:={x with next:=x.next.set m index,mtch:=x.mtch.set m 0,heard:=x.heard.set m 0}
theorem CoreM.propose_is (c:CoreM) (kind:Int) (data:List Int):c.propose kind data=(((ls (m5 (c.put kind data).crewNow.1)).foldl (fun x m=>if hasB c.crewNow.1 m=true then x else x.anew (c.log.last.1+1) m) (c.put kind data)).sendAll).rank:=rfl
theorem Mid.anews (index:Int) (i1:1≤index) (i2:index≤A.length+1) (P:Int→Bool):∀ (l:List Int) (c:CoreM),c.state=2→Mid g n s c A→(∀ m∈l,1≤m∧m≤5) →
  Mid g n s (l.foldl (fun x m=>if P m=true then x else x.anew index m) c) A∧(l.foldl (fun x m=>if P m=true then x else x.anew index m) c).state=2
 | [],c,hc,k,_=>⟨k,hc⟩
 | m::l,c,hc,k,h=>by
  rw [List.foldl_cons]
  by_cases hp:P m=true
  ·rw [if_pos hp];exact Mid.anews index i1 i2 P l _ hc k fun j hj=>h j (by simp [hj])
  ·rw [if_neg hp]
   have sv:=k.srv
   obtain ⟨l1,l2,l3,l4⟩:=sv.lead hc
   refine Mid.anews index i1 i2 P l _ hc ⟨k.w,?_,⟨k.kp.hard,k.kp.log⟩,k.out⟩ fun j hj=>h j (by simp [hj])
   exact {sv with
    lead:=fun _=>⟨l1,l2,fun j j1 j2=>by
     show 0≤(c.mtch.set m 0).get j∧((c.mtch.set m 0).get j).toNat≤_
     rw [five_get_set _ _ _ _ j1 j2]
     split
     ·simp
     ·exact l3 j j1 j2,fun j j1 j2=>by
     show 1≤(c.next.set m index).get j∧(c.next.set m index).get j≤_
     rw [five_get_set _ _ _ _ j1 j2]
     split
     ·exact ⟨i1,i2⟩
     ·exact l4 j j1 j2⟩
    idle:=fun z=>absurd hc z}
theorem Mid.propose (k:Mid g n s c A) {kind:Int} {data:List Int} (hE:c.proposeE kind data=0) (hb:∀ z∈data,0≤z∧z<256) (hsz:kind=2→∀ m∈ls (m5 (crewNum (0,0,0,data))),m≤g.size)
  (hs:c.out.snap.index=0) (hal:(A.length:Int)+1≤g.lim):∃ g' A',Ext n g g'∧g'.lim=g.lim∧Mid g' n s (c.propose kind data) A':=by
 have sv:=k.srv
 have hlast:=sv.rep.last
 unfold CoreM.proposeE at hE
 split at hE
 ·cases hE
 rename_i c1
 split at hE
 ·cases hE
 rename_i c2
 split at hE
 ·cases hE
 rename_i c3
 split at hE
 ·cases hE
 rename_i c4
 split at hE
 ·cases hE
 rename_i c5
 have h2:c.state=2:=by omega
 have hk:kind=1∨kind=2:=by omega
 obtain ⟨l1,l2,l3,l4⟩:=sv.lead h2
 have hn1:=sv.n1
 have hl0:g.H.led c.term≠0:=by rw [l1];omega
 have ht1:=(k.w.led _ hl0).1
 have hc0:=sv.c0;have hc1:=sv.c1;have hb0:=sv.rep.lo
 rw [CoreM.propose_is]
 have hcw:=sv.crew
 have heok:EOk g.size (c.term,(A.length:Int)+1,kind,data):=by
  refine ⟨by show 0≤kind;omega,by show kind≤2;omega,by show data.length≤1200;omega,hb,fun h=>?_⟩
  have h':kind=2:=h
  have hch:c.changes data=true:=by
   cases z:c.changes data
   ·exact absurd ⟨h',z⟩ c5
   ·rfl
  unfold CoreM.changes at hch
  simp only [Bool.and_eq_true] at hch
  exact ⟨hch.1.1.1,hsz h'⟩
 obtain ⟨g1,x1,e1,k1,s1⟩:=k.put h2 kind data hs hal ht1 heok (fun h=>by
  have hch:c.changes data=true:=by
   cases z:c.changes data
   ·exact absurd ⟨h,z⟩ c5
   ·rfl
  unfold CoreM.changes at hch
  simp only [Bool.and_eq_true,decide_eq_true_eq] at hch
  obtain ⟨⟨⟨d1,d2⟩,d3⟩,d4⟩:=hch
  rw [hcw.1] at d2
  refine ⟨?_,?_⟩
  ·rw [conf_snoc,if_pos h];exact near_chg d2
  ·unfold CoreM.settled at d4
   obtain ⟨r1,r2,r3⟩:=(sv.rep.has c rfl c.commit c.term).1 d4
   have hcpos:1≤c.commit:=by
    by_cases z:1≤c.commit
    ·exact z
    ·exfalso
     rw [show c.commit.toNat=0 by omega] at r3
     unfold termAt at r3;rw [if_pos rfl] at r3;omega
   have hch:=sv.lc h2 hcpos r3
   obtain ⟨m,m1,m2,m3⟩:=hch.most
   rw [l2] at m2 m3
   have says:∀ j,Says A j→j<c.commit.toNat:=fun j sj=>by
    rcases hcw.2 j sj with z | z <;> omega
   have hconf:conf 14 (A.take m)=conf 14 A:=by
    have:=conf_same 14 A m A.length m2 fun j j1 j2 sj=>by have:=says j sj;omega
    rw [← this,List.take_length]
   rw [k.w.first,hconf] at m3
   exact ⟨c.commit.toNat,by omega,hch.own,m3,says⟩)
 have hll:((A++[((c.term,(A.length:Int)+1,kind,data):Abs)]).length:Int)=A.length+1:=by simp
 obtain ⟨k2,s2⟩:=Mid.anews (c.log.last.1+1) (by rw [hlast];simp;omega) (by rw [hlast,hll];simp;omega) (hasB c.crewNow.1) (ls (m5 (c.put kind data).crewNow.1)) _ s1 k1 (ls_in1 _)
 obtain ⟨k3,s3⟩:=k2.sendAll s2
 exact ⟨g1,_,x1,e1,k3.rank s3⟩
theorem Mid.read (k:Mid g n s c A) (hE:c.readE=0) (hr1:c.round+1≤g.lim) (hr2:(c.reads.length:Int)+1≤g.lim):Mid g n s c.read A:=by
 have sv:=k.srv
 unfold CoreM.readE at hE
 split at hE
 ·cases hE
 rename_i c1
 have h2:c.state=2:=by omega
 have k1:Mid g n s {c with round:=c.round+1,reads:=c.reads++[c.round+1]} A:=⟨k.w,{sv with
  idle:=fun z=>absurd h2 z
  r1:=by have:=sv.r1;show 0≤c.round+1;omega
  r2:=hr1
  rl:=by show ((c.reads++[c.round+1]).length:Int)≤_;rw [List.length_append];simp;omega},⟨k.kp.hard,k.kp.log⟩,k.out⟩
 exact (k1.sendAll h2).1.confirm
end
end Go.Ah
