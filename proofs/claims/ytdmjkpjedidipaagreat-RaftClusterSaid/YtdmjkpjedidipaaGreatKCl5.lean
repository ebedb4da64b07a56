/- Texts that the law leans on, one behind the other. -/
import Derived.Test.YtdmjkpjedidipaaGreatKCl4
namespace Go.Ah
open Go.Proofs
set_option linter.unusedVariables false
set_option linter.unusedSimpArgs false
set_option maxRecDepth 20000
section
structure Kp (s:SavedM) (c:CoreM):Prop where
  hard:c.out.hard=false→s.term=c.term∧s.vote=c.vote
  log:(c.out.snap.index=0∧c.out.cut=0∧c.snap=s.snap∧c.log.es=s.entries++c.out.entries) ∨
    (c.out.snap.index=0∧0<c.out.cut∧s.snap.index<c.out.cut∧c.out.cut≤s.snap.index+s.entries.length∧c.snap=s.snap∧c.log.es=s.entries.take (c.out.cut-s.snap.index-1).toNat++c.out.entries) ∨
    (0<c.out.snap.index∧c.out.snap=c.snap∧c.out.cut=0∧c.out.entries=[]∧c.log.es=afterE c.snap.index c.snap.term s.entries)
structure Mid (g:Gh) (n:Int) (s:SavedM) (c:CoreM) (A:List Abs):Prop where
  w:Wld g
  srv:Srv g n c A
  kp:Kp s c
  out:∀ p∈c.out.posts,Msg g p
variable {g:Gh} {n:Int} {s:SavedM} {c:CoreM} {A:List Abs}
theorem Srv.putOut (k:Srv g n c A) (o:OutM):Srv g n {c with out:=o} A:={k with}
theorem Mid.say (k:Mid g n s c A) {m:Int} {p:PostM} (h:Msg g {p with src:=c.self,dst:=m,term:=c.term}):Mid g n s (c.say m p) A :=
 ⟨k.w,k.srv.putOut _,⟨k.kp.hard,k.kp.log⟩,fun q hq=>by
  rcases List.mem_append.1 hq with hq | hq
  ·exact k.out q hq
  ·rw [List.mem_singleton.1 hq];exact h⟩
theorem Srv.follow (k:Srv g n c A) (hl:0≤g.lim):Srv g n c.follow A :=
 {k with
  st := .inl rfl
  lead:=fun h=>by cases h
  lc:=fun h=>by cases h
  cand:=fun h=>by cases h
  idle:=fun _=>⟨rfl,rfl,rfl⟩
  b0:=fun h=>by cases h
  b1:=Int.le_refl 0
  b2:=by show (0:Int)≤2;omega
  v1:=Int.le_refl 0
  v2:=by show (0:Int)<64;omega
  r1:=Int.le_refl 0
  r2:=hl
  rl:=hl}
theorem Wld.lim0 (w:Wld g) (k:Srv g n c A):0≤g.lim:=by have:=k.al;omega
theorem Mid.follow (k:Mid g n s c A):Mid g n s c.follow A:=⟨k.w,k.srv.follow (k.w.lim0 k.srv),⟨k.kp.hard,k.kp.log⟩,k.out⟩
theorem HOk.ext (w:Wld g) {g':Gh} (x:Ext n g g') (hled:g'.H.led=g.H.led) (hll:g'.H.ll=g.H.ll) (hini:g'.H.ini=g.H.ini) (hq:g'.H.q=g.H.q):HOk g'.H:=by
 have ok:=w.ok
 refine ⟨fun t ht=>?_,fun t ht=>?_,fun t k e ht h=>?_,fun t k e ht h=>?_,fun t k e ht hk h=>?_,fun t ht=>?_,fun t v ht hv=>?_,fun u k e hu he h2 h1=>?_⟩
 ·rw [hled] at ht;rw [hll];exact x.good (ok.log t ht)
 ·rw [hled] at ht;rw [hll,hini];exact ok.ini t ht
 ·rw [hled] at ht;rw [hini] at h;exact ok.old t k e ht h
 ·rw [hled] at ht;rw [hll] at h;exact ok.top t k e ht h
 ·rw [hled] at ht;rw [hini] at hk;rw [hll] at h;exact ok.own t k e ht hk h
 ·rw [hled] at ht;rw [x.first,hini,hq];exact ok.most t ht
 ·rw [hled] at ht;rw [hq] at hv;rw [hini]
  exact x.vow w (w.vt v t (by rw [w.q t v ht hv];exact ht)) (ok.vow t v ht hv)
 ·rw [hled] at hu;rw [hll] at he ⊢;rw [x.first]
  obtain ⟨a,i,b1,b2,b3,b4⟩:=ok.cf u k e hu he h2 h1
  exact ⟨a,i,b1,x.own hu b2,mostOf_mono (fun m hm=>by simp only [Acked,decide_eq_true_eq] at hm ⊢;exact Nat.le_trans hm (x.acc m u)) b3,b4⟩
def Gh.term (g:Gh) (n t:Int):Gh:={g with tm:=fun m=>if m=n then t else g.tm m}
theorem ext_term {t:Int} (h:g.tm n≤t):Ext n g (g.term n t) :=
 ⟨rfl,Int.le_refl _,rfl,fun m hm=>if_neg hm,by show g.tm n≤(if n=n then t else _);rw [if_pos rfl];exact h,fun _ _ _=>rfl,fun _ _ _=>rfl,fun _ _ _ _=>rfl,fun _ _=>⟨rfl,rfl,Pre.refl (Nat.le_refl _)⟩,fun t h h'=>absurd h h',fun _ _ _=>rfl,fun _ _=>Nat.le_refl _,fun _ _ _=>rfl⟩
theorem tm_term (g:Gh) (n t m:Int):(g.term n t).tm m=if m=n then t else g.tm m:=rfl
theorem Wld.term (w:Wld g) {t:Int} (h:g.tm n≤t) (hl:t≤g.lim):Wld (g.term n t):=by
 have x:=ext_term (n:=n) h
 have htm:∀ m,g.tm m≤(g.term n t).tm m:=fun m=>by
  rw [tm_term];split
  ·rename_i c;rw [c];exact h
  ·exact Int.le_refl _
 refine {w with led:=fun u hu=>?_,acc0:=fun m u hu=>Int.le_trans (w.acc0 m u hu) (htm m),vt:=fun m u hu=>Int.le_trans (w.vt m u hu) (htm m),l1:=fun m m1 m2=>?_}
 ·obtain ⟨a,b,c⟩:=w.led u hu
  exact ⟨a,Int.le_trans b (htm _),c⟩
 ·rw [tm_term];split
  ·exact hl
  ·exact w.l1 m m1 m2
theorem Vl.term (w:Wld g) {t:Int} (h:g.tm n≤t) (k:Vl g.H n (g.tm n) A):Vl g.H n t A:=by
 intro u i hu hl ho hi
 by_cases c:u≤g.tm n
 ·exact (k u i c hl ho hi).imp id fun ⟨z,z1,z2,z3⟩=>⟨z,z1,by omega,z3⟩
 ·obtain ⟨_,_,hik,_,_⟩:=ho
  exact absurd (w.acc0 n u (by omega)) c
theorem Com.mono {H:Hist} {T T':Int} {c:Nat} (h:T≤T') (k:Com H T c A):Com H T' c A :=
 k.imp id fun ⟨u,i,ch,hu,r⟩=>⟨u,i,ch,by omega,r⟩
theorem Com.less {H:Hist} {T:Int} {c d:Nat} (h:d≤c) (k:Com H T c A):Com H T d A:=by
 rcases k with rfl | ⟨u,i,ch,hu,hi,p⟩
 ·exact .inl (by omega)
 ·exact .inr ⟨u,i,ch,hu,by omega,p.le h⟩
theorem Com.move {H:Hist} {T:Int} {c:Nat} {B:List Abs} (k:Com H T c A) (p:Pre c A B):Com H T c B :=
 k.imp id fun ⟨u,i,ch,hu,hi,q⟩=>⟨u,i,ch,hu,hi,p.symm.trans q⟩
theorem Srv.learn (w:Wld g) (k:Srv g n c A) {t:Int} (h:g.tm n<t):Srv (g.term n t) n (c.learn t) A:=by
 have hl:=w.lim0 k
 have ht:=k.tm
 have hc:c.term≤t:=by omega
 have hv:g.vt n t=0:=by
  by_cases z:g.vt n t=0
  ·exact z
  ·have:=w.vt n t z;omega
 exact {k with
  tm:=by show t=_;rw [tm_term,if_pos rfl]
  t0:=by have:=k.t0;show 0≤t;omega
  low:=fun j e he=>Int.le_trans (k.low j e he) hc
  vl:=Vl.term w (show g.tm n≤t by omega) (by rw [← ht];exact k.vl)
  com:=k.com.mono (T':=t) hc
  vote:=hv.symm
  vr0:=Int.le_refl 0
  vr1:=by show (0:Int)≤5;omega
  st := .inl rfl
  lead:=fun h=>by cases h
  lc:=fun h=>by cases h
  cand:=fun h=>by cases h
  idle:=fun _=>⟨rfl,rfl,rfl⟩
  b0:=fun h=>by cases h
  b1:=Int.le_refl 0
  b2:=by show (0:Int)≤2;omega
  v1:=Int.le_refl 0
  v2:=by show (0:Int)<64;omega
  r1:=Int.le_refl 0
  r2:=hl
  rl:=hl}
theorem Mid.learn (k:Mid g n s c A) {t:Int} (h:g.tm n<t) (hl:t≤g.lim):Ext n g (g.term n t)∧Mid (g.term n t) n s (c.learn t) A :=
 ⟨ext_term (by omega),k.w.term (by omega) hl,k.srv.learn k.w h,⟨(fun h=>by cases h),k.kp.log⟩,fun p hp=>(ext_term (by omega)).msg k.w (k.out p hp)⟩
theorem vow_grant (w:Wld g) {v t:Int} {C:List Abs} (k:Srv g v c A) (ht:c.term=t) (gc:Good g.H C) (lc:∀ (k:Nat) (e:Abs),C[k]? = some e→e.1<t)
  (up:termAt A A.length<termAt C C.length∨(termAt C C.length=termAt A A.length∧A.length≤C.length)):Vow g.H v t (· ≤ t) C:=by
 intro u i hu hl ho hi
 have hv:=k.vl u i (by omega) hl ho hi
 rcases hv with p | ⟨z,z1,z2,z3⟩
 ·obtain ⟨j,e,rfl,he,hue⟩:=ho
  have hA:A[j]? = some e:=by rw [← p.c j (by omega)];exact he
  have hj:j<A.length:=(List.getElem?_eq_some_iff.1 hA).1
  obtain ⟨a,ha⟩:∃ a,A[A.length-1]? = some a:=⟨A[A.length-1],by simp⟩
  have hta:=termAt_some ha
  rw [show A.length-1+1=A.length by omega] at hta
  have hau:u≤a.1:=by have:=k.good.mono j (A.length-1) e a (by omega) hA ha;omega
  have hu1:1≤u:=by have:=(k.good.lm j e hA).1;omega
  have hC0:0<C.length:=by
   by_cases z:C.length=0
   ·exfalso
    rw [z] at up
    unfold termAt at up
    rw [if_pos rfl,if_neg (by omega)] at up
    rw [show A.length-1=A.length-1 from rfl,ha] at up
    simp only [] at up
    omega
   ·omega
  obtain ⟨b,hb⟩:∃ b,C[C.length-1]? = some b:=⟨C[C.length-1],by simp⟩
  have htb:=termAt_some hb
  rw [show C.length-1+1=C.length by omega] at htb
  rw [hta,htb] at up
  obtain ⟨_,b2,b3⟩:=gc.lm _ b hb
  rw [show C.length-1+1=C.length by omega] at b3
  have hbt:=lc _ b hb
  by_cases e1:b.1=u
  ·left
   rw [e1] at b3
   exact (b3.le (by omega)).symm
  ·by_cases e2:Pre (j+1) (g.H.ll u) (g.H.ini b.1)
   ·left
    have e3:Pre (j+1) (g.H.ll u) (g.H.ll b.1):=e2.trans ((w.ok.ini b.1 b2).le e2.b)
    have hle:j+1≤C.length:=by
     by_cases z:j+1≤C.length
     ·exact z
     ·exfalso
      have h1:=e3.c (C.length-1) (by omega)
      rw [← b3.c _ (by omega),hb] at h1
      have:=w.ok.top u _ b hl h1
      omega
    exact e3.trans (b3.le hle).symm
   ·right
    exact ⟨b.1,by omega,by omega,b2,e2⟩
 ·exact .inr ⟨z,z1,by omega,z3⟩
end
section
variable {g:Gh} {n:Int} {s:SavedM} {c:CoreM} {A:List Abs}
theorem ls_in1 (k:Int):∀ n∈ls (m5 k),1≤n∧n≤5:=fun n hn=>by
 have:=List.all_eq_true.1 (ls_ok (m5 k) (m5_lt _)) n hn
 simpa [ok1] using this
theorem waits_in {d:Int} (h:0≤d):10≤waits d∧waits d≤19:=by
 unfold waits
 have h1:0≤d.tmod 10:=Int.tmod_nonneg _ h
 have h2:d.tmod 10<10:=Int.tmod_lt_of_pos _ (by omega)
 omega
theorem Srv.crew (k:Srv g n c A):c.crewNow.1=conf 14 A∧∀ j,Says A j→j<c.crewNow.2.toNat∨j<c.log.bi.toNat:=by
 have hl:=k.rep.le;have h0:=k.rep.lo
 have hh:=crewUpTo_conf k.rep k.si (fun h=>by rw [k.first];exact (k.s1 h).2) (i:=A.length) (by omega) (Int.le_refl _)
 unfold CoreM.crewNow
 rw [k.rep.last]
 simp only []
 rw [k.first] at hh
 refine ⟨by rw [hh.1];simp,fun j sj=>hh.2 j sj (by have:=sj.lt;omega)⟩
theorem conf_size {size:Int} (hs:3≤size):∀ A:List Abs,(∀ e∈A,EOk size e)→∀ f:Int,(∀ n∈ls (m5 f),n≤size)→∀ n∈ls (m5 (conf f A)),n≤size
 | [],_,f,hf=>hf
 | e::r,h,f,hf=>by
  unfold conf
  rw [List.foldl_cons]
  refine conf_size hs r (fun x hx=>h x (by simp [hx])) _ ?_
  split
  ·exact ((h e (by simp)).cr (by assumption)).2
  ·exact hf
theorem crew14:∀ n∈ls (m5 14),n≤3:=by decide
theorem Srv.others (w:Wld g) (k:Srv g n c A):∀ m∈c.others,1≤m∧m≤g.size∧m≠n:=fun m hm=>by
 obtain ⟨h1,h2⟩:=List.mem_filter.1 hm
 have:=ls_in1 c.crewNow.1 m h1
 have hs:=w.sz3
 refine ⟨this.1,?_,?_⟩
 ·rw [k.crew.1] at h1
  exact conf_size w.sz3 A k.eok 14 (fun x hx=>Int.le_trans (crew14 x hx) hs) m h1
 ·rw [k.self] at h2
  simpa using h2
def CoreM.askedOk (c:CoreM) (p:PostM):Bool:=(decide (c.log.last.2<p.logTerm) || (decide (p.logTerm=c.log.last.2)&&decide (c.log.last.1≤p.index)))&&(decide (c.vote=0) || decide (c.vote=p.src))
theorem CoreM.asked_eq (c:CoreM) (p:PostM) (draw:Int):c.asked p draw=(if c.askedOk p=true then {c with vote:=p.src,wait:=waits draw,out:={c.out with hard:=true}} else c).say p.src {post0 with kind:=2,ok:=c.askedOk p}:=rfl
def Gh.voted (g:Gh) (n t d:Int):Gh:={g with vt:=fun m u=>if m=n∧u=t then d else g.vt m u}
theorem vt_voted (g:Gh) (n t d m u:Int):(g.voted n t d).vt m u=if m=n∧u=t then d else g.vt m u:=rfl
theorem ext_voted {t d:Int} (h:g.vt n t=0∨g.vt n t=d):Ext n g (g.voted n t d):=by
 refine ⟨rfl,Int.le_refl _,rfl,fun _ _=>rfl,Int.le_refl _,fun m u hu=>?_,fun m u hm=>if_neg fun c=>hm c.1,fun _ _ _ _=>rfl,fun _ _=>⟨rfl,rfl,Pre.refl (Nat.le_refl _)⟩,fun t h h'=>absurd h h',fun _ _ _=>rfl,fun _ _=>Nat.le_refl _,fun _ _ _=>rfl⟩
 rw [vt_voted];split
 ·rename_i c;obtain ⟨rfl,rfl⟩:=c
  rcases h with h | h
  ·exact absurd h hu
  ·exact h.symm
 ·rfl
theorem Wld.voted (w:Wld g) {t d:Int} (h:g.vt n t=0∨g.vt n t=d) (ht:t≤g.tm n) (hd:d≠n):Wld (g.voted n t d):=by
 have x:=ext_voted h
 refine {w with q:=fun u v hu hq=>?_,vt:=fun m u hu=>?_,cg:=fun u m hm hv=>?_}
 ·have:=w.q u v hu hq
  exact (x.vt v u (by rw [this];exact hu)).trans this
 ·rw [vt_voted] at hu
  split at hu
  ·rename_i c;rw [c.1,c.2];exact ht
  ·exact w.vt m u hu
 ·rw [vt_voted] at hv
  split at hv
  ·rename_i c;exact absurd (hv.trans c.1) hd
  ·exact w.cg u m hm hv
theorem Mid.asked' (k:Mid g n s c A) {p:PostM} (m:Msg g p) (hk:p.kind=1) (hd:p.dst=n) (ht:p.term=c.term) (hs:c.state≠2) {draw:Int} (hdr:0≤draw) :
  ∃ g',Ext n g g'∧g'.lim=g.lim∧Mid g' n s (c.asked p draw) A:=by
 have hself:=k.srv.self
 have hne:p.src≠n:=by rw [← hd];exact m.ne
 have hn1:=k.srv.n1;have hn2:=k.srv.n2
 obtain ⟨_,b,b1,b2,b3,b4⟩:=m.body.resolve_right (by rw [hk];simp)
 have hlim:=k.w.lim0 k.srv
 rw [CoreM.asked_eq]
 by_cases hok:c.askedOk p=true
 ·rw [hok,if_pos rfl]
  have hao:=hok
  unfold CoreM.askedOk at hao
  simp only [Bool.and_eq_true,Bool.or_eq_true,decide_eq_true_eq,k.srv.rep.last] at hao
  obtain ⟨up,hv⟩:=hao
  have hvt:g.vt n c.term=0∨g.vt n c.term=p.src:=by rw [← k.srv.vote];exact hv
  have x:=ext_voted (n:=n) hvt
  have htn:c.term≤g.tm n:=by rw [k.srv.tm];exact Int.le_refl _
  have w':=k.w.voted hvt htn hne
  have hst:c.state=0:=by
   rcases k.srv.st with h | h | h
   ·exact h
   ·exfalso
    obtain ⟨_,h2,_⟩:=k.srv.cand h
    rw [h2] at hvt
    rcases hvt with h | h <;> omega
   ·exact absurd h hs
  obtain ⟨wt1,wt2⟩:=waits_in hdr
  refine ⟨g.voted n c.term p.src,x,rfl,Mid.say (c:={c with vote:=p.src,wait:=waits draw,out:={c.out with hard:=true}}) ⟨w',?_,⟨(fun h=>by cases h),k.kp.log⟩,fun q hq=>x.msg k.w (k.out q hq)⟩ ?_⟩
  ·exact {k.srv with
    vote:=by show p.src=_;rw [vt_voted,if_pos ⟨rfl,rfl⟩]
    vr0:=by have:=m.s1;show 0≤p.src;omega
    vr1:=by have:=m.s2;have:=k.w.sz5;show p.src≤5;omega
    cand:=fun h=>by rw [show ({c with vote:=p.src,wait:=waits draw,out:={c.out with hard:=true}}:CoreM).state=c.state from rfl,hst] at h;cases h
    w1:=by show 1≤waits draw;omega
    w2:=wt2}
  ·refine ⟨by show 1≤c.self;omega,by show c.self≤g.size;omega,m.s1,m.s2,by show c.self≠p.src;omega,by show 1≤c.term;rw [← ht];exact m.t1,by show c.term≤g.tm c.self;rw [hself];exact htn,Int.le_refl 0,hlim, .inr (.inl ⟨rfl,rfl,fun _=>?_⟩)⟩
   show (g.voted n c.term p.src).vt c.self c.term=p.src∧(g.voted n c.term p.src).vt p.src c.term=p.src∧Vow g.H c.self c.term (· ≤ c.term) (g.cand c.term p.src)
   rw [hself]
   refine ⟨by rw [vt_voted,if_pos ⟨rfl,rfl⟩],by rw [vt_voted,if_neg fun h=>hne h.1,← ht];exact b1,?_⟩
   obtain ⟨cg1,cg2⟩:=k.w.cg p.term p.src (by have:=m.s1;omega) b1
   rw [ht] at cg1 cg2 b2 b3
   refine vow_grant k.w k.srv rfl cg1 cg2 ?_
   rw [b3] at up
   rcases up with up | ⟨up1,up2⟩
   ·exact .inl up
   ·exact .inr ⟨up1,by rw [b2] at up2;omega⟩
 ·rw [Bool.eq_false_iff.2 hok,if_neg (by simp)]
  refine ⟨g,Ext.refl _ _,rfl,k.say ?_⟩
  refine ⟨by show 1≤c.self;omega,by show c.self≤g.size;omega,m.s1,m.s2,by show c.self≠p.src;omega,by show 1≤c.term;rw [← ht];exact m.t1,by show c.term≤g.tm c.self;rw [hself,k.srv.tm];exact Int.le_refl _,Int.le_refl 0,hlim, .inr (.inl ⟨rfl,rfl,fun h=>by cases h⟩)⟩
def Gh.stands (g:Gh) (n t:Int) (A:List Abs):Gh :=
  {g with tm:=fun m=>if m=n then t else g.tm m,vt:=fun m u=>if m=n∧u=t then n else g.vt m u,cand:=fun u m=>if u=t∧m=n then A else g.cand u m}
theorem pow_has0:∀ n:Nat,n<6→∀ j:Nat,j<5→hasB ((2:Int)^n) ((j:Int)+1)=decide (j+1=n):=by decide +kernel
theorem pow_has (n:Nat) (_:1≤n) (h:n≤5) (j:Nat) (hj:j<5):hasB ((2:Int)^n) ((j:Int)+1)=decide (j+1=n):=pow_has0 n (by omega) j hj
theorem hasB_range {v m:Int} (h:hasB v m=true):1≤m∧m≤5:=by
 unfold hasB at h;simp only [Bool.and_eq_true,decide_eq_true_eq] at h;exact h.1
theorem Mid.stood (k:Mid g n s c A) (hl:c.term+1≤g.lim) :
  Ext n g (g.stands n (c.term+1) A)∧Mid (g.stands n (c.term+1) A) n s {c.learn (c.term+1) with vote:=c.self,state:=1,votes:=2^c.self.toNat} A:=by
 have ht:=k.srv.tm
 have hn1:=k.srv.n1;have hn2:=k.srv.n2;have hs5:=k.w.sz5
 have hself:=k.srv.self
 have t0:=k.srv.t0
 have hv0:g.vt n (c.term+1)=0:=by
  by_cases z:g.vt n (c.term+1)=0
  ·exact z
  ·have:=k.w.vt n _ z;omega
 have x:Ext n g (g.stands n (c.term+1) A):=by
  refine ⟨rfl,Int.le_refl _,rfl,fun m hm=>if_neg hm,?_,fun m u hu=>?_,fun m u hm=>if_neg fun c=>hm c.1,fun u m hu hm=>?_,fun _ _=>⟨rfl,rfl,Pre.refl (Nat.le_refl _)⟩,fun t h h'=>absurd h h',fun _ _ _=>rfl,fun _ _=>Nat.le_refl _,fun _ _ _=>rfl⟩
  ·show g.tm n≤(if n=n then c.term+1 else _);rw [if_pos rfl];omega
  ·show (if m=n∧u=c.term+1 then n else g.vt m u)=_
   rw [if_neg];rintro ⟨rfl,rfl⟩;exact hu hv0
  ·show (if u=c.term+1∧m=n then A else g.cand u m)=_
   rw [if_neg];rintro ⟨rfl,rfl⟩;rw [hv0] at hu;omega
 have htm:∀ m,g.tm m≤(g.stands n (c.term+1) A).tm m:=fun m=>by
  show _≤(if m=n then c.term+1 else g.tm m)
  split
  ·rename_i e;rw [e];omega
  ·exact Int.le_refl _
 have lt:∀ (j:Nat) (e:Abs),A[j]? = some e→e.1<c.term+1:=fun j e he=>by have:=k.srv.low j e he;omega
 have w':Wld (g.stands n (c.term+1) A):=by
  refine {k.w with led:=fun u hu=>?_,acc0:=fun m u hu=>Int.le_trans (k.w.acc0 m u hu) (htm m),q:=fun u v hu hq=>?_,vt:=fun m u hu=>?_,cg:=fun u m hm hv=>?_,l1:=fun m m1 m2=>?_}
  ·obtain ⟨a,b,d⟩:=k.w.led u hu
   exact ⟨a,Int.le_trans b (htm _),d⟩
  ·have:=k.w.q u v hu hq
   exact (x.vt v u (by rw [this];exact hu)).trans this
  ·have hu':(if m=n∧u=c.term+1 then n else g.vt m u)≠0:=hu
   split at hu'
   ·rename_i e;rw [e.1,e.2];show c.term+1≤(if n=n then c.term+1 else _);rw [if_pos rfl];exact Int.le_refl _
   ·exact Int.le_trans (k.w.vt m u hu') (htm m)
  ·have hv':(if m=n∧u=c.term+1 then n else g.vt m u)=m:=hv
   show Good g.H (if u=c.term+1∧m=n then A else g.cand u m)∧∀ (k:Nat) (e:Abs),(if u=c.term+1∧m=n then A else g.cand u m)[k]? = some e→e.1<u
   by_cases e:m=n∧u=c.term+1
   ·rw [if_pos ⟨e.2,e.1⟩,e.2];exact ⟨k.srv.good,lt⟩
   ·rw [if_neg e] at hv'
    rw [if_neg fun z=>e ⟨z.2,z.1⟩];exact k.w.cg u m hm hv'
  ·show (if m=n then c.term+1 else g.tm m)≤g.lim
   split
   ·exact hl
   ·exact k.w.l1 m m1 m2
 refine ⟨x,⟨w',?_,⟨(fun h=>by cases h),k.kp.log⟩,fun p hp=>x.msg k.w (k.out p hp)⟩⟩
 have sl:=k.srv.learn k.w (t:=c.term+1) (by omega)
 obtain ⟨m,hm⟩:∃ m:Nat,n=m:=⟨n.toNat,by omega⟩
 have hp:(2:Int)^c.self.toNat<64:=by
  rw [hself,hm,Int.toNat_natCast]
  have:m=1∨m=2∨m=3∨m=4∨m=5:=by omega
  rcases this with rfl | rfl | rfl | rfl | rfl <;> decide
 have hp0:(0:Int)≤2^c.self.toNat:=Int.pow_nonneg (by omega)
 exact {sl with
  vote:=by show c.self=(if n=n∧c.term+1=c.term+1 then n else _);rw [if_pos ⟨rfl,rfl⟩,hself]
  vr0:=by show 0≤c.self;omega
  vr1:=by show c.self≤5;omega
  st := .inr (.inl rfl)
  lead:=fun h=>by cases h
  lc:=fun h=>by cases h
  cand:=fun _=>by
   refine ⟨fun z=>?_,?_,?_,lt,by show 1≤c.term+1;omega,fun v hv=>?_⟩
   ·have z':g.H.led (c.term+1)=n:=z
    have:=(k.w.led (c.term+1) (by rw [z'];omega)).2.1
    rw [z'] at this;omega
   ·show (if n=n∧c.term+1=c.term+1 then n else _)=n;rw [if_pos ⟨rfl,rfl⟩]
   ·show (if c.term+1=c.term+1∧n=n then A else _)=A;rw [if_pos ⟨rfl,rfl⟩]
   ·have hv':hasB ((2:Int)^c.self.toNat) v=true:=hv
    rw [hself,hm,Int.toNat_natCast] at hv'
    obtain ⟨v1,v2⟩:=hasB_range hv'
    obtain ⟨j,rfl⟩:∃ j:Nat,v=(j:Int)+1:=⟨(v-1).toNat,by omega⟩
    rw [pow_has m (by omega) (by omega) j (by omega)] at hv'
    have hj:j+1=m:=by simpa using hv'
    have hvn:(j:Int)+1=n:=by omega
    rw [hvn]
    refine ⟨?_,?_⟩
    ·show (if n=n∧c.term+1=c.term+1 then n else _)=n;rw [if_pos ⟨rfl,rfl⟩]
    ·intro u i hu hl ho hi
     exact (k.srv.vl u i (by show u≤c.term;have hu':u<c.term+1:=hu;omega) hl ho hi).imp id fun ⟨z,z1,z2,z3⟩=>⟨z,z1,by show z≤c.term+1;omega,z3⟩
  idle:=fun _=>⟨rfl,rfl,rfl⟩
  b0:=fun h=>by cases h
  v1:=hp0
  v2:=hp}
end
def cmpI (a b:Int):Int:=if a<b then -1 else if b<a then 1 else 0
theorem nan_any (h:Heap) (a:Int):ACalls PR 178 #[I a] h (fun v h'=>v = .bool false∧h=h'):=by
 refine acalls_pure (acalls_of mix Tryz.func178 rfl rfl Tryz.ntmps178 Tryz.results178 rfl ?_);conv=>whnf
 refine ACmp.no ((by simp)) ?_;conv=>whnf
 exact ⟨rfl,Sub.refl _⟩
theorem compare_any (h:Heap) (a b:Int):ACalls PR 133 #[I a,I b] h (fun v h'=>v=I (cmpI a b)∧h=h'):=by
 refine acalls_pure (acalls_of mix Tryz.func133 rfl rfl Tryz.ntmps133 Tryz.results133 rfl ?_);conv=>whnf
 refine ACalls.mono (nan_any h a) ?_;rintro _ _ ⟨rfl,rfl⟩;conv=>whnf
 refine ACalls.mono (nan_any h b) ?_;rintro _ _ ⟨rfl,rfl⟩;conv=>whnf
 unfold cmpI
 by_cases c1:a<b
 ·refine ACmp.yes (c1) ?_;conv=>whnf
  exact ⟨by rw [if_pos c1],Sub.refl _⟩
 ·refine ACmp.no (c1) ?_;conv=>whnf
  by_cases c2:b<a
  ·refine ACmp.yes (c2) ?_;conv=>whnf
   exact ⟨by rw [if_neg c1,if_pos c2],Sub.refl _⟩
  ·refine ACmp.no (c2) ?_;conv=>whnf
   exact ⟨by rw [if_neg c1,if_neg c2],Sub.refl _⟩
theorem or2_any {h:Heap} {t:Tag} {b:Nat} {a c:Int} (k:h b=some (row t [I a,I c] 3)):ACalls PR 179 #[.slice (some ⟨b,0,none⟩) 2 2] h (fun v h'=>v=I (if a≠0 then a else c)∧h=h'):=by
 refine acalls_pure (acalls_of mix Tryz.func179 rfl rfl Tryz.ntmps179 Tryz.results179 rfl ?_);conv=>whnf
 refine ALoop.mk (fun e h'=>h=h'∧∃ e0,∃ j:Nat,e=updL 18 e0 [(0, .slice (some ⟨b,0,none⟩) 2 2),(3,I 0),(6, .slice (some ⟨b,0,none⟩) 2 2),(7,I 2),(8,I j)]∧j≤2∧(1≤j→a=0)∧(2≤j→c=0)) (fun e=>2-natOf (e 8))
  ⟨rfl,_,0,updL_self ⟨rfl,rfl,rfl,rfl,rfl,trivial⟩,by omega,by omega,by omega⟩ ?_
 rintro e _ ⟨rfl,e0,j,rfl,hj,h1,h2⟩
 conv=>whnf
 have:j=0∨j=1∨j=2:=by omega
 rcases this with rfl | rfl | rfl
 ·refine ACmp.yes (by omega) ?_;conv=>whnf
  refine AIdx.nat (n:=2) (z:=1) (j:=0) rfl (by omega) rfl rfl ?_;conv=>whnf
  refine ALoad.one rfl k rfl ?_;conv=>whnf
  by_cases c0:a≠0
  ·refine ACmp.yes (c0) ?_;conv=>whnf
   exact ⟨by rw [if_pos c0],Sub.refl _⟩
  ·refine ACmp.no (c0) ?_;conv=>whnf
   refine AArith.ok (by omega) (by omega) (rfl) ?_;conv=>whnf
   refine ⟨⟨rfl,_,1,updL_self ⟨rfl,rfl,rfl,rfl,rfl,trivial⟩,by omega,fun _=>Classical.not_not.1 c0,fun h=>absurd h (by omega)⟩,?_⟩
   show 2-1<2-0
   omega
 ·refine ACmp.yes (by omega) ?_;conv=>whnf
  refine AIdx.nat (n:=2) (z:=1) (j:=1) rfl (by omega) rfl rfl ?_;conv=>whnf
  refine ALoad.one rfl k rfl ?_;conv=>whnf
  by_cases c0:c≠0
  ·refine ACmp.yes (c0) ?_;conv=>whnf
   exact ⟨by rw [if_neg (by have:=h1 (by omega);omega)],Sub.refl _⟩
  ·refine ACmp.no (c0) ?_;conv=>whnf
   refine AArith.ok (by omega) (by omega) (rfl) ?_;conv=>whnf
   refine ⟨⟨rfl,_,2,updL_self ⟨rfl,rfl,rfl,rfl,rfl,trivial⟩,by omega,fun _=>h1 (by omega),fun _=>Classical.not_not.1 c0⟩,?_⟩
   show 2-2<2-1
   omega
 ·refine ACmp.no (by omega) ?_;conv=>whnf
  have:=h1 (by omega)
  have:=h2 (by omega)
  exact ⟨by rw [if_neg (by omega),this],Sub.refl _⟩
theorem fresh_iff (lt t i l:Int):0≤(if cmpI lt t≠0 then cmpI lt t else cmpI i l)↔(t<lt∨(lt=t∧l≤i)):=by
 unfold cmpI
 by_cases c1:lt<t
 ·simp [c1];try omega
 ·by_cases c2:t<lt
  ·simp [c1,c2]
  ·by_cases c3:i<l
   ·simp [c1,c2,c3];try omega
   ·by_cases c4:l<i
    ·simp [c1,c2,c3,c4];try omega
    ·simp [c1,c2,c3,c4];try omega
structure Given (h:Heap) (o oo:Nat) (x:PH):Prop where
  ok:∃ t1 t2 t3:Tag,x.Ok h t1 t2 t3∧t1.1∉[o,o+1,oo]∧t2.1∉[o,o+1,oo]∧t3.1∉[o,o+1,oo]
  by_:∀ e∈x.es,∀ z∈e.data,0≤z∧z<256
  sc0 : -9223372036854775808≤x.sc
  sc1:x.sc≤9223372036854775807
  n1:x.e.n≤1000000
theorem Given.keeps {h h':Heap} {o oo:Nat} {x:PH} (g:Given h o oo x) (k:Keeps [o,o+1,oo] h h'):Given h' o oo x:=by
 obtain ⟨⟨t1,t2,t3,ok,n1,n2,n3⟩,a,b,c,d⟩:=g
 exact ⟨⟨t1,t2,t3,⟨⟨ok.es.sl.keeps k n1,fun e he=>Sl.keeps (ok.es.good e he) k n2,ok.es.small⟩,ok.sd.keeps k n3⟩,n1,n2,n3⟩,a,b,c,d⟩
theorem Given.sub {h h':Heap} {o oo:Nat} {x:PH} (g:Given h o oo x) (k:Sub h h'):Given h' o oo x:=g.keeps (k.keeps _)
theorem made0 {h:Heap} {oo r:Nat} {x:PH} (h1:x.e=slv0) (h2:x.es=[]) (h3:x.d=slv0) (h4:x.data=[]):x.Made h oo r :=
 ⟨by rw [h1,h2];exact .inl ⟨rfl,rfl,rfl⟩,by rw [h2];simp,by rw [h2];simp,by rw [h3,h4];exact .inl ⟨rfl,rfl,rfl⟩⟩
theorem refuse_any {h:Heap} {p o oo:Nat} {c:CoreM} (ap:Apart o oo) (k:PCore h p o oo c) (x:PH) (hp:c.out.posts.length≤1000000000) :
  ACalls PR 134 #[Ptr p, .agg x.cells.toArray] h (fun v h'=>v = .tuple #[]∧PCore h' p o oo (c.refuse x.abs)∧Keeps [o,oo] h h'):=by
 refine acalls_of mix Tryz.func134 rfl rfl Tryz.ntmps134 Tryz.results134 rfl ?_;conv=>whnf
 refine ABox.mkN (0,1) (x.cells) rfl fun b1 h1 n1 s1 k1=>?_;conv=>whnf
 have q:=k.sub s1
 refine ALoad.one rfl k1 rfl ?_;conv=>whnf
 by_cases c1:x.kind=1
 ·refine ACmp.yes (c1) ?_;conv=>whnf
  rw [show c.refuse x.abs=c.say x.src {post0 with kind:=2} from if_pos c1]
  refine ALoad.one rfl k1 rfl ?_;conv=>whnf
  refine ACalls.mono (say_any ap.a ap.b ap.c ap.d q x.src {post1 with kind:=2} (made0 rfl rfl rfl rfl) hp) ?_;rintro _ h2 ⟨rfl,k2,kk2⟩;conv=>whnf
  exact ⟨rfl,k2,(s1.keeps _).trans kk2⟩
 ·refine ACmp.no (c1) ?_;conv=>whnf
  by_cases c2:x.kind=3
  ·refine ACmp.yes (c2) ?_;conv=>whnf
   rw [show c.refuse x.abs=c.say x.src {post0 with kind:=4} from (if_neg c1).trans (if_pos c2)]
   refine ALoad.one rfl k1 rfl ?_;conv=>whnf
   refine ACalls.mono (say_any ap.a ap.b ap.c ap.d q x.src {post1 with kind:=4} (made0 rfl rfl rfl rfl) hp) ?_;rintro _ h2 ⟨rfl,k2,kk2⟩;conv=>whnf
   exact ⟨rfl,k2,(s1.keeps _).trans kk2⟩
  ·refine ACmp.no (c2) ?_;conv=>whnf
   rw [show c.refuse x.abs=c from (if_neg c1).trans (if_neg c2)]
   exact ⟨rfl,q,s1.keeps _⟩
set_option maxHeartbeats 2000000 in
theorem asked_any {h:Heap} {p o oo:Nat} {c:CoreM} (ap:Apart o oo) (k:PCore h p o oo c) (lo:LOk c.log) (x:PH) (draw:Int) (hd:0≤draw) (hp:c.out.posts.length≤1000000000) :
  ACalls PR 135 #[Ptr p, .agg x.cells.toArray,I draw] h (fun v h'=>v = .tuple #[]∧PCore h' p o oo (c.asked x.abs draw)∧Keeps [o,oo] h h'):=by
 obtain ⟨cx,k⟩:=k
 rw [CoreM.asked_eq]
 refine acalls_of mix Tryz.func135 rfl rfl Tryz.ntmps135 Tryz.results135 rfl ?_;conv=>whnf
 refine ABox.mkN (0,1) (x.cells) rfl fun b1 h1 n1 s1 k1=>?_;conv=>whnf
 have q:=k.sub s1
 refine ALoad.one rfl q.str rfl ?_;conv=>whnf
 refine ACalls.mono (Last_c q.log lo) ?_;rintro _ _ ⟨rfl,rfl⟩;conv=>whnf
 refine ADrawn.mkO (h1) [] [0,1,2,4,5,6,3,7,8,9,10,11] (Sub.refl _) (by decide +kernel) ?_;conv=>whnf
 refine ALoad.one rfl k1 rfl ?_
 refine ALoad.one rfl k1 rfl ?_;conv=>whnf
 refine ACalls.mono (compare_any h1 x.logTerm c.log.last.2) ?_;rintro _ _ ⟨rfl,rfl⟩;conv=>whnf
 refine ⟨Sub.refl _,?_⟩;conv=>whnf
 refine ACalls.mono (compare_any h1 x.index c.log.last.1) ?_;rintro _ _ ⟨rfl,rfl⟩;conv=>whnf
 refine ⟨Sub.refl _,?_⟩;conv=>whnf
 refine ABuildSl.mkN (0,1) [I (cmpI x.logTerm c.log.last.2),I (cmpI x.index c.log.last.1)] rfl rfl rfl rfl rfl rfl rfl fun b2 h2 n2 s2 k2=>?_;conv=>whnf
 refine ⟨s2,?_⟩;conv=>whnf
 refine ACalls.mono (or2_any k2) ?_;rintro _ _ ⟨rfl,rfl⟩;conv=>whnf
 refine ⟨s2,?_⟩;conv=>whnf
 have q2:=q.sub s2
 have k12:=s2 _ _ k1
 have hf:=fresh_iff x.logTerm c.log.last.2 x.index c.log.last.1
 generalize (if cmpI x.logTerm c.log.last.2≠0 then cmpI x.logTerm c.log.last.2 else cmpI x.index c.log.last.1)=rr at hf ⊢
 have hao:c.askedOk x.abs=((decide (c.log.last.2<x.logTerm) || (decide (x.logTerm=c.log.last.2)&&decide (c.log.last.1≤x.index)))&&(decide (c.vote=0) || decide (c.vote=x.src))):=rfl
 cases hfr:(decide (c.log.last.2<x.logTerm) || (decide (x.logTerm=c.log.last.2)&&decide (c.log.last.1≤x.index))) with
 | false =>
  refine ACmp.no ((by rw [hf];simp at hfr;omega)) ?_;conv=>whnf
  refine ADrawn.mk (h2) [] (Sub.refl _) (by decide +kernel) ?_;conv=>whnf
  have NB:=hfr
  have hno:c.askedOk x.abs=false:=by rw [hao,NB];simp
  rw [hno,if_neg (by simp)]
  refine ALoad.one rfl k12 rfl ?_;conv=>whnf
  refine ACalls.mono (say_any ap.a ap.b ap.c ap.d ⟨_,q2⟩ x.src {post1 with kind:=2,ok:=false} (made0 rfl rfl rfl rfl) hp) ?_;rintro _ h3 ⟨rfl,k3,kk3⟩;conv=>whnf
  exact ⟨rfl,k3,((s1.trans s2).keeps _).trans kk3⟩
 | true =>
  refine ACmp.yes ((by rw [hf];simp at hfr;omega)) ?_;conv=>whnf
  refine ADrawn.mk (h2) [] (Sub.refl _) (by decide +kernel) ?_;conv=>whnf
  refine ALoad.one rfl q2.str rfl ?_;conv=>whnf
  by_cases c2:c.vote=0
  ·refine ACmp.yes (c2) ?_;conv=>whnf
   have VB:=c2
   have hyes:c.askedOk x.abs=true:=by rw [hao,hfr];simp [VB]
   rw [hyes,if_pos rfl]
   refine ADrawn.mkO ((two h2 p b1)) [8] [0,1,2,3,4,5,6,7,8,9,10,11] (two_sub _ _ _) (by decide +kernel) ?_;conv=>whnf
   refine ALoad.one rfl ((two_r _ _ _).trans k12) rfl ?_;conv=>whnf
   refine ACalls.mono (waits_any h2 draw hd) ?_;rintro _ _ ⟨rfl,rfl⟩;conv=>whnf
   refine ⟨two_sub _ _ _,?_⟩;conv=>whnf
   refine AStore.oneN rfl rfl rfl (q2.str) rfl (coreCells {c with vote:=x.src} cx) rfl fun h3 t3 k3 a3 e3=>?_;conv=>whnf
   refine AStore.oneN rfl rfl rfl (k3) rfl (coreCells {c with vote:=x.src,wait:=waits draw} cx) rfl fun h4 t4 k4 a4 e4=>?_;conv=>whnf
   refine ⟨(fun b y e=>by cases e),?_⟩;conv=>whnf
   refine AStore.oneN rfl rfl rfl (k4) rfl (coreCells {c with vote:=x.src,wait:=waits draw,out:={c.out with hard:=true}} cx) rfl fun h5 t5 k5 a5 e5=>?_;conv=>whnf
   have tt:=t3.trans (t4.trans t5)
   have k15:=tt.get (tag_ne ap.c) k12
   have q5:CoreX 81 LA h5 p o oo {c with vote:=x.src,wait:=waits draw,out:={c.out with hard:=true}} cx:=⟨k5,q2.sd.keepT tt (by simp),KeepT.log q2.log tt,q2.rd.keepT tt (by simp),by
    have z:=q2.out.keepT ap.a tt
    exact ⟨z.od,z.oe,z.ed,z.ea,z.es,z.op,z.ps,z.pa,z.qr⟩⟩
   refine ALoad.one rfl k15 rfl ?_;conv=>whnf
   refine ACalls.mono (say_any ap.a ap.b ap.c ap.d ⟨_,q5⟩ x.src {post1 with kind:=2,ok:=true} (made0 rfl rfl rfl rfl) hp) ?_;rintro _ h6 ⟨rfl,k6,kk6⟩;conv=>whnf
   exact ⟨rfl,k6,((s1.trans s2).keeps _).trans ((tt.keep.keeps (by simp)).trans kk6)⟩
  ·refine ACmp.no (c2) ?_;conv=>whnf
   refine ALoad.one rfl q2.str rfl ?_
   refine ALoad.one rfl k12 rfl ?_;conv=>whnf
   by_cases c3:c.vote=x.src
   ·refine ACmp.yes (c3) ?_;conv=>whnf
    have VB:=c3
    have hyes:c.askedOk x.abs=true:=by rw [hao,hfr];simp [VB]
    rw [hyes,if_pos rfl]
    refine ADrawn.mkO ((two h2 p b1)) [8] [0,1,2,3,4,5,6,7,8,9,10,11] (two_sub _ _ _) (by decide +kernel) ?_;conv=>whnf
    refine ALoad.one rfl ((two_r _ _ _).trans k12) rfl ?_;conv=>whnf
    refine ACalls.mono (waits_any h2 draw hd) ?_;rintro _ _ ⟨rfl,rfl⟩;conv=>whnf
    refine ⟨two_sub _ _ _,?_⟩;conv=>whnf
    refine AStore.oneN rfl rfl rfl (q2.str) rfl (coreCells {c with vote:=x.src} cx) rfl fun h3 t3 k3 a3 e3=>?_;conv=>whnf
    refine AStore.oneN rfl rfl rfl (k3) rfl (coreCells {c with vote:=x.src,wait:=waits draw} cx) rfl fun h4 t4 k4 a4 e4=>?_;conv=>whnf
    refine ⟨(fun b y e=>by cases e),?_⟩;conv=>whnf
    refine AStore.oneN rfl rfl rfl (k4) rfl (coreCells {c with vote:=x.src,wait:=waits draw,out:={c.out with hard:=true}} cx) rfl fun h5 t5 k5 a5 e5=>?_;conv=>whnf
    have tt:=t3.trans (t4.trans t5)
    have k15:=tt.get (tag_ne ap.c) k12
    have q5:CoreX 81 LA h5 p o oo {c with vote:=x.src,wait:=waits draw,out:={c.out with hard:=true}} cx:=⟨k5,q2.sd.keepT tt (by simp),KeepT.log q2.log tt,q2.rd.keepT tt (by simp),by
     have z:=q2.out.keepT ap.a tt
     exact ⟨z.od,z.oe,z.ed,z.ea,z.es,z.op,z.ps,z.pa,z.qr⟩⟩
    refine ALoad.one rfl k15 rfl ?_;conv=>whnf
    refine ACalls.mono (say_any ap.a ap.b ap.c ap.d ⟨_,q5⟩ x.src {post1 with kind:=2,ok:=true} (made0 rfl rfl rfl rfl) hp) ?_;rintro _ h6 ⟨rfl,k6,kk6⟩;conv=>whnf
    exact ⟨rfl,k6,((s1.trans s2).keeps _).trans ((tt.keep.keeps (by simp)).trans kk6)⟩
   ·refine ACmp.no (c3) ?_;conv=>whnf
    have NB:(decide (c.vote=0) || decide (c.vote=x.src))=false:=by simp [c2,c3]
    have hno:c.askedOk x.abs=false:=by rw [hao,NB];simp
    rw [hno,if_neg (by simp)]
    refine ALoad.one rfl k12 rfl ?_;conv=>whnf
    refine ACalls.mono (say_any ap.a ap.b ap.c ap.d ⟨_,q2⟩ x.src {post1 with kind:=2,ok:=false} (made0 rfl rfl rfl rfl) hp) ?_;rintro _ h3 ⟨rfl,k3,kk3⟩;conv=>whnf
    exact ⟨rfl,k3,((s1.trans s2).keeps _).trans kk3⟩
theorem or_vput:∀ a:Nat,a<64→∀ n:Nat,n<6→1≤n→((a ||| 2^n:Nat):Int)=vput (a:Int) (n:Int):=by decide +kernel
theorem CoreM.voted_no {c:CoreM} {p:PostM} (h:c.state≠1∨p.ok=false):c.voted p=c:=if_pos h
theorem CoreM.voted_yes {c:CoreM} {p:PostM} (h:¬(c.state≠1∨p.ok=false)):c.voted p=if ({c with votes:=vput c.votes p.src}:CoreM).elected=true then ({c with votes:=vput c.votes p.src}:CoreM).lead else {c with votes:=vput c.votes p.src}:=if_neg h
set_option maxHeartbeats 2000000 in
theorem voted_any {h:Heap} {p o oo:Nat} {c:CoreM} (ap:Apart o oo) (k:PCore h p o oo c) (lk:LogOk c) (hs1:1≤c.self) (hs2:c.self≤5) (hv1:0≤c.votes) (hv2:c.votes<64) (x:PH) (hx1:1≤x.src) (hx2:x.src≤5)
  (hroom:(c.log.es.length+1)*48≤140737488355328) (he:c.out.entries.length≤1000000000) (hp:c.out.posts.length≤999999990) :
  ACalls PR 136 #[Ptr p, .agg x.cells.toArray] h (fun v h'=>v = .tuple #[]∧PCore h' p o oo (c.voted x.abs)∧Keeps [o,o+1,oo] h h'):=by
 obtain ⟨cx,k⟩:=k
 obtain ⟨a,ha⟩:∃ a:Nat,c.votes=a:=⟨c.votes.toNat,by omega⟩
 obtain ⟨n,hn⟩:∃ n:Nat,x.src=n:=⟨x.src.toNat,by omega⟩
 refine acalls_of mix Tryz.func136 rfl rfl Tryz.ntmps136 Tryz.results136 rfl ?_;conv=>whnf
 refine ABox.mkN (0,1) (x.cells) rfl fun b1 h1 n1 s1 k1=>?_;conv=>whnf
 have q:=k.sub s1
 refine ALoad.one rfl q.str rfl ?_;conv=>whnf
 by_cases c1:c.state≠1
 ·refine ACmp.yes (c1) ?_;conv=>whnf
  rw [CoreM.voted_no (.inl c1)]
  exact ⟨rfl,⟨_,q⟩,s1.keeps _⟩
 refine ACmp.no (c1) ?_;conv=>whnf
 refine ALoad.one rfl k1 rfl ?_;conv=>whnf
 cases c2:x.ok with
 | false =>
  conv=>whnf
  rw [CoreM.voted_no (.inr c2)]
  exact ⟨rfl,⟨_,q⟩,s1.keeps _⟩
 | true =>
 conv=>whnf
 rw [CoreM.voted_yes (by show ¬(c.state≠1∨x.ok=false);rw [c2];simpa using c1)]
 refine ADrawn.mk ((two h1 p b1)) [12] (two_sub _ _ _) (by decide +kernel) ?_;conv=>whnf
 refine ALoad.one rfl ((two_l _ _ _).trans q.str) rfl ?_
 refine ALoad.one rfl ((two_r _ _ _).trans k1) rfl ?_;conv=>whnf
 rw [hn,ha]
 refine ⟨by omega,?_⟩
 refine AArith.as (shl_one n (by omega)) ?_;conv=>whnf
 refine AInt.as ((or_bits a (by omega) n (by omega)).1.trans (or_vput a (by omega) n (by omega) (by omega))) ?_;conv=>whnf
 rw [← ha,← hn]
 refine AStore.oneN rfl rfl rfl (q.str) rfl (coreCells {c with votes:=vput c.votes x.src} cx) rfl fun h2 t2 k2 a2 e2=>?_;conv=>whnf
 obtain ⟨g,hg⟩:∃ g:CoreM,g={c with votes:=vput c.votes x.src}:=⟨_,rfl⟩
 rw [show ({c with votes:=vput c.votes x.abs.src}:CoreM)=g from hg.symm]
 rw [← hg] at k2
 have q2:CoreX 81 LA h2 p o oo g cx:=by
  rw [hg] at k2 ⊢
  exact ⟨k2,q.sd.keepT t2 (by simp),KeepT.log q.log t2,q.rd.keepT t2 (by simp),q.out.keepT ap.a t2⟩
 have lk2:LogOk g:=by rw [hg];exact lk.same rfl rfl
 have g1:g.self=c.self:=by rw [hg]
 have g2:g.log=c.log:=by rw [hg]
 have g3:g.out=c.out:=by rw [hg]
 have kk2:Keeps [o,o+1,oo] h h2:=(s1.keeps _).trans (t2.keep.keeps (by simp))
 refine ACalls.mono (crewNow_any q2 lk2.lo lk2.by_) ?_;rintro _ _ ⟨rfl,rfl⟩;conv=>whnf
 refine ALoad.one rfl q2.str rfl ?_;conv=>whnf
 refine ACalls.mono (Most_any h2 g.crewNow.1 g.votes) ?_
 rw [mostOf_set (p:=hasB g.votes) (fun n _ _=>rfl),show mostOf g.crewNow.1 (hasB g.votes)=g.elected from rfl]
 cases hel:g.elected with
 | false =>
  rintro _ _ ⟨rfl,rfl⟩
  conv=>whnf
  rw [if_neg (by simp)]
  exact ⟨rfl,⟨_,q2⟩,kk2⟩
 | true =>
  rintro _ _ ⟨rfl,rfl⟩
  conv=>whnf
  rw [if_pos rfl]
  refine ACalls.mono (lead_any ap ⟨_,q2⟩ lk2 (by rw [g1];exact hs1) (by rw [g1];exact hs2) (by rw [g2];exact hroom) (by rw [g3];exact he) (by rw [g3];exact hp)) ?_;rintro _ h7 ⟨rfl,k7,kk7⟩;conv=>whnf
  exact ⟨rfl,k7,kk2.trans kk7⟩
def CoreM.installed (c:CoreM) (s:SnapM) (l:LG):CoreM:={c with log:=l,snap:=s,commit:=s.index,out:={c.out with snap:=s}}
theorem CoreM.install_no {c:CoreM} {p:PostM} (h:¬ c.commit<p.snap.index):c.install p=c.say p.src {post0 with kind:=6,index:=c.commit,hint:=p.hint}:=by
 unfold CoreM.install;rw [if_neg h]
theorem CoreM.install_yes {c:CoreM} {p:PostM} (h:c.commit<p.snap.index):c.install p=(c.installed p.snap (if c.has p.snap.index p.snap.term=true∧(c.log.compact p.snap.index).1=0 then (c.log.compact p.snap.index).2 else lnew p.snap.index p.snap.term)).say p.src {post0 with kind:=6,index:=p.snap.index,hint:=p.hint}:=by
 unfold CoreM.install;rw [if_pos h];rfl
set_option maxHeartbeats 4000000 in
theorem install_any {h:Heap} {p o oo:Nat} {c:CoreM} (ap:Apart o oo) (k:PCore h p o oo c) (lo:LOk c.log) (x:PH) (g:Given h o oo x) (hb:okBase x.si x.st=true) (hdn:x.d.n≤140737488355328)
  (hroom:c.log.es.length*48≤140737488355328) (hp:c.out.posts.length≤1000000000) :
  ACalls PR 137 #[Ptr p, .agg x.cells.toArray] h (fun v h'=>v = .tuple #[]∧PCore h' p o oo (c.install x.abs)∧Keeps [o,o+1,oo] h h'):=by
 obtain ⟨cx,k⟩:=k
 refine acalls_of mix Tryz.func137 rfl rfl Tryz.ntmps137 Tryz.results137 rfl ?_;conv=>whnf
 refine ABox.mkN (0,1) (x.cells) rfl fun b1 h1 n1 s1 k1=>?_;conv=>whnf
 refine ALoad.agg rfl k1 rfl rfl ?_;conv=>whnf
 refine AAlloc.mkN (0,1) ([I 0,I 0,I 0, .slice none 0 0]) rfl fun b4 h2 n2 s2 k2=>?_;conv=>whnf
 refine AStore.aggN rfl rfl rfl (k2) rfl ([I x.si,I x.st,I x.sc, .slice x.d.a x.d.n x.d.c]) rfl fun h3 t3 k4 a3 e3=>?_;conv=>whnf
 have b14:b1≠b4:=fun c=>by rw [c,n2] at k1;cases k1
 have k13:=e3 _ _ b14 (s2 _ _ k1)
 have hb4:h b4=none:=by
  cases e:h b4 with
  | none=>rfl
  | some y=>rw [s1 _ _ e] at n2;cases n2
 have s3:Sub h h3:=a3 h (s1.trans s2) hb4
 have q:=k.sub s3
 have g3:=g.sub s3
 clear s1 s2 k1 k2 n1 n2 t3 a3 e3
 refine ADrawn.mk (h3) [] (Sub.refl _) (by decide +kernel) ?_;conv=>whnf
 refine ALoad.one rfl k4 rfl ?_
 refine ALoad.one rfl q.str rfl ?_;conv=>whnf
 by_cases c1:c.commit<x.si
 ·refine ACmp.yes (c1) ?_;conv=>whnf
  rw [CoreM.install_yes (p:=x.abs) c1]
  obtain ⟨L,hL⟩:∃ L,L=(if c.has x.abs.snap.index x.abs.snap.term=true∧(c.log.compact x.abs.snap.index).1=0 then (c.log.compact x.abs.snap.index).2 else lnew x.abs.snap.index x.abs.snap.term):=⟨_,rfl⟩
  rw [← hL]
  refine ADrawn.mk ((two h3 p b4)) [] (two_sub _ _ _) (by decide +kernel) ?_;conv=>whnf
  refine ALoad.one rfl ((two_l _ _ _).trans q.str) rfl ?_
  refine ALoad.one rfl ((two_r _ _ _).trans k4) rfl ?_
  refine ALoad.one rfl ((two_r _ _ _).trans k4) rfl ?_;conv=>whnf
  have hcall:ACalls PR 122 #[Ptr cx.log,I x.si,I x.st] h3 (fun v h'=>v = .bool (c.has x.si x.st)∧h3=h'):=Has_c q.log lo x.si x.st
  by_cases hh:c.has x.si x.st=true
  ·rw [hh] at hcall
   refine ACalls.mono (hcall) ?_;rintro _ _ ⟨rfl,rfl⟩;conv=>whnf
   refine ⟨two_sub _ _ _,?_⟩;conv=>whnf
   refine ALoad.one rfl ((two_l _ _ _).trans q.str) rfl ?_
   refine ALoad.one rfl ((two_r _ _ _).trans k4) rfl ?_;conv=>whnf
   refine ACalls.mono (Compact_c (by omega) q.log lo x.si hroom) ?_;rintro _ h4 ⟨rfl,l4,kk4⟩;conv=>whnf
   have k44:=kk4.get (by simp) k4
   have k14:=kk4.get (by simp) k13
   have q4:=kk4.get (by simp) q.str
   have rd4:=q.rd.move fun b y e=>kk4.get (by simp) e
   have o4:=q.out.move fun b t y ht e=>kk4 _ _ _ (by rw [ht];exact ap.b.symm) e
   refine ⟨two_get (fun y hy=>?_) (fun y hy=>?_),?_⟩
   ·rw [q.str] at hy;cases hy;exact q4
   ·rw [k4] at hy;cases hy;exact k44
   conv=>whnf
   have KK4:Keeps [o,o+1,oo] h3 h4:=kk4.keeps (by simp)
   by_cases hc:(c.log.compact x.si).1=0
   ·refine ACmp.no ((by simpa using hc)) ?_;conv=>whnf
    have hL2:L=(c.log.compact x.si).2:=hL.trans (if_pos ⟨hh,hc⟩)
    obtain ⟨h5,lp,rfl,k45,k15,q5,l5,rd5,o5,kk5⟩:∃ (h5:Heap) (lp:Nat),h5=h4∧h5 b4=some (row (0,1) [I x.si,I x.st,I x.sc, .slice x.d.a x.d.n x.d.c] 31)∧h5 b1=some (row (0,1) x.cells 49) ∧
      h5 p=some (row (o,0) (coreCells {c with log:=L} {cx with log:=lp}) 81)∧LA h5 lp (o+1) L∧Own h5 (o,4) 3 cx.rd.a cx.rd.n cx.rd.c 1 (c.reads.map I)∧OutOk h5 oo c.out cx.ox∧Keeps [o,o+1,oo] h3 h5 :=
     ⟨h4,cx.log,rfl,k44,k14,q4,by rw [hL2];exact l4,rd4,o4,KK4⟩
    obtain ⟨⟨t1,t2,t3,ok,tn1,tn2,tn3⟩,_,_,_,_⟩:=g3.keeps kk5
    refine ADrawn.mkO ((one h5 b4)) [] [0,1,2,4,5,3,6,7,8,9,10,11] (one_sub _ _) (by decide +kernel) ?_;conv=>whnf
    refine ALoad.agg rfl ((one_at _ _).trans k45) rfl rfl ?_
    refine ALoad.one rfl ((one_at _ _).trans k45) rfl ?_;conv=>whnf
    refine ACalls.mono (cloned_any h5 (o,3) (fun c=>ap.c (congrArg Prod.fst c)) (i:=x.si) (tm:=x.st) (cr:=x.sc) (d:=x.d) ok.sd hdn) ?_
    rintro v h6 ⟨a6,c6,rfl,ow6,s6⟩
    refine ⟨(one_sub _ _).trans s6,?_⟩;conv=>whnf
    refine AStore.aggN rfl rfl rfl ((s6 _ _ q5)) rfl (coreCells {c with snap:=⟨x.si,x.st,x.sc,x.data⟩,log:=L} {cx with log:=lp,sd:=⟨a6,x.d.n,c6⟩}) rfl fun h7 t7 k7 a7 e7=>?_;conv=>whnf
    have b4p:b4≠p:=ne_of_tag k45 q5 (tag_ne ap.c)
    refine ⟨one_get fun y hy=>e7 _ _ b4p (s6 _ _ hy),?_⟩;conv=>whnf
    refine AStore.oneN rfl rfl rfl (k7) rfl (coreCells {c with snap:=⟨x.si,x.st,x.sc,x.data⟩,log:=L,commit:=x.si} {cx with log:=lp,sd:=⟨a6,x.d.n,c6⟩}) rfl fun h8 t8 k8 a8 e8=>?_;conv=>whnf
    refine ⟨one_get fun y hy=>e8 _ _ b4p (e7 _ _ b4p (s6 _ _ hy)),?_⟩;conv=>whnf
    have tt:=t7.trans t8
    have k48:=e8 _ _ b4p (e7 _ _ b4p (s6 _ _ k45))
    have k18:=tt.get (tag_ne ap.c) (s6 _ _ k15)
    refine ALoad.agg rfl k48 rfl rfl ?_;conv=>whnf
    have okd:Sl h8 t3 x.d.a x.d.n x.d.c 1 (bytesV x.data):=(ok.sd.sub s6).keepT tt (fun c=>tn3 (by rw [c];simp))
    refine ACalls.mono (cloned_any h8 (oo,6) (fun c=>ap.d (congrArg Prod.fst c)) (i:=x.si) (tm:=x.st) (cr:=x.sc) (d:=x.d) okd hdn) ?_
    rintro v h9 ⟨a9,c9,rfl,ow9,s9⟩
    conv=>whnf
    refine AStore.aggN rfl rfl rfl ((s9 _ _ k8)) rfl (coreCells (c.installed ⟨x.si,x.st,x.sc,x.data⟩ L) {cx with log:=lp,sd:=⟨a6,x.d.n,c6⟩,ox:={cx.ox with od:=⟨a9,x.d.n,c9⟩}}) rfl fun hA tA kA aA eA=>?_;conv=>whnf
    have k1A:=eA _ _ (ne_of_tag (s9 _ _ k18) (s9 _ _ k8) (tag_ne ap.c)) (s9 _ _ k18)
    have go:∀ (t:Tag) b y,t≠(o,0)→h5 b=some (t,y)→hA b=some (t,y):=fun t b y ht e=>tA _ _ _ ht (s9 _ _ (tt _ _ _ ht (s6 _ _ e)))
    have neo:∀ r s:Nat,((oo,r):Tag)≠(o,s):=fun r s c=>ap.a (congrArg Prod.fst c).symm
    have qA:CoreX 81 LA hA p o oo (c.installed ⟨x.si,x.st,x.sc,x.data⟩ L) {cx with log:=lp,sd:=⟨a6,x.d.n,c6⟩,ox:={cx.ox with od:=⟨a9,x.d.n,c9⟩}}:=by
     refine ⟨kA,((ow6.keepT tt (by simp)).sub s9).keepT tA (by simp),Moves.move l5 fun b t y ht e=>go t b y (fun c=>by rw [c] at ht;simp at ht) e,rd5.move fun b y e=>go _ b y (by simp) e,?_⟩
     refine ⟨ow9.keepT tA (neo 6 0),o5.oe.move fun b y e=>go _ b y (neo 1 0) e,fun y hy=>Own.move (o5.ed y hy) fun b y e=>go _ b y (neo 2 0) e,o5.ea,o5.es,o5.op.move fun b y e=>go _ b y (neo 3 0) e,fun i y hy=>(o5.ps i y hy).move fun b t z ht hr e=>go t b z (fun c=>by rw [c] at ht;exact ap.a ht) e,o5.pa,o5.qr.move fun b y e=>go _ b y (neo 7 0) e⟩
    have kkA:Keeps [o,o+1,oo] h hA:=(s3.keeps _).trans (kk5.trans fun b t y ht e=>go t b y (fun c=>ht (by rw [c];simp)) e)
    refine ADrawn.mk (hA) [10] (Sub.refl _) (by decide +kernel) ?_;conv=>whnf
    refine ALoad.one rfl k1A rfl ?_
    refine ALoad.one rfl qA.str rfl ?_
    refine ALoad.one rfl k1A rfl ?_;conv=>whnf
    refine ACalls.mono (say_any ap.a ap.b ap.c ap.d ⟨_,qA⟩ x.src {post1 with kind:=6,index:=x.si,hint:=x.hint} (made0 rfl rfl rfl rfl) hp) ?_;rintro _ hB ⟨rfl,kB,kkB⟩;conv=>whnf
    exact ⟨rfl,kB,kkA.trans (kkB.mono (by simp))⟩
   ·refine ACmp.yes (hc) ?_;conv=>whnf
    have hLn:L=lnew x.si x.st:=hL.trans (if_neg fun c=>hc c.2)
    refine ALoad.one rfl k44 rfl ?_
    refine ALoad.one rfl k44 rfl ?_;conv=>whnf
    refine ACalls.mono (New_c h4 (o+1) (by omega) x.si x.st) ?_
    rintro v h4' (⟨_,lp,rfl,l4',s4'⟩ | ⟨hb',_⟩)
    ·conv=>whnf
     refine AStore.oneN rfl rfl rfl ((s4' _ _ q4)) rfl (coreCells {c with log:=L} {cx with log:=lp}) rfl fun h5 t5 q5 a5 e5=>?_;conv=>whnf
     have k45:=t5.get (tag_ne ap.c) (s4' _ _ k44)
     have k15:=t5.get (tag_ne ap.c) (s4' _ _ k14)
     have kk5:Keeps [o,o+1,oo] h3 h5:=KK4.trans ((s4'.keeps _).trans (t5.keep.keeps (by simp)))
     have l5:LA h5 lp (o+1) L:=by rw [hLn];exact KeepT.log l4' t5
     have rd5:=(rd4.move fun _ _ e=>s4' _ _ e).keepT t5 (by simp)
     have o5:=(o4.move fun b t y _ e=>s4' _ _ e).keepT ap.a t5
     obtain ⟨⟨t1,t2,t3,ok,tn1,tn2,tn3⟩,_,_,_,_⟩:=g3.keeps kk5
     refine ADrawn.mkO ((one h5 b4)) [] [0,1,2,4,5,3,6,7,8,9,10,11] (one_sub _ _) (by decide +kernel) ?_;conv=>whnf
     refine ALoad.agg rfl ((one_at _ _).trans k45) rfl rfl ?_
     refine ALoad.one rfl ((one_at _ _).trans k45) rfl ?_;conv=>whnf
     refine ACalls.mono (cloned_any h5 (o,3) (fun c=>ap.c (congrArg Prod.fst c)) (i:=x.si) (tm:=x.st) (cr:=x.sc) (d:=x.d) ok.sd hdn) ?_
     rintro v h6 ⟨a6,c6,rfl,ow6,s6⟩
     refine ⟨(one_sub _ _).trans s6,?_⟩;conv=>whnf
     refine AStore.aggN rfl rfl rfl ((s6 _ _ q5)) rfl (coreCells {c with snap:=⟨x.si,x.st,x.sc,x.data⟩,log:=L} {cx with log:=lp,sd:=⟨a6,x.d.n,c6⟩}) rfl fun h7 t7 k7 a7 e7=>?_;conv=>whnf
     have b4p:b4≠p:=ne_of_tag k45 q5 (tag_ne ap.c)
     refine ⟨one_get fun y hy=>e7 _ _ b4p (s6 _ _ hy),?_⟩;conv=>whnf
     refine AStore.oneN rfl rfl rfl (k7) rfl (coreCells {c with snap:=⟨x.si,x.st,x.sc,x.data⟩,log:=L,commit:=x.si} {cx with log:=lp,sd:=⟨a6,x.d.n,c6⟩}) rfl fun h8 t8 k8 a8 e8=>?_;conv=>whnf
     refine ⟨one_get fun y hy=>e8 _ _ b4p (e7 _ _ b4p (s6 _ _ hy)),?_⟩;conv=>whnf
     have tt:=t7.trans t8
     have k48:=e8 _ _ b4p (e7 _ _ b4p (s6 _ _ k45))
     have k18:=tt.get (tag_ne ap.c) (s6 _ _ k15)
     refine ALoad.agg rfl k48 rfl rfl ?_;conv=>whnf
     have okd:Sl h8 t3 x.d.a x.d.n x.d.c 1 (bytesV x.data):=(ok.sd.sub s6).keepT tt (fun c=>tn3 (by rw [c];simp))
     refine ACalls.mono (cloned_any h8 (oo,6) (fun c=>ap.d (congrArg Prod.fst c)) (i:=x.si) (tm:=x.st) (cr:=x.sc) (d:=x.d) okd hdn) ?_
     rintro v h9 ⟨a9,c9,rfl,ow9,s9⟩
     conv=>whnf
     refine AStore.aggN rfl rfl rfl ((s9 _ _ k8)) rfl (coreCells (c.installed ⟨x.si,x.st,x.sc,x.data⟩ L) {cx with log:=lp,sd:=⟨a6,x.d.n,c6⟩,ox:={cx.ox with od:=⟨a9,x.d.n,c9⟩}}) rfl fun hA tA kA aA eA=>?_;conv=>whnf
     have k1A:=eA _ _ (ne_of_tag (s9 _ _ k18) (s9 _ _ k8) (tag_ne ap.c)) (s9 _ _ k18)
     have go:∀ (t:Tag) b y,t≠(o,0)→h5 b=some (t,y)→hA b=some (t,y):=fun t b y ht e=>tA _ _ _ ht (s9 _ _ (tt _ _ _ ht (s6 _ _ e)))
     have neo:∀ r s:Nat,((oo,r):Tag)≠(o,s):=fun r s c=>ap.a (congrArg Prod.fst c).symm
     have qA:CoreX 81 LA hA p o oo (c.installed ⟨x.si,x.st,x.sc,x.data⟩ L) {cx with log:=lp,sd:=⟨a6,x.d.n,c6⟩,ox:={cx.ox with od:=⟨a9,x.d.n,c9⟩}}:=by
      refine ⟨kA,((ow6.keepT tt (by simp)).sub s9).keepT tA (by simp),Moves.move l5 fun b t y ht e=>go t b y (fun c=>by rw [c] at ht;simp at ht) e,rd5.move fun b y e=>go _ b y (by simp) e,?_⟩
      refine ⟨ow9.keepT tA (neo 6 0),o5.oe.move fun b y e=>go _ b y (neo 1 0) e,fun y hy=>Own.move (o5.ed y hy) fun b y e=>go _ b y (neo 2 0) e,o5.ea,o5.es,o5.op.move fun b y e=>go _ b y (neo 3 0) e,fun i y hy=>(o5.ps i y hy).move fun b t z ht hr e=>go t b z (fun c=>by rw [c] at ht;exact ap.a ht) e,o5.pa,o5.qr.move fun b y e=>go _ b y (neo 7 0) e⟩
     have kkA:Keeps [o,o+1,oo] h hA:=(s3.keeps _).trans (kk5.trans fun b t y ht e=>go t b y (fun c=>ht (by rw [c];simp)) e)
     refine ADrawn.mk (hA) [10] (Sub.refl _) (by decide +kernel) ?_;conv=>whnf
     refine ALoad.one rfl k1A rfl ?_
     refine ALoad.one rfl qA.str rfl ?_
     refine ALoad.one rfl k1A rfl ?_;conv=>whnf
     refine ACalls.mono (say_any ap.a ap.b ap.c ap.d ⟨_,qA⟩ x.src {post1 with kind:=6,index:=x.si,hint:=x.hint} (made0 rfl rfl rfl rfl) hp) ?_;rintro _ hB ⟨rfl,kB,kkB⟩;conv=>whnf
     exact ⟨rfl,kB,kkA.trans (kkB.mono (by simp))⟩
    ·rw [hb] at hb';cases hb'
  ·rw [Bool.eq_false_iff.2 hh] at hcall
   refine ACalls.mono (hcall) ?_;rintro _ _ ⟨rfl,rfl⟩;conv=>whnf
   refine ⟨two_sub _ _ _,?_⟩;conv=>whnf
   have hLn:L=lnew x.si x.st:=hL.trans (if_neg fun c=>hh c.1)
   refine ALoad.one rfl k4 rfl ?_
   refine ALoad.one rfl k4 rfl ?_;conv=>whnf
   refine ACalls.mono (New_c h3 (o+1) (by omega) x.si x.st) ?_
   rintro v h4' (⟨_,lp,rfl,l4',s4'⟩ | ⟨hb',_⟩)
   ·conv=>whnf
    refine AStore.oneN rfl rfl rfl ((s4' _ _ q.str)) rfl (coreCells {c with log:=L} {cx with log:=lp}) rfl fun h5 t5 q5 a5 e5=>?_;conv=>whnf
    have k45:=t5.get (tag_ne ap.c) (s4' _ _ k4)
    have k15:=t5.get (tag_ne ap.c) (s4' _ _ k13)
    have kk5:Keeps [o,o+1,oo] h3 h5:=(Keeps.refl _ h3).trans ((s4'.keeps _).trans (t5.keep.keeps (by simp)))
    have l5:LA h5 lp (o+1) L:=by rw [hLn];exact KeepT.log l4' t5
    have rd5:=(q.rd.move fun _ _ e=>s4' _ _ e).keepT t5 (by simp)
    have o5:=(q.out.move fun b t y _ e=>s4' _ _ e).keepT ap.a t5
    obtain ⟨⟨t1,t2,t3,ok,tn1,tn2,tn3⟩,_,_,_,_⟩:=g3.keeps kk5
    refine ADrawn.mkO ((one h5 b4)) [] [0,1,2,4,5,3,6,7,8,9,10,11] (one_sub _ _) (by decide +kernel) ?_;conv=>whnf
    refine ALoad.agg rfl ((one_at _ _).trans k45) rfl rfl ?_
    refine ALoad.one rfl ((one_at _ _).trans k45) rfl ?_;conv=>whnf
    refine ACalls.mono (cloned_any h5 (o,3) (fun c=>ap.c (congrArg Prod.fst c)) (i:=x.si) (tm:=x.st) (cr:=x.sc) (d:=x.d) ok.sd hdn) ?_
    rintro v h6 ⟨a6,c6,rfl,ow6,s6⟩
    refine ⟨(one_sub _ _).trans s6,?_⟩;conv=>whnf
    refine AStore.aggN rfl rfl rfl ((s6 _ _ q5)) rfl (coreCells {c with snap:=⟨x.si,x.st,x.sc,x.data⟩,log:=L} {cx with log:=lp,sd:=⟨a6,x.d.n,c6⟩}) rfl fun h7 t7 k7 a7 e7=>?_;conv=>whnf
    have b4p:b4≠p:=ne_of_tag k45 q5 (tag_ne ap.c)
    refine ⟨one_get fun y hy=>e7 _ _ b4p (s6 _ _ hy),?_⟩;conv=>whnf
    refine AStore.oneN rfl rfl rfl (k7) rfl (coreCells {c with snap:=⟨x.si,x.st,x.sc,x.data⟩,log:=L,commit:=x.si} {cx with log:=lp,sd:=⟨a6,x.d.n,c6⟩}) rfl fun h8 t8 k8 a8 e8=>?_;conv=>whnf
    refine ⟨one_get fun y hy=>e8 _ _ b4p (e7 _ _ b4p (s6 _ _ hy)),?_⟩;conv=>whnf
    have tt:=t7.trans t8
    have k48:=e8 _ _ b4p (e7 _ _ b4p (s6 _ _ k45))
    have k18:=tt.get (tag_ne ap.c) (s6 _ _ k15)
    refine ALoad.agg rfl k48 rfl rfl ?_;conv=>whnf
    have okd:Sl h8 t3 x.d.a x.d.n x.d.c 1 (bytesV x.data):=(ok.sd.sub s6).keepT tt (fun c=>tn3 (by rw [c];simp))
    refine ACalls.mono (cloned_any h8 (oo,6) (fun c=>ap.d (congrArg Prod.fst c)) (i:=x.si) (tm:=x.st) (cr:=x.sc) (d:=x.d) okd hdn) ?_
    rintro v h9 ⟨a9,c9,rfl,ow9,s9⟩
    conv=>whnf
    refine AStore.aggN rfl rfl rfl ((s9 _ _ k8)) rfl (coreCells (c.installed ⟨x.si,x.st,x.sc,x.data⟩ L) {cx with log:=lp,sd:=⟨a6,x.d.n,c6⟩,ox:={cx.ox with od:=⟨a9,x.d.n,c9⟩}}) rfl fun hA tA kA aA eA=>?_;conv=>whnf
    have k1A:=eA _ _ (ne_of_tag (s9 _ _ k18) (s9 _ _ k8) (tag_ne ap.c)) (s9 _ _ k18)
    have go:∀ (t:Tag) b y,t≠(o,0)→h5 b=some (t,y)→hA b=some (t,y):=fun t b y ht e=>tA _ _ _ ht (s9 _ _ (tt _ _ _ ht (s6 _ _ e)))
    have neo:∀ r s:Nat,((oo,r):Tag)≠(o,s):=fun r s c=>ap.a (congrArg Prod.fst c).symm
    have qA:CoreX 81 LA hA p o oo (c.installed ⟨x.si,x.st,x.sc,x.data⟩ L) {cx with log:=lp,sd:=⟨a6,x.d.n,c6⟩,ox:={cx.ox with od:=⟨a9,x.d.n,c9⟩}}:=by
     refine ⟨kA,((ow6.keepT tt (by simp)).sub s9).keepT tA (by simp),Moves.move l5 fun b t y ht e=>go t b y (fun c=>by rw [c] at ht;simp at ht) e,rd5.move fun b y e=>go _ b y (by simp) e,?_⟩
     refine ⟨ow9.keepT tA (neo 6 0),o5.oe.move fun b y e=>go _ b y (neo 1 0) e,fun y hy=>Own.move (o5.ed y hy) fun b y e=>go _ b y (neo 2 0) e,o5.ea,o5.es,o5.op.move fun b y e=>go _ b y (neo 3 0) e,fun i y hy=>(o5.ps i y hy).move fun b t z ht hr e=>go t b z (fun c=>by rw [c] at ht;exact ap.a ht) e,o5.pa,o5.qr.move fun b y e=>go _ b y (neo 7 0) e⟩
    have kkA:Keeps [o,o+1,oo] h hA:=(s3.keeps _).trans (kk5.trans fun b t y ht e=>go t b y (fun c=>ht (by rw [c];simp)) e)
    refine ADrawn.mk (hA) [10] (Sub.refl _) (by decide +kernel) ?_;conv=>whnf
    refine ALoad.one rfl k1A rfl ?_
    refine ALoad.one rfl qA.str rfl ?_
    refine ALoad.one rfl k1A rfl ?_;conv=>whnf
    refine ACalls.mono (say_any ap.a ap.b ap.c ap.d ⟨_,qA⟩ x.src {post1 with kind:=6,index:=x.si,hint:=x.hint} (made0 rfl rfl rfl rfl) hp) ?_;rintro _ hB ⟨rfl,kB,kkB⟩;conv=>whnf
    exact ⟨rfl,kB,kkA.trans (kkB.mono (by simp))⟩
   ·rw [hb] at hb';cases hb'
 ·refine ACmp.no (c1) ?_;conv=>whnf
  rw [CoreM.install_no (p:=x.abs) c1]
  refine ADrawn.mk (h3) [10] (Sub.refl _) (by decide +kernel) ?_;conv=>whnf
  refine ALoad.one rfl k13 rfl ?_
  refine ALoad.one rfl q.str rfl ?_
  refine ALoad.one rfl k13 rfl ?_;conv=>whnf
  refine ACalls.mono (say_any ap.a ap.b ap.c ap.d ⟨_,q⟩ x.src {post1 with kind:=6,index:=c.commit,hint:=x.hint} (made0 rfl rfl rfl rfl) hp) ?_;rintro _ hB ⟨rfl,kB,kkB⟩;conv=>whnf
  exact ⟨rfl,kB,(s3.keeps _).trans (kkB.mono (by simp))⟩
theorem fresh_of {L:LG} {l:List Abs} {k:Nat} (h1:∀ j e,j<k→l[j]? = some e→decide ((L.term e.2.1).2=0∧(L.term e.2.1).1=e.1)=true) (h2:k=l.length∨∃ e,l[k]? = some e∧decide ((L.term e.2.1).2=0∧(L.term e.2.1).1=e.1)=false):L.fresh l=l.drop k:=by
 induction l generalizing k with
 | nil=>simp [LG.fresh]
 | cons e r ih =>
  cases k with
  | zero =>
   rcases h2 with h2 | ⟨e',he,hf⟩
   ·simp at h2
   ·simp at he;subst he
    unfold LG.fresh
    rw [if_neg (by simpa using hf)];rfl
  | succ k =>
   have h0:=h1 0 e (by omega) rfl
   unfold LG.fresh
   rw [if_pos (by simpa using h0)]
   exact ih (fun j e' hj he=>h1 (j+1) e' (by omega) (by simpa using he)) (h2.imp (by simp) (fun ⟨e',he,hf⟩=>⟨e',by simpa using he,hf⟩))
def CoreM.appendOk (c:CoreM) (p:PostM) (l:List Abs):CoreM :=
  let stop:=p.index+p.entries.length
  let d:=c.appendRest l
  let m:=if stop<p.commit then stop else p.commit
  ({d with commit:=if d.commit<m then m else d.commit}).say p.src {post0 with kind:=4,ok:=true,index:=stop,hint:=p.hint}
def CoreM.appendNo (c:CoreM) (p:PostM) (i:Int):CoreM:=c.say p.src {post0 with kind:=4,index:=if c.log.last.1<i-1 then c.log.last.1 else i-1,hint:=p.hint}
def aList (c:CoreM) (p:PostM):List Abs:=if p.index<c.log.bi then p.entries.drop (c.log.bi-p.index).toNat else p.entries
def aIndex (c:CoreM) (p:PostM):Int:=if p.index<c.log.bi then c.log.bi else p.index
def aTerm (c:CoreM) (p:PostM):Int:=if p.index<c.log.bi then c.log.bt else p.logTerm
theorem CoreM.append_eq (c:CoreM) (p:PostM):c.append p=if c.has (aIndex c p) (aTerm c p)=false∨headLow (aTerm c p) (aList c p)=true then c.appendNo p (aIndex c p) else c.appendOk p (aList c p):=by
 unfold CoreM.append aList aIndex aTerm CoreM.appendNo CoreM.appendOk
 by_cases h:p.index<c.log.bi <;> simp [h]
theorem appendRest_nil {c:CoreM} {l:List Abs} (h:c.log.fresh l=[]):c.appendRest l=c:=by unfold CoreM.appendRest;rw [h]
def CoreM.cutAt (c:CoreM) (e:Abs):CoreM:=if e.2.1≤c.log.last.1 then {c with log:=(c.log.cut e.2.1).2,out:={c.out with cut:=e.2.1}} else c
theorem appendRest_cons {c:CoreM} {l:List Abs} {e:Abs} {r:List Abs} (h:c.log.fresh l=e::r):c.appendRest l={c.cutAt e with log:=((c.cutAt e).log.append (e::r)).2,out:={(c.cutAt e).out with entries:=(c.cutAt e).out.entries++e::r}}:=by
 unfold CoreM.appendRest CoreM.cutAt;rw [h]
def few (h:Heap) (l:List Nat):Heap:=fun c=>if c∈l then h c else none
theorem few_sub (h:Heap) (l:List Nat):Sub (few h l) h:=by
 intro c x e;unfold few at e;split at e
 ·exact e
 ·cases e
theorem few_get {h h':Heap} {l:List Nat} (k:∀ c∈l,∀ x,h c=some x→h' c=some x):Sub (few h l) h':=by
 intro c x e;unfold few at e;split at e
 ·exact k c (by assumption) _ e
 ·cases e
theorem few_at {h:Heap} {l:List Nat} {c:Nat} (m:c∈l):few h l c=h c:=by unfold few;rw [if_pos m]
theorem Ents.from {h:Heap} {t td:Tag} {a:Option Addr} {n c:Nat} {es:List EH} (X:Ents h t td a n c es) {l:Nat} (hl:l≤n):Ents h t td (slBase a l c 4) (n-l) (c-l) (es.drop l):=by
 refine ⟨?_,fun e he=>X.good e (List.mem_of_mem_drop he),fun e he=>X.small e (List.mem_of_mem_drop he)⟩
 have:=X.sl.slice (l:=l) (m:=n) (x:=c) hl (Nat.le_refl _) X.sl.le
 have hx:=X.len
 rw [encs_drop] at this
 rw [List.take_of_length_le] at this
 ·exact this
 ·rw [encs_length,List.length_drop];omega
theorem CoreX.pushE {T:TypeId} {LP:Heap→Nat→Nat→LG→Prop} [Moves LP] {h8 h11 h12:Heap} {p o oo:Nat} {c:CoreM} {cx:CX} (ap:Apart o oo) (q:CoreX T LP h8 p o oo c cx) {en:EH} {a11:Option Addr} {c11:Nat}
  (t11:KeepT (oo,1) h8 h11) (ow:Own h11 (oo,1) 59 a11 (cx.ox.oe.n+1) c11 4 (encs cx.ox.es++en.cells)) (m:en.Mine h8 (oo,2)) (hn:en.n≤1200) (t12:KeepT (o,0) h11 h12)
  (k12:h12 p=some (row (o,0) (coreCells {c with out:={c.out with entries:=c.out.entries++[en.abs]}} {cx with ox:={cx.ox with oe:=⟨a11,cx.ox.oe.n+1,c11⟩,es:=cx.ox.es++[en]}}) T)) :
  CoreX T LP h12 p o oo {c with out:={c.out with entries:=c.out.entries++[en.abs]}} {cx with ox:={cx.ox with oe:=⟨a11,cx.ox.oe.n+1,c11⟩,es:=cx.ox.es++[en]}}:=by
 have ne1:∀ r:Nat,((o,r):Tag)≠(oo,1):=fun r c=>ap.a (congrArg Prod.fst c)
 have neo:∀ r s:Nat,((oo,r):Tag)≠(o,s):=fun r s c=>ap.a (congrArg Prod.fst c).symm
 refine ⟨k12,(q.sd.keepT t11 (ne1 3)).keepT t12 (by simp),KeepT.log (Moves.move q.log fun _ t _ ht e=>t11 _ _ _ (fun c=>by rw [c] at ht;exact ap.b ht.symm) e) t12,(q.rd.keepT t11 (ne1 4)).keepT t12 (by simp),?_⟩
 have go:∀ r:Nat,r≠1→∀ b y,h8 b=some ((oo,r),y)→h12 b=some ((oo,r),y):=fun r hr b y e=>t12.get (neo r 0) (t11.get (fun c=>hr (congrArg Prod.snd c)) e)
 have o8:=q.out
 refine ⟨o8.od.move fun _ _ e=>go 6 (by decide) _ _ e,?_,?_,?_,?_,o8.op.move fun _ _ e=>go 3 (by decide) _ _ e,fun i y hy=>(o8.ps i y hy).move fun b t z ht hr e=>?_,o8.pa,o8.qr.move fun _ _ e=>go 7 (by decide) _ _ e⟩
 ·have:=ow.keepT t12 (neo 1 0)
  rw [show encs (cx.ox.es++[en])=encs cx.ox.es++en.cells by simp [encs]]
  exact this
 ·intro y hy
  rcases List.mem_append.1 hy with hy | hy
  ·exact Own.move (o8.ed y hy) fun _ _ e=>go 2 (by decide) _ _ e
  ·rw [List.mem_singleton.1 hy]
   exact Own.move m fun _ _ e=>go 2 (by decide) _ _ e
 ·simp only [List.map_append,List.map_cons,List.map_nil,o8.ea]
 ·intro y hy
  rcases List.mem_append.1 hy with hy | hy
  ·exact o8.es y hy
  ·rw [List.mem_singleton.1 hy];exact hn
 ·obtain ⟨t1,t2⟩:=t
  simp only at ht hr;subst ht
  exact go t2 (by omega) b z e
theorem CoreX.set' {T:TypeId} {LP:Heap→Nat→Nat→LG→Prop} [Moves LP] {h h':Heap} {p o oo:Nat} {c c':CoreM} {x:CX} (k:CoreX T LP h p o oo c x) (ho:o≠oo) (t:KeepT (o,0) h h') (e:h' p=some (row (o,0) (coreCells c' x) T))
  (h2:c'.snap.data=c.snap.data:=by rfl) (h4:c'.log=c.log:=by rfl) (h6:c'.reads=c.reads:=by rfl)
  (h8:c'.out.snap.data=c.out.snap.data:=by rfl) (h9:c'.out.entries=c.out.entries:=by rfl) (h10:c'.out.posts=c.out.posts:=by rfl) (h11:c'.out.reads=c.out.reads:=by rfl) :
  CoreX T LP h' p o oo c' x:=by
 have q:=k.out.keepT ho t
 refine ⟨e,by rw [h2];exact k.sd.keepT t (by simp),by rw [h4];exact KeepT.log k.log t,by rw [h6];exact k.rd.keepT t (by simp),?_⟩
 exact ⟨by rw [h8];exact q.od,q.oe,q.ed,by rw [h9];exact q.ea,q.es,q.op,q.ps,by rw [h10];exact q.pa,by rw [h11];exact q.qr⟩
structure AIf (x:Post→Env→Heap→Prop) (K:Env→Heap→Prop) (Q:Post) (e:Env) (h:Heap):Prop where
  of ::
  out:∃ J:Env→Heap→Prop,x (thenP J Q) e h∧∀ e h,J e h→K e h
theorem AIf.go {x:Post→Env→Heap→Prop} {K:Env→Heap→Prop} {Q:Post} {e:Env} {h:Heap} (k:x (thenP K Q) e h):AIf x K Q e h:=⟨⟨K,k,fun _ _ j=>j⟩⟩
theorem AIf.cut {x:Post→Env→Heap→Prop} {K:Env→Heap→Prop} {Q:Post} {e:Env} {h:Heap} (J:Env→Heap→Prop) (k:x (thenP J Q) e h) (g:∀ e h,J e h→K e h):AIf x K Q e h:=⟨⟨J,k,g⟩⟩
def meets:Code→Bool
  | .cond _ _ _=>true
  | .region _ ops d=>d || ops.toList.any fun o=>o.guard.isSome
  | .seq _ y=>meets y
  | .block _ x=>meets x
  | _=>false
def AJ (P:Program) (n:Nat):Code→Post→Env→Heap→Prop
  | .skip,Q,e,h=>Q .normal e h
  | .region _ ops draw,Q,e,h=>bif draw then ADrawn P n ops Q e h else AList P n ops Q ops.toList e h
  | .seq x y,Q,e,h=>bif meets x then AIf (AJ P n x) (AJ P n y Q) Q e h else AJ P n x (thenP (AJ P n y Q) Q) e h
  | .cond c x y,Q,e,h=>match e.ev c with
    | .bool t=>bif t then AJ P n x Q e h else AJ P n y Q e h
    | _=>False
  | .block id x,Q,e,h=>AJ P n x (blockP id Q) e h
  | .loop x,Q,e,h=>ALoop (AJ P n x) Q e h
  | .exit id,Q,e,h=>Q (.exit id) e h
  | .label _,Q,e,h=>Q .normal e h
  | .goto l,Q,e,h=>Q (.goto l) e h
  | .ret,Q,e,h=>Q .ret e h
  | _,_,_,_=>False
theorem AJ_wp {P:Program} {n:Nat} {β:Base} (hm:P.follows .mixedOrders=true):∀ (c:Code) (Q:Post) (e:Env) (h:Heap) (a:Act) (w:World),
  AJ P n c Q e h→Fits n e a→RelB β h w→c.wp P (lift β n Q) a w:=by
 intro c
 induction c with
 | skip=>intro Q e h a w k f r;exact wp_skip ⟨e,h,f,r,k⟩
 | region id ops draw =>
  intro Q e h a w k f r
  cases draw with
  | true=>exact ADrawn_wp hm k f r
  | false=>exact wp_region_list (AList_wp ops.toList e h a w k f r)
 | seq x y ihx ihy =>
  intro Q e h a w k f r
  have two:∀ J:Env→Heap→Prop,AJ P n x (thenP J Q) e h→(∀ e h,J e h→AJ P n y Q e h)→(Code.seq x y).wp P (lift β n Q) a w:=fun J k1 k2=>by
   refine wp_seq (wp_mono (ihx _ e h a w k1 f r) fun z a' w' q=>?_)
   cases z with
   | panic c=>exact q.elim
   | outgrown=>exact q.elim
   | normal=>obtain ⟨e',h',f',r',k'⟩:=q;exact ihy Q e' h' a' w' (k2 _ _ k') f' r'
   | _=>exact q
  unfold AJ at k
  cases hm:meets x with
  | true =>
   rw [hm] at k
   obtain ⟨⟨J,k1,k2⟩⟩:=k
   exact two J k1 k2
  | false =>
   rw [hm] at k
   exact two _ k fun _ _ j=>j
 | cond c x y ihx ihy =>
  intro Q e h a w k f r
  unfold AJ at k
  split at k
  ·rename_i t ht
   refine wp_cond (t:=t) (by rw [f.eval];exact ht) ?_
   cases t with
   | true=>exact ihx Q e h a w k f r
   | false=>exact ihy Q e h a w k f r
  ·exact k.elim
 | block id x ih =>
  intro Q e h a w k f r
  refine wp_block (wp_mono (ih _ e h a w k f r) fun z a' w' q=>?_)
  cases z with
  | panic c=>exact q.elim
  | outgrown=>exact q.elim
  | exit i =>
   obtain ⟨e',h',f',r',k'⟩:=q
   simp only [Exit.inBlock]
   by_cases hi:i=id
   ·subst hi
    rw [if_pos rfl]
    simp only [blockP,Nat.beq_refl,cond_true] at k'
    exact ⟨e',h',f',r',k'⟩
   ·rw [if_neg hi]
    have hb:Nat.beq i id=false:=by
     cases hh:Nat.beq i id with
     | false=>rfl
     | true=>exact absurd (Nat.eq_of_beq_eq_true hh) hi
    simp only [blockP,hb,cond_false] at k'
    exact ⟨e',h',f',r',k'⟩
  | _=>exact q
 | loop x ih =>
  intro Q e h a w k f r
  obtain ⟨⟨I,μ,h0,round⟩⟩:=k
  refine wp_loop (fun a w=>∃ e h,Fits n e a∧RelB β h w∧I e h) (fun a _=>μ (fun t=>a.tmps.getD t undef)) ⟨e,h,f,r,h0⟩ ?_
  rintro a w ⟨e,h,f,r,hI⟩
  refine wp_mono (ih _ e h a w (round e h hI) f r) fun z a' w' q=>?_
  cases z with
  | panic c=>exact q.elim
  | outgrown=>exact q.elim
  | normal =>
   obtain ⟨e',h',f',r',k',hlt⟩:=q
   refine ⟨⟨e',h',f',r',k'⟩,?_⟩
   have e1:(fun t=>a.tmps.getD t undef)=e:=funext f.getD
   have e2:(fun t=>a'.tmps.getD t undef)=e':=funext f'.getD
   simp only [e1,e2]
   exact hlt
  | _=>exact q
 | exit id=>intro Q e h a w k f r;exact wp_exit ⟨e,h,f,r,k⟩
 | label l=>intro Q e h a w k f r;exact wp_label ⟨e,h,f,r,k⟩
 | goto l=>intro Q e h a w k f r;exact wp_goto ⟨e,h,f,r,k⟩
 | ret=>intro Q e h a w k f r;exact wp_ret ⟨e,h,f,r,k⟩
 | rangeFunc=>intro Q e h a w k f r;exact k.elim
 | scope=>intro Q e h a w k f r;exact k.elim
 | refuse=>intro Q e h a w k f r;exact k.elim
theorem acalls_ofj {P:Program} {f:FuncId} {fn:Func} {c:Code} {args:Array Value} {h:Heap} {R:Value→Heap→Prop} (hm:P.follows .mixedOrders=true)
  (hf : P.funcs[f]? = some fn) (hb : fn.body = some c) (hnm : (fn.name == "runtime.NumGoroutine") = false) {n : Nat} (hn : fn.ntmps = n) {rs : List ResultVar} (hrs : fn.results = rs.toArray) (hsz : Nat.ble args.size n = true)
  (k:AJ P n c (ABody P rs R) (env0 args) h):ACalls P f args h R:=by
 subst hn
 obtain rfl:fn.results.toList=rs:=by rw [hrs]
 have hsz:=Nat.le_of_ble_eq_true hsz
 refine ⟨⟨fn,hf,by rw [hb];rfl,hnm⟩,fun β w hr=>calls_of_wp hf hb ?_⟩
 have f0:Fits fn.ntmps (env0 args) {tmps:=args++Array.replicate (fn.ntmps-args.size) undef,defers:=[]}:=by
  refine ⟨by simp;omega,?_,?_,rfl⟩
  ·intro t ht
   simp only [env0]
   by_cases hlt:t<args.size
   ·rw [Array.getElem?_append_left hlt]
    simp [hlt]
   ·rw [Array.getElem?_append_right (by omega)]
    have:args.getD t undef=undef:=by simp [hlt]
    rw [this,Array.getElem?_replicate,if_pos (by omega)]
  ·intro t ht
   simp only [env0]
   have:¬ t<args.size:=by omega
   simp [this]
 refine wp_mono (AJ_wp hm c _ _ h _ w k f0 hr) fun x a w' q=>?_
 cases x with
 | panic c=>exact q.elim
 | outgrown=>exact q.elim
 | exit id=>obtain ⟨e,h',f',r',k'⟩:=q;exact k'.elim
 | goto id=>obtain ⟨e,h',f',r',k'⟩:=q;exact k'.elim
 | normal =>
  obtain ⟨e,h',f',r',k'⟩:=q
  obtain ⟨v,kv,hv⟩:=ARes_sound (fn:=fn) (K:=fun v=>R v h') f' k'
  exact ⟨f'.defers,v,hv w' r'.rel,v,h',rfl,r',kv⟩
 | ret =>
  obtain ⟨e,h',f',r',k'⟩:=q
  obtain ⟨v,kv,hv⟩:=ARes_sound (fn:=fn) (K:=fun v=>R v h') f' k'
  exact ⟨f'.defers,v,hv w' r'.rel,v,h',rfl,r',kv⟩
theorem Ents.keeps {h h':Heap} {t td:Tag} {os:List Nat} {a:Option Addr} {n c:Nat} {es:List EH} (X:Ents h t td a n c es) (k:Keeps os h h') (h1:t.1∉os) (h2:td.1∉os):Ents h' t td a n c es :=
 ⟨X.sl.keeps k h1,fun e he=>Sl.keeps (X.good e he) k h2,X.small⟩
set_option maxHeartbeats 16000000 in
theorem append_any {h:Heap} {p o oo:Nat} {c:CoreM} (ap:Apart o oo) (k:PCore h p o oo c) (lk:LogOk c) (x:PH) (g:Given h o oo x) (hx0:0≤x.index) (hx1:x.index≤9007199254740991) (he:x.es.length≤8) (hsm:∀ e∈x.es,e.n≤1200)
  (hroom:(c.log.es.length+8)*48≤140737488355328) (hoe:c.out.entries.length≤1000000) (hp:c.out.posts.length≤1000000000) :
  ACalls PR 138 #[Ptr p, .agg x.cells.toArray] h (fun v h'=>v = .tuple #[]∧PCore h' p o oo (c.append x.abs)∧Keeps [o,o+1,oo] h h'):=by
 obtain ⟨cx,k⟩:=k
 have hlo:=lk.lo.lo
 have htop:=lk.lo.top
 have hlast:=lk.lo.last
 obtain ⟨⟨t1,t2,t3,ok,tn1,tn2,tn3⟩,hby,_,_,hn1⟩:=g
 have hxl:x.es.length=x.e.n:=ok.len.1
 rw [CoreM.append_eq]
 refine acalls_ofj mix Tryz.func138 rfl rfl Tryz.ntmps138 Tryz.results138 rfl ?_;conv=>whnf
 refine ABox.mkN (0,1) ([Ptr p]) rfl fun b2 h1 n1 s1 k1=>?_;conv=>whnf
 refine ABox.mkN (0,1) (x.cells) rfl fun b3 h2 n2 s2 k3=>?_;conv=>whnf
 have k2:=s2 _ _ k1
 have q:=k.sub (s1.trans s2)
 have X2:=ok.es.sub (s1.trans s2)
 have s12:=s1.trans s2
 clear s1 s2 k1 n1 n2
 obtain ⟨stop,hstop⟩:∃ stop:Int,stop=x.index+x.e.n:=⟨_,rfl⟩
 refine ALoad.one rfl k3 rfl ?_
 refine ALoad.one rfl k3 rfl ?_;conv=>whnf
 refine AArith.ok (by omega) (by omega) (rfl) ?_;conv=>whnf
 rw [← hstop]
 refine AIf.go ?_;conv=>whnf
 refine ADrawn.mk (h2) [] (Sub.refl _) (by decide +kernel) ?_;conv=>whnf
 refine ALoad.one rfl k3 rfl ?_
 refine ALoad.one rfl k3 rfl ?_
 refine ALoad.one rfl k3 rfl ?_;conv=>whnf
 obtain ⟨li,hli⟩:∃ li,li=aIndex c x.abs:=⟨_,rfl⟩
 obtain ⟨lt,hlt⟩:∃ lt,lt=aTerm c x.abs:=⟨_,rfl⟩
 obtain ⟨LL,hLL⟩:∃ LL,LL=aList c x.abs:=⟨_,rfl⟩
 have hlb:0≤li∧li≤9007199254740992:=by
  have:x.abs.index=x.index:=rfl
  rw [hli];unfold aIndex;split <;> omega
 rw [← hli,← hlt,← hLL]
 refine AIf.cut (fun e h'=>∃ (e0:Env) (la:Option Addr) (ln lc:Nat) (les:List EH),e=updL 184 e0 [(2,Ptr b2),(3,Ptr b3),(4,I stop),(5,I li),(6,I lt),(7, .slice la ln lc)]∧h2=h'∧Ents h2 t1 t2 la ln lc les∧les.map EH.abs=LL∧(∀ e∈les,e.n≤1200)∧ln≤8) ?_ ?_
 ·conv=>whnf
  refine ALoad.one rfl k2 rfl ?_
  refine ALoad.one rfl q.str rfl ?_;conv=>whnf
  refine ACalls.mono (First_c q.log lk.lo) ?_;rintro _ _ ⟨rfl,rfl⟩;conv=>whnf
  refine AArith.ok (r':=c.log.bi) (by omega) (by omega) (by omega) ?_;conv=>whnf
  by_cases c1:x.index<c.log.bi
  ·refine ACmp.yes (c1) ?_;conv=>whnf
   rw [show aIndex c x.abs=c.log.bi from if_pos c1] at hli
   rw [show aTerm c x.abs=c.log.bt from if_pos c1] at hlt
   rw [show aList c x.abs=(x.es.map EH.abs).drop (c.log.bi-x.index).toNat from if_pos c1] at hLL
   obtain ⟨kd,hkd⟩:∃ kd:Nat,kd=if (c.log.bi-x.index).toNat<x.e.n then (c.log.bi-x.index).toNat else x.e.n:=⟨_,rfl⟩
   have hkd1:kd≤x.e.n:=by rw [hkd];split <;> omega
   have hdrop:(x.es.map EH.abs).drop (c.log.bi-x.index).toNat=(x.es.drop kd).map EH.abs:=by
    rw [← List.map_drop,hkd]
    split
    ·rfl
    ·rw [List.drop_of_length_le (by omega),List.drop_of_length_le (by omega)]
   rw [hdrop] at hLL
   refine AArith.ok (by omega) (by omega) (rfl) ?_;conv=>whnf
   refine AInt.as (show _=(kd:Int) from ?_) ?_
   ·rw [hkd];split <;> split <;> omega
   conv=>whnf
   refine ASlc.from (z:=4) (l:=kd) rfl hkd1 X2.sl.le rfl rfl ?_;conv=>whnf
   refine ALoad.one rfl k2 rfl ?_
   refine ALoad.one rfl q.str rfl ?_;conv=>whnf
   refine ACalls.mono (Term_c q.log lk.lo c.log.bi) ?_;rintro _ _ ⟨rfl,rfl⟩;conv=>whnf
   rw [show (c.log.term c.log.bi).1=c.log.bt by unfold LG.term;rw [if_pos rfl],← hli,← hlt]
   exact ⟨_,_,_,_,_,updL_self ⟨rfl,rfl,rfl,rfl,rfl,rfl,trivial⟩,rfl,X2.from hkd1,hLL.symm,fun e he=>hsm e (List.mem_of_mem_drop he),by omega⟩
  ·refine ACmp.no (c1) ?_;conv=>whnf
   rw [show aIndex c x.abs=x.index from if_neg c1] at hli
   rw [show aTerm c x.abs=x.logTerm from if_neg c1] at hlt
   rw [show aList c x.abs=x.es.map EH.abs from if_neg c1] at hLL
   rw [← hli,← hlt]
   exact ⟨_,_,_,_,_,updL_self ⟨rfl,rfl,rfl,rfl,rfl,rfl,trivial⟩,rfl,X2,hLL.symm,hsm,by omega⟩
 rintro e _ ⟨e1,la,ln,lc,les,rfl,rfl,XL,hLe,hls,hl8⟩
 have hll:les.length=ln:=XL.len
 clear hli hlt hLL
 subst hLe
 conv=>whnf
 refine AIf.go ?_;conv=>whnf
 obtain ⟨R,hR⟩:∃ R,R=(!c.has li lt || headLow lt (les.map EH.abs)):=⟨_,rfl⟩
 refine AIf.cut (fun e h'=>∃ e0:Env,e=updL 184 e0 [(2,Ptr b2),(3,Ptr b3),(4,I stop),(5,I li),(6,I lt),(7, .slice la ln lc),(76, .bool R)]∧h2=h') ?_ ?_
 ·conv=>whnf
  refine ALoad.one rfl k2 rfl ?_
  refine ALoad.one rfl q.str rfl ?_;conv=>whnf
  have hcall:ACalls PR 122 #[Ptr cx.log,I li,I lt] h2 (fun v h'=>v = .bool (c.has li lt)∧h2=h'):=Has_c q.log lk.lo li lt
  cases hh:c.has li lt with
  | false =>
   rw [hh] at hcall hR
   refine ACalls.mono (hcall) ?_;rintro _ _ ⟨rfl,rfl⟩;conv=>whnf
   exact ⟨_,updL_self ⟨rfl,rfl,rfl,rfl,rfl,rfl,congrArg Value.bool hR.symm,trivial⟩,rfl⟩
  | true =>
   rw [hh] at hcall hR
   refine ACalls.mono (hcall) ?_;rintro _ _ ⟨rfl,rfl⟩;conv=>whnf
   by_cases hln:ln=0
   ·refine ACmp.no ((by omega)) ?_;conv=>whnf
    rw [List.length_eq_zero_iff.1 (by omega:les.length=0)] at hR
    exact ⟨_,updL_self ⟨rfl,rfl,rfl,rfl,rfl,rfl,congrArg Value.bool hR.symm,trivial⟩,rfl⟩
   ·refine ACmp.yes ((by omega)) ?_;conv=>whnf
    obtain ⟨y0,hy0⟩:∃ y,les[0]? = some y:=⟨les[0]'(by omega),by simp⟩
    obtain ⟨yr,hyr⟩:∃ r,les=y0::r:=by
     cases hc:les with
     | nil=>rw [hc] at hy0;simp at hy0
     | cons z r=>rw [hc] at hy0;simp at hy0;exact ⟨r,by rw [hy0]⟩
    have hhl:headLow lt (les.map EH.abs)=decide (y0.term<lt):=by rw [hyr];rfl
    rw [hhl] at hR
    obtain ⟨bg,og,lg,Eg,fzg,ega,hbg,hcg⟩:=XL.sl.pos (by omega)
    have gi:lg[og+0*4]? = some (I y0.term):=by
     rw [get_of_take hcg (by omega)]
     exact encs_get hy0 (show 0<4 by omega)
    subst ega
    refine AIdx.nat (n:=ln) (z:=4) (j:=0) rfl (by omega) rfl rfl ?_;conv=>whnf
    refine ALoad.one rfl hbg gi ?_;conv=>whnf
    refine ACmp.dec ?_;conv=>whnf
    exact ⟨_,updL_self ⟨rfl,rfl,rfl,rfl,rfl,rfl,congrArg Value.bool hR.symm,trivial⟩,rfl⟩
 rintro e _ ⟨e2,rfl,rfl⟩
 cases R with
 | true =>
  rw [if_pos (by
   cases hh:c.has li lt with
   | false=>exact .inl rfl
   | true=>rw [hh] at hR;exact .inr hR.symm)]
  conv=>whnf
  refine ALoad.one rfl k2 rfl ?_
  refine ALoad.one rfl q.str rfl ?_;conv=>whnf
  refine ACalls.mono (Last_c q.log lk.lo) ?_;rintro _ _ ⟨rfl,rfl⟩;conv=>whnf
  refine ALoad.one rfl k2 rfl ?_
  refine ALoad.one rfl k3 rfl ?_;conv=>whnf
  refine AArith.ok (by omega) (by omega) (rfl) ?_;conv=>whnf
  refine AInt.as (rfl) ?_;conv=>whnf
  refine ALoad.one rfl k3 rfl ?_;conv=>whnf
  refine ACalls.mono (say_any ap.a ap.b ap.c ap.d ⟨_,q⟩ x.src {post1 with kind:=4,index:=(if c.log.last.1<li-1 then c.log.last.1 else li-1),hint:=x.hint} (made0 rfl rfl rfl rfl) hp) ?_;rintro _ hB ⟨rfl,kB,kkB⟩;conv=>whnf
  exact ⟨rfl,kB,(s12.keeps _).trans (kkB.mono (by simp))⟩
 | false =>
 rw [if_neg (by
  have:=hR.symm
  rw [Bool.or_eq_false_iff,Bool.not_eq_false'] at this
  rw [this.1,this.2];simp)]
 conv=>whnf
 have A:AsksE 180 [Ptr b2] les (fun e => !c.has e.index e.term) h2:=by
  intro e he h' s
  refine acalls_pure (acalls_of mix Tryz.func180 rfl rfl Tryz.ntmps180 Tryz.results180 rfl ?_);conv=>whnf
  refine ABox.mkN (0,1) (e.cells) rfl fun b5 h5 n5 s5 k5=>?_;conv=>whnf
  refine ADrawn.mk (h5) [] (Sub.refl _) (by decide +kernel) ?_;conv=>whnf
  refine ALoad.one rfl (s5 _ _ (s _ _ k2)) rfl ?_
  refine ALoad.one rfl (s5 _ _ (s _ _ q.str)) rfl ?_
  refine ALoad.one rfl k5 rfl ?_
  refine ALoad.one rfl k5 rfl ?_;conv=>whnf
  refine ACalls.mono (Has_c (q.sub (s.trans s5)).log lk.lo e.index e.term) ?_;rintro _ _ ⟨rfl,rfl⟩;conv=>whnf
  refine ⟨Sub.refl _,?_⟩;conv=>whnf
  exact ⟨rfl,s5⟩
 refine ACalls.mono (IndexFuncE_any A XL (by omega)) ?_
 rintro v _ ⟨⟨kf,hkf,hpf,hk⟩,rfl⟩
 have hfr:c.log.fresh (les.map EH.abs)=(les.map EH.abs).drop kf:=fresh_of (fun j e hj hje=>by
   rw [List.getElem?_map] at hje
   cases hz:les[j]? with
   | none=>rw [hz] at hje;cases hje
   | some z =>
    rw [hz] at hje;cases hje
    have:=hpf j z hj hz
    show c.has z.index z.term=true
    simpa using this) (by
   rcases hk with ⟨hkn,_,e0,he0,hP⟩ | ⟨hkn,_⟩
   ·exact .inr ⟨e0.abs,by rw [List.getElem?_map,he0];rfl,by show c.has e0.index e0.term=false;simpa using hP⟩
   ·exact .inl (by rw [List.length_map];omega))
 obtain ⟨iv,rfl,hkk⟩:∃ iv:Int,v=I iv∧((kf<ln∧iv=kf∧∃ e0,les[kf]? = some e0∧(!c.has e0.index e0.term)=true)∨(kf=ln∧iv = -1)):=by
  rcases hk with ⟨a,b,d⟩ | ⟨a,b⟩
  ·exact ⟨kf,b, .inl ⟨a,rfl,d⟩⟩
  ·exact ⟨-1,b, .inr ⟨a,rfl⟩⟩
 conv=>whnf
 refine AIf.cut (fun e h'=>∃ (e0:Env) (cxd:CX),e=updL 184 e0 [(2,Ptr b2),(3,Ptr b3),(4,I stop)]∧CoreX 81 LA h' p o oo (c.appendRest (les.map EH.abs)) cxd∧Keeps [o,o+1,oo] h h'∧h' b2=some (row (0,1) [Ptr p] 27)∧h' b3=some (row (0,1) x.cells 49)) ?_ ?_
 ·conv=>whnf
  rcases hkk with ⟨hkn,rfl,e0,he0,hP⟩ | ⟨hkn,rfl⟩
  ·refine ACmp.yes ((by omega)) ?_;conv=>whnf
   refine ASlc.from (z:=4) (l:=kf) rfl (by omega) XL.sl.le rfl rfl ?_;conv=>whnf
   have XF:=XL.from (l:=kf) (by omega)
   generalize slBase la kf lc 4=fa at XF ⊢
   obtain ⟨fn,hfn⟩:∃ fn,fn=ln-kf:=⟨_,rfl⟩
   obtain ⟨fc,hfc⟩:∃ fc,fc=lc-kf:=⟨_,rfl⟩
   obtain ⟨fes,hfes⟩:∃ fes,fes=les.drop kf:=⟨_,rfl⟩
   rw [← hfn,← hfc,← hfes] at XF
   rw [← hfn,← hfc]
   have hfl:fes.length=fn:=XF.len
   have hfs:∀ y∈fes,y.n≤1200:=fun y hy=>hls y (by rw [hfes] at hy;exact List.mem_of_mem_drop hy)
   have he0':fes[0]? = some e0:=by rw [hfes,List.getElem?_drop,Nat.add_zero];exact he0
   obtain ⟨fr,hfr2⟩:∃ r,fes=e0::r:=by
    cases fes with
    | nil=>simp at he0'
    | cons z r=>simp at he0';exact ⟨r,by rw [he0']⟩
   have hfr3:c.log.fresh (les.map EH.abs)=e0.abs::fr.map EH.abs:=by rw [hfr,← List.map_drop,← hfes,hfr2];rfl
   have hfr4:fes.map EH.abs=e0.abs::fr.map EH.abs:=by rw [hfr2];rfl
   obtain ⟨bg,og,lg,Eg,fzg,ega,hbg,hcg⟩:=XF.sl.pos (by omega)
   have gi:lg[og+0*4+1]? = some (I e0.index):=by
    rw [Nat.add_assoc,get_of_take hcg (by omega),encs_get he0' (by omega)];rfl
   have hcut:c.cutAt e0.abs=if e0.index≤c.log.last.1 then {c with log:=(c.log.cut e0.index).2,out:={c.out with cut:=e0.index}} else c:=rfl
   obtain ⟨DCv,hDC⟩:∃ D:CoreM,D=c.cutAt e0.abs:=⟨_,rfl⟩
   have hrc:c.appendRest (les.map EH.abs)={({DCv with log:=(DCv.log.append (fes.map EH.abs)).2}:CoreM) with out:={({DCv with log:=(DCv.log.append (fes.map EH.abs)).2}:CoreM).out with entries:=({DCv with log:=(DCv.log.append (fes.map EH.abs)).2}:CoreM).out.entries++fes.map EH.abs}}:=by
    rw [appendRest_cons hfr3,hDC,hfr4]
   refine AIf.cut (fun e h'=>∃ e0:Env,e=updL 184 e0 [(2,Ptr b2),(3,Ptr b3),(4,I stop),(12, .slice fa fn fc)]∧CoreX 81 LA h' p o oo DCv cx∧Keeps [o,o+1,oo] h2 h') ?_ ?_
   ·conv=>whnf
    refine ALoad.one rfl k2 rfl ?_
    refine ALoad.one rfl q.str rfl ?_;conv=>whnf
    refine ACalls.mono (Last_c q.log lk.lo) ?_;rintro _ _ ⟨rfl,rfl⟩;conv=>whnf
    rw [ega]
    refine AIdx.nat (n:=fn) (z:=4) (j:=0) rfl (by omega) rfl rfl ?_;conv=>whnf
    refine ALoad.one rfl hbg gi ?_;conv=>whnf
    by_cases cl:e0.index≤c.log.last.1
    ·refine ACmp.yes (cl) ?_;conv=>whnf
     rw [if_pos cl,← hDC] at hcut
     refine AIf.go ?_;conv=>whnf
     refine ADrawn.mk (h2) [8] (Sub.refl _) (by decide +kernel) ?_;conv=>whnf
     refine ALoad.one rfl k2 rfl ?_
     refine ALoad.one rfl q.str rfl ?_;conv=>whnf
     refine AIdx.nat (n:=fn) (z:=4) (j:=0) rfl (by omega) rfl rfl ?_;conv=>whnf
     refine ALoad.one rfl hbg gi ?_;conv=>whnf
     refine ACalls.mono (Cut_c q.log lk.lo e0.index) ?_;rintro _ h3 ⟨rfl,l3,kk3⟩;conv=>whnf
     have k23:=kk3.get (by simp) k2
     have q3:=kk3.get (by simp) q.str
     have hbg3:=kk3.get (fun c=>tn1 (by rw [c];simp)) hbg
     refine ADrawn.mk (h3) [8] (Sub.refl _) (by decide +kernel) ?_;conv=>whnf
     refine ALoad.one rfl k23 rfl ?_;conv=>whnf
     refine AIdx.nat (n:=fn) (z:=4) (j:=0) rfl (by omega) rfl rfl ?_;conv=>whnf
     refine ALoad.one rfl hbg3 gi ?_;conv=>whnf
     refine AStore.oneN rfl rfl rfl (q3) rfl (coreCells {c with log:=(c.log.cut e0.index).2,out:={c.out with cut:=e0.index}} cx) rfl fun h4 t4 k4 a4 e4=>?_;conv=>whnf
     rw [hcut]
     refine ⟨_,updL_self ⟨rfl,rfl,rfl,rfl,trivial⟩,⟨k4,(q.sd.move fun b y e=>kk3.get (by simp) e).keepT t4 (by simp),KeepT.log l3 t4,(q.rd.move fun b y e=>kk3.get (by simp) e).keepT t4 (by simp),?_⟩,(kk3.keeps (by simp)).trans (t4.keep.keeps (by simp))⟩
     have z:=(q.out.move fun b t y ht e=>kk3 _ _ _ (by rw [ht];exact ap.b.symm) e:OutOk h3 oo c.out cx.ox).keepT ap.a t4
     exact ⟨z.od,z.oe,z.ed,z.ea,z.es,z.op,z.ps,z.pa,z.qr⟩
    ·refine ACmp.no (cl) ?_;conv=>whnf
     rw [if_neg cl,← hDC] at hcut
     rw [hcut]
     exact ⟨_,updL_self ⟨rfl,rfl,rfl,rfl,trivial⟩,q,Keeps.refl _ _⟩
   rintro e h4 ⟨e3,rfl,q4,KK24⟩
   have KK4:Keeps [o,o+1,oo] h h4:=(s12.keeps _).trans KK24
   have K24:=KK24 _ _ _ (show (0:Nat)∉[o,o+1,oo] by have:=ap.c;have:=ap.d;simp;omega) k2
   have K34:=KK24 _ _ _ (show (0:Nat)∉[o,o+1,oo] by have:=ap.c;have:=ap.d;simp;omega) k3
   have XF4:=XF.keeps KK24 tn1 tn2
   have hcs:DCv.log.es.length≤c.log.es.length∧LOk DCv.log∧DCv.out.posts.length≤1000000000∧DCv.out.entries.length≤1000000:=by
    rw [hDC,hcut]
    split
    ·refine ⟨?_,lk.lo.cut _,hp,hoe⟩
     simp only [LG.cut];split
     ·simp only [List.length_take];omega
     ·exact Nat.le_refl _
    ·exact ⟨Nat.le_refl _,lk.lo,hp,hoe⟩
   obtain ⟨hcl,lk4,hpc,hec⟩:=hcs
   clear hcut hDC
   conv=>whnf
   refine ALoad.one rfl K24 rfl ?_
   refine ALoad.one rfl q4.str rfl ?_;conv=>whnf
   have hfn8:fn≤8:=by omega
   refine ACalls.mono (Append_c (by omega:o+1≠0) q4.log lk4 (t:=t1) (td:=t2) (fun c=>tn1 (by rw [c];simp)) (fun c=>tn2 (by rw [c];simp)) XF4 (by omega)) ?_;rintro _ h5 ⟨rfl,l5,kk5⟩;conv=>whnf
   have k25:=kk5.get (by simp) K24
   have k35:=kk5.get (by simp) K34
   have q5':=kk5.get (by simp) q4.str
   obtain ⟨d2,hd2⟩:∃ d2:CoreM,d2={DCv with log:=(DCv.log.append (fes.map EH.abs)).2}:=⟨_,rfl⟩
   have q5:CoreX 81 LA h5 p o oo d2 cx:=by
    rw [hd2]
    exact ⟨q5',q4.sd.move fun b y e=>kk5.get (by simp) e,l5,q4.rd.move fun b y e=>kk5.get (by simp) e,q4.out.move fun b t y ht e=>kk5 _ _ _ (by rw [ht];exact ap.b.symm) e⟩
   have KK5:Keeps [o,o+1,oo] h h5:=KK4.trans (kk5.keeps (by simp))
   have X5:=XF4.keeps (kk5.keeps (by simp):Keeps [o,o+1,oo] _ h5) tn1 tn2
   have ho2:d2.out=DCv.out:=by rw [hd2]
   refine ALoop.mk (fun e h'=>∃ e0,∃ j:Nat,∃ cj:CX,e=updL 184 e0 [(2,Ptr b2),(3,Ptr b3),(4,I stop),(141, .slice fa fn fc),(142,I fn),(143,I j)]∧j≤fn ∧
     CoreX 81 LA h' p o oo {d2 with out:={d2.out with entries:=d2.out.entries++(fes.take j).map EH.abs}} cj∧Keeps [o,o+1,oo] h h'∧h' b2=some (row (0,1) [Ptr p] 27)∧h' b3=some (row (0,1) x.cells 49)∧Ents h' t1 t2 fa fn fc fes) (fun e=>fn-natOf (e 143))
    ⟨_,0,cx,updL_self ⟨rfl,rfl,rfl,rfl,rfl,rfl,trivial⟩,by omega,by rw [List.take_zero,List.map_nil,List.append_nil];exact q5,KK5,k25,k35,X5⟩ ?_
   rintro e h6 ⟨e0,j,cj,rfl,hj,q6,KK6,k26,k36,X6⟩
   conv=>whnf
   by_cases hjn:j<fn
   ·refine ACmp.yes (by omega) ?_;conv=>whnf
    refine AIf.go ?_;conv=>whnf
    refine AIf.go ?_;conv=>whnf
    obtain ⟨y,hy⟩:∃ y,fes[j]? = some y:=⟨fes[j]'(by omega),by simp⟩
    have my:=List.mem_of_getElem? hy
    have hyn:y.n≤1200:=hfs y my
    obtain ⟨bf,off,lf,Ef,fzf,efa,hbf,hcf⟩:=X6.sl.pos (by omega)
    have g0:(lf.drop (off+j*4)).take 4=y.cells:=by rw [part_of_take hcf (by omega),encs_part hy]
    subst efa
    refine AIdx.nat (z:=4) (j:=j) rfl hjn rfl rfl ?_;conv=>whnf
    refine ALoad.agg rfl hbf g0 rfl ?_;conv=>whnf
    refine AAlloc.mkN (0,1) (entry0z) rfl fun b16 h7 n7 s7 k7=>?_;conv=>whnf
    refine AStore.aggN rfl rfl rfl (k7) rfl (y.cells) rfl fun h8 t8 k8 a8 e8=>?_;conv=>whnf
    have s68:Sub h6 h8:=a8 h6 s7 n7
    refine ALoad.one rfl k8 rfl ?_;conv=>whnf
    refine ACalls.mono (cloneB_any h8 (oo,2) (Sl.sub (X6.good y my) s68) (by omega)) ?_
    rintro v h9 ⟨a',c',rfl,ow9,s9⟩
    conv=>whnf
    refine AStore.oneN rfl rfl rfl ((s9 _ _ k8)) rfl ([I y.term,I y.index,I y.kind, .slice a' y.n c']) rfl fun h10 t10 k10 a10 e10=>?_;conv=>whnf
    have s610:Sub h6 h10:=a10 h6 (s68.trans s9) n7
    have ow10:=ow9.keepT t10 (fun c=>ap.d (congrArg Prod.fst c))
    obtain ⟨en,hen⟩:∃ en:EH,en=⟨y.term,y.index,y.kind,a',y.n,c',y.data⟩:=⟨_,rfl⟩
    have hea:en.abs=y.abs:=by rw [hen];rfl
    have hnn:en.n≤1200:=by rw [hen];exact hyn
    rw [show [I y.term,I y.index,I y.kind,Value.slice a' y.n c']=en.cells by rw [hen];rfl] at k10
    have m10:en.Mine h10 (oo,2):=by rw [hen];exact ow10
    have q10:=q6.sub s610
    have k210:=s610 _ _ k26
    have k310:=s610 _ _ k36
    have hel2:cj.ox.es.length=(DCv.out.entries++(fes.take j).map EH.abs).length:=by
     have e:cj.ox.es.map EH.abs=d2.out.entries++(fes.take j).map EH.abs:=q6.out.ea
     rw [← ho2,← e,List.length_map]
    have hel:cj.ox.es.length=cj.ox.oe.n:=by
     have:=q6.out.oe.sl.len
     rw [encs_length] at this;omega
    have hel3:cj.ox.oe.n≤1000008:=by
     rw [← hel,hel2,List.length_append,List.length_map,List.length_take];omega
    clear t8 a8 e8 k7 n7 s7 t10 a10 e10 k8
    refine ADrawn.mk ((few h10 [b2,p,b16])) [12] (few_sub _ _) (by decide +kernel) ?_;conv=>whnf
    refine ALoad.one rfl ((few_at (by simp)).trans k210) rfl ?_
    refine ALoad.one rfl ((few_at (by simp)).trans k210) rfl ?_
    refine ALoad.one rfl ((few_at (by simp)).trans q10.str) rfl ?_
    refine ALoad.agg rfl ((few_at (by simp)).trans k10) rfl rfl ?_;conv=>whnf
    refine ABuildSl.mkN (0,1) en.cells rfl rfl rfl rfl rfl rfl (by rw [hen];rfl) fun b17 h11 n11 s11 k11=>?_;conv=>whnf
    refine ⟨(few_sub _ _).trans s11,?_⟩;conv=>whnf
    refine AAppend.own (t:=(oo,1)) (E:=59) (z:=4) (by_:=48) (zero:=entry0z) (tx:=(0,1)) (xs:=en.cells) rfl ⟨_,rfl⟩ rfl rfl rfl rfl (by omega) (q10.out.oe.move fun _ _ e=>s11 _ _ e)
     ⟨rfl,Nat.le_refl _, .inr ⟨b17,0,_,_,_,rfl,k11,rfl⟩⟩ (by rw [hen];rfl) (by omega) (by omega) fun a12 c12 h12 ow12 t12 _=>?_
    conv=>whnf
    have p12:=t12.get (u:=(o,0)) (fun c=>ap.a (congrArg Prod.fst c)) (s11 _ _ q10.str)
    have e12:=t12.get (u:=(0,1)) (fun c=>ap.d (congrArg Prod.fst c).symm) (s11 _ _ k10)
    have k212:=t12.get (u:=(0,1)) (fun c=>ap.d (congrArg Prod.fst c).symm) (s11 _ _ k210)
    have k312:=t12.get (u:=(0,1)) (fun c=>ap.d (congrArg Prod.fst c).symm) (s11 _ _ k310)
    refine ⟨few_get fun z hz w hw=>?_,?_⟩
    ·simp only [List.mem_cons,List.not_mem_nil,or_false] at hz
     rcases hz with rfl | rfl | rfl
     ·rw [k210] at hw;cases hw;exact k212
     ·rw [q10.str] at hw;cases hw;exact p12
     ·rw [k10] at hw;cases hw;exact e12
    conv=>whnf
    refine AStore.oneN rfl rfl rfl (p12) rfl (coreCells {({d2 with out:={d2.out with entries:=d2.out.entries++(fes.take j).map EH.abs}}:CoreM) with out:={({d2 with out:={d2.out with entries:=d2.out.entries++(fes.take j).map EH.abs}}:CoreM).out with entries:=({d2 with out:={d2.out with entries:=d2.out.entries++(fes.take j).map EH.abs}}:CoreM).out.entries++[en.abs]}} {cj with ox:={cj.ox with oe:=⟨a12,cj.ox.oe.n+1,c12⟩,es:=cj.ox.es++[en]}}) rfl fun h13 t13 k13 a13 e13=>?_;conv=>whnf
    have q13:=CoreX.pushE ap (q10.sub s11) t12 ow12 (Own.sub m10 s11) hnn t13 k13
    have KK13:Keeps [o,o+1,oo] h6 h13:=((s610.trans s11).keeps _).trans ((t12.keep.keeps (by simp)).trans (t13.keep.keeps (by simp)))
    have hsucc:d2.out.entries++(fes.take j).map EH.abs++[en.abs]=d2.out.entries++(fes.take (j+1)).map EH.abs:=by
     rw [List.take_succ_eq_append_getElem (show j<fes.length by omega),(List.getElem?_eq_some_iff.1 hy).2,List.map_append,List.append_assoc,hea];rfl
    simp only [hsucc] at q13
    refine AArith.ok (by omega) (by omega) ((by omega:(j:Int)+1=((j+1:Nat):Int))) ?_;conv=>whnf
    refine ⟨⟨_,j+1,_,updL_self ⟨rfl,rfl,rfl,rfl,rfl,rfl,trivial⟩,by omega,q13,KK6.trans KK13,t13.get (tag_ne ap.c) k212,t13.get (tag_ne ap.c) k312,X6.keeps KK13 tn1 tn2⟩,?_⟩
    show fn-(j+1)<fn-j
    omega
   ·refine ACmp.no (by omega) ?_;conv=>whnf
    refine AIf.go ?_;conv=>whnf
    obtain rfl:j=fn:=by omega
    rw [List.take_of_length_le (by omega)] at q6
    obtain ⟨DDv,hDD⟩:∃ D:CoreM,D={d2 with out:={d2.out with entries:=d2.out.entries++fes.map EH.abs}}:=⟨_,rfl⟩
    rw [← hDD] at q6
    exact ⟨_,cj,updL_self ⟨rfl,rfl,rfl,trivial⟩,by rw [hrc,← hd2,← hDD];exact q6,KK6,k26,k36⟩
  ·refine ACmp.no ((by omega)) ?_;conv=>whnf
   rw [appendRest_nil (hfr.trans (by rw [hkn,List.drop_of_length_le (by rw [List.length_map];omega)]))]
   exact ⟨_,cx,updL_self ⟨rfl,rfl,rfl,trivial⟩,q,s12.keeps _,k2,k3⟩
 rintro e h6 ⟨e3,cxd,rfl,qd,KKD,kd2,kd3⟩
 have hpd:(c.appendRest (les.map EH.abs)).out.posts.length≤1000000000:=by
  have:(c.appendRest (les.map EH.abs)).out.posts=c.out.posts:=by
   unfold CoreM.appendRest
   split
   ·rfl
   ·simp only [];split <;> rfl
  rw [this];exact hp
 obtain ⟨DD,hDD⟩:∃ DD,DD=c.appendRest (les.map EH.abs):=⟨_,rfl⟩
 rw [← hDD] at qd hpd
 conv=>whnf
 refine AIf.go ?_;conv=>whnf
 refine ADrawn.mk (h6) [12] (Sub.refl _) (by decide +kernel) ?_;conv=>whnf
 refine ALoad.one rfl kd2 rfl ?_
 refine ALoad.one rfl kd2 rfl ?_
 refine ALoad.one rfl qd.str rfl ?_
 refine ALoad.one rfl kd3 rfl ?_;conv=>whnf
 refine AInt.as (rfl) ?_;conv=>whnf
 refine AInt.as (rfl) ?_;conv=>whnf
 refine AStore.oneN rfl rfl rfl (qd.str) rfl (coreCells {DD with commit:=if DD.commit<(if stop<x.commit then stop else x.commit) then (if stop<x.commit then stop else x.commit) else DD.commit} cxd) rfl fun hY tY kY aY eY=>?_;conv=>whnf
 have qY:=qd.set' ap.a tY kY
 have kY2:=tY.get (tag_ne ap.c) kd2
 have kY3:=tY.get (tag_ne ap.c) kd3
 refine ALoad.one rfl kY2 rfl ?_
 refine ALoad.one rfl kY3 rfl ?_
 refine ALoad.one rfl kY3 rfl ?_;conv=>whnf
 refine ACalls.mono (say_any ap.a ap.b ap.c ap.d ⟨_,qY⟩ x.src {post1 with kind:=4,ok:=true,index:=stop,hint:=x.hint} (made0 rfl rfl rfl rfl) hpd) ?_;rintro _ hZ ⟨rfl,kZ,kkZ⟩;conv=>whnf
 refine ⟨rfl,?_,KKD.trans ((tY.keep.keeps (by simp)).trans (kkZ.mono (by simp)))⟩
 have hst:x.abs.index+(x.abs.entries.length:Int)=stop:=by rw [hstop,← hxl];simp [PH.abs]
 unfold CoreM.appendOk
 rw [← hDD]
 simp only [hst]
 exact kZ
theorem Five.get_set (f:Five) (n m v:Int) (h1:1≤m) (h2:m≤5):(f.set n v).get m=if m=n then v else f.get m:=by
 have:m=1∨m=2∨m=3∨m=4∨m=5:=by omega
 rcases this with rfl | rfl | rfl | rfl | rfl <;> simp [Five.set,Five.get,eq_comm]
theorem rank_more (c:CoreM):c.rank.log=c.log∧c.rank.snap=c.snap∧c.rank.self=c.self∧c.rank.out=c.out∧(c.rank.next=c.next∨c.rank.next=five0)∧(c.rank.state=2→c.rank.next=c.next)∧(c.rank.reads=c.reads∨c.rank.reads=[]):=by
 rw [CoreM.rank_eq]
 unfold CoreM.ranked
 split
 ·exact ⟨rfl,rfl,rfl,rfl, .inl rfl,fun _=>rfl, .inl rfl⟩
 ·split
  ·exact ⟨rfl,rfl,rfl,rfl, .inr rfl,(fun h=>by cases h), .inr rfl⟩
  ·exact ⟨rfl,rfl,rfl,rfl, .inl rfl,fun _=>rfl, .inl rfl⟩
def CoreM.told1 (c:CoreM) (p:PostM):CoreM:={c with heard:=c.heard.set p.src (maxI (c.heard.get p.src) p.hint)}
def CoreM.told2 (c:CoreM) (p:PostM):CoreM:={c.told1 p with mtch:=c.mtch.set p.src (maxI (c.mtch.get p.src) (minI p.index c.log.last.1))}
def CoreM.told3 (c:CoreM) (p:PostM):CoreM:={c.told2 p with next:=c.next.set p.src (maxI (c.next.get p.src) ((c.told2 p).mtch.get p.src+1))}
def CoreM.told4 (c:CoreM) (p:PostM):CoreM:={c.told1 p with next:=c.next.set p.src (maxI (minI (c.next.get p.src-1) (p.index+1)) (c.mtch.get p.src+1))}
theorem CoreM.told_yes {c:CoreM} {p:PostM} (h:p.ok=true∨p.kind=6):c.told p=(if (c.told3 p).rank.state=2∧(c.told3 p).rank.next.get p.src≤c.log.last.1 then (c.told3 p).rank.send p.src else (c.told3 p).rank).confirm:=by
 unfold CoreM.told;simp only [];rw [if_pos h];rfl
theorem CoreM.told_no {c:CoreM} {p:PostM} (h:¬(p.ok=true∨p.kind=6)):c.told p=((c.told4 p).send p.src).confirm:=by
 unfold CoreM.told;simp only [];rw [if_neg h];rfl
set_option maxHeartbeats 8000000 in
theorem told_any {h:Heap} {p o oo:Nat} {c:CoreM} (ap:Apart o oo) (k:PCore h p o oo c) (lk:LogOk c) (nk:NextOk c) (mk:MtchOk c) (hs1:1≤c.self) (hs2:c.self≤5) (x:PH) (hx1:1≤x.src) (hx2:x.src≤5)
  (hi0:0≤x.index) (hi1:x.index≤9007199254740991) (hro:c.out.reads=[]) (hrl:c.reads.length≤100000000) (hp:c.out.posts.length≤999999990) :
  ACalls PR 139 #[Ptr p, .agg x.cells.toArray] h (fun v h'=>v = .tuple #[]∧PCore h' p o oo (c.told x.abs)∧Keeps [o,o+1,oo] h h'):=by
 obtain ⟨cx,k⟩:=k
 have hlast:=lk.lo.last
 have htop:=lk.lo.top
 have hlo:=lk.lo.lo
 obtain ⟨m,hm⟩:∃ m:Nat,x.src=m:=⟨x.src.toNat,by omega⟩
 have hm2:x.src.toNat=m:=by omega
 refine acalls_of mix Tryz.func139 rfl rfl Tryz.ntmps139 Tryz.results139 rfl ?_;conv=>whnf
 refine ABox.mkN (0,1) (x.cells) rfl fun b3 h1 n1 s1 k1=>?_;conv=>whnf
 have q:=k.sub s1
 refine ALoad.one rfl k1 rfl ?_;conv=>whnf
 refine ADrawn.mk (h1) [16] (Sub.refl _) (by decide +kernel) ?_;conv=>whnf
 refine AIdxA.nat (n:=6) (z:=1) (j:=m) (by omega) (by omega) rfl rfl ?_;conv=>whnf
 refine ALoad.one rfl q.str (by have:=heard_cell c cx hx1 hx2;rw [show 0+14+13+m*1=27+x.src.toNat by omega];exact this) ?_
 refine ALoad.one rfl k1 rfl ?_;conv=>whnf
 refine AInt.as (show _=maxI (c.heard.get x.src) x.hint from rfl) ?_;conv=>whnf
 refine AIdxA.nat (n:=6) (z:=1) (j:=m) (by omega) (by omega) rfl rfl ?_;conv=>whnf
 refine AStore.oneN rfl rfl rfl q.str (by have:=heard_cell c cx hx1 hx2;rw [show 0+14+13+m*1=27+x.src.toNat by omega];exact Nat.ble_eq_true_of_le (List.getElem?_eq_some_iff.1 this).1) (coreCells (c.told1 x.abs) cx) (by rw [show 0+14+13+m*1=27+x.src.toNat by omega];exact heard_set c cx hx1 hx2 _) fun h2 t2 k2 a2 e2=>?_;conv=>whnf
 have q2:=q.set' (c':=c.told1 x.abs) ap.a t2 k2
 have k12:=t2.get (tag_ne ap.c) k1
 have kk2:Keeps [o,o+1,oo] h h2:=(s1.keeps _).trans (t2.keep.keeps (by simp))
 obtain ⟨c1,hc1⟩:∃ c1,c1=c.told1 x.abs:=⟨_,rfl⟩
 have f1:c1.log=c.log:=by rw [hc1];rfl
 have f2:c1.mtch=c.mtch:=by rw [hc1];rfl
 have f3:c1.next=c.next:=by rw [hc1];rfl
 rw [← hc1] at q2
 refine ALoad.one rfl q2.str rfl ?_;conv=>whnf
 refine ACalls.mono (Last_c q2.log (by rw [f1];exact lk.lo)) ?_;rintro _ _ ⟨rfl,rfl⟩;conv=>whnf
 rw [f1]
 refine ALoad.one rfl k12 rfl ?_;conv=>whnf
 cases hok:x.ok with
 | true =>
  conv=>whnf
  have HY:x.abs.ok=true∨x.abs.kind=6 := .inl hok
  refine ADrawn.mk (h2) [18] (Sub.refl _) (by decide +kernel) ?_;conv=>whnf
  refine AIdxA.nat (n:=6) (z:=1) (j:=m) (by omega) (by omega) rfl rfl ?_;conv=>whnf
  refine ALoad.one rfl q2.str (by have:=mtch_cell c1 cx hx1 hx2;rw [show 0+14+7+m*1=21+x.src.toNat by omega];exact this) ?_
  refine ALoad.one rfl k12 rfl ?_;conv=>whnf
  refine AInt.as (show _=minI x.index c.log.last.1 from rfl) ?_;conv=>whnf
  rw [f2]
  refine AInt.as (show _=maxI (c.mtch.get x.src) (minI x.index c.log.last.1) from rfl) ?_;conv=>whnf
  refine AIdxA.nat (n:=6) (z:=1) (j:=m) (by omega) (by omega) rfl rfl ?_;conv=>whnf
  refine AStore.oneN rfl rfl rfl q2.str (by have:=mtch_cell c1 cx hx1 hx2;rw [show 0+14+7+m*1=21+x.src.toNat by omega];exact Nat.ble_eq_true_of_le (List.getElem?_eq_some_iff.1 this).1) (coreCells (c.told2 x.abs) cx) (by rw [show 0+14+7+m*1=21+x.src.toNat by omega];rw [mtch_set c1 cx hx1 hx2 _,hc1];rfl) fun h3 t3 k3 a3 e3=>?_;conv=>whnf
  have q3:=q2.set' (c':=c.told2 x.abs) ap.a t3 k3 (by rw [hc1];rfl) (by rw [hc1];rfl) (by rw [hc1];rfl) (by rw [hc1];rfl) (by rw [hc1];rfl) (by rw [hc1];rfl) (by rw [hc1];rfl)
  have k13:=t3.get (tag_ne ap.c) k12
  have kk3:=kk2.trans (t3.keep.keeps (by simp):Keeps [o,o+1,oo] h2 h3)
  obtain ⟨c2,hc2⟩:∃ c2,c2=c.told2 x.abs:=⟨_,rfl⟩
  have g2:c2.next=c.next:=by rw [hc2];rfl
  have g3:c2.mtch.get x.src=maxI (c.mtch.get x.src) (minI x.index c.log.last.1):=by
   rw [hc2];show (c.mtch.set x.src _).get x.src=_
   rw [Five.get_set _ _ _ _ hx1 hx2,if_pos rfl];rfl
  have hmk:=mk x.src hx1 hx2
  have hnk:=nk x.src hx1 hx2
  have g4:0≤c2.mtch.get x.src∧c2.mtch.get x.src≤9007199254740991:=by
   rw [g3];unfold maxI minI;split <;> split <;> omega
  rw [← hc2] at q3
  refine ADrawn.mk (h3) [22] (Sub.refl _) (by decide +kernel) ?_;conv=>whnf
  refine AIdxA.nat (n:=6) (z:=1) (j:=m) (by omega) (by omega) rfl rfl ?_;conv=>whnf
  refine ALoad.one rfl q3.str (by have:=next_cell c2 cx hx1 hx2;rw [show 0+14+1+m*1=15+x.src.toNat by omega];exact this) ?_;conv=>whnf
  refine AIdxA.nat (n:=6) (z:=1) (j:=m) (by omega) (by omega) rfl rfl ?_;conv=>whnf
  refine ALoad.one rfl q3.str (by have:=mtch_cell c2 cx hx1 hx2;rw [show 0+14+7+m*1=21+x.src.toNat by omega];exact this) ?_;conv=>whnf
  refine AArith.ok (by omega) (by omega) (rfl) ?_;conv=>whnf
  rw [g2]
  refine AInt.as (show _=maxI (c.next.get x.src) (c2.mtch.get x.src+1) from rfl) ?_;conv=>whnf
  refine AIdxA.nat (n:=6) (z:=1) (j:=m) (by omega) (by omega) rfl rfl ?_;conv=>whnf
  refine AStore.oneN rfl rfl rfl q3.str (by have:=next_cell c2 cx hx1 hx2;rw [show 0+14+1+m*1=15+x.src.toNat by omega];exact Nat.ble_eq_true_of_le (List.getElem?_eq_some_iff.1 this).1) (coreCells (c.told3 x.abs) cx) (by rw [show 0+14+1+m*1=15+x.src.toNat by omega];rw [next_set c2 cx hx1 hx2 _,hc2];rfl) fun h4 t4 k4 a4 e4=>?_;conv=>whnf
  have q4:=q3.set' (c':=c.told3 x.abs) ap.a t4 k4 (by rw [hc2];rfl) (by rw [hc2];rfl) (by rw [hc2];rfl) (by rw [hc2];rfl) (by rw [hc2];rfl) (by rw [hc2];rfl) (by rw [hc2];rfl)
  have kk4:=kk3.trans (t4.keep.keeps (by simp):Keeps [o,o+1,oo] h3 h4)
  obtain ⟨c3,hc3⟩:∃ c3,c3=c.told3 x.abs:=⟨_,rfl⟩
  have lk3:LogOk c3:=by rw [hc3];exact lk.same rfl rfl
  have nk3:NextOk c3:=by
   intro n n1 n2
   have e:c3.next=c.next.set x.src (maxI (c.next.get x.src) (c2.mtch.get x.src+1)):=by rw [hc3,hc2];rfl
   rw [e,Five.get_set _ _ _ _ n1 n2]
   split
   ·unfold maxI;split <;> omega
   ·exact nk n n1 n2
  have p3:c3.out=c.out:=by rw [hc3];rfl
  have r3:c3.reads=c.reads:=by rw [hc3];rfl
  have l3:c3.log=c.log:=by rw [hc3];rfl
  have s3:c3.self=c.self:=by rw [hc3];rfl
  rw [CoreM.told_yes (p:=x.abs) HY,← hc3]
  rw [← hc3] at q4
  refine ACalls.mono (rank_any ap ⟨_,q4⟩ lk3 (by rw [s3];exact hs1) (by rw [s3];exact hs2)) ?_;rintro _ h5 ⟨rfl,⟨cx5,q5⟩,kk5⟩;conv=>whnf
  obtain ⟨rm1,rm2,rm3,rm4,rm5,rm6,rm7⟩:=rank_more c3
  have KK5:=kk4.trans (kk5.keeps (by simp):Keeps [o,o+1,oo] h4 h5)
  obtain ⟨d,hd⟩:∃ d,d=c3.rank:=⟨_,rfl⟩
  rw [← hd] at q5 rm1 rm2 rm3 rm4 rm5 rm6 rm7 ⊢
  have lkd:LogOk d:=lk3.same rm1 rm2
  have hrd:d.out.reads.length+d.reads.length≤1000000000:=by
   rw [rm4,p3,hro]
   rcases rm7 with e | e
   ·rw [e,r3];simp;omega
   ·rw [e];simp
  have sd:d.self=c.self:=rm3.trans s3
  refine ALoad.one rfl q5.str rfl ?_;conv=>whnf
  by_cases c5:d.state=2
  ·refine ACmp.yes (c5) ?_;conv=>whnf
   refine AIdxA.nat (n:=6) (z:=1) (j:=m) (by omega) (by omega) rfl rfl ?_;conv=>whnf
   refine ALoad.one rfl q5.str (by have:=next_cell d cx5 hx1 hx2;rw [show 0+14+1+m*1=15+x.src.toNat by omega];exact this) ?_;conv=>whnf
   by_cases c6:d.next.get x.src≤c.log.last.1
   ·refine ACmp.yes (c6) ?_;conv=>whnf
    rw [if_pos ⟨c5,c6⟩]
    have hn5:=nk3 x.src hx1 hx2
    rw [← rm6 c5] at hn5
    refine ACalls.mono (send_any ap ⟨_,q5⟩ lkd.lo hx1 hx2 hn5.1 hn5.2 (by rw [rm4,p3];omega) lkd.snap lkd.room) ?_;rintro _ h6 ⟨rfl,k6,kk6⟩;conv=>whnf
    obtain ⟨z1,z2,z3,z4⟩:=send_same d x.src
    obtain ⟨y1,y2,y3,y4,y5,y6,y7,y8⟩:=send_more d x.src
    have lk6:LogOk (d.send x.src):=lkd.same z1 z3
    have hrs:(d.send x.src).out.reads=d.out.reads:=by unfold CoreM.send;split <;> rfl
    have KK6:=KK5.trans (kk6.mono (by simp):Keeps [o,o+1,oo] h5 h6)
    have hr6:(d.send x.src).out.reads.length+(d.send x.src).reads.length≤1000000000:=by rw [hrs,y7];exact hrd
    have s6:(d.send x.src).self=c.self:=y1.trans sd
    refine ACalls.mono (confirm_any ap k6 lk6 (by rw [s6];exact hs1) (by rw [s6];exact hs2) hr6) ?_;rintro _ h7 ⟨rfl,k7,kk7⟩;conv=>whnf
    exact ⟨rfl,k7,KK6.trans (kk7.mono (by simp))⟩
   ·refine ACmp.no (c6) ?_;conv=>whnf
    rw [if_neg fun c=>c6 c.2]
    have k6:PCore h5 p o oo d:=⟨_,q5⟩
    refine ACalls.mono (confirm_any ap k6 lkd (by rw [sd];exact hs1) (by rw [sd];exact hs2) hrd) ?_;rintro _ h7 ⟨rfl,k7,kk7⟩;conv=>whnf
    exact ⟨rfl,k7,KK5.trans (kk7.mono (by simp))⟩
  ·refine ACmp.no (c5) ?_;conv=>whnf
   rw [if_neg fun c=>c5 c.1]
   have k6:PCore h5 p o oo d:=⟨_,q5⟩
   refine ACalls.mono (confirm_any ap k6 lkd (by rw [sd];exact hs1) (by rw [sd];exact hs2) hrd) ?_;rintro _ h7 ⟨rfl,k7,kk7⟩;conv=>whnf
   exact ⟨rfl,k7,KK5.trans (kk7.mono (by simp))⟩
 | false =>
  conv=>whnf
  refine ALoad.one rfl k12 rfl ?_;conv=>whnf
  by_cases ck:x.kind=6
  ·refine ACmp.yes (ck) ?_;conv=>whnf
   have HY:x.abs.ok=true∨x.abs.kind=6 := .inr ck
   refine ADrawn.mk (h2) [18] (Sub.refl _) (by decide +kernel) ?_;conv=>whnf
   refine AIdxA.nat (n:=6) (z:=1) (j:=m) (by omega) (by omega) rfl rfl ?_;conv=>whnf
   refine ALoad.one rfl q2.str (by have:=mtch_cell c1 cx hx1 hx2;rw [show 0+14+7+m*1=21+x.src.toNat by omega];exact this) ?_
   refine ALoad.one rfl k12 rfl ?_;conv=>whnf
   refine AInt.as (show _=minI x.index c.log.last.1 from rfl) ?_;conv=>whnf
   rw [f2]
   refine AInt.as (show _=maxI (c.mtch.get x.src) (minI x.index c.log.last.1) from rfl) ?_;conv=>whnf
   refine AIdxA.nat (n:=6) (z:=1) (j:=m) (by omega) (by omega) rfl rfl ?_;conv=>whnf
   refine AStore.oneN rfl rfl rfl q2.str (by have:=mtch_cell c1 cx hx1 hx2;rw [show 0+14+7+m*1=21+x.src.toNat by omega];exact Nat.ble_eq_true_of_le (List.getElem?_eq_some_iff.1 this).1) (coreCells (c.told2 x.abs) cx) (by rw [show 0+14+7+m*1=21+x.src.toNat by omega];rw [mtch_set c1 cx hx1 hx2 _,hc1];rfl) fun h3 t3 k3 a3 e3=>?_;conv=>whnf
   have q3:=q2.set' (c':=c.told2 x.abs) ap.a t3 k3 (by rw [hc1];rfl) (by rw [hc1];rfl) (by rw [hc1];rfl) (by rw [hc1];rfl) (by rw [hc1];rfl) (by rw [hc1];rfl) (by rw [hc1];rfl)
   have k13:=t3.get (tag_ne ap.c) k12
   have kk3:=kk2.trans (t3.keep.keeps (by simp):Keeps [o,o+1,oo] h2 h3)
   obtain ⟨c2,hc2⟩:∃ c2,c2=c.told2 x.abs:=⟨_,rfl⟩
   have g2:c2.next=c.next:=by rw [hc2];rfl
   have g3:c2.mtch.get x.src=maxI (c.mtch.get x.src) (minI x.index c.log.last.1):=by
    rw [hc2];show (c.mtch.set x.src _).get x.src=_
    rw [Five.get_set _ _ _ _ hx1 hx2,if_pos rfl];rfl
   have hmk:=mk x.src hx1 hx2
   have hnk:=nk x.src hx1 hx2
   have g4:0≤c2.mtch.get x.src∧c2.mtch.get x.src≤9007199254740991:=by
    rw [g3];unfold maxI minI;split <;> split <;> omega
   rw [← hc2] at q3
   refine ADrawn.mk (h3) [22] (Sub.refl _) (by decide +kernel) ?_;conv=>whnf
   refine AIdxA.nat (n:=6) (z:=1) (j:=m) (by omega) (by omega) rfl rfl ?_;conv=>whnf
   refine ALoad.one rfl q3.str (by have:=next_cell c2 cx hx1 hx2;rw [show 0+14+1+m*1=15+x.src.toNat by omega];exact this) ?_;conv=>whnf
   refine AIdxA.nat (n:=6) (z:=1) (j:=m) (by omega) (by omega) rfl rfl ?_;conv=>whnf
   refine ALoad.one rfl q3.str (by have:=mtch_cell c2 cx hx1 hx2;rw [show 0+14+7+m*1=21+x.src.toNat by omega];exact this) ?_;conv=>whnf
   refine AArith.ok (by omega) (by omega) (rfl) ?_;conv=>whnf
   rw [g2]
   refine AInt.as (show _=maxI (c.next.get x.src) (c2.mtch.get x.src+1) from rfl) ?_;conv=>whnf
   refine AIdxA.nat (n:=6) (z:=1) (j:=m) (by omega) (by omega) rfl rfl ?_;conv=>whnf
   refine AStore.oneN rfl rfl rfl q3.str (by have:=next_cell c2 cx hx1 hx2;rw [show 0+14+1+m*1=15+x.src.toNat by omega];exact Nat.ble_eq_true_of_le (List.getElem?_eq_some_iff.1 this).1) (coreCells (c.told3 x.abs) cx) (by rw [show 0+14+1+m*1=15+x.src.toNat by omega];rw [next_set c2 cx hx1 hx2 _,hc2];rfl) fun h4 t4 k4 a4 e4=>?_;conv=>whnf
   have q4:=q3.set' (c':=c.told3 x.abs) ap.a t4 k4 (by rw [hc2];rfl) (by rw [hc2];rfl) (by rw [hc2];rfl) (by rw [hc2];rfl) (by rw [hc2];rfl) (by rw [hc2];rfl) (by rw [hc2];rfl)
   have kk4:=kk3.trans (t4.keep.keeps (by simp):Keeps [o,o+1,oo] h3 h4)
   obtain ⟨c3,hc3⟩:∃ c3,c3=c.told3 x.abs:=⟨_,rfl⟩
   have lk3:LogOk c3:=by rw [hc3];exact lk.same rfl rfl
   have nk3:NextOk c3:=by
    intro n n1 n2
    have e:c3.next=c.next.set x.src (maxI (c.next.get x.src) (c2.mtch.get x.src+1)):=by rw [hc3,hc2];rfl
    rw [e,Five.get_set _ _ _ _ n1 n2]
    split
    ·unfold maxI;split <;> omega
    ·exact nk n n1 n2
   have p3:c3.out=c.out:=by rw [hc3];rfl
   have r3:c3.reads=c.reads:=by rw [hc3];rfl
   have l3:c3.log=c.log:=by rw [hc3];rfl
   have s3:c3.self=c.self:=by rw [hc3];rfl
   rw [CoreM.told_yes (p:=x.abs) HY,← hc3]
   rw [← hc3] at q4
   refine ACalls.mono (rank_any ap ⟨_,q4⟩ lk3 (by rw [s3];exact hs1) (by rw [s3];exact hs2)) ?_;rintro _ h5 ⟨rfl,⟨cx5,q5⟩,kk5⟩;conv=>whnf
   obtain ⟨rm1,rm2,rm3,rm4,rm5,rm6,rm7⟩:=rank_more c3
   have KK5:=kk4.trans (kk5.keeps (by simp):Keeps [o,o+1,oo] h4 h5)
   obtain ⟨d,hd⟩:∃ d,d=c3.rank:=⟨_,rfl⟩
   rw [← hd] at q5 rm1 rm2 rm3 rm4 rm5 rm6 rm7 ⊢
   have lkd:LogOk d:=lk3.same rm1 rm2
   have hrd:d.out.reads.length+d.reads.length≤1000000000:=by
    rw [rm4,p3,hro]
    rcases rm7 with e | e
    ·rw [e,r3];simp;omega
    ·rw [e];simp
   have sd:d.self=c.self:=rm3.trans s3
   refine ALoad.one rfl q5.str rfl ?_;conv=>whnf
   by_cases c5:d.state=2
   ·refine ACmp.yes (c5) ?_;conv=>whnf
    refine AIdxA.nat (n:=6) (z:=1) (j:=m) (by omega) (by omega) rfl rfl ?_;conv=>whnf
    refine ALoad.one rfl q5.str (by have:=next_cell d cx5 hx1 hx2;rw [show 0+14+1+m*1=15+x.src.toNat by omega];exact this) ?_;conv=>whnf
    by_cases c6:d.next.get x.src≤c.log.last.1
    ·refine ACmp.yes (c6) ?_;conv=>whnf
     rw [if_pos ⟨c5,c6⟩]
     have hn5:=nk3 x.src hx1 hx2
     rw [← rm6 c5] at hn5
     refine ACalls.mono (send_any ap ⟨_,q5⟩ lkd.lo hx1 hx2 hn5.1 hn5.2 (by rw [rm4,p3];omega) lkd.snap lkd.room) ?_;rintro _ h6 ⟨rfl,k6,kk6⟩;conv=>whnf
     obtain ⟨z1,z2,z3,z4⟩:=send_same d x.src
     obtain ⟨y1,y2,y3,y4,y5,y6,y7,y8⟩:=send_more d x.src
     have lk6:LogOk (d.send x.src):=lkd.same z1 z3
     have hrs:(d.send x.src).out.reads=d.out.reads:=by unfold CoreM.send;split <;> rfl
     have KK6:=KK5.trans (kk6.mono (by simp):Keeps [o,o+1,oo] h5 h6)
     have hr6:(d.send x.src).out.reads.length+(d.send x.src).reads.length≤1000000000:=by rw [hrs,y7];exact hrd
     have s6:(d.send x.src).self=c.self:=y1.trans sd
     refine ACalls.mono (confirm_any ap k6 lk6 (by rw [s6];exact hs1) (by rw [s6];exact hs2) hr6) ?_;rintro _ h7 ⟨rfl,k7,kk7⟩;conv=>whnf
     exact ⟨rfl,k7,KK6.trans (kk7.mono (by simp))⟩
    ·refine ACmp.no (c6) ?_;conv=>whnf
     rw [if_neg fun c=>c6 c.2]
     have k6:PCore h5 p o oo d:=⟨_,q5⟩
     refine ACalls.mono (confirm_any ap k6 lkd (by rw [sd];exact hs1) (by rw [sd];exact hs2) hrd) ?_;rintro _ h7 ⟨rfl,k7,kk7⟩;conv=>whnf
     exact ⟨rfl,k7,KK5.trans (kk7.mono (by simp))⟩
   ·refine ACmp.no (c5) ?_;conv=>whnf
    rw [if_neg fun c=>c5 c.1]
    have k6:PCore h5 p o oo d:=⟨_,q5⟩
    refine ACalls.mono (confirm_any ap k6 lkd (by rw [sd];exact hs1) (by rw [sd];exact hs2) hrd) ?_;rintro _ h7 ⟨rfl,k7,kk7⟩;conv=>whnf
    exact ⟨rfl,k7,KK5.trans (kk7.mono (by simp))⟩
  ·refine ACmp.no (ck) ?_;conv=>whnf
   rw [CoreM.told_no (p:=x.abs) (by show ¬(x.ok=true∨x.kind=6);rw [hok];simpa using ck)]
   have hmk:=mk x.src hx1 hx2
   have hnk:=nk x.src hx1 hx2
   refine ADrawn.mk (h2) [27] (Sub.refl _) (by decide +kernel) ?_;conv=>whnf
   refine AIdxA.nat (n:=6) (z:=1) (j:=m) (by omega) (by omega) rfl rfl ?_;conv=>whnf
   refine ALoad.one rfl q2.str (by have:=next_cell c1 cx hx1 hx2;rw [show 0+14+1+m*1=15+x.src.toNat by omega];exact this) ?_;conv=>whnf
   rw [f3]
   refine AArith.ok (by omega) (by omega) (rfl) ?_;conv=>whnf
   refine ALoad.one rfl k12 rfl ?_;conv=>whnf
   refine AArith.ok (by omega) (by omega) (rfl) ?_;conv=>whnf
   refine AInt.as (show _=minI (c.next.get x.src-1) (x.index+1) from rfl) ?_;conv=>whnf
   refine AIdxA.nat (n:=6) (z:=1) (j:=m) (by omega) (by omega) rfl rfl ?_;conv=>whnf
   refine ALoad.one rfl q2.str (by have:=mtch_cell c1 cx hx1 hx2;rw [show 0+14+7+m*1=21+x.src.toNat by omega];exact this) ?_;conv=>whnf
   rw [f2]
   refine AArith.ok (by omega) (by omega) (rfl) ?_;conv=>whnf
   refine AInt.as (show _=maxI (minI (c.next.get x.src-1) (x.index+1)) (c.mtch.get x.src+1) from rfl) ?_;conv=>whnf
   refine AIdxA.nat (n:=6) (z:=1) (j:=m) (by omega) (by omega) rfl rfl ?_;conv=>whnf
   refine AStore.oneN rfl rfl rfl q2.str (by have:=next_cell c1 cx hx1 hx2;rw [show 0+14+1+m*1=15+x.src.toNat by omega];exact Nat.ble_eq_true_of_le (List.getElem?_eq_some_iff.1 this).1) (coreCells (c.told4 x.abs) cx) (by rw [show 0+14+1+m*1=15+x.src.toNat by omega];rw [next_set c1 cx hx1 hx2 _,hc1];rfl) fun h3 t3 k3 a3 e3=>?_;conv=>whnf
   have q3:=q2.set' (c':=c.told4 x.abs) ap.a t3 k3 (by rw [hc1];rfl) (by rw [hc1];rfl) (by rw [hc1];rfl) (by rw [hc1];rfl) (by rw [hc1];rfl) (by rw [hc1];rfl) (by rw [hc1];rfl)
   have kk3:=kk2.trans (t3.keep.keeps (by simp):Keeps [o,o+1,oo] h2 h3)
   obtain ⟨d,hd⟩:∃ d,d=c.told4 x.abs:=⟨_,rfl⟩
   have lkd:LogOk d:=by rw [hd];exact lk.same rfl rfl
   have nkd:0≤d.next.get x.src∧d.next.get x.src≤9007199254740992:=by
    rw [hd];show 0≤(c.next.set x.src _).get x.src∧(c.next.set x.src _).get x.src≤_
    rw [Five.get_set _ _ _ _ hx1 hx2,if_pos rfl]
    show 0≤maxI (minI (c.next.get x.src-1) (x.index+1)) (c.mtch.get x.src+1)∧maxI (minI (c.next.get x.src-1) (x.index+1)) (c.mtch.get x.src+1)≤_
    unfold maxI minI;split <;> split <;> omega
   have pd:d.out=c.out:=by rw [hd];rfl
   have rd:d.reads=c.reads:=by rw [hd];rfl
   have sd:d.self=c.self:=by rw [hd];rfl
   rw [← hd] at q3 ⊢
   refine ACalls.mono (send_any ap ⟨_,q3⟩ lkd.lo hx1 hx2 nkd.1 nkd.2 (by rw [pd];omega) lkd.snap lkd.room) ?_;rintro _ h6 ⟨rfl,k6,kk6⟩;conv=>whnf
   obtain ⟨z1,z2,z3,z4⟩:=send_same d x.src
   obtain ⟨y1,y2,y3,y4,y5,y6,y7,y8⟩:=send_more d x.src
   have lk6:LogOk (d.send x.src):=lkd.same z1 z3
   have hrs:(d.send x.src).out.reads=d.out.reads:=by unfold CoreM.send;split <;> rfl
   have KK6:=kk3.trans (kk6.mono (by simp):Keeps [o,o+1,oo] h3 h6)
   have hr6:(d.send x.src).out.reads.length+(d.send x.src).reads.length≤1000000000:=by rw [hrs,y7,pd,rd,hro];simp;omega
   have s6:(d.send x.src).self=c.self:=y1.trans sd
   refine ACalls.mono (confirm_any ap k6 lk6 (by rw [s6];exact hs1) (by rw [s6];exact hs2) hr6) ?_;rintro _ h7 ⟨rfl,k7,kk7⟩;conv=>whnf
   exact ⟨rfl,k7,KK6.trans (kk7.mono (by simp))⟩
structure Checked (x:PH):Prop where
  k1:1≤x.kind
  k6:x.kind≤6
  s1:1≤x.src
  s2:x.src≤5
  d1:1≤x.dst
  d2:x.dst≤5
  tm:0≤x.term∧x.term≤9007199254740991
  ix:0≤x.index∧x.index≤9007199254740991
  cm:0≤x.commit∧x.commit≤9007199254740991
  hi:0≤x.hint∧x.hint≤9007199254740991
  el:x.es.length≤8
  en:∀ e∈x.es,e.data.length≤1200
  sn:x.kind=5→okBase x.si x.st=true∧x.data.length≤8192
theorem entriesMay_small {top:Int}:∀ (l:List Abs) (i t:Int),entriesMay top i t l=true→∀ e∈l,e.2.2.2.length≤1200
 | [],_,_,_,e,he=>by cases he
 | y::r,i,t,h,e,he=>by
  unfold entriesMay at h
  simp only [Bool.and_eq_true,decide_eq_true_eq] at h
  rcases List.mem_cons.1 he with rfl | he
  ·exact h.1.2
  ·exact entriesMay_small r _ _ h.2 e he
theorem check_facts {x:PH} (h:x.abs.check=true) (hst:x.kind=5→1≤x.st):Checked x:=by
 rw [check_eq] at h
 simp only [Bool.and_eq_true,decide_eq_true_eq,Bool.or_eq_true,numB,List.length_map] at h
 obtain ⟨⟨⟨⟨⟨⟨a1,a2⟩,b1,b2,b3,b4,b5⟩,⟨⟨⟨c1,c2⟩,c3⟩,c4⟩,c5,c6⟩,d⟩,e1,e2⟩,f⟩:=h
 refine ⟨a1,a2,b1,b2,b3,b4,c1,c2,c3,c4,e1,fun e he=>?_,fun h5=>?_⟩
 ·exact entriesMay_small _ _ _ e2 e.abs (List.mem_map_of_mem he)
 ·rcases f with f | f
  ·exact absurd h5 f
  ·rw [snapMay_eq] at f
   simp only [Bool.and_eq_true,decide_eq_true_eq] at f
   refine ⟨?_,f.2⟩
   have h1:isNum x.abs.snap.index=true:=isNum_iff.2 (by show 1≤x.si∧x.si≤9007199254740991;omega)
   have h2:isNum x.abs.snap.term=true:=isNum_iff.2 (by have:=hst h5;show 1≤x.st∧x.st≤9007199254740991;omega)
   unfold okBase
   rw [show isNum x.si=true from h1,show isNum x.st=true from h2];simp
theorem takes_facts {c:CoreM} {x:PH} (h:c.takes x.abs=true):Checked x:=by
 rw [takes_eq] at h
 simp only [Bool.and_eq_true,Bool.not_eq_true',Bool.or_eq_false_iff,Bool.and_eq_false_iff,decide_eq_false_iff_not] at h
 exact check_facts h.1.1.1.1 fun h5=>h.1.2.2.elim (fun c=>absurd h5 c) (fun c=>by omega)
theorem given_len {h:Heap} {o oo:Nat} {x:PH} (g:Given h o oo x) (e:EH) (he:e∈x.es):e.data.length=e.n:=by
 obtain ⟨⟨t1,t2,t3,ok,_⟩,_⟩:=g
 have:=(ok.es.good e he).len
 simpa [bytesV] using this
structure TOk (c:CoreM):Prop where
  lk:LogOk c
  nk:NextOk c
  mt:MtchOk c
  s1:1≤c.self
  s2:c.self≤5
  v1:0≤c.votes
  v2:c.votes<64
  es:c.log.es.length≤1000000000
  rd:c.reads.length≤100000000
  o1:c.out.reads=[]
  o2:c.out.entries=[]
  o3:c.out.posts=[]
theorem COk.t {c:CoreM} (k:COk c):TOk c:=⟨k.lk,k.nk,k.mt,k.s1,k.s2,k.v1,k.v2,k.es,k.rd,by rw [k.out];rfl,by rw [k.out];rfl,by rw [k.out];rfl⟩
theorem five0_get (n:Int):five0.get n=0:=by simp [five0,Five.get]
theorem TOk.learn {c:CoreM} (k:TOk c) (t:Int):TOk (c.learn t) :=
 ⟨k.lk.same rfl rfl,fun n _ _=>by show 0≤five0.get n∧five0.get n≤_;rw [five0_get];omega,fun n _ _=>by show 0≤five0.get n∧five0.get n≤_;rw [five0_get];omega,k.s1,k.s2,by show (0:Int)≤0;omega,by show (0:Int)<64;omega,k.es,by show ([]:List Int).length≤_;simp,k.o1,k.o2,k.o3⟩
def CoreM.heardOf (c:CoreM) (p:PostM) (draw:Int):CoreM:={c.follow with head:=p.src,quiet:=0,wait:=waits draw}
def CoreM.takeIn (c:CoreM) (p:PostM) (draw:Int):CoreM:=if p.term<c.term then c.refuse p else if c.term<p.term then (c.learn p.term).take1 p draw else c.take1 p draw
theorem CoreM.take_eq (c:CoreM) (p:PostM) (draw:Int):c.take p draw=if p.kind=1∧c.led=true then c else c.takeIn p draw:=rfl
set_option maxHeartbeats 8000000 in
theorem take_any {h:Heap} {p o oo:Nat} {c:CoreM} (ap:Apart o oo) (k:PCore h p o oo c) (ok:TOk c) (x:PH) (g:Given h o oo x) (ch:Checked x) (draw:Int) (hd0:0≤draw) :
  ACalls PR 63 #[Ptr p, .agg x.cells.toArray,I draw] h (fun v h'=>v = .tuple #[]∧PCore h' p o oo (c.takeIn x.abs draw)∧Keeps [o,o+1,oo] h h'):=by
 obtain ⟨cx,k⟩:=k
 have hxd:x.data.length=x.d.n:=g.ok.elim fun _ ⟨_,_,ok,_⟩=>ok.len.2
 refine acalls_of mix Tryz.func63 rfl rfl Tryz.ntmps63 Tryz.results63 rfl ?_;conv=>whnf
 refine ABox.mkN (0,1) (x.cells) rfl fun b4 h1 n1 s1 k4=>?_;conv=>whnf
 have q:=k.sub s1
 have g1:=g.sub s1
 refine ADrawn.mkO (h1) [] [0,1,2,3,4,5,6] (Sub.refl _) (by decide +kernel) ?_;conv=>whnf
 refine ALoad.one rfl k4 rfl ?_
 refine ALoad.one rfl q.str rfl ?_;conv=>whnf
 refine ACalls.mono (compare_any h1 x.term c.term) ?_;rintro _ _ ⟨rfl,rfl⟩;conv=>whnf
 refine ⟨Sub.refl _,?_⟩;conv=>whnf
 have K1:Keeps [o,o+1,oo] h h1:=s1.keeps _
 by_cases c1:x.term<c.term
 ·rw [show cmpI x.term c.term = -1 from if_pos c1]
  conv=>whnf
  refine ACmp.no ((by decide)) ?_;conv=>whnf
  refine ACmp.yes (rfl) ?_;conv=>whnf
  refine ALoad.agg rfl k4 rfl rfl ?_;conv=>whnf
  refine ACalls.mono (refuse_any ap ⟨_,q⟩ x (by rw [ok.o3];simp)) ?_;rintro _ h2 ⟨rfl,k2,kk2⟩;conv=>whnf
  refine ⟨rfl,?_,K1.trans (kk2.mono (by simp))⟩
  rw [show c.takeIn x.abs draw=c.refuse x.abs from if_pos c1];exact k2
 ·by_cases c2:c.term<x.term
  ·rw [show cmpI x.term c.term=1 from (if_neg c1).trans (if_pos c2)]
   conv=>whnf
   refine ACmp.yes (rfl) ?_;conv=>whnf
   refine ALoad.one rfl k4 rfl ?_;conv=>whnf
   refine ACalls.mono (learn_any ap.a ⟨_,q⟩ x.term) ?_;rintro _ h2 ⟨rfl,⟨cx2,k2⟩,kk2⟩;conv=>whnf
   have hres:c.takeIn x.abs draw=(c.learn x.term).take1 x.abs draw:=(if_neg c1).trans (if_pos c2)
   have k42:=kk2.get (Ne.symm ap.c) k4
   have KK2:=K1.trans (kk2.keeps (by simp):Keeps [o,o+1,oo] h1 h2)
   have ok2:=ok.learn x.term
   refine ALoad.one rfl k42 rfl ?_;conv=>whnf
   by_cases e1:x.kind=1
   ·refine ACmp.yes (e1) ?_;conv=>whnf
    refine ALoad.agg rfl k42 rfl rfl ?_;conv=>whnf
    refine ACalls.mono (asked_any ap ⟨_,k2⟩ ok2.lk.lo x draw hd0 (by rw [ok2.o3];simp)) ?_;rintro _ hz ⟨rfl,kz,kkz⟩;conv=>whnf
    refine ⟨rfl,?_,KK2.trans (kkz.mono (by simp))⟩
    rw [hres,show ((c.learn x.term)).take1 x.abs draw=((c.learn x.term)).asked x.abs draw from if_pos e1];exact kz
   refine ACmp.no (e1) ?_;conv=>whnf
   by_cases e2:x.kind=2
   ·refine ACmp.yes (e2) ?_;conv=>whnf
    refine ALoad.agg rfl k42 rfl rfl ?_;conv=>whnf
    refine ACalls.mono (voted_any ap ⟨_,k2⟩ ok2.lk ok2.s1 ok2.s2 ok2.v1 ok2.v2 x ch.s1 ch.s2 (by have:=ok2.es;omega) (by rw [ok2.o2];simp) (by rw [ok2.o3];simp)) ?_;rintro _ hz ⟨rfl,kz,kkz⟩;conv=>whnf
    refine ⟨rfl,?_,KK2.trans kkz⟩
    rw [hres,show ((c.learn x.term)).take1 x.abs draw=((c.learn x.term)).voted x.abs from (if_neg e1).trans (if_pos e2)];exact kz
   refine ACmp.no (e2) ?_;conv=>whnf
   by_cases e3:x.kind=3
   ·refine ACmp.yes (e3) ?_;conv=>whnf
    have E35:x.abs.kind=3∨x.abs.kind=5 := .inl e3
    refine ALoad.one rfl (k2).str rfl ?_;conv=>whnf
    by_cases s2:((c.learn x.term)).state=2
    ·refine ACmp.yes (s2) ?_;conv=>whnf
     refine ⟨rfl,?_,KK2⟩
     rw [hres,show ((c.learn x.term)).take1 x.abs draw=(c.learn x.term) from (if_neg e1).trans ((if_neg e2).trans ((if_pos E35).trans (if_pos s2)))];exact ⟨_,k2⟩
    refine ACmp.no (s2) ?_;conv=>whnf
    refine ACalls.mono (follow_any ap.a ⟨_,k2⟩) ?_;rintro _ hf ⟨rfl,⟨cxf,qf⟩,kkf⟩;conv=>whnf
    have k4f:=kkf.get (Ne.symm ap.c) k42
    refine ADrawn.mkO ((few hf [b4])) [9] [0,1,2,3,4,5,6,7,8,9,10,11,12,13,14,15] (few_sub _ _) (by decide +kernel) ?_;conv=>whnf
    refine ALoad.one rfl ((few_at (by simp)).trans k4f) rfl ?_;conv=>whnf
    refine ACalls.mono (waits_any hf draw hd0) ?_;rintro _ _ ⟨rfl,rfl⟩;conv=>whnf
    refine ⟨few_sub _ _,?_⟩;conv=>whnf
    refine AStore.oneN rfl rfl rfl (qf.str) rfl (coreCells {((c.learn x.term)).follow with head:=x.src} cxf) rfl fun hg tg kg ag eg=>?_;conv=>whnf
    refine AStore.oneN rfl rfl rfl (kg) rfl (coreCells {((c.learn x.term)).follow with head:=x.src,quiet:=0} cxf) rfl fun hh th kh ah eh=>?_;conv=>whnf
    refine ⟨(fun b y e=>by cases e),?_⟩;conv=>whnf
    refine AStore.oneN rfl rfl rfl (kh) rfl (coreCells (((c.learn x.term)).heardOf x.abs draw) cxf) rfl fun hi ti ki ai ei=>?_;conv=>whnf
    refine ⟨(fun b y e=>by cases e),?_⟩;conv=>whnf
    have tt:=tg.trans (th.trans ti)
    have qi:=qf.set' (c':=((c.learn x.term)).heardOf x.abs draw) ap.a tt ki
    have k4i:=tt.get (tag_ne ap.c) k4f
    have KI:=KK2.trans ((kkf.trans tt.keep).keeps (by simp))
    have gi:=g.keeps KI
    have lki:LogOk (((c.learn x.term)).heardOf x.abs draw):=ok2.lk.same rfl rfl
    refine ALoad.one rfl k4i rfl ?_;conv=>whnf
    refine ACmp.no ((by rw [e3];decide)) ?_;conv=>whnf
    refine ALoad.agg rfl k4i rfl rfl ?_;conv=>whnf
    refine ACalls.mono (append_any ap ⟨_,qi⟩ lki x gi ch.ix.1 ch.ix.2 ch.el (fun e he=>by have:=ch.en e he;have hl:=given_len g e he;omega) (by have:=ok2.es;show (((c.learn x.term)).log.es.length+8)*48≤_;omega) (by show ((c.learn x.term)).out.entries.length≤_;rw [ok2.o2];simp) (by show ((c.learn x.term)).out.posts.length≤_;rw [ok2.o3];simp)) ?_;rintro _ hz ⟨rfl,kz,kkz⟩;conv=>whnf
    refine ⟨rfl,?_,KI.trans kkz⟩
    rw [hres,show ((c.learn x.term)).take1 x.abs draw=(((c.learn x.term)).heardOf x.abs draw).append x.abs from (if_neg e1).trans ((if_neg e2).trans ((if_pos E35).trans ((if_neg s2).trans (if_neg (by show ¬ x.kind=5;rw [e3];decide)))))];exact kz
   refine ACmp.no (e3) ?_;conv=>whnf
   by_cases e5:x.kind=5
   ·refine ACmp.yes (e5) ?_;conv=>whnf
    have E35:x.abs.kind=3∨x.abs.kind=5 := .inr e5
    refine ALoad.one rfl (k2).str rfl ?_;conv=>whnf
    by_cases s2:((c.learn x.term)).state=2
    ·refine ACmp.yes (s2) ?_;conv=>whnf
     refine ⟨rfl,?_,KK2⟩
     rw [hres,show ((c.learn x.term)).take1 x.abs draw=(c.learn x.term) from (if_neg e1).trans ((if_neg e2).trans ((if_pos E35).trans (if_pos s2)))];exact ⟨_,k2⟩
    refine ACmp.no (s2) ?_;conv=>whnf
    refine ACalls.mono (follow_any ap.a ⟨_,k2⟩) ?_;rintro _ hf ⟨rfl,⟨cxf,qf⟩,kkf⟩;conv=>whnf
    have k4f:=kkf.get (Ne.symm ap.c) k42
    refine ADrawn.mkO ((few hf [b4])) [9] [0,1,2,3,4,5,6,7,8,9,10,11,12,13,14,15] (few_sub _ _) (by decide +kernel) ?_;conv=>whnf
    refine ALoad.one rfl ((few_at (by simp)).trans k4f) rfl ?_;conv=>whnf
    refine ACalls.mono (waits_any hf draw hd0) ?_;rintro _ _ ⟨rfl,rfl⟩;conv=>whnf
    refine ⟨few_sub _ _,?_⟩;conv=>whnf
    refine AStore.oneN rfl rfl rfl (qf.str) rfl (coreCells {((c.learn x.term)).follow with head:=x.src} cxf) rfl fun hg tg kg ag eg=>?_;conv=>whnf
    refine AStore.oneN rfl rfl rfl (kg) rfl (coreCells {((c.learn x.term)).follow with head:=x.src,quiet:=0} cxf) rfl fun hh th kh ah eh=>?_;conv=>whnf
    refine ⟨(fun b y e=>by cases e),?_⟩;conv=>whnf
    refine AStore.oneN rfl rfl rfl (kh) rfl (coreCells (((c.learn x.term)).heardOf x.abs draw) cxf) rfl fun hi ti ki ai ei=>?_;conv=>whnf
    refine ⟨(fun b y e=>by cases e),?_⟩;conv=>whnf
    have tt:=tg.trans (th.trans ti)
    have qi:=qf.set' (c':=((c.learn x.term)).heardOf x.abs draw) ap.a tt ki
    have k4i:=tt.get (tag_ne ap.c) k4f
    have KI:=KK2.trans ((kkf.trans tt.keep).keeps (by simp))
    have gi:=g.keeps KI
    have lki:LogOk (((c.learn x.term)).heardOf x.abs draw):=ok2.lk.same rfl rfl
    refine ALoad.one rfl k4i rfl ?_;conv=>whnf
    refine ACmp.yes (e5) ?_;conv=>whnf
    refine ALoad.agg rfl k4i rfl rfl ?_;conv=>whnf
    obtain ⟨hob,hdl⟩:=ch.sn e5
    refine ACalls.mono (install_any ap ⟨_,qi⟩ lki.lo x gi hob (by omega) (by have:=ok2.es;show ((c.learn x.term)).log.es.length*48≤_;omega) (by show ((c.learn x.term)).out.posts.length≤_;rw [ok2.o3];simp)) ?_;rintro _ hz ⟨rfl,kz,kkz⟩;conv=>whnf
    refine ⟨rfl,?_,KI.trans kkz⟩
    rw [hres,show ((c.learn x.term)).take1 x.abs draw=(((c.learn x.term)).heardOf x.abs draw).install x.abs from (if_neg e1).trans ((if_neg e2).trans ((if_pos E35).trans ((if_neg s2).trans (if_pos e5))))];exact kz
   refine ACmp.no (e5) ?_;conv=>whnf
   have E35:¬(x.abs.kind=3∨x.abs.kind=5):=fun c=>c.elim e3 e5
   refine ALoad.one rfl (k2).str rfl ?_;conv=>whnf
   by_cases s2:((c.learn x.term)).state=2
   ·refine ACmp.yes (s2) ?_;conv=>whnf
    refine ALoad.agg rfl k42 rfl rfl ?_;conv=>whnf
    refine ACalls.mono (told_any ap ⟨_,k2⟩ ok2.lk ok2.nk ok2.mt ok2.s1 ok2.s2 x ch.s1 ch.s2 ch.ix.1 ch.ix.2 ok2.o1 ok2.rd (by rw [ok2.o3];simp)) ?_;rintro _ hz ⟨rfl,kz,kkz⟩;conv=>whnf
    refine ⟨rfl,?_,KK2.trans kkz⟩
    rw [hres,show ((c.learn x.term)).take1 x.abs draw=((c.learn x.term)).told x.abs from (if_neg e1).trans ((if_neg e2).trans ((if_neg E35).trans (if_pos s2)))];exact kz
   ·refine ACmp.no (s2) ?_;conv=>whnf
    refine ⟨rfl,?_,KK2⟩
    rw [hres,show ((c.learn x.term)).take1 x.abs draw=(c.learn x.term) from (if_neg e1).trans ((if_neg e2).trans ((if_neg E35).trans (if_neg s2)))];exact ⟨_,k2⟩
  ·rw [show cmpI x.term c.term=0 from (if_neg c1).trans (if_neg c2)]
   conv=>whnf
   refine ACmp.no ((by decide)) ?_;conv=>whnf
   refine ACmp.no ((by decide)) ?_;conv=>whnf
   have hres:c.takeIn x.abs draw=c.take1 x.abs draw:=(if_neg c1).trans (if_neg c2)
   refine ALoad.one rfl k4 rfl ?_;conv=>whnf
   by_cases e1:x.kind=1
   ·refine ACmp.yes (e1) ?_;conv=>whnf
    refine ALoad.agg rfl k4 rfl rfl ?_;conv=>whnf
    refine ACalls.mono (asked_any ap ⟨_,q⟩ ok.lk.lo x draw hd0 (by rw [ok.o3];simp)) ?_;rintro _ hz ⟨rfl,kz,kkz⟩;conv=>whnf
    refine ⟨rfl,?_,K1.trans (kkz.mono (by simp))⟩
    rw [hres,show (c).take1 x.abs draw=(c).asked x.abs draw from if_pos e1];exact kz
   refine ACmp.no (e1) ?_;conv=>whnf
   by_cases e2:x.kind=2
   ·refine ACmp.yes (e2) ?_;conv=>whnf
    refine ALoad.agg rfl k4 rfl rfl ?_;conv=>whnf
    refine ACalls.mono (voted_any ap ⟨_,q⟩ ok.lk ok.s1 ok.s2 ok.v1 ok.v2 x ch.s1 ch.s2 (by have:=ok.es;omega) (by rw [ok.o2];simp) (by rw [ok.o3];simp)) ?_;rintro _ hz ⟨rfl,kz,kkz⟩;conv=>whnf
    refine ⟨rfl,?_,K1.trans kkz⟩
    rw [hres,show (c).take1 x.abs draw=(c).voted x.abs from (if_neg e1).trans (if_pos e2)];exact kz
   refine ACmp.no (e2) ?_;conv=>whnf
   by_cases e3:x.kind=3
   ·refine ACmp.yes (e3) ?_;conv=>whnf
    have E35:x.abs.kind=3∨x.abs.kind=5 := .inl e3
    refine ALoad.one rfl (q).str rfl ?_;conv=>whnf
    by_cases s2:(c).state=2
    ·refine ACmp.yes (s2) ?_;conv=>whnf
     refine ⟨rfl,?_,K1⟩
     rw [hres,show (c).take1 x.abs draw=c from (if_neg e1).trans ((if_neg e2).trans ((if_pos E35).trans (if_pos s2)))];exact ⟨_,q⟩
    refine ACmp.no (s2) ?_;conv=>whnf
    refine ACalls.mono (follow_any ap.a ⟨_,q⟩) ?_;rintro _ hf ⟨rfl,⟨cxf,qf⟩,kkf⟩;conv=>whnf
    have k4f:=kkf.get (Ne.symm ap.c) k4
    refine ADrawn.mkO ((few hf [b4])) [9] [0,1,2,3,4,5,6,7,8,9,10,11,12,13,14,15] (few_sub _ _) (by decide +kernel) ?_;conv=>whnf
    refine ALoad.one rfl ((few_at (by simp)).trans k4f) rfl ?_;conv=>whnf
    refine ACalls.mono (waits_any hf draw hd0) ?_;rintro _ _ ⟨rfl,rfl⟩;conv=>whnf
    refine ⟨few_sub _ _,?_⟩;conv=>whnf
    refine AStore.oneN rfl rfl rfl (qf.str) rfl (coreCells {(c).follow with head:=x.src} cxf) rfl fun hg tg kg ag eg=>?_;conv=>whnf
    refine AStore.oneN rfl rfl rfl (kg) rfl (coreCells {(c).follow with head:=x.src,quiet:=0} cxf) rfl fun hh th kh ah eh=>?_;conv=>whnf
    refine ⟨(fun b y e=>by cases e),?_⟩;conv=>whnf
    refine AStore.oneN rfl rfl rfl (kh) rfl (coreCells ((c).heardOf x.abs draw) cxf) rfl fun hi ti ki ai ei=>?_;conv=>whnf
    refine ⟨(fun b y e=>by cases e),?_⟩;conv=>whnf
    have tt:=tg.trans (th.trans ti)
    have qi:=qf.set' (c':=(c).heardOf x.abs draw) ap.a tt ki
    have k4i:=tt.get (tag_ne ap.c) k4f
    have KI:=K1.trans ((kkf.trans tt.keep).keeps (by simp))
    have gi:=g.keeps KI
    have lki:LogOk ((c).heardOf x.abs draw):=ok.lk.same rfl rfl
    refine ALoad.one rfl k4i rfl ?_;conv=>whnf
    refine ACmp.no ((by rw [e3];decide)) ?_;conv=>whnf
    refine ALoad.agg rfl k4i rfl rfl ?_;conv=>whnf
    refine ACalls.mono (append_any ap ⟨_,qi⟩ lki x gi ch.ix.1 ch.ix.2 ch.el (fun e he=>by have:=ch.en e he;have hl:=given_len g e he;omega) (by have:=ok.es;show ((c).log.es.length+8)*48≤_;omega) (by show (c).out.entries.length≤_;rw [ok.o2];simp) (by show (c).out.posts.length≤_;rw [ok.o3];simp)) ?_;rintro _ hz ⟨rfl,kz,kkz⟩;conv=>whnf
    refine ⟨rfl,?_,KI.trans kkz⟩
    rw [hres,show (c).take1 x.abs draw=((c).heardOf x.abs draw).append x.abs from (if_neg e1).trans ((if_neg e2).trans ((if_pos E35).trans ((if_neg s2).trans (if_neg (by show ¬ x.kind=5;rw [e3];decide)))))];exact kz
   refine ACmp.no (e3) ?_;conv=>whnf
   by_cases e5:x.kind=5
   ·refine ACmp.yes (e5) ?_;conv=>whnf
    have E35:x.abs.kind=3∨x.abs.kind=5 := .inr e5
    refine ALoad.one rfl (q).str rfl ?_;conv=>whnf
    by_cases s2:(c).state=2
    ·refine ACmp.yes (s2) ?_;conv=>whnf
     refine ⟨rfl,?_,K1⟩
     rw [hres,show (c).take1 x.abs draw=c from (if_neg e1).trans ((if_neg e2).trans ((if_pos E35).trans (if_pos s2)))];exact ⟨_,q⟩
    refine ACmp.no (s2) ?_;conv=>whnf
    refine ACalls.mono (follow_any ap.a ⟨_,q⟩) ?_;rintro _ hf ⟨rfl,⟨cxf,qf⟩,kkf⟩;conv=>whnf
    have k4f:=kkf.get (Ne.symm ap.c) k4
    refine ADrawn.mkO ((few hf [b4])) [9] [0,1,2,3,4,5,6,7,8,9,10,11,12,13,14,15] (few_sub _ _) (by decide +kernel) ?_;conv=>whnf
    refine ALoad.one rfl ((few_at (by simp)).trans k4f) rfl ?_;conv=>whnf
    refine ACalls.mono (waits_any hf draw hd0) ?_;rintro _ _ ⟨rfl,rfl⟩;conv=>whnf
    refine ⟨few_sub _ _,?_⟩;conv=>whnf
    refine AStore.oneN rfl rfl rfl (qf.str) rfl (coreCells {(c).follow with head:=x.src} cxf) rfl fun hg tg kg ag eg=>?_;conv=>whnf
    refine AStore.oneN rfl rfl rfl (kg) rfl (coreCells {(c).follow with head:=x.src,quiet:=0} cxf) rfl fun hh th kh ah eh=>?_;conv=>whnf
    refine ⟨(fun b y e=>by cases e),?_⟩;conv=>whnf
    refine AStore.oneN rfl rfl rfl (kh) rfl (coreCells ((c).heardOf x.abs draw) cxf) rfl fun hi ti ki ai ei=>?_;conv=>whnf
    refine ⟨(fun b y e=>by cases e),?_⟩;conv=>whnf
    have tt:=tg.trans (th.trans ti)
    have qi:=qf.set' (c':=(c).heardOf x.abs draw) ap.a tt ki
    have k4i:=tt.get (tag_ne ap.c) k4f
    have KI:=K1.trans ((kkf.trans tt.keep).keeps (by simp))
    have gi:=g.keeps KI
    have lki:LogOk ((c).heardOf x.abs draw):=ok.lk.same rfl rfl
    refine ALoad.one rfl k4i rfl ?_;conv=>whnf
    refine ACmp.yes (e5) ?_;conv=>whnf
    refine ALoad.agg rfl k4i rfl rfl ?_;conv=>whnf
    obtain ⟨hob,hdl⟩:=ch.sn e5
    refine ACalls.mono (install_any ap ⟨_,qi⟩ lki.lo x gi hob (by omega) (by have:=ok.es;show (c).log.es.length*48≤_;omega) (by show (c).out.posts.length≤_;rw [ok.o3];simp)) ?_;rintro _ hz ⟨rfl,kz,kkz⟩;conv=>whnf
    refine ⟨rfl,?_,KI.trans kkz⟩
    rw [hres,show (c).take1 x.abs draw=((c).heardOf x.abs draw).install x.abs from (if_neg e1).trans ((if_neg e2).trans ((if_pos E35).trans ((if_neg s2).trans (if_pos e5))))];exact kz
   refine ACmp.no (e5) ?_;conv=>whnf
   have E35:¬(x.abs.kind=3∨x.abs.kind=5):=fun c=>c.elim e3 e5
   refine ALoad.one rfl (q).str rfl ?_;conv=>whnf
   by_cases s2:(c).state=2
   ·refine ACmp.yes (s2) ?_;conv=>whnf
    refine ALoad.agg rfl k4 rfl rfl ?_;conv=>whnf
    refine ACalls.mono (told_any ap ⟨_,q⟩ ok.lk ok.nk ok.mt ok.s1 ok.s2 x ch.s1 ch.s2 ch.ix.1 ch.ix.2 ok.o1 ok.rd (by rw [ok.o3];simp)) ?_;rintro _ hz ⟨rfl,kz,kkz⟩;conv=>whnf
    refine ⟨rfl,?_,K1.trans kkz⟩
    rw [hres,show (c).take1 x.abs draw=(c).told x.abs from (if_neg e1).trans ((if_neg e2).trans ((if_neg E35).trans (if_pos s2)))];exact kz
   ·refine ACmp.no (s2) ?_;conv=>whnf
    refine ⟨rfl,?_,K1⟩
    rw [hres,show (c).take1 x.abs draw=c from (if_neg e1).trans ((if_neg e2).trans ((if_neg E35).trans (if_neg s2)))];exact ⟨_,q⟩
set_option maxHeartbeats 4000000 in
theorem Take_any {h:Heap} {p o oo:Nat} {c:CoreM} (ap:Apart o oo) (k:PCore h p o oo c) (ok:COk c) (x:PH) (g:Given h o oo x) (draw:Int) :
  ACalls PR 25 #[Ptr p, .agg x.cells.toArray,I draw] h (fun v h'=>((c.takes x.abs=false∨draw<0)∧v = .tuple #[.agg (outCells out0 ox0).toArray,I 2]∧Sub h h')∨(c.takes x.abs=true∧0≤draw∧∃ u,v = .tuple #[u,I 0]∧Told p o oo (c.take x.abs draw) h u h')):=by
 obtain ⟨cx,k0⟩:=k
 refine acalls_of mix Tryz.func25 rfl rfl Tryz.ntmps25 Tryz.results25 rfl ?_;conv=>whnf
 refine ABox.mkN (0,1) (x.cells) rfl fun b4 h1 n1 s1 k1=>?_;conv=>whnf
 refine AAlloc.mkN (0,1) (outCells out0 ox0) rfl fun b6 h2 n2 s2 k2=>?_;conv=>whnf
 have s12:=s1.trans s2
 have k12:=s2 _ _ k1
 have k:=k0.sub s12
 have g2:=g.sub s12
 have n26:h b6=none:=by
  cases e:h b6 with
  | none=>rfl
  | some y=>rw [s1 _ _ e] at n2;cases n2
 refine ACalls.mono (none_core k) ?_;rintro _ _ ⟨rfl,rfl⟩;conv=>whnf
 refine ALoad.agg rfl k12 rfl rfl ?_;conv=>whnf
 obtain ⟨⟨t1,t2,t3,pk,tn1,tn2,tn3⟩,hby,hsc0,hsc1,hn1⟩:=id g2
 refine ACalls.mono (takes_any k pk hby hsc0 hsc1 (by omega)) ?_
 cases htk:c.takes x.abs with
 | false =>
  rintro _ _ ⟨rfl,rfl⟩
  conv=>whnf
  refine AStore.aggN rfl rfl rfl (k2) rfl (outCells out0 ox0) rfl fun h3 t3 k3 a3 e3=>?_;conv=>whnf
  refine ALoad.agg rfl k3 rfl rfl ?_;conv=>whnf
  exact .inl ⟨.inl rfl,rfl,a3 h s12 n26⟩
 | true =>
 rintro _ _ ⟨rfl,rfl⟩
 conv=>whnf
 by_cases c0:draw<0
 ·refine ACmp.yes (c0) ?_;conv=>whnf
  refine AStore.aggN rfl rfl rfl (k2) rfl (outCells out0 ox0) rfl fun h3 t3 k3 a3 e3=>?_;conv=>whnf
  refine ALoad.agg rfl k3 rfl rfl ?_;conv=>whnf
  exact .inl ⟨.inr c0,rfl,a3 h s12 n26⟩
 refine ACmp.no (c0) ?_;conv=>whnf
 have ch:Checked x:=takes_facts htk
 have kb:∀ {h':Heap},Keeps [o,o+1,oo] h2 h'→h' b6=some (row (0,1) (outCells out0 ox0) 65):=fun kk=>kk _ _ _ (by have:=ap.c;have:=ap.d;simp;omega) k2
 refine ALoad.one rfl k.str rfl ?_;conv=>whnf
 by_cases c1:c.state=2
 ·refine ACmp.yes (c1) ?_;conv=>whnf
  have HL:c.led=true:=by simp [CoreM.led,c1]
  refine ALoad.one rfl k12 rfl ?_;conv=>whnf
  by_cases e1:x.kind=1
  ·refine ACmp.no ((by simpa using e1)) ?_;conv=>whnf
   have hte:c.take x.abs draw=c:=(CoreM.take_eq c x.abs draw).trans (if_pos ⟨e1,HL⟩)
   rw [hte]
   have KR:=Keeps.refl [o,o+1,oo] h2
   refine ACalls.mono (done_any ap.a ap.c ap.d ⟨_,k⟩) ?_;rintro _ h5 ⟨ox,rfl,o5,q5,kk5⟩;conv=>whnf
   refine AStore.aggN rfl rfl rfl ((kk5.get (Ne.symm ap.c) (kb KR))) rfl (outCells _ ox) rfl fun h6 t6 k6 a6 e6=>?_;conv=>whnf
   refine ALoad.agg rfl k6 rfl rfl ?_;conv=>whnf
   exact .inr ⟨rfl,by omega,_,rfl,told_end ap n26 ((s12.keeps _).trans KR) kk5 o5 q5 t6 e6⟩
  ·refine ACmp.yes (e1) ?_;conv=>whnf
   have NL:¬(x.abs.kind=1∧c.led=true):=fun c=>e1 c.1
   have hte:c.take x.abs draw=c.takeIn x.abs draw:=(CoreM.take_eq c x.abs draw).trans (if_neg NL)
   rw [hte]
   refine ALoad.agg rfl k12 rfl rfl ?_;conv=>whnf
   refine ACalls.mono (take_any ap ⟨_,k⟩ ok.t x g2 ch draw (by omega)) ?_;rintro _ h4 ⟨rfl,k4,kk4⟩;conv=>whnf
   refine ACalls.mono (done_any ap.a ap.c ap.d k4) ?_;rintro _ h5 ⟨ox,rfl,o5,q5,kk5⟩;conv=>whnf
   refine AStore.aggN rfl rfl rfl ((kk5.get (Ne.symm ap.c) (kb kk4))) rfl (outCells _ ox) rfl fun h6 t6 k6 a6 e6=>?_;conv=>whnf
   refine ALoad.agg rfl k6 rfl rfl ?_;conv=>whnf
   exact .inr ⟨rfl,by omega,_,rfl,told_end ap n26 ((s12.keeps _).trans kk4) kk5 o5 q5 t6 e6⟩
 ·refine ACmp.no (c1) ?_;conv=>whnf
  refine ALoad.one rfl k.str rfl ?_;conv=>whnf
  by_cases c2:c.quiet<10
  ·refine ACmp.yes (c2) ?_;conv=>whnf
   refine ALoad.one rfl k.str rfl ?_;conv=>whnf
   by_cases c3:c.head=0
   ·refine ACmp.no ((by simpa using c3)) ?_;conv=>whnf
    have HF:c.led=false:=by simp [CoreM.led,c1,c3]
    refine ALoad.one rfl k12 rfl ?_;conv=>whnf
    have NL:¬(x.abs.kind=1∧c.led=true):=fun c=>by rw [HF] at c;cases c.2
    by_cases e1:x.kind=1
    ·refine ACmp.no ((by simpa using e1)) ?_;conv=>whnf
     have hte:c.take x.abs draw=c.takeIn x.abs draw:=(CoreM.take_eq c x.abs draw).trans (if_neg NL)
     rw [hte]
     refine ALoad.agg rfl k12 rfl rfl ?_;conv=>whnf
     refine ACalls.mono (take_any ap ⟨_,k⟩ ok.t x g2 ch draw (by omega)) ?_;rintro _ h4 ⟨rfl,k4,kk4⟩;conv=>whnf
     refine ACalls.mono (done_any ap.a ap.c ap.d k4) ?_;rintro _ h5 ⟨ox,rfl,o5,q5,kk5⟩;conv=>whnf
     refine AStore.aggN rfl rfl rfl ((kk5.get (Ne.symm ap.c) (kb kk4))) rfl (outCells _ ox) rfl fun h6 t6 k6 a6 e6=>?_;conv=>whnf
     refine ALoad.agg rfl k6 rfl rfl ?_;conv=>whnf
     exact .inr ⟨rfl,by omega,_,rfl,told_end ap n26 ((s12.keeps _).trans kk4) kk5 o5 q5 t6 e6⟩
    ·refine ACmp.yes (e1) ?_;conv=>whnf
     have hte:c.take x.abs draw=c.takeIn x.abs draw:=(CoreM.take_eq c x.abs draw).trans (if_neg NL)
     rw [hte]
     refine ALoad.agg rfl k12 rfl rfl ?_;conv=>whnf
     refine ACalls.mono (take_any ap ⟨_,k⟩ ok.t x g2 ch draw (by omega)) ?_;rintro _ h4 ⟨rfl,k4,kk4⟩;conv=>whnf
     refine ACalls.mono (done_any ap.a ap.c ap.d k4) ?_;rintro _ h5 ⟨ox,rfl,o5,q5,kk5⟩;conv=>whnf
     refine AStore.aggN rfl rfl rfl ((kk5.get (Ne.symm ap.c) (kb kk4))) rfl (outCells _ ox) rfl fun h6 t6 k6 a6 e6=>?_;conv=>whnf
     refine ALoad.agg rfl k6 rfl rfl ?_;conv=>whnf
     exact .inr ⟨rfl,by omega,_,rfl,told_end ap n26 ((s12.keeps _).trans kk4) kk5 o5 q5 t6 e6⟩
   ·refine ACmp.yes (c3) ?_;conv=>whnf
    have HL:c.led=true:=by simp [CoreM.led,c2,c3]
    refine ALoad.one rfl k12 rfl ?_;conv=>whnf
    by_cases e1:x.kind=1
    ·refine ACmp.no ((by simpa using e1)) ?_;conv=>whnf
     have hte:c.take x.abs draw=c:=(CoreM.take_eq c x.abs draw).trans (if_pos ⟨e1,HL⟩)
     rw [hte]
     have KR:=Keeps.refl [o,o+1,oo] h2
     refine ACalls.mono (done_any ap.a ap.c ap.d ⟨_,k⟩) ?_;rintro _ h5 ⟨ox,rfl,o5,q5,kk5⟩;conv=>whnf
     refine AStore.aggN rfl rfl rfl ((kk5.get (Ne.symm ap.c) (kb KR))) rfl (outCells _ ox) rfl fun h6 t6 k6 a6 e6=>?_;conv=>whnf
     refine ALoad.agg rfl k6 rfl rfl ?_;conv=>whnf
     exact .inr ⟨rfl,by omega,_,rfl,told_end ap n26 ((s12.keeps _).trans KR) kk5 o5 q5 t6 e6⟩
    ·refine ACmp.yes (e1) ?_;conv=>whnf
     have NL:¬(x.abs.kind=1∧c.led=true):=fun c=>e1 c.1
     have hte:c.take x.abs draw=c.takeIn x.abs draw:=(CoreM.take_eq c x.abs draw).trans (if_neg NL)
     rw [hte]
     refine ALoad.agg rfl k12 rfl rfl ?_;conv=>whnf
     refine ACalls.mono (take_any ap ⟨_,k⟩ ok.t x g2 ch draw (by omega)) ?_;rintro _ h4 ⟨rfl,k4,kk4⟩;conv=>whnf
     refine ACalls.mono (done_any ap.a ap.c ap.d k4) ?_;rintro _ h5 ⟨ox,rfl,o5,q5,kk5⟩;conv=>whnf
     refine AStore.aggN rfl rfl rfl ((kk5.get (Ne.symm ap.c) (kb kk4))) rfl (outCells _ ox) rfl fun h6 t6 k6 a6 e6=>?_;conv=>whnf
     refine ALoad.agg rfl k6 rfl rfl ?_;conv=>whnf
     exact .inr ⟨rfl,by omega,_,rfl,told_end ap n26 ((s12.keeps _).trans kk4) kk5 o5 q5 t6 e6⟩
  ·refine ACmp.no (c2) ?_;conv=>whnf
   have HF:c.led=false:=by simp [CoreM.led,c1,c2]
   refine ALoad.one rfl k12 rfl ?_;conv=>whnf
   have NL:¬(x.abs.kind=1∧c.led=true):=fun c=>by rw [HF] at c;cases c.2
   by_cases e1:x.kind=1
   ·refine ACmp.no ((by simpa using e1)) ?_;conv=>whnf
    have hte:c.take x.abs draw=c.takeIn x.abs draw:=(CoreM.take_eq c x.abs draw).trans (if_neg NL)
    rw [hte]
    refine ALoad.agg rfl k12 rfl rfl ?_;conv=>whnf
    refine ACalls.mono (take_any ap ⟨_,k⟩ ok.t x g2 ch draw (by omega)) ?_;rintro _ h4 ⟨rfl,k4,kk4⟩;conv=>whnf
    refine ACalls.mono (done_any ap.a ap.c ap.d k4) ?_;rintro _ h5 ⟨ox,rfl,o5,q5,kk5⟩;conv=>whnf
    refine AStore.aggN rfl rfl rfl ((kk5.get (Ne.symm ap.c) (kb kk4))) rfl (outCells _ ox) rfl fun h6 t6 k6 a6 e6=>?_;conv=>whnf
    refine ALoad.agg rfl k6 rfl rfl ?_;conv=>whnf
    exact .inr ⟨rfl,by omega,_,rfl,told_end ap n26 ((s12.keeps _).trans kk4) kk5 o5 q5 t6 e6⟩
   ·refine ACmp.yes (e1) ?_;conv=>whnf
    have hte:c.take x.abs draw=c.takeIn x.abs draw:=(CoreM.take_eq c x.abs draw).trans (if_neg NL)
    rw [hte]
    refine ALoad.agg rfl k12 rfl rfl ?_;conv=>whnf
    refine ACalls.mono (take_any ap ⟨_,k⟩ ok.t x g2 ch draw (by omega)) ?_;rintro _ h4 ⟨rfl,k4,kk4⟩;conv=>whnf
    refine ACalls.mono (done_any ap.a ap.c ap.d k4) ?_;rintro _ h5 ⟨ox,rfl,o5,q5,kk5⟩;conv=>whnf
    refine AStore.aggN rfl rfl rfl ((kk5.get (Ne.symm ap.c) (kb kk4))) rfl (outCells _ ox) rfl fun h6 t6 k6 a6 e6=>?_;conv=>whnf
    refine ALoad.agg rfl k6 rfl rfl ?_;conv=>whnf
    exact .inr ⟨rfl,by omega,_,rfl,told_end ap n26 ((s12.keeps _).trans kk4) kk5 o5 q5 t6 e6⟩
theorem m5_andNot (a b:Int):m5 (IntKind.i64.wrap ((BitVec.ofInt 64 a &&& ~~~(BitVec.ofInt 64 b)).toNat:Int))=m5 a &&& (31 ^^^ m5 b):=by
 rw [m5_wrap,m5_nat]
 have ha:=m5_toNat a
 have hb:=m5_toNat b
 rw [m5_nat] at ha hb
 rw [← ha,← hb]
 apply Nat.eq_of_testBit_eq
 intro i
 have e1:∀ N:Nat,(N / 2 % 32).testBit i=(decide (i<5)&&N.testBit (i+1)):=fun N=>by
  rw [show (32:Nat)=2^5 from rfl,Nat.testBit_mod_two_pow,Nat.testBit_div_two]
 rw [Nat.testBit_and,Nat.testBit_xor,e1,e1,e1]
 have e2:(BitVec.ofInt 64 a &&& ~~~(BitVec.ofInt 64 b)).toNat.testBit (i+1)=((BitVec.ofInt 64 a).toNat.testBit (i+1)&&(decide (i+1<64) && !(BitVec.ofInt 64 b).toNat.testBit (i+1))):=by
  rw [BitVec.testBit_toNat,BitVec.testBit_toNat,BitVec.testBit_toNat,BitVec.getLsbD_and,BitVec.getLsbD_not]
 rw [e2]
 have e3:(31:Nat).testBit i=decide (i<5):=by
  rw [show (31:Nat)=2^5-1 from rfl,Nat.testBit_two_pow_sub_one]
 rw [e3]
 by_cases h:i<5
 ·simp [h,show i+1<64 by omega]
 ·simp [h]
theorem ls_andNot:∀ k,k<32→∀ j,j<32→ls (k &&& (31 ^^^ j))=(ls k).filter fun n => !bt j (n-1).toNat:=by decide +kernel
theorem settled_any {h:Heap} {p o oo:Nat} {c:CoreM} {x:CX} (k:CoreX 81 LA h p o oo c x) (lo:LOk c.log) :
  ACalls PR 64 #[Ptr p] h (fun v h'=>v = .bool c.settled∧h=h'):=by
 refine acalls_pure (acalls_of mix Tryz.func64 rfl rfl Tryz.ntmps64 Tryz.results64 rfl ?_);conv=>whnf
 refine ADrawn.mk (h) [] (Sub.refl _) (by decide +kernel) ?_;conv=>whnf
 refine ALoad.one rfl k.str rfl ?_
 refine ALoad.one rfl k.str rfl ?_
 refine ALoad.one rfl k.str rfl ?_;conv=>whnf
 refine ACalls.mono (Has_c k.log lo c.commit c.term) ?_;rintro _ _ ⟨rfl,rfl⟩;conv=>whnf
 refine ⟨Sub.refl _,?_⟩;conv=>whnf
 exact ⟨rfl,Sub.refl _⟩
theorem crewIn_range {L:LG} (by_:∀ e∈L.es,e.2.2.1=2→∀ x∈e.2.2.2,0≤x∧x<256):∀ (k:Nat) r,crewIn L k=some r→0≤r.1∧r.1≤255
 | 0,r,h=>by simp [crewIn] at h
 | k+1,r,h=>by
  unfold crewIn at h
  cases he:L.es[k]? with
  | none=>rw [he] at h;exact crewIn_range by_ k r h
  | some e =>
   rw [he] at h
   simp only [] at h
   by_cases h2:e.2.2.1=2
   ·rw [if_pos h2] at h
    cases h
    show 0≤crewNum e∧crewNum e≤255
    have:=by_ e (List.mem_of_getElem? he) h2
    unfold crewNum
    split
    ·rename_i x hx
     have:=this x (by rw [hx];simp)
     omega
    ·omega
   ·rw [if_neg h2] at h;exact crewIn_range by_ k r h
theorem crew_range {c:CoreM} (by_:∀ e∈c.log.es,e.2.2.1=2→∀ x∈e.2.2.2,0≤x∧x<256) (fc:0≤c.first∧c.first≤255) (sc:0≤c.snap.crew∧c.snap.crew≤255) (i:Int):0≤(c.crewUpTo i).1∧(c.crewUpTo i).1≤255:=by
 unfold CoreM.crewUpTo
 cases h:crewIn c.log (i-c.log.bi).toNat with
 | some r=>exact crewIn_range by_ _ _ h
 | none =>
  simp only []
  split
  ·exact sc
  ·exact fc
theorem crewNum_range {data:List Int} (hb:∀ z∈data,0≤z∧z<256):0≤crewNum (0,0,0,data)∧crewNum (0,0,0,data)≤255:=by
 unfold crewNum
 split
 ·rename_i x hx
  have hx:data=[x]:=hx
  have:=hb x (by rw [hx];simp)
  omega
 ·omega
theorem changes_eq (c:CoreM) (data:List Int):c.changes data=(crewOk (0,0,0,data)&&decide (chg c.crewNow.1 (crewNum (0,0,0,data))=0)&&decide (c.crewNow.2≤c.commit)&&c.settled):=rfl
theorem changes_any {h:Heap} {p o oo:Nat} {c:CoreM} {x:CX} (k:CoreX 81 LA h p o oo c x) (lk:LogOk c) (fc:0≤c.first∧c.first≤255) (sc:0≤c.snap.crew∧c.snap.crew≤255) {t:Tag} {d:SlV} {data:List Int} (g:Sl h t d.a d.n d.c 1 (bytesV data)) (hb:∀ z∈data,0≤z∧z<256) :
  ACalls PR 52 #[Ptr p, .slice d.a d.n d.c] h (fun v h'=>v = .bool (c.changes data)∧h=h'):=by
 have h1:=crew_range lk.by_ fc sc c.log.last.1
 have h2:=crewNum_range hb
 refine acalls_pure (acalls_of mix Tryz.func52 rfl rfl Tryz.ntmps52 Tryz.results52 rfl ?_);conv=>whnf
 refine ACalls.mono (crewNow_any k lk.lo lk.by_) ?_;rintro _ _ ⟨rfl,rfl⟩;conv=>whnf
 refine ACalls.mono (crewOf_any h (⟨0,0,0,d.a,d.n,d.c,data⟩:EH) g hb) ?_
 rw [changes_eq]
 show ∀ v h',_∧_→_
 cases e1:crewOk (0,0,0,data) with
 | false =>
  rintro _ _ ⟨rfl,rfl⟩
  rw [show crewOk (EH.abs ⟨0,0,0,d.a,d.n,d.c,data⟩)=false from e1]
  conv=>whnf
  exact ⟨by simp,Sub.refl _⟩
 | true =>
  rintro _ _ ⟨rfl,rfl⟩
  rw [show crewOk (EH.abs ⟨0,0,0,d.a,d.n,d.c,data⟩)=true from e1]
  conv=>whnf
  rw [show crewNum (EH.abs ⟨0,0,0,d.a,d.n,d.c,data⟩)=crewNum (0,0,0,data) from rfl]
  refine ACalls.mono (Change_any h c.crewNow.1 (crewNum (0,0,0,data)) (by unfold CoreM.crewNow;omega) (by unfold CoreM.crewNow;omega) (by omega) (by omega)) ?_;rintro _ _ ⟨rfl,rfl⟩;conv=>whnf
  by_cases e2:chg c.crewNow.1 (crewNum (0,0,0,data))=0
  ·refine ACmp.yes (e2) ?_;conv=>whnf
   refine ALoad.one rfl k.str rfl ?_;conv=>whnf
   by_cases e3:c.crewNow.2≤c.commit
   ·refine ACmp.yes (e3) ?_;conv=>whnf
    refine ACalls.mono (settled_any k lk.lo) ?_;rintro _ _ ⟨rfl,rfl⟩;conv=>whnf
    exact ⟨by simp [e2,e3],Sub.refl _⟩
   ·refine ACmp.no (e3) ?_;conv=>whnf
    exact ⟨by simp [e3],Sub.refl _⟩
  ·refine ACmp.no (e2) ?_;conv=>whnf
   exact ⟨by simp [e2],Sub.refl _⟩
def CoreM.asks (c:CoreM):CoreM:={c with round:=c.round+1,reads:=c.reads++[c.round+1]}
set_option maxHeartbeats 4000000 in
theorem Read_any {h:Heap} {p o oo:Nat} {c:CoreM} (ap:Apart o oo) (k:PCore h p o oo c) (ok:COk c) :
  ACalls PR 26 #[Ptr p] h (fun v h'=>(c.readE≠0∧v = .tuple #[I 0, .agg (outCells out0 ox0).toArray,I c.readE]∧Sub h h')∨(c.readE=0∧∃ u,v = .tuple #[I (c.round+1),u,I 0]∧Told p o oo c.read h u h')):=by
 obtain ⟨cx,k0⟩:=k
 have hr1:=ok.r1
 have hr2:=ok.r2
 have hrd:=ok.rd
 have hout:=ok.out
 refine acalls_of mix Tryz.func26 rfl rfl Tryz.ntmps26 Tryz.results26 rfl ?_;conv=>whnf
 refine AAlloc.mkN (0,1) (outCells out0 ox0) rfl fun b3 h1 n1 s1 k1=>?_;conv=>whnf
 have k:=k0.sub s1
 refine ACalls.mono (none_core k) ?_;rintro _ _ ⟨rfl,rfl⟩;conv=>whnf
 refine ALoad.one rfl k.str rfl ?_;conv=>whnf
 by_cases c1:c.state=2
 ·refine ACmp.no ((by simpa using c1)) ?_;conv=>whnf
  refine ACalls.mono (settled_any k ok.lk.lo) ?_
  cases hs:c.settled with
  | false =>
   rintro _ _ ⟨rfl,rfl⟩
   conv=>whnf
   refine AStore.aggN rfl rfl rfl (k1) rfl (outCells out0 ox0) rfl fun h3 t3 k3 a3 e3=>?_;conv=>whnf
   refine ALoad.agg rfl k3 rfl rfl ?_;conv=>whnf
   have he:c.readE=202:=by unfold CoreM.readE;rw [if_neg (by simpa using c1),if_pos hs]
   exact .inl ⟨by rw [he];decide,by rw [he];rfl,a3 h s1 n1⟩
  | true =>
   rintro _ _ ⟨rfl,rfl⟩
   conv=>whnf
   have he:c.readE=0:=by unfold CoreM.readE;rw [if_neg (by simpa using c1),if_neg (by rw [hs];simp)]
   refine ALoad.one rfl k.str rfl ?_;conv=>whnf
   refine AArith.ok (by omega) (by omega) (rfl) ?_;conv=>whnf
   refine AStore.oneTo rfl rfl rfl (k.str) rfl (coreCells {c with round:=c.round+1} cx) rfl ?_;conv=>whnf
   have k2:=k.set ap.a {c with round:=c.round+1} cx
   have kk2:=k.setKeep (coreCells {c with round:=c.round+1} cx)
   generalize h1.set p (row (o,0) (coreCells {c with round:=c.round+1} cx) 81)=h2 at k2 kk2 ⊢
   have hrl:cx.rd.n=c.reads.length:=by have:=k2.rd.sl.len;simpa using this.symm
   refine ADrawn.mk ((one h2 p)) [16] (one_sub _ _) (by decide +kernel) ?_;conv=>whnf
   refine ALoad.one rfl ((one_at _ _).trans k2.str) rfl ?_
   refine ALoad.one rfl ((one_at _ _).trans k2.str) rfl ?_;conv=>whnf
   refine ABuildSl.mkN (0,1) [I (c.round+1)] rfl rfl rfl rfl rfl rfl rfl fun b6 h5 n5 s5 k6=>?_;conv=>whnf
   refine ⟨(one_sub _ _).trans s5,?_⟩;conv=>whnf
   refine AAppend.own (t:=(o,4)) (E:=3) (z:=1) (by_:=8) (zero:=[I 0]) (tx:=(0,1)) (xs:=[I (c.round+1)]) rfl ⟨_,rfl⟩ rfl rfl rfl rfl (by omega) (k2.rd.move fun _ _ e=>s5 _ _ e)
    ⟨rfl,Nat.le_refl _, .inr ⟨b6,0,_,_,_,rfl,k6,rfl⟩⟩ rfl (by omega) (by omega) fun a7 c7 h7 ow7 t7 _=>?_
   conv=>whnf
   have p7:=t7.get (u:=(o,0)) (by simp) (s5 _ _ k2.str)
   refine ⟨one_get fun y hy=>?_,?_⟩
   ·rw [k2.str] at hy;cases hy;exact p7
   conv=>whnf
   refine AStore.oneN rfl rfl rfl (p7) rfl (coreCells c.asks {cx with rd:=⟨a7,cx.rd.n+1,c7⟩}) rfl fun h8 t8 k8 a8 e8=>?_;conv=>whnf
   have q8:CoreX 81 LA h8 p o oo c.asks {cx with rd:=⟨a7,cx.rd.n+1,c7⟩}:=by
    refine ⟨k8,((k2.sd.move fun _ _ e=>s5 _ _ e).keepT t7 (by simp)).keepT t8 (by simp),KeepT.log (KeepT.log (Moves.move k2.log fun _ _ _ _ e=>s5 _ _ e) t7) t8,?_,?_⟩
    ·have:=ow7.keepT t8 (by simp)
     show Own h8 (o,4) 3 a7 (cx.rd.n+1) c7 1 ((c.reads++[c.round+1]).map I)
     rw [List.map_append];exact this
    ·exact ((k2.out.move fun b t y _ e=>s5 _ _ e).keepT ap.a t7).keepT ap.a t8
   have KK8:Keeps [o,o+1,oo] h1 h8:=((kk2.trans (s5.keep o)).trans (t7.keep.trans t8.keep)).keeps (by simp)
   refine ALoad.one rfl q8.str rfl ?_;conv=>whnf
   have lk8:LogOk c.asks:=ok.lk.same rfl rfl
   refine ACalls.mono (sendAll_any ap ⟨_,q8⟩ lk8 ok.nk (by show c.out.posts.length≤_;rw [hout];simp [out0])) ?_;rintro _ h9 ⟨rfl,k9,kk9⟩;conv=>whnf
   obtain ⟨y1,y2,y3,y4,y5,y6,y7,y8⟩:=sends_more c.asks.others c.asks
   have hsr:∀ (l:List Int) (d:CoreM),(l.foldl CoreM.send d).out.reads=d.out.reads:=by
    intro l
    induction l with
    | nil=>intro d;rfl
    | cons n l ih=>intro d;rw [List.foldl_cons,ih];unfold CoreM.send;split <;> rfl
   refine ACalls.mono (confirm_any ap k9 lk8.sendAll (by unfold CoreM.sendAll;rw [y1];exact ok.s1) (by unfold CoreM.sendAll;rw [y1];exact ok.s2) (by unfold CoreM.sendAll;rw [hsr,y7];show c.out.reads.length+(c.reads++[c.round+1]).length≤_;rw [hout,List.length_append];simp [out0];omega)) ?_;rintro _ h10 ⟨rfl,k10,kk10⟩;conv=>whnf
   have KK:Keeps [o,o+1,oo] h1 h10:=KK8.trans ((kk9.mono (by simp)).trans (kk10.mono (by simp)))
   have kb:h10 b3=some (row (0,1) (outCells out0 ox0) 65):=KK _ _ _ (by have:=ap.c;have:=ap.d;simp;omega) k1
   refine ACalls.mono (done_any ap.a ap.c ap.d k10) ?_;rintro _ h11 ⟨ox,rfl,o11,q11,kk11⟩;conv=>whnf
   refine AStore.aggN rfl rfl rfl ((kk11.get (Ne.symm ap.c) kb)) rfl (outCells _ ox) rfl fun h12 t12 k12 a12 e12=>?_;conv=>whnf
   refine ALoad.agg rfl k12 rfl rfl ?_;conv=>whnf
   exact .inr ⟨he,_,rfl,told_end ap n1 ((s1.keeps _).trans KK) kk11 o11 q11 t12 e12⟩
 ·refine ACmp.yes (c1) ?_;conv=>whnf
  refine AStore.aggN rfl rfl rfl (k1) rfl (outCells out0 ox0) rfl fun h3 t3 k3 a3 e3=>?_;conv=>whnf
  refine ALoad.agg rfl k3 rfl rfl ?_;conv=>whnf
  have he:c.readE=200:=by unfold CoreM.readE;rw [if_pos c1]
  exact .inl ⟨by rw [he];decide,by rw [he];rfl,a3 h s1 n1⟩
end Go.Ah
