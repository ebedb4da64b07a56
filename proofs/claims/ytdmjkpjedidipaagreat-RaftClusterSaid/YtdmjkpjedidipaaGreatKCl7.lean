/- Texts that the law leans on, one behind the other. -/
import Derived.Test.YtdmjkpjedidipaaGreatKCl6
namespace Go.Ah
open Go.Proofs
set_option linter.unusedVariables false
set_option linter.unusedSimpArgs false
set_option maxRecDepth 20000
section
variable {g:Gh} {n:Int} {s:SavedM} {c:CoreM} {A:List Abs}
def Gh.takes (g:Gh) (n t:Int) (st:Nat):Gh :=
  {g with H:={g.H with acc:=fun m u=>if m=n∧u=t then max (g.H.acc m u) st else g.H.acc m u}}
theorem match_at {A B:List Abs} (ga:Good g.H A) (gb:Good g.H B) {i:Nat} (h1:i≤A.length) (h2:i≤B.length) (h:termAt A i=termAt B i):Pre i A B:=by
 by_cases z:i=0
 ·subst z;exact ⟨by omega,by omega,fun k hk=>by omega⟩
 ·obtain ⟨a,ha⟩:∃ a,A[i-1]? = some a:=⟨A[i-1],by simp⟩
  obtain ⟨b,hb⟩:∃ b,B[i-1]? = some b:=⟨B[i-1],by simp⟩
  have ta:=termAt_some ha
  have tb:=termAt_some hb
  rw [show i-1+1=i by omega] at ta tb
  obtain ⟨_,_,pa⟩:=ga.lm _ a ha
  obtain ⟨_,_,pb⟩:=gb.lm _ b hb
  rw [show i-1+1=i by omega] at pa pb
  rw [show a.1=b.1 by omega] at pa
  exact pa.trans pb.symm
theorem Good.take {H:Hist} {A:List Abs} (k:Good H A) (i:Nat):Good H (A.take i):=by
 have get:∀ (j:Nat) (e:Abs),(A.take i)[j]? = some e→A[j]? = some e∧j<i:=fun j e h=>by
  rw [List.getElem?_take] at h
  split at h
  ·exact ⟨h,by assumption⟩
  ·cases h
 refine ⟨fun j e h=>?_,fun j m e f hjm he hf=>k.mono j m e f hjm (get j e he).1 (get m f hf).1⟩
 obtain ⟨h1,h2⟩:=get j e h
 obtain ⟨a,b,d⟩:=k.lm j e h1
 refine ⟨a,b,Pre.trans ?_ d⟩
 have hl:=(List.getElem?_eq_some_iff.1 h1).1
 exact Pre.of_take (by rw [List.length_take];omega) (by omega) (by rw [List.take_take,Nat.min_eq_left (by omega)])
theorem Mid.took (k:Mid g n s c A) (h0:c.state=0) (hl:g.H.led c.term≠0) (hln:g.H.led c.term≠n) (L':LG) (sn:SnapM) (cm:Int) (o:OutM) (A':List Abs) (st:Nat)
  (hA:A'=A∨∃ i,i≤(g.H.ll c.term).length∧A'=(g.H.ll c.term).take i) (pst:Pre st (g.H.ll c.term) A') (p2:∀ i,Pre i A (g.H.ll c.term)→Pre i A A')
  (rep:Rep L' A') (si:sn.index=L'.bi) (s0:L'.bi=0→sn=snap0) (s1:0<L'.bi→sn.term=L'.bt∧sn.crew=conf 14 (A'.take L'.bi.toNat)) (sd:sn.data.length≤8192)
  (c0:L'.bi≤cm) (c1:cm≤A'.length) (com:Com g.H c.term cm.toNat A') (kp:Kp s {c with log:=L',snap:=sn,commit:=cm,out:=o}) (out:∀ p∈o.posts,Msg g p) :
  ∃ g',Ext n g g'∧g'.lim=g.lim∧g'.tm=g.tm∧st≤g'.H.acc n c.term∧Mid g' n s {c with log:=L',snap:=sn,commit:=cm,out:=o} A':=by
 have sv:=k.srv
 have w:=k.w
 have hn1:=sv.n1;have hn2:=sv.n2
 have htm:=sv.tm
 obtain ⟨g',hg'⟩:∃ g',g'=g.takes n c.term st:=⟨_,rfl⟩
 have e1:g'.H.led=g.H.led:=by rw [hg'];rfl
 have e2:g'.H.ll=g.H.ll:=by rw [hg'];rfl
 have e3:g'.H.ini=g.H.ini:=by rw [hg'];rfl
 have e4:g'.H.q=g.H.q:=by rw [hg'];rfl
 have e5:∀ m u,g'.H.acc m u=if m=n∧u=c.term then max (g.H.acc m u) st else g.H.acc m u:=fun m u=>by rw [hg'];rfl
 have f1:g'.H.first=g.H.first:=by rw [hg'];rfl
 have f2:g'.tm=g.tm:=by rw [hg'];rfl
 have f3:g'.vt=g.vt:=by rw [hg'];rfl
 have f4:g'.cand=g.cand:=by rw [hg'];rfl
 have f5:g'.size=g.size:=by rw [hg'];rfl
 have f6:g'.lim=g.lim:=by rw [hg'];rfl
 clear hg'
 have x:Ext n g g':=by
  refine ⟨f5,by rw [f6];exact Int.le_refl _,f1,fun m _=>by rw [f2],by rw [f2];exact Int.le_refl _,fun m t _=>by rw [f3],fun m t _=>by rw [f3],fun t m _ _=>by rw [f4],fun t ht=>by rw [e1,e2,e3];exact ⟨rfl,rfl,Pre.refl (Nat.le_refl _)⟩,fun t ht h=>by rw [e1] at h;exact absurd ht h,fun t ht h=>by rw [e2],fun m u=>?_,fun m u h=>?_⟩
  ·rw [e5];split
   ·exact Nat.le_max_left _ _
   ·exact Nat.le_refl _
  ·rw [e5,if_neg];rintro ⟨rfl,rfl⟩
   rcases h with h | h
   ·exact h rfl
   ·omega
 have ho:=HOk.ext w x e1 e2 e3 e4
 have w':Wld g':=by
  refine ⟨ho,f1.trans w.first,by rw [f5];exact w.sz3,by rw [f5];exact w.sz5,fun t ht=>by rw [e1] at ht ⊢;rw [f2,f5];exact w.led t ht,fun t ht=>by rw [e1] at ht;rw [e2];exact w.ll0 t ht,fun m u=>?_,fun m u hu=>?_,fun t ht=>?_,fun t v ht hv=>by rw [e1] at ht ⊢;rw [e4] at hv;rw [f3];exact w.q t v ht hv,fun m u hu=>by rw [f3] at hu;rw [f2];exact w.vt m u hu,fun t e he=>by rw [f5];rw [e2] at he;exact w.eok t e he,fun t j e he=>by rw [e2] at he;exact w.ix t j e he,fun t m hm hv=>?_,fun m m1 m2=>by rw [f2,f6];rw [f5] at m2;exact w.l1 m m1 m2,fun t=>by rw [e2,f6];exact w.l2 t,by rw [f6];exact w.l3⟩
  ·rw [e5,e2];split
   ·rename_i z;rw [z.2];have:=w.acc m c.term;have:=pst.a;exact Nat.max_le.2 ⟨by assumption,by assumption⟩
   ·exact w.acc m u
  ·rw [f2];rw [e5] at hu
   split at hu
   ·rename_i z;rw [z.1,z.2,htm];exact Int.le_refl _
   ·exact w.acc0 m u hu
  ·rw [e1] at ht ⊢;rw [e2,e5,if_neg]
   ·exact w.accL t ht
   ·rintro ⟨z1,z2⟩;rw [z2] at z1;exact hln z1
  ·rw [f3] at hv;rw [f4]
   obtain ⟨a,b⟩:=w.cg t m hm hv
   exact ⟨x.good a,b⟩
 have hLT:∀ (j:Nat) (e:Abs),(g.H.ll c.term)[j]? = some e→e.1≤c.term:=fun j e h=>w.ok.top c.term j e hl h
 have facts:Good g.H A'∧(∀ (j:Nat) (e:Abs),A'[j]? = some e→e.1≤c.term)∧(∀ e∈A',EOk g.size e)∧(A'.length:Int)≤g.lim:=by
  rcases hA with rfl | ⟨i,hi,rfl⟩
  ·exact ⟨sv.good,sv.low,sv.eok,sv.al⟩
  ·refine ⟨(w.ok.log _ hl).take i,fun j e h=>?_,fun e he=>w.eok c.term e (List.mem_of_mem_take he),?_⟩
   ·rw [List.getElem?_take] at h
    split at h
    ·exact hLT j e h
    ·cases h
   ·have:=w.l2 c.term
    rw [List.length_take];omega
 obtain ⟨fa,fb,fc,fd⟩:=facts
 refine ⟨g',x,f6,f2,by rw [e5,if_pos ⟨rfl,rfl⟩];exact Nat.le_max_right _ _,w',?_,kp,fun p hp=>x.msg w (out p hp)⟩
 exact {
  n1:=sv.n1,n2:=by rw [f5];exact sv.n2,self:=sv.self,first:=sv.first,tm:=by rw [f2];exact sv.tm,t0:=sv.t0,rep:=rep,si:=si,s0:=s0,s1:=s1,sd:=sd
  good:=x.good fa,low:=fb,eok:=by rw [f5];exact fc,al:=by rw [f6];exact fd
  vl:=fun u i hu hul hw hi=>by
   rw [e1] at hul
   rw [e2]
   have keepIt:Pre i (g.H.ll u) A→Pre i (g.H.ll u) A'∨∃ z,u<z∧z≤c.term∧g'.H.led z≠0∧¬ Pre i (g.H.ll u) (g'.H.ini z):=fun p=>by
    by_cases z:u=c.term
    ·left
     rw [z] at p ⊢
     exact p.trans (p2 i p.symm)
    ·by_cases q:Pre i (g.H.ll u) (g.H.ini c.term)
     ·left
      exact p.trans (p2 i (p.symm.trans (q.trans ((w.ok.ini _ hl).le q.b))))
     ·right
      have hu':u≤c.term:=hu
      exact ⟨c.term,by omega,Int.le_refl _,by rw [e1];exact hl,by rw [e3];exact q⟩
   have hw':Own1 g.H u i:=by
    obtain ⟨j,e,hj,he,heu⟩:=hw
    exact ⟨j,e,hj,by rw [← e2];exact he,heu⟩
   have old:i≤g.H.acc n u→Pre i (g.H.ll u) A'∨∃ z,u<z∧z≤c.term∧g'.H.led z≠0∧¬ Pre i (g.H.ll u) (g'.H.ini z):=fun hi=>by
    rcases sv.vl u i hu hul hw' hi with p | ⟨z,z1,z2,z3,z4⟩
    ·exact keepIt p
    ·exact .inr ⟨z,z1,z2,by rw [e1];exact z3,by rw [e3];exact z4⟩
   rw [e5] at hi
   split at hi
   ·rename_i z
    rcases Nat.le_total (g.H.acc n u) st with h | h
    ·rw [Nat.max_eq_right h] at hi
     left;rw [z.2];exact pst.le hi
    ·rw [Nat.max_eq_left h] at hi;exact old hi
   ·exact old hi
  c0:=c0,c1:=c1,com:=x.com (Int.le_refl _) com,vote:=by rw [f3];exact sv.vote,vr0:=sv.vr0,vr1:=sv.vr1
  st := .inl h0
  lead:=fun h=>by have h':c.state=2:=h;omega
  lc:=fun h=>by have h':c.state=2:=h;omega
  cand:=fun h=>by have h':c.state=1:=h;omega
  idle:=sv.idle
  q1:=sv.q1,q2:=sv.q2,w1:=sv.w1,w2:=sv.w2,b0:=sv.b0,b1:=sv.b1,b2:=sv.b2,v1:=sv.v1,v2:=sv.v2,r1:=sv.r1
  r2:=by rw [f6];exact sv.r2
  rl:=by rw [f6];exact sv.rl}
end
section
variable {g:Gh} {n:Int} {s:SavedM} {c:CoreM} {A:List Abs}
theorem Mid.heardOf (k:Mid g n s c A) {from_ draw:Int} (hd:0≤draw):Mid g n s {c.follow with head:=from_,quiet:=0,wait:=waits draw} A:=by
 obtain ⟨w1,w2⟩:=waits_in hd
 have kf:=k.follow
 exact ⟨kf.w,{kf.srv with q1:=Int.le_refl 0,q2:=by show (0:Int)≤10;omega,w1:=by show 1≤waits draw;omega,w2:=w2},⟨kf.kp.hard,kf.kp.log⟩,kf.out⟩
theorem Mid.refuse (k:Mid g n s c A) {p:PostM} (m:Msg g p) (hd:p.dst=n) (ht:p.term<c.term):Mid g n s (c.refuse p) A:=by
 have sv:=k.srv
 have hself:=sv.self
 have hn1:=sv.n1;have hn2:=sv.n2
 have hlim:=k.w.lim0 sv
 have ht1:1≤c.term:=by have:=m.t1;omega
 have htm:c.term≤g.tm c.self:=by rw [hself,sv.tm];exact Int.le_refl _
 have hne:c.self≠p.src:=by rw [hself,← hd];exact fun h=>m.ne h.symm
 unfold CoreM.refuse
 split
 ·exact k.say ⟨by show 1≤c.self;omega,by show c.self≤g.size;omega,m.s1,m.s2,hne,ht1,htm,Int.le_refl 0,hlim, .inr (.inl ⟨rfl,rfl,fun h=>by cases h⟩)⟩
 ·split
  ·exact k.say ⟨by show 1≤c.self;omega,by show c.self≤g.size;omega,m.s1,m.s2,hne,ht1,htm,Int.le_refl 0,hlim, .inr (.inr (.inr (.inl ⟨rfl,rfl,Int.le_refl 0,hlim,fun h=>by cases h⟩)))⟩
  ·exact k
theorem fresh_at (c:CoreM):∀ l:List Abs,∃ k:Nat,k≤l.length∧c.log.fresh l=l.drop k∧(∀ j e,j<k→l[j]? = some e→c.has e.2.1 e.1=true)∧(k<l.length→∃ e,l[k]? = some e∧c.has e.2.1 e.1=false)
 | []=>⟨0,Nat.le_refl _,rfl,fun j e h=>absurd h (by omega),fun h=>by simp at h⟩
 | e::r=>by
  by_cases h:c.has e.2.1 e.1=true
  ·obtain ⟨k,k1,k2,k3,k4⟩:=fresh_at c r
   refine ⟨k+1,by simp;omega,?_,fun j e' hj he=>?_,fun hk=>?_⟩
   ·unfold LG.fresh
    rw [if_pos (by unfold CoreM.has at h;simpa using h)]
    simpa using k2
   ·cases j with
    | zero=>simp at he;rw [← he];exact h
    | succ j=>exact k3 j e' (by omega) (by simpa using he)
   ·obtain ⟨e',he,hf⟩:=k4 (by simp at hk;omega)
    exact ⟨e',by simpa using he,hf⟩
  ·refine ⟨0,Nat.zero_le _,?_,fun j e h=>absurd h (by omega),fun _=>⟨e,rfl,Bool.eq_false_iff.2 h⟩⟩
   unfold LG.fresh
   rw [if_neg (by unfold CoreM.has at h;simpa using h)]
   rfl
theorem Mid.append (k:Mid g n s c A) (h0:c.state=0) {p:PostM} (m:Msg g p) (hk:p.kind=3) (hd:p.dst=n) (ht:p.term=c.term) (o1:c.out.snap.index=0) (o2:c.out.cut=0) (o3:c.out.entries=[]) :
  ∃ g' A',Ext n g g'∧g'.lim=g.lim∧Mid g' n s (c.append p) A':=by
 have sv:=k.srv
 have w:=k.w
 have hself:=sv.self
 have hn1:=sv.n1;have hn2:=sv.n2
 have hlim:=w.lim0 sv
 obtain ⟨_,_,m1,m2,m3,m4,m5,m6,m7,m8,m9,m10⟩:p.kind=3∧p={post0 with kind:=3,src:=p.src,dst:=p.dst,term:=p.term,index:=p.index,logTerm:=p.logTerm,commit:=p.commit,hint:=p.hint,entries:=p.entries}∧g.H.led p.term=p.src∧0≤p.index∧p.index≤(g.H.ll p.term).length∧p.logTerm=termAt (g.H.ll p.term) p.index.toNat ∧
   p.entries.length≤8∧p.index+p.entries.length≤(g.H.ll p.term).length∧p.entries=((g.H.ll p.term).drop p.index.toNat).take p.entries.length∧0≤p.commit∧p.commit≤(g.H.ll p.term).length∧Com g.H p.term p.commit.toNat (g.H.ll p.term):=by
  rcases m.body with z | z | z | z | z | z
  ·omega
  ·omega
  ·exact z
  ·omega
  ·omega
  ·omega
 rw [ht] at m1 m3 m4 m6 m7 m9 m10
 have hl:g.H.led c.term≠0:=by rw [m1];have:=m.s1;omega
 have hln:g.H.led c.term≠n:=by rw [m1,← hd];exact m.ne
 have gl:=w.ok.log _ hl
 obtain ⟨LT,hLT⟩:∃ LT,LT=g.H.ll c.term:=⟨_,rfl⟩
 rw [← hLT] at m3 m4 m6 m7 m9 m10 gl
 have ht1:=(w.led _ hl).1
 have htm:c.term≤g.tm c.self:=by rw [hself,sv.tm];exact Int.le_refl _
 have hne:c.self≠p.src:=by rw [hself,← hd];exact fun h=>m.ne h.symm
 have hb:=sv.rep.lo;have hble:=sv.rep.le
 have hc0:=sv.c0;have hc1:=sv.c1
 have pc:Pre c.commit.toNat A LT:=by rw [hLT];exact Com.in_ w sv.com hl (Int.le_refl _) (by omega)
 have ixL:∀ (j:Nat) (e:Abs),LT[j]? = some e→e.2.1=j+1:=fun j e h=>by rw [hLT] at h;exact w.ix _ j e h
 obtain ⟨j,hj0,hj1,hj2,hjl⟩:∃ j:Nat,aIndex c p=j∧c.log.bi≤j∧(aTerm c p=termAt LT j∧(p.index<c.log.bi→Pre j A LT))∧aList c p=(LT.drop j).take (aList c p).length∧j+(aList c p).length≤LT.length∧((aList c p)=[]→p.index+p.entries.length≤j)∧((aList c p)≠[]→p.index+p.entries.length=j+(aList c p).length):=by
  by_cases low:p.index<c.log.bi
  ·have e1:aIndex c p=c.log.bi:=if_pos low
   have e2:aTerm c p=c.log.bt:=if_pos low
   have e3:aList c p=p.entries.drop (c.log.bi-p.index).toNat:=if_pos low
   have pb:=pc.le (show c.log.bi.toNat≤c.commit.toNat by omega)
   refine ⟨c.log.bi.toNat,by rw [e1];omega,by omega,⟨by rw [e2,sv.rep.bt];exact pb.termAt (Nat.le_refl _),fun _=>pb⟩,?_,?_,fun h=>?_,fun h=>?_⟩
   ·rw [e3]
    apply List.ext_getElem?
    intro i
    have:=congrArg (fun l=>l[(c.log.bi-p.index).toNat+i]?) m7
    simp only [List.getElem?_take,List.getElem?_drop] at this ⊢
    rw [this,List.length_drop,show p.index.toNat+((c.log.bi-p.index).toNat+i)=c.log.bi.toNat+i by omega]
    by_cases h1:(c.log.bi-p.index).toNat+i<p.entries.length
    ·rw [if_pos h1,if_pos (by omega)]
    ·rw [if_neg h1,if_neg (by omega)]
   ·rw [e3,List.length_drop];have:=pb.b;omega
   ·rw [e3] at h
    have:=congrArg List.length h
    rw [List.length_drop] at this;simp at this;omega
   ·rw [e3,List.length_drop]
    have:0<(p.entries.drop (c.log.bi-p.index).toNat).length:=by rw [← e3];exact List.length_pos_iff.2 h
    rw [List.length_drop] at this;omega
  ·have e1:aIndex c p=p.index:=if_neg low
   have e2:aTerm c p=p.logTerm:=if_neg low
   have e3:aList c p=p.entries:=if_neg low
   refine ⟨p.index.toNat,by rw [e1];omega,by omega,⟨by rw [e2];exact m4,fun h=>absurd h low⟩,by rw [e3];exact m7,by rw [e3];omega,fun h=>?_,fun h=>by rw [e3];omega⟩
   rw [e3] at h;rw [h];simp;omega
 obtain ⟨hj2,hj3⟩:=hj2
 obtain ⟨l1,l2,l3,l4⟩:=hjl
 rw [CoreM.append_eq,hj0]
 generalize hll:aList c p=ll at *
 have lget:∀ (i:Nat) (e:Abs),ll[i]? = some e→LT[j+i]? = some e:=fun i e h=>by
  rw [l1,List.getElem?_take] at h
  split at h
  ·rw [List.getElem?_drop] at h;exact h
  ·cases h
 have lput:∀ (i:Nat),i<ll.length→∃ e,ll[i]? = some e:=fun i h=>⟨ll[i],by simp⟩
 by_cases hh:c.has (j:Int) (aTerm c p)=true
 ·obtain ⟨r1,r2,r3⟩:=(sv.rep.has c rfl (j:Int) (aTerm c p)).1 hh
  rw [Int.toNat_natCast,hj2] at r3
  have pj:Pre j A LT:=match_at sv.good gl (by omega) (by omega) r3
  have hhl:headLow (aTerm c p) ll=false:=by
   cases hcl:ll with
   | nil=>rfl
   | cons e r =>
    show decide (e.1<aTerm c p)=false
    refine decide_eq_false ?_
    have he:=lget 0 e (by rw [hcl];rfl)
    rw [hj2]
    by_cases z:j=0
    ·unfold termAt;rw [if_pos z];have:=(gl.lm _ e he).1;omega
    ·obtain ⟨a,ha⟩:∃ a,LT[j-1]? = some a:=⟨LT[j-1],by simp⟩
     have ta:=termAt_some ha
     rw [show j-1+1=j by omega] at ta
     rw [ta]
     have:=gl.mono (j-1) (j+0) a e (by omega) ha he
     omega
  rw [if_neg (by rw [hh,hhl];simp)]
  unfold CoreM.appendOk
  obtain ⟨stop,hstop⟩:∃ stop:Nat,p.index+(p.entries.length:Int)=stop:=⟨(p.index+p.entries.length).toNat,by omega⟩
  simp only [hstop]
  have hsl:stop≤LT.length:=by omega
  obtain ⟨q,q1,q2,q3,q4⟩:=fresh_at c ll
  have pq:Pre (j+q) A LT:=by
   by_cases z:q=0
   ·rw [z];exact pj
   ·obtain ⟨e,he⟩:=lput (q-1) (by omega)
    have hq:=q3 (q-1) e (by omega) he
    have heL:=lget _ e he
    have hx:=ixL _ e heL
    obtain ⟨b1,b2,b3⟩:=(sv.rep.has c rfl e.2.1 e.1).1 hq
    have ht':=termAt_some heL
    rw [hx] at b2 b3
    rw [show ((((j+(q-1):Nat):Int))+1).toNat=j+q by omega] at b3
    rw [show j+(q-1)+1=j+q by omega] at ht'
    exact match_at sv.good gl (by omega) (by omega) (by rw [b3,ht'])
  have hes0:c.snap=s.snap∧c.log.es=s.entries:=by
   rcases k.kp.log with ⟨_,_,a,b⟩ | ⟨_,a,_⟩ | ⟨a,_⟩
   ·rw [o3,List.append_nil] at b;exact ⟨a,b⟩
   ·omega
   ·omega
  have hlast:=sv.rep.last
  have fin:∀ (L':LG) (o':OutM) (A':List Abs),(A'=A∨A'=LT.take stop)→Pre stop LT A'→(∀ i,Pre i A LT→Pre i A A')→Rep L' A'→L'.bi=c.log.bi→L'.bt=c.log.bt →
    o'.posts=c.out.posts→Kp s {c with log:=L',out:=o'}→∃ g' A'',Ext n g g'∧g'.lim=g.lim ∧
    Mid g' n s (({({c with log:=L',out:=o'}:CoreM) with commit:=if c.commit<(if (stop:Int)<p.commit then (stop:Int) else p.commit) then (if (stop:Int)<p.commit then (stop:Int) else p.commit) else c.commit}:CoreM).say p.src {post0 with kind:=4,ok:=true,index:=stop,hint:=p.hint}) A'':=by
   intro L' o' A' hA pst p2 rep hbi hbt hpo kp
   have pcA:Pre c.commit.toNat A A':=p2 _ pc
   obtain ⟨cm,hcm⟩:∃ cm:Int,cm=if c.commit<(if (stop:Int)<p.commit then (stop:Int) else p.commit) then (if (stop:Int)<p.commit then (stop:Int) else p.commit) else c.commit:=⟨_,rfl⟩
   rw [← hcm]
   have hcm2:(cm=c.commit)∨(c.commit<cm∧cm≤stop∧cm≤p.commit):=by
    obtain ⟨m0,hm0⟩:∃ m0:Int,m0=if (stop:Int)<p.commit then (stop:Int) else p.commit:=⟨_,rfl⟩
    have h1:m0≤stop∧m0≤p.commit:=by rw [hm0];split <;> omega
    rw [← hm0] at hcm
    by_cases z:c.commit<m0
    ·rw [if_pos z] at hcm;right;omega
    ·rw [if_neg z] at hcm;exact .inl hcm
   clear hcm
   have hcA:cm≤A'.length∧Com g.H c.term cm.toNat A':=by
    rcases hcm2 with e | ⟨e1,e2,e3⟩
    ·rw [e];exact ⟨by have:=pcA.b;omega,sv.com.move pcA⟩
    ·refine ⟨by have:=pst.b;omega,?_⟩
     have z:=(m10.less (show cm.toNat≤p.commit.toNat by omega)).move (B:=A') (pst.le (by omega))
     exact z
   obtain ⟨g',x,xl,xt,xa,km⟩:=k.took h0 hl hln L' c.snap cm o' A' stop (by rw [← hLT];exact hA.imp id fun h=>⟨stop,hsl,h⟩) (by rw [← hLT];exact pst) (by rw [← hLT];exact p2) rep (by rw [hbi];exact sv.si) (fun h=>sv.s0 (by rw [← hbi];exact h))
    (fun h=>by rw [hbi] at h;have:=sv.s1 h;rw [hbi,hbt,← pcA.take_le (show c.log.bi.toNat≤c.commit.toNat by omega)];exact this) sv.sd (by rw [hbi];rcases hcm2 with e | ⟨e1,_⟩ <;> omega) hcA.1 hcA.2 ⟨kp.hard,kp.log⟩ (by rw [hpo];exact k.out)
   refine ⟨g',A',x,xl,km.say ?_⟩
   have mx:=x.msg w m
   refine ⟨by show 1≤c.self;omega,by show c.self≤g'.size;rw [x.size];omega,m.s1,by show p.src≤g'.size;rw [x.size];exact m.s2,hne,ht1,by show c.term≤g'.tm c.self;rw [xt];exact htm,m.h0,by show p.hint≤g'.lim;rw [xl];exact m.h1, .inr (.inr (.inr (.inl ⟨rfl,rfl,by show (0:Int)≤(stop:Int);omega,?_,fun _=>?_⟩)))⟩
   ·show (stop:Int)≤g'.lim
    rw [xl];have:=w.l2 c.term;rw [← hLT] at this;omega
   ·show ((stop:Int)).toNat≤g'.H.acc c.self c.term
    rw [hself,Int.toNat_natCast];exact xa
  by_cases hq:q=ll.length
  ·
   have hf:c.log.fresh ll=[]:=by rw [q2,hq,List.drop_length]
   rw [appendRest_nil hf]
   rw [hq] at pq
   have pst:Pre stop LT A:=by
    by_cases z:ll=[]
    ·have:=l3 z;rw [z] at pq;exact (pq.le (by simp;omega)).symm
    ·have:=l4 z;exact (pq.le (by omega)).symm
   exact fin c.log c.out A (.inl rfl) pst (fun i h=>Pre.refl h.a) sv.rep rfl rfl rfl ⟨k.kp.hard,k.kp.log⟩
  ·obtain ⟨e0,he0,hno⟩:=q4 (by omega)
   have hne2:ll≠[]:=fun z=>by rw [z] at he0;simp at he0
   have hst:stop=j+ll.length:=by have:=l4 hne2;omega
   have heL:=lget q e0 he0
   have hx:=ixL _ e0 heL
   obtain ⟨fr,hfr⟩:∃ fr,ll.drop q=e0::fr:=⟨ll.drop (q+1),by rw [List.drop_eq_getElem_cons (by omega),(List.getElem?_eq_some_iff.1 he0).2]⟩
   have hf:c.log.fresh ll=e0::fr:=by rw [q2,hfr]
   rw [appendRest_cons hf]
   have hfL:e0::fr=(LT.drop (j+q)).take (ll.length-q):=by
    rw [← hfr,l1,List.drop_take,List.drop_drop,List.length_take,List.length_drop]
    congr 1;omega
   have hkeep:∀ i,Pre i A LT→i≤j+q:=fun i hi=>by
    by_cases z:i≤j+q
    ·exact z
    ·exfalso
     have hiA:=hi.a
     have:c.has e0.2.1 e0.1=true:=by
      rw [sv.rep.has c rfl]
      refine ⟨by rw [hx];omega,by rw [hx];omega,?_⟩
      rw [hx,show ((((j+q:Nat):Int))+1).toNat=j+q+1 by omega,hi.termAt (by omega)]
      exact termAt_some heL
     rw [this] at hno;cases hno
   have htk:A.take (j+q)=LT.take (j+q):=pq.take
   have hAq:j+q≤A.length:=pq.a
   obtain ⟨D,hD⟩:∃ D,D=c.cutAt e0:=⟨_,rfl⟩
   have hDf:Rep D.log (A.take (j+q))∧D.log.bi=c.log.bi∧D.log.bt=c.log.bt∧D.out.posts=c.out.posts∧D={c with log:=D.log,out:=D.out}∧Kp s D∧D.out.snap.index=0:=by
    rw [hD]
    unfold CoreM.cutAt
    rw [hlast]
    simp only []
    by_cases z:e0.2.1≤(A.length:Int)
    ·rw [if_pos z]
     have rc:=sv.rep.cut (i:=e0.2.1) (by rw [hx];omega) (by omega)
     rw [hx,show ((((j+q:Nat):Int))+1-1).toNat=j+q by omega] at rc
     rw [hx]
     refine ⟨rc.1,rc.2,?_,rfl,rfl,⟨k.kp.hard, .inr (.inl ⟨o1,?_,?_,?_,hes0.1,?_⟩)⟩,o1⟩
     ·simp only [LG.cut];split <;> rfl
     ·show 0<((j+q:Nat):Int)+1;omega
     ·show s.snap.index<((j+q:Nat):Int)+1;rw [← hes0.1,sv.si];omega
     ·show ((j+q:Nat):Int)+1≤s.snap.index+s.entries.length
      rw [← hes0.1,sv.si,← hes0.2,sv.rep.len];omega
     ·show (c.log.cut (((j+q:Nat):Int)+1)).2.es=s.entries.take ((((j+q:Nat):Int)+1)-s.snap.index-1).toNat++c.out.entries
      rw [o3,List.append_nil,← hes0.1,← hes0.2,sv.si]
      unfold LG.cut
      rw [if_pos (by unfold LG.reach;have:=sv.rep.len;simp;omega)]
    ·rw [if_neg z]
     have:j+q=A.length:=by omega
     rw [this,List.take_length]
     exact ⟨sv.rep,rfl,rfl,rfl,rfl,⟨k.kp.hard,k.kp.log⟩,o1⟩
   obtain ⟨d1,d2,d3,d4,d5,d6,d7⟩:=hDf
   rw [← hD]
   have hAA:A.take (j+q)++(e0::fr)=LT.take stop:=by
    rw [htk,hfL,hst,← List.take_add]
    congr 1;omega
   have happ:(D.log.append (e0::fr)).1=0:=by
    refine d1.append_ok _ (fun i e he=>?_) fun i i' e f hii he hf=>?_
    ·rw [hfL,List.getElem?_take] at he
     split at he
     ·rw [List.getElem?_drop] at he
      have hxe:=ixL _ e he
      have hlm:=(gl.lm _ e he).1
      have hee:=w.eok c.term e (by rw [← hLT];exact List.mem_of_getElem? he)
      have htop:=w.ok.top c.term _ e hl (by rw [← hLT];exact he)
      have hil:=(List.getElem?_eq_some_iff.1 he).1
      have:=w.l2 c.term;rw [← hLT] at this
      have:=w.l3
      have:=w.l1 n hn1 hn2;rw [← sv.tm] at this
      refine ⟨by rw [hxe,List.length_take];omega,hlm,by omega,by rw [hxe];omega,hee.k0,hee.k2,hee.len⟩
     ·cases he
    ·rw [hAA] at he hf
     rw [List.getElem?_take] at he hf
     split at he
     ·split at hf
      ·exact gl.mono i i' e f hii he hf
      ·cases hf
     ·cases he
   obtain ⟨rp,rb⟩:=d1.append _ happ
   obtain ⟨ae,ab⟩:=append_es happ
   rw [hAA] at rp
   have hDc:D.commit=c.commit:=by rw [d5]
   have e:({({D with log:=(D.log.append (e0::fr)).2,out:={D.out with entries:=D.out.entries++e0::fr}}:CoreM) with commit:=if ({D with log:=(D.log.append (e0::fr)).2,out:={D.out with entries:=D.out.entries++e0::fr}}:CoreM).commit<(if (stop:Int)<p.commit then (stop:Int) else p.commit) then (if (stop:Int)<p.commit then (stop:Int) else p.commit) else ({D with log:=(D.log.append (e0::fr)).2,out:={D.out with entries:=D.out.entries++e0::fr}}:CoreM).commit}:CoreM) =
     {({c with log:=(D.log.append (e0::fr)).2,out:={D.out with entries:=D.out.entries++e0::fr}}:CoreM) with commit:=if c.commit<(if (stop:Int)<p.commit then (stop:Int) else p.commit) then (if (stop:Int)<p.commit then (stop:Int) else p.commit) else c.commit}:=by
    rw [d5]
   have kp':=d6.push (xs:=e0::fr) ae d7
   have kp'':Kp s {c with log:=(D.log.append (e0::fr)).2,out:={D.out with entries:=D.out.entries++e0::fr}}:=by
    have e2:({D with log:=(D.log.append (e0::fr)).2,out:={D.out with entries:=D.out.entries++e0::fr}}:CoreM)={c with log:=(D.log.append (e0::fr)).2,out:={D.out with entries:=D.out.entries++e0::fr}}:=by rw [d5]
    rw [← e2];exact kp'
   have:=fin (D.log.append (e0::fr)).2 {D.out with entries:=D.out.entries++e0::fr} (LT.take stop) (.inr rfl) (Pre.of_take hsl (by rw [List.length_take];omega) (by rw [List.take_take,Nat.min_self]))
    (fun i h=>by
     have hi:=hkeep i h
     exact h.trans (Pre.of_take h.b (by rw [List.length_take];have:=h.b;omega) (by rw [List.take_take,Nat.min_eq_left (by omega)]))) rp (rb.trans d2) (ab.trans d3) d4 kp''
   rw [← e] at this
   exact this
 ·rw [if_pos (.inl (Bool.eq_false_iff.2 hh))]
  have hnl:¬ p.index<c.log.bi:=fun low=>by
   have pj:=hj3 low
   refine hh ((sv.rep.has c rfl (j:Int) (aTerm c p)).2 ⟨hj1,by have:=pj.a;omega,?_⟩)
   rw [Int.toNat_natCast,hj2];exact pj.termAt (Nat.le_refl _)
  have hj1':1≤j:=by
   by_cases z:j=0
   ·exfalso
    refine hh ((sv.rep.has c rfl (j:Int) (aTerm c p)).2 ⟨hj1,by omega,?_⟩)
    rw [Int.toNat_natCast,hj2,z];rfl
   ·omega
  refine ⟨g,A,Ext.refl _ _,rfl,k.say ?_⟩
  have hlast:=sv.rep.last
  refine ⟨by show 1≤c.self;omega,by show c.self≤g.size;omega,m.s1,m.s2,hne,ht1,htm,m.h0,m.h1, .inr (.inr (.inr (.inl ⟨rfl,rfl,?_,?_,fun h=>by cases h⟩)))⟩
  ·show 0≤if c.log.last.1<(j:Int)-1 then c.log.last.1 else (j:Int)-1
   rw [hlast];split
   ·show 0≤(A.length:Int);omega
   ·omega
  ·show (if c.log.last.1<(j:Int)-1 then c.log.last.1 else (j:Int)-1)≤g.lim
   have:=sv.al
   rw [hlast];split
   ·exact this
   ·rename_i z;simp only [] at z;omega
end
section
variable {g:Gh} {n:Int} {s:SavedM} {c:CoreM} {A:List Abs}
theorem afterE_ix (ix:∀ (k:Nat) (e:Abs),A[k]? = some e→e.2.1=k+1) (i:Nat) (t:Int):∀ (d b:Nat),b+d+1=i→afterE i t (A.drop b)=if i≤A.length∧termAt A i=t then A.drop i else []
 | 0,b,h=>by
  by_cases hb:b<A.length
  ·rw [List.drop_eq_getElem_cons hb]
   have he:A[b]? = some A[b]:=by simp
   have hx:=ix b _ he
   have ht:=termAt_some he
   unfold afterE
   have hbi:b+1=i:=by omega
   rw [hbi] at ht
   by_cases c:termAt A i=t
   ·rw [if_pos ⟨by rw [hx];omega,by rw [← ht];exact c⟩,if_pos ⟨by omega,c⟩,hbi]
   ·rw [if_neg fun z=>c (by rw [ht];exact z.2),if_neg fun z=>c z.2]
    have none_:∀ l:List Abs,(∀ e∈l,e.2.1≠i)→afterE i t l=[]:=fun l=>by
     induction l with
     | nil=>intro _;rfl
     | cons x r ih =>
      intro h
      unfold afterE
      rw [if_neg fun z=>h x (by simp) z.1]
      exact ih fun e he=>h e (by simp [he])
    refine none_ _ fun e he=>?_
    obtain ⟨m,hm⟩:=List.getElem?_of_mem he
    rw [List.getElem?_drop] at hm
    have:=ix _ e hm
    omega
  ·rw [List.drop_of_length_le (by omega),if_neg (by omega)];rfl
 | d+1,b,h=>by
  by_cases hb:b<A.length
  ·rw [List.drop_eq_getElem_cons hb]
   have he:A[b]? = some A[b]:=by simp
   have hx:=ix b _ he
   unfold afterE
   rw [if_neg fun z=>by have:=z.1;omega]
   exact afterE_ix ix i t d (b+1) (by omega)
  ·rw [List.drop_of_length_le (by omega),if_neg (by omega)];rfl
theorem Mid.install (k:Mid g n s c A) (h0:c.state=0) {p:PostM} (m:Msg g p) (hk:p.kind=5) (hd:p.dst=n) (ht:p.term=c.term) (o1:c.out.snap.index=0) (o2:c.out.cut=0) (o3:c.out.entries=[]) :
  ∃ g' A',Ext n g g'∧g'.lim=g.lim∧Mid g' n s (c.install p) A':=by
 have sv:=k.srv
 have w:=k.w
 have hself:=sv.self
 have hn1:=sv.n1;have hn2:=sv.n2
 have hlim:=w.lim0 sv
 obtain ⟨m1,m2,m3,m4,m5,m6,m7⟩:g.H.led p.term=p.src∧1≤p.snap.index∧p.snap.index≤(g.H.ll p.term).length∧p.snap.term=termAt (g.H.ll p.term) p.snap.index.toNat ∧
   p.snap.crew=conf 14 ((g.H.ll p.term).take p.snap.index.toNat)∧p.snap.data.length≤8192∧Com g.H p.term p.snap.index.toNat (g.H.ll p.term):=by
  rcases m.body with z | z | z | z | z | z
  ·omega
  ·omega
  ·omega
  ·omega
  ·exact z.2.2
  ·omega
 rw [ht] at m1 m3 m4 m5 m7
 have hl:g.H.led c.term≠0:=by rw [m1];have:=m.s1;omega
 have hln:g.H.led c.term≠n:=by rw [m1,← hd];exact m.ne
 have gl:=w.ok.log _ hl
 obtain ⟨LT,hLT⟩:∃ LT,LT=g.H.ll c.term:=⟨_,rfl⟩
 rw [← hLT] at m3 m4 m5 m7 gl
 have ht1:=(w.led _ hl).1
 have htm:c.term≤g.tm c.self:=by rw [hself,sv.tm];exact Int.le_refl _
 have hne:c.self≠p.src:=by rw [hself,← hd];exact fun h=>m.ne h.symm
 have hb:=sv.rep.lo;have hble:=sv.rep.le
 have hc0:=sv.c0;have hc1:=sv.c1
 have pc:Pre c.commit.toNat A LT:=by rw [hLT];exact Com.in_ w sv.com hl (Int.le_refl _) (by omega)
 have hes0:c.snap=s.snap∧c.log.es=s.entries:=by
  rcases k.kp.log with ⟨_,_,a,b⟩ | ⟨_,a,_⟩ | ⟨a,_⟩
  ·rw [o3,List.append_nil] at b;exact ⟨a,b⟩
  ·omega
  ·omega
 have hlast:=sv.rep.last
 have fin:∀ (L':LG) (sn:SnapM) (cm:Int) (o':OutM) (A':List Abs),(A'=A∨∃ i,i≤LT.length∧A'=LT.take i)→Pre cm.toNat LT A'→(∀ i,Pre i A LT→Pre i A A')→Rep L' A'→sn.index=L'.bi→(L'.bi=0→sn=snap0)→(0<L'.bi→sn.term=L'.bt∧sn.crew=conf 14 (A'.take L'.bi.toNat))→sn.data.length≤8192 →
   L'.bi≤cm→cm≤A'.length→cm≤LT.length→Com g.H c.term cm.toNat A'→o'.posts=c.out.posts→Kp s {c with log:=L',snap:=sn,commit:=cm,out:=o'} →
   ∃ g' A'',Ext n g g'∧g'.lim=g.lim∧Mid g' n s (({c with log:=L',snap:=sn,commit:=cm,out:=o'}:CoreM).say p.src {post0 with kind:=6,index:=cm,hint:=p.hint}) A'':=by
  intro L' sn cm o' A' hA pst p2 rep si s0 s1 sd c0 c1 cL com hpo kp
  have hLb:=rep.lo
  obtain ⟨g',x,xl,xt,xa,km⟩:=k.took h0 hl hln L' sn cm o' A' cm.toNat (by rw [← hLT];exact hA) (by rw [← hLT];exact pst) (by rw [← hLT];exact p2) rep si s0 s1 sd c0 c1 com kp (by rw [hpo];exact k.out)
  refine ⟨g',A',x,xl,km.say ?_⟩
  refine ⟨by show 1≤c.self;omega,by show c.self≤g'.size;rw [x.size];omega,m.s1,by show p.src≤g'.size;rw [x.size];exact m.s2,hne,ht1,by show c.term≤g'.tm c.self;rw [xt];exact htm,m.h0,by show p.hint≤g'.lim;rw [xl];exact m.h1, .inr (.inr (.inr (.inr (.inr ⟨rfl,rfl,by show 0≤cm;omega,?_,?_⟩))))⟩
  ·show cm≤g'.lim
   rw [xl];have:=w.l2 c.term;rw [← hLT] at this;omega
  ·show cm.toNat≤g'.H.acc c.self c.term
   rw [hself];exact xa
 unfold CoreM.install
 by_cases hx:c.commit<p.snap.index
 ·rw [if_pos hx]
  have hhas:=sv.rep.has c rfl p.snap.index p.snap.term
  have kp3:∀ (L':LG),L'.es=(if p.snap.index.toNat≤A.length∧termAt A p.snap.index.toNat=p.snap.term then A.drop p.snap.index.toNat else [])→Kp s {c with log:=L',snap:=p.snap,commit:=p.snap.index,out:={c.out with snap:=p.snap}}:=fun L' hL=>by
   refine ⟨k.kp.hard, .inr (.inr ⟨by show 0<p.snap.index;omega,rfl,o2,o3,?_⟩)⟩
   show L'.es=afterE p.snap.index p.snap.term s.entries
   rw [← hes0.2,sv.rep.es,hL]
   have:=afterE_ix sv.rep.ix p.snap.index.toNat p.snap.term (p.snap.index.toNat-c.log.bi.toNat-1) c.log.bi.toNat (by omega)
   rw [show ((p.snap.index.toNat:Nat):Int)=p.snap.index by omega] at this
   exact this.symm
  by_cases hh:c.has p.snap.index p.snap.term=true
  ·obtain ⟨r1,r2,r3⟩:=hhas.1 hh
   obtain ⟨q1,q2,q3⟩:=sv.rep.compact (i:=p.snap.index) (by omega) r2
   rw [if_pos ⟨hh,q1⟩]
   have pS:Pre p.snap.index.toNat A LT:=match_at sv.good gl (by omega) (by omega) (by rw [r3,m4])
   refine fin (c.log.compact p.snap.index).2 p.snap p.snap.index {c.out with snap:=p.snap} A (.inl rfl) pS.symm (fun i h=>Pre.refl h.a) q2 q3.symm (fun h=>by rw [q3] at h;omega) (fun _=>?_) m6 (by rw [q3];exact Int.le_refl _) r2 m3 (m7.move pS.symm) rfl (kp3 _ ?_)
   ·rw [q2.bt,q3,pS.take]
    exact ⟨r3.symm,m5⟩
   ·rw [if_pos ⟨by omega,r3⟩,q2.es,q3]
  ·rw [if_neg fun z=>hh z.1]
   have hlen:(LT.take p.snap.index.toNat).length=p.snap.index.toNat:=by rw [List.length_take];omega
   have pL:Pre p.snap.index.toNat LT (LT.take p.snap.index.toNat):=Pre.of_take (by omega) (by omega) (by rw [List.take_take,Nat.min_self])
   have hno:¬(p.snap.index.toNat≤A.length∧termAt A p.snap.index.toNat=p.snap.term):=fun z=>hh (hhas.2 ⟨by omega,by omega,z.2⟩)
   have rp:Rep (lnew p.snap.index p.snap.term) (LT.take p.snap.index.toNat):=Rep.new (by omega) (by rw [hlen];omega) (by rw [hlen,← pL.termAt (Nat.le_refl _)];exact m4.symm) fun j e h=>by
    rw [List.getElem?_take] at h
    split at h
    ·rw [hLT] at h;exact w.ix _ j e h
    ·cases h
   refine fin (lnew p.snap.index p.snap.term) p.snap p.snap.index {c.out with snap:=p.snap} (LT.take p.snap.index.toNat) (.inr ⟨_,by omega,rfl⟩) pL (fun i h=>?_) rp rfl (fun h=>by have h':p.snap.index=0:=h;omega) (fun _=>⟨rfl,?_⟩) m6 (Int.le_refl _) (by rw [hlen];omega) m3 (m7.move pL) rfl (kp3 _ ?_)
   ·have hi:i≤p.snap.index.toNat:=by
     by_cases z:i≤p.snap.index.toNat
     ·exact z
     ·exact absurd ⟨by have:=h.a;omega,by rw [h.termAt (by omega)];exact m4.symm⟩ hno
    exact h.trans (pL.le hi)
   ·show p.snap.crew=conf 14 ((LT.take p.snap.index.toNat).take p.snap.index.toNat)
    rw [List.take_take,Nat.min_self];exact m5
   ·rw [if_neg hno];rfl
 ·rw [if_neg hx]
  exact fin c.log c.snap c.commit c.out A (.inl rfl) pc.symm (fun i h=>Pre.refl h.a) sv.rep sv.si sv.s0 sv.s1 sv.sd hc0 hc1 (by have:=pc.b;omega) sv.com rfl ⟨k.kp.hard,k.kp.log⟩
theorem Mid.told (k:Mid g n s c A) (h2:c.state=2) {p:PostM} (m:Msg g p) (hk:p.kind=4∨p.kind=6) (hd:p.dst=n) (ht:p.term=c.term):Mid g n s (c.told p) A:=by
 have sv:=k.srv
 have w:=k.w
 have hn1:=sv.n1;have hn2:=sv.n2;have hs5:=w.sz5
 obtain ⟨l1,l2,l3,l4⟩:=sv.lead h2
 have hl:g.H.led c.term≠0:=by rw [l1];omega
 have hms:=m.s1;have hms2:=m.s2
 have hne:p.src≠n:=by rw [← hd];exact m.ne
 have hlast:=sv.rep.last
 have hix:0≤p.index∧(p.ok=true∨p.kind=6→p.index.toNat≤g.H.acc p.src c.term):=by
  rcases m.body with z | z | z | ⟨z,_,a,_,b⟩ | z | ⟨z,_,a,_,b⟩
  ·omega
  ·omega
  ·omega
  ·rw [ht] at b;exact ⟨a,fun h=>h.elim b fun h=>by omega⟩
  ·omega
  ·rw [ht] at b;exact ⟨a,fun _=>b⟩
 have acc_le:∀ v,g.H.acc v c.term≤A.length:=fun v=>by rw [← l2];exact w.acc v c.term
 have hm3:=l3 p.src hms (by omega)
 have hn3:=l4 p.src hms (by omega)
 have hma:=acc_le p.src
 unfold CoreM.told
 simp only []
 by_cases hok:p.ok=true∨p.kind=6
 ·rw [if_pos hok]
  have hia:=hix.2 hok
  obtain ⟨mm,hmm⟩:∃ mm,mm=maxI (c.mtch.get p.src) (minI p.index c.log.last.1):=⟨_,rfl⟩
  have hm0:0≤mm∧mm.toNat≤g.H.acc p.src c.term:=by
   rw [hmm,hlast];unfold maxI minI;simp only []
   split <;> split <;> omega
  have hgs:(c.mtch.set p.src mm).get p.src=mm:=by rw [five_get_set _ _ _ _ hms (by omega),if_pos rfl]
  rw [← hmm]
  simp only [hgs]
  have k3:Mid g n s {c with heard:=c.heard.set p.src (maxI (c.heard.get p.src) p.hint),mtch:=c.mtch.set p.src mm,next:=c.next.set p.src (maxI (c.next.get p.src) (mm+1))} A:=⟨w,{sv with
   lead:=fun _=>⟨l1,l2,fun j j1 j2=>by
    show 0≤(c.mtch.set p.src mm).get j∧((c.mtch.set p.src mm).get j).toNat≤_
    rw [five_get_set _ _ _ _ j1 j2]
    split
    ·rename_i z;rw [z];exact hm0
    ·exact l3 j j1 j2,fun j j1 j2=>by
    show 1≤(c.next.set p.src (maxI (c.next.get p.src) (mm+1))).get j∧(c.next.set p.src (maxI (c.next.get p.src) (mm+1))).get j≤_
    rw [five_get_set _ _ _ _ j1 j2]
    split
    ·unfold maxI;split <;> omega
    ·exact l4 j j1 j2⟩
   idle:=fun z=>absurd h2 z},⟨k.kp.hard,k.kp.log⟩,k.out⟩
  have k4:=k3.rank h2
  split
  ·rename_i z
   exact (k4.send z.1 hms hms2 hne).confirm
  ·exact k4.confirm
 ·rw [if_neg hok]
  have k3:Mid g n s {c with heard:=c.heard.set p.src (maxI (c.heard.get p.src) p.hint),next:=c.next.set p.src (maxI (minI (c.next.get p.src-1) (p.index+1)) (c.mtch.get p.src+1))} A:=⟨w,{sv with
   lead:=fun _=>⟨l1,l2,l3,fun j j1 j2=>by
    show 1≤(c.next.set p.src (maxI (minI (c.next.get p.src-1) (p.index+1)) (c.mtch.get p.src+1))).get j∧(c.next.set p.src (maxI (minI (c.next.get p.src-1) (p.index+1)) (c.mtch.get p.src+1))).get j≤_
    rw [five_get_set _ _ _ _ j1 j2]
    split
    ·unfold maxI minI;split <;> split <;> omega
    ·exact l4 j j1 j2⟩
   idle:=fun z=>absurd h2 z},⟨k.kp.hard,k.kp.log⟩,k.out⟩
  exact (k3.send h2 hms hms2 hne).confirm
theorem vput_bits:∀ a:Nat,a<64→∀ n:Nat,n<6→1≤n→0≤vput (a:Int) (n:Int)∧vput (a:Int) (n:Int)<64∧∀ j:Nat,j<5→hasB (vput (a:Int) (n:Int)) ((j:Int)+1)=(hasB (a:Int) ((j:Int)+1) || decide (j+1=n)):=by decide +kernel
theorem hasB_range1 {v m:Int} (h:hasB v m=true):1≤m∧m≤5:=by
 unfold hasB at h;simp only [Bool.and_eq_true,decide_eq_true_eq] at h;exact h.1
theorem Mid.voted (k:Mid g n s c A) {p:PostM} (m:Msg g p) (hk:p.kind=2) (hd:p.dst=n) (ht:p.term=c.term) (hs:c.out.snap.index=0) (hal:(A.length:Int)+1≤g.lim) :
  ∃ g' A',Ext n g g'∧g'.lim=g.lim∧Mid g' n s (c.voted p) A':=by
 have sv:=k.srv
 have hs5:=k.w.sz5
 unfold CoreM.voted
 by_cases h:c.state≠1∨p.ok=false
 ·rw [if_pos h];exact ⟨g,A,Ext.refl _ _,rfl,k⟩
 ·rw [if_neg h]
  have h1:c.state=1:=by
   by_cases z:c.state=1
   ·exact z
   ·exact absurd (.inl z) h
  have hok:p.ok=true:=by
   cases z:p.ok
   ·exact absurd (.inr z) h
   ·rfl
  obtain ⟨b1,b2,b3⟩:g.vt p.src p.term=p.dst∧g.vt p.dst p.term=p.dst∧Vow g.H p.src p.term (· ≤ p.term) (g.cand p.term p.dst):=by
   rcases m.body with z | ⟨_,_,z⟩ | z | z | z | z
   ·omega
   ·exact z hok
   ·omega
   ·omega
   ·omega
   ·omega
  obtain ⟨a1,a2,a3,a4,a5,a6⟩:=sv.cand h1
  rw [ht,hd] at b1 b3
  have hb3:Vow g.H p.src c.term (· ≤ c.term) A:=by rw [← a3];exact b3
  have hv:=sv.v1;have hv2:=sv.v2
  obtain ⟨a,ha⟩:∃ a:Nat,c.votes=a:=⟨c.votes.toNat,by omega⟩
  obtain ⟨q,hq⟩:∃ q:Nat,p.src=q:=⟨p.src.toNat,by have:=m.s1;omega⟩
  have hms:=m.s1;have hms2:=m.s2
  have hvb:=vput_bits a (by omega) q (by omega) (by omega)
  have k1:Mid g n s {c with votes:=vput c.votes p.src} A:=⟨k.w,{sv with
   lead:=fun h=>by have h':c.state=2:=h;omega
   lc:=fun h=>by have h':c.state=2:=h;omega
   cand:=fun _=>⟨a1,a2,a3,a4,a5,fun v hv=>by
    have hv':hasB (vput c.votes p.src) v=true:=hv
    obtain ⟨v1,v2⟩:=hasB_range1 hv'
    obtain ⟨j,rfl⟩:∃ j:Nat,v=(j:Int)+1:=⟨(v-1).toNat,by omega⟩
    rw [ha,hq,hvb.2.2 j (by omega)] at hv'
    rw [Bool.or_eq_true,decide_eq_true_eq] at hv'
    rcases hv' with hv' | hv'
    ·exact a6 _ (by rw [ha];exact hv')
    ·rw [show ((j:Int)+1)=p.src by omega]
     exact ⟨b1,hb3⟩⟩
   v1:=by show 0≤vput c.votes p.src;rw [ha,hq];exact hvb.1
   v2:=by show vput c.votes p.src<64;rw [ha,hq];exact hvb.2.1},⟨k.kp.hard,k.kp.log⟩,k.out⟩
  simp only []
  split
  ·rename_i hel
   exact k1.lead h1 hel hs hal
  ·exact ⟨g,A,Ext.refl _ _,rfl,k1⟩
theorem Mid.take1 (k:Mid g n s c A) {p:PostM} (m:Msg g p) (hd:p.dst=n) (ht:p.term=c.term) (hnl:p.kind=1→c.state≠2) {draw:Int} (hdr:0≤draw) (o1:c.out.snap.index=0) (o2:c.out.cut=0) (o3:c.out.entries=[]) (hal:(A.length:Int)+1≤g.lim) :
  ∃ g' A',Ext n g g'∧g'.lim=g.lim∧Mid g' n s (c.take1 p draw) A':=by
 have hk:1≤p.kind∧p.kind≤6:=by rcases m.body with z | z | z | z | z | z <;> omega
 unfold CoreM.take1
 split
 ·rename_i h
  obtain ⟨g',x,y⟩:=k.asked' m h hd ht (hnl h) hdr
  exact ⟨g',A,x,y.1,y.2⟩
 ·split
  ·rename_i h;exact k.voted m h hd ht o1 hal
  ·split
   ·rename_i h
    split
    ·exact ⟨g,A,Ext.refl _ _,rfl,k⟩
    ·have kh:=k.heardOf (from_:=p.src) hdr
     simp only []
     split
     ·rename_i h5;exact kh.install rfl m h5 hd ht o1 o2 o3
     ·exact kh.append rfl m (by omega) hd ht o1 o2 o3
   ·split
    ·rename_i h2;exact ⟨g,A,Ext.refl _ _,rfl,k.told h2 m (by omega) hd ht⟩
    ·exact ⟨g,A,Ext.refl _ _,rfl,k⟩
theorem Mid.take (k:Mid g n s c A) {p:PostM} (m:Msg g p) (hd:p.dst=n) {draw:Int} (hdr:0≤draw) (o1:c.out.snap.index=0) (o2:c.out.cut=0) (o3:c.out.entries=[]) (hal:(A.length:Int)+1≤g.lim) :
  ∃ g' A',Ext n g g'∧g'.lim=g.lim∧Mid g' n s (c.take p draw) A':=by
 unfold CoreM.take
 split
 ·exact ⟨g,A,Ext.refl _ _,rfl,k⟩
 ·rename_i hled
  split
  ·rename_i h;exact ⟨g,A,Ext.refl _ _,rfl,k.refuse m hd h⟩
  ·split
   ·rename_i h
    have hpl:=k.w.l1 p.src m.s1 m.s2
    obtain ⟨x,kl⟩:=k.learn (t:=p.term) (by rw [← k.srv.tm];exact h) (by have:=m.t2;omega)
    obtain ⟨g',A',y,yl,z⟩:=kl.take1 (x.msg k.w m) hd rfl (fun _ h=>by cases h) hdr o1 o2 o3 hal
    exact ⟨g',A',x.trans y,yl,z⟩
   ·rename_i h1 h2
    exact k.take1 m hd (by omega) (fun h h2=>hled ⟨h,by simp [CoreM.led,h2]⟩) hdr o1 o2 o3 hal
end
section
variable {g:Gh} {n:Int} {s:SavedM} {c:CoreM} {A:List Abs}
def CoreM.saved (c:CoreM):SavedM:=⟨c.term,c.vote,c.snap,c.log.es⟩
structure Idl (g:Gh) (n:Int) (s:SavedM) (c:CoreM) (A:List Abs):Prop where
  srv:Srv g n c A
  kept:s=c.saved
  out:c.out=out0
theorem Idl.mid (w:Wld g) (k:Idl g n s c A):Mid g n s c A:=by
 refine ⟨w,k.srv,⟨fun _=>?_, .inl ⟨by rw [k.out];rfl,by rw [k.out];rfl,?_,?_⟩⟩,fun p hp=>?_⟩
 ·rw [k.kept];exact ⟨rfl,rfl⟩
 ·rw [k.kept];rfl
 ·rw [k.kept,k.out];show c.log.es=c.log.es++[];rw [List.append_nil]
 ·rw [k.out] at hp;cases hp
theorem Ext.idl (w:Wld g) {g':Gh} {m:Int} (x:Ext n g g') (h:m≠n) (k:Idl g m s c A):Idl g' m s c A:=⟨x.srv w h k.srv,k.kept,k.out⟩
theorem Mid.kept (k:Mid g n s c A):keptOk s c.done.2=true∧keptM s c.done.2=c.done.1.saved∧Srv g n c.done.1 A:=by
 have e1:∀ h:c.out.hard=false,s.term=c.term∧s.vote=c.vote:=k.kp.hard
 refine ⟨?_,?_,k.srv.putOut _⟩
 ·unfold keptOk CoreM.done
  simp only []
  cases hh:c.out.hard with
  | true =>
   rcases k.kp.log with ⟨a,b,_⟩ | ⟨a,b,d,e,f,_⟩ | ⟨a,b,d,_⟩
   ·rw [a,b];simp
   ·rw [a];simp [b,d,e]
   ·rw [d];simp
  | false =>
   obtain ⟨t1,t2⟩:=e1 hh
   rcases k.kp.log with ⟨a,b,_⟩ | ⟨a,b,d,e,f,_⟩ | ⟨a,b,d,_⟩
   ·rw [a,b];simp [t1,t2]
   ·rw [a];simp [b,d,e,t1,t2]
   ·rw [d];simp [t1,t2]
 ·unfold keptM CoreM.done CoreM.saved
  simp only []
  have hs:∀ S:SavedM,S.term=c.term→S.vote=c.vote→S.snap=s.snap→S.entries=s.entries →
    (let s:=if 0<c.out.snap.index then snappedM S c.out.snap else S
     let s:=if 0<c.out.cut then {s with entries:=s.entries.take (c.out.cut-s.snap.index-1).toNat} else s
     ({s with entries:=s.entries++c.out.entries}:SavedM))=⟨c.term,c.vote,c.snap,c.log.es⟩:=by
   intro S h1 h2 h3 h4
   simp only []
   rcases k.kp.log with ⟨a,b,d,e⟩ | ⟨a,b,d,e,f,h⟩ | ⟨a,b,d,e,f⟩
   ·rw [a,b];simp only [Int.lt_irrefl,if_false];rw [h1,h2,h3,h4,d,e]
   ·rw [a];simp only [Int.lt_irrefl,if_false];rw [if_pos b];simp only [];rw [h1,h2,h3,h4,f,h]
   ·rw [if_pos a,d];simp only [Int.lt_irrefl,if_false]
    unfold snappedM
    simp only []
    rw [h1,h2,h4,e,List.append_nil,b,f]
  cases hh:c.out.hard with
  | true=>exact hs _ rfl rfl rfl rfl
  | false =>
   obtain ⟨t1,t2⟩:=e1 hh
   exact hs s t1 t2 rfl rfl
theorem Idl.compact (w:Wld g) (k:Idl g n s c A) {data:List Int} (h:c.compactE c.commit data=0):Idl g n (snappedM s (c.compact c.commit data).snap) (c.compact c.commit data) A:=by
 have sv:=k.srv
 have hb:=sv.rep.lo
 have hlast:=sv.rep.last
 unfold CoreM.compactE at h
 split at h
 ·cases h
 rename_i h1
 split at h
 ·cases h
 rename_i h2
 have h1':c.snap.index+1≤c.commit∧c.commit≤minI c.commit c.log.last.1:=by simpa using h1
 rw [sv.si] at h1'
 have hc1:=sv.c1
 obtain ⟨q1,q2,q3⟩:=sv.rep.compact (i:=c.commit) (by omega) hc1
 have hcr:=crewUpTo_conf sv.rep sv.si (fun h=>by rw [sv.first];exact (sv.s1 h).2) (i:=c.commit) (by omega) hc1
 have hti:=sv.rep.term_in (i:=c.commit) (by omega) hc1
 refine ⟨{sv with
  rep:=q2
  si:=q3.symm
  s0:=fun z=>by have z':(c.log.compact c.commit).2.bi=0:=z;rw [q3] at z';omega
  s1:=fun _=>⟨by show (c.log.term c.commit).1=(c.log.compact c.commit).2.bt;rw [hti,q2.bt,q3],by
   show (c.crewUpTo c.commit).1=conf 14 (A.take (c.log.compact c.commit).2.bi.toNat)
   rw [hcr.1,sv.first,q3]⟩
  sd:=by show data.length≤8192;omega
  c0:=by show (c.log.compact c.commit).2.bi≤c.commit;rw [q3];exact Int.le_refl _},?_,k.out⟩
 rw [k.kept]
 unfold snappedM CoreM.saved
 simp only []
 have e:afterE (c.compact c.commit data).snap.index (c.compact c.commit data).snap.term c.log.es=(c.compact c.commit data).log.es:=by
  show afterE c.commit (c.log.term c.commit).1 c.log.es=(c.log.compact c.commit).2.es
  rw [hti,sv.rep.es,q2.es,q3]
  have:=afterE_ix sv.rep.ix c.commit.toNat (termAt A c.commit.toNat) (c.commit.toNat-c.log.bi.toNat-1) c.log.bi.toNat (by omega)
  rw [show ((c.commit.toNat:Nat):Int)=c.commit by omega] at this
  rw [this,if_pos ⟨by omega,rfl⟩]
 rw [e];rfl
theorem conf_chk:∀ (A:List Abs) (size f:Int),(∀ e∈A,EOk size e)→cchk f=0→cchk (conf f A)=0
 | [],_,f,_,h=>h
 | e::r,size,f,h,hf=>by
  unfold conf
  rw [List.foldl_cons]
  refine conf_chk r size _ (fun x hx=>h x (by simp [hx])) ?_
  split
  ·rename_i h2
   have:=((h e (by simp)).cr h2).1
   unfold crewOk at this
   unfold crewNum
   split at this
   ·simpa using this
   ·cases this
  ·exact hf
theorem chk14:cchk 14=0:=by decide
theorem Idl.again (w:Wld g) (k:Idl g n s c A) {draw:Int} (hd:0≤draw):cnewOk n 14 s draw=true∧Idl g n s (cnew n 14 s draw) A∧(cnew n 14 s draw).commit=c.log.bi∧(cnew n 14 s draw).term=c.term:=by
 have sv:=k.srv
 have hn1:=sv.n1;have hn2:=sv.n2;have hs5:=w.sz5
 have hb:=sv.rep.lo;have hble:=sv.rep.le
 have hlim:=w.lim0 sv
 have hl3:=w.l3
 have hal:=sv.al
 have htl:=w.l1 n hn1 hn2
 have htm:=sv.tm;have t0:=sv.t0
 have hc0:=sv.c0;have hc1:=sv.c1
 obtain ⟨w1,w2⟩:=waits_in hd
 have hst:s.snap.index=c.log.bi∧s.snap.term=c.log.bt:=by
  rw [k.kept]
  show c.snap.index=c.log.bi∧c.snap.term=c.log.bt
  refine ⟨sv.si,?_⟩
  by_cases z:0<c.log.bi
  ·exact (sv.s1 z).1
  ·have z0:c.log.bi=0:=by omega
   rw [sv.s0 z0,sv.rep.bt,z0];rfl
 have hse:s.entries=c.log.es:=by rw [k.kept];rfl
 have hess:∀ (j:Nat) (e:Abs),c.log.es[j]? = some e→A[c.log.bi.toNat+j]? = some e:=fun j e h=>by rw [sv.rep.es,List.getElem?_drop] at h;exact h
 have happ:(lnew c.log.bi c.log.bt).append c.log.es=(0,c.log):=by
  unfold LG.append
  have:aapp (lnew c.log.bi c.log.bt).last c.log.es=0:=by
   refine aapp_ok2 _ _ (by show 0≤c.log.bi;exact hb) (fun j e h=>?_) (fun j e h=>?_) fun i j e f hij he hf=>sv.good.mono _ _ e f (by omega) (hess i e he) (hess j f hf)
   ·have hA:=hess j e h
    have hx:=sv.rep.ix _ e hA
    have hj:=(List.getElem?_eq_some_iff.1 hA).1
    have heo:=sv.eok e (List.mem_of_getElem? hA)
    have:=sv.low _ e hA
    refine ⟨by show e.2.1=c.log.bi+1+j;rw [hx];omega,(sv.good.lm _ e hA).1,by omega,by rw [hx];omega,heo.k0,heo.k2,heo.len⟩
   ·show c.log.bt≤e.1
    have hA:=hess j e h
    rw [sv.rep.bt]
    by_cases z:c.log.bi.toNat=0
    ·unfold termAt;rw [if_pos z];have:=(sv.good.lm _ e hA).1;omega
    ·obtain ⟨a,ha⟩:∃ a,A[c.log.bi.toNat-1]? = some a:=⟨A[c.log.bi.toNat-1],by simp⟩
     have ta:=termAt_some ha
     rw [show c.log.bi.toNat-1+1=c.log.bi.toNat by omega] at ta
     rw [ta];exact sv.good.mono _ _ a e (by omega) ha hA
  rw [if_pos this]
  rfl
 have hnew:cnew n 14 s draw=⟨n,14,c.term,c.vote,c.snap,c.log,0,0,c.log.bi,waits draw,10,0,five0,five0,five0,0,0,[],out0⟩:=by
  unfold cnew
  rw [hst.1,hst.2,hse,happ,k.kept];rfl
 refine ⟨?_,?_,by rw [hnew],by rw [hnew]⟩
 ·unfold cnewOk
  rw [hst.1,hst.2,hse,happ]
  have hmay:s.may=true:=by
   have hst2:c.snap.term=c.log.bt:=by have:=hst.2;rw [k.kept] at this;exact this
   have hmd:s.may=(numB c.term&&decide (0≤c.vote∧c.vote≤5)&&(decide (c.snap.index=0∧c.snap.term=0∧c.snap.crew=0∧c.snap.data=[]) || (decide (0<c.snap.index)&&decide (1≤c.snap.term∧c.snap.term≤c.term)&&decide (cchk c.snap.crew=0)))&&(c.log.es.all fun e=>decide (e.1≤c.term))&&crewsMay c.log.es):=by rw [k.kept];rfl
   have a1:numB c.term=true:=decide_eq_true ⟨t0,by omega⟩
   have a2:decide (0≤c.vote∧c.vote≤5)=true:=decide_eq_true ⟨sv.vr0,sv.vr1⟩
   have a3:(c.log.es.all fun e=>decide (e.1≤c.term))=true:=by
    rw [List.all_eq_true];intro e he
    obtain ⟨j,hj⟩:=List.getElem?_of_mem he
    exact decide_eq_true (sv.low _ e (hess j e hj))
   have a4:crewsMay c.log.es=true:=by
    unfold crewsMay
    rw [List.all_eq_true];intro e he
    obtain ⟨j,hj⟩:=List.getElem?_of_mem he
    have heo:=sv.eok e (List.mem_of_getElem? (hess j e hj))
    by_cases z:e.2.2.1=2
    ·rw [(heo.cr z).1];simp
    ·simp [z]
   have a5:(decide (c.log.bi=0∧c.log.bt=0∧c.snap.crew=0∧c.snap.data=[]) || (decide (0<c.log.bi)&&decide (1≤c.log.bt∧c.log.bt≤c.term)&&decide (cchk c.snap.crew=0)))=true:=by
    by_cases z:0<c.log.bi
    ·have hcr:=(sv.s1 z).2
     have hck:cchk c.snap.crew=0:=by
      rw [hcr];exact conf_chk _ g.size 14 (fun e he=>sv.eok e (List.mem_of_mem_take he)) chk14
     obtain ⟨a,ha⟩:∃ a,A[c.log.bi.toNat-1]? = some a:=⟨A[c.log.bi.toNat-1],by simp⟩
     have ta:=termAt_some ha
     rw [show c.log.bi.toNat-1+1=c.log.bi.toNat by omega,← sv.rep.bt] at ta
     have h1:=(sv.good.lm _ a ha).1
     have h2:=sv.low _ a ha
     rw [decide_eq_true z,decide_eq_true (show 1≤c.log.bt∧c.log.bt≤c.term by omega),decide_eq_true hck];simp
    ·have z0:c.log.bi=0:=by omega
     have hs0:=sv.s0 z0
     have hbt:c.log.bt=0:=by rw [sv.rep.bt,z0];rfl
     rw [decide_eq_true (show c.log.bi=0∧c.log.bt=0∧c.snap.crew=0∧c.snap.data=[] from ⟨z0,hbt,by rw [hs0];rfl,by rw [hs0];rfl⟩)];rfl
   rw [← hst2,← sv.si] at a5
   rw [hmd,a1,a2,a3,a4,a5];rfl
  rw [hmay,decide_eq_true (show 1≤n∧n≤5 by omega),decide_eq_true chk14,decide_eq_true hd]
  have hob:okBase c.log.bi c.log.bt=true:=by
   unfold okBase
   by_cases z:0<c.log.bi
   ·obtain ⟨a,ha⟩:∃ a,A[c.log.bi.toNat-1]? = some a:=⟨A[c.log.bi.toNat-1],by simp⟩
    have ta:=termAt_some ha
    rw [show c.log.bi.toNat-1+1=c.log.bi.toNat by omega,← sv.rep.bt] at ta
    have h1:=(sv.good.lm _ a ha).1
    have h2:=sv.low _ a ha
    rw [isNum_iff.2 (show 1≤c.log.bi∧c.log.bi≤9007199254740991 by omega),isNum_iff.2 (show 1≤c.log.bt∧c.log.bt≤9007199254740991 by omega)];simp
   ·have z0:c.log.bi=0:=by omega
    have hbt:c.log.bt=0:=by rw [sv.rep.bt,z0];rfl
    rw [z0,hbt];rfl
  rw [hob];rfl
 ·rw [hnew]
  refine ⟨{sv with
   self:=rfl
   first:=rfl
   c0:=Int.le_refl _
   c1:=by show c.log.bi≤A.length;omega
   com:=sv.com.less (by show c.log.bi.toNat≤c.commit.toNat;omega)
   st := .inl rfl
   lead:=fun h=>by cases h
   lc:=fun h=>by cases h
   cand:=fun h=>by cases h
   idle:=fun _=>⟨rfl,rfl,rfl⟩
   q1:=by show (0:Int)≤10;omega
   q2:=Int.le_refl 10
   w1:=by show 1≤waits draw;omega
   w2:=w2
   b0:=fun h=>by cases h
   b1:=Int.le_refl 0
   b2:=by show (0:Int)≤2;omega
   v1:=Int.le_refl 0
   v2:=by show (0:Int)<64;omega
   r1:=Int.le_refl 0
   r2:=hlim
   rl:=hlim},?_,rfl⟩
  rw [k.kept];rfl
theorem sends_commit:∀ (l:List Int) (c:CoreM),(l.foldl CoreM.send c).commit=c.commit
 | [],c=>rfl
 | m::l,c=>by rw [List.foldl_cons,sends_commit l];unfold CoreM.send;split <;> rfl
theorem says_commit (p:PostM):∀ (l:List Int) (c:CoreM),(l.foldl (fun x m=>x.say m p) c).commit=c.commit
 | [],c=>rfl
 | m::l,c=>by rw [List.foldl_cons,says_commit p l];rfl
theorem rank_commit (c:CoreM):c.commit≤c.rank.commit:=by
 have er:c.rank=(let d:={c with mtch:=c.mtch.set c.self c.log.last.1};let r:=rankOf d.crewNow.1 d.mtch;if r≤d.commit∨d.has r d.term=false then d else if hasB d.crewNow.1 d.self=false∧d.crewNow.2≤r then ({d with commit:=r}:CoreM).follow else {d with commit:=r}):=rfl
 rw [er]
 simp only []
 split
 ·exact Int.le_refl _
 ·rename_i h
  split
  ·show c.commit≤rankOf _ _;omega
  ·show c.commit≤rankOf _ _;omega
theorem put_commit (c:CoreM) (k:Int) (d:List Int):(c.put k d).commit=c.commit:=by
 unfold CoreM.put;simp only [];split <;> rfl
theorem lead_commit (c:CoreM):c.commit≤c.lead.commit:=by
 rw [CoreM.lead_eq]
 have h:=rank_commit ((c.office.put 0 []).sendAll)
 unfold CoreM.sendAll at h ⊢
 rw [sends_commit,put_commit] at h
 exact h
theorem stand_commit (c:CoreM):c.commit≤c.stand.commit:=by
 rw [CoreM.stand_is]
 split
 ·exact Int.le_refl _
 ·have e:(c.stoodM.others.foldl (fun x m=>x.say m {post0 with kind:=1,index:=c.log.last.1,logTerm:=c.log.last.2}) c.stoodM).commit=c.commit:=by rw [says_commit];rfl
  split
  ·have:=lead_commit (c.stoodM.others.foldl (fun x m=>x.say m {post0 with kind:=1,index:=c.log.last.1,logTerm:=c.log.last.2}) c.stoodM)
   rw [e] at this;exact this
  ·rw [e];exact Int.le_refl _
theorem tick_commit (c:CoreM) (d:Int):c.commit≤(c.tick d).commit:=by
 unfold CoreM.tick
 split
 ·split
  ·unfold CoreM.sendAll;rw [sends_commit];exact Int.le_refl _
  ·exact Int.le_refl _
 ·simp only []
  split
  ·exact stand_commit _
  ·exact Int.le_refl _
theorem confirm_commit (c:CoreM):c.confirm.commit=c.commit:=by unfold CoreM.confirm;split <;> rfl
theorem appendRest_commit (c:CoreM) (l:List Abs):(c.appendRest l).commit=c.commit:=by
 unfold CoreM.appendRest
 split
 ·rfl
 ·simp only [];split <;> rfl
theorem append_commit (c:CoreM) (p:PostM):c.commit≤(c.append p).commit:=by
 rw [CoreM.append_eq]
 split
 ·exact Int.le_refl _
 ·unfold CoreM.appendOk
  show c.commit≤(if (c.appendRest _).commit<_ then _ else (c.appendRest _).commit)
  rw [appendRest_commit]
  split <;> omega
theorem install_commit (c:CoreM) (p:PostM):c.commit≤(c.install p).commit:=by
 unfold CoreM.install
 simp only []
 split
 ·show c.commit≤p.snap.index;omega
 ·exact Int.le_refl _
theorem told_commit (c:CoreM) (p:PostM):c.commit≤(c.told p).commit:=by
 unfold CoreM.told
 rw [confirm_commit]
 simp only []
 split
 ·split
  ·unfold CoreM.send;split
   ·exact rank_commit _
   ·exact rank_commit _
  ·exact rank_commit _
 ·unfold CoreM.send;split <;> exact Int.le_refl _
theorem take1_commit (c:CoreM) (p:PostM) (d:Int):c.commit≤(c.take1 p d).commit:=by
 unfold CoreM.take1
 split
 ·rw [CoreM.asked_eq];split <;> exact Int.le_refl _
 ·split
  ·unfold CoreM.voted
   split
   ·exact Int.le_refl _
   ·simp only [];split
    ·exact lead_commit _
    ·exact Int.le_refl _
  ·split
   ·split
    ·exact Int.le_refl _
    ·simp only [];split
     ·exact install_commit _ _
     ·exact append_commit _ _
   ·split
    ·exact told_commit _ _
    ·exact Int.le_refl _
theorem take_commit (c:CoreM) (p:PostM) (d:Int):c.commit≤(c.take p d).commit:=by
 unfold CoreM.take
 split
 ·exact Int.le_refl _
 ·split
  ·unfold CoreM.refuse;split
   ·exact Int.le_refl _
   ·split <;> exact Int.le_refl _
  ·split
   ·exact take1_commit (c.learn p.term) p d
   ·exact take1_commit c p d
theorem anews_commit (index:Int) (P:Int→Bool):∀ (l:List Int) (c:CoreM),(l.foldl (fun x m=>if P m=true then x else x.anew index m) c).commit=c.commit
 | [],c=>rfl
 | m::l,c=>by rw [List.foldl_cons,anews_commit index P l];split <;> rfl
theorem propose_commit (c:CoreM) (k:Int) (d:List Int):c.commit≤(c.propose k d).commit:=by
 rw [CoreM.propose_is]
 have h:=rank_commit (((ls (m5 (c.put k d).crewNow.1)).foldl (fun x m=>if hasB c.crewNow.1 m=true then x else x.anew (c.log.last.1+1) m) (c.put k d)).sendAll)
 unfold CoreM.sendAll at h ⊢
 rw [sends_commit,anews_commit,put_commit] at h
 exact h
theorem read_commit (c:CoreM):c.commit≤c.read.commit:=by
 unfold CoreM.read
 rw [confirm_commit]
 unfold CoreM.sendAll
 rw [sends_commit]
 exact Int.le_refl _
end
section
variable {g:Gh} {n:Int} {s:SavedM} {c:CoreM} {A:List Abs}
theorem numB_of {x:Int} (h0:0≤x) (h1:x≤9007199254740991):numB x=true:=decide_eq_true ⟨h0,h1⟩
theorem same_self (p:PostM):p.same p=true:=by
 unfold PostM.same SnapM.same;simp
theorem chk_range {c:Int} (h:cchk c=0):c % 2=0∧1≤c∧c≤63:=by
 unfold cchk at h
 split at h
 ·rename_i z
  have:=m5_lt c
  omega
 ·cases h
theorem entriesMay_of {top:Int}:∀ (l:List Abs) (i t:Int),(∀ (k:Nat) (e:Abs),l[k]? = some e→e.2.1=i+1+k∧numB e.2.1=true∧e.1≤top∧0≤e.2.2.1∧e.2.2.1≤2∧e.2.2.2.length≤1200) →
  (∀ (k:Nat) (e:Abs),l[k]? = some e→t≤e.1)→(∀ (j k:Nat) (e f:Abs),j≤k→l[j]? = some e→l[k]? = some f→e.1≤f.1)→entriesMay top i t l=true
 | [],_,_,_,_,_=>rfl
 | e::r,i,t,h1,h2,h3=>by
  obtain ⟨a1,a2,a3,a4,a5,a6⟩:=h1 0 e rfl
  have b:=h2 0 e rfl
  unfold entriesMay
  rw [entriesMay_of r (i+1) e.1 (fun k f hf=>by
   obtain ⟨b1,b2⟩:=h1 (k+1) f (by simpa using hf)
   exact ⟨by rw [b1];omega,b2⟩) (fun k f hf=>h3 0 (k+1) e f (by omega) rfl (by simpa using hf)) (fun j k e' f hjk he hf=>h3 (j+1) (k+1) e' f (by omega) (by simpa using he) (by simpa using hf))]
  rw [decide_eq_true (show e.2.1=i+1 by rw [a1];omega),a2,decide_eq_true (show t≤e.1∧e.1≤top from ⟨b,a3⟩),decide_eq_true (show 0≤e.2.2.1∧e.2.2.1≤2 from ⟨a4,a5⟩),decide_eq_true a6]
  rfl
theorem Msg.takes (w:Wld g) {p:PostM} (m:Msg g p) (hs:c.self=p.dst):c.takes p=true:=by
 have m1:=m.s1;have m2:=m.s2;have m3:=m.d1;have m4:=m.d2;have m5:=m.t1;have m6:=m.t2;have m7:=m.h0;have m8:=m.h1
 have hne:=m.ne
 have hl3:=w.l3;have hs5:=w.sz5
 have htl:=w.l1 p.src m1 m2
 have hterm:numB p.term=true:=numB_of (by omega) (by omega)
 have hhint:numB p.hint=true:=numB_of m7 (by omega)
 have hB:decide (1≤p.src∧p.src≤5∧1≤p.dst∧p.dst≤5∧p.src≠p.dst)=true:=decide_eq_true ⟨m1,by omega,m3,by omega,hne⟩
 have hdst:decide (p.dst=c.self)=true:=decide_eq_true hs.symm
 have ht0:decide (0<p.term)=true:=decide_eq_true (by omega)
 have fin:decide (1≤p.kind∧p.kind≤6)=true→p.bare=p→numB p.index=true→numB p.commit=true→0≤p.logTerm→p.logTerm≤p.term→p.entries.length≤8→entriesMay p.term p.index p.logTerm p.entries=true→(p.kind=5→p.snapMay=true∧1≤p.snap.term)→(∀ e∈p.entries,1≤e.1)→crewsMay p.entries=true→c.takes p=true:=by
  intro k1 k2 k3 k4 k5 k6 k7 k8 k9 k10 k11
  unfold CoreM.takes PostM.check
  rw [k1,hB,hterm,k3,k4,hhint,decide_eq_true (show 0≤p.logTerm∧p.logTerm≤p.term from ⟨k5,k6⟩),k2,same_self,decide_eq_true k7,k8,hdst,ht0,k11]
  have h1:(decide (p.kind≠5) || p.snapMay)=true:=by
   by_cases z:p.kind=5
   ·rw [(k9 z).1];simp
   ·simp [z]
  have h2:(p.entries.all fun e=>decide (1≤e.1))=true:=by
   rw [List.all_eq_true];exact fun e he=>decide_eq_true (k10 e he)
  have h3:(decide (p.kind≠5) || decide (1≤p.snap.term))=true:=by
   by_cases z:p.kind=5
   ·rw [decide_eq_true (k9 z).2];simp
   ·simp [z]
  rw [h1,h2,h3];rfl
 rcases m.body with ⟨a,b,d,e,f,h⟩ | ⟨a,b,d⟩ | ⟨a,b,d,d1,d2,d3,e1,e2,e3,f1,f2,f3⟩ | ⟨a,b,d,e,f⟩ | ⟨a,b,d,d1,d2,d3,d4,d5,d6⟩ | ⟨a,b,d,e,f⟩
 ·obtain ⟨cg1,cg2⟩:=w.cg p.term p.src (by omega) d
  have hlt:0≤p.logTerm∧p.logTerm≤p.term:=by
   rw [f]
   by_cases z:(g.cand p.term p.src).length=0
   ·rw [z];unfold termAt;rw [if_pos rfl];omega
   ·obtain ⟨x,hx⟩:∃ x,(g.cand p.term p.src)[(g.cand p.term p.src).length-1]? = some x:=⟨(g.cand p.term p.src)[(g.cand p.term p.src).length-1],by simp⟩
    have ta:=termAt_some hx
    rw [show (g.cand p.term p.src).length-1+1=(g.cand p.term p.src).length by omega] at ta
    rw [ta]
    have:=(cg1.lm _ x hx).1;have:=cg2 _ x hx
    omega
  have he:p.entries=[]:=by rw [b];rfl
  have hc:p.commit=0:=by rw [b];rfl
  refine fin (by rw [a];rfl) (by unfold PostM.bare;rw [if_pos a];rw [a];exact b.symm) (numB_of (by omega) (by omega)) (by rw [hc];rfl) hlt.1 hlt.2 (by rw [he];simp) (by rw [he];rfl) (fun z=>by omega) (by rw [he];simp) (by rw [he];rfl)
 ·have he:p.entries=[]:=by rw [b];rfl
  have hc:p.commit=0:=by rw [b];rfl
  have hi:p.index=0:=by rw [b];rfl
  have hlt:p.logTerm=0:=by rw [b];rfl
  exact fin (by rw [a];rfl) (by unfold PostM.bare;rw [if_neg (by omega),if_pos a];rw [a];exact b.symm) (by rw [hi];rfl) (by rw [hc];rfl) (by omega) (by omega) (by rw [he];simp) (by rw [he];rfl) (fun z=>by omega) (by rw [he];simp) (by rw [he];rfl)
 ·have hl0:g.H.led p.term≠0:=by rw [d];omega
  have gl:=w.ok.log _ hl0
  have hl2:=w.l2 p.term
  have get:∀ (j:Nat) (x:Abs),p.entries[j]? = some x→(g.H.ll p.term)[p.index.toNat+j]? = some x:=fun j x h=>by
   rw [e3,List.getElem?_take] at h
   split at h
   ·rw [List.getElem?_drop] at h;exact h
   ·cases h
  have hlt:0≤p.logTerm∧p.logTerm≤p.term∧∀ (j:Nat) (x:Abs),p.entries[j]? = some x→p.logTerm≤x.1:=by
   rw [d3]
   by_cases z:p.index.toNat=0
   ·rw [z];unfold termAt;rw [if_pos rfl]
    exact ⟨by omega,by omega,fun j x h=>by have:=(gl.lm _ x (get j x h)).1;omega⟩
   ·obtain ⟨y,hy⟩:∃ y,(g.H.ll p.term)[p.index.toNat-1]? = some y:=⟨(g.H.ll p.term)[p.index.toNat-1],by simp⟩
    have ta:=termAt_some hy
    rw [show p.index.toNat-1+1=p.index.toNat by omega] at ta
    rw [ta]
    have:=(gl.lm _ y hy).1;have:=w.ok.top p.term _ y hl0 hy
    exact ⟨by omega,by omega,fun j x h=>gl.mono _ _ y x (by omega) hy (get j x h)⟩
  have heo:∀ (j:Nat) (x:Abs),p.entries[j]? = some x→EOk g.size x:=fun j x h=>w.eok _ x (List.mem_of_getElem? (get j x h))
  refine fin (by rw [a];rfl) (by unfold PostM.bare;rw [if_neg (by omega),if_neg (by omega),if_pos a];rw [a];exact b.symm) (numB_of d1 (by omega)) (numB_of f1 (by omega)) hlt.1 hlt.2.1 e1 ?_ (fun z=>by omega) (fun x hx=>?_) ?_
  ·refine entriesMay_of _ _ _ (fun j x h=>?_) hlt.2.2 fun i j x y hij hx hy=>gl.mono _ _ x y (by omega) (get i x hx) (get j y hy)
   have hx:=w.ix _ _ x (get j x h)
   have hj:=(List.getElem?_eq_some_iff.1 (get j x h)).1
   have he:=heo j x h
   exact ⟨by rw [hx];omega,numB_of (by rw [hx];omega) (by rw [hx];omega),w.ok.top _ _ x hl0 (get j x h),he.k0,he.k2,he.len⟩
  ·obtain ⟨j,hj⟩:=List.getElem?_of_mem hx
   exact (gl.lm _ x (get j x hj)).1
  ·unfold crewsMay
   rw [List.all_eq_true];intro x hx
   obtain ⟨j,hj⟩:=List.getElem?_of_mem hx
   have he:=heo j x hj
   by_cases z:x.2.2.1=2
   ·rw [(he.cr z).1];simp
   ·simp [z]
 ·have he:p.entries=[]:=by rw [b];rfl
  have hc:p.commit=0:=by rw [b];rfl
  have hlt:p.logTerm=0:=by rw [b];rfl
  exact fin (by rw [a];rfl) (by unfold PostM.bare;rw [if_neg (by omega),if_neg (by omega),if_neg (by omega),if_pos a];rw [a];exact b.symm) (numB_of d (by omega)) (by rw [hc];rfl) (by omega) (by omega) (by rw [he];simp) (by rw [he];rfl) (fun z=>by omega) (by rw [he];simp) (by rw [he];rfl)
 ·have hl0:g.H.led p.term≠0:=by rw [d];omega
  have gl:=w.ok.log _ hl0
  have hl2:=w.l2 p.term
  have he:p.entries=[]:=by rw [b];rfl
  have hc:p.commit=0:=by rw [b];rfl
  have hi:p.index=0:=by rw [b];rfl
  have hlt:p.logTerm=0:=by rw [b];rfl
  obtain ⟨y,hy⟩:∃ y,(g.H.ll p.term)[p.snap.index.toNat-1]? = some y:=⟨(g.H.ll p.term)[p.snap.index.toNat-1],by simp⟩
  have ta:=termAt_some hy
  rw [show p.snap.index.toNat-1+1=p.snap.index.toNat by omega,← d3] at ta
  have y1:=(gl.lm _ y hy).1
  have y2:=w.ok.top p.term _ y hl0 hy
  refine fin (by rw [a];rfl) (by unfold PostM.bare;rw [if_neg (by omega),if_neg (by omega),if_neg (by omega),if_neg (by omega),if_pos a];rw [a];exact b.symm) (by rw [hi];rfl) (by rw [hc];rfl) (by omega) (by omega) (by rw [he];simp) (by rw [he];rfl) (fun _=>⟨?_,by omega⟩) (by rw [he];simp) (by rw [he];rfl)
  have hck:cchk p.snap.crew=0:=by rw [d4];exact conf_chk _ g.size 14 (fun e he=>w.eok _ e (List.mem_of_mem_take he)) chk14
  unfold PostM.snapMay
  rw [decide_eq_true (show 1≤p.snap.index∧p.snap.index≤9007199254740991 by omega),decide_eq_true (show 0≤p.snap.term∧p.snap.term≤p.term by omega),decide_eq_true (chk_range hck),decide_eq_true d5];rfl
 ·have he:p.entries=[]:=by rw [b];rfl
  have hc:p.commit=0:=by rw [b];rfl
  have hlt:p.logTerm=0:=by rw [b];rfl
  exact fin (by rw [a];rfl) (by unfold PostM.bare;rw [if_neg (by omega),if_neg (by omega),if_neg (by omega),if_neg (by omega),if_neg (by omega),if_pos a];rw [a];exact b.symm) (numB_of d (by omega)) (by rw [hc];rfl) (by omega) (by omega) (by rw [he];simp) (by rw [he];rfl) (fun z=>by omega) (by rw [he];simp) (by rw [he];rfl)
end
section
variable {g:Gh} {n:Int}
def ChosenAt (g:Gh) (i:Int) (e:Abs):Prop:=1≤i∧∃ (m:Int) (T:Int) (d:Nat) (B:List Abs),1≤m∧m≤g.size∧T≤g.tm m∧Com g.H T d B∧d≤B.length∧i.toNat≤d∧B[i.toNat-1]? = some e
structure NetI (g:Gh) (x:NetM):Prop where
  w:Wld g
  sz:g.size=x.size
  srv:∀ n,1≤n→n≤x.size→∃ A,Idl g n (x.kept.get n) (x.cores.get n) A
  mails:∀ p∈x.mails,Msg g p
  fine:x.fine=true
  leaders:∀ t o,alook t x.leaders=some o→g.H.led t=o∧o≠0
  chosen:∀ i e,alook i x.chosen=some e→ChosenAt g i e
  cm:∀ n,1≤n→n≤x.size→x.commits.get n≤(x.cores.get n).commit
  tms:∀ n,1≤n→n≤x.size→x.terms.get n≤(x.cores.get n).term
  draw:0≤x.draw
theorem Ext.chosenAt {g':Gh} (x:Ext n g g') {i:Int} {e:Abs} (k:ChosenAt g i e):ChosenAt g' i e:=by
 obtain ⟨h,m,T,d,B,m1,m2,m3,m4,r⟩:=k
 refine ⟨h,m,T,d,B,m1,by rw [x.size];exact m2,?_,x.com (Int.le_refl _) m4,r⟩
 by_cases z:m=n
 ·rw [z] at m3 ⊢;exact Int.le_trans m3 x.tmn
 ·rw [x.tm m z];exact m3
theorem lookEs_ok (w:Wld g) {c:CoreM} {A:List Abs} (sv:Srv g n c A):∀ (l:List Abs) (ch:List (Int×Abs)),(∀ e∈l,∃ k:Nat,A[k]? = some e)→(∀ i e,alook i ch=some e→ChosenAt g i e) →
  (lookEs c.commit l (true,ch)).1=true∧∀ i e,alook i (lookEs c.commit l (true,ch)).2=some e→ChosenAt g i e
 | [],ch,_,h=>⟨rfl,h⟩
 | e::l,ch,hA,h=>by
  unfold lookEs
  split
  ·exact ⟨rfl,h⟩
  ·rename_i hc
   obtain ⟨k,hk⟩:=hA e (by simp)
   have hx:=sv.rep.ix k e hk
   have hkl:=(List.getElem?_eq_some_iff.1 hk).1
   have hc1:=sv.c1
   have here:ChosenAt g e.2.1 e:=⟨by rw [hx];omega,n,c.term,c.commit.toNat,A,sv.n1,sv.n2,by rw [sv.tm];exact Int.le_refl _,sv.com,by omega,by rw [hx];omega,by rw [hx];rw [show ((k:Int)+1).toNat-1=k by omega];exact hk⟩
   have hb:agreeE (alook e.2.1 ch) e=true:=by
    cases ho:alook e.2.1 ch with
    | none=>rfl
    | some o =>
     obtain ⟨h1,m,T,d,B,m1,m2,m3,m4,m5,m6,m7⟩:=h _ _ ho
     obtain ⟨_,m',T',d',B',n1,n2,n3,n4,n5,n6,n7⟩:=here
     refine decide_eq_true ?_
     have:B[e.2.1.toNat-1]? = B'[e.2.1.toNat-1]? := by
      rcases Nat.le_total d d' with hd | hd
      ·exact (Com.com w m4 n4 m5 n5 hd).c _ (by omega)
      ·exact ((Com.com w n4 m4 n5 m5 hd).c _ (by omega)).symm
     rw [m7,n7] at this
     exact Option.some.inj this
   rw [Bool.true_and,hb]
   refine lookEs_ok w sv l _ (fun e' he'=>hA e' (by simp [he'])) fun i e' hi=>?_
   rw [alook_aset] at hi
   split at hi
   ·rename_i z;cases hi;rw [z];exact here
   ·exact h i e' hi
theorem five_gs (f:Five) (n m v:Int) (h1:1≤m) (h2:m≤5):(f.set n v).get m=if m=n then v else f.get m:=five_get_set f n m v h1 h2
theorem NetI.look {x:NetM} (k:NetI g x) (n1:1≤n) (n2:n≤x.size):NetI g (x.look n):=by
 obtain ⟨A,id⟩:=k.srv n n1 n2
 have sv:=id.srv
 have hs5:=k.w.sz5
 have hsz:=k.sz
 have hke:(x.kept.get n).entries=(x.cores.get n).log.es:=by rw [id.kept];rfl
 have hks:(x.kept.get n).snap.index=(x.cores.get n).log.bi:=by rw [id.kept];exact sv.si
 have hlen:=sv.rep.len
 have f1:(if (x.cores.get n).state=2 then agreeI (alook (x.cores.get n).term x.leaders) n else true)=true:=by
  split
  ·rename_i h2
   cases ho:alook (x.cores.get n).term x.leaders with
   | none=>rfl
   | some o=>exact decide_eq_true ((k.leaders _ _ ho).1.symm.trans (sv.lead h2).1)
  ·rfl
 have f2:(decide (x.commits.get n≤(x.cores.get n).commit)&&decide (x.terms.get n≤(x.cores.get n).term))=true:=by
  rw [decide_eq_true (k.cm n n1 n2),decide_eq_true (k.tms n n1 n2)];rfl
 have hlk:=lookEs_ok k.w sv (x.kept.get n).entries x.chosen (fun e he=>by
  rw [hke,sv.rep.es] at he
  obtain ⟨j,hj⟩:=List.getElem?_of_mem he
  rw [List.getElem?_drop] at hj
  exact ⟨_,hj⟩) k.chosen
 have hc1:=sv.c1
 have f3:decide ((x.cores.get n).commit≤(x.kept.get n).snap.index+(x.kept.get n).entries.length)=true:=by
  refine decide_eq_true ?_
  rw [hks,hke,hlen];omega
 have e:x.look n={x with fine:=(lookEs (x.cores.get n).commit (x.kept.get n).entries (true,x.chosen)).1&&true,leaders:=if (x.cores.get n).state=2 then aset (x.cores.get n).term n x.leaders else x.leaders,chosen:=(lookEs (x.cores.get n).commit (x.kept.get n).entries (true,x.chosen)).2,commits:=x.commits.set n (x.cores.get n).commit,terms:=x.terms.set n (x.cores.get n).term}:=by
  unfold NetM.look
  simp only []
  rw [k.fine,f1,f2,f3];rfl
 rw [e]
 refine ⟨k.w,k.sz,k.srv,k.mails,by show (_&&true)=true;rw [hlk.1];rfl,fun t o ho=>?_,hlk.2,fun m m1 m2=>?_,fun m m1 m2=>?_,k.draw⟩
 ·have ho':alook t (if (x.cores.get n).state=2 then aset (x.cores.get n).term n x.leaders else x.leaders)=some o:=ho
  split at ho'
  ·rename_i h2
   rw [alook_aset] at ho'
   split at ho'
   ·rename_i z;cases ho';rw [z];exact ⟨(sv.lead h2).1,by omega⟩
   ·exact k.leaders t o ho'
  ·exact k.leaders t o ho'
 ·show (x.commits.set n (x.cores.get n).commit).get m≤_
  have m2':m≤x.size:=m2
  rw [five_gs _ _ _ _ m1 (by omega)]
  split
  ·rename_i z;rw [z];exact Int.le_refl _
  ·exact k.cm m m1 m2'
 ·show (x.terms.set n (x.cores.get n).term).get m≤_
  have m2':m≤x.size:=m2
  rw [five_gs _ _ _ _ m1 (by omega)]
  split
  ·rename_i z;rw [z];exact Int.le_refl _
  ·exact k.tms m m1 m2'
theorem NetI.out {x:NetM} (k:NetI g x) (n1:1≤n) (n2:n≤x.size) {c:CoreM} {A:List Abs} {g':Gh} (e:Ext n g g') (m:Mid g' n (x.kept.get n) c A) (hc:(x.cores.get n).commit≤c.commit):NetI g' (x.out n c):=by
 obtain ⟨A0,id0⟩:=k.srv n n1 n2
 have hs5:=k.w.sz5
 have hsz:=k.sz
 obtain ⟨k1,k2,k3⟩:=m.kept
 have ht:(x.cores.get n).term≤c.term:=by rw [id0.srv.tm,m.srv.tm];exact e.tmn
 have hm':∀ p∈x.mails,Msg g' p:=fun p hp=>e.msg k.w (k.mails p hp)
 unfold NetM.out NetM.keep
 simp only []
 have base:NetI g' {x with cores:=x.cores.set n c.done.1,kept:=x.kept.set n c.done.1.saved}:=by
  refine ⟨m.w,e.size.trans k.sz,fun j j1 j2=>?_,hm',k.fine,fun t o ho=>?_,fun i y hy=>e.chosenAt (k.chosen i y hy),fun j j1 j2=>?_,fun j j1 j2=>?_,k.draw⟩
  ·have j2':j≤x.size:=j2
   show ∃ A,Idl g' j ((x.kept.set n c.done.1.saved).get j) ((x.cores.set n c.done.1).get j) A
   rw [Fv.get_set _ _ _ _ j1 (by omega),Fv.get_set _ _ _ _ j1 (by omega)]
   split
   ·rename_i z;rw [z];exact ⟨A,k3,rfl,rfl⟩
   ·rename_i z
    obtain ⟨B,idj⟩:=k.srv j j1 j2'
    exact ⟨B,e.idl k.w z idj⟩
  ·obtain ⟨l1,l2⟩:=k.leaders t o ho
   exact ⟨(e.led t (by rw [l1];exact l2)).1.trans l1,l2⟩
  ·have j2':j≤x.size:=j2
   show x.commits.get j≤((x.cores.set n c.done.1).get j).commit
   rw [Fv.get_set _ _ _ _ j1 (by omega)]
   split
   ·rename_i z;rw [z];have:=k.cm n n1 n2;show _≤c.commit;omega
   ·exact k.cm j j1 j2'
  ·have j2':j≤x.size:=j2
   show x.terms.get j≤((x.cores.set n c.done.1).get j).term
   rw [Fv.get_set _ _ _ _ j1 (by omega)]
   split
   ·rename_i z;rw [z];have:=k.tms n n1 n2;show _≤c.term;omega
   ·exact k.tms j j1 j2'
 rw [k1,k2,k.fine]
 split
 ·refine NetI.look ⟨base.w,base.sz,base.srv,fun p hp=>?_,rfl,base.leaders,base.chosen,base.cm,base.tms,base.draw⟩ n1 n2
  rcases List.mem_append.1 hp with hp | hp
  ·exact hm' p hp
  ·exact m.out p hp
 ·exact NetI.look ⟨base.w,base.sz,base.srv,base.mails,rfl,base.leaders,base.chosen,base.cm,base.tms,base.draw⟩ n1 n2
end
section
variable {g:Gh} {n:Int} {x:NetM}
theorem NetI.more (k:NetI g x) {d:Int} (h:0≤d) (hl:g.lim+d≤100000000):NetI (g.more d) x:=by
 have e:=ext_more (n:=0) (g:=g) h
 exact ⟨k.w.more h hl,k.sz,fun n n1 n2=>by
  obtain ⟨A,id⟩:=k.srv n n1 n2
  exact ⟨A,id.srv.more h,id.kept,id.out⟩,fun p hp=>e.msg k.w (k.mails p hp),k.fine,k.leaders,fun i y hy=>e.chosenAt (k.chosen i y hy),k.cm,k.tms,k.draw⟩
theorem NetI.withDraw (k:NetI g x) {d:Int} (h:0≤d):NetI g {x with draw:=d}:=⟨k.w,k.sz,k.srv,k.mails,k.fine,k.leaders,k.chosen,k.cm,k.tms,h⟩
theorem NetI.withMails (k:NetI g x) {l:List PostM} (h:∀ p∈l,Msg g p):NetI g {x with mails:=l}:=⟨k.w,k.sz,k.srv,h,k.fine,k.leaders,k.chosen,k.cm,k.tms,k.draw⟩
theorem out_size (x:NetM) (n:Int) (c:CoreM):(x.out n c).size=x.size∧(x.out n c).draw=x.draw:=by
 unfold NetM.out NetM.keep
 simp only []
 split <;> exact ⟨rfl,rfl⟩
structure Goes (g:Gh) (x y:NetM) (d:Int):Prop where
  out:∃ g',NetI g' y∧g'.lim≤g.lim+d
  size:y.size=x.size
  draw:y.draw=x.draw
theorem NetI.goes (k:NetI g x) {d:Int} (h:0≤d):Goes g x x d:=⟨⟨g,k,by omega⟩,rfl,rfl⟩
theorem NetI.call (k:NetI g x) (n1:1≤n) (n2:n≤x.size) {c:CoreM} (hl:g.lim+10≤100000000) (hc:(x.cores.get n).commit≤c.commit)
  (h:∀ A,Mid (g.more 10) n (x.kept.get n) (x.cores.get n) A→(A.length:Int)+1≤(g.more 10).lim→(x.cores.get n).term+1≤(g.more 10).lim→(x.cores.get n).out=out0→(x.cores.get n).round+1≤(g.more 10).lim→((x.cores.get n).reads.length:Int)+1≤(g.more 10).lim →
   ∃ g' A',Ext n (g.more 10) g'∧g'.lim=(g.more 10).lim∧Mid g' n (x.kept.get n) c A'):Goes g x (x.out n c) 10:=by
 have k':=k.more (d:=10) (by omega) hl
 obtain ⟨A,id⟩:=k.srv n n1 n2
 obtain ⟨A2,id2⟩:=k'.srv n n1 n2
 have hal:=id2.srv.al
 have h1:=id.srv.al;have h2:=k.w.l1 n n1 (by rw [k.sz];exact n2);have h3:=id.srv.tm;have h4:=id.srv.r2;have h5:=id.srv.rl
 have m0:Mid (g.more 10) n (x.kept.get n) (x.cores.get n) A:=Idl.mid k'.w ⟨id.srv.more (by omega),id.kept,id.out⟩
 obtain ⟨g',A',e,el,m⟩:=h A m0 (by show (A.length:Int)+1≤g.lim+10;omega) (by show (x.cores.get n).term+1≤g.lim+10;omega) id.out (by show (x.cores.get n).round+1≤g.lim+10;omega) (by show ((x.cores.get n).reads.length:Int)+1≤g.lim+10;omega)
 exact ⟨⟨g',k'.out n1 n2 e m hc,by rw [el];exact Int.le_refl _⟩,(out_size x n c).1,(out_size x n c).2⟩
theorem NetI.tick (k:NetI g x) (n1:1≤n) (n2:n≤x.size) {d:Int} (hd:0≤d) (hl:g.lim+10≤100000000):Goes g x (x.tick n d) 10 :=
 k.call n1 n2 hl (tick_commit _ _) fun A m h1 h2 h3 _ _=>m.tick (by rw [h3];rfl) h1 h2 hd
theorem NetI.propose (k:NetI g x) (n1:1≤n) (n2:n≤x.size) {kind:Int} {data:List Int} (hb:∀ z∈data,0≤z∧z<256) (hsz:kind=2→∀ m∈ls (m5 (crewNum (0,0,0,data))),m≤x.size) (hl:g.lim+10≤100000000):Goes g x (x.propose n kind data) 10:=by
 unfold NetM.propose
 split
 ·rename_i hE
  exact k.call n1 n2 hl (propose_commit _ _ _) fun A m h1 h2 h3 _ _=>m.propose hE hb (fun h j hj=>by show j≤g.size;rw [k.sz];exact hsz h j hj) (by rw [h3];rfl) h1
 ·exact k.goes (by omega)
theorem NetI.read (k:NetI g x) (n1:1≤n) (n2:n≤x.size) (hl:g.lim+10≤100000000):Goes g x (x.read n) 10:=by
 unfold NetM.read
 split
 ·rename_i hE
  exact k.call n1 n2 hl (read_commit _) fun A m h1 h2 h3 h4 h5=>⟨_,A,Ext.refl _ _,rfl,m.read hE h4 h5⟩
 ·exact k.goes (by omega)
theorem NetI.take (k:NetI g x) {p:PostM} (m:Msg g p) {d:Int} (hd:0≤d) (hl:g.lim+10≤100000000):Goes g x (x.take p d) 10:=by
 have hd2:p.dst≤x.size:=by rw [← k.sz];exact m.d2
 obtain ⟨A,id⟩:=k.srv p.dst m.d1 hd2
 unfold NetM.take
 rw [if_pos (m.takes k.w id.srv.self)]
 refine k.call m.d1 hd2 hl (take_commit _ _ _) fun A m' h1 h2 h3 _ _=>?_
 exact m'.take ((ext_more (n:=0) (g:=g) (by omega:(0:Int)≤10)).msg k.w m) rfl hd (by rw [h3];rfl) (by rw [h3];rfl) (by rw [h3];rfl) h1
theorem NetI.again (k:NetI g x) (n1:1≤n) (n2:n≤x.size):Goes g x (x.again n) 10:=by
 obtain ⟨A,id⟩:=k.srv n n1 n2
 have hs5:=k.w.sz5
 have hsz:=k.sz
 obtain ⟨h1,h2,h3,h4⟩:=id.again k.w (draw:=x.draw % 7) (Int.emod_nonneg _ (by omega))
 unfold NetM.again
 rw [if_pos (show cnewOk n crew0 (x.kept.get n) (x.draw % 7)=true from h1)]
 refine ⟨⟨g,⟨k.w,k.sz,fun j j1 j2=>?_,k.mails,k.fine,k.leaders,k.chosen,fun j j1 j2=>?_,fun j j1 j2=>?_,k.draw⟩,by omega⟩,rfl,rfl⟩
 ·have j2':j≤x.size:=j2
  show ∃ A,Idl g j (x.kept.get j) ((x.cores.set n (cnew n crew0 (x.kept.get n) (x.draw % 7))).get j) A
  rw [Fv.get_set _ _ _ _ j1 (by omega)]
  split
  ·rename_i z;rw [z];exact ⟨A,h2⟩
  ·exact k.srv j j1 j2'
 ·have j2':j≤x.size:=j2
  show (x.commits.set n (x.kept.get n).snap.index).get j≤((x.cores.set n (cnew n crew0 (x.kept.get n) (x.draw % 7))).get j).commit
  rw [Fv.get_set _ _ _ _ j1 (by omega),five_gs _ _ _ _ j1 (by omega)]
  split
  ·exact Int.le_refl _
  ·exact k.cm j j1 j2'
 ·have j2':j≤x.size:=j2
  show x.terms.get j≤((x.cores.set n (cnew n crew0 (x.kept.get n) (x.draw % 7))).get j).term
  rw [Fv.get_set _ _ _ _ j1 (by omega)]
  split
  ·rename_i z;rw [z];have h4':(cnew n crew0 (x.kept.get n) (x.draw % 7)).term=(x.cores.get n).term:=h4
   rw [h4'];exact k.tms n n1 n2
  ·exact k.tms j j1 j2'
theorem NetI.compact (k:NetI g x) (n1:1≤n) (n2:n≤x.size):Goes g x (x.compact n) 10:=by
 obtain ⟨A,id⟩:=k.srv n n1 n2
 have hs5:=k.w.sz5
 have hsz:=k.sz
 unfold NetM.compact
 simp only []
 split
 ·rename_i hE
  have h2:=id.compact k.w hE
  refine ⟨⟨g,⟨k.w,k.sz,fun j j1 j2=>?_,k.mails,k.fine,k.leaders,k.chosen,fun j j1 j2=>?_,fun j j1 j2=>?_,k.draw⟩,by omega⟩,rfl,rfl⟩
  ·have j2':j≤x.size:=j2
   show ∃ A,Idl g j ((x.kept.set n (snappedM (x.kept.get n) ((x.cores.get n).compact (x.cores.get n).commit [(x.cores.get n).commit % 256]).snap)).get j) ((x.cores.set n ((x.cores.get n).compact (x.cores.get n).commit [(x.cores.get n).commit % 256])).get j) A
   rw [Fv.get_set _ _ _ _ j1 (by omega),Fv.get_set _ _ _ _ j1 (by omega)]
   split
   ·rename_i z;rw [z];exact ⟨A,h2⟩
   ·exact k.srv j j1 j2'
  ·have j2':j≤x.size:=j2
   show x.commits.get j≤((x.cores.set n ((x.cores.get n).compact (x.cores.get n).commit [(x.cores.get n).commit % 256])).get j).commit
   rw [Fv.get_set _ _ _ _ j1 (by omega)]
   split
   ·rename_i z;rw [z];exact k.cm n n1 n2
   ·exact k.cm j j1 j2'
  ·have j2':j≤x.size:=j2
   show x.terms.get j≤((x.cores.set n ((x.cores.get n).compact (x.cores.get n).commit [(x.cores.get n).commit % 256])).get j).term
   rw [Fv.get_set _ _ _ _ j1 (by omega)]
   split
   ·rename_i z;rw [z];exact k.tms n n1 n2
   ·exact k.tms j j1 j2'
 ·exact k.goes (by omega)
theorem bring_in (i n:Int) (h:0<n):0≤bring i n∧bring i n<n:=by
 unfold bring
 rw [if_neg (by omega)]
 have h1:=Int.tmod_lt_of_pos i h
 have h2 : -n<i.tmod n:=Int.lt_tmod_of_pos i h
 split <;> omega
theorem flip_all:((List.range 256).all fun c=>[1,2,3,4,5].all fun k=>(ls (m5 (crewNum (0,0,0,[flip (c:Int) ((k:Nat):Int) % 256])))).all fun n=>decide (n=((k:Nat):Int)) || (ls (m5 (c:Int))).contains n)=true:=by decide +kernel
theorem flip_in (c:Nat) (hc:c<256) (k:Nat) (hk:k<6) (hk1:1≤k) (n:Int) (hn:n∈ls (m5 (crewNum (0,0,0,[flip (c:Int) (k:Int) % 256])))):n=k∨n∈ls (m5 (c:Int)):=by
 have h:=List.all_eq_true.1 flip_all c (List.mem_range.2 hc)
 have hk':k∈[1,2,3,4,5]:=by
  have:k=1∨k=2∨k=3∨k=4∨k=5:=by omega
  simpa using this
 have h2:=List.all_eq_true.1 (List.all_eq_true.1 h k hk') n hn
 rcases Bool.or_eq_true_iff.1 h2 with h3 | h3
 ·exact .inl (of_decide_eq_true h3)
 ·exact .inr (List.contains_iff_mem.1 h3)
theorem conf_range:∀ (A:List Abs) (size f:Int),(∀ e∈A,EOk size e)→0≤f∧f<256→0≤conf f A∧conf f A<256
 | [],_,f,_,h=>h
 | e::r,size,f,h,hf=>by
  unfold conf
  rw [List.foldl_cons]
  refine conf_range r size _ (fun x hx=>h x (by simp [hx])) ?_
  split
  ·have hb:=(h e (by simp)).by_
   unfold crewNum
   split
   ·rename_i x hx;exact hb x (by rw [hx];simp)
   ·omega
  ·exact hf
theorem NetI.change (k:NetI g x) (n1:1≤n) (n2:n≤x.size) (b:Int) (hl:g.lim+10≤100000000):Goes g x (x.change n b) 10:=by
 obtain ⟨A,id⟩:=k.srv n n1 n2
 have hs3:=k.w.sz3;have hs5:=k.w.sz5;have hsz:=k.sz
 obtain ⟨b1,b2⟩:=bring_in b x.size (by omega)
 refine k.propose n1 n2 (fun z hz=>?_) (fun _ m hm=>?_) hl
 ·rw [List.mem_singleton.1 hz]
  exact ⟨Int.emod_nonneg _ (by omega),Int.emod_lt_of_pos _ (by omega)⟩
 ·rw [id.srv.crew.1] at hm
  have cr:=conf_range A g.size 14 id.srv.eok (by omega)
  obtain ⟨c,hc⟩:∃ c:Nat,conf 14 A=c:=⟨(conf 14 A).toNat,by omega⟩
  obtain ⟨q,hq⟩:∃ q:Nat,1+bring b x.size=q:=⟨(1+bring b x.size).toNat,by omega⟩
  rw [hc,hq] at hm
  rcases flip_in c (by omega) q (by omega) (by omega) m hm with h | h
  ·omega
  ·rw [← hc] at h
   have:=conf_size hs3 A id.srv.eok 14 (fun z hz=>Int.le_trans (crew14 z hz) hs3) m h
   omega
theorem tickAll_go:∀ (l:List Nat) (d0:Int) (g:Gh) (x:NetM),0≤d0→(∀ k∈l,(k:Int)+1≤x.size)→NetI g x→g.lim+10*l.length≤100000000→Goes g x (l.foldl (fun (y:NetM) (k:Nat)=>y.tick ((k:Int)+1) (d0+(k:Int)+1)) x) (10*l.length)
 | [],d0,g,x,_,_,k,_=>k.goes (by simp)
 | j::l,d0,g,x,h0,h,k,hl=>by
  rw [List.foldl_cons]
  simp only [List.length_cons] at hl
  have h1:=k.tick (n:=(j:Int)+1) (by omega) (h j (by simp)) (d:=d0+(j:Int)+1) (by omega) (by omega)
  obtain ⟨g',k',l'⟩:=h1.out
  have h2:=tickAll_go l d0 g' _ h0 (fun i hi=>by rw [h1.size];exact h i (by simp [hi])) k' (by omega)
  obtain ⟨g2,k2,l2⟩:=h2.out
  exact ⟨⟨g2,k2,by simp only [List.length_cons];omega⟩,h2.size.trans h1.size,h2.draw.trans h1.draw⟩
def NetM.stepOf (x:NetM) (s:StepM):NetM :=
  let n:=1+bring s.a x.size
  let i:=(bring s.a x.mails.length).toNat
  let op:=bring s.op 10
  if op=0 then (match x.mails[i]? with | none=>x | some p=>({x with mails:=dropN x.mails i}).take p x.draw)
  else if op=1 then x.tick n x.draw
  else if op=2 then x.propose n 1 [s.b % 256,x.draw % 256]
  else if op=3 then (if x.mails=[] then x else {x with mails:=dropN x.mails i})
  else if op=4 then (match x.mails[i]? with | none=>x | some p=>if x.mails.length<300 then {x with mails:=x.mails++[p]} else x)
  else if op=5 then x.again n
  else if op=6 then x.change n s.b
  else if op=7 then x.read n
  else if op=8 then x.compact n
  else x.tickAll
theorem step_eq (y:NetM) (s:StepM):y.step s=NetM.stepOf {y with draw:=(y.draw*7+s.b % 1024+3) % 100003} s:=rfl
theorem mem_dropN {α:Type} {l:List α} {i:Nat} {p:α} (hp:p∈dropN l i):p∈l:=by
 unfold dropN at hp
 rcases List.mem_append.1 hp with h | h
 ·exact List.mem_of_mem_take h
 ·exact List.mem_of_mem_drop h
theorem Goes.le {y:NetM} {d e:Int} (h:Goes g x y d) (hd:d≤e):Goes g x y e:=by
 obtain ⟨g',a,b⟩:=h.out
 exact ⟨⟨g',a,by omega⟩,h.size,h.draw⟩
theorem NetI.stepOf (k:NetI g x) (s:StepM) (hl:g.lim+60≤100000000):Goes g x (x.stepOf s) 60:=by
 have hs3:=k.w.sz3;have hs5:=k.w.sz5;have hsz:=k.sz
 obtain ⟨b1,b2⟩:=bring_in s.a x.size (by omega)
 have n1:1≤1+bring s.a x.size:=by omega
 have n2:1+bring s.a x.size≤x.size:=by omega
 have hdr:=k.draw
 unfold NetM.stepOf
 simp only []
 split
 ·
  split
  ·exact k.goes (by omega)
  ·rename_i p hp
   have h:=(k.withMails (l:=dropN x.mails (bring s.a x.mails.length).toNat) fun q hq=>k.mails q (mem_dropN hq)).take (k.mails p (List.mem_of_getElem? hp)) (d:=x.draw) hdr (by omega)
   obtain ⟨g',a,b⟩:=h.out
   exact ⟨⟨g',a,by omega⟩,h.size,h.draw⟩
 split
 ·exact (k.tick n1 n2 hdr (by omega)).le (by omega)
 split
 ·refine (k.propose n1 n2 (fun z hz=>?_) (fun h=>by omega) (by omega)).le (by omega)
  simp only [List.mem_cons,List.not_mem_nil,or_false] at hz
  rcases hz with rfl | rfl
  ·exact ⟨Int.emod_nonneg _ (by omega),Int.emod_lt_of_pos _ (by omega)⟩
  ·exact ⟨Int.emod_nonneg _ (by omega),Int.emod_lt_of_pos _ (by omega)⟩
 split
 ·split
  ·exact k.goes (by omega)
  ·exact ⟨⟨g,k.withMails fun q hq=>k.mails q (mem_dropN hq),by omega⟩,rfl,rfl⟩
 split
 ·split
  ·exact k.goes (by omega)
  ·rename_i p hp
   split
   ·refine ⟨⟨g,k.withMails fun q hq=>?_,by omega⟩,rfl,rfl⟩
    rcases List.mem_append.1 hq with h | h
    ·exact k.mails q h
    ·rw [List.mem_singleton.1 h];exact k.mails p (List.mem_of_getElem? hp)
   ·exact k.goes (by omega)
 split
 ·exact (k.again n1 n2).le (by omega)
 split
 ·exact (k.change n1 n2 s.b (by omega)).le (by omega)
 split
 ·exact (k.read n1 n2 (by omega)).le (by omega)
 split
 ·exact (k.compact n1 n2).le (by omega)
 ·unfold NetM.tickAll
  have hlr:(List.range x.size.toNat).length≤5:=by rw [List.length_range];omega
  exact (tickAll_go (List.range x.size.toNat) x.draw g x hdr (fun j hj=>by have:=List.mem_range.1 hj;omega) k (by omega)).le (by omega)
theorem NetI.step (k:NetI g x) (s:StepM) (hl:g.lim+60≤100000000):(∃ g',NetI g' (x.step s)∧g'.lim≤g.lim+60)∧(x.step s).size=x.size:=by
 have hdr:=k.draw
 have h:=(k.withDraw (d:=(x.draw*7+s.b % 1024+3) % 100003) (Int.emod_nonneg _ (by omega))).stepOf s hl
 rw [step_eq]
 exact ⟨h.out,h.size⟩
end
section
def Turned (h'' h':Heap):Prop:=∀ b t x,h'' b=some (t,x)→∃ u,h' b=some (u,x)
theorem ACalls.turn {P:Program} {f:FuncId} {args:Array Value} {h:Heap} {R R':Value→Heap→Prop} (c:ACalls P f args h R) (k:∀ v h',R v h'→∃ h'',Turned h'' h'∧R' v h''):ACalls P f args h R' :=
 ⟨c.1,fun β w hr=>(c.2 β w hr).mono fun _ _ ⟨v,h',e,r,q⟩=>let ⟨h'',s,q'⟩:=k _ _ q;⟨v,h'',e,⟨fun b t o hb=>let ⟨u,hu⟩:=s b t o hb;r.rel b u o hu,r.os,r.tape,r.out,r.size⟩,q'⟩⟩
def Heap.retag (o n:Nat) (h:Heap):Heap:=fun b=>(h b).map fun y=>(if y.1.1=o then ((n,y.1.2):Tag) else y.1,y.2)
theorem retag_turned (o n:Nat) (h:Heap):Turned (h.retag o n) h:=fun b t x e=>by
 unfold Heap.retag at e
 cases hb:h b with
 | none=>rw [hb] at e;cases e
 | some y=>rw [hb] at e;simp only [Option.map_some,Option.some.injEq,Prod.mk.injEq] at e;exact ⟨y.1,by rw [← e.2]⟩
theorem retag_in {o n:Nat} {h:Heap} {b r:Nat} {x:Obj} (e:h b=some ((o,r),x)):h.retag o n b=some ((n,r),x):=by
 unfold Heap.retag;rw [e];simp
theorem retag_out {o n:Nat} {h:Heap} {b:Nat} {t:Tag} {x:Obj} (ht:t.1≠o) (e:h b=some (t,x)):h.retag o n b=some (t,x):=by
 unfold Heap.retag;rw [e];simp [ht]
theorem Own.turn {h h':Heap} {t t':Tag} {E:TypeId} {a:Option Addr} {n cap z:Nat} {cs:List Value} (s:Own h t E a n cap z cs) (k:∀ b x,h b=some (t,x)→h' b=some (t',x)):Own h' t' E a n cap z cs:=by
 rcases s with s | ⟨b,l,e,hb,r⟩
 ·exact .inl s
 ·exact .inr ⟨b,l,e,k _ _ hb,r⟩
theorem OutOk.retag {h:Heap} {oo n:Nat} {o:OutM} {x:OX} (k:OutOk h oo o x):OutOk (h.retag oo n) n o x :=
 ⟨k.od.turn fun _ _ e=>retag_in e,k.oe.turn fun _ _ e=>retag_in e,fun y hy=>Own.turn (k.ed y hy) fun _ _ e=>retag_in e,k.ea,k.es,k.op.turn fun _ _ e=>retag_in e,
  fun i y hy=>let m:=k.ps i y hy;⟨m.es.turn fun _ _ e=>retag_in e,fun z hz=>Own.turn (m.ed z hz) fun _ _ e=>retag_in e,m.sm,m.sd.turn fun _ _ e=>retag_in e⟩,k.pa,k.qr.turn fun _ _ e=>retag_in e⟩
def Told2 (M p o:Nat) (d:CoreM) (h:Heap) (v:Value) (h':Heap):Prop :=
  ∃ ox,v = .agg (outCells d.done.2 ox).toArray∧OutOk h' M d.done.2 ox∧PIdle h' p o d.done.1∧Keeps [o,o+1] h h'
theorem keeps_retag {h h':Heap} {o oo M:Nat} (hb:Bound oo h) (k:Keeps [o,o+1,oo] h h'):Keeps [o,o+1] h (h'.retag oo M):=fun b t x ht e=>by
 have h1:=hb _ _ _ e
 simp only [List.mem_cons,List.not_mem_nil,or_false,not_or] at ht
 exact retag_out (by omega) (k _ _ _ (by simp;omega) e)
theorem Told.turn {p o oo M:Nat} {d:CoreM} {h h':Heap} {v:Value} (t:Told p o oo d h v h') (hb:Bound oo h) (h1:o≠oo) (h2:o+1≠oo):∃ h'',Turned h'' h'∧Told2 M p o d h v h'':=by
 obtain ⟨ox,e,ok,q,kk⟩:=t
 refine ⟨h'.retag oo M,retag_turned _ _ _,ox,e,ok.retag,?_,keeps_retag hb kk⟩
 have i:PIdle h' p o d.done.1:=Idle.of q rfl
 exact i.keeps (os:=[oo]) (fun b t x ht e=>retag_out (by simpa using ht) e) (by simpa using h1) (by simpa using h2)
theorem Bound.le {o o':Nat} {h:Heap} (b:Bound o h) (k:o≤o'):Bound o' h:=fun c t x e=>Nat.lt_of_lt_of_le (b c t x e) k
theorem sub_turned {h':Heap}:Turned h' h':=fun b t x e=>⟨t,e⟩
theorem tick_net {h:Heap} {p o:Nat} {c:CoreM} (M:Nat) (h0:o≠0) (k:PIdle h p o c) (ok:COk c) {d:Int} (hd:0≤d) :
  ACalls PR 24 #[Ptr p,I d] h (fun v h'=>∃ u,v = .tuple #[u,I 0]∧Told2 M p o (c.tick d) h u h'):=by
 refine ACalls.owner ⟨_,Tryz.func24,rfl,rfl⟩ fun o0 ho0 bnd=>?_
 have ap:Apart o (o0+o+2):=⟨by omega,by omega,h0,by omega⟩
 refine (Tick_any ap (k.all _) ok d).turn fun v h' r=>?_
 rcases r with ⟨c1,_⟩ | ⟨_,u,rfl,t⟩
 ·omega
 ·obtain ⟨h'',a,b⟩:=t.turn (M:=M) (bnd.le (by omega)) ap.a ap.b
  exact ⟨h'',a,u,rfl,b⟩
theorem take_net {h:Heap} {p o:Nat} {c:CoreM} (M:Nat) (h0:o≠0) (k:PIdle h p o c) (ok:COk c) (x:PH) (g:∀ oo,Bound oo h→o+1<oo→Given h o oo x) (ht:c.takes x.abs=true) {d:Int} (hd:0≤d) :
  ACalls PR 25 #[Ptr p, .agg x.cells.toArray,I d] h (fun v h'=>∃ u,v = .tuple #[u,I 0]∧Told2 M p o (c.take x.abs d) h u h'):=by
 refine ACalls.owner ⟨_,Tryz.func25,rfl,rfl⟩ fun o0 ho0 bnd=>?_
 have ap:Apart o (o0+o+2):=⟨by omega,by omega,h0,by omega⟩
 refine (Take_any ap (k.all _) ok x (g _ (bnd.le (by omega)) (by omega)) d).turn fun v h' r=>?_
 rcases r with ⟨c1,_⟩ | ⟨_,_,u,rfl,t⟩
 ·rcases c1 with c1 | c1
  ·rw [ht] at c1;cases c1
  ·omega
 ·obtain ⟨h'',a,b⟩:=t.turn (M:=M) (bnd.le (by omega)) ap.a ap.b
  exact ⟨h'',a,u,rfl,b⟩
theorem read_net {h:Heap} {p o:Nat} {c:CoreM} (M:Nat) (h0:o≠0) (k:PIdle h p o c) (ok:COk c) :
  ACalls PR 26 #[Ptr p] h (fun v h'=>(c.readE≠0∧v = .tuple #[I 0, .agg (outCells out0 ox0).toArray,I c.readE]∧Sub h h')∨(c.readE=0∧∃ u,v = .tuple #[I (c.round+1),u,I 0]∧Told2 M p o c.read h u h')):=by
 refine ACalls.owner ⟨_,Tryz.func26,rfl,rfl⟩ fun o0 ho0 bnd=>?_
 have ap:Apart o (o0+o+2):=⟨by omega,by omega,h0,by omega⟩
 refine (Read_any ap (k.all _) ok).turn fun v h' r=>?_
 rcases r with r | ⟨e,u,rfl,t⟩
 ·exact ⟨h',sub_turned, .inl r⟩
 ·obtain ⟨h'',a,b⟩:=t.turn (M:=M) (bnd.le (by omega)) ap.a ap.b
  exact ⟨h'',a, .inr ⟨e,u,rfl,b⟩⟩
theorem propose_net {h:Heap} {p o:Nat} {c:CoreM} (M:Nat) (h0:o≠0) (k:PIdle h p o c) (ok:COk c) (kind:Int) {t:Tag} {a:Option Addr} {n cp:Nat} {data:List Int} (g:Sl h t a n cp 1 (bytesV data)) (hb:∀ z∈data,0≤z∧z<256) :
  ACalls PR 21 #[Ptr p,I kind, .slice a n cp] h (fun v h'=>(c.proposeE kind data≠0∧v = .tuple #[I 0, .agg (outCells out0 ox0).toArray,I (c.proposeE kind data)]∧Sub h h') ∨
   (c.proposeE kind data=0∧∃ u,v = .tuple #[I (c.log.last.1+1),u,I 0]∧Told2 M p o (c.propose kind data) h u h')):=by
 refine ACalls.owner ⟨_,Tryz.func21,rfl,rfl⟩ fun o0 ho0 bnd=>?_
 have ap:Apart o (o0+o+2):=⟨by omega,by omega,h0,by omega⟩
 refine (Propose_any ap (k.all _) ok kind (d:=⟨a,n,cp⟩) g hb).turn fun v h' r=>?_
 rcases r with r | ⟨e,u,rfl,t⟩
 ·exact ⟨h',sub_turned, .inl r⟩
 ·obtain ⟨h'',a,b⟩:=t.turn (M:=M) (bnd.le (by omega)) ap.a ap.b
  exact ⟨h'',a, .inr ⟨e,u,rfl,b⟩⟩
theorem compact_net {h:Heap} {p o:Nat} {c:CoreM} (M:Nat) (h0:o≠0) (k:PIdle h p o c) (ok:COk c) (hbi:c.log.bi≤c.snap.index) (hsi:c.snap.index≤9007199254740991) (i:Int) {t:Tag} {a:Option Addr} {n cp:Nat} {data:List Int} (g:Sl h t a n cp 1 (bytesV data)) (ht:t.1≠o+1) (hdn:n≤140737488355328) :
  ACalls PR 27 #[Ptr p,I i, .slice a n cp] h (fun v h'=>(c.compactE i data≠0∧v = .tuple #[.agg #[I 0,I 0,I 0, .slice none 0 0],I (c.compactE i data)]∧Sub h h') ∨
   (c.compactE i data=0∧∃ a n cc,v = .tuple #[.agg #[I i,I (c.compact i data).snap.term,I (c.compact i data).snap.crew, .slice a n cc],I 0]∧Own h' (M,6) 5 a n cc 1 (bytesV data)∧PIdle h' p o (c.compact i data)∧Keeps [o,o+1] h h')):=by
 refine ACalls.owner ⟨_,Tryz.func27,rfl,rfl⟩ fun o0 ho0 bnd=>?_
 have ap:Apart o (o0+o+2):=⟨by omega,by omega,h0,by omega⟩
 refine (Compact_any ap k ok hbi hsi i (d:=⟨a,n,cp⟩) g ht hdn).turn fun v h' r=>?_
 rcases r with r | ⟨e,a,n,cc,rfl,ow,q,kk⟩
 ·exact ⟨h',sub_turned, .inl r⟩
 ·refine ⟨h'.retag (o0+o+2) M,retag_turned _ _ _, .inr ⟨e,a,n,cc,rfl,ow.turn fun _ _ e=>retag_in e,?_,keeps_retag (bnd.le (by omega)) kk⟩⟩
  exact q.keeps (os:=[o0+o+2]) (fun b t x ht e=>retag_out (by simpa using ht) e) (by simp;omega) (by simp;omega)
structure NX where
  cp:Fv (Option Nat)
  ke:Fv SH
  ml:SlV
  ps:List PH
  m1:Nat
  e1:List MapEntry
  k1:Nat
  m2:Nat
  e2:List MapEntry
  k2:Nat
  ch:List (Int×EH)
def optp (b:Option Nat):Value := .pointer (b.map fun b=>⟨b,0,none⟩)
def netCells (x:NetM) (v:NX):List Value :=
  [I x.size,I 14, .pointer none,optp v.cp.b1,optp v.cp.b2,optp v.cp.b3,optp v.cp.b4,optp v.cp.b5,I 0,I 0,I 0,I 0,I 0, .slice none 0 0, .slice none 0 0,
   I v.ke.b1.term,I v.ke.b1.vote,I v.ke.b1.si,I v.ke.b1.st,I v.ke.b1.sc, .slice v.ke.b1.d.a v.ke.b1.d.n v.ke.b1.d.c, .slice v.ke.b1.e.a v.ke.b1.e.n v.ke.b1.e.c,
   I v.ke.b2.term,I v.ke.b2.vote,I v.ke.b2.si,I v.ke.b2.st,I v.ke.b2.sc, .slice v.ke.b2.d.a v.ke.b2.d.n v.ke.b2.d.c, .slice v.ke.b2.e.a v.ke.b2.e.n v.ke.b2.e.c,
   I v.ke.b3.term,I v.ke.b3.vote,I v.ke.b3.si,I v.ke.b3.st,I v.ke.b3.sc, .slice v.ke.b3.d.a v.ke.b3.d.n v.ke.b3.d.c, .slice v.ke.b3.e.a v.ke.b3.e.n v.ke.b3.e.c,
   I v.ke.b4.term,I v.ke.b4.vote,I v.ke.b4.si,I v.ke.b4.st,I v.ke.b4.sc, .slice v.ke.b4.d.a v.ke.b4.d.n v.ke.b4.d.c, .slice v.ke.b4.e.a v.ke.b4.e.n v.ke.b4.e.c,
   I v.ke.b5.term,I v.ke.b5.vote,I v.ke.b5.si,I v.ke.b5.st,I v.ke.b5.sc, .slice v.ke.b5.d.a v.ke.b5.d.n v.ke.b5.d.c, .slice v.ke.b5.e.a v.ke.b5.e.n v.ke.b5.e.c,
   .slice v.ml.a v.ml.n v.ml.c, .bool true, .map (some v.m1), .map (some v.m2),I 0,I x.commits.a1,I x.commits.a2,I x.commits.a3,I x.commits.a4,I x.commits.a5,I 0,I x.terms.a1,I x.terms.a2,I x.terms.a3,I x.terms.a4,I x.terms.a5,I x.draw]
def kvI (l:List (Int×Int)):List (Value×Value):=l.map fun y=>(I y.1,I y.2)
def kvE (l:List (Int×EH)):List (Value×Value):=l.map fun y=>(I y.1, .agg y.2.cells.toArray)
structure NetX (h:Heap) (N p:Nat) (x:NetM) (v:NX):Prop where
  n0:N≠0
  str:h p=some (row (N,0) (netCells x v) 41)
  sz3:3≤x.size
  sz5:x.size≤5
  cores:∀ n,1≤n→n≤x.size→∃ b,v.cp.get n=some b∧PIdle h b (N+2*n.toNat) (x.cores.get n)
  none:∀ n,x.size<n→n≤5→v.cp.get n=none
  kept:∀ n,1≤n→n≤5→(v.ke.get n).abs=x.kept.get n∧∃ t1:Tag,N+12≤t1.1∧(v.ke.get n).Ok h t1 (N+1,2) (N+1,6)
  ml:Own h (N,3) 49 v.ml.a v.ml.n v.ml.c 14 (v.ps.map PH.cells).flatten
  pa:v.ps.map PH.abs=x.mails
  ps:∀ y∈v.ps,∃ r,y.Ok h (N+1,r) (N+1,5) (N+1,6)
  mb:x.mails.length≤400
  led:MapAt h v.m1 (N,1) (.int .i64) v.e1 v.k1
  ledE:v.e1.map kv=kvI x.leaders
  cho:MapAt h v.m2 (N,2) (.int .i64) v.e2 v.k2
  choE:v.e2.map kv=kvE v.ch
  choA:v.ch.map (fun y=>(y.1,y.2.abs))=x.chosen
  choG:∀ y∈v.ch,y.2.Good h (N+1,2)
def Low (N:Nat) (h h':Heap):Prop:=∀ b (t:Tag) x,t.1<N→h b=some (t,x)→h' b=some (t,x)
theorem Low.refl (N:Nat) (h:Heap):Low N h h:=fun _ _ _ _ e=>e
theorem Low.trans {N:Nat} {a b c:Heap} (x:Low N a b) (y:Low N b c):Low N a c:=fun _ _ _ n e=>y _ _ _ n (x _ _ _ n e)
theorem Sub.low {N:Nat} {h h':Heap} (s:Sub h h'):Low N h h':=fun _ _ _ _ e=>s _ _ e
theorem SH.Ok.move {h h':Heap} {t1 t2 t3:Tag} {x:SH} (k:x.Ok h t1 t2 t3) (m:∀ b (t:Tag) y,(t=t1∨t=t2∨t=t3)→h b=some (t,y)→h' b=some (t,y)):x.Ok h' t1 t2 t3 :=
 ⟨⟨k.es.sl.move fun _ _ e=>m _ _ _ (.inl rfl) e,fun e he=>Sl.move (k.es.good e he) fun _ _ e=>m _ _ _ (.inr (.inl rfl)) e,k.es.small⟩,k.sd.move fun _ _ e=>m _ _ _ (.inr (.inr rfl)) e⟩
theorem PH.Ok.move {h h':Heap} {t1 t2 t3:Tag} {x:PH} (k:x.Ok h t1 t2 t3) (m:∀ b (t:Tag) y,(t=t1∨t=t2∨t=t3)→h b=some (t,y)→h' b=some (t,y)):x.Ok h' t1 t2 t3 :=
 ⟨⟨k.es.sl.move fun _ _ e=>m _ _ _ (.inl rfl) e,fun e he=>Sl.move (k.es.good e he) fun _ _ e=>m _ _ _ (.inr (.inl rfl)) e,k.es.small⟩,k.sd.move fun _ _ e=>m _ _ _ (.inr (.inr rfl)) e⟩
theorem Idle.move {T:TypeId} {LP:Heap→Nat→Nat→LG→Prop} [Moves LP] {h h':Heap} {p o:Nat} {c:CoreM} (k:Idle T LP h p o c) (m:∀ b (t:Tag) y,(t.1=o∨t.1=o+1)→h b=some (t,y)→h' b=some (t,y)):Idle T LP h' p o c:=by
 obtain ⟨x,a,b,d,e,f,g⟩:=k
 exact ⟨x,m _ _ _ (.inl rfl) a,b.move fun _ _ e=>m _ _ _ (.inl rfl) e,Moves.move d fun _ _ _ ht e=>m _ _ _ (.inr ht) e,e.move fun _ _ e=>m _ _ _ (.inl rfl) e,f,g⟩
variable {h h':Heap} {N p:Nat} {x:NetM} {v:NX}
theorem NetX.move' (k:NetX h N p x v) (m:∀ b (t:Tag) y,N≤t.1→t≠(N,0)→h b=some (t,y)→h' b=some (t,y)) {x':NetM} {v':NX} (hs:h' p=some (row (N,0) (netCells x' v') 41))
  (e1:x'.size=x.size) (e2:x'.cores=x.cores) (e3:x'.kept=x.kept) (e4:x'.mails=x.mails) (e5:x'.leaders=x.leaders) (e6:x'.chosen=x.chosen) (e7:v'=v):NetX h' N p x' v':=by
 subst e7
 refine ⟨k.n0,hs,by rw [e1];exact k.sz3,by rw [e1];exact k.sz5,fun n n1 n2=>?_,fun n n1 n2=>k.none n (by rw [← e1];exact n1) n2,fun n n1 n2=>?_,k.ml.move fun _ _ e=>m _ _ _ (Nat.le_refl _) (by simp) e,by rw [e4];exact k.pa,fun y hy=>?_,by rw [e4];exact k.mb,k.led.move fun _ e=>m _ _ _ (Nat.le_refl _) (by simp) e,by rw [e5];exact k.ledE,
  k.cho.move fun _ e=>m _ _ _ (Nat.le_refl _) (by simp) e,k.choE,by rw [e6];exact k.choA,fun y hy=>Sl.move (k.choG y hy) fun _ _ e=>m _ _ _ (by simp) (by simp) e⟩
 ·obtain ⟨b,hb,id⟩:=k.cores n n1 (by rw [← e1];exact n2)
  rw [e2]
  exact ⟨b,hb,id.move fun _ t _ ht e=>m _ _ _ (by omega) (fun c=>by rw [c] at ht;simp only at ht;omega) e⟩
 ·rw [e3]
  obtain ⟨q1,t1,q2,q3⟩:=k.kept n n1 n2
  exact ⟨q1,t1,q2,q3.move fun _ t _ ht e=>m _ _ _ (by rcases ht with rfl | rfl | rfl <;> first | omega | simp) (by rcases ht with rfl | rfl | rfl <;> (intro c;have:=congrArg Prod.fst c;have:=congrArg Prod.snd c;simp only at *;omega)) e⟩
 ·obtain ⟨r,hr⟩:=k.ps y hy
  exact ⟨r,hr.move fun _ t _ ht e=>m _ _ _ (by rcases ht with rfl | rfl | rfl <;> simp) (by rcases ht with rfl | rfl | rfl <;> simp) e⟩
theorem NetX.move (k:NetX h N p x v) (m:∀ b (t:Tag) y,N≤t.1→h b=some (t,y)→h' b=some (t,y)):NetX h' N p x v :=
 k.move' (fun b t y n _ e=>m b t y n e) (m _ _ _ (Nat.le_refl _) k.str) rfl rfl rfl rfl rfl rfl rfl
theorem NetX.sub (k:NetX h N p x v) (s:Sub h h'):NetX h' N p x v:=k.move fun _ _ _ _ e=>s _ _ e
theorem NetX.local (k:NetX h N p x v) (s:KeepT (0,1) h h'):NetX h' N p x v:=k.move fun _ t _ ht e=>s _ _ _ (fun c=>by rw [c] at ht;have:=k.n0;simp only at ht;omega) e
theorem core_cell (x:NetM) (v:NX) {n:Int} (h1:1≤n) (h2:n≤5):(netCells x v)[2+n.toNat]? = some (optp (v.cp.get n)):=by
 have:n=1∨n=2∨n=3∨n=4∨n=5:=by omega
 rcases this with rfl | rfl | rfl | rfl | rfl <;> rfl
theorem kept_cells (x:NetM) (v:NX) {n:Int} (h1:1≤n) (h2:n≤5):((netCells x v).drop (8+n.toNat*7)).take 7=(v.ke.get n).cells:=by
 have:n=1∨n=2∨n=3∨n=4∨n=5:=by omega
 rcases this with rfl | rfl | rfl | rfl | rfl <;> rfl
theorem kept_si (x:NetM) (v:NX) {n:Int} (h1:1≤n) (h2:n≤5):(netCells x v)[8+n.toNat*7+2]? = some (I (v.ke.get n).si):=by
 have:n=1∨n=2∨n=3∨n=4∨n=5:=by omega
 rcases this with rfl | rfl | rfl | rfl | rfl <;> rfl
theorem cm_cell (x:NetM) (v:NX) {n:Int} (h1:1≤n) (h2:n≤5):(netCells x v)[54+n.toNat]? = some (I (x.commits.get n)):=by
 have:n=1∨n=2∨n=3∨n=4∨n=5:=by omega
 rcases this with rfl | rfl | rfl | rfl | rfl <;> rfl
theorem tm_cell (x:NetM) (v:NX) {n:Int} (h1:1≤n) (h2:n≤5):(netCells x v)[60+n.toNat]? = some (I (x.terms.get n)):=by
 have:n=1∨n=2∨n=3∨n=4∨n=5:=by omega
 rcases this with rfl | rfl | rfl | rfl | rfl <;> rfl
theorem core_set (x:NetM) (v:NX) {n:Int} (h1:1≤n) (h2:n≤5) (b:Option Nat):(netCells x v).set (2+n.toNat) (optp b)=netCells x {v with cp:=v.cp.set n b}:=by
 have:n=1∨n=2∨n=3∨n=4∨n=5:=by omega
 rcases this with rfl | rfl | rfl | rfl | rfl <;> rfl
theorem cm_set (x:NetM) (v:NX) {n:Int} (h1:1≤n) (h2:n≤5) (y:Int):(netCells x v).set (54+n.toNat) (I y)=netCells {x with commits:=x.commits.set n y} v:=by
 have:n=1∨n=2∨n=3∨n=4∨n=5:=by omega
 rcases this with rfl | rfl | rfl | rfl | rfl <;> rfl
theorem tm_set (x:NetM) (v:NX) {n:Int} (h1:1≤n) (h2:n≤5) (y:Int):(netCells x v).set (60+n.toNat) (I y)=netCells {x with terms:=x.terms.set n y} v:=by
 have:n=1∨n=2∨n=3∨n=4∨n=5:=by omega
 rcases this with rfl | rfl | rfl | rfl | rfl <;> rfl
theorem kept_set (x:NetM) (v:NX) {n:Int} (h1:1≤n) (h2:n≤5) (y:SH):(netCells x v).take (8+n.toNat*7)++(y.cells++(netCells x v).drop (8+n.toNat*7+7))=netCells x {v with ke:=v.ke.set n y}:=by
 have:n=1∨n=2∨n=3∨n=4∨n=5:=by omega
 rcases this with rfl | rfl | rfl | rfl | rfl <;> rfl
end
theorem DLk.put {c:CoreM} (k:DLk c) {kind:Int} {data:List Int} (hroom:(c.log.es.length+1)*48≤140737488355328) (hb:kind=2→crewOk (0,0,0,data)=true∧∀ x∈data,0≤x∧x<256):DLk (c.put kind data):=by
 refine ⟨k.lk.put hroom fun h=>(hb h).2,?_,?_,?_⟩
 ·rcases put_cases c kind data with ⟨_,e⟩ | ⟨_,e⟩ <;> rw [e]
  ·intro y hy h2
   rcases List.mem_append.1 hy with hy | hy
   ·exact k.sy y hy h2
   ·rw [List.mem_singleton.1 hy] at h2 ⊢;exact hb h2
  ·exact k.sy
 ·rcases put_cases c kind data with ⟨_,e⟩ | ⟨_,e⟩ <;> rw [e] <;> exact k.fc
 ·rw [(put_same c kind data).2.1];exact k.sc
theorem DLk.sendAll {c:CoreM} (k:DLk c):DLk c.sendAll:=by
 obtain ⟨a,_,b,_⟩:=sends_same c.others c
 obtain ⟨_,_,_,_,_,_,_,d⟩:=sends_more c.others c
 exact k.same a b d
def setOn (l:List Value) (v:Value) (j:Nat):List Value:=(List.range j).foldl (fun l i=>l.set (16+i) v) l
theorem setOn_len (l:List Value) (v:Value) (j:Nat):(setOn l v j).length=l.length:=by
 unfold setOn
 induction j with
 | zero=>rfl
 | succ j ih=>rw [List.range_succ,List.foldl_append];simpa using ih
theorem setOn_succ (l:List Value) (v:Value) (j:Nat):(setOn l v j).set (16+j) v=setOn l v (j+1):=by
 unfold setOn;rw [List.range_succ,List.foldl_append];rfl
set_option maxHeartbeats 1000000 in
theorem rlead_any {h:Heap} {p o oo:Nat} {c:CoreM} (ap:Apart o oo) (k:RCore h p o oo c) (lk:DLk c) (hs1:1≤c.self) (hs2:c.self≤5)
  (hroom:(c.log.es.length+1)*48≤140737488355328) (he:c.out.entries.length≤1000000000) (hp:c.out.posts.length≤999999990) :
  ACalls PR 157 #[Ptr p] h (fun v h'=>v = .tuple #[]∧RCore h' p o oo c.lead∧Keeps [o,o+1,oo] h h'):=by
 obtain ⟨x0,k0⟩:=k
 have hl:=lk.lk.lo.last
 have ht:=lk.lk.lo.top
 have hl0:=lk.lk.lo.lo
 refine acalls_of mix Tryz.func157 rfl rfl Tryz.ntmps157 Tryz.results157 rfl ?_;conv=>whnf
 refine ACalls.mono (rlast_any k0 lk.lk.lo) ?_;rintro _ _ ⟨rfl,rfl⟩;conv=>whnf
 refine ACalls.mono (rfollow_any ap.a ⟨x0,k0⟩) ?_;rintro _ h1 ⟨rfl,⟨x,k⟩,kk1⟩;conv=>whnf
 refine AStore.oneN rfl rfl rfl (k.str) rfl (coreCells {c.follow with state:=2} x) rfl fun h2 t2 k2 a2 e2=>?_;conv=>whnf
 refine ALoad.one rfl k2 rfl ?_;conv=>whnf
 refine AStore.oneN rfl rfl rfl (k2) rfl (coreCells {c.follow with state:=2,head:=c.self} x) rfl fun h3 t3 k3 a3 e3=>?_;conv=>whnf
 obtain ⟨l,hlc⟩:∃ l,l=coreCells {c.follow with state:=2,head:=c.self} x:=⟨_,rfl⟩
 have hll:l.length=48:=by rw [hlc];rfl
 rw [← hlc] at k3
 refine ALoop.mk (fun e h'=>∃ e0,∃ j:Nat,e=updL 42 e0 [(0,Ptr p),(2,I c.log.last.1),(4,I ((j:Int)+1))]∧j≤5∧KeepT (o,0) h3 h'∧h' p=some (row (o,0) (setOn l (I (c.log.last.1+1)) j) 98)) (fun e=>6-natOf (e 4))
  ⟨_,0,updL_self ⟨rfl,rfl,rfl,trivial⟩,by omega,KeepT.refl _ _,k3⟩ ?_
 rintro e h4 ⟨e0,j,rfl,hj,t4,k4⟩
 conv=>whnf
 by_cases hj6:j<5
 ·refine ACmp.yes (by omega) ?_;conv=>whnf
  refine AArith.ok (by omega) (by omega) (rfl) ?_;conv=>whnf
  refine AIdxA.nat (n:=6) (z:=1) (j:=j+1) (by omega) (by omega) rfl rfl ?_;conv=>whnf
  refine AStore.oneN rfl rfl rfl k4 (by exact Nat.ble_eq_true_of_le (by rw [setOn_len];omega)) (setOn l (I (c.log.last.1+1)) (j+1)) (by rw [show 0+14+1+(j+1)*1=16+j by omega];exact setOn_succ _ _ _) fun h5 t5 k5 a5 e5=>?_;conv=>whnf
  refine AArith.ok (by omega) (by omega) ((by omega:(j:Int)+1+1=((j+1:Nat):Int)+1)) ?_;conv=>whnf
  refine ⟨⟨_,j+1,updL_self ⟨rfl,rfl,rfl,trivial⟩,by omega,t4.trans t5,k5⟩,?_⟩
  show 6-(((j+1:Nat):Int)+1).toNat<6-((j:Int)+1).toNat
  omega
 ·refine ACmp.no (by omega) ?_;conv=>whnf
  obtain rfl:j=5:=by omega
  have e5':setOn l (I (c.log.last.1+1)) 5=coreCells {c.follow with state:=2,head:=c.self,next:=Five.all (c.log.last.1+1)} x:=by rw [hlc];rfl
  rw [e5'] at k4
  obtain ⟨d,hd⟩:∃ d:CoreM,d={c.follow with state:=2,head:=c.self,beat:=2,next:=Five.all (c.log.last.1+1)}:=⟨_,rfl⟩
  refine AStore.oneN rfl rfl rfl (k4) rfl (coreCells {c.follow with state:=2,head:=c.self,beat:=2,next:=Five.all (c.log.last.1+1)} x) rfl fun h5 t5 k5 a5 e5=>?_;conv=>whnf
  rw [← hd] at k5
  have tt:=t2.trans (t3.trans (t4.trans t5))
  have k6:RX h5 p o oo d x:=k.set' ap.a tt k5 (by rw [hd]) (by rw [hd]) (by rw [hd]) (by rw [hd]) (by rw [hd]) (by rw [hd]) (by rw [hd])
  have kk6:=kk1.trans tt.keep
  have el:d.log=c.log:=by rw [hd];rfl
  have es:d.snap=c.snap:=by rw [hd];rfl
  have ef:d.self=c.self:=by rw [hd];rfl
  have eo:d.out=c.out:=by rw [hd];rfl
  have en:d.next=Five.all (c.log.last.1+1):=by rw [hd]
  have lk3:DLk d:=lk.same el es (by rw [hd];rfl)
  have lk4:=lk3.put (kind:=0) (data:=[]) (by rw [el];exact hroom) (by simp)
  obtain ⟨p1,p2,p3,p4,p5,p6,p7,p8⟩:=put_same d 0 []
  refine ACalls.mono (rput_any ap ⟨_,k6⟩ lk3.lk.lo (by rw [el];exact hroom) (by rw [el];omega) 0 (t:=(0,0)) (d:=slv0) (data:=[]) (Sl.nil ..) (by simp [slv0]) (by rw [eo];exact he)) ?_;rintro _ h6 ⟨rfl,k7,kk7⟩;conv=>whnf
  refine ACalls.mono (rsendAll_any ap k7 lk4 (fun n h1 h2=>by rw [p1,en,Five.get_all _ h1 h2];omega) (by rw [p4,eo];exact hp)) ?_;rintro _ h7 ⟨rfl,k8,kk8⟩;conv=>whnf
  obtain ⟨m1,_⟩:=sends_more (d.put 0 []).others (d.put 0 [])
  refine ACalls.mono (rrank_any ap k8 lk4.sendAll (by unfold CoreM.sendAll;rw [m1,p3,ef];exact hs1) (by unfold CoreM.sendAll;rw [m1,p3,ef];exact hs2)) ?_;rintro _ h8 ⟨rfl,k9,kk9⟩;conv=>whnf
  refine ⟨rfl,?_,(kk6.keeps (by simp)).trans (kk7.trans ((kk8.mono (by simp)).trans (kk9.keeps (by simp))))⟩
  rw [hd] at k9
  exact k9
theorem add_bits:∀ a:Nat,a<64→∀ n:Nat,n<6→a<2^n→(a+2^n<64∧a+2^n<2^(n+1)∧∀ j:Nat,j<5→hasB ((a+2^n:Nat):Int) ((j:Int)+1)=(hasB (a:Int) ((j:Int)+1) || decide (j+1=n))):=by decide +kernel
theorem zero_has:∀ j:Nat,j<5→hasB ((0:Nat):Int) ((j:Int)+1)=false:=by decide +kernel
set_option maxHeartbeats 2000000 in
theorem rconfirm_any {h:Heap} {p o oo:Nat} {c:CoreM} (ap:Apart o oo) (k:RCore h p o oo c) (lk:DLk c) (hs1:1≤c.self) (hs2:c.self≤5) (hroom:c.out.reads.length+c.reads.length≤1000000000) :
  ACalls PR 105 #[Ptr p] h (fun v h'=>v = .tuple #[]∧RCore h' p o oo c.confirm∧Keeps [o,oo] h h'):=by
 obtain ⟨x,k⟩:=k
 obtain ⟨m,hm⟩:∃ m:Nat,c.self=m:=⟨c.self.toNat,by omega⟩
 have hrl:x.rd.n=c.reads.length:=by have:=k.rd.sl.len;simpa using this.symm
 by_cases c1:c.state≠2
 ·refine acalls_of mix Tryz.func105 rfl rfl Tryz.ntmps105 Tryz.results105 rfl ?_;conv=>whnf
  refine ALoad.one rfl k.str rfl ?_;conv=>whnf
  refine ACmp.yes (c1) ?_;conv=>whnf
  refine ⟨rfl,?_,Keeps.refl _ _⟩
  unfold CoreM.confirm;rw [if_pos c1];exact ⟨_,k⟩
 refine ACalls.owner ⟨_,Tryz.func105,rfl,rfl⟩ fun o0 ho0 bnd=>?_
 obtain ⟨f,hf⟩:∃ f,f=o0+o+oo+3:=⟨_,rfl⟩
 have bndf:Bound f h:=bnd.le (by omega)
 refine ACalls.turn (R:=fun v h'=>v = .tuple #[]∧(∃ qr lf:SlV,h' p=some (row (o,0) (coreCells c.confirm {x with rd:=lf,ox:={x.ox with qr:=qr}}) 98)∧Own h' (oo,7) 3 qr.a qr.n qr.c 1 (c.confirm.out.reads.map I)∧Own h' (f,4) 3 lf.a lf.n lf.c 1 (c.confirm.reads.map I))∧∀ b (t:Tag) y,t≠(o,0)→t≠(oo,7)→t.1≠f→h b=some (t,y)→h' b=some (t,y)) ?_ ?_
 rotate_left
 ·rintro v h' ⟨rfl,⟨qr,lf,e1,e2,e3⟩,mv⟩
  have hcf:c.confirm={c with reads:=c.reads.filter (fun r => !c.roundOk r),out:={c.out with reads:=c.out.reads++c.reads.filter c.roundOk}}:=by unfold CoreM.confirm;rw [if_neg c1]
  have go:∀ b (t:Tag) y,t.1≠f→h' b=some (t,y)→h'.retag f o b=some (t,y):=fun b t y ht e=>retag_out ht e
  have mv2:∀ b (t:Tag) y,t≠(o,0)→t≠(oo,7)→h b=some (t,y)→h'.retag f o b=some (t,y):=fun b t y t1 t2 e=>by
   have hb:=bndf _ _ _ e
   exact go _ _ _ (by omega) (mv _ _ _ t1 t2 (by omega) e)
  refine ⟨h'.retag f o,retag_turned _ _ _,rfl,⟨_,go _ _ _ (by show o≠f;omega) e1,?_,?_,?_,?_⟩,fun b t y ht e=>?_⟩
  ·rw [hcf];exact k.sd.move fun _ _ e=>mv2 _ _ _ (by simp) (fun c=>ap.a (congrArg Prod.fst c)) e
  ·rw [hcf];exact Moves.move k.log fun _ t _ ht e=>mv2 _ _ _ (fun c=>by rw [c] at ht;simp at ht) (fun c=>by rw [c] at ht;exact ap.b ht.symm) e
  ·exact e3.turn fun _ _ e=>retag_in e
  ·have kx:=k.out
   have g2:∀ r,r≠7→∀ b y,h b=some ((oo,r),y)→h'.retag f o b=some ((oo,r),y):=fun r hr b y e=>mv2 _ _ _ (fun c=>ap.a (congrArg Prod.fst c).symm) (fun c=>hr (congrArg Prod.snd c)) e
   rw [hcf] at e2 ⊢
   exact ⟨kx.od.move fun _ _ e=>g2 6 (by decide) _ _ e,kx.oe.move fun _ _ e=>g2 1 (by decide) _ _ e,fun y hy=>Own.move (kx.ed y hy) fun _ _ e=>g2 2 (by decide) _ _ e,kx.ea,kx.es,kx.op.move fun _ _ e=>g2 3 (by decide) _ _ e,
    fun i y hy=>(kx.ps i y hy).move fun b t z ht hr e=>by
     obtain ⟨t1,t2⟩:=t
     simp only at ht hr;subst ht
     exact g2 t2 (by omega) b z e,kx.pa,e2.move fun _ _ e=>go _ _ _ (by show oo≠f;omega) e⟩
  ·simp only [List.mem_cons,List.not_mem_nil,or_false,not_or] at ht
   exact mv2 _ _ _ (fun c=>ht.1 (by rw [c])) (fun c=>ht.2 (by rw [c])) e
 unfold CoreM.confirm
 rw [if_neg c1]
 simp only []
 let P:=c.roundOk
 let ck:Nat→CoreM:=fun j=>{c with out:={c.out with reads:=c.out.reads++(c.reads.take j).filter P}}
 let lf:Nat→List Int:=fun j=>(c.reads.take j).filter fun r => !P r
 refine acalls_of mix Tryz.func105 rfl rfl Tryz.ntmps105 Tryz.results105 rfl ?_;conv=>whnf
 refine ALoad.one rfl k.str rfl ?_;conv=>whnf
 refine ACmp.no (c1) ?_;conv=>whnf
 refine ACalls.mono (rcrew_any k lk.lk.lo lk.sy) ?_;rintro _ _ ⟨rfl,rfl⟩;conv=>whnf
 refine ALoop.mk (fun e h'=>∃ (e0:Env) (i:Nat) (qr:SlV) (la:Option Addr) (lc:Nat),e=updL 92 e0 [(0,Ptr p),(2,I c.crewNow.1),(4, .slice la (lf i).length lc),(5,I i)]∧i≤c.reads.length ∧
   h' p=some (row (o,0) (coreCells (ck i) {x with ox:={x.ox with qr:=qr}}) 98)∧Own h' (oo,7) 3 qr.a qr.n qr.c 1 ((ck i).out.reads.map I)∧Own h' (f,4) 3 la (lf i).length lc 1 ((lf i).map I) ∧
   ∀ b (t:Tag) y,t≠(o,0)→t≠(oo,7)→t.1≠f→h b=some (t,y)→h' b=some (t,y)) (fun e=>c.reads.length-natOf (e 5))
  ⟨_,0,x.ox.qr,none,0,updL_self ⟨rfl,rfl,rfl,rfl,trivial⟩,by omega,by simpa [ck] using k.str,by simpa [ck] using k.out.qr, .inl ⟨rfl,rfl,rfl⟩,fun _ _ _ _ _ _ e=>e⟩ ?_
 rintro e h2 ⟨e0,i,qr,la,lc,rfl,hi,k2,ow7,owf,mv⟩
 have rd2:Sl h2 (o,4) x.rd.a x.rd.n x.rd.c 1 (c.reads.map I):=k.rd.sl.move fun _ _ e=>mv _ _ _ (by simp) (fun c=>ap.a (congrArg Prod.fst c)) (by show o≠f;omega) e
 conv=>whnf
 refine ALoad.one rfl k2 rfl ?_;conv=>whnf
 by_cases hin:i<c.reads.length
 ·refine ACmp.yes (by show (i:Int)<x.rd.n;omega) ?_;conv=>whnf
  obtain ⟨r,hr⟩:∃ r,c.reads[i]? = some r:=⟨c.reads[i]'hin,by simp⟩
  have hsP:=filter_take_succ (P:=P) hr
  have hsN:=filter_take_succ (P:=fun r => !P r) hr
  obtain ⟨bb,off,L,E,fz,ea,hb1,hc⟩:=rd2.pos (by omega)
  have g1:L[off+i*1]? = some (I r):=by rw [get_of_take hc (by omega),Nat.mul_one];simp [hr]
  have hlr:((ck i).out.reads).length≤1000000000:=by
   show (c.out.reads++(c.reads.take i).filter P).length≤_
   have:=List.length_filter_le P (c.reads.take i)
   rw [List.length_append];simp only [List.length_take] at this;omega
  have hll:(lf i).length≤c.reads.length:=by
   have:=List.length_filter_le (fun r => !P r) (c.reads.take i)
   simp only [List.length_take] at this
   show ((c.reads.take i).filter fun r => !P r).length≤_;omega
  refine ALoop.mk (fun e h'=>h2=h'∧∃ (e0:Env) (j a:Nat),e=updL 92 e0 [(0,Ptr p),(2,I c.crewNow.1),(4, .slice la (lf i).length lc),(5,I i),(6,I a),(7,I ((j:Int)+1))]∧j≤5∧a<64∧a<2^(j+1) ∧
    ∀ q:Nat,q<5→hasB a ((q:Int)+1)=(decide (q<j)&&(decide (q+1=m) || decide (r≤c.heard.get ((q:Int)+1))))) (fun e=>6-natOf (e 7))
   ⟨rfl,_,0,0,updL_self ⟨rfl,rfl,rfl,rfl,rfl,rfl,trivial⟩,by omega,by omega,by omega,fun q hq=>by rw [zero_has q hq];simp⟩ ?_
  rintro e _ ⟨rfl,e1,j,a,rfl,hj,ha,ha2,hab⟩
  conv=>whnf
  by_cases hj5:j<5
  ·refine ACmp.yes (by omega) ?_;conv=>whnf
   refine ADrawn.mk (h2) [] (Sub.refl _) (by decide +kernel) ?_;conv=>whnf
   refine ALoad.one rfl k2 rfl ?_;conv=>whnf
   by_cases c2:(j:Int)+1=c.self
   ·refine ACmp.yes (c2) ?_;conv=>whnf
    have cm:j+1=m:=by omega
    obtain ⟨b1,b2,b3⟩:=add_bits a ha (j+1) (by omega) ha2
    have hsh:=shl_one (j+1) (by omega)
    rw [show (((j+1:Nat)):Int)=(j:Int)+1 by omega] at hsh
    refine ⟨by omega,?_⟩
    refine AArith.as hsh ?_;conv=>whnf
    refine AArith.ok (r':=((a+2^(j+1):Nat):Int)) (by omega) (by omega) (by omega) ?_;conv=>whnf
    refine AArith.ok (by omega) (by omega) ((by omega:(j:Int)+1+1=((j+1:Nat):Int)+1)) ?_;conv=>whnf
    refine ⟨⟨rfl,_,j+1,(a+2^(j+1)),updL_self ⟨rfl,rfl,rfl,rfl,rfl,rfl,trivial⟩,by omega,b1,b2,fun q hq=>?_⟩,?_⟩
    ·rw [b3 q hq,hab q hq]
     by_cases cq:q=j
     ·subst cq;simp [cm] <;> omega
     ·by_cases cq2:q<j
      ·simp [cq2,cq,show q<j+1 by omega]
      ·simp [cq2,cq,show ¬ q<j+1 by omega]
    ·show 6-(((j+1:Nat):Int)+1).toNat<6-((j:Int)+1).toNat
     omega
   ·refine ACmp.no (c2) ?_;conv=>whnf
    have cm:¬ j+1=m:=by omega
    refine AIdxA.nat (n:=6) (z:=1) (j:=j+1) (by omega) (by omega) rfl rfl ?_;conv=>whnf
    refine ALoad.one rfl k2 (by have:=heard_cell (ck i) {x with ox:={x.ox with qr:=qr}} (n:=(j:Int)+1) (by omega) (by omega);rw [show 0+14+13+(j+1)*1=27+((j:Int)+1).toNat by omega];exact this) ?_
    refine ALoad.one rfl k2 rfl ?_;conv=>whnf
    rw [ea]
    refine AIdx.nat (n:=x.rd.n) (z:=1) (j:=i) rfl (by omega) rfl rfl ?_;conv=>whnf
    refine ALoad.one rfl hb1 g1 ?_;conv=>whnf
    by_cases c3:r≤c.heard.get ((j:Int)+1)
    ·refine ACmp.yes (c3) ?_;conv=>whnf
     obtain ⟨b1,b2,b3⟩:=add_bits a ha (j+1) (by omega) ha2
     have hsh:=shl_one (j+1) (by omega)
     rw [show (((j+1:Nat)):Int)=(j:Int)+1 by omega] at hsh
     refine ⟨by omega,?_⟩
     refine AArith.as hsh ?_;conv=>whnf
     refine AArith.ok (r':=((a+2^(j+1):Nat):Int)) (by omega) (by omega) (by omega) ?_;conv=>whnf
     refine AArith.ok (by omega) (by omega) ((by omega:(j:Int)+1+1=((j+1:Nat):Int)+1)) ?_;conv=>whnf
     refine ⟨⟨rfl,_,j+1,(a+2^(j+1)),updL_self ⟨rfl,rfl,rfl,rfl,rfl,rfl,trivial⟩,by omega,b1,b2,fun q hq=>?_⟩,?_⟩
     ·rw [b3 q hq,hab q hq]
      by_cases cq:q=j
      ·subst cq;simp [c3] <;> omega
      ·by_cases cq2:q<j
       ·simp [cq2,cq,show q<j+1 by omega]
       ·simp [cq2,cq,show ¬ q<j+1 by omega]
     ·show 6-(((j+1:Nat):Int)+1).toNat<6-((j:Int)+1).toNat
      omega
    ·refine ACmp.no (c3) ?_;conv=>whnf
     have ha3:a<2^(j+1+1):=Nat.lt_of_lt_of_le ha2 (Nat.pow_le_pow_right (by omega) (by omega))
     refine AArith.ok (by omega) (by omega) ((by omega:(j:Int)+1+1=((j+1:Nat):Int)+1)) ?_;conv=>whnf
     refine ⟨⟨rfl,_,j+1,a,updL_self ⟨rfl,rfl,rfl,rfl,rfl,rfl,trivial⟩,by omega,ha,ha3,fun q hq=>?_⟩,?_⟩
     ·rw [hab q hq]
      by_cases cq:q=j
      ·subst cq;simp [cm,c3] <;> omega
      ·by_cases cq2:q<j
       ·simp [cq2,cq,show q<j+1 by omega]
       ·simp [cq2,cq,show ¬ q<j+1 by omega]
     ·show 6-(((j+1:Nat):Int)+1).toNat<6-((j:Int)+1).toNat
      omega
  ·refine ACmp.no (by omega) ?_;conv=>whnf
   obtain rfl:j=5:=by omega
   have now:=lk.now
   refine ACalls.mono (refMost_any h2 c.crewNow.1 a (by omega) (by omega) (by omega) (by omega)) ?_
   have hP:mostOf c.crewNow.1 (hasB a)=P r:=by
    show mostOf _ _=mostOf _ _
    unfold mostOf
    have:(ls (m5 c.crewNow.1)).filter (hasB a)=(ls (m5 c.crewNow.1)).filter fun n=>decide (n=c.self) || decide (r≤c.heard.get n):=by
     refine List.filter_congr fun n hn=>?_
     have:=List.all_eq_true.1 (ls_ok (m5 c.crewNow.1) (m5_lt _)) n hn
     simp [ok1] at this
     obtain ⟨q,rfl⟩:∃ q:Nat,n=(q:Int)+1:=⟨(n-1).toNat,by omega⟩
     rw [hab q (by omega),decide_eq_true (show q<5 by omega),Bool.true_and]
     congr 1
     exact decide_eq_decide.2 ⟨fun c=>by omega,fun c=>by omega⟩
    rw [this]
   rw [hP]
   cases hp:P r with
   | true =>
    rintro _ _ ⟨rfl,rfl⟩
    conv=>whnf
    rw [hp] at hsP hsN
    simp only [if_true] at hsP
    simp only [Bool.not_true,Bool.false_eq_true,if_false,List.append_nil] at hsN
    have hlf:lf (i+1)=lf i:=hsN
    have hqn:qr.n=((ck i).out.reads).length:=by have:=ow7.sl.len;simpa using this.symm
    refine ADrawn.mk ((few h2 [p,bb])) [18] (few_sub _ _) (by decide +kernel) ?_;conv=>whnf
    refine ALoad.one rfl ((few_at (by simp)).trans k2) rfl ?_
    refine ALoad.one rfl ((few_at (by simp)).trans k2) rfl ?_;conv=>whnf
    rw [ea]
    refine AIdx.nat (n:=x.rd.n) (z:=1) (j:=i) rfl (by omega) rfl rfl ?_;conv=>whnf
    refine ALoad.one rfl ((few_at (by simp)).trans hb1) g1 ?_;conv=>whnf
    refine ABuildSl.mkN (0,1) [I r] rfl rfl rfl rfl rfl rfl rfl fun b8 h8 n8 s8 k8=>?_;conv=>whnf
    refine ⟨(few_sub _ _).trans s8,?_⟩;conv=>whnf
    refine AAppend.own (n:=qr.n) (t:=(oo,7)) (E:=3) (z:=1) (by_:=8) (zero:=[I 0]) (tx:=(0,1)) (xs:=[I r]) rfl ⟨_,rfl⟩ rfl rfl rfl rfl (by omega) (ow7.move fun _ _ z=>s8 _ _ z)
     ⟨rfl,Nat.le_refl _, .inr ⟨b8,0,_,_,_,rfl,k8,rfl⟩⟩ rfl (by omega) (by omega) fun a9 c9 h9 ow9 t9 _=>?_
    conv=>whnf
    have p9:=t9.get (u:=(o,0)) (fun c=>ap.a (congrArg Prod.fst c)) (s8 _ _ k2)
    have hbt:=bb
    refine ⟨few_get fun z hz w hw=>?_,?_⟩
    ·simp only [List.mem_cons,List.not_mem_nil,or_false] at hz
     rcases hz with rfl | rfl
     ·rw [k2] at hw;cases hw;exact p9
     ·rw [hb1] at hw;cases hw;exact t9.get (fun c=>ap.a (congrArg Prod.fst c)) (s8 _ _ hb1)
    conv=>whnf
    refine AStore.oneN rfl rfl rfl (p9) rfl (coreCells (ck (i+1)) {x with ox:={x.ox with qr:=⟨a9,qr.n+1,c9⟩}}) rfl fun h10 t10 k10 a10 e10=>?_;conv=>whnf
    have hck:(ck (i+1)).out.reads=(ck i).out.reads++[r]:=by show c.out.reads++(c.reads.take (i+1)).filter P=(c.out.reads++(c.reads.take i).filter P)++[r];rw [hsP,List.append_assoc]
    refine AArith.ok (by omega) (by omega) ((by omega:(i:Int)+1=((i+1:Nat):Int))) ?_;conv=>whnf
    have mv10:∀ b (t:Tag) y,t≠(o,0)→t≠(oo,7)→h2 b=some (t,y)→h10 b=some (t,y):=fun b t y t1 t2 e=>t10 _ _ _ t1 (t9 _ _ _ t2 (s8 _ _ e))
    have ow10:=ow9.keepT t10 (fun c=>ap.a (congrArg Prod.fst c).symm)
    refine ⟨⟨_,i+1,⟨a9,qr.n+1,c9⟩,la,lc,updL_self ⟨rfl,rfl,by rw [hlf];rfl,rfl,trivial⟩,by omega,k10,by rw [hck,List.map_append];exact ow10,by rw [hlf];exact owf.move fun _ _ e=>mv10 _ _ _ (fun c=>by have:=congrArg Prod.fst c;simp only at this;omega) (fun c=>by have:=congrArg Prod.fst c;simp only at this;omega) e,fun b t y t1 t2 t3 e=>mv10 _ _ _ t1 t2 (mv _ _ _ t1 t2 t3 e)⟩,?_⟩
    show c.reads.length-(i+1)<c.reads.length-i
    omega
   | false =>
    rintro _ _ ⟨rfl,rfl⟩
    conv=>whnf
    rw [hp] at hsP hsN
    simp only [Bool.false_eq_true,if_false,List.append_nil] at hsP
    simp only [Bool.not_false,if_true] at hsN
    have hck:ck (i+1)=ck i:=by show ({c with out:={c.out with reads:=c.out.reads++(c.reads.take (i+1)).filter P}}:CoreM)=_;rw [hsP]
    have hlf:lf (i+1)=lf i++[r]:=hsN
    have hlf2:(lf (i+1)).length=(lf i).length+1:=by rw [hlf,List.length_append];rfl
    refine ALoad.one rfl k2 rfl ?_;conv=>whnf
    rw [ea]
    refine AIdx.nat (n:=x.rd.n) (z:=1) (j:=i) rfl (by omega) rfl rfl ?_;conv=>whnf
    refine ALoad.one rfl hb1 g1 ?_;conv=>whnf
    refine ABuildSl.mkN (0,1) [I r] rfl rfl rfl rfl rfl rfl rfl fun b8 h8 n8 s8 k8=>?_;conv=>whnf
    refine AAppend.own (t:=(f,4)) (E:=3) (z:=1) (by_:=8) (zero:=[I 0]) (tx:=(0,1)) (xs:=[I r]) rfl ⟨_,rfl⟩ rfl rfl rfl rfl (by omega) (owf.move fun _ _ z=>s8 _ _ z)
     ⟨rfl,Nat.le_refl _, .inr ⟨b8,0,_,_,_,rfl,k8,rfl⟩⟩ rfl (by omega) (by omega) fun a9 c9 h9 ow9 t9 _=>?_
    conv=>whnf
    refine AArith.ok (by omega) (by omega) ((by omega:(i:Int)+1=((i+1:Nat):Int))) ?_;conv=>whnf
    have mv9:∀ b (t:Tag) y,t.1≠f→h2 b=some (t,y)→h9 b=some (t,y):=fun b t y ht e=>t9.get (fun c=>ht (by rw [c])) (s8 _ _ e)
    refine ⟨⟨_,i+1,qr,a9,c9,updL_self ⟨rfl,rfl,by rw [hlf2];rfl,rfl,trivial⟩,by omega,by rw [hck];exact mv9 _ _ _ (by show o≠f;omega) k2,by rw [hck];exact ow7.move fun _ _ e=>mv9 _ _ _ (by show oo≠f;omega) e,by rw [hlf2,hlf,List.map_append];exact ow9,fun b t y t1 t2 t3 e=>mv9 _ _ _ t3 (mv _ _ _ t1 t2 t3 e)⟩,?_⟩
    show c.reads.length-(i+1)<c.reads.length-i
    omega
 ·refine ACmp.no (by show ¬ (i:Int)<x.rd.n;omega) ?_;conv=>whnf
  obtain rfl:i=c.reads.length:=by omega
  refine AStore.oneN rfl rfl rfl (k2) rfl (coreCells {ck c.reads.length with reads:=lf c.reads.length} {x with rd:=⟨la,(lf c.reads.length).length,lc⟩,ox:={x.ox with qr:=qr}}) rfl fun h3 t3 k3 a3 e3=>?_;conv=>whnf
  have ef:∀ Q:Int→Bool,(c.reads.take c.reads.length).filter Q=c.reads.filter Q:=fun Q=>by rw [List.take_length]
  have e1:lf c.reads.length=c.reads.filter fun r => !P r:=ef _
  have e2:ck c.reads.length={c with out:={c.out with reads:=c.out.reads++c.reads.filter P}}:=by show ({c with out:={c.out with reads:=c.out.reads++(c.reads.take c.reads.length).filter P}}:CoreM)=_;rw [ef]
  have ow7':=ow7.keepT t3 (fun c=>ap.a (congrArg Prod.fst c).symm)
  have owf':=owf.keepT t3 (fun c=>by have:=congrArg Prod.fst c;simp only at this;omega)
  rw [e1] at k3 owf'
  rw [e2] at k3 ow7'
  exact ⟨rfl,⟨qr,_,k3,ow7',owf'⟩,fun b t y t1 t2 t3' e=>t3 _ _ _ t1 (mv _ _ _ t1 t2 t3' e)⟩
set_option maxHeartbeats 1000000 in
theorem rstand_any {h:Heap} {p o oo:Nat} {c:CoreM} (ap:Apart o oo) (k:RCore h p o oo c) (lk:DLk c) (hs1:1≤c.self) (hs2:c.self≤5) (ht1:0≤c.term) (ht2:c.term<9007199254740991) (hb:hasB c.crewNow.1 c.self=true)
  (hv:0≤c.votes∧c.votes<64) (hroom:(c.log.es.length+1)*48≤140737488355328) (he:c.out.entries.length≤1000000000) (hp:c.out.posts.length≤999999980) :
  ACalls PR 90 #[Ptr p,I c.crewNow.1] h (fun v h'=>v = .tuple #[]∧RCore h' p o oo c.stand∧Keeps [o,o+1,oo] h h'):=by
 obtain ⟨x0,k0⟩:=k
 obtain ⟨m,hm⟩:∃ m:Nat,c.self=m:=⟨c.self.toNat,by omega⟩
 rw [CoreM.stand_eq,if_neg (by rw [hb];simp;omega)]
 refine acalls_of mix Tryz.func90 rfl rfl Tryz.ntmps90 Tryz.results90 rfl ?_;conv=>whnf
 refine ALoad.one rfl k0.str rfl ?_;conv=>whnf
 refine AArith.ok (by omega) (by omega) (rfl) ?_;conv=>whnf
 refine ACalls.mono (rgreater_any ap.a ⟨_,k0⟩ (c.term+1)) ?_;rintro _ h1 ⟨rfl,⟨x,k⟩,kk1⟩;conv=>whnf
 refine ALoad.one rfl k.str rfl ?_;conv=>whnf
 rw [show (c.learn (c.term+1)).self=(m:Int) from hm]
 refine AStore.oneN rfl rfl rfl (k.str) rfl (coreCells {c.learn (c.term+1) with vote:=(m:Int)} x) rfl fun h2 t2 k2 a2 e2=>?_;conv=>whnf
 refine AStore.oneN rfl rfl rfl (k2) rfl (coreCells {c.learn (c.term+1) with vote:=(m:Int),state:=1} x) rfl fun h3 t3 k3 a3 e3=>?_;conv=>whnf
 refine ALoad.one rfl k3 rfl ?_;conv=>whnf
 rw [show ({c.learn (c.term+1) with vote:=(m:Int),state:=1}:CoreM).self=(m:Int) from hm]
 refine ⟨by omega,?_⟩
 refine AArith.as (shl_one m (by omega)) ?_;conv=>whnf
 refine AStore.oneN rfl rfl rfl (k3) rfl (coreCells {c.learn (c.term+1) with vote:=(m:Int),state:=1,votes:=((2^m:Nat):Int)} x) rfl fun h4 t4 k4 a4 e4=>?_;conv=>whnf
 have es:({c.learn (c.term+1) with vote:=(m:Int),state:=1,votes:=((2^m:Nat):Int)}:CoreM)=c.stood:=by
  unfold CoreM.stood;rw [hm];simp
 rw [es] at k4
 clear es
 have tt:=t2.trans (t3.trans t4)
 have q4:RX h4 p o oo c.stood x:=⟨k4,k.sd.keepT tt (by simp),KeepT.log k.log tt,k.rd.keepT tt (by simp),by
  have:=k.out.keepT ap.a tt
  exact this⟩
 have kk4:Keeps [o,o+1,oo] h h4:=(kk1.trans tt.keep).keeps (by simp)
 have lk4:DLk c.stood:=lk.same rfl rfl rfl
 obtain ⟨d,hd⟩:∃ d,d=c.stood:=⟨_,rfl⟩
 have f1:d.log=c.log:=by rw [hd];rfl
 have f2:d.self=c.self:=by rw [hd];rfl
 have f3:d.crewNow=c.crewNow:=by rw [hd];rfl
 have f4:d.out.posts=c.out.posts:=by rw [hd];rfl
 have f5:d.out.entries=c.out.entries:=by rw [hd];rfl
 have f6:d.log.last=c.log.last:=by rw [f1]
 have f7:d.votes=((2^m:Nat):Int):=by rw [hd];unfold CoreM.stood;rw [hm];simp
 rw [← hd] at q4 lk4 ⊢
 clear k4 k3 k2
 refine ACalls.mono (rlast_any q4 lk4.lk.lo) ?_;rintro _ _ ⟨rfl,rfl⟩;conv=>whnf
 rw [f6]
 refine ACalls.mono (rothers_any q4 lk4.lk.lo lk4.sy lk4.nowOk) ?_;rintro _ h5 ⟨al,cp,f,rfl,sl,hf1,hf2,s5⟩;conv=>whnf
 have hl5:=others_len d
 refine ALoop.mk (fun e h'=>∃ e0,∃ j:Nat,e=updL 63 e0 [(0,Ptr p),(1,I c.crewNow.1),(4,I c.log.last.1),(5,I c.log.last.2),(6, .slice al d.others.length cp),(7,I j)]∧j≤d.others.length∧RCore h' p o oo ((d.others.take j).foldl (fun x n=>x.say n (standP c)) d)∧Keeps [o,o+1,oo] h h'∧Sl h' (f,0) al d.others.length cp 1 (d.others.map I)) (fun e=>d.others.length-natOf (e 7))
  ⟨_,0,updL_self ⟨rfl,rfl,rfl,rfl,rfl,rfl,trivial⟩,by omega,⟨x,q4.sub s5⟩,kk4.trans (s5.keeps _),sl⟩ ?_
 rintro e h6 ⟨e0,j,rfl,hj,k6,kk6,s6⟩
 conv=>whnf
 by_cases hjn:j<d.others.length
 ·refine ACmp.yes (by omega) ?_;conv=>whnf
  obtain ⟨n,hn⟩:∃ n,d.others[j]? = some n:=⟨d.others[j]'hjn,by simp⟩
  obtain ⟨b,off,l,E,fz,rfl,hb6,hc⟩:=s6.pos (by omega)
  have g0:l[off+j*1]? = some (I n):=by rw [get_of_take hc (by omega),Nat.mul_one];simp [hn]
  refine AIdx.nat (z:=1) (j:=j) rfl hjn rfl rfl ?_;conv=>whnf
  refine ALoad.one rfl hb6 g0 ?_;conv=>whnf
  obtain ⟨q,eq,hq⟩:=says_same (standP c) (d.others.take j) d
  have htl:(d.others.take j).length≤5:=by simp;omega
  have ph:PH.Made h6 oo (10+((d.others.take j).foldl (fun x n=>x.say n (standP c)) d).out.posts.length) ⟨1,0,n,0,c.log.last.1,c.log.last.2,0,false,0,slv0,[],0,0,0,slv0,[]⟩:=⟨.inl ⟨rfl,rfl,rfl⟩,by simp,by simp, .inl ⟨rfl,rfl,rfl⟩⟩
  refine ACalls.mono (rsay_any ap.a ap.b ap.c ap.d k6 n _ rfl ph (by rw [eq];simp only [List.length_append];rw [f4];omega)) ?_;rintro _ h7 ⟨rfl,k7,kk7⟩;conv=>whnf
  refine AArith.ok (by omega) (by omega) ((by omega:(j:Int)+1=((j+1:Nat):Int))) ?_;conv=>whnf
  refine ⟨⟨_,j+1,updL_self ⟨rfl,rfl,rfl,rfl,rfl,rfl,trivial⟩,by omega,?_,kk6.trans (kk7.mono (by simp)),s6.keeps kk7 (by simp;omega)⟩,?_⟩
  ·rw [List.take_succ_eq_append_getElem hjn,(List.getElem?_eq_some_iff.1 hn).2,List.foldl_append]
   exact k7
  ·show d.others.length-(j+1)<d.others.length-j
   omega
 ·refine ACmp.no (by omega) ?_;conv=>whnf
  rw [List.take_of_length_le (by omega)] at k6
  obtain ⟨q,eq,hq⟩:=says_same (standP c) d.others d
  obtain ⟨g,hg⟩:∃ g,g=d.others.foldl (fun x n=>x.say n (standP c)) d:=⟨_,rfl⟩
  have g1:g.log=c.log:=by rw [hg,eq];exact f1
  have g2:g.self=c.self:=by rw [hg,eq];exact f2
  have g3:g.crewNow=c.crewNow:=by rw [hg,eq];exact f3
  have g4:g.out.posts.length≤999999990:=by rw [hg,eq];simp only [List.length_append];rw [f4];omega
  have g5:g.out.entries=c.out.entries:=by rw [hg,eq];exact f5
  have g6:DLk g:=by rw [hg,eq];exact lk4.same rfl rfl rfl
  have g7:g.votes=((2^m:Nat):Int):=by rw [hg,eq];exact f7
  obtain ⟨w2,hw2,h2m⟩:∃ w2:Nat,2^m=w2∧w2≤2^5:=⟨_,rfl,Nat.pow_le_pow_right (by omega) (by omega)⟩
  rw [hw2] at g7
  rw [← hg] at k6 ⊢
  obtain ⟨x6,k6⟩:=k6
  have hnow:=g6.nowOk
  rw [← g3]
  unfold NowOk at hnow
  refine ALoad.one rfl k6.str rfl ?_;conv=>whnf
  refine ACalls.mono (refMost_any h6 g.crewNow.1 g.votes hnow.1 hnow.2 (by rw [g7];omega) (by rw [g7];omega)) ?_
  rw [show mostOf g.crewNow.1 (hasB g.votes)=g.elected from rfl]
  cases hel:g.elected with
  | false =>
   rintro _ _ ⟨rfl,rfl⟩
   conv=>whnf
   rw [if_neg (by simp)]
   exact ⟨rfl,⟨_,k6⟩,kk6⟩
  | true =>
   rintro _ _ ⟨rfl,rfl⟩
   conv=>whnf
   rw [if_pos rfl]
   refine ACalls.mono (rlead_any ap ⟨_,k6⟩ g6 (by rw [g2];exact hs1) (by rw [g2];exact hs2) (by rw [g1];exact hroom) (by rw [g5];exact he) g4) ?_;rintro _ h7 ⟨rfl,k7,kk7⟩;conv=>whnf
   exact ⟨rfl,k7,kk6.trans kk7⟩
structure DOk (c:CoreM):Prop where
  ok:COk c
  sy:SaysOk c.log.es
  bc:c.log.bi≤c.commit
theorem DOk.lk {c:CoreM} (k:DOk c):DLk c:=⟨k.ok.lk,k.sy,k.ok.fc,k.ok.sc⟩
def RTold (p o oo:Nat) (d:CoreM) (h:Heap) (v:Value) (h':Heap):Prop :=
  ∃ ox,v = .agg (outCells d.done.2 ox).toArray∧OutOk h' oo d.done.2 ox∧(∀ oo2,oo2≠0→RCore h' p o oo2 d.done.1)∧Keeps [o,o+1,oo] h h'
theorem CoreAt.keeps2 {h h':Heap} {p o oo:Nat} {c:CoreM} {f r:Nat} (k:RCore h p o oo c) (kt:KeepT (f,r) h h') (h1:o≠f) (h2:o+1≠f) (h3:oo≠f):RCore h' p o oo c :=
 k.keeps (os:=[f]) (kt.keep.keeps (by simp)) (by simpa using h1) (by simpa using h2) (by simpa using h3)
theorem rtold_end {h h1 h3 h4:Heap} {p o oo b:Nat} {d:CoreM} {ox:OX} (ap:Apart o oo) (n:h b=none) (k1:Keeps [o,o+1,oo] h h1) (k3:Keep o h1 h3)
  (ok:OutOk h3 oo d.done.2 ox) (q:∀ oo2,RCore h3 p o oo2 d.done.1) (t4:KeepT (0,1) h3 h4) (e4:∀ c y,c≠b→h3 c=some y→h4 c=some y) :
  RTold p o oo d h (.agg (outCells d.done.2 ox).toArray) h4 :=
 ⟨ox,rfl,ok.keepT (Ne.symm ap.d) t4,fun oo2 h2=>(q oo2).keeps2 t4 ap.c (by omega) h2,fun c t y ht e=>e4 _ _ (fun hc=>by rw [hc,n] at e;cases e) (k3 _ _ _ (fun hc=>ht (by simp [hc])) (k1 _ _ _ ht e))⟩
set_option maxHeartbeats 1000000 in
theorem rTick_any {h:Heap} {p o oo:Nat} {c:CoreM} (ap:Apart o oo) (k:RCore h p o oo c) (dk:DOk c) (draw:Int) :
  ACalls PR 39 #[Ptr p,I draw] h (fun v h'=>(draw<0∧v = .tuple #[.agg (outCells out0 ox0).toArray,I 2]∧Sub h h')∨(0≤draw∧∃ u,v = .tuple #[u,I 0]∧RTold p o oo (c.tick draw) h u h')):=by
 have ok:=dk.ok
 have hout:=ok.out
 have hes:=ok.es
 have hb1:=ok.b1
 have hb2:=ok.b2
 refine acalls_ofj mix Tryz.func39 rfl rfl Tryz.ntmps39 Tryz.results39 rfl ?_;conv=>whnf
 refine AAlloc.mkN (0,1) (outCells out0 ox0) rfl fun b4 h1 n1 s1 k1=>?_;conv=>whnf
 have k:=k.sub s1
 refine AIf.go ?_;conv=>whnf
 by_cases c0:draw<0
 ·refine ACmp.yes (c0) ?_;conv=>whnf
  refine AStore.aggN rfl rfl rfl (k1) rfl (outCells out0 ox0) rfl fun h2 t2 k2 a2 e2=>?_;conv=>whnf
  refine ALoad.agg rfl k2 rfl rfl ?_;conv=>whnf
  exact .inl ⟨c0,rfl,a2 h s1 n1⟩
 refine ACmp.no (c0) ?_;conv=>whnf
 refine ACalls.mono (rbegin_any ap.a hout k) ?_;rintro _ h2 ⟨rfl,k2,kk2⟩;conv=>whnf
 obtain ⟨x,k2⟩:=k2
 have kb:∀ {h':Heap},Keeps [o,o+1,oo] h1 h'→h' b4=some (row (0,1) (outCells out0 ox0) 96):=fun kk=>kk _ _ _ (by have:=ap.c;have:=ap.d;simp;omega) k1
 unfold CoreM.tick
 refine AIf.go ?_;conv=>whnf
 refine ALoad.one rfl k2.str rfl ?_;conv=>whnf
 by_cases c1:c.state=2
 ·refine ACmp.yes (c1) ?_;conv=>whnf
  rw [if_pos c1]
  refine ALoad.one rfl k2.str rfl ?_;conv=>whnf
  refine AArith.ok (by omega) (by omega) (rfl) ?_;conv=>whnf
  refine AStore.oneN rfl rfl rfl (k2.str) rfl (coreCells {c with beat:=c.beat-1} x) rfl fun h3 t3 k3' a3 e3=>?_;conv=>whnf
  have k3:RX h3 p o oo {c with beat:=c.beat-1} x:=k2.set' ap.a t3 k3'
  refine AIf.cut (fun e h'=>∃ e0,e=updL 89 e0 [(0,Ptr p),(4,Ptr b4)]∧RCore h' p o oo (if c.beat-1=0 then ({c with beat:=2}:CoreM).sendAll else {c with beat:=c.beat-1})∧Keeps [o,o+1,oo] h1 h') ?_ ?_
  ·conv=>whnf
   refine ALoad.one rfl k3.str rfl ?_;conv=>whnf
   by_cases c2:c.beat-1=0
   ·refine ACmp.yes (c2) ?_;conv=>whnf
    rw [if_pos c2]
    refine AStore.oneN rfl rfl rfl (k3.str) rfl (coreCells {c with beat:=2} x) rfl fun h4 t4 k4' a4 e4=>?_;conv=>whnf
    have k4:RX h4 p o oo {c with beat:=2} x:=k3.set' ap.a t4 k4'
    refine ACalls.mono (rsendAll_any ap ⟨_,k4⟩ (dk.lk.same rfl rfl rfl) ok.nk (by rw [show ({c with beat:=2}:CoreM).out=c.out from rfl,hout];simp [out0])) ?_;rintro _ h5 ⟨rfl,k5,kk5⟩;conv=>whnf
    exact ⟨_,updL_self ⟨rfl,rfl,trivial⟩,k5,((kk2.trans (t3.keep.trans t4.keep)).keeps (by simp)).trans (kk5.mono (by simp))⟩
   ·refine ACmp.no (c2) ?_;conv=>whnf
    rw [if_neg c2]
    exact ⟨_,updL_self ⟨rfl,rfl,trivial⟩,⟨_,k3⟩,(kk2.trans t3.keep).keeps (by simp)⟩
  ·rintro e h7 ⟨e0,rfl,KC,KK⟩
   conv=>whnf
   refine ACalls.mono (rend_any ap.a ap.c ap.d KC) ?_;rintro _ h8 ⟨ox,rfl,o8,q8,kk8⟩;conv=>whnf
   refine AStore.aggN rfl rfl rfl ((kk8.get (Ne.symm ap.c) (kb KK))) rfl (outCells _ ox) rfl fun h9 t9 k9 a9 e9=>?_;conv=>whnf
   refine ALoad.agg rfl k9 rfl rfl ?_;conv=>whnf
   exact .inr ⟨by omega,_,rfl,rtold_end ap n1 ((s1.keeps _).trans KK) kk8 o8 q8 t9 e9⟩
 ·refine ACmp.no (c1) ?_;conv=>whnf
  rw [if_neg c1]
  have hq1:=ok.q1
  have hq2:=ok.q2
  have hw1:=ok.w1
  have hw2:=ok.w2
  have hv1:=ok.v1
  have hv2:=ok.v2
  refine ALoad.one rfl k2.str rfl ?_;conv=>whnf
  refine AArith.ok (by omega) (by omega) (rfl) ?_;conv=>whnf
  refine AInt.as (rfl) ?_;conv=>whnf
  obtain ⟨q,hq⟩:∃ q,q=if 10<c.quiet+1 then 10 else c.quiet+1:=⟨_,rfl⟩
  rw [← hq]
  simp only []
  refine AStore.oneN rfl rfl rfl (k2.str) rfl (coreCells {c with quiet:=q} x) rfl fun h3 t3 k3 a3 e3=>?_;conv=>whnf
  refine ALoad.one rfl k3 rfl ?_;conv=>whnf
  refine AArith.ok (r':=c.wait-1) (by simp only [];omega) (by simp only [];omega) rfl ?_;conv=>whnf
  refine AStore.oneN rfl rfl rfl (k3) rfl (coreCells {c with quiet:=q,wait:=c.wait-1} x) rfl fun h4 t4 k4' a4 e4=>?_;conv=>whnf
  have k4:RX h4 p o oo {c with quiet:=q,wait:=c.wait-1} x:=k2.set' ap.a (t3.trans t4) k4'
  have kk4:Keeps [o,o+1,oo] h1 h4:=(kk2.trans (t3.keep.trans t4.keep)).keeps (by simp)
  refine AIf.cut (fun e h'=>∃ e0,e=updL 89 e0 [(0,Ptr p),(4,Ptr b4)]∧RCore h' p o oo (if c.wait-1=0 then ({c with quiet:=q,wait:=waits draw}:CoreM).stand else {c with quiet:=q,wait:=c.wait-1})∧Keeps [o,o+1,oo] h1 h') ?_ ?_
  ·conv=>whnf
   refine ALoad.one rfl k4.str rfl ?_;conv=>whnf
   by_cases c2:c.wait-1=0
   ·refine ACmp.yes (c2) ?_;conv=>whnf
    rw [if_pos c2]
    refine ⟨by omega,?_⟩
    refine AInt.as (rfl) ?_;conv=>whnf
    have h1:0≤draw.tmod 10:=Int.tmod_nonneg _ (by omega)
    have h2:draw.tmod 10<10:=Int.tmod_lt_of_pos _ (by omega)
    refine AArith.ok (by omega) (by omega) (rfl) ?_;conv=>whnf
    refine AStore.oneN rfl rfl rfl (k4.str) rfl (coreCells {c with quiet:=q,wait:=waits draw} x) rfl fun h5 t5 k5' a5 e5=>?_;conv=>whnf
    have k5:RX h5 p o oo {c with quiet:=q,wait:=waits draw} x:=k4.set' ap.a t5 k5'
    have kk5:=kk4.trans (t5.keep.keeps (os:=[o,o+1,oo]) (by simp))
    have lk5:DLk {c with quiet:=q,wait:=waits draw}:=dk.lk.same rfl rfl rfl
    refine ACalls.mono (rcrew_any k5 lk5.lk.lo lk5.sy) ?_;rintro _ _ ⟨rfl,rfl⟩;conv=>whnf
    refine AIf.go ?_;conv=>whnf
    refine ALoad.one rfl k5.str rfl ?_;conv=>whnf
    have hnow:=lk5.nowOk
    unfold NowOk at hnow
    refine ACalls.mono (refHas_any h5 _ c.self hnow.1 hnow.2) ?_
    cases hb:hasB ({c with quiet:=q,wait:=waits draw}:CoreM).crewNow.1 c.self with
    | false =>
     rintro _ _ ⟨rfl,rfl⟩
     conv=>whnf
     rw [CoreM.stand_eq,if_pos (.inl hb)]
     exact ⟨_,updL_self ⟨rfl,rfl,trivial⟩,⟨_,k5⟩,kk5⟩
    | true =>
     rintro _ _ ⟨rfl,rfl⟩
     conv=>whnf
     refine ALoad.one rfl k5.str rfl ?_;conv=>whnf
     have ht2:=ok.t2
     by_cases c3:c.term<9007199254740991
     ·refine ACmp.yes (c3) ?_;conv=>whnf
      refine ACalls.mono (rstand_any ap ⟨_,k5⟩ lk5 ok.s1 ok.s2 ok.t1 c3 hb ⟨hv1,hv2⟩ (by simp only [];omega) (by simp only [];rw [hout];simp [out0]) (by simp only [];rw [hout];simp [out0])) ?_;rintro _ h6 ⟨rfl,k6,kk6⟩;conv=>whnf
      exact ⟨_,updL_self ⟨rfl,rfl,trivial⟩,k6,kk5.trans kk6⟩
     ·refine ACmp.no (c3) ?_;conv=>whnf
      rw [CoreM.stand_eq,if_pos (.inr (by show c.term=_;omega))]
      exact ⟨_,updL_self ⟨rfl,rfl,trivial⟩,⟨_,k5⟩,kk5⟩
   ·refine ACmp.no (c2) ?_;conv=>whnf
    rw [if_neg c2]
    exact ⟨_,updL_self ⟨rfl,rfl,trivial⟩,⟨_,k4⟩,kk4⟩
  ·rintro e h7 ⟨e0,rfl,KC,KK⟩
   conv=>whnf
   refine ACalls.mono (rend_any ap.a ap.c ap.d KC) ?_;rintro _ h8 ⟨ox,rfl,o8,q8,kk8⟩;conv=>whnf
   refine AStore.aggN rfl rfl rfl ((kk8.get (Ne.symm ap.c) (kb KK))) rfl (outCells _ ox) rfl fun h9 t9 k9 a9 e9=>?_;conv=>whnf
   refine ALoad.agg rfl k9 rfl rfl ?_;conv=>whnf
   exact .inr ⟨by omega,_,rfl,rtold_end ap n1 ((s1.keeps _).trans KK) kk8 o8 q8 t9 e9⟩
theorem vput_add:∀ a:Nat,a<64→∀ n:Nat,n<6→1≤n→hasB (a:Int) (n:Int)=false→(vput (a:Int) (n:Int)=((a+2^n:Nat):Int)∧a+2^n<128):=by decide +kernel
theorem vput_has {a n:Int} (h:hasB a n=true):vput a n=a:=if_pos h
theorem vput_lt:∀ a:Nat,a<64→∀ n:Nat,n<6→1≤n→0≤vput (a:Int) (n:Int)∧vput (a:Int) (n:Int)<64:=by decide +kernel
set_option maxHeartbeats 2000000 in
theorem rvoted_any {h:Heap} {p o oo:Nat} {c:CoreM} (ap:Apart o oo) (k:RCore h p o oo c) (lk:DLk c) (hs1:1≤c.self) (hs2:c.self≤5) (hv1:0≤c.votes) (hv2:c.votes<64) (x:PH) (hx1:1≤x.src) (hx2:x.src≤5)
  (hroom:(c.log.es.length+1)*48≤140737488355328) (he:c.out.entries.length≤1000000000) (hp:c.out.posts.length≤999999990) :
  ACalls PR 95 #[Ptr p, .agg x.cells.toArray] h (fun v h'=>v = .tuple #[]∧RCore h' p o oo (c.voted x.abs)∧Keeps [o,o+1,oo] h h'):=by
 obtain ⟨cx,k⟩:=k
 obtain ⟨a,ha⟩:∃ a:Nat,c.votes=a:=⟨c.votes.toNat,by omega⟩
 obtain ⟨n,hn⟩:∃ n:Nat,x.src=n:=⟨x.src.toNat,by omega⟩
 refine acalls_ofj mix Tryz.func95 rfl rfl Tryz.ntmps95 Tryz.results95 rfl ?_;conv=>whnf
 refine ABox.mkN (0,1) (x.cells) rfl fun b1 h1 n1 s1 k1=>?_;conv=>whnf
 have q:=k.sub s1
 refine AIf.go ?_;conv=>whnf
 refine AIf.go ?_;conv=>whnf
 refine ALoad.one rfl q.str rfl ?_;conv=>whnf
 by_cases c1:c.state≠1
 ·refine ACmp.yes (c1) ?_;conv=>whnf
  rw [CoreM.voted_no (.inl c1)]
  exact ⟨rfl,⟨_,q⟩,s1.keeps _⟩
 refine ACmp.no (c1) ?_;conv=>whnf
 refine ALoad.one rfl k1 rfl ?_;conv=>whnf
 cases c2:x.ok with
 | false =>
  conv=>whnf
  rw [CoreM.voted_no (.inr c2)]
  exact ⟨rfl,⟨_,q⟩,s1.keeps _⟩
 | true =>
 conv=>whnf
 rw [CoreM.voted_yes (by show ¬(c.state≠1∨x.ok=false);rw [c2];simpa using c1)]
 obtain ⟨g,hg⟩:∃ g:CoreM,g={c with votes:=vput c.votes x.src}:=⟨_,rfl⟩
 rw [show ({c with votes:=vput c.votes x.abs.src}:CoreM)=g from hg.symm]
 refine AIf.cut (fun e h'=>∃ e0,e=updL 48 e0 [(0,Ptr p)]∧RCore h' p o oo g∧Keeps [o,o+1,oo] h h') ?_ ?_
 ·conv=>whnf
  refine AIf.go ?_;conv=>whnf
  refine ADrawn.mk (h1) [] (Sub.refl _) (by decide +kernel) ?_;conv=>whnf
  refine ALoad.one rfl q.str rfl ?_
  refine ALoad.one rfl k1 rfl ?_;conv=>whnf
  refine ACalls.mono (refHas_any h1 c.votes x.src (by omega) (by omega)) ?_
  cases hh:hasB c.votes x.src with
  | true =>
   rintro _ _ ⟨rfl,rfl⟩
   conv=>whnf
   refine ⟨Sub.refl _,?_⟩;conv=>whnf
   rw [vput_has hh] at hg
   exact ⟨_,updL_self ⟨rfl,trivial⟩,by rw [hg];exact ⟨_,q⟩,s1.keeps _⟩
  | false =>
   rintro _ _ ⟨rfl,rfl⟩
   conv=>whnf
   refine ⟨Sub.refl _,?_⟩;conv=>whnf
   rw [ha,hn] at hh
   obtain ⟨v1,v2⟩:=vput_add a (by omega) n (by omega) (by omega) hh
   rw [← ha,← hn] at v1
   obtain ⟨w,hw,hsh⟩:∃ w:Nat,2^n=w∧IntKind.i64.wrap (1*2^(min ((n:Nat):Int).toNat 64))=(w:Int):=⟨_,rfl,shl_one n (by omega)⟩
   rw [hw] at v1 v2
   refine ADrawn.mk ((two h1 p b1)) [11] (two_sub _ _ _) (by decide +kernel) ?_;conv=>whnf
   refine ALoad.one rfl ((two_l _ _ _).trans q.str) rfl ?_
   refine ALoad.one rfl ((two_r _ _ _).trans k1) rfl ?_;conv=>whnf
   rw [hn]
   refine ⟨by omega,?_⟩
   refine AArith.as hsh ?_;conv=>whnf
   refine AArith.ok (r':=vput c.votes x.src) (by omega) (by omega) (by rw [v1,ha];omega) ?_;conv=>whnf
   refine AStore.oneN rfl rfl rfl (q.str) rfl (coreCells {c with votes:=vput c.votes x.src} cx) rfl fun h2 t2 k2 a2 e2=>?_;conv=>whnf
   have q2:RX h2 p o oo g cx:=by rw [hg];exact q.set' ap.a t2 k2
   exact ⟨_,updL_self ⟨rfl,trivial⟩,⟨_,q2⟩,(s1.keeps _).trans (t2.keep.keeps (by simp))⟩
 rintro e h2 ⟨e0,rfl,⟨cx2,q2⟩,kk2⟩
 have lk2:DLk g:=by rw [hg];exact lk.same rfl rfl rfl
 have g1:g.self=c.self:=by rw [hg]
 have g2:g.log=c.log:=by rw [hg]
 have g3:g.out=c.out:=by rw [hg]
 have g4:0≤g.votes∧g.votes<64:=by rw [hg];show 0≤vput c.votes x.src∧vput c.votes x.src<64;rw [ha,hn];exact vput_lt a (by omega) n (by omega) (by omega)
 have hnow:=lk2.nowOk
 unfold NowOk at hnow
 conv=>whnf
 refine ACalls.mono (rcrew_any q2 lk2.lk.lo lk2.sy) ?_;rintro _ _ ⟨rfl,rfl⟩;conv=>whnf
 refine ALoad.one rfl q2.str rfl ?_;conv=>whnf
 refine ACalls.mono (refMost_any h2 g.crewNow.1 g.votes hnow.1 hnow.2 (by omega) (by omega)) ?_
 rw [show mostOf g.crewNow.1 (hasB g.votes)=g.elected from rfl]
 cases hel:g.elected with
 | false =>
  rintro _ _ ⟨rfl,rfl⟩
  conv=>whnf
  rw [if_neg (by simp)]
  exact ⟨rfl,⟨_,q2⟩,kk2⟩
 | true =>
  rintro _ _ ⟨rfl,rfl⟩
  conv=>whnf
  rw [if_pos rfl]
  refine ACalls.mono (rlead_any ap ⟨_,q2⟩ lk2 (by rw [g1];exact hs1) (by rw [g1];exact hs2) (by rw [g2];exact hroom) (by rw [g3];exact he) (by rw [g3];exact hp)) ?_;rintro _ h7 ⟨rfl,k7,kk7⟩;conv=>whnf
  exact ⟨rfl,k7,kk2.trans kk7⟩
theorem rheard_any {h:Heap} {p o oo:Nat} {c:CoreM} (ap:Apart o oo) (k:RCore h p o oo c) (x:PH) (draw:Int) (hd:0≤draw) :
  ACalls PR 96 #[Ptr p, .agg x.cells.toArray,I draw] h (fun v h'=>v = .tuple #[]∧RCore h' p o oo {c.follow with head:=x.src,quiet:=0,wait:=waits draw}∧Keep o h h'):=by
 obtain ⟨cx,k⟩:=k
 refine acalls_of mix Tryz.func96 rfl rfl Tryz.ntmps96 Tryz.results96 rfl ?_;conv=>whnf
 refine ABox.mkN (0,1) (x.cells) rfl fun b1 h1 n1 s1 k1=>?_;conv=>whnf
 refine ACalls.mono (rfollow_any ap.a ⟨_,k.sub s1⟩) ?_;rintro _ h2 ⟨rfl,⟨cx2,q2⟩,kk2⟩;conv=>whnf
 have k12:=kk2.get (Ne.symm ap.c) k1
 refine ALoad.one rfl k12 rfl ?_;conv=>whnf
 refine AStore.oneN rfl rfl rfl (q2.str) rfl (coreCells {c.follow with head:=x.src} cx2) rfl fun h3 t3 k3 a3 e3=>?_;conv=>whnf
 refine AStore.oneN rfl rfl rfl (k3) rfl (coreCells {c.follow with head:=x.src,quiet:=0} cx2) rfl fun h4 t4 k4 a4 e4=>?_;conv=>whnf
 refine ⟨by omega,?_⟩
 refine AInt.as (rfl) ?_;conv=>whnf
 have d1:0≤draw.tmod 10:=Int.tmod_nonneg _ (by omega)
 have d2:draw.tmod 10<10:=Int.tmod_lt_of_pos _ (by omega)
 refine AArith.ok (by omega) (by omega) (rfl) ?_;conv=>whnf
 refine AStore.oneN rfl rfl rfl (k4) rfl (coreCells {c.follow with head:=x.src,quiet:=0,wait:=waits draw} cx2) rfl fun h5 t5 k5 a5 e5=>?_;conv=>whnf
 have tt:=t3.trans (t4.trans t5)
 exact ⟨rfl,⟨_,q2.set' ap.a tt k5⟩,(s1.keep o).trans (kk2.trans tt.keep)⟩
set_option maxHeartbeats 2000000 in
theorem rvote_any {h:Heap} {p o oo:Nat} {c:CoreM} (ap:Apart o oo) (k:RCore h p o oo c) (lo:LOk c.log) (x:PH) (draw:Int) (hd:0≤draw) (hp:c.out.posts.length≤1000000000) :
  ACalls PR 94 #[Ptr p, .agg x.cells.toArray,I draw] h (fun v h'=>v = .tuple #[]∧RCore h' p o oo (c.asked x.abs draw)∧Keeps [o,oo] h h'):=by
 obtain ⟨cx,k⟩:=k
 rw [CoreM.asked_eq]
 have hao:c.askedOk x.abs=((decide (c.log.last.2<x.logTerm) || (decide (x.logTerm=c.log.last.2)&&decide (c.log.last.1≤x.index)))&&(decide (c.vote=0) || decide (c.vote=x.src))):=rfl
 refine acalls_ofj mix Tryz.func94 rfl rfl Tryz.ntmps94 Tryz.results94 rfl ?_;conv=>whnf
 refine ABox.mkN (0,1) (x.cells) rfl fun b1 h1 n1 s1 k1=>?_;conv=>whnf
 have q:=k.sub s1
 refine ACalls.mono (rlast_any q lo) ?_;rintro _ _ ⟨rfl,rfl⟩;conv=>whnf
 obtain ⟨F,hF⟩:∃ F,F=(decide (c.log.last.2<x.logTerm) || (decide (x.logTerm=c.log.last.2)&&decide (c.log.last.1≤x.index))):=⟨_,rfl⟩
 rw [← hF] at hao
 refine AIf.cut (fun e h'=>∃ e0,e=updL 70 e0 [(0,Ptr p),(2,I draw),(4,Ptr b1),(8, .bool F)]∧h1=h') ?_ ?_
 ·conv=>whnf
  refine ALoad.one rfl k1 rfl ?_;conv=>whnf
  by_cases f1:c.log.last.2<x.logTerm
  ·refine ACmp.yes (f1) ?_;conv=>whnf
   exact ⟨_,updL_self ⟨rfl,rfl,rfl,congrArg Value.bool (Eq.symm (by rw [hF,decide_eq_true f1];rfl)),trivial⟩,rfl⟩
  refine ACmp.no (f1) ?_;conv=>whnf
  refine ALoad.one rfl k1 rfl ?_;conv=>whnf
  by_cases f2:x.logTerm=c.log.last.2
  ·refine ACmp.yes (f2) ?_;conv=>whnf
   refine ALoad.one rfl k1 rfl ?_;conv=>whnf
   by_cases f3:c.log.last.1≤x.index
   ·refine ACmp.yes (f3) ?_;conv=>whnf
    exact ⟨_,updL_self ⟨rfl,rfl,rfl,congrArg Value.bool (Eq.symm (by rw [hF,decide_eq_true f2,decide_eq_true f3];simp)),trivial⟩,rfl⟩
   ·refine ACmp.no (f3) ?_;conv=>whnf
    exact ⟨_,updL_self ⟨rfl,rfl,rfl,congrArg Value.bool (Eq.symm (by rw [hF,decide_eq_false f1,decide_eq_false f3];simp)),trivial⟩,rfl⟩
  ·refine ACmp.no (f2) ?_;conv=>whnf
   exact ⟨_,updL_self ⟨rfl,rfl,rfl,congrArg Value.bool (Eq.symm (by rw [hF,decide_eq_false f1,decide_eq_false f2];simp)),trivial⟩,rfl⟩
 rintro e _ ⟨e0,rfl,rfl⟩
 conv=>whnf
 refine AIf.cut (fun e h'=>∃ e0,e=updL 70 e0 [(0,Ptr p),(2,I draw),(4,Ptr b1),(9, .bool (c.askedOk x.abs))]∧h1=h') ?_ ?_
 ·conv=>whnf
  refine ADrawn.mk (h1) [] (Sub.refl _) (by decide +kernel) ?_;conv=>whnf
  cases F with
  | false=>exact ⟨_,updL_self ⟨rfl,rfl,rfl,congrArg Value.bool (Eq.symm (by rw [hao];rfl)),trivial⟩,rfl⟩
  | true =>
   conv=>whnf
   refine ALoad.one rfl q.str rfl ?_;conv=>whnf
   by_cases v0:c.vote=0
   ·refine ACmp.yes (v0) ?_;conv=>whnf
    exact ⟨_,updL_self ⟨rfl,rfl,rfl,congrArg Value.bool (Eq.symm (by rw [hao,v0];simp)),trivial⟩,rfl⟩
   ·refine ACmp.no (v0) ?_;conv=>whnf
    refine ALoad.one rfl q.str rfl ?_
    refine ALoad.one rfl k1 rfl ?_;conv=>whnf
    by_cases v1:c.vote=x.src
    ·refine ACmp.yes (v1) ?_;conv=>whnf
     exact ⟨_,updL_self ⟨rfl,rfl,rfl,congrArg Value.bool (Eq.symm (by rw [hao,decide_eq_true v1];simp)),trivial⟩,rfl⟩
    ·refine ACmp.no (v1) ?_;conv=>whnf
     exact ⟨_,updL_self ⟨rfl,rfl,rfl,congrArg Value.bool (Eq.symm (by rw [hao,decide_eq_false v0,decide_eq_false v1];simp)),trivial⟩,rfl⟩
 rintro e _ ⟨e0,rfl,rfl⟩
 obtain ⟨A,hA⟩:∃ A,A=c.askedOk x.abs:=⟨_,rfl⟩
 rw [← hA]
 conv=>whnf
 refine AIf.cut (fun e h'=>∃ e0,e=updL 70 e0 [(0,Ptr p),(4,Ptr b1),(9, .bool A)]∧RCore h' p o oo (if A=true then {c with vote:=x.src,wait:=waits draw,out:={c.out with hard:=true}} else c)∧h' b1=some (row (0,1) x.cells 49)∧Keep o h1 h') ?_ ?_
 ·conv=>whnf
  cases A with
  | false=>exact ⟨_,updL_self ⟨rfl,rfl,rfl,trivial⟩,⟨_,q⟩,k1,Keep.refl _ _⟩
  | true =>
   conv=>whnf
   refine ALoad.one rfl k1 rfl ?_;conv=>whnf
   refine AStore.oneN rfl rfl rfl (q.str) rfl (coreCells {c with vote:=x.src} cx) rfl fun h3 t3 k3 a3 e3=>?_;conv=>whnf
   refine AStore.oneN rfl rfl rfl (k3) rfl (coreCells {c with vote:=x.src,out:={c.out with hard:=true}} cx) rfl fun h4 t4 k4 a4 e4=>?_;conv=>whnf
   refine ⟨by omega,?_⟩
   refine AInt.as (rfl) ?_;conv=>whnf
   have d1:0≤draw.tmod 10:=Int.tmod_nonneg _ (by omega)
   have d2:draw.tmod 10<10:=Int.tmod_lt_of_pos _ (by omega)
   refine AArith.ok (by omega) (by omega) (rfl) ?_;conv=>whnf
   refine AStore.oneN rfl rfl rfl (k4) rfl (coreCells {c with vote:=x.src,wait:=waits draw,out:={c.out with hard:=true}} cx) rfl fun h5 t5 k5 a5 e5=>?_;conv=>whnf
   have tt:=t3.trans (t4.trans t5)
   exact ⟨_,updL_self ⟨rfl,rfl,rfl,trivial⟩,⟨_,q.set' ap.a tt k5⟩,tt.get (tag_ne ap.c) k1,tt.keep⟩
 rintro e h5 ⟨e0,rfl,q5,k15,kk5⟩
 conv=>whnf
 refine ALoad.one rfl k15 rfl ?_;conv=>whnf
 have hp5:(if A=true then ({c with vote:=x.src,wait:=waits draw,out:={c.out with hard:=true}}:CoreM) else c).out.posts.length≤1000000000:=by split <;> exact hp
 refine ACalls.mono (rsay_any ap.a ap.b ap.c ap.d q5 x.src {post1 with kind:=2,dst:=x.src,ok:=A} rfl (made0 rfl rfl rfl rfl) hp5) ?_;rintro _ h6 ⟨rfl,k6,kk6⟩;conv=>whnf
 exact ⟨rfl,k6,(s1.keeps _).trans ((kk5.keeps (by simp)).trans kk6)⟩
end Go.Ah
