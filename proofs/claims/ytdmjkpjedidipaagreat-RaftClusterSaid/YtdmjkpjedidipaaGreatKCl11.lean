/- Texts that the law leans on, one behind the other. -/
import Derived.Test.YtdmjkpjedidipaaGreatKCl10
namespace Go.Ah
open Go.Proofs
set_option linter.unusedVariables false
set_option linter.unusedSimpArgs false
set_option maxRecDepth 20000
section
variable {h h':Heap} {N p:Nat} {x0 x:NetM} {v:NX} {m:Fv (Option Nat)} {n:Int} {g:Gh}
structure CluAt (h:Heap) (p b:Nat) (x0:NetM) (m:Fv (Option Nat)) (i:Nat):Prop where
  out:∃ x v g,CluX h 1 p x0 x v m∧NetI g x∧g.lim≤10+10*i∧x.mails.length≤10*i
  row:h b=some (row (0,1) (refCells m) 26)
theorem CluX.mlSet (k:CluX h N p x0 x v m) {s:SlV} {ps:List PH} {l:List PostM} (kt:∀ b (t:Tag) y,t≠(N,0)→t≠(N,3)→h b=some (t,y)→h' b=some (t,y)) (hs:h' p=some (row (N,0) (netCells x0 {v with ml:=s}) 41))
  (ow:Own h' (N,3) 49 s.a s.n s.c 14 (ps.map PH.cells).flatten) (pa:ps.map PH.abs=l) (pk:∀ y∈ps,y∈v.ps):CluX h' N p x0 {x with mails:=l} {v with ml:=s,ps:=ps} m:=by
 refine ⟨k.n0,hs,k.sz,k.sz3,k.sz5,fun n n1 n2=>?_,fun n n1 n2=>?_,ow,pa,fun y hy=>?_⟩
 ·obtain ⟨b,hb,id⟩:=k.cores n n1 n2
  exact ⟨b,hb,id.move fun _ t _ ht e=>kt _ _ _ (fun c=>by rw [c] at ht;simp only at ht;omega) (fun c=>by rw [c] at ht;simp only at ht;omega) e⟩
 ·obtain ⟨b,hb,id⟩:=k.refs n n1 n2
  exact ⟨b,hb,id.move fun _ t _ ht e=>kt _ _ _ (fun c=>by rw [c] at ht;simp only at ht;omega) (fun c=>by rw [c] at ht;simp only at ht;omega) e⟩
 ·obtain ⟨r,hr⟩:=k.ps y (pk y hy)
  exact ⟨r,hr.move fun _ t _ ht e=>kt _ _ _ (by rcases ht with rfl | rfl | rfl <;> simp) (by rcases ht with rfl | rfl | rfl <;> simp) e⟩
def ph0:PH:=⟨0,0,0,0,0,0,0,false,0,slv0,[],0,0,0,slv0,[]⟩
set_option maxHeartbeats 8000000 in
theorem Cluster_law (h:Heap) (size:Int) {la:Option Addr} {ln lc:Nat} {ps:List StepH} (sl:Sl h (0,0) la ln lc 3 (ps.map StepH.cells).flatten) (hpl:ps.length=ln) (hln:ln≤9223372036854775807) :
  ACalls PR 3 #[I size, .slice la ln lc] h (fun v h'=>v = .bool true∧Stays h h'):=by
 refine acalls_ofj mix Tryz.func3 rfl rfl Tryz.ntmps3 Tryz.results3 rfl ?_;conv=>whnf
 refine ACalls.mono (newNet_any h 1 (by omega) size) ?_;rintro _ h1 ⟨p,rfl,k1,sz3,sz5,L1⟩;conv=>whnf
 obtain ⟨⟨v,kv⟩,⟨g1,i1,hg1⟩,_⟩:=k1
 obtain ⟨x0,hx0⟩:∃ x0,x0=newNetM size:=⟨_,rfl⟩
 have hc0:∀ n:Int,1≤n→n≤x0.size→x0.cores.get n=cnew n 14 saved0 n:=fun n n1 n2=>by rw [hx0];exact (new_get size n1 (by rw [hx0] at n2;omega)).1
 have hm0:x0.mails=[]:=by rw [hx0];rfl
 rw [← hx0] at kv i1 sz3 sz5
 refine AAlloc.mkN (0,1) (refCells (five none)) rfl fun b6 h2 n2 s2 q2=>?_;conv=>whnf
 have kv2:=kv.sub s2
 refine ALoop.mk (fun e h'=>∃ (e0:Env) (K:Nat) (m:Fv (Option Nat)),e=updL 156 e0 [(1, .slice la ln lc),(5,Ptr p),(6,Ptr b6),(7,I ((K:Int)+1))]∧(K:Int)≤x0.size∧h' b6=some (row (0,1) (refCells m) 26)∧(∀ n:Int,1≤n→n≤K→∃ b,m.get n=some b∧RIdle h' b (1+20+2*n.toNat) (cnew n 14 saved0 n)) ∧
   (∀ b (t:Tag) y,t.1<21→b≠b6→h2 b=some (t,y)→h' b=some (t,y))) (fun e=>7-natOf (e 7))
  ⟨_,0,five none,updL_self ⟨rfl,rfl,rfl,rfl,trivial⟩,by omega,q2,fun n n1 n2=>by omega,fun _ _ _ _ _ e=>e⟩ ?_
 ·rintro e h3 ⟨e0,K,m,rfl,hK,q3,kr,mv⟩
  have str3:=mv _ _ _ (by show 1<21;omega) (fun z=>by have:=kv2.str;rw [z,q2] at this;cases this) kv2.str
  conv=>whnf
  refine AIf.go ?_;conv=>whnf
  refine ALoad.one rfl str3 rfl ?_;conv=>whnf
  by_cases c:(K:Int)+1≤x0.size
  ·refine ACmp.yes (c) ?_;conv=>whnf
   refine ALoad.one rfl str3 rfl ?_;conv=>whnf
   have k5:(K:Int)+1≤5:=by omega
   have hcn:cnewOk ((K:Int)+1) 14 sh0.abs ((K:Int)+1)=true:=by
    have:K=0∨K=1∨K=2∨K=3∨K=4:=by omega
    have e:=List.all_eq_true.1 new_ok
    rcases this with rfl | rfl | rfl | rfl | rfl
    ·exact e 1 (by simp)
    ·exact e 2 (by simp)
    ·exact e 3 (by simp)
    ·exact e 4 (by simp)
    ·exact e 5 (by simp)
   refine ACalls.mono (rNew_any (1+20+2*((K:Int)+1).toNat) (by omega) ((K:Int)+1) 14 (t1:=(0,0)) (t2:=(0,0)) (t3:=(0,0)) ((K:Int)+1) (sh0_ok h3 _ _ _) (by show 0≠_;omega) (by show 0≠_;omega) (by show 0≠_;omega) (fun e he=>(by cases he)) (by omega) (by omega) (by decide) (by decide) (by decide) (by decide)) ?_
   rintro _ h4 (⟨c1,_⟩ | ⟨_,b',rfl,id4,kk4⟩)
   ·rw [hcn] at c1;cases c1
   conv=>whnf
   refine AIf.go ?_;conv=>whnf
   refine ACmp.no ((by simp)) ?_;conv=>whnf
   have q4:=kk4.get (by simp) q3
   refine AIdxA.nat (n:=6) (z:=1) (j:=K+1) (by omega) (by omega) rfl rfl ?_;conv=>whnf
   refine AStore.oneN rfl rfl rfl q4 (by have:=ref_cell m (n:=(K:Int)+1) (by omega) k5;rw [show 0+(K+1)*1=((K:Int)+1).toNat by omega];exact Nat.ble_eq_true_of_le (List.getElem?_eq_some_iff.1 this).1) (refCells (m.set ((K:Int)+1) (some b'))) (by rw [show 0+(K+1)*1=((K:Int)+1).toNat by omega];exact ref_set m (n:=(K:Int)+1) (by omega) k5 (some b')) fun h5 t5 q5 a5 e5=>?_;conv=>whnf
   refine AArith.ok (by omega) (by omega) ((by omega:(K:Int)+1+1=((K+1:Nat):Int)+1)) ?_;conv=>whnf
   refine ⟨⟨_,K+1,m.set ((K:Int)+1) (some b'),updL_self ⟨rfl,rfl,rfl,rfl,trivial⟩,by omega,q5,fun n n1 n2=>?_,fun b t y ht hb e=>e5 _ _ hb (kk4 _ _ _ (by omega) (mv _ _ _ ht hb e))⟩,?_⟩
   ·rw [Fv.get_set _ _ _ _ n1 (by omega)]
    by_cases z:n=(K:Int)+1
    ·rw [if_pos z]
     refine ⟨b',rfl,?_⟩
     rw [z]
     exact id4.move fun _ t _ ht e=>t5 _ _ _ (fun c=>by rw [c] at ht;simp only at ht;omega) e
    ·rw [if_neg z]
     obtain ⟨b,hb,id⟩:=kr n n1 (by omega)
     exact ⟨b,hb,id.move fun _ t _ ht e=>t5 _ _ _ (fun c=>by rw [c] at ht;simp only at ht;omega) (kk4 _ _ _ (by omega) e)⟩
   ·show 7-(((K+1:Nat):Int)+1).toNat<7-((K:Int)+1).toNat
    omega
  ·refine ACmp.no (c) ?_;conv=>whnf
   have hKx:x0.size=K:=by omega
   have np:p≠b6:=fun z=>by have:=kv2.str;rw [z,q2] at this;cases this
   have mv2:∀ b (t:Tag) y,t.1<21→t≠(0,1)→h2 b=some (t,y)→h3 b=some (t,y):=fun b t y ht h0 e=>mv _ _ _ ht (fun z=>by rw [z,q2] at e;cases e;exact h0 rfl) e
   have clu:CluX h3 1 p x0 x0 v m:=by
    refine ⟨by omega,str3,rfl,sz3,sz5,fun n n1 n2=>?_,fun n n1 n2=>?_,kv2.ml.move fun _ _ e=>mv2 _ _ _ (by show 1<21;omega) (by simp) e,kv2.pa,fun y hy=>?_⟩
    ·obtain ⟨b,hb,id⟩:=kv2.cores n n1 n2
     exact ⟨b,hb,id.move fun _ t _ ht e=>mv2 _ _ _ (by omega) (fun z=>by rw [z] at ht;simp only at ht;omega) e⟩
    ·rw [hc0 n n1 n2]
     exact kr n n1 (by omega)
    ·obtain ⟨r,hr⟩:=kv2.ps y hy
     exact ⟨r,hr.move fun b t z ht e=>mv2 _ _ _ (by rcases ht with rfl | rfl | rfl <;> (show 2<21;omega)) (by rcases ht with rfl | rfl | rfl <;> simp) e⟩
   have at0:CluAt h3 p b6 x0 m 0:=⟨⟨x0,v,g1,clu,i1,by omega,by rw [hm0];exact Nat.zero_le _⟩,q3⟩
   have st0:Stays h h3:=fun b y e=>mv _ _ _ (by show 0<21;omega) (fun z=>by have:=L1 _ _ _ (by show 0<1;omega) e;rw [z,n2] at this;cases this) (s2 _ _ (L1 _ _ _ (by show 0<1;omega) e))
   have hsz:∀ {hh:Heap} {x:NetM} {v:NX},CluX hh 1 p x0 x v m→x.size=x0.size:=fun k=>k.sz.symm
   obtain ⟨ma,mb,mc,md,me,rfl⟩:∃ a b c d e,m=⟨some a,some b,some c,d,e⟩:=by
    obtain ⟨a,ha,_⟩:=kr 1 (by omega) (by omega)
    obtain ⟨b,hb,_⟩:=kr 2 (by omega) (by omega)
    obtain ⟨c,hc,_⟩:=kr 3 (by omega) (by omega)
    obtain ⟨m1,m2,m3,m4,m5⟩:=m
    exact ⟨a,b,c,m4,m5,by rw [show m1=some a from ha,show m2=some b from hb,show m3=some c from hc]⟩
   clear mv mv2 kr clu kv2 kv i1 hg1 L1 s2 q2 n2 str3 q3
   refine ALoop.mk (fun e h'=>∃ (e0:Env) (i:Nat),e=updL 156 e0 [(1, .slice la ln lc),(5,Ptr p),(6,Ptr b6),(10,I i)]∧i≤ln∧i≤120∧CluAt h' p b6 x0 ⟨some ma,some mb,some mc,md,me⟩ i∧Stays h h') (fun e=>ln-natOf (e 10))
    ⟨_,0,updL_self ⟨rfl,rfl,rfl,rfl,trivial⟩,by omega,by omega,at0,st0⟩ ?_
   rintro e h4 ⟨e1,i,rfl,hi,hi1,at4,st4⟩
   conv=>whnf
   refine AIf.go ?_;conv=>whnf
   obtain ⟨⟨x,v4,g,k,ig,hg,hml⟩,q4⟩:=at4
   refine AIf.cut (fun e h'=>∃ e0,e=updL 156 e0 [(1, .slice la ln lc),(5,Ptr p),(6,Ptr b6),(10,I i),(47, .bool (decide (i<ln∧i<120)))]∧h4=h') ?_ ?_
   ·conv=>whnf
    by_cases c1:i<ln
    ·refine ACmp.yes ((by omega)) ?_;conv=>whnf
     refine ACmp.dec ?_;conv=>whnf
     exact ⟨_,updL_self ⟨rfl,rfl,rfl,rfl,congrArg Value.bool (decide_eq_decide.2 (by omega)),trivial⟩,rfl⟩
    ·refine ACmp.no ((by omega)) ?_;conv=>whnf
     exact ⟨_,updL_self ⟨rfl,rfl,rfl,rfl,congrArg Value.bool (decide_eq_false (by omega)).symm,trivial⟩,rfl⟩
   rintro e _ ⟨e2,rfl,rfl⟩
   by_cases c1:i<ln∧i<120
   rotate_left
   ·rw [decide_eq_false c1]
    conv=>whnf
    refine ACalls.mono (awake_any h4 1 (by omega)) ?_
    rintro _ h5 ⟨rfl,L5⟩
    conv=>whnf
    exact ⟨rfl,st4.trans (low_stays L5)⟩
   rw [decide_eq_true c1]
   have hsx:=hsz k
   refine AIf.cut (fun e h'=>∃ e0,e=updL 156 e0 [(1, .slice la ln lc),(5,Ptr p),(6,Ptr b6),(10,I i)]∧CluAt h' p b6 x0 ⟨some ma,some mb,some mc,md,me⟩ (i+1)∧Stays h h') ?_ ?_
   rotate_left
   ·rintro e h5 ⟨e3,rfl,at5,st5⟩
    conv=>whnf
    refine AArith.ok (by omega) (by omega) ((by omega:(i:Int)+1=((i+1:Nat):Int))) ?_;conv=>whnf
    refine ⟨⟨_,i+1,updL_self ⟨rfl,rfl,rfl,rfl,trivial⟩,by omega,by omega,at5,st5⟩,?_⟩
    show ln-(i+1)<ln-i
    omega
   conv=>whnf
   obtain ⟨s,hs⟩:∃ s,s=ps[i]'(by omega):=⟨_,rfl⟩
   have hx:(ps.map StepH.cells)[i]? = some s.cells:=by rw [hs,List.getElem?_map,List.getElem?_eq_getElem (by omega)];rfl
   obtain ⟨b,off,l,E',fz,rfl,hb,hp,_⟩:=(sl.stays st4).elem (step_rz ps) (by simp [hpl]) (by omega) (i:=i) (e:=s.cells) hx
   refine AIdx.nat (z:=3) (j:=i) rfl c1.1 rfl rfl ?_;conv=>whnf
   refine ALoad.agg rfl hb hp rfl ?_;conv=>whnf
   refine AAlloc.mkN (0,1) ([I 0,I 0,I 0]) rfl fun b11 h5 n5 s5 q5=>?_;conv=>whnf
   refine AStore.aggN rfl rfl rfl (q5) rfl (s.cells) rfl fun h6 t6 q6 a6 e6=>?_;conv=>whnf
   have s6:=a6 h4 s5 n5
   have k6:=k.sub s6
   have q66:=s6 _ _ q4
   have st6:=st4.trans (low_stays s6.low)
   obtain ⟨n,hn⟩:∃ n,n=1+bring s.a x0.size:=⟨_,rfl⟩
   have hbr:=bring_in s.a x0.size (by omega)
   have n1:1≤n:=by omega
   have n2:n≤x.size:=by omega
   have hbb:=bring_in s.b 100 (by omega)
   obtain ⟨ct1,ct2⟩:=k6.count
   clear t6 e6 a6 s5 q5 n5
   refine AIf.go ?_;conv=>whnf
   refine ADrawn.mk (h6) [] (Sub.refl _) (by decide +kernel) ?_;conv=>whnf
   refine ALoad.one rfl q6 rfl ?_
   refine ALoad.one rfl k6.str rfl ?_;conv=>whnf
   refine ACalls.mono (bring_any s.a x0.size (by omega) h6) ?_;rintro _ _ ⟨rfl,rfl⟩;conv=>whnf
   refine ⟨Sub.refl _,?_⟩;conv=>whnf
   refine AArith.ok (by omega) (by omega) ((by omega:1+bring s.a x0.size=n)) ?_;conv=>whnf
   refine ALoad.one rfl q6 rfl ?_;conv=>whnf
   refine ACalls.mono (bring_any s.op 4 (by omega) h6) ?_;rintro _ _ ⟨rfl,rfl⟩;conv=>whnf
   obtain ⟨op,hop⟩:∃ op,op=bring s.op 4:=⟨_,rfl⟩
   rw [← hop]
   conv=>whnf
   have hop1:=bring_in s.op 4 (by omega)
   by_cases d0:op=0
   ·refine ACmp.yes (d0) ?_;conv=>whnf
    refine AIf.go ?_;conv=>whnf
    refine ALoad.one rfl k6.str rfl ?_;conv=>whnf
    by_cases cm:x.mails.length=0
    ·refine ACmp.yes ((by omega)) ?_;conv=>whnf
     exact ⟨_,updL_self ⟨rfl,rfl,rfl,rfl,trivial⟩,⟨⟨x,v4,g,k6,ig,by omega,by omega⟩,q66⟩,st6⟩
    refine ACmp.no ((by omega)) ?_;conv=>whnf
    have hbj:=bring_in s.a x.mails.length (by omega)
    obtain ⟨j,hj⟩:∃ j:Nat,bring s.a x.mails.length=j:=⟨(bring s.a x.mails.length).toNat,by omega⟩
    obtain ⟨y,hy⟩:∃ y,v4.ps[j]? = some y:=⟨v4.ps[j]'(by omega),by simp⟩
    have hyx:x.mails[j]? = some y.abs:=by rw [← k.pa,List.getElem?_map,hy];rfl
    have my:=ig.mails _ (List.mem_of_getElem? hyx)
    obtain ⟨bb,off',l',E2,fz2,ea2,hb2,gp,_⟩:=Sl.elem k6.ml.sl (ph_len v4.ps) (by rw [List.length_map];omega) (by omega) (i:=j) (e:=y.cells) (by rw [List.getElem?_map,hy];rfl)
    have y2:y.dst≤x.size:=by rw [← ig.sz];exact my.d2
    refine AIf.cut (fun e h'=>∃ e0 b13,e=updL 156 e0 [(1, .slice (some ⟨b,off,none⟩) ln lc),(5,Ptr p),(6,Ptr b6),(10,I i),(11,Ptr b11),(13,Ptr b13)]∧h' b11=some (row (0,1) s.cells 46)∧h' b13=some (row (0,1) y.cells 49)∧Sub h6 h') ?_ ?_
    ·conv=>whnf
     have hj':bring s.a (v4.ml.n:Int)=j:=by rw [ct2];exact hj
     have hjl:j<v4.ml.n:=by omega
     refine ADrawn.mkT (h6) [15] (.take 0 (.take 1 (.take 2 (.take 3 (.take 4 (.take 5 (.take 6 (.take 7 (.take 8 (.take 9 (.take 10 (.alt 11 (.take 12 (.take 13 (.take 14 (.take 15 (.done))))) (.alt 14 (.take 11 (.take 12 (.take 13 (.take 15 (.done))))) (.stop)))))))))))))) (Sub.refl _) (by decide +kernel) ?_;conv=>whnf
     refine ALoad.one rfl k6.str rfl ?_
     refine ALoad.one rfl q6 rfl ?_
     refine ALoad.one rfl k6.str rfl ?_;conv=>whnf
     refine And.intro ?_ ?_
     ·refine ACalls.mono (bring_any s.a v4.ml.n (by omega) h6) ?_;rintro _ _ ⟨rfl,rfl⟩;conv=>whnf
      refine ⟨Sub.refl _,?_⟩;conv=>whnf
      rw [hj',ea2]
      refine AIdx.nat (n:=v4.ml.n) (z:=14) (j:=j) rfl hjl rfl rfl ?_;conv=>whnf
      refine ALoad.agg rfl hb2 gp rfl ?_;conv=>whnf
      refine AAlloc.mkN (0,1) (post0z) rfl fun b13 h7 n7 s7 q7=>?_;conv=>whnf
      refine ⟨s7,?_⟩;conv=>whnf
      refine AStore.aggN rfl rfl rfl (q7) rfl (y.cells) rfl fun h8 t8 q8 a8 e8=>?_;conv=>whnf
      have s8:=a8 h6 s7 n7
      exact ⟨_,b13,updL_self ⟨rfl,rfl,rfl,rfl,rfl,rfl,trivial⟩,s8 _ _ q6,q8,s8⟩
     ·conv=>whnf
      refine And.intro ?_ trivial
      refine AAlloc.mkN (0,1) (post0z) rfl fun b13 h7 n7 s7 q7=>?_;conv=>whnf
      refine ⟨s7,?_⟩;conv=>whnf
      refine ACalls.mono (bring_any s.a v4.ml.n (by omega) h7) ?_;rintro _ _ ⟨rfl,rfl⟩;conv=>whnf
      refine ⟨s7,?_⟩;conv=>whnf
      rw [hj',ea2]
      refine AIdx.nat (n:=v4.ml.n) (z:=14) (j:=j) rfl hjl rfl rfl ?_;conv=>whnf
      refine ALoad.agg rfl hb2 gp rfl ?_;conv=>whnf
      refine AStore.aggN rfl rfl rfl (q7) rfl (y.cells) rfl fun h8 t8 q8 a8 e8=>?_;conv=>whnf
      have s8:=a8 h6 s7 n7
      exact ⟨_,b13,updL_self ⟨rfl,rfl,rfl,rfl,rfl,rfl,trivial⟩,s8 _ _ q6,q8,s8⟩
    rintro e h8 ⟨e4,b13,rfl,q811,q813,s8⟩
    have k8:=k6.sub s8
    have q86:=s8 _ _ q66
    conv=>whnf
    refine AIf.go ?_;conv=>whnf
    refine AIf.cut (fun e h'=>∃ e0 z v9 g9,e=updL 156 e0 [(1, .slice (some ⟨b,off,none⟩) ln lc),(5,Ptr p),(6,Ptr b6),(10,I i),(11,Ptr b11),(115, .bool false)]∧h' b11=some (row (0,1) s.cells 46)∧h' b6=some (row (0,1) (refCells ⟨some ma,some mb,some mc,md,me⟩) 26) ∧
     CluX h' 1 p x0 z v9 ⟨some ma,some mb,some mc,md,me⟩∧NetI g9 z∧g9.lim≤g.lim+10∧z.mails.length≤x.mails.length+10∧x.mails.length≤z.mails.length∧Low 1 h8 h') ?_ ?_
    ·conv=>whnf
     have yr:∃ r,y.Ok h8 (2,r) (2,5) (2,6):=by
      obtain ⟨r,hr⟩:=k.ps y (List.mem_of_getElem? hy)
      exact ⟨r,hr.move fun _ _ _ _ e=>s8 _ _ (s6 _ _ e)⟩
     have BA:=both_any k8 ig (by omega) my.d1 y2 (by omega) (kind:=1) (A:=bring s.b 100) (y:=y) (d:=slv0) (data:=[]) (by omega) (fun z=>by omega) (fun _=>⟨hbb.1,rfl,my,yr⟩) (fun z=>by omega) (fun z=>by omega) (Sl.nil ..) (by simp) (by simp [slv0])
     refine ADrawn.mk (h8) [9] (Sub.refl _) (by decide +kernel) ?_;conv=>whnf
     refine ALoad.agg (vs:=refCells ⟨some ma,some mb,some mc,md,me⟩) rfl q86 rfl rfl ((forceL_iff _ _).2 ?_);conv=>whnf
     refine ALoad.one rfl q813 rfl ?_
     refine ALoad.agg rfl q813 rfl rfl ?_
     refine ALoad.one rfl q811 rfl ?_;conv=>whnf
     refine ACalls.mono (bring_any s.b 100 (by omega) h8) ?_;rintro _ _ ⟨rfl,rfl⟩;conv=>whnf
     refine ⟨Sub.refl _,?_⟩;conv=>whnf
     refine ACalls.mono BA ?_
     rintro _ h9 ⟨rfl,⟨z,v9,g9,k9,i9,l9,zs9,zm9,zn9⟩,L9⟩
     conv=>whnf
     exact ⟨_,z,v9,g9,updL_self ⟨rfl,rfl,rfl,rfl,rfl,rfl,trivial⟩,L9 _ _ _ (by show 0<1;omega) q811,L9 _ _ _ (by show 0<1;omega) q86,k9,i9,l9,zm9,zn9,L9⟩
    rintro e h9 ⟨e5,z,v9,g9,rfl,q911,q96,k9,i9,l9,zm9,zn9,L9⟩
    conv=>whnf
    have cn9:=k9.count
    have hbq:=bring_in s.a z.mails.length (by omega)
    obtain ⟨q,hq⟩:∃ q:Nat,bring s.a v9.ml.n=q:=⟨(bring s.a v9.ml.n).toNat,by have:=bring_in s.a v9.ml.n (by omega);omega⟩
    have hqn:=bring_in s.a v9.ml.n (by omega)
    refine ADrawn.mk (few h9 [p,b11]) [16] (few_sub _ _) (by decide +kernel) ?_;conv=>whnf
    refine ALoad.one rfl ((few_at (by simp)).trans k9.str) rfl ?_
    refine ALoad.one rfl ((few_at (by simp)).trans q911) rfl ?_
    refine ALoad.one rfl ((few_at (by simp)).trans k9.str) rfl ?_;conv=>whnf
    refine ACalls.mono (bring_any s.a v9.ml.n (by omega) h9) ?_;rintro _ _ ⟨rfl,rfl⟩;conv=>whnf
    refine ⟨few_sub _ _,?_⟩;conv=>whnf
    rw [hq]
    refine ACalls.mono (drop_any (tg:=(1,3)) k9.ml.sl (by omega) q (by omega)) ?_
    rintro _ h10 ⟨ml10,rfl,ow10,t10⟩
    conv=>whnf
    have p10:=t10.get (u:=(1,0)) (by simp) k9.str
    have b10:=t10.get (u:=(0,1)) (by simp) q911
    refine ⟨few_get fun b hb y e=>?_,?_⟩
    ·simp only [List.mem_cons,List.not_mem_nil,or_false] at hb
     rcases hb with rfl | rfl
     ·rw [k9.str] at e;cases e;exact p10
     ·rw [q911] at e;cases e;exact b10
    conv=>whnf
    refine AStore.oneN rfl rfl rfl (p10) rfl (netCells x0 {v9 with ml:=ml10}) rfl fun h11 t11 q11 a11 e11=>?_;conv=>whnf
    have mv11:∀ b (t:Tag) y,t≠(1,0)→t≠(1,3)→h9 b=some (t,y)→h11 b=some (t,y):=fun b t y n0 n3 e=>t11 _ _ _ n0 (t10 _ _ _ n3 e)
    have k11:=k9.mlSet (h':=h11) (s:=ml10) (ps:=dropN v9.ps q) (l:=dropN z.mails q) mv11 q11 (ow10.keepT t11 (by simp)) (by rw [dropN_map,k9.pa]) (fun y hy=>mem_dropN hy)
    refine ⟨_,updL_self ⟨rfl,rfl,rfl,rfl,trivial⟩,⟨⟨_,_,g9,k11,i9.withMails fun w hw=>i9.mails w (mem_dropN hw),by omega,?_⟩,mv11 _ _ _ (by simp) (by simp) q96⟩,st6.trans (low_stays (s8.low.trans (L9.trans fun b t y ht e=>mv11 _ _ _ (fun c=>by rw [c] at ht;simp at ht) (fun c=>by rw [c] at ht;simp at ht) e)))⟩
    have:=dropN_len z.mails q
    show (dropN z.mails q).length≤_
    omega
   refine ACmp.no (d0) ?_;conv=>whnf
   by_cases d1:op=1
   ·refine ACmp.yes (d1) ?_;conv=>whnf
    refine AIf.cut (fun e h'=>∃ e0,e=updL 156 e0 [(1, .slice (some ⟨b,off,none⟩) ln lc),(5,Ptr p),(6,Ptr b6),(10,I i),(142, .bool false)]∧CluAt h' p b6 x0 ⟨some ma,some mb,some mc,md,me⟩ (i+1)∧Stays h h') ?_ ?_
    ·conv=>whnf
     have BA:=both_any k6 ig (by omega) n1 n2 (by omega) (kind:=0) (A:=bring s.b 100) (y:=ph0) (d:=slv0) (data:=[]) (by omega) (fun _=>hbb.1) (fun z=>by omega) (fun z=>by omega) (fun z=>by omega) (Sl.nil ..) (by simp) (by simp [slv0])
     refine ADrawn.mk (h6) [7] (Sub.refl _) (by decide +kernel) ?_;conv=>whnf
     refine ALoad.agg (vs:=refCells ⟨some ma,some mb,some mc,md,me⟩) rfl q66 rfl rfl ((forceL_iff _ _).2 ?_);conv=>whnf
     refine ALoad.one rfl q6 rfl ?_;conv=>whnf
     refine ACalls.mono (bring_any s.b 100 (by omega) h6) ?_;rintro _ _ ⟨rfl,rfl⟩;conv=>whnf
     refine ⟨Sub.refl _,?_⟩;conv=>whnf
     refine ACalls.mono BA ?_
     rintro _ h9 ⟨rfl,⟨z,v9,g9,k9,i9,l9,zs9,zm9,zn9⟩,L9⟩
     conv=>whnf
     exact ⟨_,updL_self ⟨rfl,rfl,rfl,rfl,rfl,trivial⟩,⟨⟨z,v9,g9,k9,i9,by omega,by omega⟩,L9 _ _ _ (by show 0<1;omega) q66⟩,st6.trans (low_stays L9)⟩
    rintro e h9 ⟨e5,rfl,at9,st9⟩
    conv=>whnf
    exact ⟨_,updL_self ⟨rfl,rfl,rfl,rfl,trivial⟩,at9,st9⟩
   refine ACmp.no (d1) ?_;conv=>whnf
   by_cases d2:op=2
   ·refine ACmp.yes (d2) ?_;conv=>whnf
    refine ALoad.agg (vs:=refCells ⟨some ma,some mb,some mc,md,me⟩) rfl q66 rfl rfl ((forceL_iff _ _).2 ?_);conv=>whnf
    refine ALoad.one rfl q6 rfl ?_;conv=>whnf
    refine AArith.raw ?_
    rw [u8_mod]
    conv=>whnf
    refine ABuildSl.mkN (0,1) [.int .u8 (s.b % 256)] rfl rfl rfl rfl rfl rfl rfl fun b7 h7 n7 s7 k7=>?_;conv=>whnf
    have BA:=both_any (k6.sub s7) ig (by omega) n1 n2 (by omega) (kind:=2) (A:=1) (y:=ph0) (d:=⟨some ⟨b7,0,none⟩,1,1⟩) (data:=[s.b % 256]) (by omega) (fun z=>by omega) (fun z=>by omega) (fun _=>rfl) (fun z=>by omega) (row_sl rfl k7) (fun z hz=>by
     rw [List.mem_singleton.1 hz]
     exact ⟨Int.emod_nonneg _ (by omega),Int.emod_lt_of_pos _ (by omega)⟩) (by show 1≤8;omega)
    refine ACalls.mono BA ?_
    rintro _ h9 ⟨rfl,⟨z,v9,g9,k9,i9,l9,zs9,zm9,zn9⟩,L9⟩
    conv=>whnf
    exact ⟨_,updL_self ⟨rfl,rfl,rfl,rfl,trivial⟩,⟨⟨z,v9,g9,k9,i9,by omega,by omega⟩,L9 _ _ _ (by show 0<1;omega) (s7 _ _ q66)⟩,st6.trans (low_stays (s7.low.trans L9))⟩
   refine ACmp.no (d2) ?_;conv=>whnf
   have hb2:=bring_in s.b 2 (by omega)
   obtain ⟨mn,hmn⟩:∃ mn:Nat,n=mn:=⟨n.toNat,by omega⟩
   have n5:n≤5:=by omega
   obtain ⟨bp,hbp,ip⟩:=k6.cores n n1 n2
   refine AIf.cut (fun e h'=>∃ e0,e=updL 156 e0 [(1, .slice (some ⟨b,off,none⟩) ln lc),(5,Ptr p),(6,Ptr b6),(10,I i),(82, .bool false)]∧CluAt h' p b6 x0 ⟨some ma,some mb,some mc,md,me⟩ (i+1)∧Stays h h') ?_ ?_
   ·conv=>whnf
    have BA:∀ {hh:Heap},Sub h6 hh→∀ {b7:Nat},hh b7=some (row (0,1) (bytesV [1]) 5)→_:=fun {hh} s7 {b7} k7=>both_any (k6.sub s7) ig (by omega) n1 n2 (by omega) (kind:=3+bring s.b 2) (A:=(x.cores.get n).commit) (y:=ph0) (d:=⟨some ⟨b7,0,none⟩,1,1⟩) (data:=[1]) (by omega) (fun z=>by omega) (fun z=>by omega) (fun z=>by omega) (fun _=>rfl) (row_sl rfl k7) (fun z hz=>by
     rw [List.mem_singleton.1 hz];omega) (by show 1≤8;omega)
    refine ADrawn.mkT (h6) [16] (.take 0 (.take 1 (.take 2 (.take 3 (.take 4 (.take 7 (.take 8 (.take 9 (.take 10 (.take 11 (.take 12 (.alt 5 (.take 6 (.alt 13 (.take 14 (.take 15 (.take 16 (.take 17 (.done))))) (.alt 14 (.take 13 (.take 15 (.take 16 (.take 17 (.done))))) (.stop)))) (.alt 14 (.take 5 (.take 6 (.take 13 (.take 15 (.take 16 (.take 17 (.done))))))) (.stop)))))))))))))) (Sub.refl _) (by decide +kernel) ?_;conv=>whnf
    refine ALoad.agg (vs:=refCells ⟨some ma,some mb,some mc,md,me⟩) rfl q66 rfl rfl ((forceL_iff _ _).2 ?_);conv=>whnf
    refine ALoad.one rfl q6 rfl ?_;conv=>whnf
    refine AIdxA.nat (n:=6) (z:=1) (j:=mn) (by omega) (by omega) rfl rfl ?_;conv=>whnf
    refine ALoad.one (v:=Ptr bp) rfl k6.str (by have:=core_cell x0 v4 n1 n5;rw [hbp] at this;rw [show 0+2+mn*1=2+n.toNat by omega];exact this) ?_;conv=>whnf
    refine And.intro ?_ ?_
    ·refine ACalls.mono (bring_any s.b 2 (by omega) h6) ?_;rintro _ _ ⟨rfl,rfl⟩;conv=>whnf
     refine ⟨(Sub.refl _),?_⟩;conv=>whnf
     refine AArith.ok (by omega) (by omega) (rfl) ?_;conv=>whnf
     refine And.intro ?_ ?_
     ·refine ACalls.mono (commit_i (ip.move fun _ _ _ _ e=>(Sub.refl _) _ _ e)) ?_;rintro _ _ ⟨rfl,rfl⟩;conv=>whnf
      refine ⟨(Sub.refl _),?_⟩;conv=>whnf
      refine ABuildSl.mkN (0,1) [(.int .u8 1)] rfl rfl rfl rfl rfl rfl rfl fun b7 h7 n7 s7 k7=>?_;conv=>whnf
      refine ⟨s7,?_⟩;conv=>whnf
      refine ACalls.mono (BA s7 k7) ?_
      rintro _ h9 ⟨rfl,⟨z,v9,g9,k9,i9,l9,zs9,zm9,zn9⟩,L9⟩
      conv=>whnf
      exact ⟨_,updL_self ⟨rfl,rfl,rfl,rfl,rfl,trivial⟩,⟨⟨z,v9,g9,k9,i9,by omega,by omega⟩,L9 _ _ _ (by show 0<1;omega) (s7 _ _ q66)⟩,st6.trans (low_stays (s7.low.trans L9))⟩
     ·conv=>whnf
      refine And.intro ?_ trivial
      refine ABuildSl.mkN (0,1) [(.int .u8 1)] rfl rfl rfl rfl rfl rfl rfl fun b7 h7 n7 s7 k7=>?_;conv=>whnf
      refine ⟨s7,?_⟩;conv=>whnf
      refine ACalls.mono (commit_i (ip.move fun _ _ _ _ e=>s7 _ _ e)) ?_;rintro _ _ ⟨rfl,rfl⟩;conv=>whnf
      refine ⟨s7,?_⟩;conv=>whnf
      refine ACalls.mono (BA s7 k7) ?_
      rintro _ h9 ⟨rfl,⟨z,v9,g9,k9,i9,l9,zs9,zm9,zn9⟩,L9⟩
      conv=>whnf
      exact ⟨_,updL_self ⟨rfl,rfl,rfl,rfl,rfl,trivial⟩,⟨⟨z,v9,g9,k9,i9,by omega,by omega⟩,L9 _ _ _ (by show 0<1;omega) (s7 _ _ q66)⟩,st6.trans (low_stays (s7.low.trans L9))⟩
    ·conv=>whnf
     refine And.intro ?_ trivial
     refine ABuildSl.mkN (0,1) [(.int .u8 1)] rfl rfl rfl rfl rfl rfl rfl fun b7 h7 n7 s7 k7=>?_;conv=>whnf
     refine ⟨s7,?_⟩;conv=>whnf
     refine ACalls.mono (bring_any s.b 2 (by omega) h7) ?_;rintro _ _ ⟨rfl,rfl⟩;conv=>whnf
     refine ⟨s7,?_⟩;conv=>whnf
     refine AArith.ok (by omega) (by omega) (rfl) ?_;conv=>whnf
     refine ACalls.mono (commit_i (ip.move fun _ _ _ _ e=>s7 _ _ e)) ?_;rintro _ _ ⟨rfl,rfl⟩;conv=>whnf
     refine ⟨s7,?_⟩;conv=>whnf
     refine ACalls.mono (BA s7 k7) ?_
     rintro _ h9 ⟨rfl,⟨z,v9,g9,k9,i9,l9,zs9,zm9,zn9⟩,L9⟩
     conv=>whnf
     exact ⟨_,updL_self ⟨rfl,rfl,rfl,rfl,rfl,trivial⟩,⟨⟨z,v9,g9,k9,i9,by omega,by omega⟩,L9 _ _ _ (by show 0<1;omega) (s7 _ _ q66)⟩,st6.trans (low_stays (s7.low.trans L9))⟩
   rintro e h9 ⟨e5,rfl,at9,st9⟩
   conv=>whnf
   exact ⟨_,updL_self ⟨rfl,rfl,rfl,rfl,trivial⟩,at9,st9⟩
end
end Go.Ah
