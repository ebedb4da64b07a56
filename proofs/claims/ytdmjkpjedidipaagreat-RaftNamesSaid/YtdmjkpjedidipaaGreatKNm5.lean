/- Texts that the law leans on, one behind the other. -/
import Derived.Test.YtdmjkpjedidipaaGreatKNm4
namespace Go.Ah
open Go.Proofs
set_option linter.unusedVariables false
set_option linter.unusedSimpArgs false
set_option maxRecDepth 20000
set_option maxHeartbeats 16000000
def CoreM.installed (c:CoreM) (s:SnapM) (l:LG):CoreM:={c with log:=l,snap:=s,commit:=s.index,out:={c.out with snap:=s}}
theorem CoreM.install_no {c:CoreM} {p:PostM} (h:¬ c.commit<p.snap.index):c.install p=c.say p.src {post0 with kind:=6,index:=c.commit,hint:=p.hint}:=by
 unfold CoreM.install;rw [if_neg h]
theorem CoreM.install_yes {c:CoreM} {p:PostM} (h:c.commit<p.snap.index):c.install p=(c.installed p.snap (if c.has p.snap.index p.snap.term=true∧(c.log.compact p.snap.index).1=0 then (c.log.compact p.snap.index).2 else lnew p.snap.index p.snap.term)).say p.src {post0 with kind:=6,index:=p.snap.index,hint:=p.hint}:=by
 unfold CoreM.install;rw [if_pos h];rfl
theorem install_any {h:Heap} {p o oo:Nat} {c:CoreM} (ap:Apart o oo) (k:PCore h p o oo c) (lo:LOk c.log) (x:PH) (g:Given h o oo x) (hb:okBase x.si x.st=true) (hdn:x.d.n≤140737488355328)
  (hroom:c.log.es.length*48≤140737488355328) (hp:c.out.posts.length≤1000000000) :
  ACalls PR 137 #[Ptr p, .agg x.cells.toArray] h (fun v h'=>v = .tuple #[]∧PCore h' p o oo (c.install x.abs)∧Keeps [o,o+1,oo] h h'):=by
 obtain ⟨cx,k⟩:=k
 refine As mix Tryz.func137 rfl rfl Tryz.ntmps137 Tryz.results137 rfl ?_;conv=>whnf
 refine Al (0,1) (x.cells) rfl fun b1 h1 n1 s1 k1=>?_;conv=>whnf
 refine Ab rfl k1 rfl rfl ?_;conv=>whnf
 refine Ak (0,1) ([I 0,I 0,I 0, .slice none 0 0]) rfl fun b4 h2 n2 s2 k2=>?_;conv=>whnf
 refine Ae rfl rfl rfl (k2) rfl ([I x.si,I x.st,I x.sc, .slice x.d.a x.d.n x.d.c]) rfl fun h3 t3 k4 a3 e3=>?_;conv=>whnf
 have b14:b1≠b4:=fun c=>by rw [c,n2] at k1;cases k1
 have k13:=e3 _ _ b14 (s2 _ _ k1)
 have hb4:h b4=none:=by
  cases e:h b4 with
  | none=>rfl
  | some y=>rw [s1 _ _ e] at n2;cases n2
 have s3:Sub h h3:=a3 h (s1.trans s2) hb4
 have q:=k.sub s3
 have g3:=g.sub s3
 clear s1 s2 k1 k2 n1 n2 t3 a3 e3
 refine Am (h3) [] (Sub.refl _) (by decide +kernel) ?_;conv=>whnf
 refine Aa rfl k4 rfl ?_
 refine Aa rfl q.str rfl ?_;conv=>whnf
 by_cases c1:c.commit<x.si
 ·refine Ac (c1) ?_;conv=>whnf
  rw [CoreM.install_yes (p:=x.abs) c1]
  obtain ⟨L,hL⟩:∃ L,L=(if c.has x.abs.snap.index x.abs.snap.term=true∧(c.log.compact x.abs.snap.index).1=0 then (c.log.compact x.abs.snap.index).2 else lnew x.abs.snap.index x.abs.snap.term):=⟨_,rfl⟩
  rw [← hL]
  refine Am ((two h3 p b4)) [] (two_sub _ _ _) (by decide +kernel) ?_;conv=>whnf
  refine Aa rfl ((two_l _ _ _).trans q.str) rfl ?_
  refine Aa rfl ((two_r _ _ _).trans k4) rfl ?_
  refine Aa rfl ((two_r _ _ _).trans k4) rfl ?_;conv=>whnf
  have hcall:ACalls PR 122 #[Ptr cx.log,I x.si,I x.st] h3 (fun v h'=>v = .bool (c.has x.si x.st)∧h3=h'):=Has_c q.log lo x.si x.st
  by_cases hh:c.has x.si x.st=true
  ·rw [hh] at hcall
   refine C2 (hcall) ?_;conv=>whnf
   refine ⟨two_sub _ _ _,?_⟩;conv=>whnf
   refine Aa rfl ((two_l _ _ _).trans q.str) rfl ?_
   refine Aa rfl ((two_r _ _ _).trans k4) rfl ?_;conv=>whnf
   refine ACalls.mono (Compact_c (by omega) q.log lo x.si hroom) ?_;rintro _ h4 ⟨rfl,l4,kk4⟩;conv=>whnf
   have k44:=kk4.get (by simp) k4
   have k14:=kk4.get (by simp) k13
   have q4:=kk4.get (by simp) q.str
   have rd4:=q.rd.move fun b y e=>kk4.get (by simp) e
   have o4:=q.out.move fun b t y ht e=>kk4 _ _ _ (by rw [ht];exact ap.b.symm) e
   refine ⟨two_get (fun y hy=>?_) (fun y hy=>?_),?_⟩
   ·rw [q.str] at hy;cases hy;exact q4
   ·rw [k4] at hy;cases hy;exact k44
   conv=>whnf
   have KK4:Keeps [o,o+1,oo] h3 h4:=kk4.keeps (by simp)
   by_cases hc:(c.log.compact x.si).1=0
   ·refine Ad ((by simpa using hc)) ?_;conv=>whnf
    have hL2:L=(c.log.compact x.si).2:=hL.trans (if_pos ⟨hh,hc⟩)
    obtain ⟨h5,lp,rfl,k45,k15,q5,l5,rd5,o5,kk5⟩:∃ (h5:Heap) (lp:Nat),h5=h4∧h5 b4=some (row (0,1) [I x.si,I x.st,I x.sc, .slice x.d.a x.d.n x.d.c] 31)∧h5 b1=some (row (0,1) x.cells 49) ∧
      h5 p=some (row (o,0) (coreCells {c with log:=L} {cx with log:=lp}) 81)∧LA h5 lp (o+1) L∧Own h5 (o,4) 3 cx.rd.a cx.rd.n cx.rd.c 1 (c.reads.map I)∧OutOk h5 oo c.out cx.ox∧Keeps [o,o+1,oo] h3 h5 :=
     ⟨h4,cx.log,rfl,k44,k14,q4,by rw [hL2];exact l4,rd4,o4,KK4⟩
    obtain ⟨⟨t1,t2,t3,ok,tn1,tn2,tn3⟩,_,_,_,_⟩:=g3.keeps kk5
    refine An ((one h5 b4)) [] [0,1,2,4,5,3,6,7,8,9,10,11] (one_sub _ _) (by decide +kernel) ?_;conv=>whnf
    refine Ab rfl ((one_at _ _).trans k45) rfl rfl ?_
    refine Aa rfl ((one_at _ _).trans k45) rfl ?_;conv=>whnf
    refine ACalls.mono (cloned_any h5 (o,3) (fun c=>ap.c (congrArg Prod.fst c)) (i:=x.si) (tm:=x.st) (cr:=x.sc) (d:=x.d) ok.sd hdn) ?_
    rintro v h6 ⟨a6,c6,rfl,ow6,s6⟩
    refine ⟨(one_sub _ _).trans s6,?_⟩;conv=>whnf
    refine Ae rfl rfl rfl ((s6 _ _ q5)) rfl (coreCells {c with snap:=⟨x.si,x.st,x.sc,x.data⟩,log:=L} {cx with log:=lp,sd:=⟨a6,x.d.n,c6⟩}) rfl fun h7 t7 k7 a7 e7=>?_;conv=>whnf
    have b4p:b4≠p:=ne_of_tag k45 q5 (tag_ne ap.c)
    refine ⟨one_get fun y hy=>e7 _ _ b4p (s6 _ _ hy),?_⟩;conv=>whnf
    refine Af rfl rfl rfl (k7) rfl (coreCells {c with snap:=⟨x.si,x.st,x.sc,x.data⟩,log:=L,commit:=x.si} {cx with log:=lp,sd:=⟨a6,x.d.n,c6⟩}) rfl fun h8 t8 k8 a8 e8=>?_;conv=>whnf
    refine ⟨one_get fun y hy=>e8 _ _ b4p (e7 _ _ b4p (s6 _ _ hy)),?_⟩;conv=>whnf
    have tt:=t7.trans t8
    have k48:=e8 _ _ b4p (e7 _ _ b4p (s6 _ _ k45))
    have k18:=tt.get (tag_ne ap.c) (s6 _ _ k15)
    refine Ab rfl k48 rfl rfl ?_;conv=>whnf
    have okd:Sl h8 t3 x.d.a x.d.n x.d.c 1 (bytesV x.data):=(ok.sd.sub s6).keepT tt (fun c=>tn3 (by rw [c];simp))
    refine ACalls.mono (cloned_any h8 (oo,6) (fun c=>ap.d (congrArg Prod.fst c)) (i:=x.si) (tm:=x.st) (cr:=x.sc) (d:=x.d) okd hdn) ?_
    rintro v h9 ⟨a9,c9,rfl,ow9,s9⟩
    conv=>whnf
    refine Ae rfl rfl rfl ((s9 _ _ k8)) rfl (coreCells (c.installed ⟨x.si,x.st,x.sc,x.data⟩ L) {cx with log:=lp,sd:=⟨a6,x.d.n,c6⟩,ox:={cx.ox with od:=⟨a9,x.d.n,c9⟩}}) rfl fun hA tA kA aA eA=>?_;conv=>whnf
    have k1A:=eA _ _ (ne_of_tag (s9 _ _ k18) (s9 _ _ k8) (tag_ne ap.c)) (s9 _ _ k18)
    have go:∀ (t:Tag) b y,t≠(o,0)→h5 b=some (t,y)→hA b=some (t,y):=fun t b y ht e=>tA _ _ _ ht (s9 _ _ (tt _ _ _ ht (s6 _ _ e)))
    have neo:∀ r s:Nat,((oo,r):Tag)≠(o,s):=fun r s c=>ap.a (congrArg Prod.fst c).symm
    have qA:CoreX 81 LA hA p o oo (c.installed ⟨x.si,x.st,x.sc,x.data⟩ L) {cx with log:=lp,sd:=⟨a6,x.d.n,c6⟩,ox:={cx.ox with od:=⟨a9,x.d.n,c9⟩}}:=by
     refine ⟨kA,((ow6.keepT tt (by simp)).sub s9).keepT tA (by simp),Moves.move l5 fun b t y ht e=>go t b y (fun c=>by rw [c] at ht;simp at ht) e,rd5.move fun b y e=>go _ b y (by simp) e,?_⟩
     refine ⟨ow9.keepT tA (neo 6 0),o5.oe.move fun b y e=>go _ b y (neo 1 0) e,fun y hy=>Own.move (o5.ed y hy) fun b y e=>go _ b y (neo 2 0) e,o5.ea,o5.es,o5.op.move fun b y e=>go _ b y (neo 3 0) e,fun i y hy=>(o5.ps i y hy).move fun b t z ht hr e=>go t b z (fun c=>by rw [c] at ht;exact ap.a ht) e,o5.pa,o5.qr.move fun b y e=>go _ b y (neo 7 0) e⟩
    have kkA:Keeps [o,o+1,oo] h hA:=(s3.keeps _).trans (kk5.trans fun b t y ht e=>go t b y (fun c=>ht (by rw [c];simp)) e)
    refine Am (hA) [10] (Sub.refl _) (by decide +kernel) ?_;conv=>whnf
    refine Aa rfl k1A rfl ?_
    refine Aa rfl qA.str rfl ?_
    refine Aa rfl k1A rfl ?_;conv=>whnf
    refine ACalls.mono (say_any ap.a ap.b ap.c ap.d ⟨_,qA⟩ x.src {post1 with kind:=6,index:=x.si,hint:=x.hint} (made0 rfl rfl rfl rfl) hp) ?_;rintro _ hB ⟨rfl,kB,kkB⟩;conv=>whnf
    exact ⟨rfl,kB,kkA.trans (kkB.mono (by simp))⟩
   ·refine Ac (hc) ?_;conv=>whnf
    have hLn:L=lnew x.si x.st:=hL.trans (if_neg fun c=>hc c.2)
    refine Aa rfl k44 rfl ?_
    refine Aa rfl k44 rfl ?_;conv=>whnf
    refine ACalls.mono (New_c h4 (o+1) (by omega) x.si x.st) ?_
    rintro v h4' (⟨_,lp,rfl,l4',s4'⟩ | ⟨hb',_⟩)
    ·conv=>whnf
     refine Af rfl rfl rfl ((s4' _ _ q4)) rfl (coreCells {c with log:=L} {cx with log:=lp}) rfl fun h5 t5 q5 a5 e5=>?_;conv=>whnf
     have k45:=t5.get (tag_ne ap.c) (s4' _ _ k44)
     have k15:=t5.get (tag_ne ap.c) (s4' _ _ k14)
     have kk5:Keeps [o,o+1,oo] h3 h5:=KK4.trans ((s4'.keeps _).trans (t5.keep.keeps (by simp)))
     have l5:LA h5 lp (o+1) L:=by rw [hLn];exact KeepT.log l4' t5
     have rd5:=(rd4.move fun _ _ e=>s4' _ _ e).keepT t5 (by simp)
     have o5:=(o4.move fun b t y _ e=>s4' _ _ e).keepT ap.a t5
     obtain ⟨⟨t1,t2,t3,ok,tn1,tn2,tn3⟩,_,_,_,_⟩:=g3.keeps kk5
     refine An ((one h5 b4)) [] [0,1,2,4,5,3,6,7,8,9,10,11] (one_sub _ _) (by decide +kernel) ?_;conv=>whnf
     refine Ab rfl ((one_at _ _).trans k45) rfl rfl ?_
     refine Aa rfl ((one_at _ _).trans k45) rfl ?_;conv=>whnf
     refine ACalls.mono (cloned_any h5 (o,3) (fun c=>ap.c (congrArg Prod.fst c)) (i:=x.si) (tm:=x.st) (cr:=x.sc) (d:=x.d) ok.sd hdn) ?_
     rintro v h6 ⟨a6,c6,rfl,ow6,s6⟩
     refine ⟨(one_sub _ _).trans s6,?_⟩;conv=>whnf
     refine Ae rfl rfl rfl ((s6 _ _ q5)) rfl (coreCells {c with snap:=⟨x.si,x.st,x.sc,x.data⟩,log:=L} {cx with log:=lp,sd:=⟨a6,x.d.n,c6⟩}) rfl fun h7 t7 k7 a7 e7=>?_;conv=>whnf
     have b4p:b4≠p:=ne_of_tag k45 q5 (tag_ne ap.c)
     refine ⟨one_get fun y hy=>e7 _ _ b4p (s6 _ _ hy),?_⟩;conv=>whnf
     refine Af rfl rfl rfl (k7) rfl (coreCells {c with snap:=⟨x.si,x.st,x.sc,x.data⟩,log:=L,commit:=x.si} {cx with log:=lp,sd:=⟨a6,x.d.n,c6⟩}) rfl fun h8 t8 k8 a8 e8=>?_;conv=>whnf
     refine ⟨one_get fun y hy=>e8 _ _ b4p (e7 _ _ b4p (s6 _ _ hy)),?_⟩;conv=>whnf
     have tt:=t7.trans t8
     have k48:=e8 _ _ b4p (e7 _ _ b4p (s6 _ _ k45))
     have k18:=tt.get (tag_ne ap.c) (s6 _ _ k15)
     refine Ab rfl k48 rfl rfl ?_;conv=>whnf
     have okd:Sl h8 t3 x.d.a x.d.n x.d.c 1 (bytesV x.data):=(ok.sd.sub s6).keepT tt (fun c=>tn3 (by rw [c];simp))
     refine ACalls.mono (cloned_any h8 (oo,6) (fun c=>ap.d (congrArg Prod.fst c)) (i:=x.si) (tm:=x.st) (cr:=x.sc) (d:=x.d) okd hdn) ?_
     rintro v h9 ⟨a9,c9,rfl,ow9,s9⟩
     conv=>whnf
     refine Ae rfl rfl rfl ((s9 _ _ k8)) rfl (coreCells (c.installed ⟨x.si,x.st,x.sc,x.data⟩ L) {cx with log:=lp,sd:=⟨a6,x.d.n,c6⟩,ox:={cx.ox with od:=⟨a9,x.d.n,c9⟩}}) rfl fun hA tA kA aA eA=>?_;conv=>whnf
     have k1A:=eA _ _ (ne_of_tag (s9 _ _ k18) (s9 _ _ k8) (tag_ne ap.c)) (s9 _ _ k18)
     have go:∀ (t:Tag) b y,t≠(o,0)→h5 b=some (t,y)→hA b=some (t,y):=fun t b y ht e=>tA _ _ _ ht (s9 _ _ (tt _ _ _ ht (s6 _ _ e)))
     have neo:∀ r s:Nat,((oo,r):Tag)≠(o,s):=fun r s c=>ap.a (congrArg Prod.fst c).symm
     have qA:CoreX 81 LA hA p o oo (c.installed ⟨x.si,x.st,x.sc,x.data⟩ L) {cx with log:=lp,sd:=⟨a6,x.d.n,c6⟩,ox:={cx.ox with od:=⟨a9,x.d.n,c9⟩}}:=by
      refine ⟨kA,((ow6.keepT tt (by simp)).sub s9).keepT tA (by simp),Moves.move l5 fun b t y ht e=>go t b y (fun c=>by rw [c] at ht;simp at ht) e,rd5.move fun b y e=>go _ b y (by simp) e,?_⟩
      refine ⟨ow9.keepT tA (neo 6 0),o5.oe.move fun b y e=>go _ b y (neo 1 0) e,fun y hy=>Own.move (o5.ed y hy) fun b y e=>go _ b y (neo 2 0) e,o5.ea,o5.es,o5.op.move fun b y e=>go _ b y (neo 3 0) e,fun i y hy=>(o5.ps i y hy).move fun b t z ht hr e=>go t b z (fun c=>by rw [c] at ht;exact ap.a ht) e,o5.pa,o5.qr.move fun b y e=>go _ b y (neo 7 0) e⟩
     have kkA:Keeps [o,o+1,oo] h hA:=(s3.keeps _).trans (kk5.trans fun b t y ht e=>go t b y (fun c=>ht (by rw [c];simp)) e)
     refine Am (hA) [10] (Sub.refl _) (by decide +kernel) ?_;conv=>whnf
     refine Aa rfl k1A rfl ?_
     refine Aa rfl qA.str rfl ?_
     refine Aa rfl k1A rfl ?_;conv=>whnf
     refine ACalls.mono (say_any ap.a ap.b ap.c ap.d ⟨_,qA⟩ x.src {post1 with kind:=6,index:=x.si,hint:=x.hint} (made0 rfl rfl rfl rfl) hp) ?_;rintro _ hB ⟨rfl,kB,kkB⟩;conv=>whnf
     exact ⟨rfl,kB,kkA.trans (kkB.mono (by simp))⟩
    ·rw [hb] at hb';cases hb'
  ·rw [Bool.eq_false_iff.2 hh] at hcall
   refine C2 (hcall) ?_;conv=>whnf
   refine ⟨two_sub _ _ _,?_⟩;conv=>whnf
   have hLn:L=lnew x.si x.st:=hL.trans (if_neg fun c=>hh c.1)
   refine Aa rfl k4 rfl ?_
   refine Aa rfl k4 rfl ?_;conv=>whnf
   refine ACalls.mono (New_c h3 (o+1) (by omega) x.si x.st) ?_
   rintro v h4' (⟨_,lp,rfl,l4',s4'⟩ | ⟨hb',_⟩)
   ·conv=>whnf
    refine Af rfl rfl rfl ((s4' _ _ q.str)) rfl (coreCells {c with log:=L} {cx with log:=lp}) rfl fun h5 t5 q5 a5 e5=>?_;conv=>whnf
    have k45:=t5.get (tag_ne ap.c) (s4' _ _ k4)
    have k15:=t5.get (tag_ne ap.c) (s4' _ _ k13)
    have kk5:Keeps [o,o+1,oo] h3 h5:=(Keeps.refl _ h3).trans ((s4'.keeps _).trans (t5.keep.keeps (by simp)))
    have l5:LA h5 lp (o+1) L:=by rw [hLn];exact KeepT.log l4' t5
    have rd5:=(q.rd.move fun _ _ e=>s4' _ _ e).keepT t5 (by simp)
    have o5:=(q.out.move fun b t y _ e=>s4' _ _ e).keepT ap.a t5
    obtain ⟨⟨t1,t2,t3,ok,tn1,tn2,tn3⟩,_,_,_,_⟩:=g3.keeps kk5
    refine An ((one h5 b4)) [] [0,1,2,4,5,3,6,7,8,9,10,11] (one_sub _ _) (by decide +kernel) ?_;conv=>whnf
    refine Ab rfl ((one_at _ _).trans k45) rfl rfl ?_
    refine Aa rfl ((one_at _ _).trans k45) rfl ?_;conv=>whnf
    refine ACalls.mono (cloned_any h5 (o,3) (fun c=>ap.c (congrArg Prod.fst c)) (i:=x.si) (tm:=x.st) (cr:=x.sc) (d:=x.d) ok.sd hdn) ?_
    rintro v h6 ⟨a6,c6,rfl,ow6,s6⟩
    refine ⟨(one_sub _ _).trans s6,?_⟩;conv=>whnf
    refine Ae rfl rfl rfl ((s6 _ _ q5)) rfl (coreCells {c with snap:=⟨x.si,x.st,x.sc,x.data⟩,log:=L} {cx with log:=lp,sd:=⟨a6,x.d.n,c6⟩}) rfl fun h7 t7 k7 a7 e7=>?_;conv=>whnf
    have b4p:b4≠p:=ne_of_tag k45 q5 (tag_ne ap.c)
    refine ⟨one_get fun y hy=>e7 _ _ b4p (s6 _ _ hy),?_⟩;conv=>whnf
    refine Af rfl rfl rfl (k7) rfl (coreCells {c with snap:=⟨x.si,x.st,x.sc,x.data⟩,log:=L,commit:=x.si} {cx with log:=lp,sd:=⟨a6,x.d.n,c6⟩}) rfl fun h8 t8 k8 a8 e8=>?_;conv=>whnf
    refine ⟨one_get fun y hy=>e8 _ _ b4p (e7 _ _ b4p (s6 _ _ hy)),?_⟩;conv=>whnf
    have tt:=t7.trans t8
    have k48:=e8 _ _ b4p (e7 _ _ b4p (s6 _ _ k45))
    have k18:=tt.get (tag_ne ap.c) (s6 _ _ k15)
    refine Ab rfl k48 rfl rfl ?_;conv=>whnf
    have okd:Sl h8 t3 x.d.a x.d.n x.d.c 1 (bytesV x.data):=(ok.sd.sub s6).keepT tt (fun c=>tn3 (by rw [c];simp))
    refine ACalls.mono (cloned_any h8 (oo,6) (fun c=>ap.d (congrArg Prod.fst c)) (i:=x.si) (tm:=x.st) (cr:=x.sc) (d:=x.d) okd hdn) ?_
    rintro v h9 ⟨a9,c9,rfl,ow9,s9⟩
    conv=>whnf
    refine Ae rfl rfl rfl ((s9 _ _ k8)) rfl (coreCells (c.installed ⟨x.si,x.st,x.sc,x.data⟩ L) {cx with log:=lp,sd:=⟨a6,x.d.n,c6⟩,ox:={cx.ox with od:=⟨a9,x.d.n,c9⟩}}) rfl fun hA tA kA aA eA=>?_;conv=>whnf
    have k1A:=eA _ _ (ne_of_tag (s9 _ _ k18) (s9 _ _ k8) (tag_ne ap.c)) (s9 _ _ k18)
    have go:∀ (t:Tag) b y,t≠(o,0)→h5 b=some (t,y)→hA b=some (t,y):=fun t b y ht e=>tA _ _ _ ht (s9 _ _ (tt _ _ _ ht (s6 _ _ e)))
    have neo:∀ r s:Nat,((oo,r):Tag)≠(o,s):=fun r s c=>ap.a (congrArg Prod.fst c).symm
    have qA:CoreX 81 LA hA p o oo (c.installed ⟨x.si,x.st,x.sc,x.data⟩ L) {cx with log:=lp,sd:=⟨a6,x.d.n,c6⟩,ox:={cx.ox with od:=⟨a9,x.d.n,c9⟩}}:=by
     refine ⟨kA,((ow6.keepT tt (by simp)).sub s9).keepT tA (by simp),Moves.move l5 fun b t y ht e=>go t b y (fun c=>by rw [c] at ht;simp at ht) e,rd5.move fun b y e=>go _ b y (by simp) e,?_⟩
     refine ⟨ow9.keepT tA (neo 6 0),o5.oe.move fun b y e=>go _ b y (neo 1 0) e,fun y hy=>Own.move (o5.ed y hy) fun b y e=>go _ b y (neo 2 0) e,o5.ea,o5.es,o5.op.move fun b y e=>go _ b y (neo 3 0) e,fun i y hy=>(o5.ps i y hy).move fun b t z ht hr e=>go t b z (fun c=>by rw [c] at ht;exact ap.a ht) e,o5.pa,o5.qr.move fun b y e=>go _ b y (neo 7 0) e⟩
    have kkA:Keeps [o,o+1,oo] h hA:=(s3.keeps _).trans (kk5.trans fun b t y ht e=>go t b y (fun c=>ht (by rw [c];simp)) e)
    refine Am (hA) [10] (Sub.refl _) (by decide +kernel) ?_;conv=>whnf
    refine Aa rfl k1A rfl ?_
    refine Aa rfl qA.str rfl ?_
    refine Aa rfl k1A rfl ?_;conv=>whnf
    refine ACalls.mono (say_any ap.a ap.b ap.c ap.d ⟨_,qA⟩ x.src {post1 with kind:=6,index:=x.si,hint:=x.hint} (made0 rfl rfl rfl rfl) hp) ?_;rintro _ hB ⟨rfl,kB,kkB⟩;conv=>whnf
    exact ⟨rfl,kB,kkA.trans (kkB.mono (by simp))⟩
   ·rw [hb] at hb';cases hb'
 ·refine Ad (c1) ?_;conv=>whnf
  rw [CoreM.install_no (p:=x.abs) c1]
  refine Am (h3) [10] (Sub.refl _) (by decide +kernel) ?_;conv=>whnf
  refine Aa rfl k13 rfl ?_
  refine Aa rfl q.str rfl ?_
  refine Aa rfl k13 rfl ?_;conv=>whnf
  refine ACalls.mono (say_any ap.a ap.b ap.c ap.d ⟨_,q⟩ x.src {post1 with kind:=6,index:=c.commit,hint:=x.hint} (made0 rfl rfl rfl rfl) hp) ?_;rintro _ hB ⟨rfl,kB,kkB⟩;conv=>whnf
  exact ⟨rfl,kB,(s3.keeps _).trans (kkB.mono (by simp))⟩
theorem fresh_of {L:LG} {l:List Abs} {k:Nat} (h1:∀ j e,j<k→l[j]? = some e→decide ((L.term e.2.1).2=0∧(L.term e.2.1).1=e.1)=true) (h2:k=l.length∨∃ e,l[k]? = some e∧decide ((L.term e.2.1).2=0∧(L.term e.2.1).1=e.1)=false):L.fresh l=l.drop k:=by
 induction l generalizing k with
 | nil=>simp [LG.fresh]
 | cons e r ih =>
  cases k with
  | zero =>
   rcases h2 with h2 | ⟨e',he,hf⟩
   ·simp at h2
   ·simp at he;subst he
    unfold LG.fresh
    rw [if_neg (by simpa using hf)];rfl
  | succ k =>
   have h0:=h1 0 e (by omega) rfl
   unfold LG.fresh
   rw [if_pos (by simpa using h0)]
   exact ih (fun j e' hj he=>h1 (j+1) e' (by omega) (by simpa using he)) (h2.imp (by simp) (fun ⟨e',he,hf⟩=>⟨e',by simpa using he,hf⟩))
def CoreM.appendOk (c:CoreM) (p:PostM) (l:List Abs):CoreM :=
  let stop:=p.index+p.entries.length
  let d:=c.appendRest l
  let m:=if stop<p.commit then stop else p.commit
  ({d with commit:=if d.commit<m then m else d.commit}).say p.src {post0 with kind:=4,ok:=true,index:=stop,hint:=p.hint}
def CoreM.appendNo (c:CoreM) (p:PostM) (i:Int):CoreM:=c.say p.src {post0 with kind:=4,index:=if c.log.last.1<i-1 then c.log.last.1 else i-1,hint:=p.hint}
def aList (c:CoreM) (p:PostM):List Abs:=if p.index<c.log.bi then p.entries.drop (c.log.bi-p.index).toNat else p.entries
def aIndex (c:CoreM) (p:PostM):Int:=if p.index<c.log.bi then c.log.bi else p.index
def aTerm (c:CoreM) (p:PostM):Int:=if p.index<c.log.bi then c.log.bt else p.logTerm
theorem CoreM.append_eq (c:CoreM) (p:PostM):c.append p=if c.has (aIndex c p) (aTerm c p)=false∨headLow (aTerm c p) (aList c p)=true then c.appendNo p (aIndex c p) else c.appendOk p (aList c p):=by
 unfold CoreM.append aList aIndex aTerm CoreM.appendNo CoreM.appendOk
 by_cases h:p.index<c.log.bi <;> simp [h]
theorem appendRest_nil {c:CoreM} {l:List Abs} (h:c.log.fresh l=[]):c.appendRest l=c:=by unfold CoreM.appendRest;rw [h]
def CoreM.cutAt (c:CoreM) (e:Abs):CoreM:=if e.2.1≤c.log.last.1 then {c with log:=(c.log.cut e.2.1).2,out:={c.out with cut:=e.2.1}} else c
theorem appendRest_cons {c:CoreM} {l:List Abs} {e:Abs} {r:List Abs} (h:c.log.fresh l=e::r):c.appendRest l={c.cutAt e with log:=((c.cutAt e).log.append (e::r)).2,out:={(c.cutAt e).out with entries:=(c.cutAt e).out.entries++e::r}}:=by
 unfold CoreM.appendRest CoreM.cutAt;rw [h]
def few (h:Heap) (l:List Nat):Heap:=fun c=>if c∈l then h c else none
theorem few_sub (h:Heap) (l:List Nat):Sub (few h l) h:=by
 intro c x e;unfold few at e;split at e
 ·exact e
 ·cases e
theorem few_get {h h':Heap} {l:List Nat} (k:∀ c∈l,∀ x,h c=some x→h' c=some x):Sub (few h l) h':=by
 intro c x e;unfold few at e;split at e
 ·exact k c (by assumption) _ e
 ·cases e
theorem few_at {h:Heap} {l:List Nat} {c:Nat} (m:c∈l):few h l c=h c:=by unfold few;rw [if_pos m]
theorem Ents.from {h:Heap} {t td:Tag} {a:Option Addr} {n c:Nat} {es:List EH} (X:Ents h t td a n c es) {l:Nat} (hl:l≤n):Ents h t td (slBase a l c 4) (n-l) (c-l) (es.drop l):=by
 refine ⟨?_,fun e he=>X.good e (List.mem_of_mem_drop he),fun e he=>X.small e (List.mem_of_mem_drop he)⟩
 have:=X.sl.slice (l:=l) (m:=n) (x:=c) hl (Nat.le_refl _) X.sl.le
 have hx:=X.len
 rw [encs_drop] at this
 rw [List.take_of_length_le] at this
 ·exact this
 ·rw [encs_length,List.length_drop];omega
theorem CoreX.pushE {T:TypeId} {LP:Heap→Nat→Nat→LG→Prop} [Moves LP] {h8 h11 h12:Heap} {p o oo:Nat} {c:CoreM} {cx:CX} (ap:Apart o oo) (q:CoreX T LP h8 p o oo c cx) {en:EH} {a11:Option Addr} {c11:Nat}
  (t11:KeepT (oo,1) h8 h11) (ow:Own h11 (oo,1) 59 a11 (cx.ox.oe.n+1) c11 4 (encs cx.ox.es++en.cells)) (m:en.Mine h8 (oo,2)) (hn:en.n≤1200) (t12:KeepT (o,0) h11 h12)
  (k12:h12 p=some (row (o,0) (coreCells {c with out:={c.out with entries:=c.out.entries++[en.abs]}} {cx with ox:={cx.ox with oe:=⟨a11,cx.ox.oe.n+1,c11⟩,es:=cx.ox.es++[en]}}) T)) :
  CoreX T LP h12 p o oo {c with out:={c.out with entries:=c.out.entries++[en.abs]}} {cx with ox:={cx.ox with oe:=⟨a11,cx.ox.oe.n+1,c11⟩,es:=cx.ox.es++[en]}}:=by
 have ne1:∀ r:Nat,((o,r):Tag)≠(oo,1):=fun r c=>ap.a (congrArg Prod.fst c)
 have neo:∀ r s:Nat,((oo,r):Tag)≠(o,s):=fun r s c=>ap.a (congrArg Prod.fst c).symm
 refine ⟨k12,(q.sd.keepT t11 (ne1 3)).keepT t12 (by simp),KeepT.log (Moves.move q.log fun _ t _ ht e=>t11 _ _ _ (fun c=>by rw [c] at ht;exact ap.b ht.symm) e) t12,(q.rd.keepT t11 (ne1 4)).keepT t12 (by simp),?_⟩
 have go:∀ r:Nat,r≠1→∀ b y,h8 b=some ((oo,r),y)→h12 b=some ((oo,r),y):=fun r hr b y e=>t12.get (neo r 0) (t11.get (fun c=>hr (congrArg Prod.snd c)) e)
 have o8:=q.out
 refine ⟨o8.od.move fun _ _ e=>go 6 (by decide) _ _ e,?_,?_,?_,?_,o8.op.move fun _ _ e=>go 3 (by decide) _ _ e,fun i y hy=>(o8.ps i y hy).move fun b t z ht hr e=>?_,o8.pa,o8.qr.move fun _ _ e=>go 7 (by decide) _ _ e⟩
 ·have:=ow.keepT t12 (neo 1 0)
  rw [show encs (cx.ox.es++[en])=encs cx.ox.es++en.cells by simp [encs]]
  exact this
 ·intro y hy
  rcases List.mem_append.1 hy with hy | hy
  ·exact Own.move (o8.ed y hy) fun _ _ e=>go 2 (by decide) _ _ e
  ·rw [List.mem_singleton.1 hy]
   exact Own.move m fun _ _ e=>go 2 (by decide) _ _ e
 ·simp only [List.map_append,List.map_cons,List.map_nil,o8.ea]
 ·intro y hy
  rcases List.mem_append.1 hy with hy | hy
  ·exact o8.es y hy
  ·rw [List.mem_singleton.1 hy];exact hn
 ·obtain ⟨t1,t2⟩:=t
  simp only at ht hr;subst ht
  exact go t2 (by omega) b z e
theorem CoreX.set' {T:TypeId} {LP:Heap→Nat→Nat→LG→Prop} [Moves LP] {h h':Heap} {p o oo:Nat} {c c':CoreM} {x:CX} (k:CoreX T LP h p o oo c x) (ho:o≠oo) (t:KeepT (o,0) h h') (e:h' p=some (row (o,0) (coreCells c' x) T))
  (h2:c'.snap.data=c.snap.data:=by rfl) (h4:c'.log=c.log:=by rfl) (h6:c'.reads=c.reads:=by rfl)
  (h8:c'.out.snap.data=c.out.snap.data:=by rfl) (h9:c'.out.entries=c.out.entries:=by rfl) (h10:c'.out.posts=c.out.posts:=by rfl) (h11:c'.out.reads=c.out.reads:=by rfl) :
  CoreX T LP h' p o oo c' x:=by
 have q:=k.out.keepT ho t
 refine ⟨e,by rw [h2];exact k.sd.keepT t (by simp),by rw [h4];exact KeepT.log k.log t,by rw [h6];exact k.rd.keepT t (by simp),?_⟩
 exact ⟨by rw [h8];exact q.od,q.oe,q.ed,by rw [h9];exact q.ea,q.es,q.op,q.ps,by rw [h10];exact q.pa,by rw [h11];exact q.qr⟩
structure AIf (x:Post→Env→Heap→Prop) (K:Env→Heap→Prop) (Q:Post) (e:Env) (h:Heap):Prop where
  of ::
  out:∃ J:Env→Heap→Prop,x (thenP J Q) e h∧∀ e h,J e h→K e h
theorem Av {x:Post→Env→Heap→Prop} {K:Env→Heap→Prop} {Q:Post} {e:Env} {h:Heap} (k:x (thenP K Q) e h):AIf x K Q e h:=⟨⟨K,k,fun _ _ j=>j⟩⟩
theorem AIf.cut {x:Post→Env→Heap→Prop} {K:Env→Heap→Prop} {Q:Post} {e:Env} {h:Heap} (J:Env→Heap→Prop) (k:x (thenP J Q) e h) (g:∀ e h,J e h→K e h):AIf x K Q e h:=⟨⟨J,k,g⟩⟩
def meets:Code→Bool
  | .cond _ _ _=>true
  | .region _ ops d=>d || ops.toList.any fun o=>o.guard.isSome
  | .seq _ y=>meets y
  | .block _ x=>meets x
  | _=>false
def AJ (P:Program) (n:Nat):Code→Post→Env→Heap→Prop
  | .skip,Q,e,h=>Q .normal e h
  | .region _ ops draw,Q,e,h=>bif draw then ADrawn P n ops Q e h else AList P n ops Q ops.toList e h
  | .seq x y,Q,e,h=>bif meets x then AIf (AJ P n x) (AJ P n y Q) Q e h else AJ P n x (thenP (AJ P n y Q) Q) e h
  | .cond c x y,Q,e,h=>match e.ev c with
    | .bool t=>bif t then AJ P n x Q e h else AJ P n y Q e h
    | _=>False
  | .block id x,Q,e,h=>AJ P n x (blockP id Q) e h
  | .loop x,Q,e,h=>ALoop (AJ P n x) Q e h
  | .exit id,Q,e,h=>Q (.exit id) e h
  | .label _,Q,e,h=>Q .normal e h
  | .goto l,Q,e,h=>Q (.goto l) e h
  | .ret,Q,e,h=>Q .ret e h
  | _,_,_,_=>False
theorem AJ_wp {P:Program} {n:Nat} {β:Base} (hm:P.follows .mixedOrders=true):∀ (c:Code) (Q:Post) (e:Env) (h:Heap) (a:Act) (w:World),
  AJ P n c Q e h→Fits n e a→RelB β h w→c.wp P (lift β n Q) a w:=by
 intro c
 induction c with
 | skip=>intro Q e h a w k f r;exact wp_skip ⟨e,h,f,r,k⟩
 | region id ops draw =>
  intro Q e h a w k f r
  cases draw with
  | true=>exact ADrawn_wp hm k f r
  | false=>exact wp_region_list (AList_wp ops.toList e h a w k f r)
 | seq x y ihx ihy =>
  intro Q e h a w k f r
  have two:∀ J:Env→Heap→Prop,AJ P n x (thenP J Q) e h→(∀ e h,J e h→AJ P n y Q e h)→(Code.seq x y).wp P (lift β n Q) a w:=fun J k1 k2=>by
   refine wp_seq (wp_mono (ihx _ e h a w k1 f r) fun z a' w' q=>?_)
   cases z with
   | panic c=>exact q.elim
   | outgrown=>exact q.elim
   | normal=>obtain ⟨e',h',f',r',k'⟩:=q;exact ihy Q e' h' a' w' (k2 _ _ k') f' r'
   | _=>exact q
  unfold AJ at k
  cases hm:meets x with
  | true =>
   rw [hm] at k
   obtain ⟨⟨J,k1,k2⟩⟩:=k
   exact two J k1 k2
  | false =>
   rw [hm] at k
   exact two _ k fun _ _ j=>j
 | cond c x y ihx ihy =>
  intro Q e h a w k f r
  unfold AJ at k
  split at k
  ·rename_i t ht
   refine wp_cond (t:=t) (by rw [f.eval];exact ht) ?_
   cases t with
   | true=>exact ihx Q e h a w k f r
   | false=>exact ihy Q e h a w k f r
  ·exact k.elim
 | block id x ih =>
  intro Q e h a w k f r
  refine wp_block (wp_mono (ih _ e h a w k f r) fun z a' w' q=>?_)
  cases z with
  | panic c=>exact q.elim
  | outgrown=>exact q.elim
  | exit i =>
   obtain ⟨e',h',f',r',k'⟩:=q
   simp only [Exit.inBlock]
   by_cases hi:i=id
   ·subst hi
    rw [if_pos rfl]
    simp only [blockP,Nat.beq_refl,cond_true] at k'
    exact ⟨e',h',f',r',k'⟩
   ·rw [if_neg hi]
    have hb:Nat.beq i id=false:=by
     cases hh:Nat.beq i id with
     | false=>rfl
     | true=>exact absurd (Nat.eq_of_beq_eq_true hh) hi
    simp only [blockP,hb,cond_false] at k'
    exact ⟨e',h',f',r',k'⟩
  | _=>exact q
 | loop x ih =>
  intro Q e h a w k f r
  obtain ⟨⟨I,μ,h0,round⟩⟩:=k
  refine wp_loop (fun a w=>∃ e h,Fits n e a∧RelB β h w∧I e h) (fun a _=>μ (fun t=>a.tmps.getD t undef)) ⟨e,h,f,r,h0⟩ ?_
  rintro a w ⟨e,h,f,r,hI⟩
  refine wp_mono (ih _ e h a w (round e h hI) f r) fun z a' w' q=>?_
  cases z with
  | panic c=>exact q.elim
  | outgrown=>exact q.elim
  | normal =>
   obtain ⟨e',h',f',r',k',hlt⟩:=q
   refine ⟨⟨e',h',f',r',k'⟩,?_⟩
   have e1:(fun t=>a.tmps.getD t undef)=e:=funext f.getD
   have e2:(fun t=>a'.tmps.getD t undef)=e':=funext f'.getD
   simp only [e1,e2]
   exact hlt
  | _=>exact q
 | exit id=>intro Q e h a w k f r;exact wp_exit ⟨e,h,f,r,k⟩
 | label l=>intro Q e h a w k f r;exact wp_label ⟨e,h,f,r,k⟩
 | goto l=>intro Q e h a w k f r;exact wp_goto ⟨e,h,f,r,k⟩
 | ret=>intro Q e h a w k f r;exact wp_ret ⟨e,h,f,r,k⟩
 | rangeFunc=>intro Q e h a w k f r;exact k.elim
 | scope=>intro Q e h a w k f r;exact k.elim
 | refuse=>intro Q e h a w k f r;exact k.elim
theorem At {P:Program} {f:FuncId} {fn:Func} {c:Code} {args:Array Value} {h:Heap} {R:Value→Heap→Prop} (hm:P.follows .mixedOrders=true)
  (hf : P.funcs[f]? = some fn) (hb : fn.body = some c) (hnm : (fn.name == "runtime.NumGoroutine") = false) {n : Nat} (hn : fn.ntmps = n) {rs : List ResultVar} (hrs : fn.results = rs.toArray) (hsz : Nat.ble args.size n = true)
  (k:AJ P n c (ABody P rs R) (env0 args) h):ACalls P f args h R:=by
 subst hn
 obtain rfl:fn.results.toList=rs:=by rw [hrs]
 have hsz:=Nat.le_of_ble_eq_true hsz
 refine ⟨⟨fn,hf,by rw [hb];rfl,hnm⟩,fun β w hr=>calls_of_wp hf hb ?_⟩
 have f0:Fits fn.ntmps (env0 args) {tmps:=args++Array.replicate (fn.ntmps-args.size) undef,defers:=[]}:=by
  refine ⟨by simp;omega,?_,?_,rfl⟩
  ·intro t ht
   simp only [env0]
   by_cases hlt:t<args.size
   ·rw [Array.getElem?_append_left hlt]
    simp [hlt]
   ·rw [Array.getElem?_append_right (by omega)]
    have:args.getD t undef=undef:=by simp [hlt]
    rw [this,Array.getElem?_replicate,if_pos (by omega)]
  ·intro t ht
   simp only [env0]
   have:¬ t<args.size:=by omega
   simp [this]
 refine wp_mono (AJ_wp hm c _ _ h _ w k f0 hr) fun x a w' q=>?_
 cases x with
 | panic c=>exact q.elim
 | outgrown=>exact q.elim
 | exit id=>obtain ⟨e,h',f',r',k'⟩:=q;exact k'.elim
 | goto id=>obtain ⟨e,h',f',r',k'⟩:=q;exact k'.elim
 | normal =>
  obtain ⟨e,h',f',r',k'⟩:=q
  obtain ⟨v,kv,hv⟩:=ARes_sound (fn:=fn) (K:=fun v=>R v h') f' k'
  exact ⟨f'.defers,v,hv w' r'.rel,v,h',rfl,r',kv⟩
 | ret =>
  obtain ⟨e,h',f',r',k'⟩:=q
  obtain ⟨v,kv,hv⟩:=ARes_sound (fn:=fn) (K:=fun v=>R v h') f' k'
  exact ⟨f'.defers,v,hv w' r'.rel,v,h',rfl,r',kv⟩
theorem Ents.keeps {h h':Heap} {t td:Tag} {os:List Nat} {a:Option Addr} {n c:Nat} {es:List EH} (X:Ents h t td a n c es) (k:Keeps os h h') (h1:t.1∉os) (h2:td.1∉os):Ents h' t td a n c es :=
 ⟨X.sl.keeps k h1,fun e he=>Sl.keeps (X.good e he) k h2,X.small⟩
theorem append_any {h:Heap} {p o oo:Nat} {c:CoreM} (ap:Apart o oo) (k:PCore h p o oo c) (lk:LogOk c) (x:PH) (g:Given h o oo x) (hx0:0≤x.index) (hx1:x.index≤9007199254740991) (he:x.es.length≤8) (hsm:∀ e∈x.es,e.n≤1200)
  (hroom:(c.log.es.length+8)*48≤140737488355328) (hoe:c.out.entries.length≤1000000) (hp:c.out.posts.length≤1000000000) :
  ACalls PR 138 #[Ptr p, .agg x.cells.toArray] h (fun v h'=>v = .tuple #[]∧PCore h' p o oo (c.append x.abs)∧Keeps [o,o+1,oo] h h'):=by
 obtain ⟨cx,k⟩:=k
 have hlo:=lk.lo.lo
 have htop:=lk.lo.top
 have hlast:=lk.lo.last
 obtain ⟨⟨t1,t2,t3,ok,tn1,tn2,tn3⟩,hby,_,_,hn1⟩:=g
 have hxl:x.es.length=x.e.n:=ok.len.1
 rw [CoreM.append_eq]
 refine At mix Tryz.func138 rfl rfl Tryz.ntmps138 Tryz.results138 rfl ?_;conv=>whnf
 refine Al (0,1) ([Ptr p]) rfl fun b2 h1 n1 s1 k1=>?_;conv=>whnf
 refine Al (0,1) (x.cells) rfl fun b3 h2 n2 s2 k3=>?_;conv=>whnf
 have k2:=s2 _ _ k1
 have q:=k.sub (s1.trans s2)
 have X2:=ok.es.sub (s1.trans s2)
 have s12:=s1.trans s2
 clear s1 s2 k1 n1 n2
 obtain ⟨stop,hstop⟩:∃ stop:Int,stop=x.index+x.e.n:=⟨_,rfl⟩
 refine Aa rfl k3 rfl ?_
 refine Aa rfl k3 rfl ?_;conv=>whnf
 refine Ag (by omega) (by omega) (rfl) ?_;conv=>whnf
 rw [← hstop]
 refine Av ?_;conv=>whnf
 refine Am (h2) [] (Sub.refl _) (by decide +kernel) ?_;conv=>whnf
 refine Aa rfl k3 rfl ?_
 refine Aa rfl k3 rfl ?_
 refine Aa rfl k3 rfl ?_;conv=>whnf
 obtain ⟨li,hli⟩:∃ li,li=aIndex c x.abs:=⟨_,rfl⟩
 obtain ⟨lt,hlt⟩:∃ lt,lt=aTerm c x.abs:=⟨_,rfl⟩
 obtain ⟨LL,hLL⟩:∃ LL,LL=aList c x.abs:=⟨_,rfl⟩
 have hlb:0≤li∧li≤9007199254740992:=by
  have:x.abs.index=x.index:=rfl
  rw [hli];unfold aIndex;split <;> omega
 rw [← hli,← hlt,← hLL]
 refine AIf.cut (fun e h'=>∃ (e0:Env) (la:Option Addr) (ln lc:Nat) (les:List EH),e=updL 184 e0 [(2,Ptr b2),(3,Ptr b3),(4,I stop),(5,I li),(6,I lt),(7, .slice la ln lc)]∧h2=h'∧Ents h2 t1 t2 la ln lc les∧les.map EH.abs=LL∧(∀ e∈les,e.n≤1200)∧ln≤8) ?_ ?_
 ·conv=>whnf
  refine Aa rfl k2 rfl ?_
  refine Aa rfl q.str rfl ?_;conv=>whnf
  refine C2 (First_c q.log lk.lo) ?_;conv=>whnf
  refine Ag (r':=c.log.bi) (by omega) (by omega) (by omega) ?_;conv=>whnf
  by_cases c1:x.index<c.log.bi
  ·refine Ac (c1) ?_;conv=>whnf
   rw [show aIndex c x.abs=c.log.bi from if_pos c1] at hli
   rw [show aTerm c x.abs=c.log.bt from if_pos c1] at hlt
   rw [show aList c x.abs=(x.es.map EH.abs).drop (c.log.bi-x.index).toNat from if_pos c1] at hLL
   obtain ⟨kd,hkd⟩:∃ kd:Nat,kd=if (c.log.bi-x.index).toNat<x.e.n then (c.log.bi-x.index).toNat else x.e.n:=⟨_,rfl⟩
   have hkd1:kd≤x.e.n:=by rw [hkd];split <;> omega
   have hdrop:(x.es.map EH.abs).drop (c.log.bi-x.index).toNat=(x.es.drop kd).map EH.abs:=by
    rw [← List.map_drop,hkd]
    split
    ·rfl
    ·rw [List.drop_of_length_le (by omega),List.drop_of_length_le (by omega)]
   rw [hdrop] at hLL
   refine Ag (by omega) (by omega) (rfl) ?_;conv=>whnf
   refine Aq (show _=(kd:Int) from ?_) ?_
   ·rw [hkd];split <;> split <;> omega
   conv=>whnf
   refine ASlc.from (z:=4) (l:=kd) rfl hkd1 X2.sl.le rfl rfl ?_;conv=>whnf
   refine Aa rfl k2 rfl ?_
   refine Aa rfl q.str rfl ?_;conv=>whnf
   refine C2 (Term_c q.log lk.lo c.log.bi) ?_;conv=>whnf
   rw [show (c.log.term c.log.bi).1=c.log.bt by unfold LG.term;rw [if_pos rfl],← hli,← hlt]
   exact ⟨_,_,_,_,_,Au ⟨rfl,rfl,rfl,rfl,rfl,rfl,trivial⟩,rfl,X2.from hkd1,hLL.symm,fun e he=>hsm e (List.mem_of_mem_drop he),by omega⟩
  ·refine Ad (c1) ?_;conv=>whnf
   rw [show aIndex c x.abs=x.index from if_neg c1] at hli
   rw [show aTerm c x.abs=x.logTerm from if_neg c1] at hlt
   rw [show aList c x.abs=x.es.map EH.abs from if_neg c1] at hLL
   rw [← hli,← hlt]
   exact ⟨_,_,_,_,_,Au ⟨rfl,rfl,rfl,rfl,rfl,rfl,trivial⟩,rfl,X2,hLL.symm,hsm,by omega⟩
 rintro e _ ⟨e1,la,ln,lc,les,rfl,rfl,XL,hLe,hls,hl8⟩
 have hll:les.length=ln:=XL.len
 clear hli hlt hLL
 subst hLe
 conv=>whnf
 refine Av ?_;conv=>whnf
 obtain ⟨R,hR⟩:∃ R,R=(!c.has li lt || headLow lt (les.map EH.abs)):=⟨_,rfl⟩
 refine AIf.cut (fun e h'=>∃ e0:Env,e=updL 184 e0 [(2,Ptr b2),(3,Ptr b3),(4,I stop),(5,I li),(6,I lt),(7, .slice la ln lc),(76, .bool R)]∧h2=h') ?_ ?_
 ·conv=>whnf
  refine Aa rfl k2 rfl ?_
  refine Aa rfl q.str rfl ?_;conv=>whnf
  have hcall:ACalls PR 122 #[Ptr cx.log,I li,I lt] h2 (fun v h'=>v = .bool (c.has li lt)∧h2=h'):=Has_c q.log lk.lo li lt
  cases hh:c.has li lt with
  | false =>
   rw [hh] at hcall hR
   refine C2 (hcall) ?_;conv=>whnf
   exact ⟨_,Au ⟨rfl,rfl,rfl,rfl,rfl,rfl,congrArg Value.bool hR.symm,trivial⟩,rfl⟩
  | true =>
   rw [hh] at hcall hR
   refine C2 (hcall) ?_;conv=>whnf
   by_cases hln:ln=0
   ·refine Ad ((by omega)) ?_;conv=>whnf
    rw [List.length_eq_zero_iff.1 (by omega:les.length=0)] at hR
    exact ⟨_,Au ⟨rfl,rfl,rfl,rfl,rfl,rfl,congrArg Value.bool hR.symm,trivial⟩,rfl⟩
   ·refine Ac ((by omega)) ?_;conv=>whnf
    obtain ⟨y0,hy0⟩:∃ y,les[0]? = some y:=⟨les[0]'(by omega),by simp⟩
    obtain ⟨yr,hyr⟩:∃ r,les=y0::r:=by
     cases hc:les with
     | nil=>rw [hc] at hy0;simp at hy0
     | cons z r=>rw [hc] at hy0;simp at hy0;exact ⟨r,by rw [hy0]⟩
    have hhl:headLow lt (les.map EH.abs)=decide (y0.term<lt):=by rw [hyr];rfl
    rw [hhl] at hR
    obtain ⟨bg,og,lg,Eg,fzg,ega,hbg,hcg⟩:=XL.sl.pos (by omega)
    have gi:lg[og+0*4]? = some (I y0.term):=by
     rw [get_of_take hcg (by omega)]
     exact encs_get hy0 (show 0<4 by omega)
    subst ega
    refine Ai (n:=ln) (z:=4) (j:=0) rfl (by omega) rfl rfl ?_;conv=>whnf
    refine Aa rfl hbg gi ?_;conv=>whnf
    refine ACmp.dec ?_;conv=>whnf
    exact ⟨_,Au ⟨rfl,rfl,rfl,rfl,rfl,rfl,congrArg Value.bool hR.symm,trivial⟩,rfl⟩
 rintro e _ ⟨e2,rfl,rfl⟩
 cases R with
 | true =>
  rw [if_pos (by
   cases hh:c.has li lt with
   | false=>exact .inl rfl
   | true=>rw [hh] at hR;exact .inr hR.symm)]
  conv=>whnf
  refine Aa rfl k2 rfl ?_
  refine Aa rfl q.str rfl ?_;conv=>whnf
  refine C2 (Last_c q.log lk.lo) ?_;conv=>whnf
  refine Aa rfl k2 rfl ?_
  refine Aa rfl k3 rfl ?_;conv=>whnf
  refine Ag (by omega) (by omega) (rfl) ?_;conv=>whnf
  refine Aq (rfl) ?_;conv=>whnf
  refine Aa rfl k3 rfl ?_;conv=>whnf
  refine ACalls.mono (say_any ap.a ap.b ap.c ap.d ⟨_,q⟩ x.src {post1 with kind:=4,index:=(if c.log.last.1<li-1 then c.log.last.1 else li-1),hint:=x.hint} (made0 rfl rfl rfl rfl) hp) ?_;rintro _ hB ⟨rfl,kB,kkB⟩;conv=>whnf
  exact ⟨rfl,kB,(s12.keeps _).trans (kkB.mono (by simp))⟩
 | false =>
 rw [if_neg (by
  have:=hR.symm
  rw [Bool.or_eq_false_iff,Bool.not_eq_false'] at this
  rw [this.1,this.2];simp)]
 conv=>whnf
 have A:AsksE 180 [Ptr b2] les (fun e => !c.has e.index e.term) h2:=by
  intro e he h' s
  refine Ar (As mix Tryz.func180 rfl rfl Tryz.ntmps180 Tryz.results180 rfl ?_);conv=>whnf
  refine Al (0,1) (e.cells) rfl fun b5 h5 n5 s5 k5=>?_;conv=>whnf
  refine Am (h5) [] (Sub.refl _) (by decide +kernel) ?_;conv=>whnf
  refine Aa rfl (s5 _ _ (s _ _ k2)) rfl ?_
  refine Aa rfl (s5 _ _ (s _ _ q.str)) rfl ?_
  refine Aa rfl k5 rfl ?_
  refine Aa rfl k5 rfl ?_;conv=>whnf
  refine C2 (Has_c (q.sub (s.trans s5)).log lk.lo e.index e.term) ?_;conv=>whnf
  refine ⟨Sub.refl _,?_⟩;conv=>whnf
  exact ⟨rfl,s5⟩
 refine ACalls.mono (IndexFuncE_any A XL (by omega)) ?_
 rintro v _ ⟨⟨kf,hkf,hpf,hk⟩,rfl⟩
 have hfr:c.log.fresh (les.map EH.abs)=(les.map EH.abs).drop kf:=fresh_of (fun j e hj hje=>by
   rw [List.getElem?_map] at hje
   cases hz:les[j]? with
   | none=>rw [hz] at hje;cases hje
   | some z =>
    rw [hz] at hje;cases hje
    have:=hpf j z hj hz
    show c.has z.index z.term=true
    simpa using this) (by
   rcases hk with ⟨hkn,_,e0,he0,hP⟩ | ⟨hkn,_⟩
   ·exact .inr ⟨e0.abs,by rw [List.getElem?_map,he0];rfl,by show c.has e0.index e0.term=false;simpa using hP⟩
   ·exact .inl (by rw [List.length_map];omega))
 obtain ⟨iv,rfl,hkk⟩:∃ iv:Int,v=I iv∧((kf<ln∧iv=kf∧∃ e0,les[kf]? = some e0∧(!c.has e0.index e0.term)=true)∨(kf=ln∧iv = -1)):=by
  rcases hk with ⟨a,b,d⟩ | ⟨a,b⟩
  ·exact ⟨kf,b, .inl ⟨a,rfl,d⟩⟩
  ·exact ⟨-1,b, .inr ⟨a,rfl⟩⟩
 conv=>whnf
 refine AIf.cut (fun e h'=>∃ (e0:Env) (cxd:CX),e=updL 184 e0 [(2,Ptr b2),(3,Ptr b3),(4,I stop)]∧CoreX 81 LA h' p o oo (c.appendRest (les.map EH.abs)) cxd∧Keeps [o,o+1,oo] h h'∧h' b2=some (row (0,1) [Ptr p] 27)∧h' b3=some (row (0,1) x.cells 49)) ?_ ?_
 ·conv=>whnf
  rcases hkk with ⟨hkn,rfl,e0,he0,hP⟩ | ⟨hkn,rfl⟩
  ·refine Ac ((by omega)) ?_;conv=>whnf
   refine ASlc.from (z:=4) (l:=kf) rfl (by omega) XL.sl.le rfl rfl ?_;conv=>whnf
   have XF:=XL.from (l:=kf) (by omega)
   generalize slBase la kf lc 4=fa at XF ⊢
   obtain ⟨fn,hfn⟩:∃ fn,fn=ln-kf:=⟨_,rfl⟩
   obtain ⟨fc,hfc⟩:∃ fc,fc=lc-kf:=⟨_,rfl⟩
   obtain ⟨fes,hfes⟩:∃ fes,fes=les.drop kf:=⟨_,rfl⟩
   rw [← hfn,← hfc,← hfes] at XF
   rw [← hfn,← hfc]
   have hfl:fes.length=fn:=XF.len
   have hfs:∀ y∈fes,y.n≤1200:=fun y hy=>hls y (by rw [hfes] at hy;exact List.mem_of_mem_drop hy)
   have he0':fes[0]? = some e0:=by rw [hfes,List.getElem?_drop,Nat.add_zero];exact he0
   obtain ⟨fr,hfr2⟩:∃ r,fes=e0::r:=by
    cases fes with
    | nil=>simp at he0'
    | cons z r=>simp at he0';exact ⟨r,by rw [he0']⟩
   have hfr3:c.log.fresh (les.map EH.abs)=e0.abs::fr.map EH.abs:=by rw [hfr,← List.map_drop,← hfes,hfr2];rfl
   have hfr4:fes.map EH.abs=e0.abs::fr.map EH.abs:=by rw [hfr2];rfl
   obtain ⟨bg,og,lg,Eg,fzg,ega,hbg,hcg⟩:=XF.sl.pos (by omega)
   have gi:lg[og+0*4+1]? = some (I e0.index):=by
    rw [Nat.add_assoc,get_of_take hcg (by omega),encs_get he0' (by omega)];rfl
   have hcut:c.cutAt e0.abs=if e0.index≤c.log.last.1 then {c with log:=(c.log.cut e0.index).2,out:={c.out with cut:=e0.index}} else c:=rfl
   obtain ⟨DCv,hDC⟩:∃ D:CoreM,D=c.cutAt e0.abs:=⟨_,rfl⟩
   have hrc:c.appendRest (les.map EH.abs)={({DCv with log:=(DCv.log.append (fes.map EH.abs)).2}:CoreM) with out:={({DCv with log:=(DCv.log.append (fes.map EH.abs)).2}:CoreM).out with entries:=({DCv with log:=(DCv.log.append (fes.map EH.abs)).2}:CoreM).out.entries++fes.map EH.abs}}:=by
    rw [appendRest_cons hfr3,hDC,hfr4]
   refine AIf.cut (fun e h'=>∃ e0:Env,e=updL 184 e0 [(2,Ptr b2),(3,Ptr b3),(4,I stop),(12, .slice fa fn fc)]∧CoreX 81 LA h' p o oo DCv cx∧Keeps [o,o+1,oo] h2 h') ?_ ?_
   ·conv=>whnf
    refine Aa rfl k2 rfl ?_
    refine Aa rfl q.str rfl ?_;conv=>whnf
    refine C2 (Last_c q.log lk.lo) ?_;conv=>whnf
    rw [ega]
    refine Ai (n:=fn) (z:=4) (j:=0) rfl (by omega) rfl rfl ?_;conv=>whnf
    refine Aa rfl hbg gi ?_;conv=>whnf
    by_cases cl:e0.index≤c.log.last.1
    ·refine Ac (cl) ?_;conv=>whnf
     rw [if_pos cl,← hDC] at hcut
     refine Av ?_;conv=>whnf
     refine Am (h2) [8] (Sub.refl _) (by decide +kernel) ?_;conv=>whnf
     refine Aa rfl k2 rfl ?_
     refine Aa rfl q.str rfl ?_;conv=>whnf
     refine Ai (n:=fn) (z:=4) (j:=0) rfl (by omega) rfl rfl ?_;conv=>whnf
     refine Aa rfl hbg gi ?_;conv=>whnf
     refine ACalls.mono (Cut_c q.log lk.lo e0.index) ?_;rintro _ h3 ⟨rfl,l3,kk3⟩;conv=>whnf
     have k23:=kk3.get (by simp) k2
     have q3:=kk3.get (by simp) q.str
     have hbg3:=kk3.get (fun c=>tn1 (by rw [c];simp)) hbg
     refine Am (h3) [8] (Sub.refl _) (by decide +kernel) ?_;conv=>whnf
     refine Aa rfl k23 rfl ?_;conv=>whnf
     refine Ai (n:=fn) (z:=4) (j:=0) rfl (by omega) rfl rfl ?_;conv=>whnf
     refine Aa rfl hbg3 gi ?_;conv=>whnf
     refine Af rfl rfl rfl (q3) rfl (coreCells {c with log:=(c.log.cut e0.index).2,out:={c.out with cut:=e0.index}} cx) rfl fun h4 t4 k4 a4 e4=>?_;conv=>whnf
     rw [hcut]
     refine ⟨_,Au ⟨rfl,rfl,rfl,rfl,trivial⟩,⟨k4,(q.sd.move fun b y e=>kk3.get (by simp) e).keepT t4 (by simp),KeepT.log l3 t4,(q.rd.move fun b y e=>kk3.get (by simp) e).keepT t4 (by simp),?_⟩,(kk3.keeps (by simp)).trans (t4.keep.keeps (by simp))⟩
     have z:=(q.out.move fun b t y ht e=>kk3 _ _ _ (by rw [ht];exact ap.b.symm) e:OutOk h3 oo c.out cx.ox).keepT ap.a t4
     exact ⟨z.od,z.oe,z.ed,z.ea,z.es,z.op,z.ps,z.pa,z.qr⟩
    ·refine Ad (cl) ?_;conv=>whnf
     rw [if_neg cl,← hDC] at hcut
     rw [hcut]
     exact ⟨_,Au ⟨rfl,rfl,rfl,rfl,trivial⟩,q,Keeps.refl _ _⟩
   rintro e h4 ⟨e3,rfl,q4,KK24⟩
   have KK4:Keeps [o,o+1,oo] h h4:=(s12.keeps _).trans KK24
   have K24:=KK24 _ _ _ (show (0:Nat)∉[o,o+1,oo] by have:=ap.c;have:=ap.d;simp;omega) k2
   have K34:=KK24 _ _ _ (show (0:Nat)∉[o,o+1,oo] by have:=ap.c;have:=ap.d;simp;omega) k3
   have XF4:=XF.keeps KK24 tn1 tn2
   have hcs:DCv.log.es.length≤c.log.es.length∧LOk DCv.log∧DCv.out.posts.length≤1000000000∧DCv.out.entries.length≤1000000:=by
    rw [hDC,hcut]
    split
    ·refine ⟨?_,lk.lo.cut _,hp,hoe⟩
     simp only [LG.cut];split
     ·simp only [List.length_take];omega
     ·exact Nat.le_refl _
    ·exact ⟨Nat.le_refl _,lk.lo,hp,hoe⟩
   obtain ⟨hcl,lk4,hpc,hec⟩:=hcs
   clear hcut hDC
   conv=>whnf
   refine Aa rfl K24 rfl ?_
   refine Aa rfl q4.str rfl ?_;conv=>whnf
   have hfn8:fn≤8:=by omega
   refine ACalls.mono (Append_c (by omega:o+1≠0) q4.log lk4 (t:=t1) (td:=t2) (fun c=>tn1 (by rw [c];simp)) (fun c=>tn2 (by rw [c];simp)) XF4 (by omega)) ?_;rintro _ h5 ⟨rfl,l5,kk5⟩;conv=>whnf
   have k25:=kk5.get (by simp) K24
   have k35:=kk5.get (by simp) K34
   have q5':=kk5.get (by simp) q4.str
   obtain ⟨d2,hd2⟩:∃ d2:CoreM,d2={DCv with log:=(DCv.log.append (fes.map EH.abs)).2}:=⟨_,rfl⟩
   have q5:CoreX 81 LA h5 p o oo d2 cx:=by
    rw [hd2]
    exact ⟨q5',q4.sd.move fun b y e=>kk5.get (by simp) e,l5,q4.rd.move fun b y e=>kk5.get (by simp) e,q4.out.move fun b t y ht e=>kk5 _ _ _ (by rw [ht];exact ap.b.symm) e⟩
   have KK5:Keeps [o,o+1,oo] h h5:=KK4.trans (kk5.keeps (by simp))
   have X5:=XF4.keeps (kk5.keeps (by simp):Keeps [o,o+1,oo] _ h5) tn1 tn2
   have ho2:d2.out=DCv.out:=by rw [hd2]
   refine ALoop.mk (fun e h'=>∃ e0,∃ j:Nat,∃ cj:CX,e=updL 184 e0 [(2,Ptr b2),(3,Ptr b3),(4,I stop),(141, .slice fa fn fc),(142,I fn),(143,I j)]∧j≤fn ∧
     CoreX 81 LA h' p o oo {d2 with out:={d2.out with entries:=d2.out.entries++(fes.take j).map EH.abs}} cj∧Keeps [o,o+1,oo] h h'∧h' b2=some (row (0,1) [Ptr p] 27)∧h' b3=some (row (0,1) x.cells 49)∧Ents h' t1 t2 fa fn fc fes) (fun e=>fn-natOf (e 143))
    ⟨_,0,cx,Au ⟨rfl,rfl,rfl,rfl,rfl,rfl,trivial⟩,by omega,by rw [List.take_zero,List.map_nil,List.append_nil];exact q5,KK5,k25,k35,X5⟩ ?_
   rintro e h6 ⟨e0,j,cj,rfl,hj,q6,KK6,k26,k36,X6⟩
   conv=>whnf
   by_cases hjn:j<fn
   ·refine Ac (by omega) ?_;conv=>whnf
    refine Av ?_;conv=>whnf
    refine Av ?_;conv=>whnf
    obtain ⟨y,hy⟩:∃ y,fes[j]? = some y:=⟨fes[j]'(by omega),by simp⟩
    have my:=List.mem_of_getElem? hy
    have hyn:y.n≤1200:=hfs y my
    obtain ⟨bf,off,lf,Ef,fzf,efa,hbf,hcf⟩:=X6.sl.pos (by omega)
    have g0:(lf.drop (off+j*4)).take 4=y.cells:=by rw [part_of_take hcf (by omega),encs_part hy]
    subst efa
    refine Ai (z:=4) (j:=j) rfl hjn rfl rfl ?_;conv=>whnf
    refine Ab rfl hbf g0 rfl ?_;conv=>whnf
    refine Ak (0,1) (entry0z) rfl fun b16 h7 n7 s7 k7=>?_;conv=>whnf
    refine Ae rfl rfl rfl (k7) rfl (y.cells) rfl fun h8 t8 k8 a8 e8=>?_;conv=>whnf
    have s68:Sub h6 h8:=a8 h6 s7 n7
    refine Aa rfl k8 rfl ?_;conv=>whnf
    refine ACalls.mono (cloneB_any h8 (oo,2) (Sl.sub (X6.good y my) s68) (by omega)) ?_
    rintro v h9 ⟨a',c',rfl,ow9,s9⟩
    conv=>whnf
    refine Af rfl rfl rfl ((s9 _ _ k8)) rfl ([I y.term,I y.index,I y.kind, .slice a' y.n c']) rfl fun h10 t10 k10 a10 e10=>?_;conv=>whnf
    have s610:Sub h6 h10:=a10 h6 (s68.trans s9) n7
    have ow10:=ow9.keepT t10 (fun c=>ap.d (congrArg Prod.fst c))
    obtain ⟨en,hen⟩:∃ en:EH,en=⟨y.term,y.index,y.kind,a',y.n,c',y.data⟩:=⟨_,rfl⟩
    have hea:en.abs=y.abs:=by rw [hen];rfl
    have hnn:en.n≤1200:=by rw [hen];exact hyn
    rw [show [I y.term,I y.index,I y.kind,Value.slice a' y.n c']=en.cells by rw [hen];rfl] at k10
    have m10:en.Mine h10 (oo,2):=by rw [hen];exact ow10
    have q10:=q6.sub s610
    have k210:=s610 _ _ k26
    have k310:=s610 _ _ k36
    have hel2:cj.ox.es.length=(DCv.out.entries++(fes.take j).map EH.abs).length:=by
     have e:cj.ox.es.map EH.abs=d2.out.entries++(fes.take j).map EH.abs:=q6.out.ea
     rw [← ho2,← e,List.length_map]
    have hel:cj.ox.es.length=cj.ox.oe.n:=by
     have:=q6.out.oe.sl.len
     rw [encs_length] at this;omega
    have hel3:cj.ox.oe.n≤1000008:=by
     rw [← hel,hel2,List.length_append,List.length_map,List.length_take];omega
    clear t8 a8 e8 k7 n7 s7 t10 a10 e10 k8
    refine Am ((few h10 [b2,p,b16])) [12] (few_sub _ _) (by decide +kernel) ?_;conv=>whnf
    refine Aa rfl ((few_at (by simp)).trans k210) rfl ?_
    refine Aa rfl ((few_at (by simp)).trans k210) rfl ?_
    refine Aa rfl ((few_at (by simp)).trans q10.str) rfl ?_
    refine Ab rfl ((few_at (by simp)).trans k10) rfl rfl ?_;conv=>whnf
    refine Ap (0,1) en.cells rfl rfl rfl rfl rfl rfl (by rw [hen];rfl) fun b17 h11 n11 s11 k11=>?_;conv=>whnf
    refine ⟨(few_sub _ _).trans s11,?_⟩;conv=>whnf
    refine AAppend.own (t:=(oo,1)) (E:=59) (z:=4) (by_:=48) (zero:=entry0z) (tx:=(0,1)) (xs:=en.cells) rfl ⟨_,rfl⟩ rfl rfl rfl rfl (by omega) (q10.out.oe.move fun _ _ e=>s11 _ _ e)
     ⟨rfl,Nat.le_refl _, .inr ⟨b17,0,_,_,_,rfl,k11,rfl⟩⟩ (by rw [hen];rfl) (by omega) (by omega) fun a12 c12 h12 ow12 t12 _=>?_
    conv=>whnf
    have p12:=t12.get (u:=(o,0)) (fun c=>ap.a (congrArg Prod.fst c)) (s11 _ _ q10.str)
    have e12:=t12.get (u:=(0,1)) (fun c=>ap.d (congrArg Prod.fst c).symm) (s11 _ _ k10)
    have k212:=t12.get (u:=(0,1)) (fun c=>ap.d (congrArg Prod.fst c).symm) (s11 _ _ k210)
    have k312:=t12.get (u:=(0,1)) (fun c=>ap.d (congrArg Prod.fst c).symm) (s11 _ _ k310)
    refine ⟨few_get fun z hz w hw=>?_,?_⟩
    ·simp only [List.mem_cons,List.not_mem_nil,or_false] at hz
     rcases hz with rfl | rfl | rfl
     ·rw [k210] at hw;cases hw;exact k212
     ·rw [q10.str] at hw;cases hw;exact p12
     ·rw [k10] at hw;cases hw;exact e12
    conv=>whnf
    refine Af rfl rfl rfl (p12) rfl (coreCells {({d2 with out:={d2.out with entries:=d2.out.entries++(fes.take j).map EH.abs}}:CoreM) with out:={({d2 with out:={d2.out with entries:=d2.out.entries++(fes.take j).map EH.abs}}:CoreM).out with entries:=({d2 with out:={d2.out with entries:=d2.out.entries++(fes.take j).map EH.abs}}:CoreM).out.entries++[en.abs]}} {cj with ox:={cj.ox with oe:=⟨a12,cj.ox.oe.n+1,c12⟩,es:=cj.ox.es++[en]}}) rfl fun h13 t13 k13 a13 e13=>?_;conv=>whnf
    have q13:=CoreX.pushE ap (q10.sub s11) t12 ow12 (Own.sub m10 s11) hnn t13 k13
    have KK13:Keeps [o,o+1,oo] h6 h13:=((s610.trans s11).keeps _).trans ((t12.keep.keeps (by simp)).trans (t13.keep.keeps (by simp)))
    have hsucc:d2.out.entries++(fes.take j).map EH.abs++[en.abs]=d2.out.entries++(fes.take (j+1)).map EH.abs:=by
     rw [List.take_succ_eq_append_getElem (show j<fes.length by omega),(List.getElem?_eq_some_iff.1 hy).2,List.map_append,List.append_assoc,hea];rfl
    simp only [hsucc] at q13
    refine Ag (by omega) (by omega) ((by omega:(j:Int)+1=((j+1:Nat):Int))) ?_;conv=>whnf
    refine ⟨⟨_,j+1,_,Au ⟨rfl,rfl,rfl,rfl,rfl,rfl,trivial⟩,by omega,q13,KK6.trans KK13,t13.get (tag_ne ap.c) k212,t13.get (tag_ne ap.c) k312,X6.keeps KK13 tn1 tn2⟩,?_⟩
    show fn-(j+1)<fn-j
    omega
   ·refine Ad (by omega) ?_;conv=>whnf
    refine Av ?_;conv=>whnf
    obtain rfl:j=fn:=by omega
    rw [List.take_of_length_le (by omega)] at q6
    obtain ⟨DDv,hDD⟩:∃ D:CoreM,D={d2 with out:={d2.out with entries:=d2.out.entries++fes.map EH.abs}}:=⟨_,rfl⟩
    rw [← hDD] at q6
    exact ⟨_,cj,Au ⟨rfl,rfl,rfl,trivial⟩,by rw [hrc,← hd2,← hDD];exact q6,KK6,k26,k36⟩
  ·refine Ad ((by omega)) ?_;conv=>whnf
   rw [appendRest_nil (hfr.trans (by rw [hkn,List.drop_of_length_le (by rw [List.length_map];omega)]))]
   exact ⟨_,cx,Au ⟨rfl,rfl,rfl,trivial⟩,q,s12.keeps _,k2,k3⟩
 rintro e h6 ⟨e3,cxd,rfl,qd,KKD,kd2,kd3⟩
 have hpd:(c.appendRest (les.map EH.abs)).out.posts.length≤1000000000:=by
  have:(c.appendRest (les.map EH.abs)).out.posts=c.out.posts:=by
   unfold CoreM.appendRest
   split
   ·rfl
   ·simp only [];split <;> rfl
  rw [this];exact hp
 obtain ⟨DD,hDD⟩:∃ DD,DD=c.appendRest (les.map EH.abs):=⟨_,rfl⟩
 rw [← hDD] at qd hpd
 conv=>whnf
 refine Av ?_;conv=>whnf
 refine Am (h6) [12] (Sub.refl _) (by decide +kernel) ?_;conv=>whnf
 refine Aa rfl kd2 rfl ?_
 refine Aa rfl kd2 rfl ?_
 refine Aa rfl qd.str rfl ?_
 refine Aa rfl kd3 rfl ?_;conv=>whnf
 refine Aq (rfl) ?_;conv=>whnf
 refine Aq (rfl) ?_;conv=>whnf
 refine Af rfl rfl rfl (qd.str) rfl (coreCells {DD with commit:=if DD.commit<(if stop<x.commit then stop else x.commit) then (if stop<x.commit then stop else x.commit) else DD.commit} cxd) rfl fun hY tY kY aY eY=>?_;conv=>whnf
 have qY:=qd.set' ap.a tY kY
 have kY2:=tY.get (tag_ne ap.c) kd2
 have kY3:=tY.get (tag_ne ap.c) kd3
 refine Aa rfl kY2 rfl ?_
 refine Aa rfl kY3 rfl ?_
 refine Aa rfl kY3 rfl ?_;conv=>whnf
 refine ACalls.mono (say_any ap.a ap.b ap.c ap.d ⟨_,qY⟩ x.src {post1 with kind:=4,ok:=true,index:=stop,hint:=x.hint} (made0 rfl rfl rfl rfl) hpd) ?_;rintro _ hZ ⟨rfl,kZ,kkZ⟩;conv=>whnf
 refine ⟨rfl,?_,KKD.trans ((tY.keep.keeps (by simp)).trans (kkZ.mono (by simp)))⟩
 have hst:x.abs.index+(x.abs.entries.length:Int)=stop:=by rw [hstop,← hxl];simp [PH.abs]
 unfold CoreM.appendOk
 rw [← hDD]
 simp only [hst]
 exact kZ
theorem Five.get_set (f:Five) (n m v:Int) (h1:1≤m) (h2:m≤5):(f.set n v).get m=if m=n then v else f.get m:=by
 have:m=1∨m=2∨m=3∨m=4∨m=5:=by omega
 rcases this with rfl | rfl | rfl | rfl | rfl <;> simp [Five.set,Five.get,eq_comm]
theorem rank_more (c:CoreM):c.rank.log=c.log∧c.rank.snap=c.snap∧c.rank.self=c.self∧c.rank.out=c.out∧(c.rank.next=c.next∨c.rank.next=five0)∧(c.rank.state=2→c.rank.next=c.next)∧(c.rank.reads=c.reads∨c.rank.reads=[]):=by
 rw [CoreM.rank_eq]
 unfold CoreM.ranked
 split
 ·exact ⟨rfl,rfl,rfl,rfl, .inl rfl,fun _=>rfl, .inl rfl⟩
 ·split
  ·exact ⟨rfl,rfl,rfl,rfl, .inr rfl,(fun h=>by cases h), .inr rfl⟩
  ·exact ⟨rfl,rfl,rfl,rfl, .inl rfl,fun _=>rfl, .inl rfl⟩
def CoreM.told1 (c:CoreM) (p:PostM):CoreM:={c with heard:=c.heard.set p.src (maxI (c.heard.get p.src) p.hint)}
def CoreM.told2 (c:CoreM) (p:PostM):CoreM:={c.told1 p with mtch:=c.mtch.set p.src (maxI (c.mtch.get p.src) (minI p.index c.log.last.1))}
def CoreM.told3 (c:CoreM) (p:PostM):CoreM:={c.told2 p with next:=c.next.set p.src (maxI (c.next.get p.src) ((c.told2 p).mtch.get p.src+1))}
def CoreM.told4 (c:CoreM) (p:PostM):CoreM:={c.told1 p with next:=c.next.set p.src (maxI (minI (c.next.get p.src-1) (p.index+1)) (c.mtch.get p.src+1))}
theorem CoreM.told_yes {c:CoreM} {p:PostM} (h:p.ok=true∨p.kind=6):c.told p=(if (c.told3 p).rank.state=2∧(c.told3 p).rank.next.get p.src≤c.log.last.1 then (c.told3 p).rank.send p.src else (c.told3 p).rank).confirm:=by
 unfold CoreM.told;simp only [];rw [if_pos h];rfl
theorem CoreM.told_no {c:CoreM} {p:PostM} (h:¬(p.ok=true∨p.kind=6)):c.told p=((c.told4 p).send p.src).confirm:=by
 unfold CoreM.told;simp only [];rw [if_neg h];rfl
theorem told_any {h:Heap} {p o oo:Nat} {c:CoreM} (ap:Apart o oo) (k:PCore h p o oo c) (lk:LogOk c) (nk:NextOk c) (mk:MtchOk c) (hs1:1≤c.self) (hs2:c.self≤5) (x:PH) (hx1:1≤x.src) (hx2:x.src≤5)
  (hi0:0≤x.index) (hi1:x.index≤9007199254740991) (hro:c.out.reads=[]) (hrl:c.reads.length≤100000000) (hp:c.out.posts.length≤999999990) :
  ACalls PR 139 #[Ptr p, .agg x.cells.toArray] h (fun v h'=>v = .tuple #[]∧PCore h' p o oo (c.told x.abs)∧Keeps [o,o+1,oo] h h'):=by
 obtain ⟨cx,k⟩:=k
 have hlast:=lk.lo.last
 have htop:=lk.lo.top
 have hlo:=lk.lo.lo
 obtain ⟨m,hm⟩:∃ m:Nat,x.src=m:=⟨x.src.toNat,by omega⟩
 have hm2:x.src.toNat=m:=by omega
 refine As mix Tryz.func139 rfl rfl Tryz.ntmps139 Tryz.results139 rfl ?_;conv=>whnf
 refine Al (0,1) (x.cells) rfl fun b3 h1 n1 s1 k1=>?_;conv=>whnf
 have q:=k.sub s1
 refine Aa rfl k1 rfl ?_;conv=>whnf
 refine Am (h1) [16] (Sub.refl _) (by decide +kernel) ?_;conv=>whnf
 refine Aj (n:=6) (z:=1) (j:=m) (by omega) (by omega) rfl rfl ?_;conv=>whnf
 refine Aa rfl q.str (by have:=heard_cell c cx hx1 hx2;rw [show 0+14+13+m*1=27+x.src.toNat by omega];exact this) ?_
 refine Aa rfl k1 rfl ?_;conv=>whnf
 refine Aq (show _=maxI (c.heard.get x.src) x.hint from rfl) ?_;conv=>whnf
 refine Aj (n:=6) (z:=1) (j:=m) (by omega) (by omega) rfl rfl ?_;conv=>whnf
 refine Af rfl rfl rfl q.str (by have:=heard_cell c cx hx1 hx2;rw [show 0+14+13+m*1=27+x.src.toNat by omega];exact Nat.ble_eq_true_of_le (List.getElem?_eq_some_iff.1 this).1) (coreCells (c.told1 x.abs) cx) (by rw [show 0+14+13+m*1=27+x.src.toNat by omega];exact heard_set c cx hx1 hx2 _) fun h2 t2 k2 a2 e2=>?_;conv=>whnf
 have q2:=q.set' (c':=c.told1 x.abs) ap.a t2 k2
 have k12:=t2.get (tag_ne ap.c) k1
 have kk2:Keeps [o,o+1,oo] h h2:=(s1.keeps _).trans (t2.keep.keeps (by simp))
 obtain ⟨c1,hc1⟩:∃ c1,c1=c.told1 x.abs:=⟨_,rfl⟩
 have f1:c1.log=c.log:=by rw [hc1];rfl
 have f2:c1.mtch=c.mtch:=by rw [hc1];rfl
 have f3:c1.next=c.next:=by rw [hc1];rfl
 rw [← hc1] at q2
 refine Aa rfl q2.str rfl ?_;conv=>whnf
 refine C2 (Last_c q2.log (by rw [f1];exact lk.lo)) ?_;conv=>whnf
 rw [f1]
 refine Aa rfl k12 rfl ?_;conv=>whnf
 cases hok:x.ok with
 | true =>
  conv=>whnf
  have HY:x.abs.ok=true∨x.abs.kind=6 := .inl hok
  refine Am (h2) [18] (Sub.refl _) (by decide +kernel) ?_;conv=>whnf
  refine Aj (n:=6) (z:=1) (j:=m) (by omega) (by omega) rfl rfl ?_;conv=>whnf
  refine Aa rfl q2.str (by have:=mtch_cell c1 cx hx1 hx2;rw [show 0+14+7+m*1=21+x.src.toNat by omega];exact this) ?_
  refine Aa rfl k12 rfl ?_;conv=>whnf
  refine Aq (show _=minI x.index c.log.last.1 from rfl) ?_;conv=>whnf
  rw [f2]
  refine Aq (show _=maxI (c.mtch.get x.src) (minI x.index c.log.last.1) from rfl) ?_;conv=>whnf
  refine Aj (n:=6) (z:=1) (j:=m) (by omega) (by omega) rfl rfl ?_;conv=>whnf
  refine Af rfl rfl rfl q2.str (by have:=mtch_cell c1 cx hx1 hx2;rw [show 0+14+7+m*1=21+x.src.toNat by omega];exact Nat.ble_eq_true_of_le (List.getElem?_eq_some_iff.1 this).1) (coreCells (c.told2 x.abs) cx) (by rw [show 0+14+7+m*1=21+x.src.toNat by omega];rw [mtch_set c1 cx hx1 hx2 _,hc1];rfl) fun h3 t3 k3 a3 e3=>?_;conv=>whnf
  have q3:=q2.set' (c':=c.told2 x.abs) ap.a t3 k3 (by rw [hc1];rfl) (by rw [hc1];rfl) (by rw [hc1];rfl) (by rw [hc1];rfl) (by rw [hc1];rfl) (by rw [hc1];rfl) (by rw [hc1];rfl)
  have k13:=t3.get (tag_ne ap.c) k12
  have kk3:=kk2.trans (t3.keep.keeps (by simp):Keeps [o,o+1,oo] h2 h3)
  obtain ⟨c2,hc2⟩:∃ c2,c2=c.told2 x.abs:=⟨_,rfl⟩
  have g2:c2.next=c.next:=by rw [hc2];rfl
  have g3:c2.mtch.get x.src=maxI (c.mtch.get x.src) (minI x.index c.log.last.1):=by
   rw [hc2];show (c.mtch.set x.src _).get x.src=_
   rw [Five.get_set _ _ _ _ hx1 hx2,if_pos rfl];rfl
  have hmk:=mk x.src hx1 hx2
  have hnk:=nk x.src hx1 hx2
  have g4:0≤c2.mtch.get x.src∧c2.mtch.get x.src≤9007199254740991:=by
   rw [g3];unfold maxI minI;split <;> split <;> omega
  rw [← hc2] at q3
  refine Am (h3) [22] (Sub.refl _) (by decide +kernel) ?_;conv=>whnf
  refine Aj (n:=6) (z:=1) (j:=m) (by omega) (by omega) rfl rfl ?_;conv=>whnf
  refine Aa rfl q3.str (by have:=next_cell c2 cx hx1 hx2;rw [show 0+14+1+m*1=15+x.src.toNat by omega];exact this) ?_;conv=>whnf
  refine Aj (n:=6) (z:=1) (j:=m) (by omega) (by omega) rfl rfl ?_;conv=>whnf
  refine Aa rfl q3.str (by have:=mtch_cell c2 cx hx1 hx2;rw [show 0+14+7+m*1=21+x.src.toNat by omega];exact this) ?_;conv=>whnf
  refine Ag (by omega) (by omega) (rfl) ?_;conv=>whnf
  rw [g2]
  refine Aq (show _=maxI (c.next.get x.src) (c2.mtch.get x.src+1) from rfl) ?_;conv=>whnf
  refine Aj (n:=6) (z:=1) (j:=m) (by omega) (by omega) rfl rfl ?_;conv=>whnf
  refine Af rfl rfl rfl q3.str (by have:=next_cell c2 cx hx1 hx2;rw [show 0+14+1+m*1=15+x.src.toNat by omega];exact Nat.ble_eq_true_of_le (List.getElem?_eq_some_iff.1 this).1) (coreCells (c.told3 x.abs) cx) (by rw [show 0+14+1+m*1=15+x.src.toNat by omega];rw [next_set c2 cx hx1 hx2 _,hc2];rfl) fun h4 t4 k4 a4 e4=>?_;conv=>whnf
  have q4:=q3.set' (c':=c.told3 x.abs) ap.a t4 k4 (by rw [hc2];rfl) (by rw [hc2];rfl) (by rw [hc2];rfl) (by rw [hc2];rfl) (by rw [hc2];rfl) (by rw [hc2];rfl) (by rw [hc2];rfl)
  have kk4:=kk3.trans (t4.keep.keeps (by simp):Keeps [o,o+1,oo] h3 h4)
  obtain ⟨c3,hc3⟩:∃ c3,c3=c.told3 x.abs:=⟨_,rfl⟩
  have lk3:LogOk c3:=by rw [hc3];exact lk.same rfl rfl
  have nk3:NextOk c3:=by
   intro n n1 n2
   have e:c3.next=c.next.set x.src (maxI (c.next.get x.src) (c2.mtch.get x.src+1)):=by rw [hc3,hc2];rfl
   rw [e,Five.get_set _ _ _ _ n1 n2]
   split
   ·unfold maxI;split <;> omega
   ·exact nk n n1 n2
  have p3:c3.out=c.out:=by rw [hc3];rfl
  have r3:c3.reads=c.reads:=by rw [hc3];rfl
  have l3:c3.log=c.log:=by rw [hc3];rfl
  have s3:c3.self=c.self:=by rw [hc3];rfl
  rw [CoreM.told_yes (p:=x.abs) HY,← hc3]
  rw [← hc3] at q4
  refine ACalls.mono (rank_any ap ⟨_,q4⟩ lk3 (by rw [s3];exact hs1) (by rw [s3];exact hs2)) ?_;rintro _ h5 ⟨rfl,⟨cx5,q5⟩,kk5⟩;conv=>whnf
  obtain ⟨rm1,rm2,rm3,rm4,rm5,rm6,rm7⟩:=rank_more c3
  have KK5:=kk4.trans (kk5.keeps (by simp):Keeps [o,o+1,oo] h4 h5)
  obtain ⟨d,hd⟩:∃ d,d=c3.rank:=⟨_,rfl⟩
  rw [← hd] at q5 rm1 rm2 rm3 rm4 rm5 rm6 rm7 ⊢
  have lkd:LogOk d:=lk3.same rm1 rm2
  have hrd:d.out.reads.length+d.reads.length≤1000000000:=by
   rw [rm4,p3,hro]
   rcases rm7 with e | e
   ·rw [e,r3];simp;omega
   ·rw [e];simp
  have sd:d.self=c.self:=rm3.trans s3
  refine Aa rfl q5.str rfl ?_;conv=>whnf
  by_cases c5:d.state=2
  ·refine Ac (c5) ?_;conv=>whnf
   refine Aj (n:=6) (z:=1) (j:=m) (by omega) (by omega) rfl rfl ?_;conv=>whnf
   refine Aa rfl q5.str (by have:=next_cell d cx5 hx1 hx2;rw [show 0+14+1+m*1=15+x.src.toNat by omega];exact this) ?_;conv=>whnf
   by_cases c6:d.next.get x.src≤c.log.last.1
   ·refine Ac (c6) ?_;conv=>whnf
    rw [if_pos ⟨c5,c6⟩]
    have hn5:=nk3 x.src hx1 hx2
    rw [← rm6 c5] at hn5
    refine ACalls.mono (send_any ap ⟨_,q5⟩ lkd.lo hx1 hx2 hn5.1 hn5.2 (by rw [rm4,p3];omega) lkd.snap lkd.room) ?_;rintro _ h6 ⟨rfl,k6,kk6⟩;conv=>whnf
    obtain ⟨z1,z2,z3,z4⟩:=send_same d x.src
    obtain ⟨y1,y2,y3,y4,y5,y6,y7,y8⟩:=send_more d x.src
    have lk6:LogOk (d.send x.src):=lkd.same z1 z3
    have hrs:(d.send x.src).out.reads=d.out.reads:=by unfold CoreM.send;split <;> rfl
    have KK6:=KK5.trans (kk6.mono (by simp):Keeps [o,o+1,oo] h5 h6)
    have hr6:(d.send x.src).out.reads.length+(d.send x.src).reads.length≤1000000000:=by rw [hrs,y7];exact hrd
    have s6:(d.send x.src).self=c.self:=y1.trans sd
    refine ACalls.mono (confirm_any ap k6 lk6 (by rw [s6];exact hs1) (by rw [s6];exact hs2) hr6) ?_;rintro _ h7 ⟨rfl,k7,kk7⟩;conv=>whnf
    exact ⟨rfl,k7,KK6.trans (kk7.mono (by simp))⟩
   ·refine Ad (c6) ?_;conv=>whnf
    rw [if_neg fun c=>c6 c.2]
    have k6:PCore h5 p o oo d:=⟨_,q5⟩
    refine ACalls.mono (confirm_any ap k6 lkd (by rw [sd];exact hs1) (by rw [sd];exact hs2) hrd) ?_;rintro _ h7 ⟨rfl,k7,kk7⟩;conv=>whnf
    exact ⟨rfl,k7,KK5.trans (kk7.mono (by simp))⟩
  ·refine Ad (c5) ?_;conv=>whnf
   rw [if_neg fun c=>c5 c.1]
   have k6:PCore h5 p o oo d:=⟨_,q5⟩
   refine ACalls.mono (confirm_any ap k6 lkd (by rw [sd];exact hs1) (by rw [sd];exact hs2) hrd) ?_;rintro _ h7 ⟨rfl,k7,kk7⟩;conv=>whnf
   exact ⟨rfl,k7,KK5.trans (kk7.mono (by simp))⟩
 | false =>
  conv=>whnf
  refine Aa rfl k12 rfl ?_;conv=>whnf
  by_cases ck:x.kind=6
  ·refine Ac (ck) ?_;conv=>whnf
   have HY:x.abs.ok=true∨x.abs.kind=6 := .inr ck
   refine Am (h2) [18] (Sub.refl _) (by decide +kernel) ?_;conv=>whnf
   refine Aj (n:=6) (z:=1) (j:=m) (by omega) (by omega) rfl rfl ?_;conv=>whnf
   refine Aa rfl q2.str (by have:=mtch_cell c1 cx hx1 hx2;rw [show 0+14+7+m*1=21+x.src.toNat by omega];exact this) ?_
   refine Aa rfl k12 rfl ?_;conv=>whnf
   refine Aq (show _=minI x.index c.log.last.1 from rfl) ?_;conv=>whnf
   rw [f2]
   refine Aq (show _=maxI (c.mtch.get x.src) (minI x.index c.log.last.1) from rfl) ?_;conv=>whnf
   refine Aj (n:=6) (z:=1) (j:=m) (by omega) (by omega) rfl rfl ?_;conv=>whnf
   refine Af rfl rfl rfl q2.str (by have:=mtch_cell c1 cx hx1 hx2;rw [show 0+14+7+m*1=21+x.src.toNat by omega];exact Nat.ble_eq_true_of_le (List.getElem?_eq_some_iff.1 this).1) (coreCells (c.told2 x.abs) cx) (by rw [show 0+14+7+m*1=21+x.src.toNat by omega];rw [mtch_set c1 cx hx1 hx2 _,hc1];rfl) fun h3 t3 k3 a3 e3=>?_;conv=>whnf
   have q3:=q2.set' (c':=c.told2 x.abs) ap.a t3 k3 (by rw [hc1];rfl) (by rw [hc1];rfl) (by rw [hc1];rfl) (by rw [hc1];rfl) (by rw [hc1];rfl) (by rw [hc1];rfl) (by rw [hc1];rfl)
   have k13:=t3.get (tag_ne ap.c) k12
   have kk3:=kk2.trans (t3.keep.keeps (by simp):Keeps [o,o+1,oo] h2 h3)
   obtain ⟨c2,hc2⟩:∃ c2,c2=c.told2 x.abs:=⟨_,rfl⟩
   have g2:c2.next=c.next:=by rw [hc2];rfl
   have g3:c2.mtch.get x.src=maxI (c.mtch.get x.src) (minI x.index c.log.last.1):=by
    rw [hc2];show (c.mtch.set x.src _).get x.src=_
    rw [Five.get_set _ _ _ _ hx1 hx2,if_pos rfl];rfl
   have hmk:=mk x.src hx1 hx2
   have hnk:=nk x.src hx1 hx2
   have g4:0≤c2.mtch.get x.src∧c2.mtch.get x.src≤9007199254740991:=by
    rw [g3];unfold maxI minI;split <;> split <;> omega
   rw [← hc2] at q3
   refine Am (h3) [22] (Sub.refl _) (by decide +kernel) ?_;conv=>whnf
   refine Aj (n:=6) (z:=1) (j:=m) (by omega) (by omega) rfl rfl ?_;conv=>whnf
   refine Aa rfl q3.str (by have:=next_cell c2 cx hx1 hx2;rw [show 0+14+1+m*1=15+x.src.toNat by omega];exact this) ?_;conv=>whnf
   refine Aj (n:=6) (z:=1) (j:=m) (by omega) (by omega) rfl rfl ?_;conv=>whnf
   refine Aa rfl q3.str (by have:=mtch_cell c2 cx hx1 hx2;rw [show 0+14+7+m*1=21+x.src.toNat by omega];exact this) ?_;conv=>whnf
   refine Ag (by omega) (by omega) (rfl) ?_;conv=>whnf
   rw [g2]
   refine Aq (show _=maxI (c.next.get x.src) (c2.mtch.get x.src+1) from rfl) ?_;conv=>whnf
   refine Aj (n:=6) (z:=1) (j:=m) (by omega) (by omega) rfl rfl ?_;conv=>whnf
   refine Af rfl rfl rfl q3.str (by have:=next_cell c2 cx hx1 hx2;rw [show 0+14+1+m*1=15+x.src.toNat by omega];exact Nat.ble_eq_true_of_le (List.getElem?_eq_some_iff.1 this).1) (coreCells (c.told3 x.abs) cx) (by rw [show 0+14+1+m*1=15+x.src.toNat by omega];rw [next_set c2 cx hx1 hx2 _,hc2];rfl) fun h4 t4 k4 a4 e4=>?_;conv=>whnf
   have q4:=q3.set' (c':=c.told3 x.abs) ap.a t4 k4 (by rw [hc2];rfl) (by rw [hc2];rfl) (by rw [hc2];rfl) (by rw [hc2];rfl) (by rw [hc2];rfl) (by rw [hc2];rfl) (by rw [hc2];rfl)
   have kk4:=kk3.trans (t4.keep.keeps (by simp):Keeps [o,o+1,oo] h3 h4)
   obtain ⟨c3,hc3⟩:∃ c3,c3=c.told3 x.abs:=⟨_,rfl⟩
   have lk3:LogOk c3:=by rw [hc3];exact lk.same rfl rfl
   have nk3:NextOk c3:=by
    intro n n1 n2
    have e:c3.next=c.next.set x.src (maxI (c.next.get x.src) (c2.mtch.get x.src+1)):=by rw [hc3,hc2];rfl
    rw [e,Five.get_set _ _ _ _ n1 n2]
    split
    ·unfold maxI;split <;> omega
    ·exact nk n n1 n2
   have p3:c3.out=c.out:=by rw [hc3];rfl
   have r3:c3.reads=c.reads:=by rw [hc3];rfl
   have l3:c3.log=c.log:=by rw [hc3];rfl
   have s3:c3.self=c.self:=by rw [hc3];rfl
   rw [CoreM.told_yes (p:=x.abs) HY,← hc3]
   rw [← hc3] at q4
   refine ACalls.mono (rank_any ap ⟨_,q4⟩ lk3 (by rw [s3];exact hs1) (by rw [s3];exact hs2)) ?_;rintro _ h5 ⟨rfl,⟨cx5,q5⟩,kk5⟩;conv=>whnf
   obtain ⟨rm1,rm2,rm3,rm4,rm5,rm6,rm7⟩:=rank_more c3
   have KK5:=kk4.trans (kk5.keeps (by simp):Keeps [o,o+1,oo] h4 h5)
   obtain ⟨d,hd⟩:∃ d,d=c3.rank:=⟨_,rfl⟩
   rw [← hd] at q5 rm1 rm2 rm3 rm4 rm5 rm6 rm7 ⊢
   have lkd:LogOk d:=lk3.same rm1 rm2
   have hrd:d.out.reads.length+d.reads.length≤1000000000:=by
    rw [rm4,p3,hro]
    rcases rm7 with e | e
    ·rw [e,r3];simp;omega
    ·rw [e];simp
   have sd:d.self=c.self:=rm3.trans s3
   refine Aa rfl q5.str rfl ?_;conv=>whnf
   by_cases c5:d.state=2
   ·refine Ac (c5) ?_;conv=>whnf
    refine Aj (n:=6) (z:=1) (j:=m) (by omega) (by omega) rfl rfl ?_;conv=>whnf
    refine Aa rfl q5.str (by have:=next_cell d cx5 hx1 hx2;rw [show 0+14+1+m*1=15+x.src.toNat by omega];exact this) ?_;conv=>whnf
    by_cases c6:d.next.get x.src≤c.log.last.1
    ·refine Ac (c6) ?_;conv=>whnf
     rw [if_pos ⟨c5,c6⟩]
     have hn5:=nk3 x.src hx1 hx2
     rw [← rm6 c5] at hn5
     refine ACalls.mono (send_any ap ⟨_,q5⟩ lkd.lo hx1 hx2 hn5.1 hn5.2 (by rw [rm4,p3];omega) lkd.snap lkd.room) ?_;rintro _ h6 ⟨rfl,k6,kk6⟩;conv=>whnf
     obtain ⟨z1,z2,z3,z4⟩:=send_same d x.src
     obtain ⟨y1,y2,y3,y4,y5,y6,y7,y8⟩:=send_more d x.src
     have lk6:LogOk (d.send x.src):=lkd.same z1 z3
     have hrs:(d.send x.src).out.reads=d.out.reads:=by unfold CoreM.send;split <;> rfl
     have KK6:=KK5.trans (kk6.mono (by simp):Keeps [o,o+1,oo] h5 h6)
     have hr6:(d.send x.src).out.reads.length+(d.send x.src).reads.length≤1000000000:=by rw [hrs,y7];exact hrd
     have s6:(d.send x.src).self=c.self:=y1.trans sd
     refine ACalls.mono (confirm_any ap k6 lk6 (by rw [s6];exact hs1) (by rw [s6];exact hs2) hr6) ?_;rintro _ h7 ⟨rfl,k7,kk7⟩;conv=>whnf
     exact ⟨rfl,k7,KK6.trans (kk7.mono (by simp))⟩
    ·refine Ad (c6) ?_;conv=>whnf
     rw [if_neg fun c=>c6 c.2]
     have k6:PCore h5 p o oo d:=⟨_,q5⟩
     refine ACalls.mono (confirm_any ap k6 lkd (by rw [sd];exact hs1) (by rw [sd];exact hs2) hrd) ?_;rintro _ h7 ⟨rfl,k7,kk7⟩;conv=>whnf
     exact ⟨rfl,k7,KK5.trans (kk7.mono (by simp))⟩
   ·refine Ad (c5) ?_;conv=>whnf
    rw [if_neg fun c=>c5 c.1]
    have k6:PCore h5 p o oo d:=⟨_,q5⟩
    refine ACalls.mono (confirm_any ap k6 lkd (by rw [sd];exact hs1) (by rw [sd];exact hs2) hrd) ?_;rintro _ h7 ⟨rfl,k7,kk7⟩;conv=>whnf
    exact ⟨rfl,k7,KK5.trans (kk7.mono (by simp))⟩
  ·refine Ad (ck) ?_;conv=>whnf
   rw [CoreM.told_no (p:=x.abs) (by show ¬(x.ok=true∨x.kind=6);rw [hok];simpa using ck)]
   have hmk:=mk x.src hx1 hx2
   have hnk:=nk x.src hx1 hx2
   refine Am (h2) [27] (Sub.refl _) (by decide +kernel) ?_;conv=>whnf
   refine Aj (n:=6) (z:=1) (j:=m) (by omega) (by omega) rfl rfl ?_;conv=>whnf
   refine Aa rfl q2.str (by have:=next_cell c1 cx hx1 hx2;rw [show 0+14+1+m*1=15+x.src.toNat by omega];exact this) ?_;conv=>whnf
   rw [f3]
   refine Ag (by omega) (by omega) (rfl) ?_;conv=>whnf
   refine Aa rfl k12 rfl ?_;conv=>whnf
   refine Ag (by omega) (by omega) (rfl) ?_;conv=>whnf
   refine Aq (show _=minI (c.next.get x.src-1) (x.index+1) from rfl) ?_;conv=>whnf
   refine Aj (n:=6) (z:=1) (j:=m) (by omega) (by omega) rfl rfl ?_;conv=>whnf
   refine Aa rfl q2.str (by have:=mtch_cell c1 cx hx1 hx2;rw [show 0+14+7+m*1=21+x.src.toNat by omega];exact this) ?_;conv=>whnf
   rw [f2]
   refine Ag (by omega) (by omega) (rfl) ?_;conv=>whnf
   refine Aq (show _=maxI (minI (c.next.get x.src-1) (x.index+1)) (c.mtch.get x.src+1) from rfl) ?_;conv=>whnf
   refine Aj (n:=6) (z:=1) (j:=m) (by omega) (by omega) rfl rfl ?_;conv=>whnf
   refine Af rfl rfl rfl q2.str (by have:=next_cell c1 cx hx1 hx2;rw [show 0+14+1+m*1=15+x.src.toNat by omega];exact Nat.ble_eq_true_of_le (List.getElem?_eq_some_iff.1 this).1) (coreCells (c.told4 x.abs) cx) (by rw [show 0+14+1+m*1=15+x.src.toNat by omega];rw [next_set c1 cx hx1 hx2 _,hc1];rfl) fun h3 t3 k3 a3 e3=>?_;conv=>whnf
   have q3:=q2.set' (c':=c.told4 x.abs) ap.a t3 k3 (by rw [hc1];rfl) (by rw [hc1];rfl) (by rw [hc1];rfl) (by rw [hc1];rfl) (by rw [hc1];rfl) (by rw [hc1];rfl) (by rw [hc1];rfl)
   have kk3:=kk2.trans (t3.keep.keeps (by simp):Keeps [o,o+1,oo] h2 h3)
   obtain ⟨d,hd⟩:∃ d,d=c.told4 x.abs:=⟨_,rfl⟩
   have lkd:LogOk d:=by rw [hd];exact lk.same rfl rfl
   have nkd:0≤d.next.get x.src∧d.next.get x.src≤9007199254740992:=by
    rw [hd];show 0≤(c.next.set x.src _).get x.src∧(c.next.set x.src _).get x.src≤_
    rw [Five.get_set _ _ _ _ hx1 hx2,if_pos rfl]
    show 0≤maxI (minI (c.next.get x.src-1) (x.index+1)) (c.mtch.get x.src+1)∧maxI (minI (c.next.get x.src-1) (x.index+1)) (c.mtch.get x.src+1)≤_
    unfold maxI minI;split <;> split <;> omega
   have pd:d.out=c.out:=by rw [hd];rfl
   have rd:d.reads=c.reads:=by rw [hd];rfl
   have sd:d.self=c.self:=by rw [hd];rfl
   rw [← hd] at q3 ⊢
   refine ACalls.mono (send_any ap ⟨_,q3⟩ lkd.lo hx1 hx2 nkd.1 nkd.2 (by rw [pd];omega) lkd.snap lkd.room) ?_;rintro _ h6 ⟨rfl,k6,kk6⟩;conv=>whnf
   obtain ⟨z1,z2,z3,z4⟩:=send_same d x.src
   obtain ⟨y1,y2,y3,y4,y5,y6,y7,y8⟩:=send_more d x.src
   have lk6:LogOk (d.send x.src):=lkd.same z1 z3
   have hrs:(d.send x.src).out.reads=d.out.reads:=by unfold CoreM.send;split <;> rfl
   have KK6:=kk3.trans (kk6.mono (by simp):Keeps [o,o+1,oo] h3 h6)
   have hr6:(d.send x.src).out.reads.length+(d.send x.src).reads.length≤1000000000:=by rw [hrs,y7,pd,rd,hro];simp;omega
   have s6:(d.send x.src).self=c.self:=y1.trans sd
   refine ACalls.mono (confirm_any ap k6 lk6 (by rw [s6];exact hs1) (by rw [s6];exact hs2) hr6) ?_;rintro _ h7 ⟨rfl,k7,kk7⟩;conv=>whnf
   exact ⟨rfl,k7,KK6.trans (kk7.mono (by simp))⟩
structure Checked (x:PH):Prop where
  k1:1≤x.kind
  k6:x.kind≤6
  s1:1≤x.src
  s2:x.src≤5
  d1:1≤x.dst
  d2:x.dst≤5
  tm:0≤x.term∧x.term≤9007199254740991
  ix:0≤x.index∧x.index≤9007199254740991
  cm:0≤x.commit∧x.commit≤9007199254740991
  hi:0≤x.hint∧x.hint≤9007199254740991
  el:x.es.length≤8
  en:∀ e∈x.es,e.data.length≤1200
  sn:x.kind=5→okBase x.si x.st=true∧x.data.length≤8192
theorem entriesMay_small {top:Int}:∀ (l:List Abs) (i t:Int),entriesMay top i t l=true→∀ e∈l,e.2.2.2.length≤1200
 | [],_,_,_,e,he=>by cases he
 | y::r,i,t,h,e,he=>by
  unfold entriesMay at h
  simp only [Bool.and_eq_true,decide_eq_true_eq] at h
  rcases List.mem_cons.1 he with rfl | he
  ·exact h.1.2
  ·exact entriesMay_small r _ _ h.2 e he
theorem check_facts {x:PH} (h:x.abs.check=true) (hst:x.kind=5→1≤x.st):Checked x:=by
 rw [check_eq] at h
 simp only [Bool.and_eq_true,decide_eq_true_eq,Bool.or_eq_true,numB,List.length_map] at h
 obtain ⟨⟨⟨⟨⟨⟨a1,a2⟩,b1,b2,b3,b4,b5⟩,⟨⟨⟨c1,c2⟩,c3⟩,c4⟩,c5,c6⟩,d⟩,e1,e2⟩,f⟩:=h
 refine ⟨a1,a2,b1,b2,b3,b4,c1,c2,c3,c4,e1,fun e he=>?_,fun h5=>?_⟩
 ·exact entriesMay_small _ _ _ e2 e.abs (List.mem_map_of_mem he)
 ·rcases f with f | f
  ·exact absurd h5 f
  ·rw [snapMay_eq] at f
   simp only [Bool.and_eq_true,decide_eq_true_eq] at f
   refine ⟨?_,f.2⟩
   have h1:isNum x.abs.snap.index=true:=isNum_iff.2 (by show 1≤x.si∧x.si≤9007199254740991;omega)
   have h2:isNum x.abs.snap.term=true:=isNum_iff.2 (by have:=hst h5;show 1≤x.st∧x.st≤9007199254740991;omega)
   unfold okBase
   rw [show isNum x.si=true from h1,show isNum x.st=true from h2];simp
theorem takes_facts {c:CoreM} {x:PH} (h:c.takes x.abs=true):Checked x:=by
 rw [takes_eq] at h
 simp only [Bool.and_eq_true,Bool.not_eq_true',Bool.or_eq_false_iff,Bool.and_eq_false_iff,decide_eq_false_iff_not] at h
 exact check_facts h.1.1.1.1 fun h5=>h.1.2.2.elim (fun c=>absurd h5 c) (fun c=>by omega)
theorem given_len {h:Heap} {o oo:Nat} {x:PH} (g:Given h o oo x) (e:EH) (he:e∈x.es):e.data.length=e.n:=by
 obtain ⟨⟨t1,t2,t3,ok,_⟩,_⟩:=g
 have:=(ok.es.good e he).len
 simpa [bytesV] using this
structure TOk (c:CoreM):Prop where
  lk:LogOk c
  nk:NextOk c
  mt:MtchOk c
  s1:1≤c.self
  s2:c.self≤5
  v1:0≤c.votes
  v2:c.votes<64
  es:c.log.es.length≤1000000000
  rd:c.reads.length≤100000000
  o1:c.out.reads=[]
  o2:c.out.entries=[]
  o3:c.out.posts=[]
theorem COk.t {c:CoreM} (k:COk c):TOk c:=⟨k.lk,k.nk,k.mt,k.s1,k.s2,k.v1,k.v2,k.es,k.rd,by rw [k.out];rfl,by rw [k.out];rfl,by rw [k.out];rfl⟩
theorem five0_get (n:Int):five0.get n=0:=by simp [five0,Five.get]
theorem TOk.learn {c:CoreM} (k:TOk c) (t:Int):TOk (c.learn t) :=
 ⟨k.lk.same rfl rfl,fun n _ _=>by show 0≤five0.get n∧five0.get n≤_;rw [five0_get];omega,fun n _ _=>by show 0≤five0.get n∧five0.get n≤_;rw [five0_get];omega,k.s1,k.s2,by show (0:Int)≤0;omega,by show (0:Int)<64;omega,k.es,by show ([]:List Int).length≤_;simp,k.o1,k.o2,k.o3⟩
def CoreM.heardOf (c:CoreM) (p:PostM) (draw:Int):CoreM:={c.follow with head:=p.src,quiet:=0,wait:=waits draw}
def CoreM.takeIn (c:CoreM) (p:PostM) (draw:Int):CoreM:=if p.term<c.term then c.refuse p else if c.term<p.term then (c.learn p.term).take1 p draw else c.take1 p draw
theorem CoreM.take_eq (c:CoreM) (p:PostM) (draw:Int):c.take p draw=if p.kind=1∧c.led=true then c else c.takeIn p draw:=rfl
theorem take_any {h:Heap} {p o oo:Nat} {c:CoreM} (ap:Apart o oo) (k:PCore h p o oo c) (ok:TOk c) (x:PH) (g:Given h o oo x) (ch:Checked x) (draw:Int) (hd0:0≤draw) :
  ACalls PR 63 #[Ptr p, .agg x.cells.toArray,I draw] h (fun v h'=>v = .tuple #[]∧PCore h' p o oo (c.takeIn x.abs draw)∧Keeps [o,o+1,oo] h h'):=by
 obtain ⟨cx,k⟩:=k
 have hxd:x.data.length=x.d.n:=g.ok.elim fun _ ⟨_,_,ok,_⟩=>ok.len.2
 refine As mix Tryz.func63 rfl rfl Tryz.ntmps63 Tryz.results63 rfl ?_;conv=>whnf
 refine Al (0,1) (x.cells) rfl fun b4 h1 n1 s1 k4=>?_;conv=>whnf
 have q:=k.sub s1
 have g1:=g.sub s1
 refine An (h1) [] [0,1,2,3,4,5,6] (Sub.refl _) (by decide +kernel) ?_;conv=>whnf
 refine Aa rfl k4 rfl ?_
 refine Aa rfl q.str rfl ?_;conv=>whnf
 refine C2 (compare_any h1 x.term c.term) ?_;conv=>whnf
 refine ⟨Sub.refl _,?_⟩;conv=>whnf
 have K1:Keeps [o,o+1,oo] h h1:=s1.keeps _
 by_cases c1:x.term<c.term
 ·rw [show cmpI x.term c.term = -1 from if_pos c1]
  conv=>whnf
  refine Ad ((by decide)) ?_;conv=>whnf
  refine Ac (rfl) ?_;conv=>whnf
  refine Ab rfl k4 rfl rfl ?_;conv=>whnf
  refine ACalls.mono (refuse_any ap ⟨_,q⟩ x (by rw [ok.o3];simp)) ?_;rintro _ h2 ⟨rfl,k2,kk2⟩;conv=>whnf
  refine ⟨rfl,?_,K1.trans (kk2.mono (by simp))⟩
  rw [show c.takeIn x.abs draw=c.refuse x.abs from if_pos c1];exact k2
 ·by_cases c2:c.term<x.term
  ·rw [show cmpI x.term c.term=1 from (if_neg c1).trans (if_pos c2)]
   conv=>whnf
   refine Ac (rfl) ?_;conv=>whnf
   refine Aa rfl k4 rfl ?_;conv=>whnf
   refine ACalls.mono (learn_any ap.a ⟨_,q⟩ x.term) ?_;rintro _ h2 ⟨rfl,⟨cx2,k2⟩,kk2⟩;conv=>whnf
   have hres:c.takeIn x.abs draw=(c.learn x.term).take1 x.abs draw:=(if_neg c1).trans (if_pos c2)
   have k42:=kk2.get (Ne.symm ap.c) k4
   have KK2:=K1.trans (kk2.keeps (by simp):Keeps [o,o+1,oo] h1 h2)
   have ok2:=ok.learn x.term
   refine Aa rfl k42 rfl ?_;conv=>whnf
   by_cases e1:x.kind=1
   ·refine Ac (e1) ?_;conv=>whnf
    refine Ab rfl k42 rfl rfl ?_;conv=>whnf
    refine ACalls.mono (asked_any ap ⟨_,k2⟩ ok2.lk.lo x draw hd0 (by rw [ok2.o3];simp)) ?_;rintro _ hz ⟨rfl,kz,kkz⟩;conv=>whnf
    refine ⟨rfl,?_,KK2.trans (kkz.mono (by simp))⟩
    rw [hres,show ((c.learn x.term)).take1 x.abs draw=((c.learn x.term)).asked x.abs draw from if_pos e1];exact kz
   refine Ad (e1) ?_;conv=>whnf
   by_cases e2:x.kind=2
   ·refine Ac (e2) ?_;conv=>whnf
    refine Ab rfl k42 rfl rfl ?_;conv=>whnf
    refine ACalls.mono (voted_any ap ⟨_,k2⟩ ok2.lk ok2.s1 ok2.s2 ok2.v1 ok2.v2 x ch.s1 ch.s2 (by have:=ok2.es;omega) (by rw [ok2.o2];simp) (by rw [ok2.o3];simp)) ?_;rintro _ hz ⟨rfl,kz,kkz⟩;conv=>whnf
    refine ⟨rfl,?_,KK2.trans kkz⟩
    rw [hres,show ((c.learn x.term)).take1 x.abs draw=((c.learn x.term)).voted x.abs from (if_neg e1).trans (if_pos e2)];exact kz
   refine Ad (e2) ?_;conv=>whnf
   by_cases e3:x.kind=3
   ·refine Ac (e3) ?_;conv=>whnf
    have E35:x.abs.kind=3∨x.abs.kind=5 := .inl e3
    refine Aa rfl (k2).str rfl ?_;conv=>whnf
    by_cases s2:((c.learn x.term)).state=2
    ·refine Ac (s2) ?_;conv=>whnf
     refine ⟨rfl,?_,KK2⟩
     rw [hres,show ((c.learn x.term)).take1 x.abs draw=(c.learn x.term) from (if_neg e1).trans ((if_neg e2).trans ((if_pos E35).trans (if_pos s2)))];exact ⟨_,k2⟩
    refine Ad (s2) ?_;conv=>whnf
    refine ACalls.mono (follow_any ap.a ⟨_,k2⟩) ?_;rintro _ hf ⟨rfl,⟨cxf,qf⟩,kkf⟩;conv=>whnf
    have k4f:=kkf.get (Ne.symm ap.c) k42
    refine An ((few hf [b4])) [9] [0,1,2,3,4,5,6,7,8,9,10,11,12,13,14,15] (few_sub _ _) (by decide +kernel) ?_;conv=>whnf
    refine Aa rfl ((few_at (by simp)).trans k4f) rfl ?_;conv=>whnf
    refine C2 (waits_any hf draw hd0) ?_;conv=>whnf
    refine ⟨few_sub _ _,?_⟩;conv=>whnf
    refine Af rfl rfl rfl (qf.str) rfl (coreCells {((c.learn x.term)).follow with head:=x.src} cxf) rfl fun hg tg kg ag eg=>?_;conv=>whnf
    refine Af rfl rfl rfl (kg) rfl (coreCells {((c.learn x.term)).follow with head:=x.src,quiet:=0} cxf) rfl fun hh th kh ah eh=>?_;conv=>whnf
    refine ⟨(fun b y e=>by cases e),?_⟩;conv=>whnf
    refine Af rfl rfl rfl (kh) rfl (coreCells (((c.learn x.term)).heardOf x.abs draw) cxf) rfl fun hi ti ki ai ei=>?_;conv=>whnf
    refine ⟨(fun b y e=>by cases e),?_⟩;conv=>whnf
    have tt:=tg.trans (th.trans ti)
    have qi:=qf.set' (c':=((c.learn x.term)).heardOf x.abs draw) ap.a tt ki
    have k4i:=tt.get (tag_ne ap.c) k4f
    have KI:=KK2.trans ((kkf.trans tt.keep).keeps (by simp))
    have gi:=g.keeps KI
    have lki:LogOk (((c.learn x.term)).heardOf x.abs draw):=ok2.lk.same rfl rfl
    refine Aa rfl k4i rfl ?_;conv=>whnf
    refine Ad ((by rw [e3];decide)) ?_;conv=>whnf
    refine Ab rfl k4i rfl rfl ?_;conv=>whnf
    refine ACalls.mono (append_any ap ⟨_,qi⟩ lki x gi ch.ix.1 ch.ix.2 ch.el (fun e he=>by have:=ch.en e he;have hl:=given_len g e he;omega) (by have:=ok2.es;show (((c.learn x.term)).log.es.length+8)*48≤_;omega) (by show ((c.learn x.term)).out.entries.length≤_;rw [ok2.o2];simp) (by show ((c.learn x.term)).out.posts.length≤_;rw [ok2.o3];simp)) ?_;rintro _ hz ⟨rfl,kz,kkz⟩;conv=>whnf
    refine ⟨rfl,?_,KI.trans kkz⟩
    rw [hres,show ((c.learn x.term)).take1 x.abs draw=(((c.learn x.term)).heardOf x.abs draw).append x.abs from (if_neg e1).trans ((if_neg e2).trans ((if_pos E35).trans ((if_neg s2).trans (if_neg (by show ¬ x.kind=5;rw [e3];decide)))))];exact kz
   refine Ad (e3) ?_;conv=>whnf
   by_cases e5:x.kind=5
   ·refine Ac (e5) ?_;conv=>whnf
    have E35:x.abs.kind=3∨x.abs.kind=5 := .inr e5
    refine Aa rfl (k2).str rfl ?_;conv=>whnf
    by_cases s2:((c.learn x.term)).state=2
    ·refine Ac (s2) ?_;conv=>whnf
     refine ⟨rfl,?_,KK2⟩
     rw [hres,show ((c.learn x.term)).take1 x.abs draw=(c.learn x.term) from (if_neg e1).trans ((if_neg e2).trans ((if_pos E35).trans (if_pos s2)))];exact ⟨_,k2⟩
    refine Ad (s2) ?_;conv=>whnf
    refine ACalls.mono (follow_any ap.a ⟨_,k2⟩) ?_;rintro _ hf ⟨rfl,⟨cxf,qf⟩,kkf⟩;conv=>whnf
    have k4f:=kkf.get (Ne.symm ap.c) k42
    refine An ((few hf [b4])) [9] [0,1,2,3,4,5,6,7,8,9,10,11,12,13,14,15] (few_sub _ _) (by decide +kernel) ?_;conv=>whnf
    refine Aa rfl ((few_at (by simp)).trans k4f) rfl ?_;conv=>whnf
    refine C2 (waits_any hf draw hd0) ?_;conv=>whnf
    refine ⟨few_sub _ _,?_⟩;conv=>whnf
    refine Af rfl rfl rfl (qf.str) rfl (coreCells {((c.learn x.term)).follow with head:=x.src} cxf) rfl fun hg tg kg ag eg=>?_;conv=>whnf
    refine Af rfl rfl rfl (kg) rfl (coreCells {((c.learn x.term)).follow with head:=x.src,quiet:=0} cxf) rfl fun hh th kh ah eh=>?_;conv=>whnf
    refine ⟨(fun b y e=>by cases e),?_⟩;conv=>whnf
    refine Af rfl rfl rfl (kh) rfl (coreCells (((c.learn x.term)).heardOf x.abs draw) cxf) rfl fun hi ti ki ai ei=>?_;conv=>whnf
    refine ⟨(fun b y e=>by cases e),?_⟩;conv=>whnf
    have tt:=tg.trans (th.trans ti)
    have qi:=qf.set' (c':=((c.learn x.term)).heardOf x.abs draw) ap.a tt ki
    have k4i:=tt.get (tag_ne ap.c) k4f
    have KI:=KK2.trans ((kkf.trans tt.keep).keeps (by simp))
    have gi:=g.keeps KI
    have lki:LogOk (((c.learn x.term)).heardOf x.abs draw):=ok2.lk.same rfl rfl
    refine Aa rfl k4i rfl ?_;conv=>whnf
    refine Ac (e5) ?_;conv=>whnf
    refine Ab rfl k4i rfl rfl ?_;conv=>whnf
    obtain ⟨hob,hdl⟩:=ch.sn e5
    refine ACalls.mono (install_any ap ⟨_,qi⟩ lki.lo x gi hob (by omega) (by have:=ok2.es;show ((c.learn x.term)).log.es.length*48≤_;omega) (by show ((c.learn x.term)).out.posts.length≤_;rw [ok2.o3];simp)) ?_;rintro _ hz ⟨rfl,kz,kkz⟩;conv=>whnf
    refine ⟨rfl,?_,KI.trans kkz⟩
    rw [hres,show ((c.learn x.term)).take1 x.abs draw=(((c.learn x.term)).heardOf x.abs draw).install x.abs from (if_neg e1).trans ((if_neg e2).trans ((if_pos E35).trans ((if_neg s2).trans (if_pos e5))))];exact kz
   refine Ad (e5) ?_;conv=>whnf
   have E35:¬(x.abs.kind=3∨x.abs.kind=5):=fun c=>c.elim e3 e5
   refine Aa rfl (k2).str rfl ?_;conv=>whnf
   by_cases s2:((c.learn x.term)).state=2
   ·refine Ac (s2) ?_;conv=>whnf
    refine Ab rfl k42 rfl rfl ?_;conv=>whnf
    refine ACalls.mono (told_any ap ⟨_,k2⟩ ok2.lk ok2.nk ok2.mt ok2.s1 ok2.s2 x ch.s1 ch.s2 ch.ix.1 ch.ix.2 ok2.o1 ok2.rd (by rw [ok2.o3];simp)) ?_;rintro _ hz ⟨rfl,kz,kkz⟩;conv=>whnf
    refine ⟨rfl,?_,KK2.trans kkz⟩
    rw [hres,show ((c.learn x.term)).take1 x.abs draw=((c.learn x.term)).told x.abs from (if_neg e1).trans ((if_neg e2).trans ((if_neg E35).trans (if_pos s2)))];exact kz
   ·refine Ad (s2) ?_;conv=>whnf
    refine ⟨rfl,?_,KK2⟩
    rw [hres,show ((c.learn x.term)).take1 x.abs draw=(c.learn x.term) from (if_neg e1).trans ((if_neg e2).trans ((if_neg E35).trans (if_neg s2)))];exact ⟨_,k2⟩
  ·rw [show cmpI x.term c.term=0 from (if_neg c1).trans (if_neg c2)]
   conv=>whnf
   refine Ad ((by decide)) ?_;conv=>whnf
   refine Ad ((by decide)) ?_;conv=>whnf
   have hres:c.takeIn x.abs draw=c.take1 x.abs draw:=(if_neg c1).trans (if_neg c2)
   refine Aa rfl k4 rfl ?_;conv=>whnf
   by_cases e1:x.kind=1
   ·refine Ac (e1) ?_;conv=>whnf
    refine Ab rfl k4 rfl rfl ?_;conv=>whnf
    refine ACalls.mono (asked_any ap ⟨_,q⟩ ok.lk.lo x draw hd0 (by rw [ok.o3];simp)) ?_;rintro _ hz ⟨rfl,kz,kkz⟩;conv=>whnf
    refine ⟨rfl,?_,K1.trans (kkz.mono (by simp))⟩
    rw [hres,show (c).take1 x.abs draw=(c).asked x.abs draw from if_pos e1];exact kz
   refine Ad (e1) ?_;conv=>whnf
   by_cases e2:x.kind=2
   ·refine Ac (e2) ?_;conv=>whnf
    refine Ab rfl k4 rfl rfl ?_;conv=>whnf
    refine ACalls.mono (voted_any ap ⟨_,q⟩ ok.lk ok.s1 ok.s2 ok.v1 ok.v2 x ch.s1 ch.s2 (by have:=ok.es;omega) (by rw [ok.o2];simp) (by rw [ok.o3];simp)) ?_;rintro _ hz ⟨rfl,kz,kkz⟩;conv=>whnf
    refine ⟨rfl,?_,K1.trans kkz⟩
    rw [hres,show (c).take1 x.abs draw=(c).voted x.abs from (if_neg e1).trans (if_pos e2)];exact kz
   refine Ad (e2) ?_;conv=>whnf
   by_cases e3:x.kind=3
   ·refine Ac (e3) ?_;conv=>whnf
    have E35:x.abs.kind=3∨x.abs.kind=5 := .inl e3
    refine Aa rfl (q).str rfl ?_;conv=>whnf
    by_cases s2:(c).state=2
    ·refine Ac (s2) ?_;conv=>whnf
     refine ⟨rfl,?_,K1⟩
     rw [hres,show (c).take1 x.abs draw=c from (if_neg e1).trans ((if_neg e2).trans ((if_pos E35).trans (if_pos s2)))];exact ⟨_,q⟩
    refine Ad (s2) ?_;conv=>whnf
    refine ACalls.mono (follow_any ap.a ⟨_,q⟩) ?_;rintro _ hf ⟨rfl,⟨cxf,qf⟩,kkf⟩;conv=>whnf
    have k4f:=kkf.get (Ne.symm ap.c) k4
    refine An ((few hf [b4])) [9] [0,1,2,3,4,5,6,7,8,9,10,11,12,13,14,15] (few_sub _ _) (by decide +kernel) ?_;conv=>whnf
    refine Aa rfl ((few_at (by simp)).trans k4f) rfl ?_;conv=>whnf
    refine C2 (waits_any hf draw hd0) ?_;conv=>whnf
    refine ⟨few_sub _ _,?_⟩;conv=>whnf
    refine Af rfl rfl rfl (qf.str) rfl (coreCells {(c).follow with head:=x.src} cxf) rfl fun hg tg kg ag eg=>?_;conv=>whnf
    refine Af rfl rfl rfl (kg) rfl (coreCells {(c).follow with head:=x.src,quiet:=0} cxf) rfl fun hh th kh ah eh=>?_;conv=>whnf
    refine ⟨(fun b y e=>by cases e),?_⟩;conv=>whnf
    refine Af rfl rfl rfl (kh) rfl (coreCells ((c).heardOf x.abs draw) cxf) rfl fun hi ti ki ai ei=>?_;conv=>whnf
    refine ⟨(fun b y e=>by cases e),?_⟩;conv=>whnf
    have tt:=tg.trans (th.trans ti)
    have qi:=qf.set' (c':=(c).heardOf x.abs draw) ap.a tt ki
    have k4i:=tt.get (tag_ne ap.c) k4f
    have KI:=K1.trans ((kkf.trans tt.keep).keeps (by simp))
    have gi:=g.keeps KI
    have lki:LogOk ((c).heardOf x.abs draw):=ok.lk.same rfl rfl
    refine Aa rfl k4i rfl ?_;conv=>whnf
    refine Ad ((by rw [e3];decide)) ?_;conv=>whnf
    refine Ab rfl k4i rfl rfl ?_;conv=>whnf
    refine ACalls.mono (append_any ap ⟨_,qi⟩ lki x gi ch.ix.1 ch.ix.2 ch.el (fun e he=>by have:=ch.en e he;have hl:=given_len g e he;omega) (by have:=ok.es;show ((c).log.es.length+8)*48≤_;omega) (by show (c).out.entries.length≤_;rw [ok.o2];simp) (by show (c).out.posts.length≤_;rw [ok.o3];simp)) ?_;rintro _ hz ⟨rfl,kz,kkz⟩;conv=>whnf
    refine ⟨rfl,?_,KI.trans kkz⟩
    rw [hres,show (c).take1 x.abs draw=((c).heardOf x.abs draw).append x.abs from (if_neg e1).trans ((if_neg e2).trans ((if_pos E35).trans ((if_neg s2).trans (if_neg (by show ¬ x.kind=5;rw [e3];decide)))))];exact kz
   refine Ad (e3) ?_;conv=>whnf
   by_cases e5:x.kind=5
   ·refine Ac (e5) ?_;conv=>whnf
    have E35:x.abs.kind=3∨x.abs.kind=5 := .inr e5
    refine Aa rfl (q).str rfl ?_;conv=>whnf
    by_cases s2:(c).state=2
    ·refine Ac (s2) ?_;conv=>whnf
     refine ⟨rfl,?_,K1⟩
     rw [hres,show (c).take1 x.abs draw=c from (if_neg e1).trans ((if_neg e2).trans ((if_pos E35).trans (if_pos s2)))];exact ⟨_,q⟩
    refine Ad (s2) ?_;conv=>whnf
    refine ACalls.mono (follow_any ap.a ⟨_,q⟩) ?_;rintro _ hf ⟨rfl,⟨cxf,qf⟩,kkf⟩;conv=>whnf
    have k4f:=kkf.get (Ne.symm ap.c) k4
    refine An ((few hf [b4])) [9] [0,1,2,3,4,5,6,7,8,9,10,11,12,13,14,15] (few_sub _ _) (by decide +kernel) ?_;conv=>whnf
    refine Aa rfl ((few_at (by simp)).trans k4f) rfl ?_;conv=>whnf
    refine C2 (waits_any hf draw hd0) ?_;conv=>whnf
    refine ⟨few_sub _ _,?_⟩;conv=>whnf
    refine Af rfl rfl rfl (qf.str) rfl (coreCells {(c).follow with head:=x.src} cxf) rfl fun hg tg kg ag eg=>?_;conv=>whnf
    refine Af rfl rfl rfl (kg) rfl (coreCells {(c).follow with head:=x.src,quiet:=0} cxf) rfl fun hh th kh ah eh=>?_;conv=>whnf
    refine ⟨(fun b y e=>by cases e),?_⟩;conv=>whnf
    refine Af rfl rfl rfl (kh) rfl (coreCells ((c).heardOf x.abs draw) cxf) rfl fun hi ti ki ai ei=>?_;conv=>whnf
    refine ⟨(fun b y e=>by cases e),?_⟩;conv=>whnf
    have tt:=tg.trans (th.trans ti)
    have qi:=qf.set' (c':=(c).heardOf x.abs draw) ap.a tt ki
    have k4i:=tt.get (tag_ne ap.c) k4f
    have KI:=K1.trans ((kkf.trans tt.keep).keeps (by simp))
    have gi:=g.keeps KI
    have lki:LogOk ((c).heardOf x.abs draw):=ok.lk.same rfl rfl
    refine Aa rfl k4i rfl ?_;conv=>whnf
    refine Ac (e5) ?_;conv=>whnf
    refine Ab rfl k4i rfl rfl ?_;conv=>whnf
    obtain ⟨hob,hdl⟩:=ch.sn e5
    refine ACalls.mono (install_any ap ⟨_,qi⟩ lki.lo x gi hob (by omega) (by have:=ok.es;show (c).log.es.length*48≤_;omega) (by show (c).out.posts.length≤_;rw [ok.o3];simp)) ?_;rintro _ hz ⟨rfl,kz,kkz⟩;conv=>whnf
    refine ⟨rfl,?_,KI.trans kkz⟩
    rw [hres,show (c).take1 x.abs draw=((c).heardOf x.abs draw).install x.abs from (if_neg e1).trans ((if_neg e2).trans ((if_pos E35).trans ((if_neg s2).trans (if_pos e5))))];exact kz
   refine Ad (e5) ?_;conv=>whnf
   have E35:¬(x.abs.kind=3∨x.abs.kind=5):=fun c=>c.elim e3 e5
   refine Aa rfl (q).str rfl ?_;conv=>whnf
   by_cases s2:(c).state=2
   ·refine Ac (s2) ?_;conv=>whnf
    refine Ab rfl k4 rfl rfl ?_;conv=>whnf
    refine ACalls.mono (told_any ap ⟨_,q⟩ ok.lk ok.nk ok.mt ok.s1 ok.s2 x ch.s1 ch.s2 ch.ix.1 ch.ix.2 ok.o1 ok.rd (by rw [ok.o3];simp)) ?_;rintro _ hz ⟨rfl,kz,kkz⟩;conv=>whnf
    refine ⟨rfl,?_,K1.trans kkz⟩
    rw [hres,show (c).take1 x.abs draw=(c).told x.abs from (if_neg e1).trans ((if_neg e2).trans ((if_neg E35).trans (if_pos s2)))];exact kz
   ·refine Ad (s2) ?_;conv=>whnf
    refine ⟨rfl,?_,K1⟩
    rw [hres,show (c).take1 x.abs draw=c from (if_neg e1).trans ((if_neg e2).trans ((if_neg E35).trans (if_neg s2)))];exact ⟨_,q⟩
theorem Take_any {h:Heap} {p o oo:Nat} {c:CoreM} (ap:Apart o oo) (k:PCore h p o oo c) (ok:COk c) (x:PH) (g:Given h o oo x) (draw:Int) :
  ACalls PR 25 #[Ptr p, .agg x.cells.toArray,I draw] h (fun v h'=>((c.takes x.abs=false∨draw<0)∧v = .tuple #[.agg (outCells out0 ox0).toArray,I 2]∧Sub h h')∨(c.takes x.abs=true∧0≤draw∧∃ u,v = .tuple #[u,I 0]∧Told p o oo (c.take x.abs draw) h u h')):=by
 obtain ⟨cx,k0⟩:=k
 refine As mix Tryz.func25 rfl rfl Tryz.ntmps25 Tryz.results25 rfl ?_;conv=>whnf
 refine Al (0,1) (x.cells) rfl fun b4 h1 n1 s1 k1=>?_;conv=>whnf
 refine Ak (0,1) (outCells out0 ox0) rfl fun b6 h2 n2 s2 k2=>?_;conv=>whnf
 have s12:=s1.trans s2
 have k12:=s2 _ _ k1
 have k:=k0.sub s12
 have g2:=g.sub s12
 have n26:h b6=none:=by
  cases e:h b6 with
  | none=>rfl
  | some y=>rw [s1 _ _ e] at n2;cases n2
 refine C2 (none_core k) ?_;conv=>whnf
 refine Ab rfl k12 rfl rfl ?_;conv=>whnf
 obtain ⟨⟨t1,t2,t3,pk,tn1,tn2,tn3⟩,hby,hsc0,hsc1,hn1⟩:=id g2
 refine ACalls.mono (takes_any k pk hby hsc0 hsc1 (by omega)) ?_
 cases htk:c.takes x.abs with
 | false =>
  rintro _ _ ⟨rfl,rfl⟩
  conv=>whnf
  refine Ae rfl rfl rfl (k2) rfl (outCells out0 ox0) rfl fun h3 t3 k3 a3 e3=>?_;conv=>whnf
  refine Ab rfl k3 rfl rfl ?_;conv=>whnf
  exact .inl ⟨.inl rfl,rfl,a3 h s12 n26⟩
 | true =>
 rintro _ _ ⟨rfl,rfl⟩
 conv=>whnf
 by_cases c0:draw<0
 ·refine Ac (c0) ?_;conv=>whnf
  refine Ae rfl rfl rfl (k2) rfl (outCells out0 ox0) rfl fun h3 t3 k3 a3 e3=>?_;conv=>whnf
  refine Ab rfl k3 rfl rfl ?_;conv=>whnf
  exact .inl ⟨.inr c0,rfl,a3 h s12 n26⟩
 refine Ad (c0) ?_;conv=>whnf
 have ch:Checked x:=takes_facts htk
 have kb:∀ {h':Heap},Keeps [o,o+1,oo] h2 h'→h' b6=some (row (0,1) (outCells out0 ox0) 65):=fun kk=>kk _ _ _ (by have:=ap.c;have:=ap.d;simp;omega) k2
 refine Aa rfl k.str rfl ?_;conv=>whnf
 by_cases c1:c.state=2
 ·refine Ac (c1) ?_;conv=>whnf
  have HL:c.led=true:=by simp [CoreM.led,c1]
  refine Aa rfl k12 rfl ?_;conv=>whnf
  by_cases e1:x.kind=1
  ·refine Ad ((by simpa using e1)) ?_;conv=>whnf
   have hte:c.take x.abs draw=c:=(CoreM.take_eq c x.abs draw).trans (if_pos ⟨e1,HL⟩)
   rw [hte]
   have KR:=Keeps.refl [o,o+1,oo] h2
   refine ACalls.mono (done_any ap.a ap.c ap.d ⟨_,k⟩) ?_;rintro _ h5 ⟨ox,rfl,o5,q5,kk5⟩;conv=>whnf
   refine Ae rfl rfl rfl ((kk5.get (Ne.symm ap.c) (kb KR))) rfl (outCells _ ox) rfl fun h6 t6 k6 a6 e6=>?_;conv=>whnf
   refine Ab rfl k6 rfl rfl ?_;conv=>whnf
   exact .inr ⟨rfl,by omega,_,rfl,told_end ap n26 ((s12.keeps _).trans KR) kk5 o5 q5 t6 e6⟩
  ·refine Ac (e1) ?_;conv=>whnf
   have NL:¬(x.abs.kind=1∧c.led=true):=fun c=>e1 c.1
   have hte:c.take x.abs draw=c.takeIn x.abs draw:=(CoreM.take_eq c x.abs draw).trans (if_neg NL)
   rw [hte]
   refine Ab rfl k12 rfl rfl ?_;conv=>whnf
   refine ACalls.mono (take_any ap ⟨_,k⟩ ok.t x g2 ch draw (by omega)) ?_;rintro _ h4 ⟨rfl,k4,kk4⟩;conv=>whnf
   refine ACalls.mono (done_any ap.a ap.c ap.d k4) ?_;rintro _ h5 ⟨ox,rfl,o5,q5,kk5⟩;conv=>whnf
   refine Ae rfl rfl rfl ((kk5.get (Ne.symm ap.c) (kb kk4))) rfl (outCells _ ox) rfl fun h6 t6 k6 a6 e6=>?_;conv=>whnf
   refine Ab rfl k6 rfl rfl ?_;conv=>whnf
   exact .inr ⟨rfl,by omega,_,rfl,told_end ap n26 ((s12.keeps _).trans kk4) kk5 o5 q5 t6 e6⟩
 ·refine Ad (c1) ?_;conv=>whnf
  refine Aa rfl k.str rfl ?_;conv=>whnf
  by_cases c2:c.quiet<10
  ·refine Ac (c2) ?_;conv=>whnf
   refine Aa rfl k.str rfl ?_;conv=>whnf
   by_cases c3:c.head=0
   ·refine Ad ((by simpa using c3)) ?_;conv=>whnf
    have HF:c.led=false:=by simp [CoreM.led,c1,c3]
    refine Aa rfl k12 rfl ?_;conv=>whnf
    have NL:¬(x.abs.kind=1∧c.led=true):=fun c=>by rw [HF] at c;cases c.2
    by_cases e1:x.kind=1
    ·refine Ad ((by simpa using e1)) ?_;conv=>whnf
     have hte:c.take x.abs draw=c.takeIn x.abs draw:=(CoreM.take_eq c x.abs draw).trans (if_neg NL)
     rw [hte]
     refine Ab rfl k12 rfl rfl ?_;conv=>whnf
     refine ACalls.mono (take_any ap ⟨_,k⟩ ok.t x g2 ch draw (by omega)) ?_;rintro _ h4 ⟨rfl,k4,kk4⟩;conv=>whnf
     refine ACalls.mono (done_any ap.a ap.c ap.d k4) ?_;rintro _ h5 ⟨ox,rfl,o5,q5,kk5⟩;conv=>whnf
     refine Ae rfl rfl rfl ((kk5.get (Ne.symm ap.c) (kb kk4))) rfl (outCells _ ox) rfl fun h6 t6 k6 a6 e6=>?_;conv=>whnf
     refine Ab rfl k6 rfl rfl ?_;conv=>whnf
     exact .inr ⟨rfl,by omega,_,rfl,told_end ap n26 ((s12.keeps _).trans kk4) kk5 o5 q5 t6 e6⟩
    ·refine Ac (e1) ?_;conv=>whnf
     have hte:c.take x.abs draw=c.takeIn x.abs draw:=(CoreM.take_eq c x.abs draw).trans (if_neg NL)
     rw [hte]
     refine Ab rfl k12 rfl rfl ?_;conv=>whnf
     refine ACalls.mono (take_any ap ⟨_,k⟩ ok.t x g2 ch draw (by omega)) ?_;rintro _ h4 ⟨rfl,k4,kk4⟩;conv=>whnf
     refine ACalls.mono (done_any ap.a ap.c ap.d k4) ?_;rintro _ h5 ⟨ox,rfl,o5,q5,kk5⟩;conv=>whnf
     refine Ae rfl rfl rfl ((kk5.get (Ne.symm ap.c) (kb kk4))) rfl (outCells _ ox) rfl fun h6 t6 k6 a6 e6=>?_;conv=>whnf
     refine Ab rfl k6 rfl rfl ?_;conv=>whnf
     exact .inr ⟨rfl,by omega,_,rfl,told_end ap n26 ((s12.keeps _).trans kk4) kk5 o5 q5 t6 e6⟩
   ·refine Ac (c3) ?_;conv=>whnf
    have HL:c.led=true:=by simp [CoreM.led,c2,c3]
    refine Aa rfl k12 rfl ?_;conv=>whnf
    by_cases e1:x.kind=1
    ·refine Ad ((by simpa using e1)) ?_;conv=>whnf
     have hte:c.take x.abs draw=c:=(CoreM.take_eq c x.abs draw).trans (if_pos ⟨e1,HL⟩)
     rw [hte]
     have KR:=Keeps.refl [o,o+1,oo] h2
     refine ACalls.mono (done_any ap.a ap.c ap.d ⟨_,k⟩) ?_;rintro _ h5 ⟨ox,rfl,o5,q5,kk5⟩;conv=>whnf
     refine Ae rfl rfl rfl ((kk5.get (Ne.symm ap.c) (kb KR))) rfl (outCells _ ox) rfl fun h6 t6 k6 a6 e6=>?_;conv=>whnf
     refine Ab rfl k6 rfl rfl ?_;conv=>whnf
     exact .inr ⟨rfl,by omega,_,rfl,told_end ap n26 ((s12.keeps _).trans KR) kk5 o5 q5 t6 e6⟩
    ·refine Ac (e1) ?_;conv=>whnf
     have NL:¬(x.abs.kind=1∧c.led=true):=fun c=>e1 c.1
     have hte:c.take x.abs draw=c.takeIn x.abs draw:=(CoreM.take_eq c x.abs draw).trans (if_neg NL)
     rw [hte]
     refine Ab rfl k12 rfl rfl ?_;conv=>whnf
     refine ACalls.mono (take_any ap ⟨_,k⟩ ok.t x g2 ch draw (by omega)) ?_;rintro _ h4 ⟨rfl,k4,kk4⟩;conv=>whnf
     refine ACalls.mono (done_any ap.a ap.c ap.d k4) ?_;rintro _ h5 ⟨ox,rfl,o5,q5,kk5⟩;conv=>whnf
     refine Ae rfl rfl rfl ((kk5.get (Ne.symm ap.c) (kb kk4))) rfl (outCells _ ox) rfl fun h6 t6 k6 a6 e6=>?_;conv=>whnf
     refine Ab rfl k6 rfl rfl ?_;conv=>whnf
     exact .inr ⟨rfl,by omega,_,rfl,told_end ap n26 ((s12.keeps _).trans kk4) kk5 o5 q5 t6 e6⟩
  ·refine Ad (c2) ?_;conv=>whnf
   have HF:c.led=false:=by simp [CoreM.led,c1,c2]
   refine Aa rfl k12 rfl ?_;conv=>whnf
   have NL:¬(x.abs.kind=1∧c.led=true):=fun c=>by rw [HF] at c;cases c.2
   by_cases e1:x.kind=1
   ·refine Ad ((by simpa using e1)) ?_;conv=>whnf
    have hte:c.take x.abs draw=c.takeIn x.abs draw:=(CoreM.take_eq c x.abs draw).trans (if_neg NL)
    rw [hte]
    refine Ab rfl k12 rfl rfl ?_;conv=>whnf
    refine ACalls.mono (take_any ap ⟨_,k⟩ ok.t x g2 ch draw (by omega)) ?_;rintro _ h4 ⟨rfl,k4,kk4⟩;conv=>whnf
    refine ACalls.mono (done_any ap.a ap.c ap.d k4) ?_;rintro _ h5 ⟨ox,rfl,o5,q5,kk5⟩;conv=>whnf
    refine Ae rfl rfl rfl ((kk5.get (Ne.symm ap.c) (kb kk4))) rfl (outCells _ ox) rfl fun h6 t6 k6 a6 e6=>?_;conv=>whnf
    refine Ab rfl k6 rfl rfl ?_;conv=>whnf
    exact .inr ⟨rfl,by omega,_,rfl,told_end ap n26 ((s12.keeps _).trans kk4) kk5 o5 q5 t6 e6⟩
   ·refine Ac (e1) ?_;conv=>whnf
    have hte:c.take x.abs draw=c.takeIn x.abs draw:=(CoreM.take_eq c x.abs draw).trans (if_neg NL)
    rw [hte]
    refine Ab rfl k12 rfl rfl ?_;conv=>whnf
    refine ACalls.mono (take_any ap ⟨_,k⟩ ok.t x g2 ch draw (by omega)) ?_;rintro _ h4 ⟨rfl,k4,kk4⟩;conv=>whnf
    refine ACalls.mono (done_any ap.a ap.c ap.d k4) ?_;rintro _ h5 ⟨ox,rfl,o5,q5,kk5⟩;conv=>whnf
    refine Ae rfl rfl rfl ((kk5.get (Ne.symm ap.c) (kb kk4))) rfl (outCells _ ox) rfl fun h6 t6 k6 a6 e6=>?_;conv=>whnf
    refine Ab rfl k6 rfl rfl ?_;conv=>whnf
    exact .inr ⟨rfl,by omega,_,rfl,told_end ap n26 ((s12.keeps _).trans kk4) kk5 o5 q5 t6 e6⟩
theorem m5_andNot (a b:Int):m5 (IntKind.i64.wrap ((BitVec.ofInt 64 a &&& ~~~(BitVec.ofInt 64 b)).toNat:Int))=m5 a &&& (31 ^^^ m5 b):=by
 rw [m5_wrap,m5_nat]
 have ha:=m5_toNat a
 have hb:=m5_toNat b
 rw [m5_nat] at ha hb
 rw [← ha,← hb]
 apply Nat.eq_of_testBit_eq
 intro i
 have e1:∀ N:Nat,(N / 2 % 32).testBit i=(decide (i<5)&&N.testBit (i+1)):=fun N=>by
  rw [show (32:Nat)=2^5 from rfl,Nat.testBit_mod_two_pow,Nat.testBit_div_two]
 rw [Nat.testBit_and,Nat.testBit_xor,e1,e1,e1]
 have e2:(BitVec.ofInt 64 a &&& ~~~(BitVec.ofInt 64 b)).toNat.testBit (i+1)=((BitVec.ofInt 64 a).toNat.testBit (i+1)&&(decide (i+1<64) && !(BitVec.ofInt 64 b).toNat.testBit (i+1))):=by
  rw [BitVec.testBit_toNat,BitVec.testBit_toNat,BitVec.testBit_toNat,BitVec.getLsbD_and,BitVec.getLsbD_not]
 rw [e2]
 have e3:(31:Nat).testBit i=decide (i<5):=by
  rw [show (31:Nat)=2^5-1 from rfl,Nat.testBit_two_pow_sub_one]
 rw [e3]
 by_cases h:i<5
 ·simp [h,show i+1<64 by omega]
 ·simp [h]
theorem ls_andNot:∀ k,k<32→∀ j,j<32→ls (k &&& (31 ^^^ j))=(ls k).filter fun n => !bt j (n-1).toNat:=by decide +kernel
theorem settled_any {h:Heap} {p o oo:Nat} {c:CoreM} {x:CX} (k:CoreX 81 LA h p o oo c x) (lo:LOk c.log) :
  ACalls PR 64 #[Ptr p] h (fun v h'=>v = .bool c.settled∧h=h'):=by
 refine Ar (As mix Tryz.func64 rfl rfl Tryz.ntmps64 Tryz.results64 rfl ?_);conv=>whnf
 refine Am (h) [] (Sub.refl _) (by decide +kernel) ?_;conv=>whnf
 refine Aa rfl k.str rfl ?_
 refine Aa rfl k.str rfl ?_
 refine Aa rfl k.str rfl ?_;conv=>whnf
 refine C2 (Has_c k.log lo c.commit c.term) ?_;conv=>whnf
 refine ⟨Sub.refl _,?_⟩;conv=>whnf
 exact ⟨rfl,Sub.refl _⟩
theorem crewIn_range {L:LG} (by_:∀ e∈L.es,e.2.2.1=2→∀ x∈e.2.2.2,0≤x∧x<256):∀ (k:Nat) r,crewIn L k=some r→0≤r.1∧r.1≤255
 | 0,r,h=>by simp [crewIn] at h
 | k+1,r,h=>by
  unfold crewIn at h
  cases he:L.es[k]? with
  | none=>rw [he] at h;exact crewIn_range by_ k r h
  | some e =>
   rw [he] at h
   simp only [] at h
   by_cases h2:e.2.2.1=2
   ·rw [if_pos h2] at h
    cases h
    show 0≤crewNum e∧crewNum e≤255
    have:=by_ e (List.mem_of_getElem? he) h2
    unfold crewNum
    split
    ·rename_i x hx
     have:=this x (by rw [hx];simp)
     omega
    ·omega
   ·rw [if_neg h2] at h;exact crewIn_range by_ k r h
theorem crew_range {c:CoreM} (by_:∀ e∈c.log.es,e.2.2.1=2→∀ x∈e.2.2.2,0≤x∧x<256) (fc:0≤c.first∧c.first≤255) (sc:0≤c.snap.crew∧c.snap.crew≤255) (i:Int):0≤(c.crewUpTo i).1∧(c.crewUpTo i).1≤255:=by
 unfold CoreM.crewUpTo
 cases h:crewIn c.log (i-c.log.bi).toNat with
 | some r=>exact crewIn_range by_ _ _ h
 | none =>
  simp only []
  split
  ·exact sc
  ·exact fc
theorem crewNum_range {data:List Int} (hb:∀ z∈data,0≤z∧z<256):0≤crewNum (0,0,0,data)∧crewNum (0,0,0,data)≤255:=by
 unfold crewNum
 split
 ·rename_i x hx
  have hx:data=[x]:=hx
  have:=hb x (by rw [hx];simp)
  omega
 ·omega
theorem changes_eq (c:CoreM) (data:List Int):c.changes data=(crewOk (0,0,0,data)&&decide (chg c.crewNow.1 (crewNum (0,0,0,data))=0)&&decide (c.crewNow.2≤c.commit)&&c.settled):=rfl
theorem changes_any {h:Heap} {p o oo:Nat} {c:CoreM} {x:CX} (k:CoreX 81 LA h p o oo c x) (lk:LogOk c) (fc:0≤c.first∧c.first≤255) (sc:0≤c.snap.crew∧c.snap.crew≤255) {t:Tag} {d:SlV} {data:List Int} (g:Sl h t d.a d.n d.c 1 (bytesV data)) (hb:∀ z∈data,0≤z∧z<256) :
  ACalls PR 52 #[Ptr p, .slice d.a d.n d.c] h (fun v h'=>v = .bool (c.changes data)∧h=h'):=by
 have h1:=crew_range lk.by_ fc sc c.log.last.1
 have h2:=crewNum_range hb
 refine Ar (As mix Tryz.func52 rfl rfl Tryz.ntmps52 Tryz.results52 rfl ?_);conv=>whnf
 refine C2 (crewNow_any k lk.lo lk.by_) ?_;conv=>whnf
 refine ACalls.mono (crewOf_any h (⟨0,0,0,d.a,d.n,d.c,data⟩:EH) g hb) ?_
 rw [changes_eq]
 show ∀ v h',_∧_→_
 cases e1:crewOk (0,0,0,data) with
 | false =>
  rintro _ _ ⟨rfl,rfl⟩
  rw [show crewOk (EH.abs ⟨0,0,0,d.a,d.n,d.c,data⟩)=false from e1]
  conv=>whnf
  exact ⟨by simp,Sub.refl _⟩
 | true =>
  rintro _ _ ⟨rfl,rfl⟩
  rw [show crewOk (EH.abs ⟨0,0,0,d.a,d.n,d.c,data⟩)=true from e1]
  conv=>whnf
  rw [show crewNum (EH.abs ⟨0,0,0,d.a,d.n,d.c,data⟩)=crewNum (0,0,0,data) from rfl]
  refine C2 (Change_any h c.crewNow.1 (crewNum (0,0,0,data)) (by unfold CoreM.crewNow;omega) (by unfold CoreM.crewNow;omega) (by omega) (by omega)) ?_;conv=>whnf
  by_cases e2:chg c.crewNow.1 (crewNum (0,0,0,data))=0
  ·refine Ac (e2) ?_;conv=>whnf
   refine Aa rfl k.str rfl ?_;conv=>whnf
   by_cases e3:c.crewNow.2≤c.commit
   ·refine Ac (e3) ?_;conv=>whnf
    refine C2 (settled_any k lk.lo) ?_;conv=>whnf
    exact ⟨by simp [e2,e3],Sub.refl _⟩
   ·refine Ad (e3) ?_;conv=>whnf
    exact ⟨by simp [e3],Sub.refl _⟩
  ·refine Ad (e2) ?_;conv=>whnf
   exact ⟨by simp [e2],Sub.refl _⟩
def CoreM.asks (c:CoreM):CoreM:={c with round:=c.round+1,reads:=c.reads++[c.round+1]}
theorem Read_any {h:Heap} {p o oo:Nat} {c:CoreM} (ap:Apart o oo) (k:PCore h p o oo c) (ok:COk c) :
  ACalls PR 26 #[Ptr p] h (fun v h'=>(c.readE≠0∧v = .tuple #[I 0, .agg (outCells out0 ox0).toArray,I c.readE]∧Sub h h')∨(c.readE=0∧∃ u,v = .tuple #[I (c.round+1),u,I 0]∧Told p o oo c.read h u h')):=by
 obtain ⟨cx,k0⟩:=k
 have hr1:=ok.r1
 have hr2:=ok.r2
 have hrd:=ok.rd
 have hout:=ok.out
 refine As mix Tryz.func26 rfl rfl Tryz.ntmps26 Tryz.results26 rfl ?_;conv=>whnf
 refine Ak (0,1) (outCells out0 ox0) rfl fun b3 h1 n1 s1 k1=>?_;conv=>whnf
 have k:=k0.sub s1
 refine C2 (none_core k) ?_;conv=>whnf
 refine Aa rfl k.str rfl ?_;conv=>whnf
 by_cases c1:c.state=2
 ·refine Ad ((by simpa using c1)) ?_;conv=>whnf
  refine ACalls.mono (settled_any k ok.lk.lo) ?_
  cases hs:c.settled with
  | false =>
   rintro _ _ ⟨rfl,rfl⟩
   conv=>whnf
   refine Ae rfl rfl rfl (k1) rfl (outCells out0 ox0) rfl fun h3 t3 k3 a3 e3=>?_;conv=>whnf
   refine Ab rfl k3 rfl rfl ?_;conv=>whnf
   have he:c.readE=202:=by unfold CoreM.readE;rw [if_neg (by simpa using c1),if_pos hs]
   exact .inl ⟨by rw [he];decide,by rw [he];rfl,a3 h s1 n1⟩
  | true =>
   rintro _ _ ⟨rfl,rfl⟩
   conv=>whnf
   have he:c.readE=0:=by unfold CoreM.readE;rw [if_neg (by simpa using c1),if_neg (by rw [hs];simp)]
   refine Aa rfl k.str rfl ?_;conv=>whnf
   refine Ag (by omega) (by omega) (rfl) ?_;conv=>whnf
   refine AStore.oneTo rfl rfl rfl (k.str) rfl (coreCells {c with round:=c.round+1} cx) rfl ?_;conv=>whnf
   have k2:=k.set ap.a {c with round:=c.round+1} cx
   have kk2:=k.setKeep (coreCells {c with round:=c.round+1} cx)
   generalize h1.set p (row (o,0) (coreCells {c with round:=c.round+1} cx) 81)=h2 at k2 kk2 ⊢
   have hrl:cx.rd.n=c.reads.length:=by have:=k2.rd.sl.len;simpa using this.symm
   refine Am ((one h2 p)) [16] (one_sub _ _) (by decide +kernel) ?_;conv=>whnf
   refine Aa rfl ((one_at _ _).trans k2.str) rfl ?_
   refine Aa rfl ((one_at _ _).trans k2.str) rfl ?_;conv=>whnf
   refine Ap (0,1) [I (c.round+1)] rfl rfl rfl rfl rfl rfl rfl fun b6 h5 n5 s5 k6=>?_;conv=>whnf
   refine ⟨(one_sub _ _).trans s5,?_⟩;conv=>whnf
   refine AAppend.own (t:=(o,4)) (E:=3) (z:=1) (by_:=8) (zero:=[I 0]) (tx:=(0,1)) (xs:=[I (c.round+1)]) rfl ⟨_,rfl⟩ rfl rfl rfl rfl (by omega) (k2.rd.move fun _ _ e=>s5 _ _ e)
    ⟨rfl,Nat.le_refl _, .inr ⟨b6,0,_,_,_,rfl,k6,rfl⟩⟩ rfl (by omega) (by omega) fun a7 c7 h7 ow7 t7 _=>?_
   conv=>whnf
   have p7:=t7.get (u:=(o,0)) (by simp) (s5 _ _ k2.str)
   refine ⟨one_get fun y hy=>?_,?_⟩
   ·rw [k2.str] at hy;cases hy;exact p7
   conv=>whnf
   refine Af rfl rfl rfl (p7) rfl (coreCells c.asks {cx with rd:=⟨a7,cx.rd.n+1,c7⟩}) rfl fun h8 t8 k8 a8 e8=>?_;conv=>whnf
   have q8:CoreX 81 LA h8 p o oo c.asks {cx with rd:=⟨a7,cx.rd.n+1,c7⟩}:=by
    refine ⟨k8,((k2.sd.move fun _ _ e=>s5 _ _ e).keepT t7 (by simp)).keepT t8 (by simp),KeepT.log (KeepT.log (Moves.move k2.log fun _ _ _ _ e=>s5 _ _ e) t7) t8,?_,?_⟩
    ·have:=ow7.keepT t8 (by simp)
     show Own h8 (o,4) 3 a7 (cx.rd.n+1) c7 1 ((c.reads++[c.round+1]).map I)
     rw [List.map_append];exact this
    ·exact ((k2.out.move fun b t y _ e=>s5 _ _ e).keepT ap.a t7).keepT ap.a t8
   have KK8:Keeps [o,o+1,oo] h1 h8:=((kk2.trans (s5.keep o)).trans (t7.keep.trans t8.keep)).keeps (by simp)
   refine Aa rfl q8.str rfl ?_;conv=>whnf
   have lk8:LogOk c.asks:=ok.lk.same rfl rfl
   refine ACalls.mono (sendAll_any ap ⟨_,q8⟩ lk8 ok.nk (by show c.out.posts.length≤_;rw [hout];simp [out0])) ?_;rintro _ h9 ⟨rfl,k9,kk9⟩;conv=>whnf
   obtain ⟨y1,y2,y3,y4,y5,y6,y7,y8⟩:=sends_more c.asks.others c.asks
   have hsr:∀ (l:List Int) (d:CoreM),(l.foldl CoreM.send d).out.reads=d.out.reads:=by
    intro l
    induction l with
    | nil=>intro d;rfl
    | cons n l ih=>intro d;rw [List.foldl_cons,ih];unfold CoreM.send;split <;> rfl
   refine ACalls.mono (confirm_any ap k9 lk8.sendAll (by unfold CoreM.sendAll;rw [y1];exact ok.s1) (by unfold CoreM.sendAll;rw [y1];exact ok.s2) (by unfold CoreM.sendAll;rw [hsr,y7];show c.out.reads.length+(c.reads++[c.round+1]).length≤_;rw [hout,List.length_append];simp [out0];omega)) ?_;rintro _ h10 ⟨rfl,k10,kk10⟩;conv=>whnf
   have KK:Keeps [o,o+1,oo] h1 h10:=KK8.trans ((kk9.mono (by simp)).trans (kk10.mono (by simp)))
   have kb:h10 b3=some (row (0,1) (outCells out0 ox0) 65):=KK _ _ _ (by have:=ap.c;have:=ap.d;simp;omega) k1
   refine ACalls.mono (done_any ap.a ap.c ap.d k10) ?_;rintro _ h11 ⟨ox,rfl,o11,q11,kk11⟩;conv=>whnf
   refine Ae rfl rfl rfl ((kk11.get (Ne.symm ap.c) kb)) rfl (outCells _ ox) rfl fun h12 t12 k12 a12 e12=>?_;conv=>whnf
   refine Ab rfl k12 rfl rfl ?_;conv=>whnf
   exact .inr ⟨he,_,rfl,told_end ap n1 ((s1.keeps _).trans KK) kk11 o11 q11 t12 e12⟩
 ·refine Ac (c1) ?_;conv=>whnf
  refine Ae rfl rfl rfl (k1) rfl (outCells out0 ox0) rfl fun h3 t3 k3 a3 e3=>?_;conv=>whnf
  refine Ab rfl k3 rfl rfl ?_;conv=>whnf
  have he:c.readE=200:=by unfold CoreM.readE;rw [if_pos c1]
  exact .inl ⟨by rw [he];decide,by rw [he];rfl,a3 h s1 n1⟩
theorem listSome_any (h:Heap) (c:Int) (N:Nat):ACalls PR 55 #[I c] h (fun v h'=>∃ a cp f,v = .slice a (ls (m5 c)).length cp∧Sl h' (f,0) a (ls (m5 c)).length cp 1 ((ls (m5 c)).map I)∧N<f∧Sub h h'):=by
 refine ACalls.owner ⟨_,Tryz.func55,rfl,rfl⟩ fun o0 ho0 bnd=>?_
 refine (List_own h c (o0+N+1) (bnd.no (by omega))).mono ?_
 rintro v h' ⟨a,cp,e,ow,s⟩
 exact ⟨a,cp,_,e,ow.sl,by omega,s⟩
def CoreM.fresh1 (index:Int) (x:CoreM) (n:Int):CoreM:={x with next:=x.next.set n index,mtch:=x.mtch.set n 0,heard:=x.heard.set n 0}
theorem freshes (index:Int):∀ (l:List Int) (c:CoreM),(∀ n∈l,1≤n∧n≤5)→∃ a b d,l.foldl (CoreM.fresh1 index) c={c with next:=a,mtch:=b,heard:=d}∧∀ n:Int,1≤n→n≤5→(a.get n=c.next.get n∨a.get n=index)∧(b.get n=c.mtch.get n∨b.get n=0)
 | [],c,_=>⟨c.next,c.mtch,c.heard,rfl,fun n _ _=>⟨.inl rfl, .inl rfl⟩⟩
 | m::l,c,hl=>by
  obtain ⟨a,b,d,e,h⟩:=freshes index l (c.fresh1 index m) fun n hn=>hl n (by simp [hn])
  refine ⟨a,b,d,by rw [List.foldl_cons,e];rfl,fun n h1 h2=>?_⟩
  obtain ⟨x,y⟩:=h n h1 h2
  have ex:(c.fresh1 index m).next.get n=if n=m then index else c.next.get n:=Five.get_set _ _ _ _ h1 h2
  have ey:(c.fresh1 index m).mtch.get n=if n=m then 0 else c.mtch.get n:=Five.get_set _ _ _ _ h1 h2
  rw [ex] at x;rw [ey] at y
  by_cases hm:n=m
  ·rw [if_pos hm] at x y
   exact ⟨.inr (by rcases x with x | x <;> exact x), .inr (by rcases y with y | y <;> exact y)⟩
  ·rw [if_neg hm] at x y
   exact ⟨x,y⟩
theorem ls_in (k:Int):∀ n∈ls (m5 k),1≤n∧n≤5:=fun n hn=>by
 have:=List.all_eq_true.1 (ls_ok (m5 k) (m5_lt _)) n hn
 simpa [ok1] using this
theorem foldl_pick {P:Int→Bool} {f:CoreM→Int→CoreM}:∀ (l:List Int) (c:CoreM),l.foldl (fun x n=>if P n=true then x else f x n) c=(l.filter fun n => !P n).foldl f c
 | [],c=>rfl
 | n::l,c=>by
  rw [List.foldl_cons,foldl_pick l]
  cases h:P n <;> simp [h]
theorem ls_new (now was:Int):ls (m5 (IntKind.i64.wrap ((BitVec.ofInt 64 now &&& ~~~(BitVec.ofInt 64 was)).toNat:Int)))=(ls (m5 now)).filter fun n => !hasB was n:=by
 rw [m5_andNot,ls_andNot _ (m5_lt _) _ (m5_lt _)]
 refine List.filter_congr fun n hn=>?_
 have:=ls_in now n hn
 unfold hasB
 rw [decide_eq_true (by omega),Bool.true_and]
theorem CoreM.propose_eq (c:CoreM) (kind:Int) (data:List Int):c.propose kind data=(((ls (m5 (IntKind.i64.wrap ((BitVec.ofInt 64 (c.put kind data).crewNow.1 &&& ~~~(BitVec.ofInt 64 c.crewNow.1)).toNat:Int)))).foldl (CoreM.fresh1 (c.log.last.1+1)) (c.put kind data)).sendAll).rank:=by
 rw [ls_new,← foldl_pick (P:=hasB c.crewNow.1) (f:=CoreM.fresh1 (c.log.last.1+1))]
 rfl
theorem Propose_any {h:Heap} {p o oo:Nat} {c:CoreM} (ap:Apart o oo) (k:PCore h p o oo c) (ok:COk c) (kind:Int) {t:Tag} {d:SlV} {data:List Int} (g:Sl h t d.a d.n d.c 1 (bytesV data)) (hb:∀ z∈data,0≤z∧z<256) :
  ACalls PR 21 #[Ptr p,I kind, .slice d.a d.n d.c] h (fun v h'=>(c.proposeE kind data≠0∧v = .tuple #[I 0, .agg (outCells out0 ox0).toArray,I (c.proposeE kind data)]∧Sub h h') ∨
   (c.proposeE kind data=0∧∃ u,v = .tuple #[I (c.log.last.1+1),u,I 0]∧Told p o oo (c.propose kind data) h u h')):=by
 obtain ⟨cx,k0⟩:=k
 have hdl:data.length=d.n:=by have:=g.len;simpa [bytesV] using this
 have hl:=ok.lk.lo.last
 have ht:=ok.lk.lo.top
 have hl0:=ok.lk.lo.lo
 have hm1:=ok.m1
 have hm2:=ok.m2
 have hes:=ok.es
 have hout:=ok.out
 obtain ⟨E,hE⟩:∃ E,E=c.proposeE kind data:=⟨_,rfl⟩
 have hE':=hE
 unfold CoreM.proposeE at hE'
 rw [← hE]
 refine As mix Tryz.func21 rfl rfl Tryz.ntmps21 Tryz.results21 rfl ?_;conv=>whnf
 refine Ak (0,1) (outCells out0 ox0) rfl fun b7 h1 n1 s1 k1=>?_;conv=>whnf
 have k:=k0.sub s1
 refine C2 (none_core k) ?_;conv=>whnf
 refine Aa rfl k.str rfl ?_;conv=>whnf
 refine C2 (Last_c k.log ok.lk.lo) ?_;conv=>whnf
 refine Aa rfl k.str rfl ?_;conv=>whnf
 by_cases c1:c.state≠2
 ·refine Ac (c1) ?_;conv=>whnf
  have HC:=hE'.trans (if_pos c1)
  refine Ae rfl rfl rfl (k1) rfl (outCells out0 ox0) rfl fun h3 t3 k3 a3 e3=>?_;conv=>whnf
  refine Ab rfl k3 rfl rfl ?_;conv=>whnf
  exact .inl ⟨by rw [HC];decide,by rw [HC];rfl,a3 h s1 n1⟩
 refine Ad (c1) ?_;conv=>whnf
 rw [if_neg c1] at hE'
 by_cases ck1:kind=1
 ·refine Ad ((by simpa using ck1)) ?_;conv=>whnf
  have c2:¬(kind≠1∧kind≠2):=fun c=>c.1 ck1
  rw [if_neg c2] at hE'
  by_cases c3:1200<data.length
  ·refine Ac ((by omega)) ?_;conv=>whnf
   have HF:1200<data.length∨c.log.last.1=9007199254740991 := .inl c3
   have HC:=hE'.trans (if_pos HF)
   refine Ae rfl rfl rfl (k1) rfl (outCells out0 ox0) rfl fun h3 t3 k3 a3 e3=>?_;conv=>whnf
   refine Ab rfl k3 rfl rfl ?_;conv=>whnf
   exact .inl ⟨by rw [HC];decide,by rw [HC];rfl,a3 h s1 n1⟩
  refine Ad ((by omega)) ?_;conv=>whnf
  by_cases c4:c.log.last.1=9007199254740991
  ·refine Ac (c4) ?_;conv=>whnf
   have HF:1200<data.length∨c.log.last.1=9007199254740991 := .inr c4
   have HC:=hE'.trans (if_pos HF)
   refine Ae rfl rfl rfl (k1) rfl (outCells out0 ox0) rfl fun h3 t3 k3 a3 e3=>?_;conv=>whnf
   refine Ab rfl k3 rfl rfl ?_;conv=>whnf
   exact .inl ⟨by rw [HC];decide,by rw [HC];rfl,a3 h s1 n1⟩
  refine Ad (c4) ?_;conv=>whnf
  rw [if_neg (by omega)] at hE'
  refine Aa rfl k.str rfl ?_;conv=>whnf
  refine Ag (by omega) (by omega) (rfl) ?_;conv=>whnf
  by_cases c5:64≤c.log.last.1-c.commit
  ·refine Ac (c5) ?_;conv=>whnf
   have HC:=hE'.trans (if_pos c5)
   refine Ae rfl rfl rfl (k1) rfl (outCells out0 ox0) rfl fun h3 t3 k3 a3 e3=>?_;conv=>whnf
   refine Ab rfl k3 rfl rfl ?_;conv=>whnf
   exact .inl ⟨by rw [HC];decide,by rw [HC];rfl,a3 h s1 n1⟩
  refine Ad (c5) ?_;conv=>whnf
  rw [if_neg c5] at hE'
  refine Ad ((by omega)) ?_;conv=>whnf
  have HZ:=hE'.trans (if_neg fun c=>absurd c.1 (by omega))
  refine C2 (crewNow_any k ok.lk.lo ok.lk.by_) ?_;conv=>whnf
  refine ACalls.mono (put_any ap ⟨_,k⟩ ok.lk.lo (by omega) (by omega) kind (g.sub s1) (by omega) (by rw [hout];simp [out0])) ?_;rintro _ h2 ⟨rfl,⟨cx2,k2⟩,kk2⟩;conv=>whnf
  obtain ⟨dd,hdd⟩:∃ dd,dd=c.put kind data:=⟨_,rfl⟩
  obtain ⟨p1,p2,p3,p4,p5,p6,p7,p8⟩:=put_same c kind data
  have lk2:LogOk dd:=by rw [hdd];exact ok.lk.put (by omega) (fun _=>hb)
  rw [CoreM.propose_eq,← hdd]
  rw [← hdd] at k2 p1 p2 p3 p4 p5 p6 p7 p8
  refine C2 (crewNow_any k2 lk2.lo lk2.by_) ?_;conv=>whnf
  refine Aq rfl ?_;conv=>whnf
  refine ACalls.mono (listSome_any h2 (IntKind.i64.wrap ((BitVec.ofInt 64 dd.crewNow.1 &&& ~~~(BitVec.ofInt 64 c.crewNow.1)).toNat:Int)) (o+oo+2)) ?_
  rintro v h3 ⟨al,cp,f,rfl,sl,hf,s3⟩
  conv=>whnf
  have hin:=ls_in (IntKind.i64.wrap ((BitVec.ofInt 64 dd.crewNow.1 &&& ~~~(BitVec.ofInt 64 c.crewNow.1)).toNat:Int))
  have hll5:(ls (m5 (IntKind.i64.wrap ((BitVec.ofInt 64 dd.crewNow.1 &&& ~~~(BitVec.ofInt 64 c.crewNow.1)).toNat:Int)))).length≤5:=lsTo_len _ 5
  generalize ls (m5 (IntKind.i64.wrap ((BitVec.ofInt 64 dd.crewNow.1 &&& ~~~(BitVec.ofInt 64 c.crewNow.1)).toNat:Int)))=ll at sl hin hll5 ⊢
  refine ALoop.mk (fun e h'=>∃ e0,∃ j:Nat,e=updL 122 e0 [(0,Ptr p),(7,Ptr b7),(13,I (c.log.last.1+1)),(89, .slice al ll.length cp),(90,I ll.length),(91,I j)]∧j≤ll.length∧PCore h' p o oo ((ll.take j).foldl (CoreM.fresh1 (c.log.last.1+1)) dd)∧Keeps [o,o+1,oo] h1 h'∧Sl h' (f,0) al ll.length cp 1 (ll.map I)) (fun e=>ll.length-natOf (e 91))
   ⟨_,0,Au ⟨rfl,rfl,rfl,rfl,rfl,rfl,trivial⟩,by omega,⟨_,k2.sub s3⟩,kk2.trans (s3.keeps _),sl⟩ ?_
  rintro e h4 ⟨e0,j,rfl,hj,⟨cx4,k4⟩,kk4,s4⟩
  conv=>whnf
  by_cases hjn:j<ll.length
  ·refine Ac (by omega) ?_;conv=>whnf
   obtain ⟨n,hn⟩:∃ n,ll[j]? = some n:=⟨ll[j]'hjn,by simp⟩
   obtain ⟨hn1,hn2⟩:=hin n (List.mem_of_getElem? hn)
   obtain ⟨m,hm⟩:∃ m:Nat,n=m:=⟨n.toNat,by omega⟩
   obtain ⟨b,off,l,E,fz,rfl,hbb,hc⟩:=s4.pos (by omega)
   have g0:l[off+j*1]? = some (I n):=by rw [get_of_take hc (by omega),Nat.mul_one];simp [hn]
   refine Ai (z:=1) (j:=j) rfl hjn rfl rfl ?_;conv=>whnf
   refine Aa rfl hbb g0 ?_;conv=>whnf
   obtain ⟨e4,he4⟩:∃ e4,e4=(ll.take j).foldl (CoreM.fresh1 (c.log.last.1+1)) dd:=⟨_,rfl⟩
   rw [← he4] at k4
   refine An (h4) [11] [0,1,2,3,4,5,6,7,8,9,10,12,13,14,17,18,19,11,15,16,20,21] (Sub.refl _) (by decide +kernel) ?_;conv=>whnf
   refine Aj (n:=6) (z:=1) (j:=m) (by omega) (by omega) rfl rfl ?_;conv=>whnf
   refine Af rfl rfl rfl k4.str (by have:=next_cell e4 cx4 hn1 hn2;rw [show 0+14+1+m*1=15+n.toNat by omega];exact Nat.ble_eq_true_of_le (List.getElem?_eq_some_iff.1 this).1) (coreCells {e4 with next:=e4.next.set n (c.log.last.1+1)} cx4) (by rw [show 0+14+1+m*1=15+n.toNat by omega];exact next_set e4 cx4 hn1 hn2 _) fun h5 t5 k5 a5 x5=>?_;conv=>whnf
   refine Aj (n:=6) (z:=1) (j:=m) (by omega) (by omega) rfl rfl ?_;conv=>whnf
   refine Af rfl rfl rfl k5 (by have:=mtch_cell {e4 with next:=e4.next.set n (c.log.last.1+1)} cx4 hn1 hn2;rw [show 0+14+7+m*1=21+n.toNat by omega];exact Nat.ble_eq_true_of_le (List.getElem?_eq_some_iff.1 this).1) (coreCells {e4 with next:=e4.next.set n (c.log.last.1+1),mtch:=e4.mtch.set n 0} cx4) (by rw [show 0+14+7+m*1=21+n.toNat by omega];exact mtch_set {e4 with next:=e4.next.set n (c.log.last.1+1)} cx4 hn1 hn2 _) fun h6 t6 k6 a6 x6=>?_;conv=>whnf
   refine ⟨(fun b y e=>by cases e),?_⟩;conv=>whnf
   refine Aj (n:=6) (z:=1) (j:=m) (by omega) (by omega) rfl rfl ?_;conv=>whnf
   refine Af rfl rfl rfl k6 (by have:=heard_cell {e4 with next:=e4.next.set n (c.log.last.1+1),mtch:=e4.mtch.set n 0} cx4 hn1 hn2;rw [show 0+14+13+m*1=27+n.toNat by omega];exact Nat.ble_eq_true_of_le (List.getElem?_eq_some_iff.1 this).1) (coreCells (e4.fresh1 (c.log.last.1+1) n) cx4) (by rw [show 0+14+13+m*1=27+n.toNat by omega];exact heard_set {e4 with next:=e4.next.set n (c.log.last.1+1),mtch:=e4.mtch.set n 0} cx4 hn1 hn2 _) fun h7 t7 k7 a7 x7=>?_;conv=>whnf
   refine ⟨(fun b y e=>by cases e),?_⟩;conv=>whnf
   have tt:=t5.trans (t6.trans t7)
   have q7:=k4.set' (c':=e4.fresh1 (c.log.last.1+1) n) ap.a tt k7
   refine Ag (by omega) (by omega) ((by omega:(j:Int)+1=((j+1:Nat):Int))) ?_;conv=>whnf
   have kt7:Keeps [o,o+1,oo] h4 h7:=tt.keep.keeps (by simp)
   refine ⟨⟨_,j+1,Au ⟨rfl,rfl,rfl,rfl,rfl,rfl,trivial⟩,by omega,?_,kk4.trans kt7,s4.keeps kt7 (by simp;omega)⟩,?_⟩
   ·rw [List.take_succ_eq_append_getElem hjn,(List.getElem?_eq_some_iff.1 hn).2,List.foldl_append]
    rw [he4] at q7
    exact ⟨_,q7⟩
   ·show ll.length-(j+1)<ll.length-j
    omega
  ·refine Ad (by omega) ?_;conv=>whnf
   rw [List.take_of_length_le (by omega)] at k4
   obtain ⟨fa,fb,fd,fe,fh⟩:=freshes (c.log.last.1+1) ll dd hin
   obtain ⟨e4,he4⟩:∃ e4,e4=ll.foldl (CoreM.fresh1 (c.log.last.1+1)) dd:=⟨_,rfl⟩
   rw [← he4] at k4 ⊢
   rw [← he4] at fe
   have lk4:LogOk e4:=by rw [fe];exact lk2.same rfl rfl
   have nk4:NextOk e4:=fun n h1 h2=>by
    rw [fe];show 0≤fa.get n∧fa.get n≤_
    have:=ok.nk n h1 h2
    rcases (fh n h1 h2).1 with z | z <;> rw [z]
    ·rw [p1];exact this
    ·omega
   have o4:e4.out.posts.length≤999999990:=by rw [fe];show dd.out.posts.length≤_;rw [p4,hout];simp [out0]
   have sf4:e4.self=c.self:=by rw [fe];exact p3
   refine ACalls.mono (sendAll_any ap ⟨_,k4⟩ lk4 nk4 o4) ?_;rintro _ h8 ⟨rfl,k8,kk8⟩;conv=>whnf
   obtain ⟨y1,_⟩:=sends_more e4.others e4
   refine ACalls.mono (rank_any ap k8 lk4.sendAll (by unfold CoreM.sendAll;rw [y1,sf4];exact ok.s1) (by unfold CoreM.sendAll;rw [y1,sf4];exact ok.s2)) ?_;rintro _ h9 ⟨rfl,k9,kk9⟩;conv=>whnf
   have KK:Keeps [o,o+1,oo] h1 h9:=kk4.trans ((kk8.mono (by simp)).trans (kk9.keeps (by simp)))
   have kb:h9 b7=some (row (0,1) (outCells out0 ox0) 65):=KK _ _ _ (by have:=ap.c;have:=ap.d;simp;omega) k1
   refine ACalls.mono (done_any ap.a ap.c ap.d k9) ?_;rintro _ h11 ⟨ox,rfl,o11,q11,kk11⟩;conv=>whnf
   refine Ae rfl rfl rfl ((kk11.get (Ne.symm ap.c) kb)) rfl (outCells _ ox) rfl fun h12 t12 k12 a12 e12=>?_;conv=>whnf
   refine Ab rfl k12 rfl rfl ?_;conv=>whnf
   exact .inr ⟨HZ,_,rfl,told_end ap n1 ((s1.keeps _).trans KK) kk11 o11 q11 t12 e12⟩
 ·refine Ac (ck1) ?_;conv=>whnf
  by_cases ck2:kind=2
  ·refine Ad ((by simpa using ck2)) ?_;conv=>whnf
   have c2:¬(kind≠1∧kind≠2):=fun c=>c.2 ck2
   rw [if_neg c2] at hE'
   by_cases c3:1200<data.length
   ·refine Ac ((by omega)) ?_;conv=>whnf
    have HF:1200<data.length∨c.log.last.1=9007199254740991 := .inl c3
    have HC:=hE'.trans (if_pos HF)
    refine Ae rfl rfl rfl (k1) rfl (outCells out0 ox0) rfl fun h3 t3 k3 a3 e3=>?_;conv=>whnf
    refine Ab rfl k3 rfl rfl ?_;conv=>whnf
    exact .inl ⟨by rw [HC];decide,by rw [HC];rfl,a3 h s1 n1⟩
   refine Ad ((by omega)) ?_;conv=>whnf
   by_cases c4:c.log.last.1=9007199254740991
   ·refine Ac (c4) ?_;conv=>whnf
    have HF:1200<data.length∨c.log.last.1=9007199254740991 := .inr c4
    have HC:=hE'.trans (if_pos HF)
    refine Ae rfl rfl rfl (k1) rfl (outCells out0 ox0) rfl fun h3 t3 k3 a3 e3=>?_;conv=>whnf
    refine Ab rfl k3 rfl rfl ?_;conv=>whnf
    exact .inl ⟨by rw [HC];decide,by rw [HC];rfl,a3 h s1 n1⟩
   refine Ad (c4) ?_;conv=>whnf
   rw [if_neg (by omega)] at hE'
   refine Aa rfl k.str rfl ?_;conv=>whnf
   refine Ag (by omega) (by omega) (rfl) ?_;conv=>whnf
   by_cases c5:64≤c.log.last.1-c.commit
   ·refine Ac (c5) ?_;conv=>whnf
    have HC:=hE'.trans (if_pos c5)
    refine Ae rfl rfl rfl (k1) rfl (outCells out0 ox0) rfl fun h3 t3 k3 a3 e3=>?_;conv=>whnf
    refine Ab rfl k3 rfl rfl ?_;conv=>whnf
    exact .inl ⟨by rw [HC];decide,by rw [HC];rfl,a3 h s1 n1⟩
   refine Ad (c5) ?_;conv=>whnf
   rw [if_neg c5] at hE'
   refine Ac (ck2) ?_;conv=>whnf
   have hch:=changes_any k ok.lk ok.fc ok.sc (g.sub s1) hb
   refine ACalls.mono hch ?_
   clear hch
   cases hcc:c.changes data with
   | false =>
    rintro _ _ ⟨rfl,rfl⟩
    conv=>whnf
    have HC:=hE'.trans (if_pos ⟨ck2,hcc⟩)
    refine Ae rfl rfl rfl (k1) rfl (outCells out0 ox0) rfl fun h3 t3 k3 a3 e3=>?_;conv=>whnf
    refine Ab rfl k3 rfl rfl ?_;conv=>whnf
    exact .inl ⟨by rw [HC];decide,by rw [HC];rfl,a3 h s1 n1⟩
   | true =>
    rintro _ _ ⟨rfl,rfl⟩
    conv=>whnf
    have HZ:=hE'.trans (if_neg fun c=>by rw [hcc] at c;cases c.2)
    refine C2 (crewNow_any k ok.lk.lo ok.lk.by_) ?_;conv=>whnf
    refine ACalls.mono (put_any ap ⟨_,k⟩ ok.lk.lo (by omega) (by omega) kind (g.sub s1) (by omega) (by rw [hout];simp [out0])) ?_;rintro _ h2 ⟨rfl,⟨cx2,k2⟩,kk2⟩;conv=>whnf
    obtain ⟨dd,hdd⟩:∃ dd,dd=c.put kind data:=⟨_,rfl⟩
    obtain ⟨p1,p2,p3,p4,p5,p6,p7,p8⟩:=put_same c kind data
    have lk2:LogOk dd:=by rw [hdd];exact ok.lk.put (by omega) (fun _=>hb)
    rw [CoreM.propose_eq,← hdd]
    rw [← hdd] at k2 p1 p2 p3 p4 p5 p6 p7 p8
    refine C2 (crewNow_any k2 lk2.lo lk2.by_) ?_;conv=>whnf
    refine Aq rfl ?_;conv=>whnf
    refine ACalls.mono (listSome_any h2 (IntKind.i64.wrap ((BitVec.ofInt 64 dd.crewNow.1 &&& ~~~(BitVec.ofInt 64 c.crewNow.1)).toNat:Int)) (o+oo+2)) ?_
    rintro v h3 ⟨al,cp,f,rfl,sl,hf,s3⟩
    conv=>whnf
    have hin:=ls_in (IntKind.i64.wrap ((BitVec.ofInt 64 dd.crewNow.1 &&& ~~~(BitVec.ofInt 64 c.crewNow.1)).toNat:Int))
    have hll5:(ls (m5 (IntKind.i64.wrap ((BitVec.ofInt 64 dd.crewNow.1 &&& ~~~(BitVec.ofInt 64 c.crewNow.1)).toNat:Int)))).length≤5:=lsTo_len _ 5
    generalize ls (m5 (IntKind.i64.wrap ((BitVec.ofInt 64 dd.crewNow.1 &&& ~~~(BitVec.ofInt 64 c.crewNow.1)).toNat:Int)))=ll at sl hin hll5 ⊢
    refine ALoop.mk (fun e h'=>∃ e0,∃ j:Nat,e=updL 122 e0 [(0,Ptr p),(7,Ptr b7),(13,I (c.log.last.1+1)),(89, .slice al ll.length cp),(90,I ll.length),(91,I j)]∧j≤ll.length∧PCore h' p o oo ((ll.take j).foldl (CoreM.fresh1 (c.log.last.1+1)) dd)∧Keeps [o,o+1,oo] h1 h'∧Sl h' (f,0) al ll.length cp 1 (ll.map I)) (fun e=>ll.length-natOf (e 91))
     ⟨_,0,Au ⟨rfl,rfl,rfl,rfl,rfl,rfl,trivial⟩,by omega,⟨_,k2.sub s3⟩,kk2.trans (s3.keeps _),sl⟩ ?_
    rintro e h4 ⟨e0,j,rfl,hj,⟨cx4,k4⟩,kk4,s4⟩
    conv=>whnf
    by_cases hjn:j<ll.length
    ·refine Ac (by omega) ?_;conv=>whnf
     obtain ⟨n,hn⟩:∃ n,ll[j]? = some n:=⟨ll[j]'hjn,by simp⟩
     obtain ⟨hn1,hn2⟩:=hin n (List.mem_of_getElem? hn)
     obtain ⟨m,hm⟩:∃ m:Nat,n=m:=⟨n.toNat,by omega⟩
     obtain ⟨b,off,l,E,fz,rfl,hbb,hc⟩:=s4.pos (by omega)
     have g0:l[off+j*1]? = some (I n):=by rw [get_of_take hc (by omega),Nat.mul_one];simp [hn]
     refine Ai (z:=1) (j:=j) rfl hjn rfl rfl ?_;conv=>whnf
     refine Aa rfl hbb g0 ?_;conv=>whnf
     obtain ⟨e4,he4⟩:∃ e4,e4=(ll.take j).foldl (CoreM.fresh1 (c.log.last.1+1)) dd:=⟨_,rfl⟩
     rw [← he4] at k4
     refine An (h4) [11] [0,1,2,3,4,5,6,7,8,9,10,12,13,14,17,18,19,11,15,16,20,21] (Sub.refl _) (by decide +kernel) ?_;conv=>whnf
     refine Aj (n:=6) (z:=1) (j:=m) (by omega) (by omega) rfl rfl ?_;conv=>whnf
     refine Af rfl rfl rfl k4.str (by have:=next_cell e4 cx4 hn1 hn2;rw [show 0+14+1+m*1=15+n.toNat by omega];exact Nat.ble_eq_true_of_le (List.getElem?_eq_some_iff.1 this).1) (coreCells {e4 with next:=e4.next.set n (c.log.last.1+1)} cx4) (by rw [show 0+14+1+m*1=15+n.toNat by omega];exact next_set e4 cx4 hn1 hn2 _) fun h5 t5 k5 a5 x5=>?_;conv=>whnf
     refine Aj (n:=6) (z:=1) (j:=m) (by omega) (by omega) rfl rfl ?_;conv=>whnf
     refine Af rfl rfl rfl k5 (by have:=mtch_cell {e4 with next:=e4.next.set n (c.log.last.1+1)} cx4 hn1 hn2;rw [show 0+14+7+m*1=21+n.toNat by omega];exact Nat.ble_eq_true_of_le (List.getElem?_eq_some_iff.1 this).1) (coreCells {e4 with next:=e4.next.set n (c.log.last.1+1),mtch:=e4.mtch.set n 0} cx4) (by rw [show 0+14+7+m*1=21+n.toNat by omega];exact mtch_set {e4 with next:=e4.next.set n (c.log.last.1+1)} cx4 hn1 hn2 _) fun h6 t6 k6 a6 x6=>?_;conv=>whnf
     refine ⟨(fun b y e=>by cases e),?_⟩;conv=>whnf
     refine Aj (n:=6) (z:=1) (j:=m) (by omega) (by omega) rfl rfl ?_;conv=>whnf
     refine Af rfl rfl rfl k6 (by have:=heard_cell {e4 with next:=e4.next.set n (c.log.last.1+1),mtch:=e4.mtch.set n 0} cx4 hn1 hn2;rw [show 0+14+13+m*1=27+n.toNat by omega];exact Nat.ble_eq_true_of_le (List.getElem?_eq_some_iff.1 this).1) (coreCells (e4.fresh1 (c.log.last.1+1) n) cx4) (by rw [show 0+14+13+m*1=27+n.toNat by omega];exact heard_set {e4 with next:=e4.next.set n (c.log.last.1+1),mtch:=e4.mtch.set n 0} cx4 hn1 hn2 _) fun h7 t7 k7 a7 x7=>?_;conv=>whnf
     refine ⟨(fun b y e=>by cases e),?_⟩;conv=>whnf
     have tt:=t5.trans (t6.trans t7)
     have q7:=k4.set' (c':=e4.fresh1 (c.log.last.1+1) n) ap.a tt k7
     refine Ag (by omega) (by omega) ((by omega:(j:Int)+1=((j+1:Nat):Int))) ?_;conv=>whnf
     have kt7:Keeps [o,o+1,oo] h4 h7:=tt.keep.keeps (by simp)
     refine ⟨⟨_,j+1,Au ⟨rfl,rfl,rfl,rfl,rfl,rfl,trivial⟩,by omega,?_,kk4.trans kt7,s4.keeps kt7 (by simp;omega)⟩,?_⟩
     ·rw [List.take_succ_eq_append_getElem hjn,(List.getElem?_eq_some_iff.1 hn).2,List.foldl_append]
      rw [he4] at q7
      exact ⟨_,q7⟩
     ·show ll.length-(j+1)<ll.length-j
      omega
    ·refine Ad (by omega) ?_;conv=>whnf
     rw [List.take_of_length_le (by omega)] at k4
     obtain ⟨fa,fb,fd,fe,fh⟩:=freshes (c.log.last.1+1) ll dd hin
     obtain ⟨e4,he4⟩:∃ e4,e4=ll.foldl (CoreM.fresh1 (c.log.last.1+1)) dd:=⟨_,rfl⟩
     rw [← he4] at k4 ⊢
     rw [← he4] at fe
     have lk4:LogOk e4:=by rw [fe];exact lk2.same rfl rfl
     have nk4:NextOk e4:=fun n h1 h2=>by
      rw [fe];show 0≤fa.get n∧fa.get n≤_
      have:=ok.nk n h1 h2
      rcases (fh n h1 h2).1 with z | z <;> rw [z]
      ·rw [p1];exact this
      ·omega
     have o4:e4.out.posts.length≤999999990:=by rw [fe];show dd.out.posts.length≤_;rw [p4,hout];simp [out0]
     have sf4:e4.self=c.self:=by rw [fe];exact p3
     refine ACalls.mono (sendAll_any ap ⟨_,k4⟩ lk4 nk4 o4) ?_;rintro _ h8 ⟨rfl,k8,kk8⟩;conv=>whnf
     obtain ⟨y1,_⟩:=sends_more e4.others e4
     refine ACalls.mono (rank_any ap k8 lk4.sendAll (by unfold CoreM.sendAll;rw [y1,sf4];exact ok.s1) (by unfold CoreM.sendAll;rw [y1,sf4];exact ok.s2)) ?_;rintro _ h9 ⟨rfl,k9,kk9⟩;conv=>whnf
     have KK:Keeps [o,o+1,oo] h1 h9:=kk4.trans ((kk8.mono (by simp)).trans (kk9.keeps (by simp)))
     have kb:h9 b7=some (row (0,1) (outCells out0 ox0) 65):=KK _ _ _ (by have:=ap.c;have:=ap.d;simp;omega) k1
     refine ACalls.mono (done_any ap.a ap.c ap.d k9) ?_;rintro _ h11 ⟨ox,rfl,o11,q11,kk11⟩;conv=>whnf
     refine Ae rfl rfl rfl ((kk11.get (Ne.symm ap.c) kb)) rfl (outCells _ ox) rfl fun h12 t12 k12 a12 e12=>?_;conv=>whnf
     refine Ab rfl k12 rfl rfl ?_;conv=>whnf
     exact .inr ⟨HZ,_,rfl,told_end ap n1 ((s1.keeps _).trans KK) kk11 o11 q11 t12 e12⟩
  ·refine Ac (ck2) ?_;conv=>whnf
   have HC:=hE'.trans (if_pos ⟨ck1,ck2⟩)
   refine Ae rfl rfl rfl (k1) rfl (outCells out0 ox0) rfl fun h3 t3 k3 a3 e3=>?_;conv=>whnf
   refine Ab rfl k3 rfl rfl ?_;conv=>whnf
   exact .inl ⟨by rw [HC];decide,by rw [HC];rfl,a3 h s1 n1⟩
def Idle (T:TypeId) (LP:Heap→Nat→Nat→LG→Prop) (h:Heap) (p o:Nat) (c:CoreM):Prop :=
  ∃ x:CX,h p=some (row (o,0) (coreCells c x) T)∧Own h (o,3) 5 x.sd.a x.sd.n x.sd.c 1 (bytesV c.snap.data)∧LP h x.log (o+1) c.log∧Own h (o,4) 3 x.rd.a x.rd.n x.rd.c 1 (c.reads.map I)∧c.out=out0∧∀ h' oo,OutOk h' oo out0 x.ox
abbrev PIdle:=Idle 81 LA
abbrev RIdle:=Idle 98 RL
theorem Idle.all {T:TypeId} {LP:Heap→Nat→Nat→LG→Prop} {h:Heap} {p o:Nat} {c:CoreM} (k:Idle T LP h p o c) (oo:Nat):CoreAt T LP h p o oo c:=by
 obtain ⟨x,a,b,d,e,f,g⟩:=k
 exact ⟨x,a,b,d,e,by rw [f];exact g h oo⟩
theorem own_two {h:Heap} {t u:Tag} {E:TypeId} {a a':Option Addr} {n n' cap cap' z:Nat} {cs:List Value} (hn:t≠u) (ha:a=a') (hn2:n=n') (hc:cap=cap') (x:Own h t E a n cap z cs) (y:Own h u E a' n' cap' z cs):n=0∧cap=0∧cs=[]:=by
 subst ha;subst hn2;subst hc
 rcases x with x | ⟨b,l,rfl,hb,_⟩
 ·exact x
 ·rcases y with y | ⟨b',l',e,hb',_⟩
  ·exact y
  ·cases e
   rw [hb] at hb'
   exact absurd (by cases hb';rfl) hn
theorem Idle.of {T:TypeId} {LP:Heap→Nat→Nat→LG→Prop} {h:Heap} {p o:Nat} {c:CoreM} (k:∀ oo,oo≠0→CoreAt T LP h p o oo c) (hc:c.out=out0):Idle T LP h p o c:=by
 obtain ⟨x,k1⟩:=k 1 (by omega)
 obtain ⟨y,k2⟩:=k 2 (by omega)
 have e:=k1.str.symm.trans k2.str
 have e2:coreCells c x=coreCells c y:=by
  have:=Option.some.inj e
  simp only [row,Prod.mk.injEq,Obj.cells.injEq,true_and,and_true] at this
  simpa using this
 simp only [coreCells,List.cons.injEq,Value.slice.injEq,true_and,and_true] at e2
 obtain ⟨_,_,_,_,_,_,d1,d2,d3,d4⟩:=e2
 have o1:=k1.out
 have o2:=k2.out
 rw [hc] at o1 o2
 have ne:∀ r s:Nat,((1,r):Tag)≠(2,s):=fun r s c=>by cases c
 have e3:x.ox.es=[]:=List.map_eq_nil_iff.1 o1.ea
 have e4:x.ox.ps=[]:=List.map_eq_nil_iff.1 o1.pa
 have e5:y.ox.es=[]:=List.map_eq_nil_iff.1 o2.ea
 have e6:y.ox.ps=[]:=List.map_eq_nil_iff.1 o2.pa
 have w1:=own_two (ne 6 6) d1.1 d1.2.1 d1.2.2 o1.od o2.od
 have w2:=o1.oe;have w2':=o2.oe
 have w3:=o1.op;have w3':=o2.op
 rw [e3] at w2;rw [e5] at w2';rw [e4] at w3;rw [e6] at w3'
 have w2:=own_two (ne 1 1) d2.1 d2.2.1 d2.2.2 w2 w2'
 have w3:=own_two (ne 3 3) d3.1 d3.2.1 d3.2.2 w3 w3'
 have w4:=own_two (ne 7 7) d4.1 d4.2.1 d4.2.2 o1.qr o2.qr
 refine ⟨x,k1.str,k1.sd,k1.log,k1.rd,hc,fun h' oo=>⟨.inl ⟨w1.1,w1.2.1,rfl⟩,by rw [e3];exact .inl ⟨w2.1,w2.2.1,rfl⟩,by rw [e3];simp,by rw [e3];rfl,by rw [e3];simp,by rw [e4];exact .inl ⟨w3.1,w3.2.1,rfl⟩,by rw [e4];simp,by rw [e4];rfl, .inl ⟨w4.1,w4.2.1,rfl⟩⟩⟩
theorem Idle.keeps {T:TypeId} {LP:Heap→Nat→Nat→LG→Prop} [Moves LP] {h h':Heap} {p o:Nat} {c:CoreM} {os:List Nat} (k:Idle T LP h p o c) (m:Keeps os h h') (h1:o∉os) (h2:o+1∉os):Idle T LP h' p o c:=by
 obtain ⟨x,a,b,d,e,f,g⟩:=k
 exact ⟨x,m _ _ _ h1 a,b.move fun _ _ e=>m _ _ _ h1 e,Moves.move d fun _ _ _ ht e=>m _ _ _ (by rw [ht];exact h2) e,e.move fun _ _ e=>m _ _ _ h1 e,f,g⟩
theorem rwithin_any (h:Heap) (a b c:Int):ACalls PR 66 #[I a,I b,I c] h (fun v h'=>v = .bool (decide (b≤a∧a≤c))∧h=h'):=by
 refine Ar (As mix Tryz.func66 rfl rfl Tryz.ntmps66 Tryz.results66 rfl ?_);conv=>whnf
 by_cases c1:b≤a
 ·refine Ac (c1) ?_;conv=>whnf
  by_cases c2:a≤c
  ·refine Ac (c2) ?_;conv=>whnf
   exact ⟨by rw [decide_eq_true ⟨c1,c2⟩],Sub.refl _⟩
  ·refine Ad (c2) ?_;conv=>whnf
   exact ⟨by rw [decide_eq_false fun c=>c2 c.2],Sub.refl _⟩
 ·refine Ad (c1) ?_;conv=>whnf
  exact ⟨by rw [decide_eq_false fun c=>c1 c.1],Sub.refl _⟩
theorem rwithin_yes (h:Heap) {a b c:Int} (p:b≤a∧a≤c):ACalls PR 66 #[I a,I b,I c] h (fun v h'=>v = .bool true∧h=h'):=by
 have:=rwithin_any h a b c;rw [decide_eq_true p] at this;exact this
theorem rwithin_no (h:Heap) {a b c:Int} (p:¬(b≤a∧a≤c)):ACalls PR 66 #[I a,I b,I c] h (fun v h'=>v = .bool false∧h=h'):=by
 have:=rwithin_any h a b c;rw [decide_eq_false p] at this;exact this
theorem Crew_any {h:Heap} {p o oo:Nat} {c:CoreM} {x:CX} (k:CoreX 81 LA h p o oo c x) (lk:LogOk c):ACalls PR 29 #[Ptr p] h (fun v h'=>v=I c.crewNow.1∧h=h'):=by
 refine Ar (As mix Tryz.func29 rfl rfl Tryz.ntmps29 Tryz.results29 rfl ?_);conv=>whnf
 refine C2 (none_core k) ?_;conv=>whnf
 refine C2 (crewNow_any k lk.lo lk.by_) ?_;conv=>whnf
 exact ⟨rfl,Sub.refl _⟩
theorem Entry_any {h:Heap} {p o oo:Nat} {c:CoreM} {x:CX} (k:CoreX 81 LA h p o oo c x) (lk:LogOk c) (tg:Tag) (ht:tg≠(0,1)) (i:Int) :
  ACalls PR 28 #[Ptr p,I i] h (fun v h'=>∃ e:EH,v = .tuple #[.agg e.cells.toArray,I (c.log.get i).2]∧e.Mine h' tg∧e.abs=(c.log.get i).1∧e.n≤1200∧Sub h h'):=by
 refine As mix Tryz.func28 rfl rfl Tryz.ntmps28 Tryz.results28 rfl ?_;conv=>whnf
 refine Ak (0,1) (entry0z) rfl fun b4 h1 n1 s1 k1=>?_;conv=>whnf
 have q:=k.sub s1
 refine C2 (none_core q) ?_;conv=>whnf
 refine Aa rfl q.str rfl ?_;conv=>whnf
 refine ACalls.mono (Get_c q.log lk.lo tg ht i) ?_;rintro _ h2 ⟨e,rfl,m2,a2,e2,s2⟩;conv=>whnf
 refine Ae rfl rfl rfl ((s2 _ _ k1)) rfl (e.cells) rfl fun h3 t3 k3 a3 e3=>?_;conv=>whnf
 refine Ab rfl k3 rfl rfl ?_;conv=>whnf
 exact ⟨e,rfl,Own.keepT m2 t3 ht,a2,e2,a3 h (s1.trans s2) n1⟩
theorem LG.compact_ok {L:LG} {i:Int} (lo:LOk L) (h1:L.bi<i) (h2:i≤L.bi+L.es.length):(L.compact i).1=0:=by
 unfold LG.compact
 obtain ⟨e,he⟩:=spot_some_of h1 h2
 rw [he]
theorem Compact_any {h:Heap} {p o oo:Nat} {c:CoreM} (ap:Apart o oo) (k:PIdle h p o c) (ok:COk c) (hbi:c.log.bi≤c.snap.index) (hsi:c.snap.index≤9007199254740991) (i:Int) {t:Tag} {d:SlV} {data:List Int} (g:Sl h t d.a d.n d.c 1 (bytesV data)) (ht:t.1≠o+1) (hdn:d.n≤140737488355328) :
  ACalls PR 27 #[Ptr p,I i, .slice d.a d.n d.c] h (fun v h'=>(c.compactE i data≠0∧v = .tuple #[.agg #[I 0,I 0,I 0, .slice none 0 0],I (c.compactE i data)]∧Sub h h') ∨
   (c.compactE i data=0∧∃ a n cc,v = .tuple #[.agg #[I i,I (c.compact i data).snap.term,I (c.compact i data).snap.crew, .slice a n cc],I 0]∧Own h' (oo,6) 5 a n cc 1 (bytesV data)∧PIdle h' p o (c.compact i data)∧Keeps [o,o+1,oo] h h')):=by
 obtain ⟨cx,i1,i2,i3,i4,i5,i6⟩:=k
 have k0:CoreX 81 LA h p o oo c cx:=⟨i1,i2,i3,i4,by rw [i5];exact i6 h oo⟩
 have hdl:data.length=d.n:=by have:=g.len;simpa [bytesV] using this
 have hl:=ok.lk.lo.last
 have ht2:=ok.lk.lo.top
 have hl0:=ok.lk.lo.lo
 have hes:=ok.es
 have hout:=ok.out
 obtain ⟨E,hE⟩:∃ E,E=c.compactE i data:=⟨_,rfl⟩
 have hE':=hE
 unfold CoreM.compactE at hE'
 rw [← hE]
 refine As mix Tryz.func27 rfl rfl Tryz.ntmps27 Tryz.results27 rfl ?_;conv=>whnf
 refine Ak (0,1) ([I 0,I 0,I 0, .slice none 0 0]) rfl fun b6 h1 n1 s1 k1=>?_;conv=>whnf
 have k:=k0.sub s1
 refine C2 (none_core k) ?_;conv=>whnf
 refine Aa rfl k.str rfl ?_;conv=>whnf
 refine C2 (Last_c k.log ok.lk.lo) ?_;conv=>whnf
 refine Am (h1) [] (Sub.refl _) (by decide +kernel) ?_;conv=>whnf
 refine Aa rfl k.str rfl ?_;conv=>whnf
 refine Ag (by omega) (by omega) (rfl) ?_;conv=>whnf
 refine Aa rfl k.str rfl ?_;conv=>whnf
 refine Aq (show _=minI c.commit c.log.last.1 from rfl) ?_;conv=>whnf
 by_cases c1:c.snap.index+1≤i∧i≤minI c.commit c.log.last.1
 ·refine C2 (rwithin_yes h1 c1) ?_;conv=>whnf
  refine ⟨Sub.refl _,?_⟩;conv=>whnf
  rw [if_neg (by simpa using c1)] at hE'
  by_cases c2:8192<data.length
  ·refine Ac ((by omega)) ?_;conv=>whnf
   have HC:=hE'.trans (if_pos c2)
   refine Ae rfl rfl rfl (k1) rfl ([I 0,I 0,I 0, .slice none 0 0]) rfl fun h3 t3 k3 a3 e3=>?_;conv=>whnf
   refine Ab rfl k3 rfl rfl ?_;conv=>whnf
   exact .inl ⟨by rw [HC];decide,by rw [HC],a3 h s1 n1⟩
  refine Ad ((by omega)) ?_;conv=>whnf
  rw [if_neg c2] at hE'
  have hi2:i≤c.log.bi+c.log.es.length:=by
   have:=c1.2;unfold minI at this;split at this <;> omega
  rw [LG.compact_ok ok.lk.lo (by omega) hi2] at hE'
  refine C2 (crewUpTo_any k ok.lk.lo ok.lk.by_ i hi2) ?_;conv=>whnf
  refine Aa rfl k.str rfl ?_;conv=>whnf
  refine C2 (Term_c k.log ok.lk.lo i) ?_;conv=>whnf
  refine Aa rfl k.str rfl ?_;conv=>whnf
  refine ACalls.mono (Compact_c (by omega) k.log ok.lk.lo i (by omega)) ?_;rintro _ h2 ⟨rfl,l2,kk2⟩;conv=>whnf
  rw [LG.compact_ok ok.lk.lo (by omega) hi2]
  refine Ad ((by decide)) ?_;conv=>whnf
  have g2:=(g.sub s1).keep kk2 ht
  refine ACalls.mono (cloned_any h2 (o,3) (fun c=>ap.c (congrArg Prod.fst c)) (i:=i) (tm:=(c.log.term i).1) (cr:=(c.crewUpTo i).1) (d:=d) g2 hdn) ?_
  rintro v h3 ⟨a3,c3,rfl,ow3,s3⟩
  conv=>whnf
  have p3:=s3 _ _ (kk2.get (by simp) k.str)
  refine Ae rfl rfl rfl (p3) rfl (coreCells (c.compact i data) {cx with sd:=⟨a3,d.n,c3⟩}) rfl fun h4 t4 k4 a4 e4=>?_;conv=>whnf
  have q4:CoreX 81 LA h4 p o oo (c.compact i data) {cx with sd:=⟨a3,d.n,c3⟩}:=by
   refine ⟨k4,ow3.keepT t4 (by simp),KeepT.log (Moves.move l2 fun _ _ _ _ e=>s3 _ _ e) t4,((k.rd.move fun _ _ e=>kk2.get (by simp) e).move fun _ _ e=>s3 _ _ e).keepT t4 (by simp),?_⟩
   exact ((k.out.move fun b t y ht e=>kk2 _ _ _ (by rw [ht];exact ap.b.symm) e).move fun _ _ _ _ e=>s3 _ _ e).keepT ap.a t4
  refine Ab rfl q4.str rfl rfl ?_;conv=>whnf
  refine ACalls.mono (cloned_any h4 (oo,6) (fun c=>ap.d (congrArg Prod.fst c)) (i:=i) (tm:=(c.log.term i).1) (cr:=(c.crewUpTo i).1) (d:=⟨a3,d.n,c3⟩) q4.sd.sl hdn) ?_
  rintro v h5 ⟨a5,c5,rfl,ow5,s5⟩
  conv=>whnf
  have KK4:Keeps [o,o+1,oo] h1 h4:=(kk2.keeps (by simp)).trans ((s3.keeps _).trans (t4.keep.keeps (by simp)))
  have kb:h5 b6=some (row (0,1) [I 0,I 0,I 0, .slice none 0 0] 31):=s5 _ _ (KK4 _ _ _ (by have:=ap.c;have:=ap.d;simp;omega) k1)
  refine Ae rfl rfl rfl (kb) rfl ([I i,I (c.log.term i).1,I (c.crewUpTo i).1, .slice a5 d.n c5]) rfl fun h6 t6 k6 a6 e6=>?_;conv=>whnf
  refine Ab rfl k6 rfl rfl ?_;conv=>whnf
  refine .inr ⟨hE',a5,d.n,c5,rfl,ow5.keepT t6 (fun c=>ap.d (congrArg Prod.fst c)),?_,fun b t y hb e=>e6 _ _ (fun hc=>by rw [hc,n1] at e;cases e) (s5 _ _ (KK4 _ _ _ hb (s1 _ _ e)))⟩
  have q5:=q4.sub s5
  exact ⟨{cx with sd:=⟨a3,d.n,c3⟩},t6.get (u:=(o,0)) (Ne.symm (tag_ne ap.c)) q5.str,q5.sd.keepT t6 (Ne.symm (tag_ne ap.c)),Moves.move q5.log fun _ t _ ht e=>t6 _ _ _ (fun c=>by rw [c] at ht;simp at ht) e,q5.rd.keepT t6 (Ne.symm (tag_ne ap.c)),hout,i6⟩
 ·refine C2 (rwithin_no h1 c1) ?_;conv=>whnf
  refine ⟨Sub.refl _,?_⟩;conv=>whnf
  have HC:=hE'.trans (if_pos c1)
  refine Ae rfl rfl rfl (k1) rfl ([I 0,I 0,I 0, .slice none 0 0]) rfl fun h3 t3 k3 a3 e3=>?_;conv=>whnf
  refine Ab rfl k3 rfl rfl ?_;conv=>whnf
  exact .inl ⟨by rw [HC];decide,by rw [HC],a3 h s1 n1⟩
end Go.Ah
