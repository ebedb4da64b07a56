/- Texts that the law leans on, one behind the other. -/
import Derived.Test.YtdmjkpjedidipaaGreatKNm8
namespace Go.Ah
open Go.Proofs
set_option linter.unusedVariables false
set_option linter.unusedSimpArgs false
set_option maxRecDepth 20000
set_option maxHeartbeats 16000000
section
variable {h h':Heap} {N p:Nat} {x:NetM} {v:NX}
def NetM.kept1 (x:NetM) (n:Int) (o:OutM):NetM :=
  let y:={x with kept:=x.kept.set n (keptM (x.kept.get n) o)}
  if x.mails.length+o.posts.length<400 then {y with mails:=x.mails++o.posts} else y
structure KeepOk (x:NetM) (n:Int) (o:OutM):Prop where
  ko:keptOk (x.kept.get n) o=true
  fine:x.fine=true
  look:LookOk (x.kept1 n o) n
  s0:0≤(x.kept.get n).snap.index
  s1:(x.kept.get n).snap.index≤1000000000
  len:(x.kept.get n).entries.length≤1000000000
  i1:o.snap.index≤1000000000
  elen:o.entries.length≤1000000000
  plen:o.posts.length≤1000000
theorem keep_eq {n:Int} {o:OutM} (k:KeepOk x n o):x.keep n o=(x.kept1 n o).look n:=by
 unfold NetM.keep NetM.kept1
 simp only []
 rw [k.ko,k.fine,Bool.and_self]
theorem NetX.keSet (k:NetX h N p x v) {n:Int} (n1:1≤n) (n5:n≤5) {s:SH} {t1:Tag} (ht:N+12≤t1.1) (ok:s.Ok h' t1 (N+1,2) (N+1,6)) (kt:KeepT (N,0) h h') (hs:h' p=some (row (N,0) (netCells x {v with ke:=v.ke.set n s}) 41)) :
  NetX h' N p {x with kept:=x.kept.set n s.abs} {v with ke:=v.ke.set n s}:=by
 have mv:∀ b (t:Tag) y,t≠(N,0)→h b=some (t,y)→h' b=some (t,y):=fun b t y n e=>kt _ _ _ n e
 refine ⟨k.n0,hs,k.sz3,k.sz5,fun m m1 m2=>?_,k.none,fun m m1 m2=>?_,k.ml.move fun _ _ e=>mv _ _ _ (by simp) e,k.pa,fun y hy=>?_,k.mb,k.led.move fun _ e=>mv _ _ _ (by simp) e,k.ledE,k.cho.move fun _ e=>mv _ _ _ (by simp) e,k.choE,k.choA,fun y hy=>Sl.move (k.choG y hy) fun _ _ e=>mv _ _ _ (by simp) e⟩
 ·obtain ⟨b,hb,id⟩:=k.cores m m1 m2
  exact ⟨b,hb,id.move fun _ t _ ht e=>mv _ _ _ (fun c=>by rw [c] at ht;simp only at ht;omega) e⟩
 ·show ((v.ke.set n s).get m).abs=(x.kept.set n s.abs).get m∧∃ t1:Tag,N+12≤t1.1∧((v.ke.set n s).get m).Ok h' t1 (N+1,2) (N+1,6)
  rw [Fv.get_set _ _ _ _ m1 m2,Fv.get_set _ _ _ _ m1 m2]
  by_cases z:m=n
  ·rw [if_pos z,if_pos z];exact ⟨rfl,t1,ht,ok⟩
  ·rw [if_neg z,if_neg z]
   obtain ⟨q1,t1,q2,q3⟩:=k.kept m m1 m2
   exact ⟨q1,t1,q2,q3.move fun _ t _ ht e=>mv _ _ _ (by rcases ht with rfl | rfl | rfl <;> (intro c;have:=congrArg Prod.fst c;have:=congrArg Prod.snd c;simp only at *;omega)) e⟩
 ·obtain ⟨r,hr⟩:=k.ps y hy
  exact ⟨r,hr.move fun _ t _ ht e=>mv _ _ _ (by rcases ht with rfl | rfl | rfl <;> simp) e⟩
theorem NetX.mlSet (k:NetX h N p x v) {s:SlV} {ps:List PH} {l:List PostM} (kt:∀ b (t:Tag) y,t≠(N,0)→t≠(N,3)→h b=some (t,y)→h' b=some (t,y)) (hs:h' p=some (row (N,0) (netCells x {v with ml:=s}) 41))
  (ow:Own h' (N,3) 49 s.a s.n s.c 14 (ps.map PH.cells).flatten) (pa:ps.map PH.abs=l) (pk:∀ y∈ps,∃ r,y.Ok h (N+1,r) (N+1,5) (N+1,6)) (hl:l.length≤400) :
  NetX h' N p {x with mails:=l} {v with ml:=s,ps:=ps}:=by
 refine ⟨k.n0,hs,k.sz3,k.sz5,fun m m1 m2=>?_,k.none,fun m m1 m2=>?_,ow,pa,fun y hy=>?_,hl,k.led.move fun _ e=>kt _ _ _ (by simp) (by simp) e,k.ledE,k.cho.move fun _ e=>kt _ _ _ (by simp) (by simp) e,k.choE,k.choA,fun y hy=>Sl.move (k.choG y hy) fun _ _ e=>kt _ _ _ (by simp) (by simp) e⟩
 ·obtain ⟨b,hb,id⟩:=k.cores m m1 m2
  exact ⟨b,hb,id.move fun _ t _ ht e=>kt _ _ _ (fun c=>by rw [c] at ht;simp only at ht;omega) (fun c=>by rw [c] at ht;simp only at ht;omega) e⟩
 ·obtain ⟨q1,t1,q2,q3⟩:=k.kept m m1 m2
  exact ⟨q1,t1,q2,q3.move fun _ t _ ht e=>kt _ _ _ (by rcases ht with rfl | rfl | rfl <;> (intro c;have:=congrArg Prod.fst c;have:=congrArg Prod.snd c;simp only at *;omega)) (by rcases ht with rfl | rfl | rfl <;> (intro c;have:=congrArg Prod.fst c;have:=congrArg Prod.snd c;simp only at *;omega)) e⟩
 ·obtain ⟨r,hr⟩:=pk y hy
  exact ⟨r,hr.move fun _ t _ ht e=>kt _ _ _ (by rcases ht with rfl | rfl | rfl <;> simp) (by rcases ht with rfl | rfl | rfl <;> simp) e⟩
theorem OutOk.local {o:OutM} {y:OX} {M:Nat} (k:OutOk h M o y) (hM:M≠0) (kt:KeepT (0,1) h h'):OutOk h' M o y:=k.move fun b t z ht e=>kt _ _ _ (fun c=>by rw [c] at ht;exact hM ht.symm) e
theorem Made.ok {y:PH} {M r:Nat} (m:y.Made h M r):y.Ok h (M,r) (M,5) (M,6) :=
 ⟨⟨m.es.sl,fun e he=>Own.sl (m.ed e he),fun e he=>by have:=m.sm e he;omega⟩,m.sd.sl⟩
theorem keep_any (k:NetX h N p x v) {n:Int} (n1:1≤n) (n2:n≤x.size) {o:OutM} {ox:OX} (out:OutOk h (N+1) o ox) (ok:KeepOk x n o) :
  ACalls PR 59 #[Ptr p,I n, .agg (outCells o ox).toArray] h (fun r h'=>r = .tuple #[]∧(∃ v',NetX h' N p (x.keep n o) v')∧Low N h h'):=by
 rw [keep_eq ok]
 refine ACalls.owner ⟨_,Tryz.func59,rfl,rfl⟩ fun o0 ho0 bnd=>?_
 have hN:=k.n0
 have hs5:=k.sz5
 have n5:n≤5:=by omega
 obtain ⟨m,hm⟩:∃ m:Nat,n=m:=⟨n.toNat,by omega⟩
 obtain ⟨ka,t1,kt1,kok⟩:=k.kept n n1 n5
 obtain ⟨s,hs⟩:∃ s,s=v.ke.get n:=⟨_,rfl⟩
 rw [← hs] at ka kok
 have o1:=ok.ko;have o3:=ok.s0;have o4:=ok.s1;have o5:=ok.len;have o6:=ok.i1;have o7:=ok.elen;have o8:=ok.plen
 have olk:=ok.look
 have e0:x.kept1 n o=(let y:={x with kept:=x.kept.set n (keptM s.abs o)};if x.mails.length+o.posts.length<400 then {y with mails:=x.mails++o.posts} else y):=by rw [ka];rfl
 rw [e0] at olk ⊢
 clear e0
 obtain ⟨KM,hKM⟩:∃ KM,KM=keptM s.abs o:=⟨_,rfl⟩
 rw [← hKM] at olk ⊢
 simp only [] at olk ⊢
 rw [← ka] at o1 o3 o4 o5
 have hsl:s.es.length=s.e.n:=kok.es.len
 have hlen:s.abs.entries.length=s.e.n:=by show (s.es.map EH.abs).length=_;rw [List.length_map,hsl]
 have hse:s.abs.entries=s.es.map EH.abs:=rfl
 have hsi:s.abs.snap.index=s.si:=rfl
 rw [hsi] at o3 o4
 rw [hlen] at o5
 have t01:((0,1):Tag)≠(N,0):=fun c=>by have:=congrArg Prod.fst c;simp only at this;omega
 obtain ⟨tg,htg⟩:∃ tg:Tag,tg=(o0+N+12,4):=⟨_,rfl⟩
 have htg0:((0,1):Tag)≠tg:=fun c=>by rw [htg] at c;have:=congrArg Prod.fst c;simp only at this;omega
 have hon:ox.es.length=ox.oe.n:=by have:=out.oe.sl.len;rw [encs_length] at this;omega
 have hoe:ox.oe.n≤1000000000:=by rw [← hon];have:=congrArg List.length out.ea;rw [List.length_map] at this;omega
 have hpn:ox.ps.length=ox.op.n:=by have:=out.op.sl.len;rw [flat_len (ph_len ox.ps)] at this;simp at this;omega
 have hpo:ox.ps.length=o.posts.length:=by have:=congrArg List.length out.pa;rw [List.length_map] at this;omega
 have hmn:v.ps.length=v.ml.n:=by have:=k.ml.sl.len;rw [flat_len (ph_len v.ps)] at this;simp at this;omega
 have hmo:v.ps.length=x.mails.length:=by have:=congrArg List.length k.pa;rw [List.length_map] at this;omega
 have hmb:=k.mb
 have kc:((netCells x v).drop (0+8+m*7)).take 7=s.cells:=by
  rw [show 0+8+m*7=8+n.toNat*7 by omega,kept_cells x v n1 n5,hs]
 refine At mix Tryz.func59 rfl rfl Tryz.ntmps59 Tryz.results59 rfl ?_;conv=>whnf
 refine Al (0,1) (outCells o ox) rfl fun b5 h1 n1' s1 q1=>?_;conv=>whnf
 have k1:=k.sub s1
 refine Aj (n:=6) (z:=7) (j:=m) (by omega) (by omega) rfl rfl ?_;conv=>whnf
 refine Ab rfl k1.str kc rfl ?_;conv=>whnf
 refine Ak (0,1) ([I 0,I 0,I 0,I 0,I 0, .slice none 0 0, .slice none 0 0]) rfl fun b6 h2 n2' s2 q2=>?_;conv=>whnf
 refine Ae rfl rfl rfl (q2) rfl (s.cells) rfl fun h3 t3 q3 a3 e3=>?_;conv=>whnf
 have b56:b5≠b6:=fun c=>by rw [c] at q1;rw [q1] at n2';cases n2'
 have q53:=e3 _ _ b56 (s2 _ _ q1)
 have n6h:h b6=none:=by
  cases e:h b6 with
  | none=>rfl
  | some y=>rw [s1 _ _ e] at n2';cases n2'
 have s3:Sub h h3:=a3 h (s1.trans s2) n6h
 have Q63:=q3
 clear q1 q2 t3 a3 e3 k1 s1 s2 n2' q3
 obtain ⟨S1,hS1⟩:∃ S1:SH,S1={s with term:=o.term,vote:=o.vote}:=⟨_,rfl⟩
 have hfirst:(if o.hard=true then ({s.abs with term:=o.term,vote:=o.vote}:SavedM) else s.abs)=S1.abs∧(o.hard=false→S1=s):=by
  unfold keptOk at o1
  simp only [] at o1
  have hf:(decide ((if o.hard=true then ({s.abs with term:=o.term,vote:=o.vote}:SavedM) else s.abs).term=o.term)&&decide ((if o.hard=true then ({s.abs with term:=o.term,vote:=o.vote}:SavedM) else s.abs).vote=o.vote))=true:=by
   split at o1
   ·simp only [Bool.and_eq_true] at o1 ⊢;exact o1.1.1
   ·exact o1
  cases hh:o.hard with
  | true=>rw [hS1];exact ⟨rfl,fun c=>by cases c⟩
  | false =>
   rw [hh] at hf
   simp only [Bool.false_eq_true,if_false,Bool.and_eq_true,decide_eq_true_eq] at hf
   obtain ⟨f1,f2⟩:=hf
   have f1':s.term=o.term:=f1
   have f2':s.vote=o.vote:=f2
   have:S1=s:=by rw [hS1,← f1',← f2']
   rw [this]
   exact ⟨rfl,fun _=>rfl⟩
 obtain ⟨hA,hB⟩:=hfirst
 have hcut:∀ S:SavedM,S=(if 0<o.snap.index then snappedM S1.abs o.snap else S1.abs)→0<o.cut→S.snap.index<o.cut∧o.cut≤S.snap.index+S.entries.length:=by
  rintro S rfl hc
  unfold keptOk at o1
  simp only [] at o1
  rw [hA,if_pos hc] at o1
  simp only [Bool.and_eq_true,decide_eq_true_eq] at o1
  exact ⟨o1.1.2,o1.2⟩
 have hKM2:KM=(let s2:=if 0<o.snap.index then snappedM S1.abs o.snap else S1.abs
   let s3:=if 0<o.cut then {s2 with entries:=s2.entries.take (o.cut-s2.snap.index-1).toNat} else s2
   ({s3 with entries:=s3.entries++o.entries}:SavedM)):=by
  rw [hKM];unfold keptM;simp only [];rw [hA]
 have SOK1:∀ {H:Heap},Sub h H→S1.Ok H t1 (N+1,2) (N+1,6):=fun sb=>by
  rw [hS1];exact ⟨⟨kok.es.sl.sub sb,fun e he=>Sl.sub (kok.es.good e he) sb,kok.es.small⟩,kok.sd.sub sb⟩
 have hS1l:S1.e.n≤1000000000:=by rw [hS1];exact o5
 have hS1i:0≤S1.si∧S1.si≤1000000000:=by rw [hS1];exact ⟨o3,o4⟩
 clear hKM hA o1
 simp only [] at hKM2
 refine AIf.cut (fun e h'=>∃ e0:Env,e=updL 132 e0 [(0,Ptr p),(1,I n),(5,Ptr b5),(6,Ptr b6)]∧h' b5=some (row (0,1) (outCells o ox) 65)∧h' b6=some (row (0,1) S1.cells 34)∧Sub h h') ?_ ?_
 ·conv=>whnf
  rcases Bool.eq_false_or_eq_true o.hard with hh | hh
  ·refine Aa (v := .bool true) rfl q53 (by show some (Value.bool o.hard)=_;rw [hh]) ?_;conv=>whnf
   refine Aa rfl q53 rfl ?_;conv=>whnf
   refine Af rfl rfl rfl (Q63) rfl (({s with term:=o.term}:SH).cells) rfl fun h4 t4 q4 a4 e4=>?_;conv=>whnf
   have q54:=e4 _ _ b56 q53
   refine Aa rfl q54 rfl ?_;conv=>whnf
   refine Af rfl rfl rfl (q4) rfl (({s with term:=o.term,vote:=o.vote}:SH).cells) rfl fun h5 t5 q5 a5 e5=>?_;conv=>whnf
   have q55:=e5 _ _ b56 q54
   have s5:Sub h h5:=a5 h (a4 h s3 n6h) n6h
   rw [← hS1] at q5
   clear t4 q4 a4 e4 t5 a5 e5 q54
   exact ⟨_,Au ⟨rfl,rfl,rfl,rfl,trivial⟩,q55,q5,s5⟩
  ·refine Aa (v := .bool false) rfl q53 (by show some (Value.bool o.hard)=_;rw [hh]) ?_;conv=>whnf
   have q5:=Q63
   rw [← hB hh] at q5
   exact ⟨_,Au ⟨rfl,rfl,rfl,rfl,trivial⟩,q53,q5,s3⟩
 rintro e hA ⟨e0,rfl,A5,A6,ASUB⟩
 conv=>whnf
 refine Av ?_;conv=>whnf
 refine Aa rfl (k.sub ASUB).str rfl ?_
 refine Aa rfl A6 rfl ?_
 refine Aa rfl A5 rfl ?_;conv=>whnf
 refine Ac (by rw [hS1]) ?_;conv=>whnf
 refine Aa rfl A6 rfl ?_
 refine Aa rfl A5 rfl ?_;conv=>whnf
 refine Ac (by rw [hS1]) ?_;conv=>whnf
 refine Af rfl rfl rfl ((k.sub ASUB).str) rfl (netCells x v) rfl fun h15 t15 q15 a15 e15=>?_;conv=>whnf
 have s15:Sub h h15:=fun b y e=>by
  by_cases z:b=p
  ·subst z;rw [k.str] at e;cases e;exact q15
  ·exact e15 _ _ z (ASUB _ _ e)
 have w5:=t15.get t01 A5
 have w6:=t15.get t01 A6
 clear t15 q15 a15 e15
 refine AIf.cut (fun e h'=>∃ (e0:Env) (S2:SH) (TS:Tag),e=updL 132 e0 [(0,Ptr p),(1,I n),(5,Ptr b5),(6,Ptr b6)]∧h' b5=some (row (0,1) (outCells o ox) 65)∧h' b6=some (row (0,1) S2.cells 34)∧Sub h h'∧S2.Ok h' TS (N+1,2) (N+1,6)∧N+12≤TS.1∧S2.abs=(if 0<o.snap.index then snappedM S1.abs o.snap else S1.abs)∧S2.e.n≤1000000000∧0≤S2.si∧S2.si≤1000000000) ?_ ?_
 ·conv=>whnf
  refine Aa rfl w5 rfl ?_;conv=>whnf
  by_cases c4:0<o.snap.index
  ·refine Ac (c4) ?_;conv=>whnf
   refine Ab rfl w6 rfl rfl ?_
   refine Ab rfl w5 rfl rfl ?_;conv=>whnf
   refine ACalls.mono (snapped_any (N+12) (SOK1 s15) hS1l o.snap.index o.snap.term o.snap.crew ox.od) ?_
   rintro _ h16 ⟨e16,t16,rfl,ht16,ow16,s16⟩
   conv=>whnf
   have w5':=s16 _ _ w5
   refine Ae rfl rfl rfl ((s16 _ _ w6)) rfl ([I S1.term,I S1.vote,I o.snap.index,I o.snap.term,I o.snap.crew, .slice ox.od.a ox.od.n ox.od.c, .slice e16.a e16.n e16.c]) rfl fun h17 t17 q17 a17 e17=>?_;conv=>whnf
   have s17:Sub h h17:=a17 h (s15.trans s16) n6h
   have w57:=e17 _ _ b56 w5'
   obtain ⟨S4,hS4⟩:∃ S4:SH,S4={S1 with si:=o.snap.index,st:=o.snap.term,sc:=o.snap.crew,d:=ox.od,data:=o.snap.data,e:=e16,es:=afterH o.snap.index o.snap.term S1.es}:=⟨_,rfl⟩
   have w67:h17 b6=some (row (0,1) S4.cells 34):=by rw [hS4];exact q17
   have t160:(0,1)≠t16:=fun c=>by rw [← c] at ht16;simp only at ht16;omega
   have ro4:S4.Ok h17 t16 (N+1,2) (N+1,6):=by
    rw [hS4]
    exact ⟨⟨(ow16.keepT t17 (Ne.symm t160)).sl,fun e he=>(SOK1 s17).es.good e (afterH_mem he),fun e he=>(SOK1 s17).es.small e (afterH_mem he)⟩,out.od.sl.sub s17⟩
   have eq4:S4.abs=snappedM S1.abs o.snap:=by
    rw [hS4]
    show (⟨S1.term,S1.vote,⟨o.snap.index,o.snap.term,o.snap.crew,o.snap.data⟩,(afterH o.snap.index o.snap.term S1.es).map EH.abs⟩:SavedM)=_
    rw [afterH_abs];rfl
   have hS4l:S4.e.n≤1000000000:=by
    have h1:=ro4.es.len
    have h2:S4.es.length≤S1.es.length:=by rw [hS4];exact afterH_len _ _ _
    have h3:=(SOK1 s17).es.len
    omega
   have hS4i:0≤S4.si∧S4.si≤1000000000:=by rw [hS4];exact ⟨by show 0≤o.snap.index;omega,o6⟩
   have htS:N+12≤t16.1:=ht16
   exact ⟨_,S4,t16,Au ⟨rfl,rfl,rfl,rfl,trivial⟩,w57,w67,s17,ro4,htS,by rw [if_pos c4];exact eq4,hS4l,hS4i.1,hS4i.2⟩
  ·refine Ad (c4) ?_;conv=>whnf
   have ro1:=SOK1 s15
   have eq1:S1.abs=S1.abs:=rfl
   exact ⟨_,S1,t1,Au ⟨rfl,rfl,rfl,rfl,trivial⟩,w5,w6,s15,ro1,kt1,by rw [if_neg c4],hS1l,hS1i.1,hS1i.2⟩
 rintro e RH ⟨e1,S2,TS,rfl,R5,R6,RSUB,RO,htS,EQ2,HS2,hsi1,hsi2⟩
 conv=>whnf
 refine AIf.cut (fun e h'=>∃ (e0:Env) (S:SH) (TS:Tag),e=updL 132 e0 [(0,Ptr p),(1,I n),(5,Ptr b5),(6,Ptr b6)]∧h' b5=some (row (0,1) (outCells o ox) 65)∧h' b6=some (row (0,1) S.cells 34)∧Sub h h'∧S.Ok h' TS (N+1,2) (N+1,6)∧KM={S.abs with entries:=S.abs.entries++o.entries}∧S.e.n≤1000000000) ?_ ?_
 ·conv=>whnf
  refine Aa rfl R5 rfl ?_;conv=>whnf
  by_cases c5:0<o.cut
  ·refine Ac (c5) ?_;conv=>whnf
   refine Av ?_;conv=>whnf
   obtain ⟨f1,f2⟩:=hcut S2.abs EQ2 c5
   have f1':S2.si<o.cut:=f1
   have f2':o.cut≤S2.si+S2.e.n:=by
    have:S2.abs.entries.length=S2.e.n:=by show (S2.es.map EH.abs).length=_;rw [List.length_map];exact RO.es.len
    rw [this] at f2;exact f2
   rw [← EQ2,if_pos c5] at hKM2
   refine Aa rfl (k.sub RSUB).str rfl ?_
   refine Aa rfl R5 rfl ?_
   refine Aa rfl R6 rfl ?_;conv=>whnf
   refine Ac (f1') ?_;conv=>whnf
   refine Aa rfl R5 rfl ?_
   refine Aa rfl R6 rfl ?_
   refine Aa rfl R6 rfl ?_;conv=>whnf
   refine Ag (by omega) (by omega) (rfl) ?_;conv=>whnf
   refine Ac (f2') ?_;conv=>whnf
   refine Af rfl rfl rfl ((k.sub RSUB).str) rfl (netCells x v) rfl fun h20 t20 q20 a20 e20=>?_;conv=>whnf
   have s20:Sub h h20:=fun b y e=>by
    by_cases z:b=p
    ·subst z;rw [k.str] at e;cases e;exact q20
    ·exact e20 _ _ z (RSUB _ _ e)
   have r5:=t20.get t01 R5
   have r6:=t20.get t01 R6
   have ro:=RO.move (h':=h20) fun b t y ht e=>t20 _ _ _ (by rcases ht with rfl | rfl | rfl <;> (intro c;have:=congrArg Prod.fst c;have:=congrArg Prod.snd c;simp only at *;omega)) e
   obtain ⟨kk,hkk⟩:∃ kk:Nat,kk=(o.cut-S2.si-1).toNat:=⟨_,rfl⟩
   refine Aa rfl r6 rfl ?_
   refine Aa rfl r5 rfl ?_
   refine Aa rfl r6 rfl ?_;conv=>whnf
   refine Ag (by omega) (by omega) (rfl) ?_;conv=>whnf
   refine Ag (by omega) (by omega) (rfl) ?_;conv=>whnf
   refine Aa rfl r6 rfl ?_;conv=>whnf
   refine Aq (show _=o.cut-S2.si-1 from if_neg (by omega)) ?_;conv=>whnf
   refine Aq (show _=o.cut-S2.si-1 from if_neg (by omega)) ?_;conv=>whnf
   refine ASlc.upto (z:=4) (m:=kk) (by omega) (by have:=ro.es.sl.le;omega) rfl rfl ?_;conv=>whnf
   refine Af rfl rfl rfl (r6) rfl (({S2 with e:=⟨S2.e.a,kk,S2.e.c⟩}:SH).cells) rfl fun h21 t21 q21 a21 e21=>?_;conv=>whnf
   have s21:Sub h h21:=a21 h s20 n6h
   have r51:=e21 _ _ b56 r5
   have ro1:({S2 with e:=⟨S2.e.a,kk,S2.e.c⟩,es:=S2.es.take kk}:SH).Ok h21 TS (N+1,2) (N+1,6):=by
    have:=ro.move (h':=h21) fun b t y ht e=>t21 _ _ _ (by rcases ht with rfl | rfl | rfl <;> (intro c;have:=congrArg Prod.fst c;have:=congrArg Prod.snd c;simp only at *;omega)) e
    have hkS:kk≤S2.e.n:=by omega
    exact ⟨Ents.upto (k:=kk) this.es hkS,this.sd⟩
   obtain ⟨S3,hS3⟩:∃ S3:SH,S3={S2 with e:=⟨S2.e.a,kk,S2.e.c⟩,es:=S2.es.take kk}:=⟨_,rfl⟩
   have q21':h21 b6=some (row (0,1) S3.cells 34):=by rw [hS3];exact q21
   rw [← hS3] at ro1
   have eq3:KM={S3.abs with entries:=S3.abs.entries++o.entries}:=by
    rw [hKM2,hS3]
    show (⟨S2.term,S2.vote,⟨S2.si,S2.st,S2.sc,S2.data⟩,(S2.es.map EH.abs).take (o.cut-S2.si-1).toNat++o.entries⟩:SavedM)=⟨S2.term,S2.vote,⟨S2.si,S2.st,S2.sc,S2.data⟩,(S2.es.take kk).map EH.abs++o.entries⟩
    rw [List.map_take,hkk]
   have hSn:S3.e.n≤1000000000:=by rw [hS3];show kk≤_;omega
   exact ⟨_,S3,TS,Au ⟨rfl,rfl,rfl,rfl,trivial⟩,r51,q21',s21,ro1,eq3,hSn⟩
  ·refine Ad (c5) ?_;conv=>whnf
   rw [← EQ2,if_neg c5] at hKM2
   exact ⟨_,S2,TS,Au ⟨rfl,rfl,rfl,rfl,trivial⟩,R5,R6,RSUB,RO,hKM2,HS2⟩
 rintro e HH ⟨e2,S,TS',rfl,Q5,Q6,SUB,SOK,EQ,hSn⟩
 conv=>whnf
 refine Av ?_;conv=>whnf
 have hSl:S.es.length=S.e.n:=SOK.es.len
 refine An (two HH b5 b6) [7] [0,1,3,4,2,5,6,7] (two_sub _ _ _) (by decide +kernel) ?_;conv=>whnf
 refine Aa rfl ((two_r _ _ _).trans Q6) rfl ?_
 refine Aa rfl ((two_l _ _ _).trans Q5) rfl ?_;conv=>whnf
 refine AAppend.own (t:=tg) (E:=59) (z:=4) (by_:=48) (zero:=[I 0,I 0,I 0, .slice none 0 0]) (cs:=[]) rfl ⟨_,rfl⟩ rfl rfl rfl rfl (by omega) (.inl ⟨rfl,rfl,rfl⟩) SOK.es.sl (encs_all1 _) (by omega) (by omega) fun a7 c7 h7 ow7 t7 s7=>?_
 conv=>whnf
 have s7:=s7 rfl
 refine ⟨(two_sub _ _ _).trans s7,?_⟩;conv=>whnf
 refine AAppend.own (t:=tg) (E:=59) (z:=4) (by_:=48) (zero:=[I 0,I 0,I 0, .slice none 0 0]) (tx:=(N+1,1)) rfl ⟨_,rfl⟩ rfl rfl rfl rfl (by omega) ow7 ((out.oe.sl.sub SUB).sub s7) (encs_all1 _) (by omega) (by omega) fun a8 c8 h8 ow8 t8 _=>?_
 conv=>whnf
 have s8:Sub h h8:=fun b y e=>t8 _ y.1 _ (fun c=>by have:=bnd b y.1 y.2 e;rw [c,htg] at this;simp only at this;omega) (s7 _ _ (SUB _ _ e))
 have q58:=t8.get htg0 (s7 _ _ Q5)
 have q68:=t8.get htg0 (s7 _ _ Q6)
 have d8:∀ r:Nat,∀ b y,HH b=some ((N+1,r),y)→h8 b=some ((N+1,r),y):=fun r b y e=>t8.get (fun c=>by rw [htg] at c;have:=congrArg Prod.fst c;simp only at this;omega) (s7 _ _ e)
 refine ⟨two_get (fun y hy=>?_) (fun y hy=>?_),?_⟩
 ·rw [Q5] at hy;cases hy;exact q58
 ·rw [Q6] at hy;cases hy;exact q68
 conv=>whnf
 rw [List.nil_append,← encs_append] at ow8
 refine Af rfl rfl rfl (q68) rfl (({S with e:=⟨a8,0+S.e.n+ox.oe.n,c8⟩,es:=S.es++ox.es}:SH).cells) rfl fun h9 t9 q9 a9 e9=>?_;conv=>whnf
 obtain ⟨S9,hS9⟩:∃ S9:SH,S9={S with e:=⟨a8,0+S.e.n+ox.oe.n,c8⟩,es:=S.es++ox.es}:=⟨_,rfl⟩
 have s9:Sub h h9:=a9 h s8 n6h
 have k9:NetX h9 N p x v:=k.sub s9
 have o9:OutOk h9 (N+1) o ox:=out.move fun _ _ _ _ e=>s9 _ _ e
 have q59:=e9 _ _ b56 q58
 have ok9:S9.Ok h9 tg (N+1,2) (N+1,6):=by
  rw [hS9]
  refine ⟨⟨(ow8.keepT t9 (Ne.symm htg0)).sl,fun e he=>?_,fun e he=>?_⟩,(Sl.move SOK.sd fun _ _ e=>d8 _ _ _ e).keepT t9 (by simp)⟩
  ·rcases List.mem_append.1 he with he | he
   ·exact Sl.keepT (Sl.move (SOK.es.good e he) fun _ _ e=>d8 _ _ _ e) t9 (by simp)
   ·exact Own.sl (o9.ed e he)
  ·rcases List.mem_append.1 he with he | he
   ·exact SOK.es.small e he
   ·have:=out.es e he;omega
 have hab:S9.abs=KM:=by
  rw [hS9,EQ]
  show (⟨S.term,S.vote,⟨S.si,S.st,S.sc,S.data⟩,(S.es++ox.es).map EH.abs⟩:SavedM)=_
  rw [List.map_append,out.ea];rfl
 rw [← hS9] at q9
 clear a9 e9 d8 s8 q58 q68 t9 ow8 t8 ow7 t7 s7
 refine Av ?_;conv=>whnf
 refine Am (h9) [6] (Sub.refl _) (by decide +kernel) ?_;conv=>whnf
 refine Ab rfl q9 rfl rfl ?_;conv=>whnf
 refine Aj (n:=6) (z:=7) (j:=m) (by omega) (by omega) rfl rfl ?_;conv=>whnf
 have ksz:(netCells x v).length=67:=rfl
 refine Ae (vs:=S9.cells) rfl rfl rfl k9.str (Nat.ble_eq_true_of_le (by rw [ksz];show 0+8+m*7+7≤67;omega)) (netCells x {v with ke:=v.ke.set n S9}) (by rw [show 0+8+m*7=8+n.toNat*7 by omega];exact kept_set x v n1 n5 S9) fun h10 t10 q10 a10 e10=>?_;conv=>whnf
 have k10:=k9.keSet n1 n5 (by rw [htg];show N+12≤o0+N+12;omega) (ok9.move fun b t y ht e=>t10 _ _ _ (by rcases ht with rfl | rfl | rfl <;> (intro c;have:=congrArg Prod.fst c;have:=congrArg Prod.snd c;rw [htg] at *;simp only at *;omega)) e) t10 q10
 rw [hab] at k10
 have q510:=t10.get t01 q59
 have o10:OutOk h10 (N+1) o ox:=o9.move fun b t y ht e=>t10 _ _ _ (fun c=>by rw [c] at ht;simp only at ht;omega) e
 have L10:Low N h h10:=s9.low.trans fun b t y ht e=>t10 _ _ _ (fun c=>by rw [c] at ht;simp at ht) e
 clear q9 q59 t10 q10 a10 e10 k9 o9 ok9 s9
 obtain ⟨v10,hv10⟩:∃ v10,v10={v with ke:=v.ke.set n S9}:=⟨_,rfl⟩
 rw [← hv10] at k10
 have hml:v10.ml.n=v.ml.n:=by rw [hv10]
 refine Av ?_;conv=>whnf
 refine Av ?_;conv=>whnf
 refine Am (h10) [] (Sub.refl _) (by decide +kernel) ?_;conv=>whnf
 refine Aa rfl k10.str rfl ?_
 refine Aa rfl q510 rfl ?_;conv=>whnf
 refine Ag (by omega) (by omega) (rfl) ?_;conv=>whnf
 by_cases c9:x.mails.length+o.posts.length<400
 ·rw [if_pos c9] at olk ⊢
  refine Ac ((by omega)) ?_;conv=>whnf
  refine Am (two h10 p b5) [10] (two_sub _ _ _) (by decide +kernel) ?_;conv=>whnf
  refine Aa rfl ((two_l _ _ _).trans k10.str) rfl ?_
  refine Aa rfl ((two_r _ _ _).trans q510) rfl ?_;conv=>whnf
  refine AAppend.own (t:=(N,3)) (E:=49) (z:=14) (by_:=144) (zero:=post0z) (tx:=(N+1,3)) rfl ⟨_,rfl⟩ rfl rfl rfl rfl (by omega) k10.ml o10.op.sl (ph_one _) (by omega) (by omega) fun a11 c11 h11 ow11 t11 _=>?_
  conv=>whnf
  have p11:=t11.get (u:=(N,0)) (by simp) k10.str
  have b11:=t11.get (u:=(0,1)) (fun c=>by have:=congrArg Prod.snd c;simp at this) q510
  refine ⟨two_get (fun y hy=>?_) (fun y hy=>?_),?_⟩
  ·rw [k10.str] at hy;cases hy;exact p11
  ·rw [q510] at hy;cases hy;exact b11
  conv=>whnf
  refine Af rfl rfl rfl (p11) rfl (netCells {x with kept:=x.kept.set n KM} {v10 with ml:=⟨a11,v10.ml.n+ox.op.n,c11⟩}) rfl fun h12 t12 q12 a12 e12=>?_;conv=>whnf
  have k12:=k10.mlSet (h':=h12) (s:=⟨a11,v10.ml.n+ox.op.n,c11⟩) (ps:=v10.ps++ox.ps) (l:=x.mails++o.posts) (fun b t y n0 n3 e=>t12 _ _ _ n0 (t11 _ _ _ n3 e)) q12 (by rw [List.map_append,List.flatten_append];exact ow11.keepT t12 (by simp)) (by rw [List.map_append,out.pa];exact congrArg (· ++ o.posts) k10.pa)
   (fun y hy=>by
    rcases List.mem_append.1 hy with hy | hy
    ·exact k10.ps y hy
    ·obtain ⟨i,hi⟩:=List.getElem?_of_mem hy
     exact ⟨_,Made.ok (o10.ps i y hi)⟩) (by rw [List.length_append];omega)
  have L12:Low N h h12:=L10.trans fun b t y ht e=>t12 _ _ _ (fun c=>by rw [c] at ht;simp at ht) (t11 _ _ _ (fun c=>by rw [c] at ht;simp at ht) e)
  refine ACalls.mono (look_any k12 n1 n2 olk) ?_
  rintro _ h13 ⟨rfl,k13,L13⟩
  conv=>whnf
  exact ⟨rfl,k13,L12.trans L13⟩
 ·rw [if_neg c9] at olk ⊢
  refine Ad ((by omega)) ?_;conv=>whnf
  refine ACalls.mono (look_any k10 n1 n2 olk) ?_
  rintro _ h13 ⟨rfl,k13,L13⟩
  conv=>whnf
  exact ⟨rfl,k13,L10.trans L13⟩
end
section
def CoreM.pn (c:CoreM):Nat:=c.out.posts.length
theorem say_pn (c:CoreM) (n:Int) (p:PostM):(c.say n p).pn=c.pn+1:=by
 show (c.out.posts++[_]).length=_
 rw [List.length_append];rfl
theorem send_pn (c:CoreM) (n:Int):(c.send n).pn=c.pn+1:=by
 unfold CoreM.send;split <;> exact say_pn _ _ _
theorem sends_pn:∀ (l:List Int) (c:CoreM),(l.foldl CoreM.send c).pn=c.pn+l.length
 | [],c=>rfl
 | m::l,c=>by rw [List.foldl_cons,sends_pn l,send_pn,List.length_cons];omega
theorem says_pn (p:PostM):∀ (l:List Int) (c:CoreM),(l.foldl (fun x m=>x.say m p) c).pn=c.pn+l.length
 | [],c=>rfl
 | m::l,c=>by rw [List.foldl_cons,says_pn p l,say_pn,List.length_cons];omega
theorem ls_five:((List.range 32).all fun k=>decide ((ls k).length≤5))=true:=by decide +kernel
theorem ls_le (c:Int):(ls (m5 c)).length≤5:=of_decide_eq_true (List.all_eq_true.1 ls_five _ (List.mem_range.2 (m5_lt c)))
theorem others_le (c:CoreM):c.others.length≤5:=Nat.le_trans (List.length_filter_le _ _) (ls_le _)
theorem sendAll_pn (c:CoreM):c.sendAll.pn≤c.pn+5:=by
 unfold CoreM.sendAll;rw [sends_pn];have:=others_le c;omega
theorem rank_pn (c:CoreM):c.rank.pn=c.pn:=by
 have er:c.rank=(let d:={c with mtch:=c.mtch.set c.self c.log.last.1};let r:=rankOf d.crewNow.1 d.mtch;if r≤d.commit∨d.has r d.term=false then d else if hasB d.crewNow.1 d.self=false∧d.crewNow.2≤r then ({d with commit:=r}:CoreM).follow else {d with commit:=r}):=rfl
 rw [er]
 simp only []
 split
 ·rfl
 ·split <;> rfl
theorem put_pn (c:CoreM) (k:Int) (d:List Int):(c.put k d).pn=c.pn:=by
 unfold CoreM.put;simp only [];split <;> rfl
theorem lead_pn (c:CoreM):c.lead.pn≤c.pn+5:=by
 rw [CoreM.lead_eq,rank_pn]
 have:=sendAll_pn (c.office.put 0 [])
 rw [put_pn] at this
 exact this
theorem stand_pn (c:CoreM):c.stand.pn≤c.pn+10:=by
 rw [CoreM.stand_is]
 split
 ·omega
 ·have e:(c.stoodM.others.foldl (fun x m=>x.say m {post0 with kind:=1,index:=c.log.last.1,logTerm:=c.log.last.2}) c.stoodM).pn≤c.pn+5:=by
   rw [says_pn]
   have:=others_le c.stoodM
   have h:c.stoodM.pn=c.pn:=rfl
   omega
  split
  ·have:=lead_pn (c.stoodM.others.foldl (fun x m=>x.say m {post0 with kind:=1,index:=c.log.last.1,logTerm:=c.log.last.2}) c.stoodM)
   omega
  ·omega
theorem tick_pn (c:CoreM) (d:Int):(c.tick d).pn≤c.pn+10:=by
 unfold CoreM.tick
 split
 ·split
  ·have:=sendAll_pn {c with beat:=2}
   have h:({c with beat:=2}:CoreM).pn=c.pn:=rfl
   omega
  ·show c.pn≤_;omega
 ·simp only []
  split
  ·refine Nat.le_trans (stand_pn _) ?_;show c.pn+10≤c.pn+10;omega
  ·show c.pn≤_;omega
theorem confirm_pn (c:CoreM):c.confirm.pn=c.pn:=by unfold CoreM.confirm;split <;> rfl
theorem appendRest_pn (c:CoreM) (l:List Abs):(c.appendRest l).pn=c.pn:=by
 unfold CoreM.appendRest
 split
 ·rfl
 ·simp only [];split <;> rfl
theorem append_pn (c:CoreM) (p:PostM):(c.append p).pn≤c.pn+1:=by
 rw [CoreM.append_eq]
 split
 ·unfold CoreM.appendNo;rw [say_pn];omega
 ·unfold CoreM.appendOk;simp only [];rw [say_pn]
  have:=appendRest_pn c (aList c p)
  show (c.appendRest (aList c p)).pn+1≤_
  omega
theorem install_pn (c:CoreM) (p:PostM):(c.install p).pn≤c.pn+1:=by
 unfold CoreM.install
 simp only []
 rw [say_pn]
 split
 ·show c.pn+1≤_;omega
 ·omega
theorem told_pn (c:CoreM) (p:PostM):(c.told p).pn≤c.pn+1:=by
 unfold CoreM.told
 rw [confirm_pn]
 simp only []
 split
 ·split
  ·rw [send_pn,rank_pn];show c.pn+1≤_;omega
  ·rw [rank_pn];show c.pn≤_;omega
 ·rw [send_pn];show c.pn+1≤_;omega
theorem take1_pn (c:CoreM) (p:PostM) (d:Int):(c.take1 p d).pn≤c.pn+10:=by
 unfold CoreM.take1
 split
 ·rw [CoreM.asked_eq,say_pn];split
  ·show c.pn+1≤_;omega
  ·omega
 ·split
  ·unfold CoreM.voted
   split
   ·omega
   ·simp only [];split
    ·refine Nat.le_trans (lead_pn _) ?_;show c.pn+5≤_;omega
    ·show c.pn≤_;omega
  ·split
   ·split
    ·omega
    ·simp only [];split
     ·refine Nat.le_trans (install_pn _ _) ?_;show c.pn+1≤_;omega
     ·refine Nat.le_trans (append_pn _ _) ?_;show c.pn+1≤_;omega
   ·split
    ·have:=told_pn c p;omega
    ·omega
theorem take_pn (c:CoreM) (p:PostM) (d:Int):(c.take p d).pn≤c.pn+10:=by
 unfold CoreM.take
 split
 ·omega
 ·split
  ·unfold CoreM.refuse;split
   ·rw [say_pn];omega
   ·split
    ·rw [say_pn];omega
    ·omega
  ·split
   ·exact take1_pn (c.learn p.term) p d
   ·exact take1_pn c p d
theorem anews_pn (index:Int) (P:Int→Bool):∀ (l:List Int) (c:CoreM),(l.foldl (fun x m=>if P m=true then x else x.anew index m) c).pn=c.pn
 | [],c=>rfl
 | m::l,c=>by rw [List.foldl_cons,anews_pn index P l];split <;> rfl
theorem propose_pn (c:CoreM) (k:Int) (d:List Int):(c.propose k d).pn≤c.pn+5:=by
 rw [CoreM.propose_is,rank_pn]
 have h:=sendAll_pn ((ls (m5 (c.put k d).crewNow.1)).foldl (fun x m=>if hasB c.crewNow.1 m=true then x else x.anew (c.log.last.1+1) m) (c.put k d))
 rw [anews_pn,put_pn] at h
 exact h
variable {g:Gh} {n:Int} {x:NetM}
theorem Idl.cok (w:Wld g) {s:SavedM} {c:CoreM} {A:List Abs} (k:Idl g n s c A):COk c:=by
 have sv:=k.srv
 have h3:=w.sz3;have h5:=w.sz5;have l3:=w.l3
 have n1:=sv.n1;have n2:=sv.n2
 have tl:=w.l1 n n1 n2
 have al:=sv.al
 have htm:=sv.tm
 have hlen:=sv.rep.len
 have hlo:=sv.rep.lo
 have hle:=sv.rep.le
 have hesA:∀ (j:Nat) (e:Abs),c.log.es[j]? = some e→A[c.log.bi.toNat+j]? = some e:=fun j e h=>by rw [sv.rep.es,List.getElem?_drop] at h;exact h
 have hmem:∀ e∈c.log.es,e∈A:=fun e he=>by
  obtain ⟨j,hj⟩:=List.getElem?_of_mem he
  exact List.mem_of_getElem? (hesA j e hj)
 have cr:0≤c.snap.crew∧c.snap.crew≤255:=by
  by_cases z:0<c.log.bi
  ·rw [(sv.s1 z).2]
   have:=conf_range (A.take c.log.bi.toNat) g.size 14 (fun e he=>sv.eok e (List.mem_of_mem_take he)) (by omega)
   omega
  ·rw [sv.s0 (by omega)];exact ⟨Int.le_refl _,by decide⟩
 have hc0:=sv.c0;have hc1:=sv.c1
 have five:∀ m:Int,1≤m→m≤5→five0.get m=0:=fun m h1 h2=>by
  have:m=1∨m=2∨m=3∨m=4∨m=5:=by omega
  rcases this with rfl | rfl | rfl | rfl | rfl <;> rfl
 refine ⟨⟨⟨fun j e h=>?_,hlo,by omega,fun e he=>(sv.eok e (hmem e he)).len⟩,fun e he _=>(sv.eok e (hmem e he)).by_,by omega,sv.sd⟩,fun m m1 m2=>?_,fun m m1 m2=>?_,by rw [sv.self];exact n1,by rw [sv.self];omega,sv.t0,by omega,k.out,by omega,by have:=sv.rl;omega,sv.q1,sv.q2,sv.v1,sv.v2,sv.w1,sv.w2,sv.b1,sv.b2,sv.r1,by have:=sv.r2;omega,by rw [sv.first];omega,cr,by omega,by omega⟩
 ·rw [sv.rep.ix _ e (hesA j e h)];omega
 ·by_cases z:c.state=2
  ·have:=(sv.lead z).2.2.2 m m1 m2;omega
  ·rw [(sv.idle z).1,five m m1 m2];omega
 ·by_cases z:c.state=2
  ·have h1:=(sv.lead z).2.2.1 m m1 m2
   have h2:=w.acc m c.term
   have h4:=w.l2 c.term
   omega
  ·rw [(sv.idle z).2.1,five m m1 m2];omega
theorem Msg.small {p:PostM} (m:Msg g p) (w:Wld g):(∀ e∈p.entries,∀ z∈e.2.2.2,0≤z∧z<256)∧(0≤p.snap.crew∧p.snap.crew<256)∧p.entries.length≤8:=by
 have none:∀ q:PostM,p=q→q.entries=[]→q.snap=snap0→(∀ e∈p.entries,∀ z∈e.2.2.2,0≤z∧z<256)∧(0≤p.snap.crew∧p.snap.crew<256)∧p.entries.length≤8:=fun q e h1 h2=>by
  rw [e,h1,h2];exact ⟨(fun _ h=>nomatch h),⟨by decide,by decide⟩,by simp⟩
 rcases m.body with b | b | b | b | b | b
 ·exact none _ b.2.1 rfl rfl
 ·exact none _ b.2.1 rfl rfl
 ·obtain ⟨_,e,b1,b2,b3,b4,b5,b6,b7,b8⟩:=b
  refine ⟨fun y hy=>?_,?_,b5⟩
  ·rw [b7] at hy
   exact (w.eok _ y (List.mem_of_mem_drop (List.mem_of_mem_take hy))).by_
  ·rw [e];exact ⟨Int.le_refl 0,(by decide:(0:Int)<256)⟩
 ·exact none _ b.2.1 rfl rfl
 ·obtain ⟨_,e,b1,b2,b3,b4,b5,b6⟩:=b
  refine ⟨fun y hy=>?_,?_,?_⟩
  ·rw [e] at hy;cases hy
  ·rw [b5];exact conf_range _ g.size 14 (fun e he=>w.eok _ e (List.mem_of_mem_take he)) (by omega)
  ·rw [e];simp [post0]
 ·exact none _ b.2.1 rfl rfl
theorem NetI.lookOk (k:NetI g x) (n1:1≤n) (n2:n≤x.size):LookOk x n:=by
 obtain ⟨A,id⟩:=k.srv n n1 n2
 have sv:=id.srv
 have hs5:=k.w.sz5
 have hsz:=k.sz
 have l3:=k.w.l3
 have hke:(x.kept.get n).entries=(x.cores.get n).log.es:=by rw [id.kept];rfl
 have hks:(x.kept.get n).snap.index=(x.cores.get n).log.bi:=by rw [id.kept];exact sv.si
 have hlen:=sv.rep.len
 have hlo:=sv.rep.lo
 have hle:=sv.rep.le
 have al:=sv.al
 have hc1:=sv.c1
 have hlk:=lookEs_ok k.w sv (x.kept.get n).entries x.chosen (fun e he=>by
  rw [hke,sv.rep.es] at he
  obtain ⟨j,hj⟩:=List.getElem?_of_mem he
  rw [List.getElem?_drop] at hj
  exact ⟨_,hj⟩) k.chosen
 exact ⟨fun h2 o ho=>(k.leaders _ _ ho).1.symm.trans (sv.lead h2).1,k.cm n n1 n2,k.tms n n1 n2,hlk.1,by rw [hks,hke];omega,by rw [hks];exact hlo,by rw [hks];omega,by rw [hke];omega,k.fine⟩
theorem NetI.keepOk (k:NetI g x) (n1:1≤n) (n2:n≤x.size) {c:CoreM} {A:List Abs} {g':Gh} (e:Ext n g g') (m:Mid g' n (x.kept.get n) c A) (hc:(x.cores.get n).commit≤c.commit) (hp:c.pn≤1000000) :
  KeepOk {x with cores:=x.cores.set n c.done.1} n c.done.2:=by
 obtain ⟨A0,id0⟩:=k.srv n n1 n2
 have hs5:=k.w.sz5
 have hsz:=k.sz
 obtain ⟨k1,k2,k3⟩:=m.kept
 have ht:(x.cores.get n).term≤c.term:=by rw [id0.srv.tm,m.srv.tm];exact e.tmn
 have hm':∀ p∈x.mails,Msg g' p:=fun p hp=>e.msg k.w (k.mails p hp)
 have base:NetI g' {x with cores:=x.cores.set n c.done.1,kept:=x.kept.set n c.done.1.saved}:=by
  refine ⟨m.w,e.size.trans k.sz,fun j j1 j2=>?_,hm',k.fine,fun t o ho=>?_,fun i y hy=>e.chosenAt (k.chosen i y hy),fun j j1 j2=>?_,fun j j1 j2=>?_,k.draw⟩
  ·have j2':j≤x.size:=j2
   show ∃ A,Idl g' j ((x.kept.set n c.done.1.saved).get j) ((x.cores.set n c.done.1).get j) A
   rw [Fv.get_set _ _ _ _ j1 (by omega),Fv.get_set _ _ _ _ j1 (by omega)]
   split
   ·rename_i z;rw [z];exact ⟨A,k3,rfl,rfl⟩
   ·rename_i z
    obtain ⟨B,idj⟩:=k.srv j j1 j2'
    exact ⟨B,e.idl k.w z idj⟩
  ·obtain ⟨l1,l2⟩:=k.leaders t o ho
   exact ⟨(e.led t (by rw [l1];exact l2)).1.trans l1,l2⟩
  ·have j2':j≤x.size:=j2
   show x.commits.get j≤((x.cores.set n c.done.1).get j).commit
   rw [Fv.get_set _ _ _ _ j1 (by omega)]
   split
   ·rename_i z;rw [z];have:=k.cm n n1 n2;show _≤c.commit;omega
   ·exact k.cm j j1 j2'
  ·have j2':j≤x.size:=j2
   show x.terms.get j≤((x.cores.set n c.done.1).get j).term
   rw [Fv.get_set _ _ _ _ j1 (by omega)]
   split
   ·rename_i z;rw [z];have:=k.tms n n1 n2;show _≤c.term;omega
   ·exact k.tms j j1 j2'
 have sv0:=id0.srv
 have l3:=k.w.l3;have l3':=m.w.l3
 have hlen0:=sv0.rep.len;have hlo0:=sv0.rep.lo;have hle0:=sv0.rep.le;have al0:=sv0.al
 have hlen1:=m.srv.rep.len;have hlo1:=m.srv.rep.lo;have hle1:=m.srv.rep.le;have al1:=m.srv.al
 have hke:(x.kept.get n).entries=(x.cores.get n).log.es:=by rw [id0.kept];rfl
 have hks:(x.kept.get n).snap.index=(x.cores.get n).log.bi:=by rw [id0.kept];exact sv0.si
 have hes:c.out.entries.length≤c.log.es.length:=by
  rcases m.kp.log with ⟨_,_,_,b⟩ | ⟨_,_,_,_,_,b⟩ | ⟨_,_,_,b,_⟩
  ·rw [b,List.length_append];omega
  ·rw [b,List.length_append];omega
  ·rw [b];simp
 have hsi:c.out.snap.index≤1000000000:=by
  rcases m.kp.log with ⟨b,_⟩ | ⟨b,_⟩ | ⟨_,b,_⟩
  ·rw [b];omega
  ·rw [b];omega
  ·rw [b,m.srv.si];omega
 refine ⟨k1,k.fine,?_,by show 0≤(x.kept.get n).snap.index;rw [hks];exact hlo0,by show (x.kept.get n).snap.index≤_;rw [hks];omega,by show (x.kept.get n).entries.length≤_;rw [hke];omega,hsi,by show c.out.entries.length≤_;omega,hp⟩
 unfold NetM.kept1
 simp only []
 rw [k2]
 split
 ·refine NetI.lookOk (g:=g') ⟨base.w,base.sz,base.srv,fun p hp=>?_,k.fine,base.leaders,base.chosen,base.cm,base.tms,base.draw⟩ n1 n2
  rcases List.mem_append.1 hp with hp | hp
  ·exact hm' p hp
  ·exact m.out p hp
 ·exact NetI.lookOk base n1 n2
theorem NetI.keepCall (k:NetI g x) (n1:1≤n) (n2:n≤x.size) {c:CoreM} (hl:g.lim+10≤100000000) (hc:(x.cores.get n).commit≤c.commit) (hp:c.pn≤(x.cores.get n).pn+10)
  (h:∀ A,Mid (g.more 10) n (x.kept.get n) (x.cores.get n) A→(A.length:Int)+1≤(g.more 10).lim→(x.cores.get n).term+1≤(g.more 10).lim→(x.cores.get n).out=out0→(x.cores.get n).round+1≤(g.more 10).lim→((x.cores.get n).reads.length:Int)+1≤(g.more 10).lim →
   ∃ g' A',Ext n (g.more 10) g'∧g'.lim=(g.more 10).lim∧Mid g' n (x.kept.get n) c A'):KeepOk {x with cores:=x.cores.set n c.done.1} n c.done.2:=by
 have k':=k.more (d:=10) (by omega) hl
 obtain ⟨A,id⟩:=k.srv n n1 n2
 obtain ⟨A2,id2⟩:=k'.srv n n1 n2
 have hal:=id2.srv.al
 have h1:=id.srv.al;have h2:=k.w.l1 n n1 (by rw [k.sz];exact n2);have h3:=id.srv.tm;have h4:=id.srv.r2;have h5:=id.srv.rl
 have m0:Mid (g.more 10) n (x.kept.get n) (x.cores.get n) A:=Idl.mid k'.w ⟨id.srv.more (by omega),id.kept,id.out⟩
 obtain ⟨g',A',e,el,m⟩:=h A m0 (by show (A.length:Int)+1≤g.lim+10;omega) (by show (x.cores.get n).term+1≤g.lim+10;omega) id.out (by show (x.cores.get n).round+1≤g.lim+10;omega) (by show ((x.cores.get n).reads.length:Int)+1≤g.lim+10;omega)
 have hp0:(x.cores.get n).pn=0:=by unfold CoreM.pn;rw [id.out];rfl
 exact k'.keepOk n1 n2 e m hc (by omega)
theorem NetI.keepTick (k:NetI g x) (n1:1≤n) (n2:n≤x.size) {d:Int} (hd:0≤d) (hl:g.lim+10≤100000000):KeepOk {x with cores:=x.cores.set n ((x.cores.get n).tick d).done.1} n ((x.cores.get n).tick d).done.2 :=
 k.keepCall n1 n2 hl (tick_commit _ _) (tick_pn _ _) fun A m h1 h2 h3 _ _=>m.tick (by rw [h3];rfl) h1 h2 hd
theorem NetI.keepPropose (k:NetI g x) (n1:1≤n) (n2:n≤x.size) {kind:Int} {data:List Int} (hE:(x.cores.get n).proposeE kind data=0) (hb:∀ z∈data,0≤z∧z<256) (hsz:kind=2→∀ m∈ls (m5 (crewNum (0,0,0,data))),m≤x.size) (hl:g.lim+10≤100000000) :
  KeepOk {x with cores:=x.cores.set n ((x.cores.get n).propose kind data).done.1} n ((x.cores.get n).propose kind data).done.2 :=
 k.keepCall n1 n2 hl (propose_commit _ _ _) (Nat.le_trans (propose_pn _ _ _) (by omega)) fun A m h1 h2 h3 _ _=>m.propose hE hb (fun h j hj=>by show j≤g.size;rw [k.sz];exact hsz h j hj) (by rw [h3];rfl) h1
theorem NetI.keepTake (k:NetI g x) {p:PostM} (m:Msg g p) {d:Int} (hd:0≤d) (hl:g.lim+10≤100000000) :
  (x.cores.get p.dst).takes p=true∧KeepOk {x with cores:=x.cores.set p.dst ((x.cores.get p.dst).take p d).done.1} p.dst ((x.cores.get p.dst).take p d).done.2:=by
 have hd2:p.dst≤x.size:=by rw [← k.sz];exact m.d2
 obtain ⟨A,id⟩:=k.srv p.dst m.d1 hd2
 refine ⟨m.takes k.w id.srv.self,k.keepCall m.d1 hd2 hl (take_commit _ _ _) (take_pn _ _ _) fun A m' h1 h2 h3 _ _=>?_⟩
 exact m'.take ((ext_more (n:=0) (g:=g) (by omega:(0:Int)≤10)).msg k.w m) rfl hd (by rw [h3];rfl) (by rw [h3];rfl) (by rw [h3];rfl) h1
theorem NetI.cok (k:NetI g x) (n1:1≤n) (n2:n≤x.size):COk (x.cores.get n):=by
 obtain ⟨A,id⟩:=k.srv n n1 n2
 exact id.cok k.w
end
theorem snap_self (s:SnapM):SnapM.same ⟨s.index,s.term,s.crew,s.data⟩ ⟨s.index,s.term,s.crew,s.data⟩=true:=by unfold SnapM.same;simp
theorem OutOk.count {h:Heap} {oo:Nat} {o:OutM} {x:OX} (k:OutOk h oo o x):x.ps.length=x.op.n∧x.op.n=o.posts.length∧x.es.length=x.oe.n∧x.oe.n=o.entries.length∧x.qr.n=o.reads.length∧x.od.n=o.snap.data.length:=by
 have h1:=k.op.sl.len
 rw [flat_len (ph_len x.ps),List.length_map] at h1
 have h2:=congrArg List.length k.pa
 rw [List.length_map] at h2
 have h3:=k.oe.sl.len
 rw [encs_length] at h3
 have h4:=congrArg List.length k.ea
 rw [List.length_map] at h4
 have h5:o.reads.length=x.qr.n:=by have:=k.qr.sl.len;simpa using this
 have h6:o.snap.data.length=x.od.n:=by have:=k.od.sl.len;simpa [bytesV] using this
 omega
theorem OutOk.entries {h:Heap} {oo:Nat} {o:OutM} {x:OX} (k:OutOk h oo o x):Ents h (oo,1) (oo,2) x.oe.a x.oe.n x.oe.c x.es :=
 ⟨k.oe.sl,fun y hy=>(k.ed y hy).sl,fun y hy=>by have:=k.es y hy;omega⟩
theorem OutOk.post {h:Heap} {oo:Nat} {o:OutM} {x:OX} (k:OutOk h oo o x) {j:Nat} (hj:j<o.posts.length):∃ y,x.ps[j]? = some y∧y.Ok h (oo,10+j) (oo,5) (oo,6)∧o.posts[j]? = some y.abs:=by
 have hc:=k.count
 obtain ⟨y,hy⟩:∃ y,x.ps[j]? = some y:=⟨x.ps[j]'(by omega),by simp⟩
 refine ⟨y,hy,Made.ok (k.ps j y hy),?_⟩
 rw [← k.pa,List.getElem?_map,hy];rfl
theorem ph_part {ps:List PH} {j:Nat} {y:PH} (h:ps[j]? = some y):(((ps.map PH.cells).flatten).drop (j*14)).take 14=y.cells:=by
 have e:(ps.map PH.cells)[j]? = some y.cells:=by rw [List.getElem?_map,h];rfl
 exact flat_part (ph_len ps) e
theorem sameOut_any {h:Heap} {o1 o2:Nat} {O:OutM} {x y:OX} (kx:OutOk h o1 O x) (ky:OutOk h o2 O y) (hs:O.snap.data.length≤100000000) (he:O.entries.length≤100000000) (hr:O.reads.length≤100000000) (hpl:O.posts.length≤100000000)
  (hp:∀ q∈O.posts,q.entries.length≤100000000∧q.snap.data.length≤100000000) :
  ACalls PR 45 #[.agg (outCells O x).toArray, .agg (outCells O y).toArray] h (fun v h'=>v = .bool true∧h=h'):=by
 obtain ⟨x1,x2,x3,x4,x5,x6⟩:=kx.count
 obtain ⟨y1,y2,y3,y4,y5,y6⟩:=ky.count
 refine Ar (As mix Tryz.func45 rfl rfl Tryz.ntmps45 Tryz.results45 rfl ?_);conv=>whnf
 refine Al (0,1) (outCells O x) rfl fun b2 h1 n1 s1 k1=>?_;conv=>whnf
 refine Al (0,1) (outCells O y) rfl fun b3 h2 n2 s2 k2=>?_;conv=>whnf
 have k12:=s2 _ _ k1
 have s12:=s1.trans s2
 refine Aa rfl k12 rfl ?_
 refine Aa rfl k2 rfl ?_;conv=>whnf
 cases hh:O.hard with
 | true =>
  conv=>whnf
  refine Aa rfl k12 rfl ?_
  refine Aa rfl k2 rfl ?_;conv=>whnf
  refine Ad ((by simp)) ?_;conv=>whnf
  refine Aa rfl k12 rfl ?_
  refine Aa rfl k2 rfl ?_;conv=>whnf
  refine Ad ((by simp)) ?_;conv=>whnf
  refine Aa rfl k12 rfl ?_
  refine Aa rfl k2 rfl ?_;conv=>whnf
  refine Ad ((by simp)) ?_;conv=>whnf
  refine Aa rfl k12 rfl ?_
  refine Aa rfl k2 rfl ?_;conv=>whnf
  refine Ad ((by simp)) ?_;conv=>whnf
  refine Aa rfl k12 rfl ?_
  refine Aa rfl k2 rfl ?_;conv=>whnf
  refine ACalls.mono (EqInts_any h2 (kx.qr.sl.sub s12) (ky.qr.sl.sub s12) (by omega)) ?_
  rw [decide_eq_true (rfl:O.reads=O.reads)]
  rintro _ _ ⟨rfl,rfl⟩
  conv=>whnf
  refine Aa rfl k12 rfl ?_
  refine Aa rfl k2 rfl ?_;conv=>whnf
  refine ACalls.mono (sameEnts_any (kx.entries.sub s12) (ky.entries.sub s12) (by omega)) ?_
  rw [decide_eq_true (kx.ea.trans ky.ea.symm)]
  rintro _ _ ⟨rfl,rfl⟩
  conv=>whnf
  refine Ab rfl k12 rfl rfl ?_
  refine Ab rfl k2 rfl rfl ?_;conv=>whnf
  refine ACalls.mono (sameSnap_any (d1:=x.od) (d2:=y.od) (kx.od.sl.sub s12) (ky.od.sl.sub s12) (by omega)) ?_
  rw [snap_self]
  rintro _ _ ⟨rfl,rfl⟩
  conv=>whnf
  refine Aa rfl k12 rfl ?_
  refine Aa rfl k2 rfl ?_;conv=>whnf
  refine Ad ((by omega)) ?_;conv=>whnf
  refine ALoop.mk (fun e h'=>h2=h'∧∃ e0,∃ j:Nat,e=updL 91 e0 [(2,Ptr b2),(3,Ptr b3),(5,I j)]∧j≤x.op.n) (fun e=>x.op.n-natOf (e 5))
   ⟨rfl,_,0,Au ⟨rfl,rfl,rfl,trivial⟩,by omega⟩ ?_
  rintro e _ ⟨rfl,e0,j,rfl,hj⟩
  conv=>whnf
  refine Aa rfl k12 rfl ?_;conv=>whnf
  by_cases hjn:j<x.op.n
  ·refine Ac (by omega) ?_;conv=>whnf
   obtain ⟨p,hp1,hp2,hp3⟩:=kx.post (j:=j) (by omega)
   obtain ⟨q,hq1,hq2,hq3⟩:=ky.post (j:=j) (by omega)
   have hpq:p.abs=q.abs:=by rw [hp3] at hq3;exact Option.some.inj hq3
   obtain ⟨hb1,hb2⟩:=hp p.abs (List.mem_of_getElem? hp3)
   have el:p.es.length=p.e.n:=hp2.es.len
   have dl:p.data.length=p.d.n:=by have:=hp2.sd.len;simpa [bytesV] using this
   have hb1':p.es.length≤100000000:=by have:p.abs.entries.length=p.es.length:=List.length_map _;omega
   have hb2':p.data.length≤100000000:=hb2
   obtain ⟨b,off,l,E,fz,ea,hb,hc⟩:=(kx.op.sl.sub s12).pos (by omega)
   obtain ⟨b',off',l',E',fz',ea',hb',hc'⟩:=(ky.op.sl.sub s12).pos (by omega)
   have g0:(l.drop (off+j*14)).take 14=p.cells:=by rw [part_of_take hc (by omega),ph_part hp1]
   have g0':(l'.drop (off'+j*14)).take 14=q.cells:=by rw [part_of_take hc' (by omega),ph_part hq1]
   refine Am (h2) [] (Sub.refl _) (by decide +kernel) ?_;conv=>whnf
   refine Aa rfl k12 rfl ?_;conv=>whnf
   rw [ea]
   refine Ai (n:=x.op.n) (z:=14) (j:=j) rfl hjn rfl rfl ?_;conv=>whnf
   refine Ab rfl hb g0 rfl ?_
   refine Aa rfl k2 rfl ?_;conv=>whnf
   rw [ea']
   refine Ai (n:=y.op.n) (z:=14) (j:=j) rfl (by omega) rfl rfl ?_;conv=>whnf
   refine Ab rfl hb' g0' rfl ?_;conv=>whnf
   have po:p.Ok h2 _ _ _:=⟨hp2.es.sub s12,hp2.sd.sub s12⟩
   have qo:q.Ok h2 _ _ _:=⟨hq2.es.sub s12,hq2.sd.sub s12⟩
   refine ACalls.mono (rsame_any po qo (by omega) (by omega)) ?_
   rw [hpq,same_self]
   rintro _ _ ⟨rfl,rfl⟩
   conv=>whnf
   refine ⟨Sub.refl _,?_⟩;conv=>whnf
   refine Ag (by omega) (by omega) ((by omega:(j:Int)+1=((j+1:Nat):Int))) ?_;conv=>whnf
   refine ⟨⟨rfl,_,j+1,Au ⟨rfl,rfl,rfl,trivial⟩,by omega⟩,?_⟩
   show x.op.n-(j+1)<x.op.n-j
   omega
  ·refine Ad (by omega) ?_;conv=>whnf
   exact ⟨rfl,s12⟩
 | false =>
  conv=>whnf
  refine Aa rfl k12 rfl ?_
  refine Aa rfl k2 rfl ?_;conv=>whnf
  refine Ad ((by simp)) ?_;conv=>whnf
  refine Aa rfl k12 rfl ?_
  refine Aa rfl k2 rfl ?_;conv=>whnf
  refine Ad ((by simp)) ?_;conv=>whnf
  refine Aa rfl k12 rfl ?_
  refine Aa rfl k2 rfl ?_;conv=>whnf
  refine Ad ((by simp)) ?_;conv=>whnf
  refine Aa rfl k12 rfl ?_
  refine Aa rfl k2 rfl ?_;conv=>whnf
  refine Ad ((by simp)) ?_;conv=>whnf
  refine Aa rfl k12 rfl ?_
  refine Aa rfl k2 rfl ?_;conv=>whnf
  refine ACalls.mono (EqInts_any h2 (kx.qr.sl.sub s12) (ky.qr.sl.sub s12) (by omega)) ?_
  rw [decide_eq_true (rfl:O.reads=O.reads)]
  rintro _ _ ⟨rfl,rfl⟩
  conv=>whnf
  refine Aa rfl k12 rfl ?_
  refine Aa rfl k2 rfl ?_;conv=>whnf
  refine ACalls.mono (sameEnts_any (kx.entries.sub s12) (ky.entries.sub s12) (by omega)) ?_
  rw [decide_eq_true (kx.ea.trans ky.ea.symm)]
  rintro _ _ ⟨rfl,rfl⟩
  conv=>whnf
  refine Ab rfl k12 rfl rfl ?_
  refine Ab rfl k2 rfl rfl ?_;conv=>whnf
  refine ACalls.mono (sameSnap_any (d1:=x.od) (d2:=y.od) (kx.od.sl.sub s12) (ky.od.sl.sub s12) (by omega)) ?_
  rw [snap_self]
  rintro _ _ ⟨rfl,rfl⟩
  conv=>whnf
  refine Aa rfl k12 rfl ?_
  refine Aa rfl k2 rfl ?_;conv=>whnf
  refine Ad ((by omega)) ?_;conv=>whnf
  refine ALoop.mk (fun e h'=>h2=h'∧∃ e0,∃ j:Nat,e=updL 91 e0 [(2,Ptr b2),(3,Ptr b3),(5,I j)]∧j≤x.op.n) (fun e=>x.op.n-natOf (e 5))
   ⟨rfl,_,0,Au ⟨rfl,rfl,rfl,trivial⟩,by omega⟩ ?_
  rintro e _ ⟨rfl,e0,j,rfl,hj⟩
  conv=>whnf
  refine Aa rfl k12 rfl ?_;conv=>whnf
  by_cases hjn:j<x.op.n
  ·refine Ac (by omega) ?_;conv=>whnf
   obtain ⟨p,hp1,hp2,hp3⟩:=kx.post (j:=j) (by omega)
   obtain ⟨q,hq1,hq2,hq3⟩:=ky.post (j:=j) (by omega)
   have hpq:p.abs=q.abs:=by rw [hp3] at hq3;exact Option.some.inj hq3
   obtain ⟨hb1,hb2⟩:=hp p.abs (List.mem_of_getElem? hp3)
   have el:p.es.length=p.e.n:=hp2.es.len
   have dl:p.data.length=p.d.n:=by have:=hp2.sd.len;simpa [bytesV] using this
   have hb1':p.es.length≤100000000:=by have:p.abs.entries.length=p.es.length:=List.length_map _;omega
   have hb2':p.data.length≤100000000:=hb2
   obtain ⟨b,off,l,E,fz,ea,hb,hc⟩:=(kx.op.sl.sub s12).pos (by omega)
   obtain ⟨b',off',l',E',fz',ea',hb',hc'⟩:=(ky.op.sl.sub s12).pos (by omega)
   have g0:(l.drop (off+j*14)).take 14=p.cells:=by rw [part_of_take hc (by omega),ph_part hp1]
   have g0':(l'.drop (off'+j*14)).take 14=q.cells:=by rw [part_of_take hc' (by omega),ph_part hq1]
   refine Am (h2) [] (Sub.refl _) (by decide +kernel) ?_;conv=>whnf
   refine Aa rfl k12 rfl ?_;conv=>whnf
   rw [ea]
   refine Ai (n:=x.op.n) (z:=14) (j:=j) rfl hjn rfl rfl ?_;conv=>whnf
   refine Ab rfl hb g0 rfl ?_
   refine Aa rfl k2 rfl ?_;conv=>whnf
   rw [ea']
   refine Ai (n:=y.op.n) (z:=14) (j:=j) rfl (by omega) rfl rfl ?_;conv=>whnf
   refine Ab rfl hb' g0' rfl ?_;conv=>whnf
   have po:p.Ok h2 _ _ _:=⟨hp2.es.sub s12,hp2.sd.sub s12⟩
   have qo:q.Ok h2 _ _ _:=⟨hq2.es.sub s12,hq2.sd.sub s12⟩
   refine ACalls.mono (rsame_any po qo (by omega) (by omega)) ?_
   rw [hpq,same_self]
   rintro _ _ ⟨rfl,rfl⟩
   conv=>whnf
   refine ⟨Sub.refl _,?_⟩;conv=>whnf
   refine Ag (by omega) (by omega) ((by omega:(j:Int)+1=((j+1:Nat):Int))) ?_;conv=>whnf
   refine ⟨⟨rfl,_,j+1,Au ⟨rfl,rfl,rfl,trivial⟩,by omega⟩,?_⟩
   show x.op.n-(j+1)<x.op.n-j
   omega
  ·refine Ad (by omega) ?_;conv=>whnf
   exact ⟨rfl,s12⟩
section
variable {h h':Heap} {N p:Nat} {x:NetM} {v:NX} {n:Int} {g:Gh}
theorem out_yes (k:NetX h N p x v) (n1:1≤n) (n2:n≤x.size) {o:OutM} {ox:OX} (out:OutOk h (N+1) o ox) (ok:KeepOk x n o) :
  ACalls PR 22 #[Ptr p,I n, .agg (outCells o ox).toArray,I 0] h (fun r h'=>r = .tuple #[]∧(∃ v',NetX h' N p (x.keep n o) v')∧Low N h h'):=by
 refine As mix Tryz.func22 rfl rfl Tryz.ntmps22 Tryz.results22 rfl ?_;conv=>whnf
 refine Al (0,1) (outCells o ox) rfl fun b6 h1 n1' s1 k1=>?_;conv=>whnf
 refine Ac (rfl) ?_;conv=>whnf
 refine Ab rfl k1 rfl rfl ?_;conv=>whnf
 refine ACalls.mono (keep_any (k.sub s1) n1 n2 (out.move fun _ _ _ _ e=>s1 _ _ e) ok) ?_
 rintro _ h2 ⟨rfl,k2,L2⟩
 conv=>whnf
 exact ⟨rfl,k2,s1.low.trans L2⟩
theorem out_no (h:Heap) (p:Nat) (n:Int) {e:Int} (he:e≠0) :
  ACalls PR 22 #[Ptr p,I n, .agg (outCells out0 ox0).toArray,I e] h (fun r h'=>r = .tuple #[]∧Sub h h'):=by
 refine As mix Tryz.func22 rfl rfl Tryz.ntmps22 Tryz.results22 rfl ?_;conv=>whnf
 refine Al (0,1) (outCells out0 ox0) rfl fun b6 h1 n1' s1 k1=>?_;conv=>whnf
 refine Ad (he) ?_;conv=>whnf
 exact ⟨rfl,s1⟩
theorem NetX.coreNew (k:NetX h N p x v) (n1:1≤n) (n5:n≤5) {b:Nat} {c:CoreM} (mv:∀ b (t:Tag) y,t≠(N,0)→t.1≠N+2*n.toNat→t.1≠N+2*n.toNat+1→h b=some (t,y)→h' b=some (t,y)) (id:PIdle h' b (N+2*n.toNat) c) {v':NX} (hv:v'.cp.get n=some b∧(∀ m,1≤m→m≤5→m≠n→v'.cp.get m=v.cp.get m)∧v'={v with cp:=v'.cp}) (n2:n≤x.size)
  (hs:h' p=some (row (N,0) (netCells x v') 41)):NetX h' N p {x with cores:=x.cores.set n c} v':=by
 obtain ⟨hv1,hv2,hv3⟩:=hv
 have e1:v'.ke=v.ke:=by rw [hv3]
 have e2:v'.ml=v.ml:=by rw [hv3]
 have e3:v'.ps=v.ps:=by rw [hv3]
 have e4:v'.m1=v.m1:=by rw [hv3]
 have e5:v'.e1=v.e1:=by rw [hv3]
 have e6:v'.k1=v.k1:=by rw [hv3]
 have e7:v'.m2=v.m2:=by rw [hv3]
 have e8:v'.e2=v.e2:=by rw [hv3]
 have e9:v'.k2=v.k2:=by rw [hv3]
 have e10:v'.ch=v.ch:=by rw [hv3]
 refine ⟨k.n0,hs,k.sz3,k.sz5,fun m m1 m2=>?_,fun m m1 m2=>?_,fun m m1 m2=>?_,?_,by rw [e3];exact k.pa,fun y hy=>?_,k.mb,?_,by rw [e5];exact k.ledE,?_,by rw [e8,e10];exact k.choE,by rw [e10];exact k.choA,fun y hy=>?_⟩
 ·have hs5:=k.sz5
  have m2':m≤x.size:=m2
  by_cases z:m=n
  ·refine ⟨b,by rw [z];exact hv1,?_⟩
   show PIdle h' b (N+2*m.toNat) ((x.cores.set n c).get m)
   rw [Fv.get_set _ _ _ _ m1 (by omega),if_pos z,z];exact id
  ·obtain ⟨b',hb',id'⟩:=k.cores m m1 m2'
   refine ⟨b',by rw [hv2 m m1 (by omega) z];exact hb',?_⟩
   show PIdle h' b' (N+2*m.toNat) ((x.cores.set n c).get m)
   rw [Fv.get_set _ _ _ _ m1 (by omega),if_neg z]
   exact id'.move fun _ t _ ht e=>mv _ _ _ (fun c=>by rw [c] at ht;simp only at ht;omega) (by omega) (by omega) e
 ·have m1':x.size<m:=m1
  have:=k.sz3
  rw [hv2 m (by omega) m2 (by omega)];exact k.none m m1 m2
 ·rw [e1]
  obtain ⟨q1,t1,q2,q3⟩:=k.kept m m1 m2
  exact ⟨q1,t1,q2,q3.move fun _ t _ ht e=>mv _ _ _ (by rcases ht with rfl | rfl | rfl <;> (intro c;have:=congrArg Prod.fst c;have:=congrArg Prod.snd c;simp only at *;omega)) (by rcases ht with rfl | rfl | rfl <;> first | omega | (show N+1≠_;omega)) (by rcases ht with rfl | rfl | rfl <;> first | omega | (show N+1≠_;omega)) e⟩
 ·rw [e2,e3];exact k.ml.move fun _ _ e=>mv _ _ _ (by simp) (by simp;omega) (by simp;omega) e
 ·rw [e3] at hy
  obtain ⟨r,hr⟩:=k.ps y hy
  exact ⟨r,hr.move fun _ t _ ht e=>mv _ _ _ (by rcases ht with rfl | rfl | rfl <;> simp) (by rcases ht with rfl | rfl | rfl <;> (show N+1≠_;omega)) (by rcases ht with rfl | rfl | rfl <;> (show N+1≠_;omega)) e⟩
 ·rw [e4,e5,e6];exact k.led.move fun _ e=>mv _ _ _ (by simp) (by simp;omega) (by simp;omega) e
 ·rw [e7,e8,e9];exact k.cho.move fun _ e=>mv _ _ _ (by simp) (by simp;omega) (by simp;omega) e
 ·rw [e10] at hy
  exact Sl.move (k.choG y hy) fun _ _ e=>mv _ _ _ (by simp) (by show N+1≠_;omega) (by show N+1≠_;omega) e
theorem NetX.coreSet (k:NetX h N p x v) (n1:1≤n) (n2:n≤x.size) {b:Nat} {c:CoreM} (hb:v.cp.get n=some b) (kk:Keeps [N+2*n.toNat,N+2*n.toNat+1] h h') (id:PIdle h' b (N+2*n.toNat) c):NetX h' N p {x with cores:=x.cores.set n c} v :=
 k.coreNew n1 (by have:=k.sz5;omega) (fun b t y _ a1 a2 e=>kk _ _ _ (by simp [a1,a2]) e) id ⟨hb,fun _ _ _ _=>rfl,rfl⟩ n2 (kk _ _ _ (by simp;omega) k.str)
theorem keeps_low {n:Int} (n1:1≤n) (kk:Keeps [N+2*n.toNat,N+2*n.toNat+1] h h'):Low N h h':=fun b t y ht e=>kk _ _ _ (by simp;omega) e
theorem out_call (k:NetX h N p x v) (n1:1≤n) (n2:n≤x.size) {b:Nat} (hb:v.cp.get n=some b) {c:CoreM} {h1 h2:Heap} {ox:OX} (kk:Keeps [N+2*n.toNat,N+2*n.toNat+1] h h1) (id:PIdle h1 b (N+2*n.toNat) c.done.1) (out:OutOk h1 (N+1) c.done.2 ox)
  (ok:KeepOk {x with cores:=x.cores.set n c.done.1} n c.done.2) (s:Sub h1 h2) :
  ACalls PR 22 #[Ptr p,I n, .agg (outCells c.done.2 ox).toArray,I 0] h2 (fun r h'=>r = .tuple #[]∧(∃ v',NetX h' N p (x.out n c) v')∧Low N h h'):=by
 refine (out_yes ((k.coreSet n1 n2 hb kk id).sub s) n1 n2 (out.move fun _ _ _ _ e=>s _ _ e) ok).mono ?_
 rintro _ h3 ⟨rfl,k3,L3⟩
 exact ⟨rfl,k3,(keeps_low n1 kk).trans (s.low.trans L3)⟩
end
section
variable {h h':Heap} {N p:Nat} {x:NetM} {v:NX} {n:Int} {g:Gh}
theorem and_1023 (b:Int):IntKind.i64.wrap (BitVec.ofInt 64 b &&& BitVec.ofInt 64 1023).toNat=b % 1024:=by
 have h1:(BitVec.ofInt 64 b &&& BitVec.ofInt 64 1023).toNat=(b % 2^64).toNat % 1024:=by
  rw [BitVec.toNat_and,BitVec.toNat_ofInt,BitVec.toNat_ofInt]
  exact Nat.and_two_pow_sub_one_eq_mod _ 10
 have h2:((b % 2^64).toNat:Int)=b % 2^64:=Int.toNat_of_nonneg (Int.emod_nonneg _ (by decide))
 have h3:(((b % 2^64).toNat % 1024:Nat):Int)=b % 1024:=by
  rw [Int.natCast_emod,h2]
  omega
 rw [h1,h3]
 exact i64_wrap (by omega) (by omega)
structure StepH where
  op:Int
  a:Int
  b:Int
def StepH.cells (s:StepH):List Value:=[I s.op,I s.a,I s.b]
def StepH.m (s:StepH):StepM:=⟨s.op,s.a,s.b⟩
theorem Given.of (w:Wld g) (n1:1≤n) {y:PH} (hr:∃ r,y.Ok h (N+1,r) (N+1,5) (N+1,6)) (m:Msg g y.abs):∀ oo,Bound oo h→N+2*n.toNat+1<oo→Given h (N+2*n.toNat) oo y:=by
 intro oo bnd ho
 obtain ⟨r,hr⟩:=hr
 obtain ⟨a,b,c⟩:=m.small w
 have hl:y.es.length=y.e.n:=hr.es.len
 have c':y.es.length≤8:=by have:=c;simpa [PH.abs] using this
 have ht:∀ r:Nat,((N+1,r):Tag).1∉[N+2*n.toNat,N+2*n.toNat+1,oo]:=fun r=>by simp;omega
 have h2:y.abs.snap.crew=y.sc:=rfl
 exact ⟨⟨_,_,_,hr,ht _,ht _,ht _⟩,fun e he z hz=>a e.abs (List.mem_map.2 ⟨e,he,rfl⟩) z hz,by omega,by omega,by omega⟩
theorem dropN_map {α β:Type} (f:α→β) (l:List α) (i:Nat):(dropN l i).map f=dropN (l.map f) i:=by simp [dropN,List.map_take,List.map_drop]
def NetM.opTake (x:NetM) (i:Nat):Option PostM→NetM
  | none=>x
  | some p=>({x with mails:=dropN x.mails i}).take p x.draw
def NetM.opTwice (x:NetM):Option PostM→NetM
  | none=>x
  | some p=>if x.mails.length<300 then {x with mails:=x.mails++[p]} else x
theorem not_loc {N q:Nat} (hN:N≠0):((0,1):Tag).1∉[N+2*q,N+2*q+1]:=by simp;omega
theorem dropN_len {α:Type} (l:List α) (i:Nat):(dropN l i).length≤l.length:=by simp [dropN];omega
end
section
variable {b:Nat} {c:CoreM}
structure Small (o:OutM):Prop where
  s:o.snap.data.length≤8192
  e:o.entries.length≤100000000
  r:o.reads.length≤100000000
  n:o.posts.length≤10
  p:∀ q∈o.posts,q.entries.length≤8∧q.snap.data.length≤8192
variable {g:Gh} {n:Int} {x:NetM}
end
section
def RTold2 (M p o:Nat) (d:CoreM) (h:Heap) (v:Value) (h':Heap):Prop :=
  ∃ ox,v = .agg (outCells d.done.2 ox).toArray∧OutOk h' M d.done.2 ox∧RIdle h' p o d.done.1∧Keeps [o,o+1] h h'
theorem RTold.turn {p o oo M:Nat} {d:CoreM} {h h':Heap} {v:Value} (t:RTold p o oo d h v h') (hb:Bound oo h) (h1:o≠oo) (h2:o+1≠oo):∃ h'',Turned h'' h'∧RTold2 M p o d h v h'':=by
 obtain ⟨ox,e,ok,q,kk⟩:=t
 refine ⟨h'.retag oo M,retag_turned _ _ _,ox,e,ok.retag,?_,keeps_retag hb kk⟩
 have i:RIdle h' p o d.done.1:=Idle.of q rfl
 exact i.keeps (os:=[oo]) (fun b t x ht e=>retag_out (by simpa using ht) e) (by simpa using h1) (by simpa using h2)
variable {h h':Heap} {p o:Nat} {c:CoreM}
theorem rtick_net (M:Nat) (h0:o≠0) (k:RIdle h p o c) (ok:DOk c) {d:Int} (hd:0≤d) :
  ACalls PR 39 #[Ptr p,I d] h (fun v h'=>∃ u,v = .tuple #[u,I 0]∧RTold2 M p o (c.tick d) h u h'):=by
 refine ACalls.owner ⟨_,Tryz.func39,rfl,rfl⟩ fun o0 ho0 bnd=>?_
 have ap:Apart o (o0+o+2):=⟨by omega,by omega,h0,by omega⟩
 refine (rTick_any ap (k.all _) ok d).turn fun v h' r=>?_
 rcases r with ⟨c1,_⟩ | ⟨_,u,rfl,t⟩
 ·omega
 ·obtain ⟨h'',a,b⟩:=t.turn (M:=M) (bnd.le (by omega)) ap.a ap.b
  exact ⟨h'',a,u,rfl,b⟩
theorem rtake_net (M:Nat) (h0:o≠0) (k:RIdle h p o c) (ok:DOk c) (x:PH) (g:∀ oo,Bound oo h→o+1<oo→Given h o oo x) (ht:c.takes x.abs=true) {d:Int} (hd:0≤d) (hdn:x.d.n≤4611686018427387904) :
  ACalls PR 40 #[Ptr p, .agg x.cells.toArray,I d] h (fun v h'=>∃ u,v = .tuple #[u,I 0]∧RTold2 M p o (c.take x.abs d) h u h'):=by
 refine ACalls.owner ⟨_,Tryz.func40,rfl,rfl⟩ fun o0 ho0 bnd=>?_
 have ap:Apart o (o0+o+2):=⟨by omega,by omega,h0,by omega⟩
 refine (rTake_any ap (k.all _) ok x (g _ (bnd.le (by omega)) (by omega)) d hdn).turn fun v h' r=>?_
 rcases r with ⟨c1,_⟩ | ⟨_,_,u,rfl,t⟩
 ·rcases c1 with c1 | c1
  ·rw [ht] at c1;cases c1
  ·omega
 ·obtain ⟨h'',a,b⟩:=t.turn (M:=M) (bnd.le (by omega)) ap.a ap.b
  exact ⟨h'',a,u,rfl,b⟩
theorem rread_net (M:Nat) (h0:o≠0) (k:RIdle h p o c) (ok:DOk c) :
  ACalls PR 42 #[Ptr p] h (fun v h'=>(c.readE≠0∧v = .tuple #[I 0, .agg (outCells out0 ox0).toArray,I c.readE]∧Sub h h')∨(c.readE=0∧∃ u,v = .tuple #[I (c.round+1),u,I 0]∧RTold2 M p o c.read h u h')):=by
 refine ACalls.owner ⟨_,Tryz.func42,rfl,rfl⟩ fun o0 ho0 bnd=>?_
 have ap:Apart o (o0+o+2):=⟨by omega,by omega,h0,by omega⟩
 refine (rRead_any ap (k.all _) ok).turn fun v h' r=>?_
 rcases r with r | ⟨e,u,rfl,t⟩
 ·exact ⟨h',sub_turned, .inl r⟩
 ·obtain ⟨h'',a,b⟩:=t.turn (M:=M) (bnd.le (by omega)) ap.a ap.b
  exact ⟨h'',a, .inr ⟨e,u,rfl,b⟩⟩
theorem rpropose_net (M:Nat) (h0:o≠0) (k:RIdle h p o c) (ok:DOk c) (kind:Int) {t:Tag} {a:Option Addr} {n cp:Nat} {data:List Int} (g:Sl h t a n cp 1 (bytesV data)) (ht:t.1≠o) (hb:∀ z∈data,0≤z∧z<256) :
  ACalls PR 41 #[Ptr p,I kind, .slice a n cp] h (fun v h'=>(c.proposeE kind data≠0∧v = .tuple #[I 0, .agg (outCells out0 ox0).toArray,I (c.proposeE kind data)]∧Sub h h') ∨
   (c.proposeE kind data=0∧∃ u,v = .tuple #[I (c.log.last.1+1),u,I 0]∧RTold2 M p o (c.propose kind data) h u h')):=by
 refine ACalls.owner ⟨_,Tryz.func41,rfl,rfl⟩ fun o0 ho0 bnd=>?_
 have ap:Apart o (o0+o+2):=⟨by omega,by omega,h0,by omega⟩
 refine (rPropose_any ap (k.all _) ok kind (d:=⟨a,n,cp⟩) g ht hb).turn fun v h' r=>?_
 rcases r with r | ⟨e,u,rfl,t⟩
 ·exact ⟨h',sub_turned, .inl r⟩
 ·obtain ⟨h'',a,b⟩:=t.turn (M:=M) (bnd.le (by omega)) ap.a ap.b
  exact ⟨h'',a, .inr ⟨e,u,rfl,b⟩⟩
theorem rcompact_net (M:Nat) (h0:o≠0) (k:RIdle h p o c) (ok:DOk c) (hbi:c.log.bi≤c.snap.index) (hsi:c.snap.index≤9007199254740991) (i:Int) {t:Tag} {a:Option Addr} {n cp:Nat} {data:List Int} (g:Sl h t a n cp 1 (bytesV data)) (ht:t.1≠o) (ht1:t.1≠o+1) (hdn:n≤140737488355328) :
  ACalls PR 43 #[Ptr p,I i, .slice a n cp] h (fun v h'=>(c.compactE i data≠0∧v = .tuple #[.agg #[I 0,I 0,I 0, .slice none 0 0],I (c.compactE i data)]∧Sub h h') ∨
   (c.compactE i data=0∧∃ a n cc,v = .tuple #[.agg #[I i,I (c.compact i data).snap.term,I (c.compact i data).snap.crew, .slice a n cc],I 0]∧Own h' (M,6) 5 a n cc 1 (bytesV data)∧RIdle h' p o (c.compact i data)∧Keeps [o,o+1] h h')):=by
 refine ACalls.owner ⟨_,Tryz.func43,rfl,rfl⟩ fun o0 ho0 bnd=>?_
 have ap:Apart o (o0+o+2):=⟨by omega,by omega,h0,by omega⟩
 refine (rCompact_any ap k ok hbi hsi i (d:=⟨a,n,cp⟩) g ht ht1 hdn).turn fun v h' r=>?_
 rcases r with r | ⟨e,a,n,cc,rfl,ow,q,kk⟩
 ·exact ⟨h',sub_turned, .inl r⟩
 ·refine ⟨h'.retag (o0+o+2) M,retag_turned _ _ _, .inr ⟨e,a,n,cc,rfl,ow.turn fun _ _ e=>retag_in e,?_,keeps_retag (bnd.le (by omega)) kk⟩⟩
  exact q.keeps (os:=[o0+o+2]) (fun b t x ht e=>retag_out (by simpa using ht) e) (by simp;omega) (by simp;omega)
variable {N:Nat} {x:NetM} {v:NX} {n:Int} {g:Gh}
end
section
variable {h h':Heap} {N p:Nat} {x0 x:NetM} {v:NX} {m:Fv (Option Nat)} {n:Int} {g:Gh}
def doCells (kind A:Int) (y:PH) (d:SlV):List Value:=[I kind,I A,I y.kind,I y.src,I y.dst,I y.term,I y.index,I y.logTerm,I y.commit, .bool y.ok,I y.hint, .slice y.e.a y.e.n y.e.c,I y.si,I y.st,I y.sc, .slice y.d.a y.d.n y.d.c, .slice d.a d.n d.c]
def CoreM.proposed (c:CoreM) (kind:Int) (data:List Int):Int×Int×OutM×CoreM:=if c.proposeE kind data=0 then (c.log.last.1+1,0,(c.propose kind data).done.2,(c.propose kind data).done.1) else (0,c.proposeE kind data,out0,c)
def CoreM.asked1 (c:CoreM):Int×Int×OutM×CoreM:=if c.readE=0 then (c.round+1,0,c.read.done.2,c.read.done.1) else (0,c.readE,out0,c)
def Ans (T:TypeId) (LP:Heap→Nat→Nat→LG→Prop) (M p o:Nat) (O:OutM) (C:CoreM) (h:Heap) (u:Value) (h':Heap):Prop :=
  ∃ ox,u = .agg (outCells O ox).toArray∧OutOk h' M O ox∧Idle T LP h' p o C∧Keeps [o,o+1] h h'
theorem Ans.no {T:TypeId} {LP:Heap→Nat→Nat→LG→Prop} [Moves LP] {M p o:Nat} {C:CoreM} (k:Idle T LP h p o C) (s:Sub h h'):Ans T LP M p o out0 C h (.agg (outCells out0 ox0).toArray) h' :=
 ⟨ox0,rfl,OutOk.zero _ _,k.move fun _ _ _ _ e=>s _ _ e,s.keeps _⟩
theorem propose_two {o:Nat} {c:CoreM} (M:Nat) (h0:o≠0) (k:PIdle h p o c) (ok:COk c) (kind:Int) {t:Tag} {a:Option Addr} {n cp:Nat} {data:List Int} (g:Sl h t a n cp 1 (bytesV data)) (hb:∀ z∈data,0≤z∧z<256) :
  ACalls PR 21 #[Ptr p,I kind, .slice a n cp] h (fun v h'=>∃ u,v = .tuple #[I (c.proposed kind data).1,u,I (c.proposed kind data).2.1]∧Ans 81 LA M p o (c.proposed kind data).2.2.1 (c.proposed kind data).2.2.2 h u h'):=by
 refine (propose_net M h0 k ok kind g hb).mono ?_
 unfold CoreM.proposed
 rintro _ h' (⟨e,rfl,s⟩ | ⟨e,u,rfl,t⟩)
 ·rw [if_neg e];exact ⟨_,rfl,Ans.no k s⟩
 ·rw [if_pos e];exact ⟨u,rfl,t⟩
theorem rpropose_two {o:Nat} {c:CoreM} (M:Nat) (h0:o≠0) (k:RIdle h p o c) (ok:DOk c) (kind:Int) {t:Tag} {a:Option Addr} {n cp:Nat} {data:List Int} (g:Sl h t a n cp 1 (bytesV data)) (ht:t.1≠o) (hb:∀ z∈data,0≤z∧z<256) :
  ACalls PR 41 #[Ptr p,I kind, .slice a n cp] h (fun v h'=>∃ u,v = .tuple #[I (c.proposed kind data).1,u,I (c.proposed kind data).2.1]∧Ans 98 RL M p o (c.proposed kind data).2.2.1 (c.proposed kind data).2.2.2 h u h'):=by
 refine (rpropose_net M h0 k ok kind g ht hb).mono ?_
 unfold CoreM.proposed
 rintro _ h' (⟨e,rfl,s⟩ | ⟨e,u,rfl,t⟩)
 ·rw [if_neg e];exact ⟨_,rfl,Ans.no k s⟩
 ·rw [if_pos e];exact ⟨u,rfl,t⟩
theorem read_two {o:Nat} {c:CoreM} (M:Nat) (h0:o≠0) (k:PIdle h p o c) (ok:COk c) :
  ACalls PR 26 #[Ptr p] h (fun v h'=>∃ u,v = .tuple #[I c.asked1.1,u,I c.asked1.2.1]∧Ans 81 LA M p o c.asked1.2.2.1 c.asked1.2.2.2 h u h'):=by
 refine (read_net M h0 k ok).mono ?_
 unfold CoreM.asked1
 rintro _ h' (⟨e,rfl,s⟩ | ⟨e,u,rfl,t⟩)
 ·rw [if_neg e];exact ⟨_,rfl,Ans.no k s⟩
 ·rw [if_pos e];exact ⟨u,rfl,t⟩
theorem rread_two {o:Nat} {c:CoreM} (M:Nat) (h0:o≠0) (k:RIdle h p o c) (ok:DOk c) :
  ACalls PR 42 #[Ptr p] h (fun v h'=>∃ u,v = .tuple #[I c.asked1.1,u,I c.asked1.2.1]∧Ans 98 RL M p o c.asked1.2.2.1 c.asked1.2.2.2 h u h'):=by
 refine (rread_net M h0 k ok).mono ?_
 unfold CoreM.asked1
 rintro _ h' (⟨e,rfl,s⟩ | ⟨e,u,rfl,t⟩)
 ·rw [if_neg e];exact ⟨_,rfl,Ans.no k s⟩
 ·rw [if_pos e];exact ⟨u,rfl,t⟩
def CoreM.compacted (c:CoreM) (i:Int) (data:List Int):Int×SnapM×CoreM:=if c.compactE i data=0 then (0,(c.compact i data).snap,c.compact i data) else (c.compactE i data,snap0,c)
def snapCells (s:SnapM) (a:Option Addr) (n cc:Nat):List Value:=[I s.index,I s.term,I s.crew, .slice a n cc]
theorem compact_two {o:Nat} {c:CoreM} (M:Nat) (h0:o≠0) (k:PIdle h p o c) (ok:COk c) (hbi:c.log.bi≤c.snap.index) (hsi:c.snap.index≤9007199254740991) (i:Int) {t:Tag} {a:Option Addr} {n cp:Nat} {data:List Int} (g:Sl h t a n cp 1 (bytesV data)) (ht:t.1≠o+1) (hdn:n≤140737488355328) :
  ACalls PR 27 #[Ptr p,I i, .slice a n cp] h (fun v h'=>∃ a n cc,v = .tuple #[.agg (snapCells (c.compacted i data).2.1 a n cc).toArray,I (c.compacted i data).1]∧Own h' (M,6) 5 a n cc 1 (bytesV (c.compacted i data).2.1.data)∧PIdle h' p o (c.compacted i data).2.2∧Keeps [o,o+1] h h'):=by
 refine (compact_net M h0 k ok hbi hsi i g ht hdn).mono ?_
 unfold CoreM.compacted
 rintro _ h' (⟨e,rfl,s⟩ | ⟨e,a,n,cc,rfl,ow,q,kk⟩)
 ·rw [if_neg e];exact ⟨none,0,0,rfl, .inl ⟨rfl,rfl,rfl⟩,k.move fun _ _ _ _ e=>s _ _ e,s.keeps _⟩
 ·rw [if_pos e];exact ⟨a,n,cc,rfl,ow,q,kk⟩
theorem rcompact_two {o:Nat} {c:CoreM} (M:Nat) (h0:o≠0) (k:RIdle h p o c) (ok:DOk c) (hbi:c.log.bi≤c.snap.index) (hsi:c.snap.index≤9007199254740991) (i:Int) {t:Tag} {a:Option Addr} {n cp:Nat} {data:List Int} (g:Sl h t a n cp 1 (bytesV data)) (ht:t.1≠o) (ht1:t.1≠o+1) (hdn:n≤140737488355328) :
  ACalls PR 43 #[Ptr p,I i, .slice a n cp] h (fun v h'=>∃ a n cc,v = .tuple #[.agg (snapCells (c.compacted i data).2.1 a n cc).toArray,I (c.compacted i data).1]∧Own h' (M,6) 5 a n cc 1 (bytesV (c.compacted i data).2.1.data)∧RIdle h' p o (c.compacted i data).2.2∧Keeps [o,o+1] h h'):=by
 refine (rcompact_net M h0 k ok hbi hsi i g ht ht1 hdn).mono ?_
 unfold CoreM.compacted
 rintro _ h' (⟨e,rfl,s⟩ | ⟨e,a,n,cc,rfl,ow,q,kk⟩)
 ·rw [if_neg e];exact ⟨none,0,0,rfl, .inl ⟨rfl,rfl,rfl⟩,k.move fun _ _ _ _ e=>s _ _ e,s.keeps _⟩
 ·rw [if_pos e];exact ⟨a,n,cc,rfl,ow,q,kk⟩
end
structure DoM where
  kind:Int
  a:Int
  p:PostM
  data:List Int
def CoreM.ticked (c:CoreM) (d:Int):Int×OutM×CoreM:=if d<0 then (2,out0,c) else (0,(c.tick d).done.2,(c.tick d).done.1)
def CoreM.taken (c:CoreM) (p:PostM) (d:Int):Int×OutM×CoreM:=if c.takes p=true∧0≤d then (0,(c.take p d).done.2,(c.take p d).done.1) else (2,out0,c)
def CoreM.ticks:Nat→CoreM→CoreM
  | 0,c=>c
  | k+1,c=>CoreM.ticks k (c.ticked ((k:Int)+1)).2.2
def CoreM.does (c:CoreM) (d:DoM):CoreM :=
  if d.kind=0 then (c.ticked d.a).2.2
  else if d.kind=1 then (c.taken d.p d.a).2.2
  else if d.kind=2 then (c.proposed d.a d.data).2.2.2
  else if d.kind=3 then c.asked1.2.2.2
  else if d.kind=4 then (c.compacted d.a d.data).2.2
  else if d.kind=5 then c
  else c.ticks (bring d.a 25).toNat
def idxB (i:Int):List Abs→Bool
  | []=>true
  | e::r=>decide (e.2.1=i+1)&&idxB (i+1) r
def byteB (l:List Int):Bool:=l.all fun z=>decide (0≤z∧z<256)
def fiveB (f:Five) (m:Int):Bool:=decide ((0≤f.a1∧f.a1≤m)∧(0≤f.a2∧f.a2≤m)∧(0≤f.a3∧f.a3≤m)∧(0≤f.a4∧f.a4≤m)∧(0≤f.a5∧f.a5≤m))
def logB (L:LG):Bool :=
  idxB L.bi L.es&&decide (0≤L.bi)&&decide (L.bi+L.es.length≤9007199254740991)&&decide (L.es.length≤1000) &&
  L.es.all fun e=>decide (e.2.2.2.length≤1200)&&(decide (e.2.2.1≠2) || (crewOk e&&byteB e.2.2.2))
def CoreM.goodB (c:CoreM):Bool :=
  logB c.log&&decide (c.snap.data.length≤8192)&&fiveB c.next 9007199254740992&&fiveB c.mtch 9007199254740991 &&
  decide (1≤c.self∧c.self≤5)&&decide (0≤c.term∧c.term≤9007199254740991)&&decide (c.reads.length≤1000)&&decide (0≤c.quiet∧c.quiet≤10) &&
  decide (0≤c.votes∧c.votes<64)&&decide (1≤c.wait∧c.wait≤19)&&decide (0≤c.beat∧c.beat≤2)&&decide (0≤c.round∧c.round≤9007199254740991) &&
  decide (0≤c.first∧c.first≤255)&&decide (0≤c.snap.crew∧c.snap.crew≤255)&&decide (0≤c.commit∧c.commit≤9007199254740991)&&decide (c.log.bi≤c.commit)&&decide (c.log.bi≤c.snap.index∧c.snap.index≤9007199254740991)
def OutM.smallB (o:OutM):Bool:=decide (o.snap.data.length≤8192)&&decide (o.entries.length≤1000)&&decide (o.reads.length≤1000)&&decide (o.posts.length≤10)&&o.posts.all fun q=>decide (q.entries.length≤8)&&decide (q.snap.data.length≤8192)
def CoreM.ticksB:Nat→CoreM→Bool
  | 0,c=>c.goodB
  | k+1,c=>c.goodB&&(c.ticked ((k:Int)+1)).2.1.smallB&&CoreM.ticksB k (c.ticked ((k:Int)+1)).2.2
def CoreM.doesB (c:CoreM) (d:DoM):Bool :=
  if d.kind=0 then (c.ticked d.a).2.1.smallB
  else if d.kind=1 then (c.taken d.p d.a).2.1.smallB
  else if d.kind=2 then (c.proposed d.a d.data).2.2.1.smallB
  else if d.kind=3 then c.asked1.2.2.1.smallB
  else if d.kind=4 then decide ((c.compacted d.a d.data).2.1.data.length≤8192)
  else if d.kind=5 then true
  else c.ticksB (bring d.a 25).toNat
def DoM.okB (d:DoM):Bool:=decide (0≤d.kind∧d.kind≤6)&&byteB d.data&&decide (d.data.length≤8192)&&d.p.entries.all (fun e=>byteB e.2.2.2)&&decide (d.p.entries.length≤1000)&&decide (d.p.snap.data.length≤8192)&&decide (-9223372036854775808≤d.p.snap.crew∧d.p.snap.crew≤9223372036854775807)&&d.p.entries.all (fun e=>decide (e.2.2.2.length≤100000))
def CoreM.runs:CoreM→List DoM→Bool
  | c,[]=>c.goodB
  | c,d::l=>c.goodB&&d.okB&&c.doesB d&&CoreM.runs (c.does d) l
structure BeginM where
  self:Int
  crew:Int
  draw:Int
  s:SavedM
def BeginM.okB (b:BeginM):Bool:=b.s.entries.all (fun e=>byteB e.2.2.2)&&decide (-9223372036854775808≤b.crew∧b.crew≤9223372036854775807)&&decide (-9223372036854775808≤b.s.snap.crew∧b.s.snap.crew≤9223372036854775807)&&decide (b.s.entries.length≤1000)&&decide (b.s.snap.data.length≤8192)
def BeginM.runs (b:BeginM) (l:List DoM):Bool:=b.okB&&(!cnewOk b.self b.crew b.s b.draw || (cnew b.self b.crew b.s b.draw).runs l)
def dk (k a:Int):DoM:=⟨k,a,post0,[]⟩
def dd (k a:Int) (l:List Int):DoM:=⟨k,a,post0,l⟩
def dp (p:PostM):DoM:=⟨1,0,p,[]⟩
def pv (k s t:Int) (ok:Bool:=false) (index:Int:=0) (hint:Int:=0) (logTerm:Int:=0) (commit:Int:=0) (entries:List Abs:=[]) (snap:SnapM:=snap0):PostM:=⟨k,s,1,t,index,logTerm,commit,ok,hint,entries,snap⟩
def ee (t i:Int) (k:Int:=0) (d:List Int:=[]):Abs:=(t,i,k,d)
def beginsM:List BeginM:=[⟨1,14,0,saved0⟩,⟨1,2,9,saved0⟩,⟨0,14,0,saved0⟩,⟨1,1,0,saved0⟩,⟨1,14,-1,saved0⟩,
  ⟨5,14,3,⟨4,2,snap0,[ee 1 1,ee 4 2 2 [46]]⟩⟩,⟨1,14,0,⟨1,0,snap0,[ee 2 1]⟩⟩,⟨1,14,0,⟨2,0,snap0,[ee 2 2]⟩⟩,⟨1,14,0,⟨2,0,snap0,[ee 2 1 2]⟩⟩,
  ⟨2,14,0,⟨5,0,⟨3,4,6,[1]⟩,[ee 4 4]⟩⟩,⟨2,14,0,⟨3,0,⟨3,4,6,[]⟩,[]⟩⟩,⟨2,14,0,⟨5,0,⟨0,0,6,[]⟩,[]⟩⟩,⟨2,14,0,⟨5,0,⟨3,4,0,[]⟩,[]⟩⟩,
  ⟨1,14,0,⟨9007199254740991,5,snap0,[]⟩⟩,⟨1,14,0,⟨0,6,snap0,[]⟩⟩]
def callsM:List DoM:=[dk 0 (-1),dk 2 1,dk 3 0,dk 4 1,dk 5 1,dk 6 10,dp (pv 2 2 1 true),dd 2 1 [120],dk 3 0,dd 2 2 [30],dp (pv 4 2 1 true 1),dp (pv 4 2 1 true 99 1),dk 3 0,dd 2 2 [30],dd 2 2 [62],dk 2 2,dk 2 0,
  dd 2 1 (List.replicate 1201 0),dp (pv 4 3 1 false 0 2),dp (pv 6 3 1 false 2 1),dd 4 1 [115],dk 5 1,dk 5 2,dp (pv 4 4 1),dk 4 9,dp (pv 1 3 9 false 9 0 9),dp (pv 3 3 9 false 1 0 1 5 [ee 9 2,ee 9 3]),dp (pv 3 3 9 false 8 0 9),
  dp (pv 5 3 9 false 0 2 0 0 [] ⟨7,9,6,[7]⟩),dp (pv 3 3 9 false 5 0 9 8 [ee 9 6,ee 9 7,ee 9 8]),dp (pv 1 2 12 false 9 0 10),dk 6 12,dp (pv 1 2 8 false 9 0 8),dp (pv 3 2 8 false 0 4),dp ⟨9,0,0,0,0,0,0,false,0,[],snap0⟩,dp {pv 2 1 1 with dst:=2},
  dp (pv 2 2 15 true)]
def DoM.turned (d:DoM):DoM:=if d.p.dst=1 then {d with p:={d.p with dst:=2,src:=1+2*(d.p.src % 2)}} else d
def BeginM.turned (b:BeginM):BeginM:=if b.self=1 then {b with self:=2} else b
def leadM:List DoM:=[dk 6 10,dp (pv 2 2 2 true)]
def toldM (f:Int) (ok:Bool) (i:Int):DoM:=dp (pv 4 f 2 ok i)
def nextM:PostM:=pv 3 3 3 false 1 0 1 0 [ee 3 2,ee 3 3 2 [30]]
def playsM:List (List DoM):=[leadM++[toldM 2 true 2,toldM 3 true 1,toldM 2 true 3],leadM++[toldM 3 false 0,toldM 3 false 0,toldM 2 true 99,dk 2 1,toldM 2 false 9],
  [dp nextM,dp (pv 5 3 3 false 0 0 0 0 [] ⟨2,2,14,[]⟩),dk 5 3,dp nextM],[dp nextM,dp (pv 5 3 3 false 0 0 0 0 [] ⟨2,3,14,[]⟩),dk 5 3,dk 4 3],
  [⟨1,9,nextM,[]⟩,dk 6 9,dp (pv 1 2 4 false 9 0 4),dk 6 1,dp (pv 1 2 4 false 9 0 4)],[dp (pv 1 2 4 false 1 0 1),dp (pv 1 2 4 false 9 0 4),dp (pv 1 3 4 false 9 0 4)],
  leadM++[toldM 2 true 3,dd 2 2 [30],dd 2 2 [62],toldM 2 true 4,toldM 3 true 4,dd 2 2 [62]],
  [dp (pv 3 2 1 false 2 0 1 3 [ee 1 3]),dp (pv 3 3 3 false 1 0 1 0 [ee 3 2]),dk 4 3,dk 5 3,dk 4 2]]
def oldM:BeginM:=⟨1,14,0,⟨1,0,snap0,[ee 1 1 1 [97],ee 1 2]⟩⟩
def mostM:BeginM:=⟨1,2,0,⟨2,0,⟨9007199254740991,1,2,[]⟩,[]⟩⟩
def openM:List DoM:=[dk 6 24,dp (pv 2 2 1 true),dp (pv 2 2 2 true)]++List.replicate 57 (dk 2 1)
def zeroM:BeginM:=⟨1,14,0,saved0⟩
theorem runs1:(beginsM.all fun b=>b.runs callsM&&b.turned.runs (callsM.map DoM.turned))=true:=by decide +kernel
theorem runs2:(playsM.all fun l=>oldM.runs l)=true:=by decide +kernel
theorem runs3:mostM.runs [dk 6 24,dk 2 1,dk 3 0,dk 0 0]=true:=by decide +kernel
theorem runs4:zeroM.runs openM=true:=by decide +kernel
def ticked0:Nat→CoreM→CoreM
  | 0,c=>c
  | k+1,c=>ticked0 k (c.ticked 0).2.2
def proposed0:Nat→CoreM→CoreM
  | 0,c=>c
  | k+1,c=>((proposed0 k c).proposed 1 []).2.2.2
def ticked0B:Nat→CoreM→Bool
  | 0,c=>c.goodB
  | k+1,c=>c.goodB&&ticked0B k (c.ticked 0).2.2
def open0:CoreM:=((ticked0 10 (cnew 1 14 saved0 0)).taken (pv 2 2 1 true) 0).2.2
def openB (i:Nat):Bool :=
  let r:=(proposed0 i open0).proposed 1 []
  (proposed0 i open0).goodB&&decide (r.2.1=0∨r.2.1=7)&&(decide (r.2.1=0) == decide ((i:Int)<63))&&(decide (r.2.1≠0) || decide (r.1=(i:Int)+2))
def openAll:Nat→CoreM→Nat→Bool
  | 0,_,_=>true
  | k+1,c,i =>
    let r:=c.proposed 1 []
    c.goodB&&decide (r.2.1=0∨r.2.1=7)&&(decide (r.2.1=0) == decide ((i:Int)<63))&&(decide (r.2.1≠0) || decide (r.1=(i:Int)+2))&&openAll k r.2.2.2 (i+1)
theorem openAll_at:∀ (k i:Nat),openAll k (proposed0 i open0) i=true→∀ j,i≤j→j<i+k→openB j=true
 | 0,i,_,j,h1,h2=>by omega
 | k+1,i,h,j,h1,h2=>by
  unfold openAll at h
  simp only [Bool.and_eq_true] at h
  by_cases c:j=i
  ·subst c
   unfold openB
   simp only [Bool.and_eq_true]
   exact h.1
  ·exact openAll_at k (i+1) h.2 j (by omega) (by omega)
theorem open_runs:(cnewOk 1 14 saved0 0&&ticked0B 10 (cnew 1 14 saved0 0)&&(ticked0 10 (cnew 1 14 saved0 0)).goodB&&open0.goodB&&openAll 70 open0 0)=true:=by decide +kernel
theorem open_at {i:Nat} (h:i<70):openB i=true:=by
 have:=open_runs
 simp only [Bool.and_eq_true] at this
 exact openAll_at 70 0 this.2 i (by omega) (by omega)
section
theorem idx_ok:∀ {es:List Abs} {i:Int},idxB i es=true→∀ (k:Nat) e,es[k]? = some e→e.2.1=i+1+k
 | [],i,h,k,e,he=>by simp at he
 | x::es,i,h,k,e,he=>by
  unfold idxB at h
  simp only [Bool.and_eq_true,decide_eq_true_eq] at h
  cases k with
  | zero=>simp at he;subst he;rw [h.1];simp
  | succ k=>rw [idx_ok h.2 k e (by simpa using he)];omega
theorem byte_ok {l:List Int} (h:byteB l=true):∀ z∈l,0≤z∧z<256:=fun z hz=>of_decide_eq_true (List.all_eq_true.1 h z hz)
theorem five_ok {f:Five} {m:Int} (h:fiveB f m=true):∀ n:Int,1≤n→n≤5→0≤f.get n∧f.get n≤m:=fun n h1 h2=>by
 have h:=of_decide_eq_true h
 have:n=1∨n=2∨n=3∨n=4∨n=5:=by omega
 rcases this with rfl | rfl | rfl | rfl | rfl <;> simp only [Five.get] <;> (simp;omega)
structure Fine (c:CoreM):Prop where
  dk:DOk c
  bi:c.log.bi≤c.snap.index
  si:c.snap.index≤9007199254740991
theorem CoreM.goodB_ok {c:CoreM} (h:c.goodB=true) (ho:c.out=out0):Fine c:=by
 unfold CoreM.goodB logB at h
 simp only [Bool.and_eq_true,decide_eq_true_eq] at h
 obtain ⟨⟨⟨⟨⟨⟨⟨⟨⟨⟨⟨⟨⟨⟨⟨⟨⟨⟨⟨⟨a1,a2⟩,a3⟩,a4⟩,a5⟩,b1⟩,b2⟩,b3⟩,b4⟩,b5⟩,b6⟩,b7⟩,b8⟩,b9⟩,d1⟩,d2⟩,d3⟩,d4⟩,d5⟩,d6⟩,d7⟩:=h
 have small:∀ e∈c.log.es,e.2.2.2.length≤1200∧(e.2.2.1=2→crewOk e=true∧∀ x∈e.2.2.2,0≤x∧x<256):=fun e he=>by
  have:=List.all_eq_true.1 a5 e he
  simp only [Bool.and_eq_true,Bool.or_eq_true,decide_eq_true_eq] at this
  refine ⟨this.1,fun z=>?_⟩
  rcases this.2 with y | y
  ·exact absurd z y
  ·exact ⟨y.1,byte_ok y.2⟩
 exact ⟨⟨⟨⟨⟨idx_ok a1,a2,a3,fun e he=>(small e he).1⟩,fun e he z=>((small e he).2 z).2,by omega,b1⟩,five_ok b2,five_ok b3,b4.1,b4.2,b5.1,b5.2,ho,by omega,by omega,b7.1,b7.2,b8.1,b8.2,b9.1,b9.2,d1.1,d1.2,d2.1,d2.2,d3,d4,d5.1,d5.2⟩,
  fun e he z=>(small e he).2 z,d6⟩,d7.1,d7.2⟩
theorem OutM.smallB_ok {o:OutM} (h:o.smallB=true):Small o:=by
 unfold OutM.smallB at h
 simp only [Bool.and_eq_true,decide_eq_true_eq] at h
 obtain ⟨⟨⟨⟨a1,a2⟩,a3⟩,a4⟩,a5⟩:=h
 refine ⟨a1,by omega,by omega,a4,fun q hq=>?_⟩
 have:=List.all_eq_true.1 a5 q hq
 simp only [Bool.and_eq_true,decide_eq_true_eq] at this
 exact this
theorem ticked_out {c:CoreM} (h:c.out=out0) (d:Int):(c.ticked d).2.2.out=out0:=by unfold CoreM.ticked;split <;> first | exact h | rfl
theorem taken_out {c:CoreM} (h:c.out=out0) (p:PostM) (d:Int):(c.taken p d).2.2.out=out0:=by unfold CoreM.taken;split <;> first | exact h | rfl
theorem proposed_out {c:CoreM} (h:c.out=out0) (k:Int) (d:List Int):(c.proposed k d).2.2.2.out=out0:=by unfold CoreM.proposed;split <;> first | exact h | rfl
theorem asked1_out {c:CoreM} (h:c.out=out0):c.asked1.2.2.2.out=out0:=by unfold CoreM.asked1;split <;> first | exact h | rfl
theorem compacted_out {c:CoreM} (h:c.out=out0) (i:Int) (d:List Int):(c.compacted i d).2.2.out=out0:=by unfold CoreM.compacted;split <;> exact h
theorem ticks_out:∀ (k:Nat) {c:CoreM},c.out=out0→(c.ticks k).out=out0
 | 0,c,h=>h
 | k+1,c,h=>ticks_out k (ticked_out h _)
theorem does_out {c:CoreM} (h:c.out=out0) (d:DoM):(c.does d).out=out0:=by
 unfold CoreM.does
 split
 ·exact ticked_out h _
 ·split
  ·exact taken_out h _ _
  ·split
   ·exact proposed_out h _ _
   ·split
    ·exact asked1_out h
    ·split
     ·exact compacted_out h _ _
     ·split
      ·exact h
      ·exact ticks_out _ h
variable {h h':Heap} {p o:Nat} {c:CoreM}
theorem tick_two (M:Nat) (h0:o≠0) (k:PIdle h p o c) (ok:COk c) (d:Int) :
  ACalls PR 24 #[Ptr p,I d] h (fun v h'=>∃ u,v = .tuple #[u,I (c.ticked d).1]∧Ans 81 LA M p o (c.ticked d).2.1 (c.ticked d).2.2 h u h'):=by
 unfold CoreM.ticked
 by_cases hd:d<0
 ·rw [if_pos hd]
  refine ACalls.owner ⟨_,Tryz.func24,rfl,rfl⟩ fun o0 ho0 bnd=>?_
  refine (Tick_any (⟨by omega,by omega,h0,by omega⟩:Apart o (o0+o+2)) (k.all _) ok d).mono ?_
  rintro _ h' (⟨_,rfl,s⟩ | ⟨c1,_⟩)
  ·exact ⟨_,rfl,Ans.no k s⟩
  ·omega
 ·rw [if_neg hd];exact tick_net M h0 k ok (by omega)
theorem rtick_two (M:Nat) (h0:o≠0) (k:RIdle h p o c) (ok:DOk c) (d:Int) :
  ACalls PR 39 #[Ptr p,I d] h (fun v h'=>∃ u,v = .tuple #[u,I (c.ticked d).1]∧Ans 98 RL M p o (c.ticked d).2.1 (c.ticked d).2.2 h u h'):=by
 unfold CoreM.ticked
 by_cases hd:d<0
 ·rw [if_pos hd]
  refine ACalls.owner ⟨_,Tryz.func39,rfl,rfl⟩ fun o0 ho0 bnd=>?_
  refine (rTick_any (⟨by omega,by omega,h0,by omega⟩:Apart o (o0+o+2)) (k.all _) ok d).mono ?_
  rintro _ h' (⟨_,rfl,s⟩ | ⟨c1,_⟩)
  ·exact ⟨_,rfl,Ans.no k s⟩
  ·omega
 ·rw [if_neg hd];exact rtick_net M h0 k ok (by omega)
theorem take_two (M:Nat) (h0:o≠0) (k:PIdle h p o c) (ok:COk c) (x:PH) (g:∀ oo,Bound oo h→o+1<oo→Given h o oo x) (d:Int) :
  ACalls PR 25 #[Ptr p, .agg x.cells.toArray,I d] h (fun v h'=>∃ u,v = .tuple #[u,I (c.taken x.abs d).1]∧Ans 81 LA M p o (c.taken x.abs d).2.1 (c.taken x.abs d).2.2 h u h'):=by
 unfold CoreM.taken
 by_cases hd:c.takes x.abs=true∧0≤d
 ·rw [if_pos hd];exact take_net M h0 k ok x g hd.1 hd.2
 ·rw [if_neg hd]
  refine ACalls.owner ⟨_,Tryz.func25,rfl,rfl⟩ fun o0 ho0 bnd=>?_
  refine (Take_any (⟨by omega,by omega,h0,by omega⟩:Apart o (o0+o+2)) (k.all _) ok x (g _ (bnd.le (by omega)) (by omega)) d).mono ?_
  rintro _ h' (⟨_,rfl,s⟩ | ⟨c1,c2,_⟩)
  ·exact ⟨_,rfl,Ans.no k s⟩
  ·exact absurd ⟨c1,c2⟩ hd
theorem rtake_two (M:Nat) (h0:o≠0) (k:RIdle h p o c) (ok:DOk c) (x:PH) (g:∀ oo,Bound oo h→o+1<oo→Given h o oo x) (d:Int) (hdn:x.d.n≤4611686018427387904) :
  ACalls PR 40 #[Ptr p, .agg x.cells.toArray,I d] h (fun v h'=>∃ u,v = .tuple #[u,I (c.taken x.abs d).1]∧Ans 98 RL M p o (c.taken x.abs d).2.1 (c.taken x.abs d).2.2 h u h'):=by
 unfold CoreM.taken
 by_cases hd:c.takes x.abs=true∧0≤d
 ·rw [if_pos hd];exact rtake_net M h0 k ok x g hd.1 hd.2 hdn
 ·rw [if_neg hd]
  refine ACalls.owner ⟨_,Tryz.func40,rfl,rfl⟩ fun o0 ho0 bnd=>?_
  refine (rTake_any (⟨by omega,by omega,h0,by omega⟩:Apart o (o0+o+2)) (k.all _) ok x (g _ (bnd.le (by omega)) (by omega)) d hdn).mono ?_
  rintro _ h' (⟨_,rfl,s⟩ | ⟨c1,c2,_⟩)
  ·exact ⟨_,rfl,Ans.no k s⟩
  ·exact absurd ⟨c1,c2⟩ hd
theorem head_i (k:PIdle h p o c):ACalls PR 23 #[Ptr p] h (fun v h'=>v=I c.head∧h=h'):=by
 obtain ⟨x,k⟩:=k.x
 refine Ar (As mix Tryz.func23 rfl rfl Tryz.ntmps23 Tryz.results23 rfl ?_);conv=>whnf
 refine C2 (none_core k) ?_;conv=>whnf
 refine Aa rfl k.str rfl ?_;conv=>whnf
 exact ⟨rfl,Sub.refl _⟩
theorem crew_i (k:PIdle h p o c) (lk:LogOk c):ACalls PR 29 #[Ptr p] h (fun v h'=>v=I c.crewNow.1∧h=h'):=by
 obtain ⟨x,k⟩:=k.x;exact Crew_any k lk
theorem rcrew_i (k:RIdle h p o c) (dk:DLk c):ACalls PR 146 #[Ptr p] h (fun v h'=>v=I c.crewNow.1∧h=h'):=by
 obtain ⟨x,k⟩:=k.x
 refine Ar (As mix Tryz.func146 rfl rfl Tryz.ntmps146 Tryz.results146 rfl ?_);conv=>whnf
 refine C2 (rcrew_any k dk.lk.lo dk.sy) ?_;conv=>whnf
 exact ⟨rfl,Sub.refl _⟩
theorem entry_i (k:PIdle h p o c) (lk:LogOk c) (tg:Tag) (ht:tg≠(0,1)) (i:Int) :
  ACalls PR 28 #[Ptr p,I i] h (fun v h'=>∃ e:EH,v = .tuple #[.agg e.cells.toArray,I (c.log.get i).2]∧e.Mine h' tg∧e.abs=(c.log.get i).1∧e.n≤1200∧Sub h h'):=by
 obtain ⟨x,k⟩:=k.x;exact Entry_any k lk tg ht i
theorem rentry_i (k:RIdle h p o c) (lk:LogOk c) (tg:Tag) (ht:tg≠(0,1)) (i:Int) :
  ACalls PR 150 #[Ptr p,I i] h (fun v h'=>∃ e:EH,v = .tuple #[.agg e.cells.toArray,I (c.log.get i).2]∧e.Mine h' tg∧e.abs=(c.log.get i).1∧e.n≤1200∧Sub h h'):=by
 obtain ⟨x,k⟩:=k.x
 refine As mix Tryz.func150 rfl rfl Tryz.ntmps150 Tryz.results150 rfl ?_;conv=>whnf
 refine Ak (0,1) (entry0z) rfl fun b4 h1 n1 s1 k1=>?_;conv=>whnf
 have q:=k.sub s1
 refine Aa rfl q.str rfl ?_;conv=>whnf
 refine ACalls.mono (rGet_c q.log lk.lo tg ht i) ?_;rintro _ h2 ⟨e,rfl,m2,a2,e2,s2⟩;conv=>whnf
 refine Ae rfl rfl rfl ((s2 _ _ k1)) rfl (e.cells) rfl fun h3 t3 k3 a3 e3=>?_;conv=>whnf
 refine Ab rfl k3 rfl rfl ?_;conv=>whnf
 exact ⟨e,rfl,Own.keepT m2 t3 ht,a2,e2,a3 h (s1.trans s2) n1⟩
theorem kind_any (h:Heap) {l:List Value} {k:Int} (hl:l[0]? = some (I k)) (hn:l.length=17) (h0:0≤k) (h6:k≤6):ACalls PR 147 #[.agg l.toArray] h (fun v h'=>v=I k∧h=h'):=by
 match l,hn with
 | [u0,u1,u2,u3,u4,u5,u6,u7,u8,u9,u10,u11,u12,u13,u14,u15,u16],_ =>
  simp at hl
  subst hl
  refine Ar (As mix Tryz.func147 rfl rfl Tryz.ntmps147 Tryz.results147 rfl ?_);conv=>whnf
  refine Al (0,1) [I k,u1,u2,u3,u4,u5,u6,u7,u8,u9,u10,u11,u12,u13,u14,u15,u16] rfl fun b h1 n1 s1 k1=>?_;conv=>whnf
  refine Aa rfl k1 rfl ?_;conv=>whnf
  refine ⟨by omega,?_⟩
  refine Aq ((Int.tmod_eq_emod_of_nonneg h0).trans (Int.emod_eq_of_lt h0 (by omega))) ?_;conv=>whnf
  refine Ad ((by omega)) ?_;conv=>whnf
  exact ⟨rfl,s1⟩
end
def ByV (h:Heap) (t:Tag) (a:Option Addr) (n:Nat):Prop:=n=0∨∃ b,∃ l:List Value,a=some ⟨b,0,none⟩∧h b=some (row t l 5)∧∀ j,j<n→∃ z,l[j]? = some (.int .u8 z)
theorem Own.byV {h:Heap} {t:Tag} {a:Option Addr} {n c:Nat} {xs:List Int} (o:Own h t 5 a n c 1 (bytesV xs)):ByV h t a n:=by
 have hl:=o.sl.len
 rcases o with ⟨e,_,_⟩ | ⟨b,l,rfl,hb,h1,h2,hc⟩
 ·exact .inl e
 ·refine .inr ⟨b,l,rfl,hb,fun j hj=>?_⟩
  have e:l[j]? = (bytesV xs)[j]? := by rw [← hc,List.getElem?_take,if_pos (by omega)]
  have hj2:j<xs.length:=by have:(bytesV xs).length=xs.length:=List.length_map _;omega
  exact ⟨xs[j],by rw [e];unfold bytesV;rw [List.getElem?_map,List.getElem?_eq_getElem hj2];rfl⟩
theorem ByV.move {h h':Heap} {t:Tag} {a:Option Addr} {n:Nat} (k:ByV h t a n) (m:∀ b y,h b=some (t,y)→h' b=some (t,y)):ByV h' t a n :=
 k.imp id fun ⟨b,l,e,hb,r⟩=>⟨b,l,e,m _ _ hb,r⟩
theorem ByV.put {h:Heap} {t:Tag} {a:Option Addr} {n b off:Nat} {l:List Value} {z:Int} (hb:h b=some (row t l 5)) (k:ByV h t a n):ByV (h.set b (row t (l.set off (.int .u8 z)) 5)) t a n:=by
 rcases k with e | ⟨b',l',e,hb',r⟩
 ·exact .inl e
 ·by_cases hbb:b'=b
  ·subst hbb
   rw [hb] at hb'
   have:l=l':=by simpa [row] using hb'
   subst this
   refine .inr ⟨b',_,e,Heap.set_same _ _ _,fun j hj=>?_⟩
   rw [List.getElem?_set]
   obtain ⟨w,hw⟩:=r j hj
   split
   ·rename_i h1;subst h1
    rw [if_pos (List.getElem?_eq_some_iff.1 hw).1];exact ⟨_,rfl⟩
   ·exact ⟨w,hw⟩
  ·exact .inr ⟨b',l',e,Heap.set_ne hbb hb',r⟩
structure Sp (F M:Nat) (x:OX) (h h':Heap):Prop where
  kp:∀ b (t:Tag) y,t≠(M,2)→t≠(M,5)→t≠(F,2)→h b=some (t,y)→h' b=some (t,y)
  es:∀ y∈x.es,ByV h' (M,2) y.a y.n
  ps:∀ y∈x.ps,∀ e∈y.es,ByV h' (M,5) e.a e.n
theorem Sp.put2 {F M:Nat} {x:OX} {h h':Heap} {b off:Nat} {l:List Value} {z:Int} (k:Sp F M x h h') (hb:h' b=some (row (M,2) l 5)):Sp F M x h (h'.set b (row (M,2) (l.set off (.int .u8 z)) 5)) :=
 ⟨fun c t y n1 n2 n3 e=>(KeepT.set hb) _ _ _ n1 (k.kp _ _ _ n1 n2 n3 e),fun y hy=>(k.es y hy).put hb,fun y hy e he=>(k.ps y hy e he).move fun c w hc=>(KeepT.set hb) _ _ _ (by simp) hc⟩
theorem Sp.put5 {F M:Nat} {x:OX} {h h':Heap} {b off:Nat} {l:List Value} {z:Int} (k:Sp F M x h h') (hb:h' b=some (row (M,5) l 5)):Sp F M x h (h'.set b (row (M,5) (l.set off (.int .u8 z)) 5)) :=
 ⟨fun c t y n1 n2 n3 e=>(KeepT.set hb) _ _ _ n2 (k.kp _ _ _ n1 n2 n3 e),fun y hy=>(k.es y hy).move fun c w hc=>(KeepT.set hb) _ _ _ (by simp) hc,fun y hy e he=>(k.ps y hy e he).put hb⟩
theorem Sp.local {F M:Nat} {x:OX} {h h' h'':Heap} (hM:M≠F) (k:Sp F M x h h') (s:KeepT (F,2) h' h''):Sp F M x h h'' :=
 ⟨fun c t y n1 n2 n3 e=>s _ _ _ n3 (k.kp _ _ _ n1 n2 n3 e),fun y hy=>(k.es y hy).move fun c w hc=>s _ _ _ (fun z=>hM (congrArg Prod.fst z)) hc,fun y hy e he=>(k.ps y hy e he).move fun c w hc=>s _ _ _ (fun z=>hM (congrArg Prod.fst z)) hc⟩
theorem spoil_own {h:Heap} {F M:Nat} {O:OutM} {x:OX} (hM:M≠F) (k:OutOk h M O x) (sm:Small O):ACalls PR 183 #[.agg (outCells O x).toArray] h (fun v h'=>v = .tuple #[]∧Keeps [F,M] h h'):=by
 obtain ⟨x1,x2,x3,x4,x5,x6⟩:=k.count
 have sm1:=sm.e
 have sm2:=sm.n
 refine As mix Tryz.func183 rfl rfl Tryz.ntmps183 Tryz.results183 rfl ?_;conv=>whnf
 refine Al (F,1) (outCells O x) rfl fun b1 h1 n1 s1 k1=>?_;conv=>whnf
 have k:=k.move fun b t y _ e=>s1 _ _ e
 have sp1:Sp F M x h1 h1:=⟨fun _ _ _ _ _ _ e=>e,fun y hy=>(k.ed y hy).byV,fun y hy e he=>by
  obtain ⟨j,hj⟩:=List.getElem?_of_mem hy
  exact ((k.ps j y hj).ed e he).byV⟩
 have kb:∀ {h':Heap},Sp F M x h1 h'→h' b1=some (row (F,1) (outCells O x) 65):=fun s=>s.kp _ _ _ (by simp) (by simp) (by simp) k1
 have ko:∀ {h':Heap},Sp F M x h1 h'→∀ r:Nat,r≠2→r≠5→∀ b y,h1 b=some ((M,r),y)→h' b=some ((M,r),y):=fun s r r2 r5 b y e=>s.kp _ _ _ (by simp [r2]) (by simp [r5]) (by simp [hM]) e
 refine ALoop.mk (fun e h'=>∃ e0,∃ i:Nat,e=updL 88 e0 [(1,Ptr b1),(2,I i)]∧i≤x.oe.n∧Sp F M x h1 h') (fun e=>x.oe.n-natOf (e 2)) ⟨_,0,Au ⟨rfl,rfl,trivial⟩,by omega,sp1⟩ ?_
 rintro e h2 ⟨e0,i,rfl,hi,sp2⟩
 conv=>whnf
 refine Aa rfl (kb sp2) rfl ?_;conv=>whnf
 by_cases hin:i<x.oe.n
 ·refine Ac ((by omega)) ?_;conv=>whnf
  obtain ⟨y,hy⟩:∃ y,x.es[i]? = some y:=⟨x.es[i]'(by omega),by simp⟩
  obtain ⟨b,off,l,E,fz,ea,hb,hc⟩:=k.oe.sl.pos (by omega)
  have gx:(l.drop (off+i*4)).take 4=y.cells:=by rw [part_of_take hc (by omega),encs_part hy]
  have yn:=k.es y (List.mem_of_getElem? hy)
  have g3:l[off+i*4+3]? = some (.slice y.a y.n y.c):=get_of_take gx (by omega:3<4)
  refine ALoop.mk (fun e h'=>∃ e0,∃ j:Nat,e=updL 88 e0 [(1,Ptr b1),(2,I i),(3,I j)]∧j≤y.n∧Sp F M x h1 h') (fun e=>y.n-natOf (e 3)) ⟨_,0,Au ⟨rfl,rfl,rfl,trivial⟩,by omega,sp2⟩ ?_
  rintro e h3 ⟨e1,j,rfl,hj,sp3⟩
  have hb3:=ko sp3 1 (by omega) (by omega) _ _ hb
  conv=>whnf
  refine Aa rfl (kb sp3) rfl ?_;conv=>whnf
  rw [ea]
  refine Ai (n:=x.oe.n) (z:=4) (j:=i) rfl hin rfl rfl ?_;conv=>whnf
  refine Aa rfl hb3 g3 ?_;conv=>whnf
  by_cases hjn:j<y.n
  ·refine Ac ((by omega)) ?_;conv=>whnf
   rcases sp3.es y (List.mem_of_getElem? hy) with hz | ⟨q,m,ya,hq,hm⟩
   ·omega
   obtain ⟨z,hz⟩:=hm j hjn
   refine Am (h3) [18] (Sub.refl _) (by decide +kernel) ?_;conv=>whnf
   refine Aa rfl (kb sp3) rfl ?_;conv=>whnf
   rw [ea]
   refine Ai (n:=x.oe.n) (z:=4) (j:=i) rfl hin rfl rfl ?_;conv=>whnf
   refine Aa rfl hb3 g3 ?_
   refine Aa rfl (kb sp3) rfl ?_;conv=>whnf
   rw [ea]
   refine Ai (n:=x.oe.n) (z:=4) (j:=i) rfl hin rfl rfl ?_;conv=>whnf
   refine Aa rfl hb3 g3 ?_;conv=>whnf
   rw [ya]
   refine Ai (n:=y.n) (z:=1) (j:=j) rfl hjn rfl rfl ?_;conv=>whnf
   refine Aa rfl hq (by rw [show 0+j*1=j by omega];exact hz) ?_;conv=>whnf
   refine Aq (rfl) ?_;conv=>whnf
   refine Ai (n:=y.n) (z:=1) (j:=j) rfl hjn rfl rfl ?_;conv=>whnf
   refine AStore.one rfl rfl rfl hq (by have:=(List.getElem?_eq_some_iff.1 hz).1;omega) ?_;conv=>whnf
   refine Ag (by omega) (by omega) ((by omega:(j:Int)+1=((j+1:Nat):Int))) ?_;conv=>whnf
   refine ⟨⟨_,j+1,Au ⟨rfl,rfl,rfl,trivial⟩,by omega,sp3.put2 hq⟩,?_⟩
   show y.n-(j+1)<y.n-j
   omega
  ·refine Ad ((by omega)) ?_;conv=>whnf
   refine Ag (by omega) (by omega) ((by omega:(i:Int)+1=((i+1:Nat):Int))) ?_;conv=>whnf
   refine ⟨⟨_,i+1,Au ⟨rfl,rfl,trivial⟩,by omega,sp3⟩,?_⟩
   show x.oe.n-(i+1)<x.oe.n-i
   omega
 ·refine Ad ((by omega)) ?_;conv=>whnf
  refine ALoop.mk (fun e h'=>∃ e0,∃ i:Nat,e=updL 88 e0 [(1,Ptr b1),(4,I i)]∧i≤x.op.n∧Sp F M x h1 h') (fun e=>x.op.n-natOf (e 4)) ⟨_,0,Au ⟨rfl,rfl,trivial⟩,by omega,sp2⟩ ?_
  rintro e h2 ⟨e0,i,rfl,hi,sp2⟩
  conv=>whnf
  refine Aa rfl (kb sp2) rfl ?_;conv=>whnf
  by_cases hin:i<x.op.n
  ·refine Ac ((by omega)) ?_;conv=>whnf
   obtain ⟨y,hy⟩:∃ y,x.ps[i]? = some y:=⟨x.ps[i]'(by omega),by simp⟩
   obtain ⟨b,off,l,E,fz,ea,hb,hc⟩:=k.op.sl.pos (by omega)
   have gx:(l.drop (off+i*14)).take 14=y.cells:=by rw [part_of_take hc (by omega),ph_part hy]
   have g9:l[off+i*14+9]? = some (.slice y.e.a y.e.n y.e.c):=get_of_take gx (by omega:9<14)
   have my:=k.ps i y hy
   have hyl:y.es.length=y.e.n:=(Made.ok my).es.len
   have hyn:y.e.n≤8:=by
    have hm:y.abs∈O.posts:=by rw [← k.pa];exact List.mem_map.2 ⟨y,List.mem_of_getElem? hy,rfl⟩
    have:=(sm.p _ hm).1
    have hl:y.abs.entries.length=y.es.length:=List.length_map _
    omega
   refine ALoop.mk (fun e h'=>∃ e0,∃ j:Nat,e=updL 88 e0 [(1,Ptr b1),(4,I i),(5,I j)]∧j≤y.e.n∧Sp F M x h1 h') (fun e=>y.e.n-natOf (e 5)) ⟨_,0,Au ⟨rfl,rfl,rfl,trivial⟩,by omega,sp2⟩ ?_
   rintro e h3 ⟨e1,j,rfl,hj,sp3⟩
   have hb3:=ko sp3 3 (by omega) (by omega) _ _ hb
   conv=>whnf
   refine Aa rfl (kb sp3) rfl ?_;conv=>whnf
   rw [ea]
   refine Ai (n:=x.op.n) (z:=14) (j:=i) rfl hin rfl rfl ?_;conv=>whnf
   refine Aa rfl hb3 g9 ?_;conv=>whnf
   by_cases hjn:j<y.e.n
   ·refine Ac ((by omega)) ?_;conv=>whnf
    obtain ⟨u,hu⟩:∃ u,y.es[j]? = some u:=⟨y.es[j]'(by omega),by simp⟩
    obtain ⟨b',off',l',E',fz',ea',hb',hc'⟩:=my.es.sl.pos (by omega)
    have un:=my.sm u (List.mem_of_getElem? hu)
    have gu:(l'.drop (off'+j*4)).take 4=u.cells:=by rw [part_of_take hc' (by omega),encs_part hu]
    have hb4:=ko sp3 (10+i) (by omega) (by omega) _ _ hb'
    refine Aa rfl (kb sp3) rfl ?_;conv=>whnf
    rw [ea]
    refine Ai (n:=x.op.n) (z:=14) (j:=i) rfl hin rfl rfl ?_;conv=>whnf
    refine Aa rfl hb3 g9 ?_;conv=>whnf
    rw [ea']
    refine Ai (n:=y.e.n) (z:=4) (j:=j) rfl hjn rfl rfl ?_;conv=>whnf
    refine Ab rfl hb4 gu rfl ?_;conv=>whnf
    refine Ak (F,2) [I 0,I 0,I 0, .slice none 0 0] rfl fun b6 h4 n4 s4 k4=>?_;conv=>whnf
    refine Ae rfl rfl rfl (k4) rfl (u.cells) rfl fun h5 t5 k5 a5 e5=>?_;conv=>whnf
    have sp5:Sp F M x h1 h5:=(sp3.local hM (s4.keepT _)).local hM t5
    refine ALoop.mk (fun e h'=>∃ e0,∃ i':Nat,e=updL 88 e0 [(1,Ptr b1),(4,I i),(5,I j),(6,Ptr b6),(7,I i')]∧i'≤u.n∧Sp F M x h1 h'∧h' b6=some (row (F,2) u.cells 59)) (fun e=>u.n-natOf (e 7)) ⟨_,0,Au ⟨rfl,rfl,rfl,rfl,rfl,trivial⟩,by omega,sp5,k5⟩ ?_
    rintro e h6 ⟨e2,i',rfl,hi',sp6,k6⟩
    conv=>whnf
    refine Aa rfl k6 rfl ?_;conv=>whnf
    by_cases hn':i'<u.n
    ·refine Ac ((by omega)) ?_;conv=>whnf
     rcases sp6.ps y (List.mem_of_getElem? hy) u (List.mem_of_getElem? hu) with hz | ⟨q,m,ya,hq,hm⟩
     ·omega
     obtain ⟨z,hz⟩:=hm i' hn'
     refine Am (h6) [10] (Sub.refl _) (by decide +kernel) ?_;conv=>whnf
     refine Aa rfl k6 rfl ?_
     refine Aa rfl k6 rfl ?_;conv=>whnf
     rw [ya]
     refine Ai (n:=u.n) (z:=1) (j:=i') rfl hn' rfl rfl ?_;conv=>whnf
     refine Aa rfl hq (by rw [show 0+i'*1=i' by omega];exact hz) ?_;conv=>whnf
     refine Aq (rfl) ?_;conv=>whnf
     refine Ai (n:=u.n) (z:=1) (j:=i') rfl hn' rfl rfl ?_;conv=>whnf
     refine AStore.one rfl rfl rfl hq (by have:=(List.getElem?_eq_some_iff.1 hz).1;omega) ?_;conv=>whnf
     refine Ag (by omega) (by omega) ((by omega:(i':Int)+1=((i'+1:Nat):Int))) ?_;conv=>whnf
     refine ⟨⟨_,i'+1,Au ⟨rfl,rfl,rfl,rfl,rfl,trivial⟩,by omega,sp6.put5 hq,(KeepT.set hq).get (fun c=>hM (congrArg Prod.fst c).symm) k6⟩,?_⟩
     show u.n-(i'+1)<u.n-i'
     omega
    ·refine Ad ((by omega)) ?_;conv=>whnf
     refine Ag (by omega) (by omega) ((by omega:(j:Int)+1=((j+1:Nat):Int))) ?_;conv=>whnf
     refine ⟨⟨_,j+1,Au ⟨rfl,rfl,rfl,trivial⟩,by omega,sp6⟩,?_⟩
     show y.e.n-(j+1)<y.e.n-j
     omega
   ·refine Ad ((by omega)) ?_;conv=>whnf
    refine Ag (by omega) (by omega) ((by omega:(i:Int)+1=((i+1:Nat):Int))) ?_;conv=>whnf
    refine ⟨⟨_,i+1,Au ⟨rfl,rfl,trivial⟩,by omega,sp3⟩,?_⟩
    show x.op.n-(i+1)<x.op.n-i
    omega
  ·refine Ad ((by omega)) ?_;conv=>whnf
   refine ⟨rfl,fun b t y ht e=>?_⟩
   simp only [List.mem_cons,List.not_mem_nil,or_false,not_or] at ht
   exact sp2.kp _ _ _ (fun c=>ht.2 (congrArg Prod.fst c)) (fun c=>ht.2 (congrArg Prod.fst c)) (fun c=>ht.1 (congrArg Prod.fst c)) (s1 _ _ e)
theorem spoil_any {h:Heap} {M:Nat} {O:OutM} {x:OX} (k:OutOk h M O x) (sm:Small O):ACalls PR 183 #[.agg (outCells O x).toArray] h (fun v h'=>v = .tuple #[]∧Keeps [M] h h'):=by
 refine ACalls.owner ⟨_,Tryz.func183,rfl,rfl⟩ fun o0 ho0 bnd=>?_
 refine (spoil_own (F:=o0+M+1) (by omega) k sm).mono ?_
 rintro _ h' ⟨rfl,kk⟩
 exact ⟨rfl,fun b t y ht e=>kk _ _ _ (by have:=bnd _ _ _ e;simp at ht;simp;omega) e⟩
section
theorem copyEnts_any {h:Heap} {F:Nat} {t1 t2:Tag} {a:Option Addr} {n c:Nat} {xs:List EH} (X:Ents h t1 t2 a n c xs) (h1:t1.1≠F) (h2:t2.1≠F) (hF:F≠0) (hn:n≤100000) (hs:∀ e∈xs,e.n≤100000) :
  ACalls PR 184 #[.slice a n c] h (fun v h'=>∃ a' c' ys,v = .slice a' n c'∧Ents h' (F,3) (F,4) a' n c' ys∧ys.map EH.abs=xs.map EH.abs∧Keep F h h'):=by
 have hx:=X.len
 refine As mix Tryz.func184 rfl rfl Tryz.ntmps184 Tryz.results184 rfl ?_;conv=>whnf
 refine ALoop.mk (fun e h'=>∃ (e0:Env) (i:Nat) (a':Option Addr) (c':Nat) (ys:List EH),e=updL 28 e0 [(0, .slice a n c),(3, .slice a' i c'),(4,I i)]∧i≤n∧Own h' (F,3) 59 a' i c' 4 (encs ys)∧(∀ y∈ys,y.Good h' (F,4)∧y.n≤100000)∧ys.map EH.abs=(xs.take i).map EH.abs∧Keep F h h') (fun e=>n-natOf (e 4))
  ⟨_,0,none,0,[],Au ⟨rfl,rfl,rfl,trivial⟩,by omega, .inl ⟨rfl,rfl,rfl⟩,by simp,by simp,Keep.refl _ _⟩ ?_
 rintro e h3 ⟨e0,i,a',c',ys,rfl,hi,ow,hy,hm,kk⟩
 conv=>whnf
 by_cases hin:i<n
 ·refine Ac ((by omega)) ?_;conv=>whnf
  obtain ⟨x,hxi⟩:∃ x,xs[i]? = some x:=⟨xs[i]'(by omega),by simp⟩
  obtain ⟨b,off,l,E,fz,ea,hb,hc⟩:=X.sl.pos (by omega)
  have hb3:=kk _ _ _ h1 hb
  have gx:(l.drop (off+i*4)).take 4=x.cells:=by rw [part_of_take hc (by omega),encs_part hxi]
  have g3:l[off+i*4+3]? = some (.slice x.a x.n x.c):=get_of_take gx (by omega:3<4)
  have hxm:=List.mem_of_getElem? hxi
  rw [ea]
  refine Ai (n:=n) (z:=4) (j:=i) rfl hin rfl rfl ?_;conv=>whnf
  refine Ab rfl hb3 gx rfl ?_;conv=>whnf
  refine Ak (F,1) entry0z rfl fun b5 h4 n4 s4 k4=>?_;conv=>whnf
  refine Ae rfl rfl rfl (k4) rfl (x.cells) rfl fun h5 t5 k5 a5 e5=>?_;conv=>whnf
  have s5:Sub h3 h5:=a5 h3 s4 n4
  refine Ai (n:=n) (z:=4) (j:=i) rfl hin rfl rfl ?_;conv=>whnf
  refine Aa rfl (s5 _ _ hb3) g3 ?_;conv=>whnf
  refine ACalls.mono (copyB_any h5 (F,4) (t:=t2) (xs:=x.data) (((X.good x hxm).keep kk h2).sub s5) (by have:=hs x hxm;omega)) ?_
  rintro _ h6 ⟨a6,c6,rfl,o6,s6⟩
  conv=>whnf
  refine Af rfl rfl rfl ((s6 _ _ k5)) rfl ([I x.term,I x.index,I x.kind, .slice a6 x.n c6]) rfl fun h7 t7 k7 a7 e7=>?_;conv=>whnf
  refine Ab rfl k7 rfl rfl ?_;conv=>whnf
  refine Ap (F,2) [I x.term,I x.index,I x.kind, .slice a6 x.n c6] rfl rfl rfl rfl rfl rfl rfl fun b8 h8 n8 s8 k8=>?_;conv=>whnf
  have t8:∀ (r:Nat),r≠1→∀ b y,h3 b=some ((F,r),y)→h8 b=some ((F,r),y):=fun r hr b y e=>s8 _ _ (t7 _ _ _ (by simp [hr]) (s6 _ _ (s5 _ _ e)))
  have hsl:Sl h8 (F,2) (some ⟨b8,0,none⟩) 1 1 4 (EH.cells ⟨x.term,x.index,x.kind,a6,x.n,c6,x.data⟩):=⟨rfl,Nat.le_refl 1, .inr ⟨b8,0,_,_,_,rfl,k8,rfl⟩⟩
  refine AAppend.own (t:=(F,3)) (E:=59) (z:=4) (by_:=48) (zero:=entry0z) (tx:=(F,2)) rfl ⟨_,rfl⟩ rfl rfl rfl rfl (by omega) (ow.move fun b y e=>t8 3 (by omega) b y e) hsl rfl (by omega) (by omega) fun a9 c9 h9 ow9 t9 _=>?_
  conv=>whnf
  have q9:∀ {y:EH},y.Good h3 (F,4)→y.Good h9 (F,4):=fun g=>Sl.move g fun b z e=>t9 _ _ _ (by simp) (t8 4 (by omega) _ _ e)
  refine Ag (by omega) (by omega) ((by omega:(i:Int)+1=((i+1:Nat):Int))) ?_;conv=>whnf
  refine ⟨⟨_,i+1,a9,c9,ys++[⟨x.term,x.index,x.kind,a6,x.n,c6,x.data⟩],Au ⟨rfl,rfl,rfl,trivial⟩,by omega,?_,fun y hy'=>?_,?_,?_⟩,?_⟩
  ·have:encs (ys++[⟨x.term,x.index,x.kind,a6,x.n,c6,x.data⟩])=encs ys++EH.cells ⟨x.term,x.index,x.kind,a6,x.n,c6,x.data⟩:=by unfold encs;rw [List.flatMap_append];simp
   rw [this];exact ow9
  ·rcases List.mem_append.1 hy' with h | h
   ·exact ⟨q9 (hy y h).1,(hy y h).2⟩
   ·rw [List.mem_singleton.1 h]
    exact ⟨Sl.move o6.sl fun b z e=>t9 _ _ _ (by simp) (s8 _ _ (t7 _ _ _ (by simp) e)),hs x hxm⟩
  ·rw [List.map_append,hm,List.take_succ_eq_append_getElem (by omega),(List.getElem?_eq_some_iff.1 hxi).2,List.map_append];rfl
  ·exact fun b t y ht e=>t9 _ _ _ (fun z=>ht (congrArg Prod.fst z)) (s8 _ _ (t7 _ _ _ (fun z=>ht (congrArg Prod.fst z)) (s6 _ _ (s5 _ _ (kk _ _ _ ht e)))))
  ·show n-(i+1)<n-i
   omega
 ·refine Ad ((by omega)) ?_;conv=>whnf
  obtain rfl:i=n:=by omega
  refine ⟨a',c',ys,rfl,⟨ow.sl,fun e he=>(hy e he).1,fun e he=>by have:=(hy e he).2;omega⟩,?_,kk⟩
  rw [hm,List.take_of_length_le (by omega)]
theorem copyP_any {h:Heap} {F:Nat} {t1 t2 t3:Tag} {y:PH} (k:y.Ok h t1 t2 t3) (h1:t1.1≠F) (h2:t2.1≠F) (h3:t3.1≠F) (hF:F≠0) (hn:y.e.n≤100000) (hs:∀ e∈y.es,e.n≤100000) (hd:y.d.n≤100000) :
  ACalls PR 149 #[.agg y.cells.toArray] h (fun v h'=>∃ z:PH,v = .agg z.cells.toArray∧z.abs=y.abs∧z.e.n=y.e.n∧z.d.n=y.d.n∧z.Ok h' (F,3) (F,4) (F,6)∧Keep F h h'):=by
 refine As mix Tryz.func149 rfl rfl Tryz.ntmps149 Tryz.results149 rfl ?_;conv=>whnf
 refine Al (0,1) (y.cells) rfl fun b1 h4 n4 s4 k4=>?_;conv=>whnf
 refine Ak (0,1) (post0z) rfl fun b2 h5 n5 s5 k5=>?_;conv=>whnf
 refine Ab rfl (s5 _ _ k4) rfl rfl ?_;conv=>whnf
 refine Ak (0,1) (post0z) rfl fun b3 h6 n6 s6 k6=>?_;conv=>whnf
 refine Ae rfl rfl rfl (k6) rfl (y.cells) rfl fun h7 t7 k7 a7 e7=>?_;conv=>whnf
 have s57:Sub h5 h7:=a7 h5 s6 n6
 have s7:Sub h h7:=(s4.trans s5).trans s57
 have l0:((0,1):Tag).1≠F:=fun c=>hF c.symm
 have k17:=s57 _ _ (s5 _ _ k4)
 have k27:=s57 _ _ k5
 have none:∀ {b:Nat} {hh:Heap},Sub h hh→hh b = .none→∀ {c x},h c=some x→c≠b:=fun s e c x hc z=>by rw [z] at hc;rw [s _ _ hc] at e;cases e
 have new3:∀ {c x},h c=some x→c≠b3:=none (s4.trans s5) n6
 have new2:∀ {c x},h c=some x→c≠b2:=none s4 n5
 have n31:b1≠b3:=fun z=>by rw [← z,s5 _ _ k4] at n6;cases n6
 have n32:b2≠b3:=fun z=>by rw [← z,k5] at n6;cases n6
 refine Aa rfl k17 rfl ?_;conv=>whnf
 refine ACalls.mono (copyEnts_any (k.es.sub s7) h1 h2 hF hn hs) ?_
 rintro _ h8 ⟨a8,c8,ys,rfl,ye,ya,kk8⟩
 conv=>whnf
 obtain ⟨z,hz⟩:∃ z:PH,z={y with e:=⟨a8,y.e.n,c8⟩,es:=ys}:=⟨_,rfl⟩
 refine Af rfl rfl rfl ((kk8 _ _ _ l0 k7)) rfl ([I y.kind,I y.src,I y.dst,I y.term,I y.index,I y.logTerm,I y.commit, .bool y.ok,I y.hint, .slice a8 y.e.n c8,I y.si,I y.st,I y.sc, .slice y.d.a y.d.n y.d.c]) rfl fun h9 t9 k9 a9 e9=>?_;conv=>whnf
 have k19:=e9 _ _ n31 (kk8 _ _ _ l0 k17)
 refine Aa rfl k19 rfl ?_;conv=>whnf
 have sd9:Sl h9 t3 y.d.a y.d.n y.d.c 1 (bytesV y.data):=Sl.move k.sd fun b w e=>e9 _ _ (new3 e) (kk8 _ _ _ h3 (s7 _ _ e))
 refine ACalls.mono (copyB_any h9 (F,6) sd9 (by omega)) ?_
 rintro _ h10 ⟨a10,c10,rfl,o10,s10⟩
 conv=>whnf
 refine Af rfl rfl rfl ((s10 _ _ k9)) rfl ([I y.kind,I y.src,I y.dst,I y.term,I y.index,I y.logTerm,I y.commit, .bool y.ok,I y.hint, .slice a8 y.e.n c8,I y.si,I y.st,I y.sc, .slice a10 y.d.n c10]) rfl fun h11 t11 k11 a11 e11=>?_;conv=>whnf
 refine Ab rfl k11 rfl rfl ?_;conv=>whnf
 refine Ae rfl rfl rfl ((e11 _ _ n32 (s10 _ _ (e9 _ _ n32 (kk8 _ _ _ l0 k27))))) rfl ([I y.kind,I y.src,I y.dst,I y.term,I y.index,I y.logTerm,I y.commit, .bool y.ok,I y.hint, .slice a8 y.e.n c8,I y.si,I y.st,I y.sc, .slice a10 y.d.n c10]) rfl fun h12 t12 k12 a12 e12=>?_;conv=>whnf
 refine Ab rfl k12 rfl rfl ?_;conv=>whnf
 have f0:∀ r:Nat,((F,r):Tag)≠(0,1):=fun r c=>hF (congrArg Prod.fst c)
 refine ⟨{y with e:=⟨a8,y.e.n,c8⟩,es:=ys,d:=⟨a10,y.d.n,c10⟩},rfl,?_,rfl,rfl,⟨⟨?_,?_,ye.small⟩,?_⟩,?_⟩
 ·show (⟨_,_,_,_,_,_,_,_,_,ys.map EH.abs,_⟩:PostM)=_
  rw [ya];rfl
 ·exact Sl.move ye.sl fun b w e=>t12 _ _ _ (f0 _) (t11 _ _ _ (f0 _) (s10 _ _ (t9 _ _ _ (f0 _) e)))
 ·exact fun u hu=>Sl.move (ye.good u hu) fun b w e=>t12 _ _ _ (f0 _) (t11 _ _ _ (f0 _) (s10 _ _ (t9 _ _ _ (f0 _) e)))
 ·exact Sl.move o10.sl fun b w e=>t12 _ _ _ (f0 _) (t11 _ _ _ (f0 _) e)
 ·exact fun b t w ht e=>e12 _ _ (new2 e) (e11 _ _ (new3 e) (s10 _ _ (e9 _ _ (new3 e) (kk8 _ _ _ ht (s7 _ _ e)))))
variable {h h':Heap} {bp bm o o2 M M2:Nat} {c:CoreM}
theorem tells_any (ip:PIdle h bp o c) (im:RIdle h bm o2 c) (f:Fine c):ACalls PR 72 #[.agg #[Ptr bp,Ptr bm]] h (fun v h'=>v = .bool true∧h=h'):=by
 refine Ar (As mix Tryz.func72 rfl rfl Tryz.ntmps72 Tryz.results72 rfl ?_);conv=>whnf
 refine Al (0,1) ([Ptr bp,Ptr bm]) rfl fun b1 h1 n1 s1 k1=>?_;conv=>whnf
 have ip:PIdle h1 bp o c:=ip.move fun _ _ _ _ e=>s1 _ _ e
 have im:RIdle h1 bm o2 c:=im.move fun _ _ _ _ e=>s1 _ _ e
 obtain ⟨cx,kx⟩:=im.x
 refine An (h1) [] [0,1,3,4,5,6,7,2,8,9,10,11,13,14,15,16,17,12,18,19,20,21,22,24,25,26,27,28,23,29,30,31,32,33,35,36,34,37,38,39,40,41,42,44,45,46,47,48,43,49,50,51] (Sub.refl _) (by decide +kernel) ?_;conv=>whnf
 refine Aa rfl k1 rfl ?_
 refine Aa rfl k1 rfl ?_
 refine Aa rfl kx.str rfl ?_;conv=>whnf
 refine C2 (state_i ip) ?_;conv=>whnf
 refine ⟨Sub.refl _,?_⟩;conv=>whnf
 refine Ac (rfl) ?_;conv=>whnf
 refine Aa rfl k1 rfl ?_
 refine Aa rfl k1 rfl ?_
 refine Aa rfl kx.str rfl ?_;conv=>whnf
 refine C2 (term_i ip) ?_;conv=>whnf
 refine ⟨Sub.refl _,?_⟩;conv=>whnf
 refine Ac (rfl) ?_;conv=>whnf
 refine Aa rfl k1 rfl ?_
 refine Aa rfl k1 rfl ?_
 refine Aa rfl kx.str rfl ?_;conv=>whnf
 refine C2 (commit_i ip) ?_;conv=>whnf
 refine ⟨Sub.refl _,?_⟩;conv=>whnf
 refine Ac (rfl) ?_;conv=>whnf
 refine Aa rfl k1 rfl ?_
 refine Aa rfl k1 rfl ?_;conv=>whnf
 refine C2 (crew_i ip f.dk.ok.lk) ?_;conv=>whnf
 refine ⟨Sub.refl _,?_⟩;conv=>whnf
 refine C2 (rcrew_i im f.dk.lk) ?_;conv=>whnf
 refine ⟨Sub.refl _,?_⟩;conv=>whnf
 refine Ac (rfl) ?_;conv=>whnf
 refine Aa rfl k1 rfl ?_
 refine Aa rfl k1 rfl ?_
 refine Aa rfl kx.str rfl ?_;conv=>whnf
 refine C2 (head_i ip) ?_;conv=>whnf
 refine ⟨Sub.refl _,?_⟩;conv=>whnf
 refine Ac (rfl) ?_;conv=>whnf
 exact ⟨rfl,s1⟩
theorem answered_any {O:OutM} {x y:OX} (ip:PIdle h bp o c) (im:RIdle h bm o2 c) (f:Fine c) (sm:Small O) (ka:OutOk h M O x) (kb:OutOk h M2 O y) (hM:M≠0) (hm:M∉[o,o+1,o2,o2+1]) (er:Int) :
  ACalls PR 148 #[.agg #[Ptr bp,Ptr bm], .agg (outCells O x).toArray,I er, .agg (outCells O y).toArray,I er] h (fun v h'=>v = .bool true∧Keeps [M] h h'):=by
 simp only [List.mem_cons,List.not_mem_nil,or_false,not_or] at hm
 refine As mix Tryz.func148 rfl rfl Tryz.ntmps148 Tryz.results148 rfl ?_;conv=>whnf
 refine Al (0,1) ([Ptr bp,Ptr bm]) rfl fun b1 h1 n1 s1 k1=>?_;conv=>whnf
 refine Al (0,1) (outCells O x) rfl fun b2 h2 n2 s2 k2=>?_;conv=>whnf
 refine Al (0,1) (outCells O y) rfl fun b3 h3 n3 s3 k3=>?_;conv=>whnf
 have s13:=s1.trans (s2.trans s3)
 have ka3:=ka.move (h':=h3) fun _ _ _ _ e=>s13 _ _ e
 have kb3:=kb.move (h':=h3) fun _ _ _ _ e=>s13 _ _ e
 refine Ad ((by simp)) ?_;conv=>whnf
 refine Ab rfl (s3 _ _ k2) rfl rfl ?_
 refine Ab rfl k3 rfl rfl ?_;conv=>whnf
 have sm1:=sm.s
 have sm2:=sm.e
 have sm3:=sm.r
 have sm4:=sm.n
 refine ACalls.mono (sameOut_any ka3 kb3 (by omega) (by omega) (by omega) (by omega) (fun q hq=>by have:=sm.p q hq;omega)) ?_
 rintro _ _ ⟨rfl,rfl⟩
 conv=>whnf
 refine Ab rfl (s3 _ _ k2) rfl rfl ?_;conv=>whnf
 refine ACalls.mono (spoil_any ka3 sm) ?_;rintro _ h4 ⟨rfl,kk4⟩;conv=>whnf
 refine Ab rfl (kk4 _ _ _ (by simp;omega) (s3 _ _ (s2 _ _ k1))) rfl rfl ?_;conv=>whnf
 refine C2 (tells_any (ip.move fun b t y ht e=>kk4 _ _ _ (by simp;omega) (s13 _ _ e)) (im.move fun b t y ht e=>kk4 _ _ _ (by simp;omega) (s13 _ _ e)) f) ?_;conv=>whnf
 exact ⟨rfl,fun b t y ht e=>kk4 _ _ _ ht (s13 _ _ e)⟩
end
section
structure DoH where
  kind:Int
  a:Int
  y:PH
  d:SlV
  data:List Int
def DoH.cells (x:DoH):List Value:=doCells x.kind x.a x.y x.d
def DoH.m (x:DoH):DoM:=⟨x.kind,x.a,x.y.abs,x.data⟩
structure DoH.Ok (N:Nat) (h:Heap) (x:DoH):Prop where
  y:∃ t1 t2 t3:Tag,x.y.Ok h t1 t2 t3∧(1≤t1.1∧t1.1<N)∧(1≤t2.1∧t2.1<N)∧1≤t3.1∧t3.1<N
  d:∃ t:Tag,Sl h t x.d.a x.d.n x.d.c 1 (bytesV x.data)∧1≤t.1∧t.1<N
theorem DoH.Ok.move {N:Nat} {h h':Heap} {x:DoH} (k:x.Ok N h) (m:∀ b (t:Tag) y,1≤t.1→t.1<N→h b=some (t,y)→h' b=some (t,y)):x.Ok N h':=by
 obtain ⟨⟨t1,t2,t3,ok,a1,a2,a3⟩,t,s,a4⟩:=k
 exact ⟨⟨t1,t2,t3,ok.move fun b t y ht e=>m _ _ _ (by rcases ht with rfl | rfl | rfl <;> omega) (by rcases ht with rfl | rfl | rfl <;> omega) e,a1,a2,a3⟩,t,s.move fun b y e=>m _ _ _ a4.1 a4.2 e,a4⟩
def ow (N:Nat):List Nat:=[N,N+1,N+2,N+3,N+4,N+5,N+6]
theorem runs_cons {c:CoreM} {d:DoM} {l:List DoM} (h:c.runs (d::l)=true):c.goodB=true∧d.okB=true∧c.doesB d=true∧(c.does d).runs l=true:=by
 unfold CoreM.runs at h
 simp only [Bool.and_eq_true] at h
 exact ⟨h.1.1.1,h.1.1.2,h.1.2,h.2⟩
theorem runs_good {c:CoreM} {l:List DoM} (h:c.runs l=true):c.goodB=true:=by
 cases l with
 | nil=>exact h
 | cons d l=>exact (runs_cons h).1
structure DoF (x:DoH):Prop where
  k0:0≤x.kind
  k6:x.kind≤6
  by_:∀ z∈x.data,0≤z∧z<256
  dl:x.data.length≤8192
  eb:∀ e∈x.y.es,∀ z∈e.data,0≤z∧z<256
  el:x.y.es.length≤1000
  sl:x.y.data.length≤8192
  c0 : -9223372036854775808≤x.y.sc
  c1:x.y.sc≤9223372036854775807
  ed:∀ e∈x.y.es,e.data.length≤100000
theorem DoM.okB_ok {x:DoH} (h:x.m.okB=true):DoF x:=by
 unfold DoM.okB at h
 simp only [Bool.and_eq_true,decide_eq_true_eq] at h
 obtain ⟨⟨⟨⟨⟨⟨⟨a1,a2⟩,a3⟩,a4⟩,a5⟩,a6⟩,a7⟩,a8⟩:=h
 have el:x.m.p.entries.length=x.y.es.length:=List.length_map _
 refine ⟨a1.1,a1.2,byte_ok a2,a3,fun e he=>byte_ok (List.all_eq_true.1 a4 e.abs (List.mem_map.2 ⟨e,he,rfl⟩)),by omega,a6,a7.1,a7.2,fun e he=>?_⟩
 exact of_decide_eq_true (List.all_eq_true.1 a8 e.abs (List.mem_map.2 ⟨e,he,rfl⟩))
theorem doc_given {oo o:Nat} {h:Heap} {y:PH} {t1 t2 t3:Tag} (k:y.Ok h t1 t2 t3) (h1:t1.1<o) (h2:t2.1<o) (h3:t3.1<o) (ho:o+1<oo) (eb:∀ e∈y.es,∀ z∈e.data,0≤z∧z<256) (c0 : -9223372036854775808≤y.sc) (c1:y.sc≤9223372036854775807) (el:y.e.n≤1000):Given h o oo y :=
 ⟨⟨t1,t2,t3,k,by simp;omega,by simp;omega,by simp;omega⟩,eb,c0,c1,by omega⟩
variable {h:Heap} {bp bm N:Nat} {c:CoreM}
theorem bstep_any (hN:0<N) (x:DoH) (kx:x.Ok N h) (ip:PIdle h bp (N+1) c) (im:RIdle h bm (N+3) c) (ho:c.out=out0) (hg:c.goodB=true) (hx:x.m.okB=true) (hd:c.doesB x.m=true) (hg2:(c.does x.m).goodB=true) :
  ACalls PR 73 #[.agg #[Ptr bp,Ptr bm], .agg x.cells.toArray] h (fun v h'=>v = .bool true∧PIdle h' bp (N+1) (c.does x.m)∧RIdle h' bm (N+3) (c.does x.m)∧Keeps (ow N) h h'):=by
 obtain ⟨dk,hbi,hsi⟩:=CoreM.goodB_ok hg ho
 have F2:=CoreM.goodB_ok hg2 (does_out ho _)
 obtain ⟨k0,k6,xby,xdl,xeb,xel,xsl,xc0,xc1,xed⟩:=DoM.okB_ok hx
 obtain ⟨⟨t1,t2,t3,yok,y1,y2,y3⟩,td,dsl,d1,d2⟩:=kx
 have dlen:x.data.length=x.d.n:=by have:=dsl.len;simpa [bytesV] using this
 have ylen:x.y.es.length=x.y.e.n:=yok.es.len
 have ydl:x.y.data.length=x.y.d.n:=by have:=yok.sd.len;simpa [bytesV] using this
 refine At mix Tryz.func73 rfl rfl Tryz.ntmps73 Tryz.results73 rfl ?_;conv=>whnf
 refine Al (0,1) ([Ptr bp,Ptr bm]) rfl fun b2 h1 n1 s1 r2=>?_;conv=>whnf
 refine Al (0,1) (doCells x.kind x.a x.y x.d) rfl fun b3 h2 n2 s2 r3=>?_;conv=>whnf
 have s12:=s1.trans s2
 have r2:=s2 _ _ r2
 have ip2:PIdle h2 bp (N+1) c:=ip.move fun _ _ _ _ e=>s12 _ _ e
 have im2:RIdle h2 bm (N+3) c:=im.move fun _ _ _ _ e=>s12 _ _ e
 have l1:((0,1):Tag).1∉[N+1,N+1+1]:=by simp
 have l2:((0,1):Tag).1∉[N+3,N+3+1]:=by simp
 have d2':Sl h2 td x.d.a x.d.n x.d.c 1 (bytesV x.data):=dsl.sub s12
 have y2':x.y.Ok h2 t1 t2 t3:=yok.move fun _ _ _ _ e=>s12 _ _ e
 refine Av ?_;conv=>whnf
 refine Ab rfl r3 rfl rfl ?_;conv=>whnf
 refine ACalls.mono (kind_any h2 (l:=x.cells) (k:=x.kind) rfl rfl k0 k6) ?_
 rintro _ _ ⟨rfl,rfl⟩
 conv=>whnf
 by_cases c0:x.kind=0
 ·have HD:c.does x.m=(c.ticked x.a).2.2:=if_pos c0
  rw [show c.doesB x.m=(c.ticked x.a).2.1.smallB from if_pos c0] at hd
  rw [HD]
  refine Ac (c0) ?_;conv=>whnf
  refine Aa rfl r2 rfl ?_
  refine Aa rfl r3 rfl ?_;conv=>whnf
  refine ACalls.mono (tick_two (N+5) (by omega) ip2 dk.ok x.a) ?_
  rintro _ h4 ⟨u,rfl,ox4,rfl,ok4,ip4,kk4⟩
  conv=>whnf
  refine Ak (0,1) (outCells out0 ox0) rfl fun b5 h5 n5 s5 k5=>?_;conv=>whnf
  refine Ae rfl rfl rfl (k5) rfl (outCells (c.ticked x.a).2.1 ox4) rfl fun h6 t6 r5 a6 e6=>?_;conv=>whnf
  have s6:=a6 _ s5 n5
  have mv6:∀ b (t:Tag) y,t.1∉[N+1,N+1+1]→h2 b=some (t,y)→h6 b=some (t,y):=fun b t y ht e=>s6 _ _ (kk4 _ _ _ ht e)
  have im6:=im2.move (h':=h6) fun b t y ht e=>mv6 _ _ _ (by simp <;> omega) e
  have r62:=mv6 _ _ _ l1 r2
  have r63:=mv6 _ _ _ l1 r3
  refine Aa rfl r62 rfl ?_
  refine Aa rfl r63 rfl ?_;conv=>whnf
  refine ACalls.mono (rtick_two (N+6) (by omega) im6 dk x.a) ?_
  rintro _ h7 ⟨u,rfl,ox7,rfl,ok7,im7,kk7⟩
  conv=>whnf
  refine Ak (0,1) (outCells out0 ox0) rfl fun b7 h8 n8 s8 k8=>?_;conv=>whnf
  refine Ae rfl rfl rfl (k8) rfl (outCells (c.ticked x.a).2.1 ox7) rfl fun h9 t9 r7 a9 e9=>?_;conv=>whnf
  have s9:=a9 _ s8 n8
  have mv9:∀ b (t:Tag) y,t.1∉[N+3,N+3+1]→h6 b=some (t,y)→h9 b=some (t,y):=fun b t y ht e=>s9 _ _ (kk7 _ _ _ ht e)
  have z2:=mv9 _ _ _ l2 r62
  have z3:=mv9 _ _ _ l2 r63
  have z5:=mv9 _ _ _ l2 r5
  have ip9:=ip4.move (h':=h9) fun b t y ht e=>mv9 _ _ _ (by simp <;> omega) (s6 _ _ e)
  have oka:=ok4.move (h':=h9) fun b t y ht e=>mv9 _ _ _ (by simp <;> omega) (s6 _ _ e)
  have im9:=im7.move (h':=h9) fun b t y ht e=>s9 _ _ e
  have okb:=ok7.move (h':=h9) fun b t y ht e=>s9 _ _ e
  refine Ab rfl z2 rfl rfl ?_
  refine Ab rfl z5 rfl rfl ?_
  refine Ab rfl r7 rfl rfl ?_;conv=>whnf
  refine ACalls.mono (answered_any ip9 im9 (by rw [← HD];exact F2) (OutM.smallB_ok hd) oka okb (by omega) (by simp) _) ?_
  rintro _ h10 ⟨rfl,kk10⟩
  conv=>whnf
  refine ⟨rfl,ip9.move fun b t y ht e=>kk10 _ _ _ (by simp <;> omega) e,im9.move fun b t y ht e=>kk10 _ _ _ (by simp <;> omega) e,fun b t y ht e=>?_⟩
  simp only [ow,List.mem_cons,List.not_mem_nil,or_false,not_or] at ht
  exact kk10 _ _ _ (by simp <;> omega) (mv9 _ _ _ (by simp <;> omega) (mv6 _ _ _ (by simp <;> omega) (s12 _ _ e)))
 refine Ad (c0) ?_;conv=>whnf
 by_cases c1:x.kind=1
 ·have HD:c.does x.m=(c.taken x.y.abs x.a).2.2:=(if_neg c0).trans (if_pos c1)
  rw [show c.doesB x.m=(c.taken x.y.abs x.a).2.1.smallB from (if_neg c0).trans (if_pos c1)] at hd
  rw [HD]
  refine Ac (c1) ?_;conv=>whnf
  refine Ab rfl r3 rfl rfl ?_;conv=>whnf
  refine ACalls.mono (copyP_any (F:=N) y2' (by omega) (by omega) (by omega) (by omega) (by omega) (fun e he=>by have:=xed e he;have:=(yok.es.good e he).len;omega) (by omega)) ?_
  rintro _ h3 ⟨z,rfl,za,zn,zd,zo,kk3⟩
  conv=>whnf
  refine Ak (0,1) (post0z) rfl fun b9 hA nA sA kA=>?_;conv=>whnf
  refine Ae rfl rfl rfl (kA) rfl (z.cells) rfl fun hB tB r9 aB eB=>?_;conv=>whnf
  have sB:=aB _ sA nA
  have mvB:∀ b (t:Tag) y,t.1≠N→h2 b=some (t,y)→hB b=some (t,y):=fun b t y ht e=>sB _ _ (kk3 _ _ _ ht e)
  have zB:z.Ok hB _ _ _:=zo.move fun _ _ _ _ e=>sB _ _ e
  have yB:x.y.Ok hB t1 t2 t3:=y2'.move fun b t y ht e=>mvB _ _ _ (by rcases ht with rfl | rfl | rfl <;> omega) e
  have ipB:PIdle hB bp (N+1) c:=ip2.move fun b t y ht e=>mvB _ _ _ (by omega) e
  have imB:RIdle hB bm (N+3) c:=im2.move fun b t y ht e=>mvB _ _ _ (by omega) e
  have rB2:=mvB _ _ _ (by simp <;> omega) r2
  have rB3:=mvB _ _ _ (by simp <;> omega) r3
  refine Aa rfl rB2 rfl ?_
  refine Ab rfl r9 rfl rfl ?_
  refine Aa rfl rB3 rfl ?_;conv=>whnf
  have zes:z.es.length=z.e.n:=zo.es.len
  have zab:z.es.map EH.abs=x.y.es.map EH.abs:=congrArg PostM.entries za
  have zsc:z.sc=x.y.sc:=congrArg (fun p:PostM=>p.snap.crew) za
  have zeb:∀ e∈z.es,∀ w∈e.data,0≤w∧w<256:=fun e he w hw=>by
   have:e.abs∈x.y.es.map EH.abs:=by rw [← zab];exact List.mem_map.2 ⟨e,he,rfl⟩
   obtain ⟨e',he',e1⟩:=List.mem_map.1 this
   exact xeb e' he' w (by have:=congrArg (fun q:Abs=>q.2.2.2) e1;simp only [EH.abs] at this;rw [this];exact hw)
  refine ACalls.mono (take_two (N+5) (by omega) ipB dk.ok z (fun oo _ hoo=>doc_given zB (by simp) (by simp) (by simp) hoo zeb (by omega) (by omega) (by omega)) x.a) ?_
  rw [za]
  rintro _ h4 ⟨u,rfl,ox4,rfl,ok4,ip4,kk4⟩
  conv=>whnf
  refine Ak (0,1) (outCells out0 ox0) rfl fun b5 h5 n5 s5 k5=>?_;conv=>whnf
  refine Ae rfl rfl rfl (k5) rfl (outCells (c.taken x.y.abs x.a).2.1 ox4) rfl fun h6 t6 r5 a6 e6=>?_;conv=>whnf
  have s6:=a6 _ s5 n5
  have mv6:∀ b (t:Tag) y,t.1∉[N+1,N+1+1]→hB b=some (t,y)→h6 b=some (t,y):=fun b t y ht e=>s6 _ _ (kk4 _ _ _ ht e)
  have im6:=imB.move (h':=h6) fun b t y ht e=>mv6 _ _ _ (by simp <;> omega) e
  have r62:=mv6 _ _ _ l1 rB2
  have r63:=mv6 _ _ _ l1 rB3
  have r69:=mv6 _ _ _ l1 r9
  have y6:x.y.Ok h6 t1 t2 t3:=yB.move fun b t y ht e=>mv6 _ _ _ (by rcases ht with rfl | rfl | rfl <;> (simp;omega)) e
  have z6:z.Ok h6 _ _ _:=zB.move fun b t y ht e=>mv6 _ _ _ (by rcases ht with rfl | rfl | rfl <;> (simp <;> omega)) e
  refine Aa rfl r62 rfl ?_
  refine Ab rfl r63 rfl rfl ?_
  refine Aa rfl r63 rfl ?_;conv=>whnf
  refine ACalls.mono (rtake_two (N+6) (by omega) im6 dk x.y (fun oo _ hoo=>doc_given y6 (by omega) (by omega) (by omega) hoo xeb xc0 xc1 (by omega)) x.a (by omega)) ?_
  rintro _ h7 ⟨u,rfl,ox7,rfl,ok7,im7,kk7⟩
  conv=>whnf
  refine Ak (0,1) (outCells out0 ox0) rfl fun b7 h8 n8 s8 k8=>?_;conv=>whnf
  refine Ae rfl rfl rfl (k8) rfl (outCells (c.taken x.y.abs x.a).2.1 ox7) rfl fun h9 t9 r7 a9 e9=>?_;conv=>whnf
  have s9:=a9 _ s8 n8
  have mv9:∀ b (t:Tag) y,t.1∉[N+3,N+3+1]→h6 b=some (t,y)→h9 b=some (t,y):=fun b t y ht e=>s9 _ _ (kk7 _ _ _ ht e)
  have z2:=mv9 _ _ _ l2 r62
  have z3:=mv9 _ _ _ l2 r63
  have z5:=mv9 _ _ _ l2 r5
  have ip9:=ip4.move (h':=h9) fun b t y ht e=>mv9 _ _ _ (by simp <;> omega) (s6 _ _ e)
  have oka:=ok4.move (h':=h9) fun b t y ht e=>mv9 _ _ _ (by simp <;> omega) (s6 _ _ e)
  have im9:=im7.move (h':=h9) fun b t y ht e=>s9 _ _ e
  have okb:=ok7.move (h':=h9) fun b t y ht e=>s9 _ _ e
  have z9:=mv9 _ _ _ l2 r69
  refine Av ?_;conv=>whnf
  refine Ab rfl z9 rfl rfl ?_
  refine Ab rfl z3 rfl rfl ?_;conv=>whnf
  refine ACalls.mono (rsame_any (z6.move fun b t y ht e=>mv9 _ _ _ (by rcases ht with rfl | rfl | rfl <;> (simp <;> omega)) e) (y6.move fun b t y ht e=>mv9 _ _ _ (by rcases ht with rfl | rfl | rfl <;> (simp;omega)) e) (by omega) (by omega)) ?_
  rw [za,same_self]
  rintro _ _ ⟨rfl,rfl⟩
  conv=>whnf
  refine Ab rfl z2 rfl rfl ?_
  refine Ab rfl z5 rfl rfl ?_
  refine Ab rfl r7 rfl rfl ?_;conv=>whnf
  refine ACalls.mono (answered_any ip9 im9 (by rw [← HD];exact F2) (OutM.smallB_ok hd) oka okb (by omega) (by simp) _) ?_
  rintro _ h10 ⟨rfl,kk10⟩
  conv=>whnf
  refine ⟨rfl,ip9.move fun b t y ht e=>kk10 _ _ _ (by simp <;> omega) e,im9.move fun b t y ht e=>kk10 _ _ _ (by simp <;> omega) e,fun b t y ht e=>?_⟩
  simp only [ow,List.mem_cons,List.not_mem_nil,or_false,not_or] at ht
  exact kk10 _ _ _ (by simp <;> omega) (mv9 _ _ _ (by simp <;> omega) (mv6 _ _ _ (by simp <;> omega) (mvB _ _ _ (by omega) (s12 _ _ e))))
 refine Ad (c1) ?_;conv=>whnf
 by_cases c2:x.kind=2
 ·have HD:c.does x.m=(c.proposed x.a x.data).2.2.2:=(if_neg c0).trans ((if_neg c1).trans (if_pos c2))
  rw [show c.doesB x.m=(c.proposed x.a x.data).2.2.1.smallB from (if_neg c0).trans ((if_neg c1).trans (if_pos c2))] at hd
  rw [HD]
  refine Ac (c2) ?_;conv=>whnf
  refine Aa rfl r3 rfl ?_;conv=>whnf
  refine ACalls.mono (copyB_any h2 (N,3) d2' (by omega)) ?_
  rintro _ h3 ⟨ai,ci,rfl,oi,s3⟩
  conv=>whnf
  refine Aa rfl (s3 _ _ r2) rfl ?_
  refine Aa rfl (s3 _ _ r3) rfl ?_;conv=>whnf
  refine ACalls.mono (propose_two (N+5) (by omega) (ip2.move fun _ _ _ _ e=>s3 _ _ e) dk.ok x.a oi.sl xby) ?_
  rintro _ h4 ⟨u,rfl,ox4,rfl,ok4,ip4,kk4⟩
  conv=>whnf
  refine Ak (0,1) (outCells out0 ox0) rfl fun b5 h5 n5 s5 k5=>?_;conv=>whnf
  refine Ae rfl rfl rfl (k5) rfl (outCells (c.proposed x.a x.data).2.2.1 ox4) rfl fun h6 t6 r5 a6 e6=>?_;conv=>whnf
  have s6:=a6 _ s5 n5
  have mv6:∀ b (t:Tag) y,t.1∉[N+1,N+1+1]→h3 b=some (t,y)→h6 b=some (t,y):=fun b t y ht e=>s6 _ _ (kk4 _ _ _ ht e)
  have im6:=im2.move (h':=h6) fun b t y ht e=>mv6 _ _ _ (by simp <;> omega) (s3 _ _ e)
  have r62:=mv6 _ _ _ l1 (s3 _ _ r2)
  have r63:=mv6 _ _ _ l1 (s3 _ _ r3)
  have d6:Sl h6 td x.d.a x.d.n x.d.c 1 (bytesV x.data):=d2'.move fun b y e=>mv6 _ _ _ (by simp <;> omega) (s3 _ _ e)
  have i6:=oi.sl.move (h':=h6) fun b y e=>mv6 _ _ _ (by simp <;> omega) e
  refine Aa rfl r62 rfl ?_
  refine Aa rfl r63 rfl ?_
  refine Aa rfl r63 rfl ?_;conv=>whnf
  refine ACalls.mono (rpropose_two (N+6) (by omega) im6 dk x.a d6 (by omega) xby) ?_
  rintro _ h7 ⟨u,rfl,ox7,rfl,ok7,im7,kk7⟩
  conv=>whnf
  refine Ak (0,1) (outCells out0 ox0) rfl fun b7 h8 n8 s8 k8=>?_;conv=>whnf
  refine Ae rfl rfl rfl (k8) rfl (outCells (c.proposed x.a x.data).2.2.1 ox7) rfl fun h9 t9 r7 a9 e9=>?_;conv=>whnf
  have s9:=a9 _ s8 n8
  have mv9:∀ b (t:Tag) y,t.1∉[N+3,N+3+1]→h6 b=some (t,y)→h9 b=some (t,y):=fun b t y ht e=>s9 _ _ (kk7 _ _ _ ht e)
  have z2:=mv9 _ _ _ l2 r62
  have z3:=mv9 _ _ _ l2 r63
  have z5:=mv9 _ _ _ l2 r5
  have ip9:=ip4.move (h':=h9) fun b t y ht e=>mv9 _ _ _ (by simp <;> omega) (s6 _ _ e)
  have oka:=ok4.move (h':=h9) fun b t y ht e=>mv9 _ _ _ (by simp <;> omega) (s6 _ _ e)
  have im9:=im7.move (h':=h9) fun b t y ht e=>s9 _ _ e
  have okb:=ok7.move (h':=h9) fun b t y ht e=>s9 _ _ e
  refine Av ?_;conv=>whnf
  refine Ac (rfl) ?_;conv=>whnf
  refine Aa rfl z3 rfl ?_;conv=>whnf
  refine ACalls.mono (eqBytes_any h9 (i6.move fun b y e=>mv9 _ _ _ (by simp <;> omega) e) (d6.move fun b y e=>mv9 _ _ _ (by simp <;> omega) e) (by omega)) ?_
  rw [decide_eq_true (rfl:x.data=x.data)]
  rintro _ _ ⟨rfl,rfl⟩
  conv=>whnf
  refine Ab rfl z2 rfl rfl ?_
  refine Ab rfl z5 rfl rfl ?_
  refine Ab rfl r7 rfl rfl ?_;conv=>whnf
  refine ACalls.mono (answered_any ip9 im9 (by rw [← HD];exact F2) (OutM.smallB_ok hd) oka okb (by omega) (by simp) _) ?_
  rintro _ h10 ⟨rfl,kk10⟩
  conv=>whnf
  refine ⟨rfl,ip9.move fun b t y ht e=>kk10 _ _ _ (by simp <;> omega) e,im9.move fun b t y ht e=>kk10 _ _ _ (by simp <;> omega) e,fun b t y ht e=>?_⟩
  simp only [ow,List.mem_cons,List.not_mem_nil,or_false,not_or] at ht
  exact kk10 _ _ _ (by simp <;> omega) (mv9 _ _ _ (by simp <;> omega) (mv6 _ _ _ (by simp <;> omega) (s3 _ _ (s12 _ _ e))))
 refine Ad (c2) ?_;conv=>whnf
 by_cases c3:x.kind=3
 ·have HD:c.does x.m=c.asked1.2.2.2:=(if_neg c0).trans ((if_neg c1).trans ((if_neg c2).trans (if_pos c3)))
  rw [show c.doesB x.m=c.asked1.2.2.1.smallB from (if_neg c0).trans ((if_neg c1).trans ((if_neg c2).trans (if_pos c3)))] at hd
  rw [HD]
  refine Ac (c3) ?_;conv=>whnf
  refine Aa rfl r2 rfl ?_;conv=>whnf
  refine ACalls.mono (read_two (N+5) (by omega) ip2 dk.ok) ?_
  rintro _ h4 ⟨u,rfl,ox4,rfl,ok4,ip4,kk4⟩
  conv=>whnf
  refine Ak (0,1) (outCells out0 ox0) rfl fun b5 h5 n5 s5 k5=>?_;conv=>whnf
  refine Ae rfl rfl rfl (k5) rfl (outCells c.asked1.2.2.1 ox4) rfl fun h6 t6 r5 a6 e6=>?_;conv=>whnf
  have s6:=a6 _ s5 n5
  have mv6:∀ b (t:Tag) y,t.1∉[N+1,N+1+1]→h2 b=some (t,y)→h6 b=some (t,y):=fun b t y ht e=>s6 _ _ (kk4 _ _ _ ht e)
  have im6:=im2.move (h':=h6) fun b t y ht e=>mv6 _ _ _ (by simp <;> omega) e
  have r62:=mv6 _ _ _ l1 r2
  have r63:=mv6 _ _ _ l1 r3
  refine Aa rfl r62 rfl ?_;conv=>whnf
  refine ACalls.mono (rread_two (N+6) (by omega) im6 dk) ?_
  rintro _ h7 ⟨u,rfl,ox7,rfl,ok7,im7,kk7⟩
  conv=>whnf
  refine Ak (0,1) (outCells out0 ox0) rfl fun b7 h8 n8 s8 k8=>?_;conv=>whnf
  refine Ae rfl rfl rfl (k8) rfl (outCells c.asked1.2.2.1 ox7) rfl fun h9 t9 r7 a9 e9=>?_;conv=>whnf
  have s9:=a9 _ s8 n8
  have mv9:∀ b (t:Tag) y,t.1∉[N+3,N+3+1]→h6 b=some (t,y)→h9 b=some (t,y):=fun b t y ht e=>s9 _ _ (kk7 _ _ _ ht e)
  have z2:=mv9 _ _ _ l2 r62
  have z3:=mv9 _ _ _ l2 r63
  have z5:=mv9 _ _ _ l2 r5
  have ip9:=ip4.move (h':=h9) fun b t y ht e=>mv9 _ _ _ (by simp <;> omega) (s6 _ _ e)
  have oka:=ok4.move (h':=h9) fun b t y ht e=>mv9 _ _ _ (by simp <;> omega) (s6 _ _ e)
  have im9:=im7.move (h':=h9) fun b t y ht e=>s9 _ _ e
  have okb:=ok7.move (h':=h9) fun b t y ht e=>s9 _ _ e
  refine Av ?_;conv=>whnf
  refine Ac (rfl) ?_;conv=>whnf
  refine Ab rfl z2 rfl rfl ?_
  refine Ab rfl z5 rfl rfl ?_
  refine Ab rfl r7 rfl rfl ?_;conv=>whnf
  refine ACalls.mono (answered_any ip9 im9 (by rw [← HD];exact F2) (OutM.smallB_ok hd) oka okb (by omega) (by simp) _) ?_
  rintro _ h10 ⟨rfl,kk10⟩
  conv=>whnf
  refine ⟨rfl,ip9.move fun b t y ht e=>kk10 _ _ _ (by simp <;> omega) e,im9.move fun b t y ht e=>kk10 _ _ _ (by simp <;> omega) e,fun b t y ht e=>?_⟩
  simp only [ow,List.mem_cons,List.not_mem_nil,or_false,not_or] at ht
  exact kk10 _ _ _ (by simp <;> omega) (mv9 _ _ _ (by simp <;> omega) (mv6 _ _ _ (by simp <;> omega) (s12 _ _ e)))
 refine Ad (c3) ?_;conv=>whnf
 by_cases c4:x.kind=4
 ·have HD:c.does x.m=(c.compacted x.a x.data).2.2:=(if_neg c0).trans ((if_neg c1).trans ((if_neg c2).trans ((if_neg c3).trans (if_pos c4))))
  rw [show c.doesB x.m=decide ((c.compacted x.a x.data).2.1.data.length≤8192) from (if_neg c0).trans ((if_neg c1).trans ((if_neg c2).trans ((if_neg c3).trans (if_pos c4))))] at hd
  have hd:=of_decide_eq_true hd
  rw [HD]
  rw [HD] at F2
  refine Ac (c4) ?_;conv=>whnf
  refine Aa rfl r2 rfl ?_
  refine Aa rfl r3 rfl ?_
  refine Aa rfl r3 rfl ?_;conv=>whnf
  refine ACalls.mono (compact_two (N+5) (by omega) ip2 dk.ok hbi hsi x.a d2' (by omega) (by omega)) ?_
  generalize hC:(c.compacted x.a x.data).2.2=C at F2 ⊢
  generalize hS:(c.compacted x.a x.data).2.1=S at hd ⊢
  generalize hE:(c.compacted x.a x.data).1=E
  rintro _ h4 ⟨a,nn,cc,rfl,ow4,ip4,kk4⟩
  conv=>whnf
  refine Ak (0,1) ([I 0,I 0,I 0, .slice none 0 0]) rfl fun b5 h5 n5 s5 k5=>?_;conv=>whnf
  refine Ae rfl rfl rfl (k5) rfl (snapCells S a nn cc) rfl fun h6 t6 r5 a6 e6=>?_;conv=>whnf
  have s6:=a6 _ s5 n5
  have mv6:∀ b (t:Tag) y,t.1∉[N+1,N+1+1]→h2 b=some (t,y)→h6 b=some (t,y):=fun b t y ht e=>s6 _ _ (kk4 _ _ _ ht e)
  have im6:=im2.move (h':=h6) fun b t y ht e=>mv6 _ _ _ (by simp <;> omega) e
  have r62:=mv6 _ _ _ l1 r2
  have r63:=mv6 _ _ _ l1 r3
  have d6:Sl h6 td x.d.a x.d.n x.d.c 1 (bytesV x.data):=d2'.move fun b y e=>mv6 _ _ _ (by simp <;> omega) e
  refine Aa rfl r62 rfl ?_
  refine Aa rfl r63 rfl ?_
  refine Aa rfl r63 rfl ?_;conv=>whnf
  refine ACalls.mono (rcompact_two (N+6) (by omega) im6 dk hbi hsi x.a d6 (by omega) (by omega) (by omega)) ?_
  rw [hS,hE,hC]
  rintro _ h7 ⟨a',nn',cc',rfl,ow7,im7,kk7⟩
  conv=>whnf
  refine Ak (0,1) ([I 0,I 0,I 0, .slice none 0 0]) rfl fun b7 h8 n8 s8 k8=>?_;conv=>whnf
  refine Ae rfl rfl rfl (k8) rfl (snapCells S a' nn' cc') rfl fun h9 t9 r7 a9 e9=>?_;conv=>whnf
  have s9:=a9 _ s8 n8
  have mv9:∀ b (t:Tag) y,t.1∉[N+3,N+3+1]→h6 b=some (t,y)→h9 b=some (t,y):=fun b t y ht e=>s9 _ _ (kk7 _ _ _ ht e)
  refine Av ?_;conv=>whnf
  refine Ac (rfl) ?_;conv=>whnf
  refine Ab rfl (mv9 _ _ _ l2 r5) rfl rfl ?_
  refine Ab rfl r7 rfl rfl ?_;conv=>whnf
  have hnn:S.data.length=nn:=by have h1:=ow4.sl.len;simpa [bytesV] using h1
  refine ACalls.mono (sameSnap_any (d1:=⟨a,nn,cc⟩) (d2:=⟨a',nn',cc'⟩) (ow4.sl.move fun b y e=>mv9 _ _ _ (by simp <;> omega) (s6 _ _ e)) (ow7.sl.move fun b y e=>s9 _ _ e) (by show nn≤_;omega)) ?_
  rw [snap_self]
  rintro _ _ ⟨rfl,rfl⟩
  conv=>whnf
  refine Ab rfl (mv9 _ _ _ l2 r62) rfl rfl ?_;conv=>whnf
  have ip9:=ip4.move (h':=h9) fun b t y ht e=>mv9 _ _ _ (by simp <;> omega) (s6 _ _ e)
  have im9:=im7.move (h':=h9) fun b t y ht e=>s9 _ _ e
  refine C2 (tells_any ip9 im9 F2) ?_;conv=>whnf
  refine ⟨rfl,ip9,im9,fun b t y ht e=>?_⟩
  simp only [ow,List.mem_cons,List.not_mem_nil,or_false,not_or] at ht
  exact mv9 _ _ _ (by simp <;> omega) (mv6 _ _ _ (by simp <;> omega) (s12 _ _ e))
 refine Ad (c4) ?_;conv=>whnf
 by_cases c5:x.kind=5
 ·have HD:c.does x.m=c:=(if_neg c0).trans ((if_neg c1).trans ((if_neg c2).trans ((if_neg c3).trans ((if_neg c4).trans (if_pos c5)))))
  rw [HD]
  refine Ac (c5) ?_;conv=>whnf
  refine Aa rfl r2 rfl ?_
  refine Aa rfl r3 rfl ?_;conv=>whnf
  refine ACalls.mono (entry_i ip2 dk.ok.lk (N+5,2) (by simp) x.a) ?_
  rintro _ h4 ⟨e1,rfl,m4,e1a,e1n,s4⟩
  conv=>whnf
  refine Ak (0,1) (entry0z) rfl fun b5 h5 n5 s5 k5=>?_;conv=>whnf
  refine Ae rfl rfl rfl (k5) rfl (e1.cells) rfl fun h6 t6 r5 a6 e6=>?_;conv=>whnf
  have s6:=a6 _ s5 n5
  have s26:Sub h2 h6:=s4.trans s6
  refine Aa rfl (s26 _ _ r2) rfl ?_
  refine Aa rfl (s26 _ _ r3) rfl ?_;conv=>whnf
  refine ACalls.mono (rentry_i (im2.move fun _ _ _ _ e=>s26 _ _ e) dk.ok.lk (N+6,2) (by simp) x.a) ?_
  rintro _ h7 ⟨e2,rfl,m7,e2a,e2n,s7⟩
  conv=>whnf
  refine Ak (0,1) (entry0z) rfl fun b7 h8 n8 s8 k8=>?_;conv=>whnf
  refine Ae rfl rfl rfl (k8) rfl (e2.cells) rfl fun h9 t9 r7 a9 e9'=>?_;conv=>whnf
  have s9:=a9 _ s8 n8
  refine Av ?_;conv=>whnf
  refine Ac (rfl) ?_;conv=>whnf
  refine Ab rfl (s9 _ _ (s7 _ _ r5)) rfl rfl ?_;conv=>whnf
  refine Ap (0,1) e1.cells rfl rfl rfl rfl rfl rfl rfl fun bA hA nA sA kA=>?_;conv=>whnf
  refine Ab rfl (sA _ _ r7) rfl rfl ?_;conv=>whnf
  refine Ap (0,1) e2.cells rfl rfl rfl rfl rfl rfl rfl fun bB hB nB sB kB=>?_;conv=>whnf
  have s2B:Sub h2 hB:=s26.trans (s7.trans (s9.trans (sA.trans sB)))
  have X1:Ents hB (0,1) (N+5,2) (some ⟨bA,0,none⟩) 1 1 [e1]:=⟨⟨rfl,Nat.le_refl 1, .inr ⟨bA,0,_,_,_,rfl,sB _ _ kA,rfl⟩⟩,fun e he=>by
   rw [List.mem_singleton.1 he];exact m4.sl.sub (s6.trans (s7.trans (s9.trans (sA.trans sB)))),fun e he=>by rw [List.mem_singleton.1 he];omega⟩
  have X2:Ents hB (0,1) (N+6,2) (some ⟨bB,0,none⟩) 1 1 [e2]:=⟨⟨rfl,Nat.le_refl 1, .inr ⟨bB,0,_,_,_,rfl,kB,rfl⟩⟩,fun e he=>by
   rw [List.mem_singleton.1 he];exact m7.sl.sub (s9.trans (sA.trans sB)),fun e he=>by rw [List.mem_singleton.1 he];omega⟩
  refine ACalls.mono (sameEnts_any X1 X2 (by omega)) ?_
  rw [decide_eq_true (show [e1].map EH.abs=[e2].map EH.abs by rw [List.map_singleton,List.map_singleton,e1a,e2a])]
  rintro _ _ ⟨rfl,rfl⟩
  conv=>whnf
  exact ⟨rfl,ip2.move fun _ _ _ _ e=>s2B _ _ e,im2.move fun _ _ _ _ e=>s2B _ _ e,(s12.trans s2B).keeps _⟩
 refine Ad (c5) ?_;conv=>whnf
 have hk:=bring_lo x.a 25
 have hk2:=bring_hi (i:=x.a) (n:=25) (by omega)
 obtain ⟨K,hK⟩:∃ K:Nat,bring x.a 25=K:=⟨(bring x.a 25).toNat,by omega⟩
 have HD:c.does x.m=c.ticks K:=((if_neg c0).trans ((if_neg c1).trans ((if_neg c2).trans ((if_neg c3).trans ((if_neg c4).trans (if_neg c5)))))).trans (by show c.ticks (bring x.a 25).toNat=_;rw [hK];rfl)
 have hd:c.ticksB K=true:=by
  have e:c.doesB x.m=c.ticksB (bring x.a 25).toNat:=(if_neg c0).trans ((if_neg c1).trans ((if_neg c2).trans ((if_neg c3).trans ((if_neg c4).trans (if_neg c5)))))
  rw [e,hK] at hd;exact hd
 rw [HD]
 refine Aa rfl r3 rfl ?_;conv=>whnf
 refine C2 (bring_any x.a 25 (by omega) h2) ?_;conv=>whnf
 rw [hK]
 conv=>whnf
 refine ALoop.mk (fun e h'=>∃ (e0:Env) (k:Nat) (C:CoreM),e=updL 261 e0 [(2,Ptr b2),(35,I k)]∧k≤25∧C.out=out0∧C.ticksB k=true∧c.ticks K=C.ticks k∧PIdle h' bp (N+1) C∧RIdle h' bm (N+3) C∧h' b2=some (row (0,1) [Ptr bp,Ptr bm] 126)∧Keeps (ow N) h h') (fun e=>natOf (e 35))
  ⟨_,K,c,Au ⟨rfl,rfl,trivial⟩,by omega,ho,hd,rfl,ip2,im2,r2,s12.keeps _⟩ ?_
 clear hd hK hk hk2 F2 hg2 HD ip2 im2 r2 r3 d2' y2'
 rintro e h3 ⟨e0,k,C,rfl,hk25,hO,hB,hT,ip2,im2,r2,kkC⟩
 conv=>whnf
 cases k with
 | zero =>
  refine Av ?_;conv=>whnf
  refine Ad ((by omega)) ?_;conv=>whnf
  rw [hT]
  exact ⟨rfl,ip2,im2,kkC⟩
 | succ j =>
  unfold CoreM.ticksB at hB
  simp only [Bool.and_eq_true] at hB
  obtain ⟨⟨g1,g2⟩,g3⟩:=hB
  have dk:=(CoreM.goodB_ok g1 hO).dk
  have hO2:=ticked_out hO ((j:Int)+1)
  have F2:=CoreM.goodB_ok (c:=(C.ticked ((j:Int)+1)).2.2) (by cases j with
   | zero=>exact g3
   | succ i=>unfold CoreM.ticksB at g3;simp only [Bool.and_eq_true] at g3;exact g3.1.1) hO2
  have ej:((j+1:Nat):Int)=(j:Int)+1:=by omega
  rw [ej]
  refine Av ?_;conv=>whnf
  refine Ac ((by omega)) ?_;conv=>whnf
  refine Av ?_;conv=>whnf
  refine Aa rfl r2 rfl ?_;conv=>whnf
  refine ACalls.mono (tick_two (N+5) (by omega) ip2 dk.ok ((j:Int)+1)) ?_
  rintro _ h4 ⟨u,rfl,ox4,rfl,ok4,ip4,kk4⟩
  conv=>whnf
  refine Ak (0,1) (outCells out0 ox0) rfl fun b5 h5 n5 s5 k5=>?_;conv=>whnf
  refine Ae rfl rfl rfl (k5) rfl (outCells (C.ticked ((j:Int)+1)).2.1 ox4) rfl fun h6 t6 r5 a6 e6=>?_;conv=>whnf
  have s6:=a6 _ s5 n5
  have mv6:∀ b (t:Tag) y,t.1∉[N+1,N+1+1]→h3 b=some (t,y)→h6 b=some (t,y):=fun b t y ht e=>s6 _ _ (kk4 _ _ _ ht e)
  have im6:=im2.move (h':=h6) fun b t y ht e=>mv6 _ _ _ (by simp <;> omega) e
  have r62:=mv6 _ _ _ l1 r2
  refine Aa rfl r62 rfl ?_;conv=>whnf
  refine ACalls.mono (rtick_two (N+6) (by omega) im6 dk ((j:Int)+1)) ?_
  rintro _ h7 ⟨u,rfl,ox7,rfl,ok7,im7,kk7⟩
  conv=>whnf
  refine Ak (0,1) (outCells out0 ox0) rfl fun b7 h8 n8 s8 k8=>?_;conv=>whnf
  refine Ae rfl rfl rfl (k8) rfl (outCells (C.ticked ((j:Int)+1)).2.1 ox7) rfl fun h9 t9 r7 a9 e9=>?_;conv=>whnf
  have s9:=a9 _ s8 n8
  have mv9:∀ b (t:Tag) y,t.1∉[N+3,N+3+1]→h6 b=some (t,y)→h9 b=some (t,y):=fun b t y ht e=>s9 _ _ (kk7 _ _ _ ht e)
  have z2:=mv9 _ _ _ l2 r62
  have ip9:=ip4.move (h':=h9) fun b t y ht e=>mv9 _ _ _ (by simp <;> omega) (s6 _ _ e)
  have oka:=ok4.move (h':=h9) fun b t y ht e=>mv9 _ _ _ (by simp <;> omega) (s6 _ _ e)
  have im9:=im7.move (h':=h9) fun b t y ht e=>s9 _ _ e
  have okb:=ok7.move (h':=h9) fun b t y ht e=>s9 _ _ e
  refine Ab rfl z2 rfl rfl ?_
  refine Ab rfl (mv9 _ _ _ l2 r5) rfl rfl ?_
  refine Ab rfl r7 rfl rfl ?_;conv=>whnf
  refine ACalls.mono (answered_any ip9 im9 F2 (OutM.smallB_ok g2) oka okb (by omega) (by simp) _) ?_
  rintro _ h10 ⟨rfl,kk10⟩
  conv=>whnf
  refine Ag (by omega) (by omega) ((by omega:(j:Int)+1-1=(j:Int))) ?_;conv=>whnf
  refine ⟨⟨_,j,_,Au ⟨rfl,rfl,trivial⟩,by omega,hO2,g3,hT,ip9.move fun b t y ht e=>kk10 _ _ _ (by simp <;> omega) e,im9.move fun b t y ht e=>kk10 _ _ _ (by simp <;> omega) e,kk10 _ _ _ (by simp) z2,fun b t y ht e=>?_⟩,?_⟩
  ·have e:=kkC _ _ _ ht e
   simp only [ow,List.mem_cons,List.not_mem_nil,or_false,not_or] at ht
   exact kk10 _ _ _ (by simp <;> omega) (mv9 _ _ _ (by simp <;> omega) (mv6 _ _ _ (by simp <;> omega) e))
  ·show (j:Int).toNat<((j:Int)+1).toNat
   omega
end
def hist0:Hist:={first:=14,led:=fun _=>0,ll:=fun _=>[],ini:=fun _=>[],q:=fun _ _=>false,acc:=fun _ _=>0}
def gh0 (size:Int):Gh:={size:=size,lim:=10,H:=hist0,tm:=fun _=>0,vt:=fun _ _=>0,cand:=fun _ _=>[]}
theorem new_eq (n d:Int):cnew n 14 saved0 d=⟨n,14,0,0,snap0,lnew 0 0,0,0,0,waits d,10,0,five0,five0,five0,0,0,[],out0⟩:=rfl
theorem wld0 {size:Int} (h3:3≤size) (h5:size≤5):Wld (gh0 size):=by
 refine ⟨⟨fun t h=>absurd rfl h,fun t h=>absurd rfl h,fun t _ _ h=>absurd rfl h,fun t _ _ h=>absurd rfl h,fun t _ _ h=>absurd rfl h,fun t h=>absurd rfl h,fun t _ h=>absurd rfl h,fun t _ _ h=>absurd rfl h⟩,rfl,h3,h5,fun t h=>absurd rfl h,fun _ _=>rfl,fun _ _=>Nat.le_refl _,fun _ _ h=>absurd h (Nat.lt_irrefl _),fun _ _=>rfl,fun t _ h=>absurd rfl h,fun _ _ h=>absurd rfl h,fun _ e h=>?_,fun _ k e h=>?_,fun t s h h'=>?_,fun _ _ _=>?_,fun _=>?_,?_⟩
 ·cases h
 ·cases h
 ·exact absurd h'.symm h
 ·show (0:Int)≤10;omega
 ·show (((([]:List Abs)).length:Nat):Int)≤10;simp
 ·show (10:Int)≤100000000;omega
theorem idl0 {size:Int} (h3:3≤size) (h5:size≤5) {n:Int} (n1:1≤n) (n2:n≤size):Idl (gh0 size) n saved0 (cnew n 14 saved0 n) []:=by
 obtain ⟨w1,w2⟩:=waits_in (d:=n) (by omega)
 rw [new_eq]
 have ge:∀ (k:Nat) (e:Abs),([]:List Abs)[k]? = some e→False:=fun k e h=>by cases h
 refine ⟨?_,rfl,rfl⟩
 exact {
  n1:=n1
  n2:=n2
  self:=rfl
  first:=rfl
  tm:=rfl
  t0:=Int.le_refl 0
  rep:=⟨Int.le_refl 0,Nat.le_refl 0,rfl,rfl,fun k e h=>(ge k e h).elim⟩
  si:=rfl
  s0:=fun _=>rfl
  s1:=fun h=>absurd h (Int.lt_irrefl 0)
  sd:=Nat.zero_le _
  good:=⟨fun k e h=>(ge k e h).elim,fun j k e f _ h=>(ge j e h).elim⟩
  low:=fun k e h=>(ge k e h).elim
  eok:=fun e h=>by cases h
  al:=(by decide:(0:Int)≤10)
  vl:=fun u i _ h=>absurd rfl h
  c0:=Int.le_refl 0
  c1:=Int.le_refl 0
  com := .inl rfl
  vote:=rfl
  vr0:=Int.le_refl 0
  vr1:=(by decide:(0:Int)≤5)
  st := .inl rfl
  lead:=fun h=>by cases h
  lc:=fun h=>by cases h
  cand:=fun h=>by cases h
  idle:=fun _=>⟨rfl,rfl,rfl⟩
  q1:=(by decide:(0:Int)≤10)
  q2:=Int.le_refl 10
  w1:=by show 1≤waits n;omega
  w2:=w2
  b0:=fun h=>by cases h
  b1:=Int.le_refl 0
  b2:=(by decide:(0:Int)≤2)
  v1:=Int.le_refl 0
  v2:=(by decide:(0:Int)<64)
  r1:=Int.le_refl 0
  r2:=(by decide:(0:Int)≤10)
  rl:=(by decide:(0:Int)≤10)}
theorem new_get (size:Int) {n:Int} (n1:1≤n) (n5:n≤5):(newNetM size).cores.get n=cnew n 14 saved0 n∧(newNetM size).kept.get n=saved0:=by
 have:n=1∨n=2∨n=3∨n=4∨n=5:=by omega
 rcases this with rfl | rfl | rfl | rfl | rfl <;> exact ⟨rfl,rfl⟩
theorem netI0 (size:Int):NetI (gh0 (newNetM size).size) (newNetM size):=by
 have hb:=bring_in size 3 (by omega)
 have h3:3≤(newNetM size).size:=by show 3≤3+bring size 3;omega
 have h5:(newNetM size).size≤5:=by show 3+bring size 3≤5;omega
 refine ⟨wld0 h3 h5,rfl,fun n n1 n2=>⟨[],?_⟩,fun p hp=>(by cases hp),rfl,fun t o h=>(by cases h),fun i e h=>(by cases h),fun n n1 n2=>?_,fun n n1 n2=>?_,Int.le_refl 0⟩
 ·obtain ⟨e1,e2⟩:=new_get size n1 (show n≤5 by omega)
  rw [e1,e2];exact idl0 h3 h5 n1 n2
 ·obtain ⟨e1,e2⟩:=new_get size n1 (show n≤5 by omega)
  rw [e1,new_eq]
  show five0.get n≤0
  have:n=1∨n=2∨n=3∨n=4∨n=5:=by omega
  rcases this with rfl | rfl | rfl | rfl | rfl <;> exact Int.le_refl 0
 ·obtain ⟨e1,e2⟩:=new_get size n1 (show n≤5 by omega)
  rw [e1,new_eq]
  show five0.get n≤0
  have:n=1∨n=2∨n=3∨n=4∨n=5:=by omega
  rcases this with rfl | rfl | rfl | rfl | rfl <;> exact Int.le_refl 0
theorem awakeM_true:awakeM=true:=by decide +kernel
section
variable {h h':Heap} {N p:Nat} {x:NetM} {v:NX} {n:Int} {g:Gh}
structure NetAt (h:Heap) (N p:Nat) (x:NetM) (L:Int):Prop where
  mem:∃ v,NetX h N p x v
  inv:∃ g,NetI g x∧g.lim≤L
  draw:x.draw<100003
theorem drain_nil {k:Nat} {x:NetM} (h:x.mails=[]):x.drain k=x:=by
 cases k with
 | zero=>rfl
 | succ k=>unfold NetM.drain;rw [h]
theorem drain_cons {k:Nat} {x:NetM} (h:0<x.mails.length):x.drain (k+1)=(x.step ⟨0,0,0⟩).drain k:=by
 cases hm:x.mails with
 | nil=>rw [hm] at h;cases h
 | cons p l=>rw [NetM.drain,hm]
def sh0:SH:=⟨0,0,0,0,0,slv0,[],slv0,[]⟩
def five (a:Option Nat):Fv (Option Nat):=⟨a,a,a,a,a⟩
def nx0 (m1 m2:Nat):NX:=⟨five none,⟨sh0,sh0,sh0,sh0,sh0⟩,slv0,[],m1,[],0,m2,[],0,[]⟩
theorem sh0_ok (h:Heap) (t1 t2 t3:Tag):sh0.Ok h t1 t2 t3:=⟨⟨Sl.nil ..,by simp [sh0],by simp [sh0]⟩,Sl.nil ..⟩
theorem new_ok:([1,2,3,4,5].all fun n=>cnewOk n 14 saved0 n)=true:=by decide +kernel
structure NetB (h:Heap) (N p:Nat) (x:NetM) (m1 m2 K:Nat) (cp:Fv (Option Nat)):Prop where
  str:h p=some (row (N,0) (netCells x {nx0 m1 m2 with cp:=cp}) 41)
  c1:h m1=some ((N,1), .map #[] 0)
  c2:h m2=some ((N,2), .map #[] 0)
  cores:∀ n:Int,1≤n→n≤K→∃ b,cp.get n=some b∧PIdle h b (N+2*n.toNat) (cnew n 14 saved0 n)
  none:∀ n:Int,K<n→n≤5→cp.get n=none
theorem newNet_any (h:Heap) (N:Nat) (hN:N≠0) (size:Int) :
  ACalls PR 9 #[I size] h (fun r h'=>∃ p,r=Ptr p∧NetAt h' N p (newNetM size) 10∧3≤(newNetM size).size∧(newNetM size).size≤5∧Low N h h'):=by
 obtain ⟨b1,b2⟩:=bring_in size 3 (by omega)
 obtain ⟨x,hx⟩:∃ x,x=newNetM size:=⟨_,rfl⟩
 have hsz:x.size=3+bring size 3:=by rw [hx];rfl
 have t01:((0,1):Tag)≠(N,0):=fun c=>by have:=congrArg Prod.fst c;simp only at this;omega
 rw [← hx]
 refine As mix Tryz.func9 rfl rfl Tryz.ntmps9 Tryz.results9 rfl ?_;conv=>whnf
 refine C2 (bring_any size 3 (by omega) h) ?_;conv=>whnf
 refine Ag (by omega) (by omega) (hsz.symm) ?_;conv=>whnf
 refine AMakeMap.mk (N,1) fun m1 f1=>?_;conv=>whnf
 refine AMakeMap.mk (N,2) fun m2 f2=>?_;conv=>whnf
 obtain ⟨h2,hh2⟩:∃ h2,h2=(h.set m1 ((N,1), .map #[] 0)).set m2 ((N,2), .map #[] 0):=⟨_,rfl⟩
 have g2:h2 m2=some ((N,2), .map #[] 0):=by rw [hh2];exact Heap.set_same _ _ _
 have g1:h2 m1=some ((N,1), .map #[] 0):=by rw [hh2];exact f2.sub _ _ _ (Heap.set_same _ _ _)
 have s2:Sub h h2:=by rw [hh2];exact (f1.sub _).trans (f2.sub _)
 rw [← hh2]
 refine Al (N,0) (netCells x (nx0 m1 m2)) (by rw [hx];rfl) fun p h3 n3 s3 q3=>?_;conv=>whnf
 refine ALoop.mk (fun e h'=>∃ (e0:Env) (K:Nat) (cp:Fv (Option Nat)),e=updL 51 e0 [(3,Ptr p),(4,I ((K:Int)+1))]∧(K:Int)≤x.size∧NetB h' N p x m1 m2 K cp∧Low N h h') (fun e=>7-natOf (e 4))
  ⟨_,0,five none,Au ⟨rfl,rfl,trivial⟩,by omega,⟨q3,s3 _ _ g1,s3 _ _ g2,fun n n1 n2=>by omega,fun n n1 n2=>by
   have:n=1∨n=2∨n=3∨n=4∨n=5:=by omega
   rcases this with rfl | rfl | rfl | rfl | rfl <;> rfl⟩,(s2.trans s3).low⟩ ?_
 clear q3 g1 g2 s3 s2 n3
 rintro e h5 ⟨e0,K,cp,rfl,hK,B,L5⟩
 conv=>whnf
 refine Aa rfl B.str rfl ?_;conv=>whnf
 by_cases c:(K:Int)+1≤x.size
 ·refine Ac (c) ?_;conv=>whnf
  refine Aa rfl B.str rfl ?_;conv=>whnf
  have k5:(K:Int)+1≤5:=by omega
  have hcn:cnewOk ((K:Int)+1) 14 sh0.abs ((K:Int)+1)=true:=by
   have:K=0∨K=1∨K=2∨K=3∨K=4:=by omega
   have e:=List.all_eq_true.1 new_ok
   rcases this with rfl | rfl | rfl | rfl | rfl
   ·exact e 1 (by simp)
   ·exact e 2 (by simp)
   ·exact e 3 (by simp)
   ·exact e 4 (by simp)
   ·exact e 5 (by simp)
  refine ACalls.mono (New_any' (N+2*((K:Int)+1).toNat) (by omega) ((K:Int)+1) 14 (t1:=(0,0)) (t2:=(0,0)) (t3:=(0,0)) ((K:Int)+1) (sh0_ok h5 _ _ _) (by show 0≠_;omega) (by show 0≠_;omega) (by show 0≠_;omega) (fun e he=>(by cases he)) (by omega) (by omega) (by decide) (by decide) (by decide) (by decide)) ?_
  rintro _ h6 (⟨c1,_⟩ | ⟨_,b',rfl,id6,kk6⟩)
  ·rw [hcn] at c1;cases c1
  conv=>whnf
  have p6:=kk6.get (by simp;omega) B.str
  refine Aa rfl p6 rfl ?_;conv=>whnf
  refine Ac (rfl) ?_;conv=>whnf
  refine Af rfl rfl rfl (p6) rfl (netCells x {nx0 m1 m2 with cp:=cp}) rfl fun h7 t7 q7 a7 e7=>?_;conv=>whnf
  refine Aj (n:=6) (z:=1) (j:=K+1) (by omega) (by omega) rfl rfl ?_;conv=>whnf
  refine Af rfl rfl rfl q7 (by have:=core_cell x {nx0 m1 m2 with cp:=cp} (n:=(K:Int)+1) (by omega) k5;rw [show 0+2+(K+1)*1=2+((K:Int)+1).toNat by omega];exact Nat.ble_eq_true_of_le (List.getElem?_eq_some_iff.1 this).1) (netCells x {nx0 m1 m2 with cp:=cp.set ((K:Int)+1) (some b')}) (by rw [show 0+2+(K+1)*1=2+((K:Int)+1).toNat by omega];exact core_set x {nx0 m1 m2 with cp:=cp} (n:=(K:Int)+1) (by omega) k5 (some b')) fun h8 t8 q8 a8 e8=>?_;conv=>whnf
  have mv:∀ b (t:Tag) y,t≠(N,0)→h6 b=some (t,y)→h8 b=some (t,y):=fun b t y ht e=>t8 _ _ _ ht (t7 _ _ _ ht e)
  refine Ag (by omega) (by omega) ((by omega:(K:Int)+1+1=((K+1:Nat):Int)+1)) ?_;conv=>whnf
  refine ⟨⟨_,K+1,cp.set ((K:Int)+1) (some b'),Au ⟨rfl,rfl,trivial⟩,by omega,⟨q8,mv _ _ _ (by simp) (kk6.get (by simp;omega) B.c1),mv _ _ _ (by simp) (kk6.get (by simp;omega) B.c2),fun n n1 n2=>?_,fun n n1 n2=>?_⟩,?_⟩,?_⟩
  ·rw [Fv.get_set _ _ _ _ n1 (by omega)]
   by_cases z:n=(K:Int)+1
   ·rw [if_pos z]
    refine ⟨b',rfl,?_⟩
    rw [z]
    exact id6.move fun _ t _ ht e=>mv _ _ _ (fun c=>by rw [c] at ht;simp only at ht;omega) e
   ·rw [if_neg z]
    obtain ⟨b,hb,id⟩:=B.cores n n1 (by omega)
    exact ⟨b,hb,id.move fun _ t _ ht e=>mv _ _ _ (fun c=>by rw [c] at ht;simp only at ht;omega) (kk6 _ _ _ (by omega) e)⟩
  ·rw [Fv.get_set _ _ _ _ (by omega) n2,if_neg (by omega)]
   exact B.none n (by omega) n2
  ·exact L5.trans fun b t y ht e=>mv _ _ _ (fun c=>by rw [c] at ht;simp at ht) (kk6 _ _ _ (by omega) e)
  ·show 7-(((K+1:Nat):Int)+1).toNat<7-((K:Int)+1).toNat
   omega
 ·refine Ad (c) ?_;conv=>whnf
  have hKx:x.size=K:=by omega
  refine ⟨p,rfl,⟨⟨{nx0 m1 m2 with cp:=cp},?_⟩,?_,?_⟩,by omega,by omega,L5⟩
  ·refine ⟨hN,B.str,by omega,by omega,fun n n1 n2=>?_,fun n n1 n2=>B.none n (by omega) n2,fun n n1 n2=>?_, .inl ⟨rfl,rfl,rfl⟩,by rw [hx];rfl,(fun y hy=>by cases hy),by rw [hx];exact Nat.zero_le _,MapAt.empty B.c1,by rw [hx];rfl,MapAt.empty B.c2,rfl,by rw [hx];rfl,(fun y hy=>by cases hy)⟩
   ·obtain ⟨b,hb,id⟩:=B.cores n n1 (by omega)
    refine ⟨b,hb,?_⟩
    rw [hx,(new_get size n1 (by omega)).1];exact id
   ·have e:(nx0 m1 m2).ke.get n=sh0:=by
     have:n=1∨n=2∨n=3∨n=4∨n=5:=by omega
     rcases this with rfl | rfl | rfl | rfl | rfl <;> rfl
    refine ⟨?_,(N+12,0),Nat.le_refl _,?_⟩
    ·show ((nx0 m1 m2).ke.get n).abs=_
     rw [e,hx,(new_get size n1 n2).2];rfl
    ·show ((nx0 m1 m2).ke.get n).Ok _ _ _ _
     rw [e];exact sh0_ok _ _ _ _
  ·rw [hx];exact ⟨_,netI0 size,Int.le_refl _⟩
  ·rw [hx];exact (by decide:(0:Int)<100003)
end
section
variable {h h':Heap} {N p:Nat} {x:NetM} {v:NX} {n:Int} {g:Gh}
def awk:Nat→NetM×Int
  | 0=>((newNetM 0).rest 40,0)
  | k+1=>awakeM1 ((k:Int)+1) (awk k)
theorem awake_parts:(awk 3).1.fine=true∧1<(awk 3).2∧((awk 3).1.cores.get 1).commit=(awk 3).2∧((awk 3).1.cores.get 2).commit=(awk 3).2∧((awk 3).1.cores.get 3).commit=(awk 3).2:=by
 have h:=awakeM_true
 unfold awakeM at h
 have e:awakeM1 3 (awakeM1 2 (awakeM1 1 ((newNetM 0).rest 40,0)))=awk 3:=rfl
 rw [e] at h
 generalize awk 3=r at h ⊢
 simp only [Bool.and_eq_true,decide_eq_true_eq] at h
 exact ⟨h.1.1.1.1,h.1.1.1.2,h.1.1.2,h.1.2,h.2⟩
theorem awk_yes {k:Nat} (c:((awk k).1.cores.get ((k:Int)+1)).state=2):awk (k+1)=(((awk k).1.propose ((k:Int)+1) 1 [120]).rest 6,if ((awk k).1.cores.get ((k:Int)+1)).proposeE 1 [120]=0 then ((awk k).1.cores.get ((k:Int)+1)).log.last.1+1 else 0):=if_pos c
theorem awk_no {k:Nat} (c:¬ ((awk k).1.cores.get ((k:Int)+1)).state=2):awk (k+1)=awk k:=if_neg c
theorem Goes.at {y:NetM} {L d:Int} (k:NetI g x) (hg:g.lim≤L) (hd:x.draw<100003) (gs:Goes g x y d) (m:∃ v,NetX h N p y v):NetAt h N p y (L+d):=by
 obtain ⟨g',a,b⟩:=gs.out
 exact ⟨m,⟨g',a,by omega⟩,by rw [gs.draw];exact hd⟩
theorem awk_zero:awk 0=((newNetM 0).rest 40,0):=rfl
attribute [irreducible] awk
end
end Go.Ah
