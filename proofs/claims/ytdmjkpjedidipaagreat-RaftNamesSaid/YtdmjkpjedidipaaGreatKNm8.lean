/- Texts that the law leans on, one behind the other. -/
import Derived.Test.YtdmjkpjedidipaaGreatKNm7
namespace Go.Ah
open Go.Proofs
set_option linter.unusedVariables false
set_option linter.unusedSimpArgs false
set_option maxRecDepth 20000
set_option maxHeartbeats 16000000
theorem sameEnts_any {h:Heap} {t1 t2 t3 t4:Tag} {a b:Option Addr} {n m c d:Nat} {xs ys:List EH} (X:Ents h t1 t2 a n c xs) (Y:Ents h t3 t4 b m d ys) (hn:n≤4611686018427387904) :
  ACalls PR 110 #[.slice a n c, .slice b m d] h (fun v h'=>v = .bool (decide (xs.map EH.abs=ys.map EH.abs))∧h=h'):=by
 have hx:=X.len
 have hy:=Y.len
 refine Ar (As mix Tryz.func110 rfl rfl Tryz.ntmps110 Tryz.results110 rfl ?_);conv=>whnf
 by_cases hl:n=m
 ·subst hl
  refine Ad ((by simp)) ?_;conv=>whnf
  refine ALoop.mk (fun e h'=>h=h'∧∃ e0,∃ j:Nat,e=updL 68 e0 [(0, .slice a n c),(1, .slice b n d),(5,I j)]∧j≤n∧(xs.take j).map EH.abs=(ys.take j).map EH.abs) (fun e=>n-natOf (e 5))
   ⟨rfl,_,0,Au ⟨rfl,rfl,rfl,trivial⟩,by omega,rfl⟩ ?_
  rintro e _ ⟨rfl,e0,j,rfl,hj,hs⟩
  conv=>whnf
  by_cases hjn:j<n
  ·refine Ac (by omega) ?_;conv=>whnf
   obtain ⟨x,hxj⟩:∃ x,xs[j]? = some x:=⟨xs[j]'(by omega),by simp⟩
   obtain ⟨y,hyj⟩:∃ y,ys[j]? = some y:=⟨ys[j]'(by omega),by simp⟩
   obtain ⟨b1,o1,l1,E1,f1,ea,hb1,hc1⟩:=X.sl.pos (by omega)
   obtain ⟨b2,o2,l2,E2,f2,eb,hb2,hc2⟩:=Y.sl.pos (by omega)
   have gx:(l1.drop (o1+j*4)).take 4=x.cells:=by rw [part_of_take hc1 (by omega),encs_part hxj]
   have gy:(l2.drop (o2+j*4)).take 4=y.cells:=by rw [part_of_take hc2 (by omega),encs_part hyj]
   have gX:∀ i,i<4→l1[o1+j*4+i]? = x.cells[i]? := fun i hi=>by have:=congrArg (fun q:List Value=>q[i]?) gx;simpa [List.getElem?_take,List.getElem?_drop,hi] using this
   have gY:∀ i,i<4→l2[o2+j*4+i]? = y.cells[i]? := fun i hi=>by have:=congrArg (fun q:List Value=>q[i]?) gy;simpa [List.getElem?_take,List.getElem?_drop,hi] using this
   have sx:(xs.take (j+1)).map EH.abs=(xs.take j).map EH.abs++[x.abs]:=by rw [List.take_succ_eq_append_getElem (by omega),(List.getElem?_eq_some_iff.1 hxj).2,List.map_append];rfl
   have sy:(ys.take (j+1)).map EH.abs=(ys.take j).map EH.abs++[y.abs]:=by rw [List.take_succ_eq_append_getElem (by omega),(List.getElem?_eq_some_iff.1 hyj).2,List.map_append];rfl
   have hno:¬ x.abs=y.abs→decide (xs.map EH.abs=ys.map EH.abs)=false:=fun n=>decide_eq_false fun e=>n (by
    have:=congrArg (fun l:List Abs=>l[j]?) e
    simpa [hxj,hyj] using this)
   rw [ea,eb]
   refine Am (h) [] (Sub.refl _) (by decide +kernel) ?_;conv=>whnf
   refine Ai (n:=n) (z:=4) (j:=j) rfl hjn rfl rfl ?_;conv=>whnf
   refine Aa rfl hb1 (gX 0 (by omega)) ?_;conv=>whnf
   refine Ai (n:=n) (z:=4) (j:=j) rfl hjn rfl rfl ?_;conv=>whnf
   refine Aa rfl hb2 (gY 0 (by omega)) ?_;conv=>whnf
   by_cases c1:x.term=y.term
   ·refine Ad ((by simpa using c1)) ?_;conv=>whnf
    refine Ai (n:=n) (z:=4) (j:=j) rfl hjn rfl rfl ?_;conv=>whnf
    refine Aa rfl hb1 (gX 1 (by omega)) ?_;conv=>whnf
    refine Ai (n:=n) (z:=4) (j:=j) rfl hjn rfl rfl ?_;conv=>whnf
    refine Aa rfl hb2 (gY 1 (by omega)) ?_;conv=>whnf
    by_cases c2:x.index=y.index
    ·refine Ad ((by simpa using c2)) ?_;conv=>whnf
     refine Ai (n:=n) (z:=4) (j:=j) rfl hjn rfl rfl ?_;conv=>whnf
     refine Aa rfl hb1 (gX 2 (by omega)) ?_;conv=>whnf
     refine Ai (n:=n) (z:=4) (j:=j) rfl hjn rfl rfl ?_;conv=>whnf
     refine Aa rfl hb2 (gY 2 (by omega)) ?_;conv=>whnf
     by_cases c3:x.kind=y.kind
     ·refine Ad ((by simpa using c3)) ?_;conv=>whnf
      refine Ai (n:=n) (z:=4) (j:=j) rfl hjn rfl rfl ?_;conv=>whnf
      refine Aa rfl hb1 (gX 3 (by omega)) ?_;conv=>whnf
      refine Ai (n:=n) (z:=4) (j:=j) rfl hjn rfl rfl ?_;conv=>whnf
      refine Aa rfl hb2 (gY 3 (by omega)) ?_;conv=>whnf
      refine ACalls.mono (eqBytes_any h (X.good x (List.mem_of_getElem? hxj)) (Y.good y (List.mem_of_getElem? hyj)) (X.small x (List.mem_of_getElem? hxj))) ?_
      by_cases c4:x.data=y.data
      ·rw [decide_eq_true c4]
       rintro _ _ ⟨rfl,rfl⟩
       conv=>whnf
       refine ⟨Sub.refl _,?_⟩;conv=>whnf
       refine Ag (by omega) (by omega) ((by omega:(j:Int)+1=((j+1:Nat):Int))) ?_;conv=>whnf
       refine ⟨⟨rfl,_,j+1,Au ⟨rfl,rfl,rfl,trivial⟩,by omega,by rw [sx,sy,hs];unfold EH.abs;rw [c1,c2,c3,c4]⟩,?_⟩
       show n-(j+1)<n-j
       omega
      ·rw [decide_eq_false c4]
       rintro _ _ ⟨rfl,rfl⟩
       conv=>whnf
       refine ⟨Sub.refl _,?_⟩;conv=>whnf
       exact ⟨congrArg Value.bool (hno fun e=>c4 (congrArg (·.2.2.2) e)).symm,Sub.refl _⟩
     ·refine Ac ((by simpa using c3)) ?_;conv=>whnf
      exact ⟨congrArg Value.bool (hno fun e=>c3 (congrArg (·.2.2.1) e)).symm,Sub.refl _⟩
    ·refine Ac ((by simpa using c2)) ?_;conv=>whnf
     exact ⟨congrArg Value.bool (hno fun e=>c2 (congrArg (·.2.1) e)).symm,Sub.refl _⟩
   ·refine Ac ((by simpa using c1)) ?_;conv=>whnf
    exact ⟨congrArg Value.bool (hno fun e=>c1 (congrArg (·.1) e)).symm,Sub.refl _⟩
  ·refine Ad (by omega) ?_;conv=>whnf
   rw [List.take_of_length_le (by omega),List.take_of_length_le (by omega)] at hs
   exact ⟨congrArg Value.bool (decide_eq_true hs).symm,Sub.refl _⟩
 ·refine Ac ((by omega)) ?_;conv=>whnf
  exact ⟨congrArg Value.bool (decide_eq_false fun e=>hl (by have:=congrArg List.length e;simp only [List.length_map] at this;omega)).symm,Sub.refl _⟩
theorem sameSnap_any {h:Heap} {t1 t2:Tag} {i1 m1 r1 i2 m2 r2:Int} {d1 d2:SlV} {x1 x2:List Int} (s1:Sl h t1 d1.a d1.n d1.c 1 (bytesV x1)) (s2:Sl h t2 d2.a d2.n d2.c 1 (bytesV x2)) (hn:d1.n≤4611686018427387904) :
  ACalls PR 44 #[.agg #[I i1,I m1,I r1, .slice d1.a d1.n d1.c], .agg #[I i2,I m2,I r2, .slice d2.a d2.n d2.c]] h (fun v h'=>v = .bool (SnapM.same ⟨i1,m1,r1,x1⟩ ⟨i2,m2,r2,x2⟩)∧h=h'):=by
 refine Ar (As mix Tryz.func44 rfl rfl Tryz.ntmps44 Tryz.results44 rfl ?_);conv=>whnf
 refine Al (0,1) ([I i1,I m1,I r1, .slice d1.a d1.n d1.c]) rfl fun b1 h1 n1 q1 k1=>?_;conv=>whnf
 refine Al (0,1) ([I i2,I m2,I r2, .slice d2.a d2.n d2.c]) rfl fun b2 h2 n2 q2 k2=>?_;conv=>whnf
 have k12:=q2 _ _ k1
 have q12:=q1.trans q2
 unfold SnapM.same
 simp only []
 refine Aa rfl k12 rfl ?_
 refine Aa rfl k2 rfl ?_;conv=>whnf
 by_cases c1:i1=i2
 ·refine Ac (c1) ?_;conv=>whnf
  refine Aa rfl k12 rfl ?_
  refine Aa rfl k2 rfl ?_;conv=>whnf
  by_cases c2:m1=m2
  ·refine Ac (c2) ?_;conv=>whnf
   refine Aa rfl k12 rfl ?_
   refine Aa rfl k2 rfl ?_;conv=>whnf
   by_cases c3:r1=r2
   ·refine Ac (c3) ?_;conv=>whnf
    refine Aa rfl k12 rfl ?_
    refine Aa rfl k2 rfl ?_;conv=>whnf
    refine C2 (eqBytes_any h2 (Sl.sub s1 q12) (Sl.sub s2 q12) hn) ?_;conv=>whnf
    exact ⟨by simp [c1,c2,c3],q12⟩
   ·refine Ad (c3) ?_;conv=>whnf
    exact ⟨by simp [c3],q12⟩
  ·refine Ad (c2) ?_;conv=>whnf
   exact ⟨by simp [c2],q12⟩
 ·refine Ad (c1) ?_;conv=>whnf
  exact ⟨by simp [c1],q12⟩
theorem same_of (x y:PH):x.abs.same y.abs=(decide (x.kind=y.kind)&&(decide (x.src=y.src)&&(decide (x.dst=y.dst)&&(decide (x.term=y.term)&&(decide (x.index=y.index)&&(decide (x.logTerm=y.logTerm)&&(decide (x.commit=y.commit)&&(decide (x.ok=y.ok)&&(decide (x.hint=y.hint)&&(decide (x.es.map EH.abs=y.es.map EH.abs)&&SnapM.same ⟨x.si,x.st,x.sc,x.data⟩ ⟨y.si,y.st,y.sc,y.data⟩)))))))))):=by
 rw [Bool.eq_iff_iff]
 unfold PostM.same
 simp only [Bool.and_eq_true,decide_eq_true_iff]
 simp only [PH.abs,and_assoc]
theorem rsame_any {h:Heap} {t1 t2 t3 u1 u2 u3:Tag} {x y:PH} (kx:x.Ok h t1 t2 t3) (ky:y.Ok h u1 u2 u3) (hn:x.e.n≤4611686018427387904) (hd:x.d.n≤4611686018427387904) :
  ACalls PR 111 #[.agg x.cells.toArray, .agg y.cells.toArray] h (fun v h'=>v = .bool (x.abs.same y.abs)∧h=h'):=by
 rw [same_of]
 refine Ar (As mix Tryz.func111 rfl rfl Tryz.ntmps111 Tryz.results111 rfl ?_);conv=>whnf
 refine Al (0,1) (x.cells) rfl fun b1 h1 n1 q1 k1=>?_;conv=>whnf
 refine Al (0,1) (y.cells) rfl fun b2 h2 n2 q2 k2=>?_;conv=>whnf
 have k12:=q2 _ _ k1
 have q12:=q1.trans q2
 refine Aa rfl k12 rfl ?_
 refine Aa rfl k2 rfl ?_;conv=>whnf
 by_cases c1:(x.kind=y.kind)
 rotate_left
 ·refine Ad (c1) ?_;conv=>whnf
  exact ⟨by rw [decide_eq_false c1];simp,q12⟩
 rw [decide_eq_true c1,Bool.true_and]
 refine Ac (c1) ?_;conv=>whnf
 refine Aa rfl k12 rfl ?_
 refine Aa rfl k2 rfl ?_;conv=>whnf
 by_cases c2:(x.src=y.src)
 rotate_left
 ·refine Ad (c2) ?_;conv=>whnf
  exact ⟨by rw [decide_eq_false c2];simp,q12⟩
 rw [decide_eq_true c2,Bool.true_and]
 refine Ac (c2) ?_;conv=>whnf
 refine Aa rfl k12 rfl ?_
 refine Aa rfl k2 rfl ?_;conv=>whnf
 by_cases c3:(x.dst=y.dst)
 rotate_left
 ·refine Ad (c3) ?_;conv=>whnf
  exact ⟨by rw [decide_eq_false c3];simp,q12⟩
 rw [decide_eq_true c3,Bool.true_and]
 refine Ac (c3) ?_;conv=>whnf
 refine Aa rfl k12 rfl ?_
 refine Aa rfl k2 rfl ?_;conv=>whnf
 by_cases c4:(x.term=y.term)
 rotate_left
 ·refine Ad (c4) ?_;conv=>whnf
  exact ⟨by rw [decide_eq_false c4];simp,q12⟩
 rw [decide_eq_true c4,Bool.true_and]
 refine Ac (c4) ?_;conv=>whnf
 refine Aa rfl k12 rfl ?_
 refine Aa rfl k2 rfl ?_;conv=>whnf
 by_cases c5:(x.index=y.index)
 rotate_left
 ·refine Ad (c5) ?_;conv=>whnf
  exact ⟨by rw [decide_eq_false c5];simp,q12⟩
 rw [decide_eq_true c5,Bool.true_and]
 refine Ac (c5) ?_;conv=>whnf
 refine Aa rfl k12 rfl ?_
 refine Aa rfl k2 rfl ?_;conv=>whnf
 by_cases c6:(x.logTerm=y.logTerm)
 rotate_left
 ·refine Ad (c6) ?_;conv=>whnf
  exact ⟨by rw [decide_eq_false c6];simp,q12⟩
 rw [decide_eq_true c6,Bool.true_and]
 refine Ac (c6) ?_;conv=>whnf
 refine Aa rfl k12 rfl ?_
 refine Aa rfl k2 rfl ?_;conv=>whnf
 by_cases c7:(x.commit=y.commit)
 rotate_left
 ·refine Ad (c7) ?_;conv=>whnf
  exact ⟨by rw [decide_eq_false c7];simp,q12⟩
 rw [decide_eq_true c7,Bool.true_and]
 refine Ac (c7) ?_;conv=>whnf
 refine Aa rfl k12 rfl ?_
 refine Aa rfl k2 rfl ?_;conv=>whnf
 cases hx:x.ok with
 | true =>
  cases hy:y.ok with
  | true =>
   conv=>whnf
   rw [decide_eq_true (rfl:true=true),Bool.true_and]
   refine Aa rfl k12 rfl ?_
   refine Aa rfl k2 rfl ?_;conv=>whnf
   by_cases c8:(x.hint=y.hint)
   rotate_left
   ·refine Ad (c8) ?_;conv=>whnf
    exact ⟨by rw [decide_eq_false c8];simp,q12⟩
   rw [decide_eq_true c8,Bool.true_and]
   refine Ac (c8) ?_;conv=>whnf
   refine Aa rfl k12 rfl ?_
   refine Aa rfl k2 rfl ?_;conv=>whnf
   refine ACalls.mono (sameEnts_any (kx.es.sub q12) (ky.es.sub q12) hn) ?_
   cases ce:decide (x.es.map EH.abs=y.es.map EH.abs) with
   | false =>
    rintro _ _ ⟨rfl,rfl⟩
    conv=>whnf
    exact ⟨rfl,q12⟩
   | true =>
    rintro _ _ ⟨rfl,rfl⟩
    conv=>whnf
    refine Ab rfl k12 rfl rfl ?_
    refine Ab rfl k2 rfl rfl ?_;conv=>whnf
    refine C2 (sameSnap_any (d1:=x.d) (d2:=y.d) (kx.sd.sub q12) (ky.sd.sub q12) hd) ?_;conv=>whnf
    exact ⟨rfl,q12⟩
  | false =>
   conv=>whnf
   exact ⟨rfl,q12⟩
 | false =>
  cases hy:y.ok with
  | true =>
   conv=>whnf
   exact ⟨rfl,q12⟩
  | false =>
   conv=>whnf
   rw [decide_eq_true (rfl:false=false),Bool.true_and]
   refine Aa rfl k12 rfl ?_
   refine Aa rfl k2 rfl ?_;conv=>whnf
   by_cases c8:(x.hint=y.hint)
   rotate_left
   ·refine Ad (c8) ?_;conv=>whnf
    exact ⟨by rw [decide_eq_false c8];simp,q12⟩
   rw [decide_eq_true c8,Bool.true_and]
   refine Ac (c8) ?_;conv=>whnf
   refine Aa rfl k12 rfl ?_
   refine Aa rfl k2 rfl ?_;conv=>whnf
   refine ACalls.mono (sameEnts_any (kx.es.sub q12) (ky.es.sub q12) hn) ?_
   cases ce:decide (x.es.map EH.abs=y.es.map EH.abs) with
   | false =>
    rintro _ _ ⟨rfl,rfl⟩
    conv=>whnf
    exact ⟨rfl,q12⟩
   | true =>
    rintro _ _ ⟨rfl,rfl⟩
    conv=>whnf
    refine Ab rfl k12 rfl rfl ?_
    refine Ab rfl k2 rfl rfl ?_;conv=>whnf
    refine C2 (sameSnap_any (d1:=x.d) (d2:=y.d) (kx.sd.sub q12) (ky.sd.sub q12) hd) ?_;conv=>whnf
    exact ⟨rfl,q12⟩
theorem rnum_any (h:Heap) (n:Int):ACalls PR 186 #[I n] h (fun v h'=>v = .bool (numB n)∧h=h'):=by
 refine Ar (As mix Tryz.func186 rfl rfl Tryz.ntmps186 Tryz.results186 rfl ?_);conv=>whnf
 unfold numB
 by_cases c:0≤n
 ·refine Ac (c) ?_;conv=>whnf
  refine ACmp.dec ?_;conv=>whnf
  exact ⟨by simp [c],Sub.refl _⟩
 ·refine Ad (c) ?_;conv=>whnf
  exact ⟨by simp [c],Sub.refl _⟩
theorem rkept_any (h:Heap) (x:PH):ACalls PR 187 #[.agg x.cells.toArray] h (fun v h'=>v = .agg x.bare.cells.toArray∧h=h'):=by
 refine Ar ?_
 refine At mix Tryz.func187 rfl rfl Tryz.ntmps187 Tryz.results187 rfl ?_;conv=>whnf
 refine Al (0,1) (x.cells) rfl fun b1 h1 n1 s1 k1=>?_;conv=>whnf
 refine Ak (0,1) (post1.cells) rfl fun b2 h2 n2 s2 k2=>?_;conv=>whnf
 have k12:=s2 _ _ k1
 refine Aa rfl k12 rfl ?_
 refine Aa rfl k12 rfl ?_
 refine Aa rfl k12 rfl ?_
 refine Aa rfl k12 rfl ?_;conv=>whnf
 refine Ak (0,1) (post1.cells) rfl fun b3 h3 n3 s3 k3=>?_;conv=>whnf
 refine Ae rfl rfl rfl (k3) rfl (({post1 with kind:=x.kind,src:=x.src,dst:=x.dst,term:=x.term}:PH).cells) rfl fun h4 t4 k4 a4 e4=>?_;conv=>whnf
 have b13:b1≠b3:=fun c=>by rw [c,n3] at k12;cases k12
 have b23:b2≠b3:=fun c=>by rw [c,n3] at k2;cases k2
 have k14:=e4 _ _ b13 (s3 _ _ k12)
 have k24:=e4 _ _ b23 (s3 _ _ k2)
 have hb2:h b2=none:=by
  cases e:h b2 with
  | none=>rfl
  | some y=>rw [s1 _ _ e] at n2;cases n2
 have hb3:h b3=none:=by
  cases e:h b3 with
  | none=>rfl
  | some y=>rw [s2 _ _ (s1 _ _ e)] at n3;cases n3
 have s4:Sub h h4:=a4 h ((s1.trans s2).trans s3) hb3
 clear s1 s2 s3 k1 k2 k3 k12 n1 n2 n3 t4 a4 e4
 unfold PH.bare
 refine AIf.cut (fun e h'=>∃ e0,e=updL 73 e0 [(2,Ptr b2),(3,Ptr b3)]∧h' b3=some (row (0,1) (PH.cells (if x.kind=1 then {post1 with kind:=x.kind,src:=x.src,dst:=x.dst,term:=x.term,index:=x.index,logTerm:=x.logTerm}
  else if x.kind=2 then {post1 with kind:=x.kind,src:=x.src,dst:=x.dst,term:=x.term,ok:=x.ok}
  else if x.kind=3 then {post1 with kind:=x.kind,src:=x.src,dst:=x.dst,term:=x.term,index:=x.index,logTerm:=x.logTerm,commit:=x.commit,hint:=x.hint,e:=x.e,es:=x.es}
  else if x.kind=4 then {post1 with kind:=x.kind,src:=x.src,dst:=x.dst,term:=x.term,ok:=x.ok,index:=x.index,hint:=x.hint}
  else if x.kind=5 then {post1 with kind:=x.kind,src:=x.src,dst:=x.dst,term:=x.term,hint:=x.hint,si:=x.si,st:=x.st,sc:=x.sc,d:=x.d,data:=x.data}
  else if x.kind=6 then {post1 with kind:=x.kind,src:=x.src,dst:=x.dst,term:=x.term,index:=x.index,hint:=x.hint}
  else {post1 with kind:=x.kind,src:=x.src,dst:=x.dst,term:=x.term})) 49)∧∀ b y,b≠b3→h4 b=some y→h' b=some y) ?_ ?_
 rotate_left
 ·rintro e h5 ⟨e0,rfl,k5,mv⟩
  conv=>whnf
  refine Ab rfl k5 rfl rfl ?_;conv=>whnf
  refine Ae rfl rfl rfl ((mv _ _ b23 k24)) rfl (PH.cells (if x.kind=1 then {post1 with kind:=x.kind,src:=x.src,dst:=x.dst,term:=x.term,index:=x.index,logTerm:=x.logTerm} else if x.kind=2 then {post1 with kind:=x.kind,src:=x.src,dst:=x.dst,term:=x.term,ok:=x.ok} else if x.kind=3 then {post1 with kind:=x.kind,src:=x.src,dst:=x.dst,term:=x.term,index:=x.index,logTerm:=x.logTerm,commit:=x.commit,hint:=x.hint,e:=x.e,es:=x.es} else if x.kind=4 then {post1 with kind:=x.kind,src:=x.src,dst:=x.dst,term:=x.term,ok:=x.ok,index:=x.index,hint:=x.hint} else if x.kind=5 then {post1 with kind:=x.kind,src:=x.src,dst:=x.dst,term:=x.term,hint:=x.hint,si:=x.si,st:=x.st,sc:=x.sc,d:=x.d,data:=x.data} else if x.kind=6 then {post1 with kind:=x.kind,src:=x.src,dst:=x.dst,term:=x.term,index:=x.index,hint:=x.hint} else {post1 with kind:=x.kind,src:=x.src,dst:=x.dst,term:=x.term})) rfl fun hz tz kz az ez=>?_;conv=>whnf
  refine Ab rfl kz rfl rfl ?_;conv=>whnf
  refine ⟨rfl,?_⟩
  have s5:Sub h h5:=fun b y e=>mv b y (fun c=>by rw [c,hb3] at e;cases e) (s4 _ _ e)
  exact az h s5 hb2
 conv=>whnf
 refine Aa rfl k14 rfl ?_;conv=>whnf
 by_cases c1:x.kind=1
 ·refine Ac (c1) ?_;conv=>whnf
  rw [if_pos c1]
  refine Aa rfl k14 rfl ?_;conv=>whnf
  refine Af rfl rfl rfl (k4) rfl (({post1 with kind:=x.kind,src:=x.src,dst:=x.dst,term:=x.term,index:=x.index}:PH).cells) rfl fun h5 t5 k5 a5 e5=>?_;conv=>whnf
  refine Aa rfl (e5 _ _ b13 k14) rfl ?_;conv=>whnf
  refine Af rfl rfl rfl (k5) rfl (({post1 with kind:=x.kind,src:=x.src,dst:=x.dst,term:=x.term,index:=x.index,logTerm:=x.logTerm}:PH).cells) rfl fun h6 t6 k6 a6 e6=>?_;conv=>whnf
  exact ⟨_,Au ⟨rfl,rfl,trivial⟩,k6,fun b y n e=>e6 _ _ n (e5 _ _ n e)⟩
 refine Ad (c1) ?_;conv=>whnf
 rw [if_neg c1]
 by_cases c2:x.kind=2
 ·refine Ac (c2) ?_;conv=>whnf
  rw [if_pos c2]
  refine Aa rfl k14 rfl ?_;conv=>whnf
  refine Af rfl rfl rfl (k4) rfl (({post1 with kind:=x.kind,src:=x.src,dst:=x.dst,term:=x.term,ok:=x.ok}:PH).cells) rfl fun h5 t5 k5 a5 e5=>?_;conv=>whnf
  exact ⟨_,Au ⟨rfl,rfl,trivial⟩,k5,e5⟩
 refine Ad (c2) ?_;conv=>whnf
 rw [if_neg c2]
 by_cases c3:x.kind=3
 ·refine Ac (c3) ?_;conv=>whnf
  rw [if_pos c3]
  refine Aa rfl k14 rfl ?_;conv=>whnf
  refine Af rfl rfl rfl (k4) rfl (({post1 with kind:=x.kind,src:=x.src,dst:=x.dst,term:=x.term,index:=x.index}:PH).cells) rfl fun h5 t5 k5 a5 e5=>?_;conv=>whnf
  have k15:=e5 _ _ b13 k14
  refine Aa rfl k15 rfl ?_;conv=>whnf
  refine Af rfl rfl rfl (k5) rfl (({post1 with kind:=x.kind,src:=x.src,dst:=x.dst,term:=x.term,index:=x.index,logTerm:=x.logTerm}:PH).cells) rfl fun h6 t6 k6 a6 e6=>?_;conv=>whnf
  have k16:=e6 _ _ b13 k15
  refine Aa rfl k16 rfl ?_;conv=>whnf
  refine Af rfl rfl rfl (k6) rfl (({post1 with kind:=x.kind,src:=x.src,dst:=x.dst,term:=x.term,index:=x.index,logTerm:=x.logTerm,commit:=x.commit}:PH).cells) rfl fun h7 t7 k7 a7 e7=>?_;conv=>whnf
  have k17:=e7 _ _ b13 k16
  refine Aa rfl k17 rfl ?_;conv=>whnf
  refine Af rfl rfl rfl (k7) rfl (({post1 with kind:=x.kind,src:=x.src,dst:=x.dst,term:=x.term,index:=x.index,logTerm:=x.logTerm,commit:=x.commit,hint:=x.hint}:PH).cells) rfl fun h8 t8 k8 a8 e8=>?_;conv=>whnf
  refine Aa rfl (e8 _ _ b13 k17) rfl ?_;conv=>whnf
  refine Af rfl rfl rfl (k8) rfl (({post1 with kind:=x.kind,src:=x.src,dst:=x.dst,term:=x.term,index:=x.index,logTerm:=x.logTerm,commit:=x.commit,hint:=x.hint,e:=x.e,es:=x.es}:PH).cells) rfl fun h9 t9 k9 a9 e9=>?_;conv=>whnf
  exact ⟨_,Au ⟨rfl,rfl,trivial⟩,k9,fun b y n e=>e9 _ _ n (e8 _ _ n (e7 _ _ n (e6 _ _ n (e5 _ _ n e))))⟩
 refine Ad (c3) ?_;conv=>whnf
 rw [if_neg c3]
 by_cases c4:x.kind=4
 ·refine Ac (c4) ?_;conv=>whnf
  rw [if_pos c4]
  refine Aa rfl k14 rfl ?_;conv=>whnf
  refine Af rfl rfl rfl (k4) rfl (({post1 with kind:=x.kind,src:=x.src,dst:=x.dst,term:=x.term,ok:=x.ok}:PH).cells) rfl fun h5 t5 k5 a5 e5=>?_;conv=>whnf
  have k15:=e5 _ _ b13 k14
  refine Aa rfl k15 rfl ?_;conv=>whnf
  refine Af rfl rfl rfl (k5) rfl (({post1 with kind:=x.kind,src:=x.src,dst:=x.dst,term:=x.term,ok:=x.ok,index:=x.index}:PH).cells) rfl fun h6 t6 k6 a6 e6=>?_;conv=>whnf
  refine Aa rfl (e6 _ _ b13 k15) rfl ?_;conv=>whnf
  refine Af rfl rfl rfl (k6) rfl (({post1 with kind:=x.kind,src:=x.src,dst:=x.dst,term:=x.term,ok:=x.ok,index:=x.index,hint:=x.hint}:PH).cells) rfl fun h7 t7 k7 a7 e7=>?_;conv=>whnf
  exact ⟨_,Au ⟨rfl,rfl,trivial⟩,k7,fun b y n e=>e7 _ _ n (e6 _ _ n (e5 _ _ n e))⟩
 refine Ad (c4) ?_;conv=>whnf
 rw [if_neg c4]
 by_cases c5:x.kind=5
 ·refine Ac (c5) ?_;conv=>whnf
  rw [if_pos c5]
  refine Aa rfl k14 rfl ?_;conv=>whnf
  refine Af rfl rfl rfl (k4) rfl (({post1 with kind:=x.kind,src:=x.src,dst:=x.dst,term:=x.term,hint:=x.hint}:PH).cells) rfl fun h5 t5 k5 a5 e5=>?_;conv=>whnf
  refine Ab rfl (e5 _ _ b13 k14) rfl rfl ?_;conv=>whnf
  refine Ae rfl rfl rfl (k5) rfl (({post1 with kind:=x.kind,src:=x.src,dst:=x.dst,term:=x.term,hint:=x.hint,si:=x.si,st:=x.st,sc:=x.sc,d:=x.d,data:=x.data}:PH).cells) rfl fun h6 t6 k6 a6 e6=>?_;conv=>whnf
  exact ⟨_,Au ⟨rfl,rfl,trivial⟩,k6,fun b y n e=>e6 _ _ n (e5 _ _ n e)⟩
 refine Ad (c5) ?_;conv=>whnf
 rw [if_neg c5]
 by_cases c6:x.kind=6
 ·refine Ac (c6) ?_;conv=>whnf
  rw [if_pos c6]
  refine Aa rfl k14 rfl ?_;conv=>whnf
  refine Af rfl rfl rfl (k4) rfl (({post1 with kind:=x.kind,src:=x.src,dst:=x.dst,term:=x.term,index:=x.index}:PH).cells) rfl fun h5 t5 k5 a5 e5=>?_;conv=>whnf
  refine Aa rfl (e5 _ _ b13 k14) rfl ?_;conv=>whnf
  refine Af rfl rfl rfl (k5) rfl (({post1 with kind:=x.kind,src:=x.src,dst:=x.dst,term:=x.term,index:=x.index,hint:=x.hint}:PH).cells) rfl fun h6 t6 k6 a6 e6=>?_;conv=>whnf
  exact ⟨_,Au ⟨rfl,rfl,trivial⟩,k6,fun b y n e=>e6 _ _ n (e5 _ _ n e)⟩
 refine Ad (c6) ?_;conv=>whnf
 rw [if_neg c6]
 exact ⟨_,Au ⟨rfl,rfl,trivial⟩,k4,fun _ _ _ e=>e⟩
theorem rlists_any {h:Heap} {t1 t2 t3:Tag} {x:PH} (k:x.Ok h t1 t2 t3) (hi:numB x.index=true) (hn:x.e.n≤4611686018427387904) :
  ACalls PR 188 #[.agg x.cells.toArray] h (fun v h'=>v = .bool (decide (x.es.length≤8)&&entriesMay x.term x.index x.logTerm (x.es.map EH.abs))∧h=h'):=by
 have hl:=k.es.len
 have hi':0≤x.index∧x.index≤9007199254740991:=by simpa [numB] using hi
 obtain ⟨R,hR⟩:∃ R,R=entriesMay x.term x.index x.logTerm (x.es.map EH.abs):=⟨_,rfl⟩
 rw [← hR,hl]
 refine Ar (As mix Tryz.func188 rfl rfl Tryz.ntmps188 Tryz.results188 rfl ?_);conv=>whnf
 refine Al (0,1) (x.cells) rfl fun b1 h1 n1 s1 k1=>?_;conv=>whnf
 refine Aa rfl k1 rfl ?_;conv=>whnf
 by_cases c8:x.e.n≤8
 rotate_left
 ·refine Ac ((by omega)) ?_;conv=>whnf
  exact ⟨by rw [decide_eq_false c8];rfl,s1⟩
 rw [decide_eq_true c8,Bool.true_and]
 refine Ad ((by omega)) ?_;conv=>whnf
 refine Aa rfl k1 rfl ?_;conv=>whnf
 refine ALoop.mk (fun e h'=>Sub h1 h'∧∃ e0,∃ j:Nat,∃ tm:Int,e=updL 69 e0 [(1,Ptr b1),(3,I tm),(4,I j)]∧j≤x.e.n ∧
   entriesMay x.term (x.index+j) tm ((x.es.drop j).map EH.abs)=R) (fun e=>x.e.n-natOf (e 4))
  ⟨Sub.refl _,_,0,x.logTerm,Au ⟨rfl,rfl,rfl,trivial⟩,by omega,by rw [hR];simp⟩ ?_
 rintro e h2 ⟨s2,e0,j,tm,rfl,hj,hm⟩
 conv=>whnf
 refine Aa rfl (s2 _ _ k1) rfl ?_;conv=>whnf
 by_cases hjn:j<x.e.n
 ·refine Ac (by omega) ?_;conv=>whnf
  obtain ⟨y,hy⟩:∃ y,x.es[j]? = some y:=⟨x.es[j]'(by omega),by simp⟩
  have my:=List.mem_of_getElem? hy
  have gy:=(k.es.good y my).len
  have gy:y.data.length=y.n:=by simpa [bytesV] using gy
  have hm2:entriesMay x.term (x.index+j) tm (y.abs::(x.es.drop (j+1)).map EH.abs)=R:=by
   rw [← hm,List.drop_eq_getElem_cons (show j<x.es.length by omega),(List.getElem?_eq_some_iff.1 hy).2];rfl
  have hm3:(decide (y.index=x.index+j+1)&&(numB y.index&&(decide (tm≤y.term∧y.term≤x.term)&&(decide (0≤y.kind∧y.kind≤2)&&(decide (y.data.length≤1200)&&entriesMay x.term (x.index+j+1) y.term ((x.es.drop (j+1)).map EH.abs))))))=R:=by
   have hm4:(decide (y.index=x.index+j+1)&&numB y.index&&decide (tm≤y.term∧y.term≤x.term)&&decide (0≤y.kind∧y.kind≤2)&&decide (y.data.length≤1200)&&entriesMay x.term (x.index+j+1) y.term ((x.es.drop (j+1)).map EH.abs))=R:=hm2
   rw [← hm4];simp only [Bool.and_assoc]
  obtain ⟨b,off,l,E,fz,ea,hb,hc⟩:=((k.es.sl.sub s1).sub s2).pos (by omega)
  have g0:(l.drop (off+j*4)).take 4=y.cells:=by rw [part_of_take hc (by omega),encs_part hy]
  refine Aa rfl (s2 _ _ k1) rfl ?_;conv=>whnf
  rw [ea]
  refine Ai (n:=x.e.n) (z:=4) (j:=j) rfl hjn rfl rfl ?_;conv=>whnf
  refine Ab rfl hb g0 rfl ?_;conv=>whnf
  refine Ak (0,1) (entry0z) rfl fun b5 h3 n3 s3 k3=>?_;conv=>whnf
  refine Ae rfl rfl rfl (k3) rfl (y.cells) rfl fun h4 t4 k4 a4 e4=>?_;conv=>whnf
  have s4:Sub h1 h4:=a4 h1 (s2.trans s3) (by
   cases e:h1 b5 with
   | none=>rfl
   | some y=>rw [s2 _ _ e] at n3;cases n3)
  have k14:=s4 _ _ k1
  refine Aa rfl k4 rfl ?_;conv=>whnf
  refine ACalls.mono (rnum_any h4 y.index) ?_
  cases c2:numB y.index with
  | false =>
   rintro _ _ ⟨rfl,rfl⟩
   conv=>whnf
   exact ⟨congrArg Value.bool (by rw [← hm3,c2];simp),s1.trans s4⟩
  | true =>
  rintro _ _ ⟨rfl,rfl⟩
  conv=>whnf
  refine Aa rfl k4 rfl ?_
  refine Aa rfl k14 rfl ?_;conv=>whnf
  refine Ag (by omega) (by omega) (rfl) ?_;conv=>whnf
  refine Ag (by omega) (by omega) (rfl) ?_;conv=>whnf
  by_cases c1:y.index=x.index+1+j
  rotate_left
  ·refine Ac ((by simpa using c1)) ?_;conv=>whnf
   have c1':=decide_eq_false (show ¬ (y.index=x.index+j+1) by omega)
   exact ⟨congrArg Value.bool (by rw [← hm3,c1'];simp),s1.trans s4⟩
  refine Ad ((by simpa using c1)) ?_;conv=>whnf
  refine Aa rfl k4 rfl ?_;conv=>whnf
  by_cases c3:tm≤y.term
  rotate_left
  ·refine Ac ((by omega)) ?_;conv=>whnf
   have c1':=decide_eq_false (show ¬ (tm≤y.term∧y.term≤x.term) from fun c=>c3 c.1)
   exact ⟨congrArg Value.bool (by rw [← hm3,c1'];simp),s1.trans s4⟩
  refine Ad ((by omega)) ?_;conv=>whnf
  refine Aa rfl k4 rfl ?_
  refine Aa rfl k14 rfl ?_;conv=>whnf
  by_cases c4:y.term≤x.term
  rotate_left
  ·refine Ac ((by omega)) ?_;conv=>whnf
   have c1':=decide_eq_false (show ¬ (tm≤y.term∧y.term≤x.term) from fun c=>c4 c.2)
   exact ⟨congrArg Value.bool (by rw [← hm3,c1'];simp),s1.trans s4⟩
  refine Ad ((by omega)) ?_;conv=>whnf
  refine Aa rfl k4 rfl ?_;conv=>whnf
  by_cases c5:0≤y.kind
  rotate_left
  ·refine Ac ((by omega)) ?_;conv=>whnf
   have c1':=decide_eq_false (show ¬ (0≤y.kind∧y.kind≤2) from fun c=>c5 c.1)
   exact ⟨congrArg Value.bool (by rw [← hm3,c1'];simp),s1.trans s4⟩
  refine Ad ((by omega)) ?_;conv=>whnf
  refine Aa rfl k4 rfl ?_;conv=>whnf
  by_cases c6:y.kind≤2
  rotate_left
  ·refine Ac ((by omega)) ?_;conv=>whnf
   have c1':=decide_eq_false (show ¬ (0≤y.kind∧y.kind≤2) from fun c=>c6 c.2)
   exact ⟨congrArg Value.bool (by rw [← hm3,c1'];simp),s1.trans s4⟩
  refine Ad ((by omega)) ?_;conv=>whnf
  refine Aa rfl k4 rfl ?_;conv=>whnf
  by_cases c7:y.n≤1200
  rotate_left
  ·refine Ac ((by omega)) ?_;conv=>whnf
   have c1':=decide_eq_false (show ¬ (y.data.length≤1200) by omega)
   exact ⟨congrArg Value.bool (by rw [← hm3,c1'];simp),s1.trans s4⟩
  refine Ad ((by omega)) ?_;conv=>whnf
  refine Aa rfl k4 rfl ?_;conv=>whnf
  refine Ag (by omega) (by omega) ((by omega:(j:Int)+1=((j+1:Nat):Int))) ?_;conv=>whnf
  refine ⟨⟨s4,_,j+1,y.term,Au ⟨rfl,rfl,rfl,trivial⟩,by omega,?_⟩,?_⟩
  ·rw [← hm3,c2,decide_eq_true (show y.index=x.index+j+1 by omega),decide_eq_true (show tm≤y.term∧y.term≤x.term from ⟨c3,c4⟩),decide_eq_true (show 0≤y.kind∧y.kind≤2 from ⟨c5,c6⟩),decide_eq_true (show y.data.length≤1200 by omega)]
   rw [show x.index+((j+1:Nat):Int)=x.index+j+1 by omega];rfl
  ·show x.e.n-(j+1)<x.e.n-j
   omega
 ·refine Ad (by omega) ?_;conv=>whnf
  obtain rfl:j=x.e.n:=by omega
  rw [List.drop_of_length_le (by omega)] at hm
  exact ⟨congrArg Value.bool (by rw [← hm];rfl),s1.trans s2⟩
theorem rsnapMay_any {h:Heap} {t1 t2 t3:Tag} {x:PH} (k:x.Ok h t1 t2 t3) (hc0 : -9223372036854775808≤x.sc) (hc1:x.sc≤9223372036854775807) :
  ACalls PR 189 #[.agg x.cells.toArray] h (fun v h'=>v = .bool x.abs.snapMay∧h=h'):=by
 have hdl:x.d.n=x.data.length:=by have:=k.sd.len;simpa [bytesV] using this.symm
 have hR:=snapMay_eq x
 generalize x.abs.snapMay=R at hR ⊢
 refine Ar (As mix Tryz.func189 rfl rfl Tryz.ntmps189 Tryz.results189 rfl ?_);conv=>whnf
 refine Al (0,1) (x.cells) rfl fun b1 h1 n1 s1 k1=>?_;conv=>whnf
 refine Ab rfl k1 rfl rfl ?_;conv=>whnf
 refine Ak (0,1) ([I 0,I 0,I 0, .slice none 0 0]) rfl fun b3 h2 n2 s2 k2=>?_;conv=>whnf
 refine Ae rfl rfl rfl (k2) rfl ([I x.si,I x.st,I x.sc, .slice x.d.a x.d.n x.d.c]) rfl fun h3 t3 k3 a3 e3=>?_;conv=>whnf
 have b13:b1≠b3:=fun c=>by rw [c,n2] at k1;cases k1
 have k13:=e3 _ _ b13 (s2 _ _ k1)
 have hb3:h b3=none:=by
  cases e:h b3 with
  | none=>rfl
  | some y=>rw [s1 _ _ e] at n2;cases n2
 have s3:Sub h h3:=a3 h (s1.trans s2) hb3
 refine Aa rfl k3 rfl ?_;conv=>whnf
 by_cases c1:(1≤x.si)
 rotate_left
 ·refine Ad (c1) ?_;conv=>whnf
  have c1':=decide_eq_false (show ¬ (1≤x.si∧x.si≤9007199254740991) from fun c=>by omega)
  exact ⟨congrArg Value.bool (by rw [hR,c1'];simp),s3⟩
 refine Ac (c1) ?_;conv=>whnf
 refine Aa rfl k3 rfl ?_;conv=>whnf
 refine ACalls.mono (rnum_any h3 x.si) ?_
 cases c2:numB x.si with
 | false =>
  rintro _ _ ⟨rfl,rfl⟩
  conv=>whnf
  have c1':=decide_eq_false (show ¬ (1≤x.si∧x.si≤9007199254740991) from fun c=>by unfold numB at c2;simp at c2;omega)
  exact ⟨congrArg Value.bool (by rw [hR,c1'];simp),s3⟩
 | true =>
 rintro _ _ ⟨rfl,rfl⟩
 conv=>whnf
 have c2':x.si≤9007199254740991:=by unfold numB at c2;simp at c2;omega
 refine Aa rfl k3 rfl ?_;conv=>whnf
 by_cases c3:(0≤x.st)
 rotate_left
 ·refine Ad (c3) ?_;conv=>whnf
  have c1':=decide_eq_false (show ¬ (0≤x.st∧x.st≤x.term) from fun c=>by omega)
  exact ⟨congrArg Value.bool (by rw [hR,c1'];simp),s3⟩
 refine Ac (c3) ?_;conv=>whnf
 refine Aa rfl k3 rfl ?_
 refine Aa rfl k13 rfl ?_;conv=>whnf
 by_cases c4:(x.st≤x.term)
 rotate_left
 ·refine Ad (c4) ?_;conv=>whnf
  have c1':=decide_eq_false (show ¬ (0≤x.st∧x.st≤x.term) from fun c=>by omega)
  exact ⟨congrArg Value.bool (by rw [hR,c1'];simp),s3⟩
 refine Ac (c4) ?_;conv=>whnf
 refine Aa rfl k3 rfl ?_;conv=>whnf
 by_cases c5:(x.sc > 0)
 rotate_left
 ·refine Ad (c5) ?_;conv=>whnf
  have c1':=decide_eq_false (show ¬ (x.sc % 2=0∧1≤x.sc∧x.sc≤63) from fun c=>by omega)
  exact ⟨congrArg Value.bool (by rw [hR,c1'];simp),s3⟩
 refine Ac (c5) ?_;conv=>whnf
 refine Aa rfl k3 rfl ?_;conv=>whnf
 by_cases c6:(x.sc<64)
 rotate_left
 ·refine Ad (c6) ?_;conv=>whnf
  have c1':=decide_eq_false (show ¬ (x.sc % 2=0∧1≤x.sc∧x.sc≤63) from fun c=>by omega)
  exact ⟨congrArg Value.bool (by rw [hR,c1'];simp),s3⟩
 refine Ac (c6) ?_;conv=>whnf
 refine Aa rfl k3 rfl ?_;conv=>whnf
 refine ⟨by omega,?_⟩
 refine Aq (Int.tmod_eq_emod_of_nonneg (by omega)) ?_;conv=>whnf
 by_cases c7:(x.sc % 2=0)
 rotate_left
 ·refine Ad (c7) ?_;conv=>whnf
  have c1':=decide_eq_false (show ¬ (x.sc % 2=0∧1≤x.sc∧x.sc≤63) from fun c=>by omega)
  exact ⟨congrArg Value.bool (by rw [hR,c1'];simp),s3⟩
 refine Ac (c7) ?_;conv=>whnf
 refine Aa rfl k3 rfl ?_;conv=>whnf
 refine ACmp.dec ?_;conv=>whnf
 refine ⟨congrArg Value.bool ?_,s3⟩
 rw [hR,decide_eq_true (show 1≤x.si∧x.si≤9007199254740991 from ⟨c1,c2'⟩),decide_eq_true (show 0≤x.st∧x.st≤x.term from ⟨c3,c4⟩),decide_eq_true (show x.sc % 2=0∧1≤x.sc∧x.sc≤63 by omega)]
 simp only [Bool.true_and]
 exact decide_eq_decide.2 (by omega)
theorem bare_ok {h:Heap} {t1 t2 t3:Tag} {x:PH} (k:x.Ok h t1 t2 t3):x.bare.Ok h t1 t2 t3∧x.bare.abs=x.abs.bare∧x.bare.e.n≤x.e.n∧x.bare.d.n≤x.d.n:=by
 unfold PH.bare PostM.bare
 have z:∀ {y:PH},y.e=slv0→y.es=[]→y.d=slv0→y.data=[]→y.Ok h t1 t2 t3:=fun a b c d=>⟨by rw [a,b];exact ⟨Sl.nil ..,by simp,by simp⟩,by rw [c,d];exact Sl.nil ..⟩
 have le:∀ {s t:SlV},s=slv0→s.n≤t.n:=fun a=>by rw [a];exact Nat.zero_le _
 by_cases c1:x.kind=1
 ·rw [if_pos c1,if_pos (show x.abs.kind=1 from c1)]
  exact ⟨z rfl rfl rfl rfl,rfl,le rfl,le rfl⟩
 rw [if_neg c1,if_neg (show ¬ x.abs.kind=1 from c1)]
 by_cases c2:x.kind=2
 ·rw [if_pos c2,if_pos (show x.abs.kind=2 from c2)]
  exact ⟨z rfl rfl rfl rfl,rfl,le rfl,le rfl⟩
 rw [if_neg c2,if_neg (show ¬ x.abs.kind=2 from c2)]
 by_cases c3:x.kind=3
 ·rw [if_pos c3,if_pos (show x.abs.kind=3 from c3)]
  exact ⟨⟨k.es,Sl.nil ..⟩,rfl,Nat.le_refl _,le rfl⟩
 rw [if_neg c3,if_neg (show ¬ x.abs.kind=3 from c3)]
 by_cases c4:x.kind=4
 ·rw [if_pos c4,if_pos (show x.abs.kind=4 from c4)]
  exact ⟨z rfl rfl rfl rfl,rfl,le rfl,le rfl⟩
 rw [if_neg c4,if_neg (show ¬ x.abs.kind=4 from c4)]
 by_cases c5:x.kind=5
 ·rw [if_pos c5,if_pos (show x.abs.kind=5 from c5)]
  exact ⟨⟨⟨Sl.nil ..,by simp [post1],by simp [post1]⟩,k.sd⟩,rfl,le rfl,Nat.le_refl _⟩
 rw [if_neg c5,if_neg (show ¬ x.abs.kind=5 from c5)]
 by_cases c6:x.kind=6
 ·rw [if_pos c6,if_pos (show x.abs.kind=6 from c6)]
  exact ⟨z rfl rfl rfl rfl,rfl,le rfl,le rfl⟩
 rw [if_neg c6,if_neg (show ¬ x.abs.kind=6 from c6)]
 exact ⟨z rfl rfl rfl rfl,rfl,le rfl,le rfl⟩
theorem same_comm (a b:PostM):a.same b=b.same a:=by
 rw [Bool.eq_iff_iff]
 unfold PostM.same SnapM.same
 simp only [Bool.and_eq_true,decide_eq_true_iff]
 constructor
 ·rintro ⟨⟨h1,h2,h3,h4,h5,h6,h7,h8,h9,h10⟩,h11,h12,h13,h14⟩
  exact ⟨⟨h1.symm,h2.symm,h3.symm,h4.symm,h5.symm,h6.symm,h7.symm,h8.symm,h9.symm,h10.symm⟩,h11.symm,h12.symm,h13.symm,h14.symm⟩
 ·rintro ⟨⟨h1,h2,h3,h4,h5,h6,h7,h8,h9,h10⟩,h11,h12,h13,h14⟩
  exact ⟨⟨h1.symm,h2.symm,h3.symm,h4.symm,h5.symm,h6.symm,h7.symm,h8.symm,h9.symm,h10.symm⟩,h11.symm,h12.symm,h13.symm,h14.symm⟩
theorem rCheck_any {h:Heap} {t1 t2 t3:Tag} {x:PH} (k:x.Ok h t1 t2 t3) (hc0 : -9223372036854775808≤x.sc) (hc1:x.sc≤9223372036854775807) (hn:x.e.n≤4611686018427387904) (hd:x.d.n≤4611686018427387904) :
  ACalls PR 158 #[.agg x.cells.toArray] h (fun v h'=>v=I (if x.abs.check=true then 0 else 2)∧h=h'):=by
 have hR:=check_eq x
 generalize x.abs.check=R at hR ⊢
 rw [List.length_map] at hR
 refine Ar (As mix Tryz.func158 rfl rfl Tryz.ntmps158 Tryz.results158 rfl ?_);conv=>whnf
 refine Al (0,1) (x.cells) rfl fun b1 h1 n1 s1 k1=>?_;conv=>whnf
 have q1:x.Ok h1 t1 t2 t3:=⟨k.es.sub s1,k.sd.sub s1⟩
 refine Aa rfl k1 rfl ?_;conv=>whnf
 by_cases a1:(x.kind<1)
 ·refine Ac (a1) ?_;conv=>whnf
  have c1':=decide_eq_false (show ¬ (1≤x.kind∧x.kind≤6) from fun c=>by omega)
  exact ⟨congrArg I (by rw [if_neg];rw [hR,c1'];simp),s1⟩
 refine Ad (a1) ?_;conv=>whnf
 refine Aa rfl k1 rfl ?_;conv=>whnf
 by_cases a2:(x.kind > 6)
 ·refine Ac (a2) ?_;conv=>whnf
  have c1':=decide_eq_false (show ¬ (1≤x.kind∧x.kind≤6) from fun c=>by omega)
  exact ⟨congrArg I (by rw [if_neg];rw [hR,c1'];simp),s1⟩
 refine Ad (a2) ?_;conv=>whnf
 refine Aa rfl k1 rfl ?_;conv=>whnf
 by_cases a3:(x.src<1)
 ·refine Ac (a3) ?_;conv=>whnf
  have c1':=decide_eq_false (show ¬ (1≤x.src∧x.src≤5∧1≤x.dst∧x.dst≤5∧x.src≠x.dst) from fun c=>by omega)
  exact ⟨congrArg I (by rw [if_neg];rw [hR,c1'];simp),s1⟩
 refine Ad (a3) ?_;conv=>whnf
 refine Aa rfl k1 rfl ?_;conv=>whnf
 by_cases a4:(x.src > 5)
 ·refine Ac (a4) ?_;conv=>whnf
  have c1':=decide_eq_false (show ¬ (1≤x.src∧x.src≤5∧1≤x.dst∧x.dst≤5∧x.src≠x.dst) from fun c=>by omega)
  exact ⟨congrArg I (by rw [if_neg];rw [hR,c1'];simp),s1⟩
 refine Ad (a4) ?_;conv=>whnf
 refine Aa rfl k1 rfl ?_;conv=>whnf
 by_cases a5:(x.dst<1)
 ·refine Ac (a5) ?_;conv=>whnf
  have c1':=decide_eq_false (show ¬ (1≤x.src∧x.src≤5∧1≤x.dst∧x.dst≤5∧x.src≠x.dst) from fun c=>by omega)
  exact ⟨congrArg I (by rw [if_neg];rw [hR,c1'];simp),s1⟩
 refine Ad (a5) ?_;conv=>whnf
 refine Aa rfl k1 rfl ?_;conv=>whnf
 by_cases a6:(x.dst > 5)
 ·refine Ac (a6) ?_;conv=>whnf
  have c1':=decide_eq_false (show ¬ (1≤x.src∧x.src≤5∧1≤x.dst∧x.dst≤5∧x.src≠x.dst) from fun c=>by omega)
  exact ⟨congrArg I (by rw [if_neg];rw [hR,c1'];simp),s1⟩
 refine Ad (a6) ?_;conv=>whnf
 refine Aa rfl k1 rfl ?_
 refine Aa rfl k1 rfl ?_;conv=>whnf
 by_cases a7:(x.src=x.dst)
 ·refine Ac (a7) ?_;conv=>whnf
  have c1':=decide_eq_false (show ¬ (1≤x.src∧x.src≤5∧1≤x.dst∧x.dst≤5∧x.src≠x.dst) from fun c=>by omega)
  exact ⟨congrArg I (by rw [if_neg];rw [hR,c1'];simp),s1⟩
 refine Ad (a7) ?_;conv=>whnf
 have A1:=decide_eq_true (show 1≤x.kind∧x.kind≤6 by omega)
 have A2:=decide_eq_true (show 1≤x.src∧x.src≤5∧1≤x.dst∧x.dst≤5∧x.src≠x.dst by omega)
 rw [A1,A2,Bool.true_and,Bool.true_and] at hR
 clear a1 a2 a3 a4 a5 a6 a7 A1 A2
 refine Aa rfl k1 rfl ?_;conv=>whnf
 refine ACalls.mono (rnum_any h1 (x.term)) ?_
 cases n1':numB (x.term) with
 | false =>
  rintro _ _ ⟨rfl,rfl⟩
  conv=>whnf
  exact ⟨congrArg I (by rw [if_neg];rw [hR,n1'];simp),s1⟩
 | true =>
 rintro _ _ ⟨rfl,rfl⟩
 conv=>whnf
 refine Aa rfl k1 rfl ?_;conv=>whnf
 refine ACalls.mono (rnum_any h1 (x.index)) ?_
 cases n2':numB (x.index) with
 | false =>
  rintro _ _ ⟨rfl,rfl⟩
  conv=>whnf
  exact ⟨congrArg I (by rw [if_neg];rw [hR,n2'];simp),s1⟩
 | true =>
 rintro _ _ ⟨rfl,rfl⟩
 conv=>whnf
 refine Aa rfl k1 rfl ?_;conv=>whnf
 refine ACalls.mono (rnum_any h1 x.logTerm) ?_
 cases n3':numB x.logTerm with
 | false =>
  rintro _ _ ⟨rfl,rfl⟩
  conv=>whnf
  have c1':=decide_eq_false (show ¬ (0≤x.logTerm∧x.logTerm≤x.term) from fun c=>by unfold numB at n1' n3';simp at n1' n3';omega)
  exact ⟨congrArg I (by rw [if_neg];rw [hR,c1'];simp),s1⟩
 | true =>
 rintro _ _ ⟨rfl,rfl⟩
 conv=>whnf
 refine Aa rfl k1 rfl ?_;conv=>whnf
 refine ACalls.mono (rnum_any h1 (x.commit)) ?_
 cases n4':numB (x.commit) with
 | false =>
  rintro _ _ ⟨rfl,rfl⟩
  conv=>whnf
  exact ⟨congrArg I (by rw [if_neg];rw [hR,n4'];simp),s1⟩
 | true =>
 rintro _ _ ⟨rfl,rfl⟩
 conv=>whnf
 refine Aa rfl k1 rfl ?_;conv=>whnf
 refine ACalls.mono (rnum_any h1 (x.hint)) ?_
 cases n5':numB (x.hint) with
 | false =>
  rintro _ _ ⟨rfl,rfl⟩
  conv=>whnf
  exact ⟨congrArg I (by rw [if_neg];rw [hR,n5'];simp),s1⟩
 | true =>
 rintro _ _ ⟨rfl,rfl⟩
 conv=>whnf
 refine Aa rfl k1 rfl ?_
 refine Aa rfl k1 rfl ?_;conv=>whnf
 by_cases a1:(x.logTerm > x.term)
 ·refine Ac (a1) ?_;conv=>whnf
  have c1':=decide_eq_false (show ¬ (0≤x.logTerm∧x.logTerm≤x.term) from fun c=>by omega)
  exact ⟨congrArg I (by rw [if_neg];rw [hR,c1'];simp),s1⟩
 refine Ad (a1) ?_;conv=>whnf
 have A1:=decide_eq_true (show 0≤x.logTerm∧x.logTerm≤x.term from by unfold numB at n3';simp at n3';omega)
 rw [n1',n2',n4',n5',A1] at hR
 simp only [Bool.true_and,Bool.and_true] at hR
 obtain ⟨k2,kb,kbn,kbd⟩:=bare_ok q1
 refine An (h1) [] ([0,2,1]++(List.range 17).map (3 + ·)) (Sub.refl _) (by decide +kernel) ?_;conv=>whnf
 refine Ab rfl k1 rfl rfl ?_
 refine Ab rfl k1 rfl rfl ?_;conv=>whnf
 refine C2 (rkept_any h1 x) ?_;conv=>whnf
 refine ⟨Sub.refl _,?_⟩;conv=>whnf
 refine ACalls.mono (rsame_any k2 q1 (by omega) (by omega)) ?_
 rw [kb,same_comm]
 cases d1:x.abs.same x.abs.bare with
 | false =>
  rintro _ _ ⟨rfl,rfl⟩
  conv=>whnf
  refine ⟨Sub.refl _,?_⟩;conv=>whnf
  exact ⟨congrArg I (by rw [if_neg];rw [hR,d1];simp),s1⟩
 | true =>
 rintro _ _ ⟨rfl,rfl⟩
 conv=>whnf
 refine ⟨Sub.refl _,?_⟩;conv=>whnf
 refine Ab rfl k1 rfl rfl ?_;conv=>whnf
 refine ACalls.mono (rlists_any q1 n2' hn) ?_
 cases e1:(decide (x.es.length≤8)&&entriesMay x.term x.index x.logTerm (x.es.map EH.abs)) with
 | false =>
  rintro _ _ ⟨rfl,rfl⟩
  conv=>whnf
  refine ⟨Sub.refl _,?_⟩;conv=>whnf
  exact ⟨congrArg I (by rw [if_neg];rw [hR,e1];simp),s1⟩
 | true =>
 rintro _ _ ⟨rfl,rfl⟩
 conv=>whnf
 refine ⟨Sub.refl _,?_⟩;conv=>whnf
 rw [d1,e1] at hR
 refine Aa rfl k1 rfl ?_;conv=>whnf
 by_cases k5:x.kind=5
 ·refine Ac (k5) ?_;conv=>whnf
  refine Ab rfl k1 rfl rfl ?_;conv=>whnf
  refine ACalls.mono (rsnapMay_any q1 hc0 hc1) ?_
  cases f1:x.abs.snapMay with
  | false =>
   rintro _ _ ⟨rfl,rfl⟩
   conv=>whnf
   refine ⟨Sub.refl _,?_⟩;conv=>whnf
   exact ⟨congrArg I (by rw [if_neg];rw [hR,f1,decide_eq_false (by simpa using k5)];simp),s1⟩
  | true =>
   rintro _ _ ⟨rfl,rfl⟩
   conv=>whnf
   refine ⟨Sub.refl _,?_⟩;conv=>whnf
   exact ⟨congrArg I (by rw [if_pos];rw [hR,f1];simp),s1⟩
 ·refine Ad (k5) ?_;conv=>whnf
  exact ⟨congrArg I (by rw [if_pos];rw [hR,decide_eq_true k5];simp),s1⟩
theorem rcrewEntry_any (h:Heap) {t:Tag} (e:EH) (g:e.Good h t) (hb:∀ x∈e.data,0≤x∧x<256) :
  ACalls PR 37 #[.agg e.cells.toArray] h (fun v h'=>v = .bool (decide (e.kind≠2) || crewOk e.abs)∧h=h'):=by
 have hl:e.data.length=e.n:=by have:=g.len;simpa [bytesV] using this
 refine Ar (As mix Tryz.func37 rfl rfl Tryz.ntmps37 Tryz.results37 rfl ?_);conv=>whnf
 refine Al (0,1) (e.cells) rfl fun b1 h1 n1 s1 k1=>?_;conv=>whnf
 have g1:=Sl.sub g s1
 refine Aa rfl k1 rfl ?_;conv=>whnf
 by_cases c0:e.kind≠2
 ·refine Ac (c0) ?_;conv=>whnf
  exact ⟨by rw [decide_eq_true c0];rfl,s1⟩
 refine Ad (c0) ?_;conv=>whnf
 rw [decide_eq_false c0,Bool.false_or]
 refine Aa rfl k1 rfl ?_;conv=>whnf
 by_cases c1:e.n=1
 ·refine Ac (by omega) ?_;conv=>whnf
  obtain ⟨x,hx⟩:∃ x,e.data=[x]:=by
   match hd:e.data,(show e.data.length=1 by omega) with
   | [x],_=>exact ⟨x,rfl⟩
  have hbx:=hb x (by rw [hx];simp)
  obtain ⟨b,off,l,E,fz,ea,hbk,hc⟩:=g1.pos (by omega)
  have g0:l[off+0*1]? = some (.int .u8 x):=by rw [get_of_take hc (by omega),hx];rfl
  refine Aa rfl k1 rfl ?_;conv=>whnf
  rw [ea]
  refine Ai (z:=1) (j:=0) rfl (by omega) rfl rfl ?_;conv=>whnf
  refine Aa rfl hbk g0 ?_;conv=>whnf
  refine AArith.as (i64_wrap (by omega) (by omega)) ?_;conv=>whnf
  refine C2 (refCheck_any _ x (by omega) (by omega)) ?_;conv=>whnf
  refine ACmp.dec ?_;conv=>whnf
  exact ⟨by simp [crewOk,EH.abs,hx],s1⟩
 ·refine Ad (by omega) ?_;conv=>whnf
  have:=crew_none (e:=e.abs) (by show e.data.length≠1;omega)
  exact ⟨by rw [this.2],s1⟩
theorem rtakes_any {h:Heap} {p o oo:Nat} {c:CoreM} {cx:CX} (kc:RX h p o oo c cx) {t1 t2 t3:Tag} {x:PH} (k:x.Ok h t1 t2 t3) (by_:∀ e∈x.es,∀ z∈e.data,0≤z∧z<256)
  (hc0 : -9223372036854775808≤x.sc) (hc1:x.sc≤9223372036854775807) (hn:x.e.n≤4611686018427387904) (hd:x.d.n≤4611686018427387904) :
  ACalls PR 91 #[Ptr p, .agg x.cells.toArray] h (fun v h'=>v = .bool (c.takes x.abs)∧h=h'):=by
 have hl:=k.es.len
 have hR:c.takes x.abs=(x.abs.check&&decide (x.dst=c.self)&&decide (0<x.term)&&(x.es.map EH.abs).all (fun e=>decide (1≤e.1))&&(decide (x.kind≠5) || decide (1≤x.st))&&crewsMay (x.es.map EH.abs)):=rfl
 generalize c.takes x.abs=R at hR ⊢
 refine Ar (As mix Tryz.func91 rfl rfl Tryz.ntmps91 Tryz.results91 rfl ?_);conv=>whnf
 refine Al (0,1) (x.cells) rfl fun b3 h1 n1 s1 k1=>?_;conv=>whnf
 have q1:x.Ok h1 t1 t2 t3:=⟨k.es.sub s1,k.sd.sub s1⟩
 have kc1:=kc.sub s1
 refine Am (h1) [] (Sub.refl _) (by decide +kernel) ?_;conv=>whnf
 refine Ab rfl k1 rfl rfl ?_;conv=>whnf
 refine ACalls.mono (rCheck_any q1 hc0 hc1 hn hd) ?_
 cases k0:x.abs.check with
 | false =>
  rintro _ _ ⟨rfl,rfl⟩
  conv=>whnf
  refine ⟨Sub.refl _,?_⟩;conv=>whnf
  refine Ac ((by simp)) ?_;conv=>whnf
  exact ⟨congrArg Value.bool (by rw [hR,k0];simp),s1⟩
 | true =>
 rintro _ _ ⟨rfl,rfl⟩
 conv=>whnf
 refine ⟨Sub.refl _,?_⟩;conv=>whnf
 refine Ad ((by simp)) ?_;conv=>whnf
 refine Aa rfl k1 rfl ?_
 refine Aa rfl kc1.str rfl ?_;conv=>whnf
 by_cases a1:x.dst=c.self
 rotate_left
 ·refine Ac (a1) ?_;conv=>whnf
  have c1':=decide_eq_false a1
  exact ⟨congrArg Value.bool (by rw [hR,c1'];simp),s1⟩
 refine Ad ((by simpa using a1)) ?_;conv=>whnf
 refine Aa rfl k1 rfl ?_;conv=>whnf
 by_cases a2:0<x.term
 rotate_left
 ·refine Ac ((by omega)) ?_;conv=>whnf
  have c1':=decide_eq_false a2
  exact ⟨congrArg Value.bool (by rw [hR,c1'];simp),s1⟩
 refine Ad ((by omega)) ?_;conv=>whnf
 refine Aa rfl k1 rfl ?_;conv=>whnf
 by_cases k5:x.kind=5
 ·refine Ac (k5) ?_;conv=>whnf
  refine Aa rfl k1 rfl ?_;conv=>whnf
  by_cases a3:1≤x.st
  ·refine Ad ((by omega)) ?_;conv=>whnf
   have SN':(decide (x.kind≠5) || decide (1≤x.st))=true:=by simp [a3]
   rw [k0,decide_eq_true a1,decide_eq_true a2,SN'] at hR
   simp only [Bool.true_and,Bool.and_true] at hR
   refine ALoop.mk (fun e h'=>h1=h'∧∃ e0,∃ j:Nat,e=updL 57 e0 [(3,Ptr b3),(5,I j)]∧j≤x.e.n∧R=(((x.es.drop j).map EH.abs).all (fun e=>decide (1≤e.1))&&crewsMay ((x.es.drop j).map EH.abs))) (fun e=>x.e.n-natOf (e 5))
    ⟨rfl,_,0,Au ⟨rfl,rfl,trivial⟩,by omega,by rw [List.drop_zero];exact hR⟩ ?_
   clear hR
   rintro e _ ⟨rfl,e0,j,rfl,hj,hR⟩
   conv=>whnf
   refine Aa rfl k1 rfl ?_;conv=>whnf
   by_cases hjn:j<x.e.n
   ·refine Ac (by omega) ?_;conv=>whnf
    obtain ⟨y,hy⟩:∃ y,x.es[j]? = some y:=⟨x.es[j]'(by omega),by simp⟩
    have my:=List.mem_of_getElem? hy
    have hdr:(x.es.drop j).map EH.abs=y.abs::(x.es.drop (j+1)).map EH.abs:=by
     rw [List.drop_eq_getElem_cons (show j<x.es.length by omega),(List.getElem?_eq_some_iff.1 hy).2];rfl
    have hR2:R=(decide (1≤y.term)&&((decide (y.kind≠2) || crewOk y.abs)&&(((x.es.drop (j+1)).map EH.abs).all (fun e=>decide (1≤e.1))&&crewsMay ((x.es.drop (j+1)).map EH.abs)))):=by
     rw [hR,hdr]
     show (decide (1≤y.term)&&_&&((decide (y.kind≠2) || crewOk y.abs)&&crewsMay _))=_
     simp only [Bool.and_assoc,Bool.and_left_comm]
    obtain ⟨b,off,l,E,fz,ea,hb,hc⟩:=q1.es.sl.pos (by omega)
    have g0:(l.drop (off+j*4)).take 4=y.cells:=by rw [part_of_take hc (by omega),encs_part hy]
    have gT:l[off+j*4]? = some (I y.term):=by have:=congrArg (fun q:List Value=>q[0]?) g0;simpa [List.getElem?_take,List.getElem?_drop,EH.cells] using this
    refine Aa rfl k1 rfl ?_;conv=>whnf
    rw [ea]
    refine Ai (n:=x.e.n) (z:=4) (j:=j) rfl hjn rfl rfl ?_;conv=>whnf
    refine Aa rfl hb gT ?_;conv=>whnf
    by_cases c1:1≤y.term
    rotate_left
    ·refine Ac ((by omega)) ?_;conv=>whnf
     exact ⟨congrArg Value.bool (by rw [hR2,decide_eq_false c1];rfl),s1⟩
    refine Ad ((by omega)) ?_;conv=>whnf
    refine Aa rfl k1 rfl ?_;conv=>whnf
    rw [ea]
    refine Ai (n:=x.e.n) (z:=4) (j:=j) rfl hjn rfl rfl ?_;conv=>whnf
    refine Ab rfl hb g0 rfl ?_;conv=>whnf
    refine ACalls.mono (rcrewEntry_any h1 y (q1.es.good y my) (by_ y my)) ?_
    cases c2:(decide (y.kind≠2) || crewOk y.abs) with
    | false =>
     rintro _ _ ⟨rfl,rfl⟩
     conv=>whnf
     exact ⟨congrArg Value.bool (by rw [hR2,c2];simp),s1⟩
    | true =>
    rintro _ _ ⟨rfl,rfl⟩
    conv=>whnf
    rw [decide_eq_true c1,c2,Bool.true_and,Bool.true_and] at hR2
    refine Ag (by omega) (by omega) ((by omega:(j:Int)+1=((j+1:Nat):Int))) ?_;conv=>whnf
    refine ⟨⟨rfl,_,j+1,Au ⟨rfl,rfl,trivial⟩,by omega,hR2⟩,?_⟩
    show x.e.n-(j+1)<x.e.n-j
    omega
   ·refine Ad (by omega) ?_;conv=>whnf
    rw [List.drop_of_length_le (by omega)] at hR
    exact ⟨congrArg Value.bool (by rw [hR];rfl),s1⟩
  ·refine Ac ((by omega)) ?_;conv=>whnf
   have SN':(decide (x.kind≠5) || decide (1≤x.st))=false:=by simp [a3,k5]
   exact ⟨congrArg Value.bool (by rw [hR,SN'];simp),s1⟩
 ·refine Ad (k5) ?_;conv=>whnf
  have SN':(decide (x.kind≠5) || decide (1≤x.st))=true:=by simp [k5]
  rw [k0,decide_eq_true a1,decide_eq_true a2,SN'] at hR
  simp only [Bool.true_and,Bool.and_true] at hR
  refine ALoop.mk (fun e h'=>h1=h'∧∃ e0,∃ j:Nat,e=updL 57 e0 [(3,Ptr b3),(5,I j)]∧j≤x.e.n∧R=(((x.es.drop j).map EH.abs).all (fun e=>decide (1≤e.1))&&crewsMay ((x.es.drop j).map EH.abs))) (fun e=>x.e.n-natOf (e 5))
   ⟨rfl,_,0,Au ⟨rfl,rfl,trivial⟩,by omega,by rw [List.drop_zero];exact hR⟩ ?_
  clear hR
  rintro e _ ⟨rfl,e0,j,rfl,hj,hR⟩
  conv=>whnf
  refine Aa rfl k1 rfl ?_;conv=>whnf
  by_cases hjn:j<x.e.n
  ·refine Ac (by omega) ?_;conv=>whnf
   obtain ⟨y,hy⟩:∃ y,x.es[j]? = some y:=⟨x.es[j]'(by omega),by simp⟩
   have my:=List.mem_of_getElem? hy
   have hdr:(x.es.drop j).map EH.abs=y.abs::(x.es.drop (j+1)).map EH.abs:=by
    rw [List.drop_eq_getElem_cons (show j<x.es.length by omega),(List.getElem?_eq_some_iff.1 hy).2];rfl
   have hR2:R=(decide (1≤y.term)&&((decide (y.kind≠2) || crewOk y.abs)&&(((x.es.drop (j+1)).map EH.abs).all (fun e=>decide (1≤e.1))&&crewsMay ((x.es.drop (j+1)).map EH.abs)))):=by
    rw [hR,hdr]
    show (decide (1≤y.term)&&_&&((decide (y.kind≠2) || crewOk y.abs)&&crewsMay _))=_
    simp only [Bool.and_assoc,Bool.and_left_comm]
   obtain ⟨b,off,l,E,fz,ea,hb,hc⟩:=q1.es.sl.pos (by omega)
   have g0:(l.drop (off+j*4)).take 4=y.cells:=by rw [part_of_take hc (by omega),encs_part hy]
   have gT:l[off+j*4]? = some (I y.term):=by have:=congrArg (fun q:List Value=>q[0]?) g0;simpa [List.getElem?_take,List.getElem?_drop,EH.cells] using this
   refine Aa rfl k1 rfl ?_;conv=>whnf
   rw [ea]
   refine Ai (n:=x.e.n) (z:=4) (j:=j) rfl hjn rfl rfl ?_;conv=>whnf
   refine Aa rfl hb gT ?_;conv=>whnf
   by_cases c1:1≤y.term
   rotate_left
   ·refine Ac ((by omega)) ?_;conv=>whnf
    exact ⟨congrArg Value.bool (by rw [hR2,decide_eq_false c1];rfl),s1⟩
   refine Ad ((by omega)) ?_;conv=>whnf
   refine Aa rfl k1 rfl ?_;conv=>whnf
   rw [ea]
   refine Ai (n:=x.e.n) (z:=4) (j:=j) rfl hjn rfl rfl ?_;conv=>whnf
   refine Ab rfl hb g0 rfl ?_;conv=>whnf
   refine ACalls.mono (rcrewEntry_any h1 y (q1.es.good y my) (by_ y my)) ?_
   cases c2:(decide (y.kind≠2) || crewOk y.abs) with
   | false =>
    rintro _ _ ⟨rfl,rfl⟩
    conv=>whnf
    exact ⟨congrArg Value.bool (by rw [hR2,c2];simp),s1⟩
   | true =>
   rintro _ _ ⟨rfl,rfl⟩
   conv=>whnf
   rw [decide_eq_true c1,c2,Bool.true_and,Bool.true_and] at hR2
   refine Ag (by omega) (by omega) ((by omega:(j:Int)+1=((j+1:Nat):Int))) ?_;conv=>whnf
   refine ⟨⟨rfl,_,j+1,Au ⟨rfl,rfl,trivial⟩,by omega,hR2⟩,?_⟩
   show x.e.n-(j+1)<x.e.n-j
   omega
  ·refine Ad (by omega) ?_;conv=>whnf
   rw [List.drop_of_length_le (by omega)] at hR
   exact ⟨congrArg Value.bool (by rw [hR];rfl),s1⟩
theorem takes_more {c:CoreM} {x:PH} (h:c.takes x.abs=true):entriesMay x.term x.index x.logTerm (x.es.map EH.abs)=true∧∀ e∈x.es,1≤e.term:=by
 rw [takes_eq] at h
 simp only [Bool.and_eq_true,Bool.not_eq_true',Bool.or_eq_false_iff] at h
 have h1:=h.1.1.1.1
 rw [check_eq] at h1
 simp only [Bool.and_eq_true] at h1
 refine ⟨h1.1.2.2,fun e he=>?_⟩
 have:=(List.any_eq_false.1 h.1.2.1) e he
 simp only [decide_eq_true_eq] at this
 omega
theorem rTake_any {h:Heap} {p o oo:Nat} {c:CoreM} (ap:Apart o oo) (k:RCore h p o oo c) (dk:DOk c) (x:PH) (g:Given h o oo x) (draw:Int) (hdn:x.d.n≤4611686018427387904) :
  ACalls PR 40 #[Ptr p, .agg x.cells.toArray,I draw] h (fun v h'=>((c.takes x.abs=false∨draw<0)∧v = .tuple #[.agg (outCells out0 ox0).toArray,I 2]∧Sub h h')∨(c.takes x.abs=true∧0≤draw∧∃ u,v = .tuple #[u,I 0]∧RTold p o oo (c.take x.abs draw) h u h')):=by
 have ok:=dk.ok
 have hxd:x.data.length=x.d.n:=g.ok.elim fun _ ⟨_,_,ok,_⟩=>ok.len.2
 refine At mix Tryz.func40 rfl rfl Tryz.ntmps40 Tryz.results40 rfl ?_;conv=>whnf
 refine Al (0,1) (x.cells) rfl fun b4 h1 n1 s1 k4=>?_;conv=>whnf
 refine Ak (0,1) (outCells out0 ox0) rfl fun b6 h2 n2 s2 k6=>?_;conv=>whnf
 have s12:=s1.trans s2
 have n2:h b6=none:=by
  cases e:h b6 with
  | none=>rfl
  | some y=>rw [s1 _ _ e] at n2;cases n2
 have k42:=s2 _ _ k4
 obtain ⟨cx,q⟩:=k
 have q:=q.sub s12
 have g2:=g.sub s12
 refine Av ?_;conv=>whnf
 refine Av ?_;conv=>whnf
 refine Ab rfl k42 rfl rfl ?_;conv=>whnf
 obtain ⟨⟨t1,t2,t3,okx,tn1,tn2,tn3⟩,hby,hsc0,hsc1,hn1⟩:=id g2
 refine ACalls.mono (rtakes_any q okx hby hsc0 hsc1 (by omega) hdn) ?_
 cases htk:c.takes x.abs with
 | false =>
  rintro _ _ ⟨rfl,rfl⟩
  conv=>whnf
  have WHY':false=false∨draw<0 := .inl rfl
  refine Ae rfl rfl rfl (k6) rfl (outCells out0 ox0) rfl fun h3 t3 k3 a3 e3=>?_;conv=>whnf
  refine Ab rfl k3 rfl rfl ?_;conv=>whnf
  exact .inl ⟨WHY',rfl,a3 h s12 n2⟩
 | true =>
 rintro _ _ ⟨rfl,rfl⟩
 conv=>whnf
 by_cases hd0:draw<0
 ·refine Ac (hd0) ?_;conv=>whnf
  have WHY':true=false∨draw<0 := .inr hd0
  refine Ae rfl rfl rfl (k6) rfl (outCells out0 ox0) rfl fun h3 t3 k3 a3 e3=>?_;conv=>whnf
  refine Ab rfl k3 rfl rfl ?_;conv=>whnf
  exact .inl ⟨WHY',rfl,a3 h s12 n2⟩
 refine Ad (hd0) ?_;conv=>whnf
 have ch:=takes_facts htk
 obtain ⟨hm,ht1⟩:=takes_more htk
 clear okx hby hsc0 hsc1 hn1
 refine ACalls.mono (rbegin_any ap.a ok.out ⟨_,q⟩) ?_;rintro _ h3 ⟨rfl,⟨cx3,q3⟩,kk3⟩;conv=>whnf
 have ne0:∀ {r:Nat},((0,r):Tag).1∉[o,o+1,oo]:=by have:=ap.c;have:=ap.d;simp;omega
 have KK3:Keeps [o,o+1,oo] h2 h3:=kk3.keeps (by simp)
 have g3:=g2.keeps KK3
 have k43:=KK3 _ _ _ ne0 k42
 have k63:=KK3 _ _ _ ne0 k6
 rw [CoreM.take_eq]
 have hled:c.led=(decide (c.state=2) || (decide (c.quiet<10)&&decide (c.head≠0))):=rfl
 refine Av ?_;conv=>whnf
 refine AIf.cut (fun e h'=>∃ e0,e=updL 132 e0 [(0,Ptr p),(2,I draw),(4,Ptr b4),(6,Ptr b6),(42, .bool (decide (x.kind=1)&&c.led))]∧h3=h') ?_ ?_
 ·conv=>whnf
  refine Aa rfl k43 rfl ?_;conv=>whnf
  by_cases e1:x.kind=1
  ·refine Ac (e1) ?_;conv=>whnf
   refine Aa rfl q3.str rfl ?_;conv=>whnf
   by_cases e2:c.state=2
   ·refine Ac (e2) ?_;conv=>whnf
    exact ⟨_,Au ⟨rfl,rfl,rfl,rfl,congrArg Value.bool (by rw [hled];simp [e1,e2]),trivial⟩,rfl⟩
   ·refine Ad (e2) ?_;conv=>whnf
    refine Aa rfl q3.str rfl ?_;conv=>whnf
    by_cases e3:c.quiet<10
    ·refine Ac (e3) ?_;conv=>whnf
     refine Aa rfl q3.str rfl ?_;conv=>whnf
     by_cases e4:c.head≠0
     ·refine Ac (e4) ?_;conv=>whnf
      exact ⟨_,Au ⟨rfl,rfl,rfl,rfl,congrArg Value.bool (by rw [hled];simp [e1,e3,e4]),trivial⟩,rfl⟩
     ·refine Ad (e4) ?_;conv=>whnf
      have e4':c.head=0:=by simpa using e4
      exact ⟨_,Au ⟨rfl,rfl,rfl,rfl,congrArg Value.bool (by rw [hled];simp [e2,e4']),trivial⟩,rfl⟩
    ·refine Ad (e3) ?_;conv=>whnf
     exact ⟨_,Au ⟨rfl,rfl,rfl,rfl,congrArg Value.bool (by rw [hled];simp [e2];omega),trivial⟩,rfl⟩
  ·refine Ad (e1) ?_;conv=>whnf
   exact ⟨_,Au ⟨rfl,rfl,rfl,rfl,congrArg Value.bool (by simp [e1]),trivial⟩,rfl⟩
 rintro e _ ⟨e0,rfl,rfl⟩
 cases hL:(decide (x.kind=1)&&c.led) with
 | true =>
  conv=>whnf
  rw [if_pos (by have:=Bool.and_eq_true_iff.1 hL;exact ⟨of_decide_eq_true this.1,this.2⟩)]
  have KC:RCore h3 p o oo c:=⟨_,q3⟩
  have KK:Keeps [o,o+1,oo] h3 h3:=Keeps.refl _ _
  refine ACalls.mono (rend_any ap.a ap.c ap.d KC) ?_;rintro _ h8 ⟨ox,rfl,o8,q8,kk8⟩;conv=>whnf
  refine Ae rfl rfl rfl ((kk8.get (Ne.symm ap.c) (KK _ _ _ ne0 k63))) rfl (outCells _ ox) rfl fun h9 t9 k9 a9 e9=>?_;conv=>whnf
  refine Ab rfl k9 rfl rfl ?_;conv=>whnf
  exact .inr ⟨rfl,by omega,_,rfl,rtold_end ap n2 ((s12.keeps _).trans (KK3.trans KK)) kk8 o8 q8 t9 e9⟩
 | false =>
 rw [if_neg (fun z=>by rw [decide_eq_true (show x.kind=1 from z.1),z.2] at hL;cases hL)]
 conv=>whnf
 obtain ⟨D,hD⟩:∃ D,D=if c.term<x.term then c.learn x.term else c:=⟨_,rfl⟩
 refine AIf.cut (fun e h'=>∃ e0,e=updL 132 e0 [(0,Ptr p),(2,I draw),(4,Ptr b4),(6,Ptr b6)]∧RCore h' p o oo D∧Keeps [o,o+1,oo] h3 h') ?_ ?_
 ·conv=>whnf
  refine Av ?_;conv=>whnf
  refine Am (h3) [] (Sub.refl _) (by decide +kernel) ?_;conv=>whnf
  refine Aa rfl k43 rfl ?_
  refine Aa rfl q3.str rfl ?_;conv=>whnf
  by_cases e1:c.term<x.term
  ·refine Ac (e1) ?_;conv=>whnf
   refine Aa rfl k43 rfl ?_;conv=>whnf
   refine ACalls.mono (rgreater_any ap.a ⟨_,q3⟩ x.term) ?_;rintro _ h4 ⟨rfl,k4',kk4⟩;conv=>whnf
   exact ⟨_,Au ⟨rfl,rfl,rfl,rfl,trivial⟩,by rw [hD,if_pos e1];exact k4',kk4.keeps (by simp)⟩
  ·refine Ad (e1) ?_;conv=>whnf
   exact ⟨_,Au ⟨rfl,rfl,rfl,rfl,trivial⟩,by rw [hD,if_neg e1];exact ⟨_,q3⟩,Keeps.refl _ _⟩
 rintro e h4 ⟨e1,rfl,⟨cx4,q4⟩,KK4⟩
 have g4:=g3.keeps KK4
 have k44:=KK4 _ _ _ ne0 k43
 have td:TOk D:=by
  rw [hD];split
  ·exact ok.t.learn _
  ·exact ok.t
 have dl:DLk D:=by
  rw [hD];split
  ·exact dk.lk.same rfl rfl rfl
  ·exact dk.lk
 have dbc:D.log.bi≤D.commit:=by
  rw [hD];split
  ·exact dk.bc
  ·exact dk.bc
 have hx1:=ch.s1;have hx2:=ch.s2
 conv=>whnf
 refine Av ?_;conv=>whnf
 refine Av ?_;conv=>whnf
 refine Am (h4) [] (Sub.refl _) (by decide +kernel) ?_;conv=>whnf
 refine Aa rfl k44 rfl ?_
 refine Aa rfl q4.str rfl ?_;conv=>whnf
 by_cases el:x.term<D.term
 ·have eDc:¬ c.term<x.term∧D=c:=by
   by_cases z:c.term<x.term
   ·rw [hD,if_pos z] at el;exact absurd el (Int.lt_irrefl _)
   ·exact ⟨z,by rw [hD,if_neg z]⟩
  refine Ac (el) ?_;conv=>whnf
  rw [show c.takeIn x.abs draw=D.refuse x.abs by rw [eDc.2] at el ⊢;exact if_pos el]
  have hop:D.out.posts.length≤1000000000:=by rw [td.o3];simp
  refine AIf.cut (fun e h'=>∃ e0,e=updL 132 e0 [(0,Ptr p),(4,Ptr b4),(6,Ptr b6)]∧RCore h' p o oo (if x.kind=1 then D.say x.src {post0 with kind:=2} else D)∧Keeps [o,o+1,oo] h4 h') ?_ ?_
  ·conv=>whnf
   refine Aa rfl k44 rfl ?_;conv=>whnf
   by_cases e1:x.kind=1
   ·refine Ac (e1) ?_;conv=>whnf
    rw [if_pos e1]
    refine Aa rfl k44 rfl ?_;conv=>whnf
    refine ACalls.mono (rsay_any ap.a ap.b ap.c ap.d ⟨_,q4⟩ x.src {post1 with kind:=2,dst:=x.src} rfl (made0 rfl rfl rfl rfl) hop) ?_;rintro _ h5 ⟨rfl,k5,kk5⟩;conv=>whnf
    exact ⟨_,Au ⟨rfl,rfl,rfl,trivial⟩,k5,kk5.mono (by simp)⟩
   ·refine Ad (e1) ?_;conv=>whnf
    rw [if_neg e1]
    exact ⟨_,Au ⟨rfl,rfl,rfl,trivial⟩,⟨_,q4⟩,Keeps.refl _ _⟩
  rintro e h5 ⟨e2,rfl,k5,KK5⟩
  have k45:=KK5 _ _ _ ne0 k44
  conv=>whnf
  refine AIf.cut (fun e h'=>∃ e0,e=updL 132 e0 [(0,Ptr p),(6,Ptr b6)]∧RCore h' p o oo (D.refuse x.abs)∧Keeps [o,o+1,oo] h3 h') ?_ ?_
  ·conv=>whnf
   refine Aa rfl k45 rfl ?_;conv=>whnf
   unfold CoreM.refuse
   by_cases e3:x.kind=3
   ·refine Ac (e3) ?_;conv=>whnf
    have e1:¬ x.kind=1:=by omega
    rw [if_neg e1] at k5
    refine Aa rfl k45 rfl ?_;conv=>whnf
    refine ACalls.mono (rsay_any ap.a ap.b ap.c ap.d k5 x.src {post1 with kind:=4,dst:=x.src} rfl (made0 rfl rfl rfl rfl) hop) ?_;rintro _ h6 ⟨rfl,k6',kk6⟩;conv=>whnf
    refine ⟨_,Au ⟨rfl,rfl,trivial⟩,?_,KK4.trans (KK5.trans (kk6.mono (by simp)))⟩
    rw [if_neg (show ¬ x.abs.kind=1 from e1),if_pos (show x.abs.kind=3 from e3)];exact k6'
   ·refine Ad (e3) ?_;conv=>whnf
    refine ⟨_,Au ⟨rfl,rfl,trivial⟩,?_,KK4.trans KK5⟩
    by_cases e1:x.kind=1
    ·rw [if_pos (show x.abs.kind=1 from e1)];rw [if_pos e1] at k5;exact k5
    ·rw [if_neg (show ¬ x.abs.kind=1 from e1),if_neg (show ¬ x.abs.kind=3 from e3)];rw [if_neg e1] at k5;exact k5
  rintro e h6 ⟨e3,rfl,KC,KK⟩
  conv=>whnf
  refine ACalls.mono (rend_any ap.a ap.c ap.d KC) ?_;rintro _ h8 ⟨ox,rfl,o8,q8,kk8⟩;conv=>whnf
  refine Ae rfl rfl rfl ((kk8.get (Ne.symm ap.c) (KK _ _ _ ne0 k63))) rfl (outCells _ ox) rfl fun h9 t9 k9 a9 e9=>?_;conv=>whnf
  refine Ab rfl k9 rfl rfl ?_;conv=>whnf
  exact .inr ⟨rfl,by omega,_,rfl,rtold_end ap n2 ((s12.keeps _).trans (KK3.trans KK)) kk8 o8 q8 t9 e9⟩
 refine Ad (el) ?_;conv=>whnf
 have hti:c.takeIn x.abs draw=D.take1 x.abs draw:=by
  unfold CoreM.takeIn
  by_cases z:c.term<x.term
  ·rw [if_neg (show ¬ x.abs.term<c.term by show ¬ x.term<c.term;omega),if_pos (show c.term<x.abs.term from z),hD,if_pos z];rfl
  ·rw [hD,if_neg z] at el ⊢
   rw [if_neg (show ¬ x.abs.term<c.term from el),if_neg (show ¬ c.term<x.abs.term from z)]
 rw [hti]
 refine AIf.cut (fun e h'=>∃ e0,e=updL 132 e0 [(0,Ptr p),(6,Ptr b6)]∧RCore h' p o oo (D.take1 x.abs draw)∧Keeps [o,o+1,oo] h4 h') ?_ ?_
 rotate_left
 ·rintro e h6 ⟨e3,rfl,KC,KK'⟩
  have KK:=KK4.trans KK'
  conv=>whnf
  refine ACalls.mono (rend_any ap.a ap.c ap.d KC) ?_;rintro _ h8 ⟨ox,rfl,o8,q8,kk8⟩;conv=>whnf
  refine Ae rfl rfl rfl ((kk8.get (Ne.symm ap.c) (KK _ _ _ ne0 k63))) rfl (outCells _ ox) rfl fun h9 t9 k9 a9 e9=>?_;conv=>whnf
  refine Ab rfl k9 rfl rfl ?_;conv=>whnf
  exact .inr ⟨rfl,by omega,_,rfl,rtold_end ap n2 ((s12.keeps _).trans (KK3.trans KK)) kk8 o8 q8 t9 e9⟩
 conv=>whnf
 refine Aa rfl k44 rfl ?_;conv=>whnf
 have ht1e:∀ {R:CoreM},D.take1 x.abs draw=R→∀ {h':Heap},RCore h' p o oo R→RCore h' p o oo (D.take1 x.abs draw):=fun e _ k=>by rw [e];exact k
 by_cases e1:x.kind=1
 ·refine Ac (e1) ?_;conv=>whnf
  refine Ab rfl k44 rfl rfl ?_;conv=>whnf
  refine ACalls.mono (rvote_any ap ⟨_,q4⟩ td.lk.lo x draw (by omega) (by rw [td.o3];simp)) ?_;rintro _ h5 ⟨rfl,k5,kk5⟩;conv=>whnf
  exact ⟨_,Au ⟨rfl,rfl,trivial⟩,ht1e (if_pos e1) k5,kk5.mono (by simp)⟩
 refine Ad (e1) ?_;conv=>whnf
 by_cases e2:x.kind=2
 ·refine Ac (e2) ?_;conv=>whnf
  refine Ab rfl k44 rfl rfl ?_;conv=>whnf
  refine ACalls.mono (rvoted_any ap ⟨_,q4⟩ dl td.s1 td.s2 td.v1 td.v2 x ch.s1 ch.s2 (by have:=td.es;omega) (by rw [td.o2];simp) (by rw [td.o3];simp)) ?_;rintro _ h5 ⟨rfl,k5,kk5⟩;conv=>whnf
  exact ⟨_,Au ⟨rfl,rfl,trivial⟩,ht1e ((if_neg e1).trans (if_pos e2)) k5,kk5⟩
 refine Ad (e2) ?_;conv=>whnf
 by_cases e3:x.kind=3
 ·refine Ac (e3) ?_;conv=>whnf
  refine Aa rfl q4.str rfl ?_;conv=>whnf
  by_cases s2:D.state≠2
  ·refine Ac (s2) ?_;conv=>whnf
   have hs2:¬ D.state=2:=s2
   refine Ab rfl k44 rfl rfl ?_;conv=>whnf
   refine ACalls.mono (rheard_any ap ⟨_,q4⟩ x draw (by omega)) ?_;rintro _ h5 ⟨rfl,k5,kk5⟩;conv=>whnf
   have k45:=kk5.get (Ne.symm ap.c) k44
   have g5:=g4.keeps (kk5.keeps (by simp))
   have tE:D.take1 x.abs draw=(if x.abs.kind=5 then (D.heardOf x.abs draw).install x.abs else (D.heardOf x.abs draw).append x.abs):=(if_neg e1).trans ((if_neg e2).trans ((if_pos (.inl e3)).trans (if_neg hs2)))
   refine Ab rfl k45 rfl rfl ?_;conv=>whnf
   refine ACalls.mono (rentries_any ap k5 td.lk.lo x g5 ch.ix.1 ch.ix.2 ch.el (fun e he=>by have:=ch.en e he;rw [given_len g5 e he] at this;exact this) hm ht1 ch.tm.2 (by show (D.log.es.length+8)*48≤_;have:=td.es;omega) (by show D.out.entries.length≤_;rw [td.o2];simp) (by show D.out.posts.length≤_;rw [td.o3];simp)) ?_;rintro _ h6 ⟨rfl,k6',kk6⟩;conv=>whnf
   exact ⟨_,Au ⟨rfl,rfl,trivial⟩,ht1e (tE.trans (if_neg (by show ¬ x.kind=5;omega))) k6',(kk5.keeps (by simp)).trans kk6⟩
  ·refine Ad (s2) ?_;conv=>whnf
   exact ⟨_,Au ⟨rfl,rfl,trivial⟩,ht1e ((if_neg e1).trans ((if_neg e2).trans ((if_pos (.inl e3)).trans (if_pos (by simpa using s2))))) ⟨_,q4⟩,Keeps.refl _ _⟩
 refine Ad (e3) ?_;conv=>whnf
 by_cases e5:x.kind=5
 ·refine Ac (e5) ?_;conv=>whnf
  refine Aa rfl q4.str rfl ?_;conv=>whnf
  by_cases s2:D.state≠2
  ·refine Ac (s2) ?_;conv=>whnf
   have hs2:¬ D.state=2:=s2
   refine Ab rfl k44 rfl rfl ?_;conv=>whnf
   refine ACalls.mono (rheard_any ap ⟨_,q4⟩ x draw (by omega)) ?_;rintro _ h5 ⟨rfl,k5,kk5⟩;conv=>whnf
   have k45:=kk5.get (Ne.symm ap.c) k44
   have g5:=g4.keeps (kk5.keeps (by simp))
   have tE:D.take1 x.abs draw=(if x.abs.kind=5 then (D.heardOf x.abs draw).install x.abs else (D.heardOf x.abs draw).append x.abs):=(if_neg e1).trans ((if_neg e2).trans ((if_pos (.inr e5)).trans (if_neg hs2)))
   refine Ab rfl k45 rfl rfl ?_;conv=>whnf
   obtain ⟨sn1,sn2⟩:=ch.sn e5
   refine ACalls.mono (rsnap_any ap k5 td.lk.lo dbc x g5 sn1 (by omega) (by show D.log.es.length*48≤_;have:=td.es;omega) (by show D.out.posts.length≤_;rw [td.o3];simp)) ?_;rintro _ h6 ⟨rfl,k6',kk6⟩;conv=>whnf
   exact ⟨_,Au ⟨rfl,rfl,trivial⟩,ht1e (tE.trans (if_pos e5)) k6',(kk5.keeps (by simp)).trans kk6⟩
  ·refine Ad (s2) ?_;conv=>whnf
   exact ⟨_,Au ⟨rfl,rfl,trivial⟩,ht1e ((if_neg e1).trans ((if_neg e2).trans ((if_pos (.inr e5)).trans (if_pos (by simpa using s2))))) ⟨_,q4⟩,Keeps.refl _ _⟩
 refine Ad (e5) ?_;conv=>whnf
 refine Aa rfl q4.str rfl ?_;conv=>whnf
 have e35:¬ (x.abs.kind=3∨x.abs.kind=5):=fun c=>c.elim e3 e5
 by_cases s2:D.state=2
 ·refine Ac (s2) ?_;conv=>whnf
  refine Ab rfl k44 rfl rfl ?_;conv=>whnf
  refine ACalls.mono (rtold_any ap ⟨_,q4⟩ dl td.nk td.mt td.s1 td.s2 x ch.s1 ch.s2 ch.ix.1 ch.ix.2 td.o1 td.rd (by rw [td.o3];simp)) ?_;rintro _ h5 ⟨rfl,k5,kk5⟩;conv=>whnf
  exact ⟨_,Au ⟨rfl,rfl,trivial⟩,ht1e ((if_neg e1).trans ((if_neg e2).trans ((if_neg e35).trans (if_pos s2)))) k5,kk5⟩
 ·refine Ad (s2) ?_;conv=>whnf
  exact ⟨_,Au ⟨rfl,rfl,trivial⟩,ht1e ((if_neg e1).trans ((if_neg e2).trans ((if_neg e35).trans (if_neg s2)))) ⟨_,q4⟩,Keeps.refl _ _⟩
theorem ls_bits:∀ k:Nat,k<32→ls k=[1,2,3,4,5].filter (fun n:Int=>decide (1≤n∧n≤5)&&bt k (n-1).toNat):=by decide +kernel
theorem ls_hasB (c:Int):ls (m5 c)=[1,2,3,4,5].filter (hasB c):=ls_bits _ (m5_lt c)
def CoreM.freshIf (was now index:Int) (x:CoreM) (n:Int):CoreM:=if (hasB now n && !hasB was n)=true then x.fresh1 index n else x
theorem fresh_five (was now index:Int) (d:CoreM):((ls (m5 now)).filter fun n => !hasB was n).foldl (CoreM.fresh1 index) d=[1,2,3,4,5].foldl (CoreM.freshIf was now index) d:=by
 rw [ls_hasB,List.filter_filter,List.foldl_filter]
 congr 1
 funext x n
 unfold CoreM.freshIf
 rw [Bool.and_comm]
theorem CoreM.propose_r (c:CoreM) (kind:Int) (data:List Int):c.propose kind data=(([1,2,3,4,5].foldl (CoreM.freshIf c.crewNow.1 (c.put kind data).crewNow.1 (c.log.last.1+1)) (c.put kind data)).sendAll).rank:=by
 rw [← fresh_five,← foldl_pick (P:=hasB c.crewNow.1) (f:=CoreM.fresh1 (c.log.last.1+1))]
 rfl
theorem five_take (j:Nat) (h:j<5):([1,2,3,4,5]:List Int).take (j+1)=([1,2,3,4,5]:List Int).take j++[(j:Int)+1]:=by
 have:j=0∨j=1∨j=2∨j=3∨j=4:=by omega
 rcases this with rfl | rfl | rfl | rfl | rfl <;> rfl
theorem rPropose_any {h:Heap} {p o oo:Nat} {c:CoreM} (ap:Apart o oo) (k:RCore h p o oo c) (dk:DOk c) (kind:Int) {t:Tag} {d:SlV} {data:List Int} (g:Sl h t d.a d.n d.c 1 (bytesV data)) (ht:t.1≠o) (hb:∀ z∈data,0≤z∧z<256) :
  ACalls PR 41 #[Ptr p,I kind, .slice d.a d.n d.c] h (fun v h'=>(c.proposeE kind data≠0∧v = .tuple #[I 0, .agg (outCells out0 ox0).toArray,I (c.proposeE kind data)]∧Sub h h') ∨
   (c.proposeE kind data=0∧∃ u,v = .tuple #[I (c.log.last.1+1),u,I 0]∧RTold p o oo (c.propose kind data) h u h')):=by
 have ok:=dk.ok
 obtain ⟨cx,k0⟩:=k
 have hdl:data.length=d.n:=by have:=g.len;simpa [bytesV] using this
 have hl:=ok.lk.lo.last
 have htp:=ok.lk.lo.top
 have hl0:=ok.lk.lo.lo
 have hm1:=ok.m1
 have hm2:=ok.m2
 have hes:=ok.es
 have hout:=ok.out
 obtain ⟨E,hE⟩:∃ E,E=c.proposeE kind data:=⟨_,rfl⟩
 have hE':=hE
 unfold CoreM.proposeE at hE'
 rw [← hE]
 refine At mix Tryz.func41 rfl rfl Tryz.ntmps41 Tryz.results41 rfl ?_;conv=>whnf
 refine Ak (0,1) (outCells out0 ox0) rfl fun b7 h1 n1 s1 k1=>?_;conv=>whnf
 have k:=k0.sub s1
 have g1:=g.sub s1
 refine Av ?_;conv=>whnf
 refine Aa rfl k.str rfl ?_;conv=>whnf
 by_cases c1:c.state≠2
 ·refine Ac (c1) ?_;conv=>whnf
  have HC:=hE'.trans (if_pos c1)
  refine Ae rfl rfl rfl (k1) rfl (outCells out0 ox0) rfl fun h3 t3 k3 a3 e3=>?_;conv=>whnf
  refine Ab rfl k3 rfl rfl ?_;conv=>whnf
  exact .inl ⟨by rw [HC];decide,by rw [HC];rfl,a3 h s1 n1⟩
 refine Ad (c1) ?_;conv=>whnf
 rw [if_neg c1] at hE'
 refine Av ?_;conv=>whnf
 refine AIf.cut (fun e h'=>∃ e0,e=updL 133 e0 [(0,Ptr p),(1,I kind),(2, .slice d.a d.n d.c),(7,Ptr b7),(28, .bool (decide (kind≠1∧kind≠2)))]∧h1=h') ?_ ?_
 ·conv=>whnf
  by_cases e1:kind≠1
  ·refine Ac (e1) ?_;conv=>whnf
   by_cases e2:kind≠2
   ·refine Ac (e2) ?_;conv=>whnf
    exact ⟨_,Au ⟨rfl,rfl,rfl,rfl,congrArg Value.bool (by simp [e1,e2]),trivial⟩,rfl⟩
   ·refine Ad (e2) ?_;conv=>whnf
    exact ⟨_,Au ⟨rfl,rfl,rfl,rfl,congrArg Value.bool (by simp at e2;simp [e2]),trivial⟩,rfl⟩
  ·refine Ad (e1) ?_;conv=>whnf
   exact ⟨_,Au ⟨rfl,rfl,rfl,rfl,congrArg Value.bool (by simp at e1;simp [e1]),trivial⟩,rfl⟩
 rintro e _ ⟨e0,rfl,rfl⟩
 by_cases c2:kind≠1∧kind≠2
 ·rw [decide_eq_true c2]
  conv=>whnf
  have HC:=hE'.trans (if_pos c2)
  refine Ae rfl rfl rfl (k1) rfl (outCells out0 ox0) rfl fun h3 t3 k3 a3 e3=>?_;conv=>whnf
  refine Ab rfl k3 rfl rfl ?_;conv=>whnf
  exact .inl ⟨by rw [HC];decide,by rw [HC];rfl,a3 h s1 n1⟩
 rw [decide_eq_false c2]
 rw [if_neg c2] at hE'
 conv=>whnf
 refine C2 (rlast_any k ok.lk.lo) ?_;conv=>whnf
 refine Av ?_;conv=>whnf
 refine AIf.cut (fun e h'=>∃ e0,e=updL 133 e0 [(0,Ptr p),(1,I kind),(2, .slice d.a d.n d.c),(7,Ptr b7),(9,I c.log.last.1),(41, .bool (decide (1200<data.length∨c.log.last.1=9007199254740991)))]∧h1=h') ?_ ?_
 ·conv=>whnf
  by_cases e1:1200<data.length
  ·refine Ac ((by omega)) ?_;conv=>whnf
   exact ⟨_,Au ⟨rfl,rfl,rfl,rfl,rfl,congrArg Value.bool (by simp [e1]),trivial⟩,rfl⟩
  ·refine Ad ((by omega)) ?_;conv=>whnf
   by_cases e2:c.log.last.1=9007199254740991
   ·refine Ac ((by omega)) ?_;conv=>whnf
    exact ⟨_,Au ⟨rfl,rfl,rfl,rfl,rfl,congrArg Value.bool (by simp [e2]),trivial⟩,rfl⟩
   ·refine Ad ((by omega)) ?_;conv=>whnf
    exact ⟨_,Au ⟨rfl,rfl,rfl,rfl,rfl,congrArg Value.bool (by simp [e1,e2]),trivial⟩,rfl⟩
 rintro e _ ⟨e1,rfl,rfl⟩
 by_cases c3:1200<data.length∨c.log.last.1=9007199254740991
 ·rw [decide_eq_true c3]
  conv=>whnf
  have HC:=hE'.trans (if_pos c3)
  refine Ae rfl rfl rfl (k1) rfl (outCells out0 ox0) rfl fun h3 t3 k3 a3 e3=>?_;conv=>whnf
  refine Ab rfl k3 rfl rfl ?_;conv=>whnf
  exact .inl ⟨by rw [HC];decide,by rw [HC];rfl,a3 h s1 n1⟩
 rw [decide_eq_false c3]
 rw [if_neg c3] at hE'
 have c3:¬ 1200<data.length∧¬ c.log.last.1=9007199254740991:=⟨fun z=>c3 (.inl z),fun z=>c3 (.inr z)⟩
 conv=>whnf
 refine Av ?_;conv=>whnf
 refine Aa rfl k.str rfl ?_;conv=>whnf
 refine Ag (by omega) (by omega) (rfl) ?_;conv=>whnf
 by_cases c5:64≤c.log.last.1-c.commit
 ·refine Ac (c5) ?_;conv=>whnf
  have HC:=hE'.trans (if_pos c5)
  refine Ae rfl rfl rfl (k1) rfl (outCells out0 ox0) rfl fun h3 t3 k3 a3 e3=>?_;conv=>whnf
  refine Ab rfl k3 rfl rfl ?_;conv=>whnf
  exact .inl ⟨by rw [HC];decide,by rw [HC];rfl,a3 h s1 n1⟩
 refine Ad (c5) ?_;conv=>whnf
 rw [if_neg c5] at hE'
 refine C2 (rcrew_any k dk.lk.lk.lo dk.lk.sy) ?_;conv=>whnf
 refine Av ?_;conv=>whnf
 obtain ⟨R,hR⟩:∃ R,R=(decide (kind=2) && !c.changes data):=⟨_,rfl⟩
 refine AIf.cut (fun e h'=>∃ e0,e=updL 133 e0 [(0,Ptr p),(1,I kind),(2, .slice d.a d.n d.c),(7,Ptr b7),(9,I c.log.last.1),(11,I c.crewNow.1),(84, .bool R)]∧h1=h') ?_ ?_
 ·conv=>whnf
  by_cases e1:kind=2
  ·refine Ac (e1) ?_;conv=>whnf
   rw [decide_eq_true e1,Bool.true_and] at hR
   unfold CoreM.changes at hR
   by_cases e2:d.n=1
   ·refine Ad (by omega) ?_;conv=>whnf
    obtain ⟨x,hx⟩:∃ x,data=[x]:=by
     match data,(show data.length=1 by omega) with
     | [x],_=>exact ⟨x,rfl⟩
    have hbx:=hb x (by rw [hx];simp)
    obtain ⟨b,off,l,E',fz,ea,hbk,hc⟩:=g1.pos (by omega)
    have g0:l[off+0*1]? = some (.int .u8 x):=by rw [get_of_take hc (by omega),hx];rfl
    have hn:=dk.lk.now
    rw [ea]
    refine Ai (z:=1) (j:=0) rfl (by omega) rfl rfl ?_;conv=>whnf
    refine Aa rfl hbk g0 ?_;conv=>whnf
    refine AArith.as (i64_wrap (by omega) (by omega)) ?_;conv=>whnf
    refine C2 (refChange_any h1 c.crewNow.1 x (by omega) (by omega) (by omega) (by omega)) ?_;conv=>whnf
    have hnum:crewNum (0,0,0,data)=x:=by rw [hx];rfl
    have hco:crewOk (0,0,0,data)=decide (cchk x=0):=by rw [hx];rfl
    rw [hnum,hco] at hR
    by_cases e3:chg c.crewNow.1 x=0
    ·refine Ad (by simpa using e3) ?_;conv=>whnf
     have hx0:cchk x=0:=by
      unfold chg at e3
      split at e3
      ·rename_i z;exact z.2.1
      ·exact absurd e3 (by decide)
     refine Aa rfl k.str rfl ?_;conv=>whnf
     by_cases e4:c.commit<c.crewNow.2
     ·refine Ac (e4) ?_;conv=>whnf
      exact ⟨_,Au ⟨rfl,rfl,rfl,rfl,rfl,rfl,congrArg Value.bool (by rw [hR];simp;omega),trivial⟩,rfl⟩
     ·refine Ad (e4) ?_;conv=>whnf
      refine ACalls.mono (rown_any k dk.lk.lk.lo) ?_
      rintro _ _ ⟨rfl,rfl⟩
      conv=>whnf
      exact ⟨_,Au ⟨rfl,rfl,rfl,rfl,rfl,rfl,congrArg Value.bool (by rw [hR];simp [hx0,e3];omega),trivial⟩,rfl⟩
    ·refine Ac (e3) ?_;conv=>whnf
     exact ⟨_,Au ⟨rfl,rfl,rfl,rfl,rfl,rfl,congrArg Value.bool (by rw [hR];simp [e3]),trivial⟩,rfl⟩
   ·refine Ac (by omega) ?_;conv=>whnf
    have hco:crewOk (0,0,0,data)=false:=(crew_none (e:=(0,0,0,data)) (by show data.length≠1;omega)).2
    exact ⟨_,Au ⟨rfl,rfl,rfl,rfl,rfl,rfl,congrArg Value.bool (by rw [hR,hco];simp),trivial⟩,rfl⟩
  ·refine Ad (e1) ?_;conv=>whnf
   exact ⟨_,Au ⟨rfl,rfl,rfl,rfl,rfl,rfl,congrArg Value.bool (by rw [hR];simp [e1]),trivial⟩,rfl⟩
 rintro e _ ⟨e2,rfl,rfl⟩
 have hRi:R=true↔(kind=2∧c.changes data=false):=by rw [hR];simp
 cases R with
 | true =>
  conv=>whnf
  have HC:=hE'.trans (if_pos (hRi.1 rfl))
  refine Ae rfl rfl rfl (k1) rfl (outCells out0 ox0) rfl fun h3 t3 k3 a3 e3=>?_;conv=>whnf
  refine Ab rfl k3 rfl rfl ?_;conv=>whnf
  exact .inl ⟨by rw [HC];decide,by rw [HC];rfl,a3 h s1 n1⟩
 | false =>
 rw [if_neg (fun z=>by have:=hRi.2 z;cases this)] at hE'
 have hch:kind=2→c.changes data=true:=fun z=>by
  cases hc:c.changes data with
  | true=>rfl
  | false=>have:=hRi.2 ⟨z,hc⟩;cases this
 conv=>whnf
 refine ACalls.mono (rbegin_any ap.a hout ⟨_,k⟩) ?_;rintro _ h2 ⟨rfl,k2,kk2⟩;conv=>whnf
 have g2:=g1.keep kk2 ht
 refine ACalls.mono (rput_any ap k2 ok.lk.lo (by omega) (by omega) kind g2 (by omega) (by rw [hout];simp [out0])) ?_;rintro _ h3 ⟨rfl,⟨cx3,k3⟩,kk3⟩;conv=>whnf
 have KK3:Keeps [o,o+1,oo] h1 h3:=(kk2.keeps (by simp)).trans kk3
 obtain ⟨dd,hdd⟩:∃ dd,dd=c.put kind data:=⟨_,rfl⟩
 obtain ⟨p1,p2,p3,p4,p5,p6,p7,p8⟩:=put_same c kind data
 have lk3:DLk dd:=by
  rw [hdd]
  refine dk.lk.put (by omega) fun hk=>⟨?_,hb⟩
  have:=hch hk
  unfold CoreM.changes at this
  simp only [Bool.and_eq_true] at this
  exact this.1.1.1
 rw [CoreM.propose_r,← hdd]
 rw [← hdd] at k3 p1 p2 p3 p4 p5 p6 p7 p8
 have hnow:=lk3.now
 have hwas:=dk.lk.now
 refine C2 (rcrew_any k3 lk3.lk.lo lk3.sy) ?_;conv=>whnf
 obtain ⟨F,hF⟩:∃ F,F=CoreM.freshIf c.crewNow.1 dd.crewNow.1 (c.log.last.1+1):=⟨_,rfl⟩
 rw [← hF]
 refine ALoop.mk (fun e h'=>∃ e0,∃ j:Nat,e=updL 133 e0 [(0,Ptr p),(7,Ptr b7),(11,I c.crewNow.1),(13,I (c.log.last.1+1)),(14,I dd.crewNow.1),(16,I ((j:Int)+1))]∧j≤5∧RCore h' p o oo (([1,2,3,4,5].take j).foldl F dd)∧Keeps [o,o+1,oo] h1 h') (fun e=>6-natOf (e 16))
  ⟨_,0,Au ⟨rfl,rfl,rfl,rfl,rfl,rfl,trivial⟩,by omega,⟨_,k3⟩,KK3⟩ ?_
 rintro e h4 ⟨e0,j,rfl,hj,⟨cx4,k4⟩,kk4⟩
 conv=>whnf
 refine Av ?_;conv=>whnf
 by_cases hj5:j<5
 ·refine Ac (by omega) ?_;conv=>whnf
  obtain ⟨e4,he4⟩:∃ e4,e4=([1,2,3,4,5].take j).foldl F dd:=⟨_,rfl⟩
  have hst:([1,2,3,4,5].take (j+1)).foldl F dd=F e4 ((j:Int)+1):=by rw [five_take j hj5,List.foldl_append,← he4];rfl
  rw [← he4] at k4
  refine AIf.cut (fun e h'=>∃ e0,e=updL 133 e0 [(0,Ptr p),(7,Ptr b7),(11,I c.crewNow.1),(13,I (c.log.last.1+1)),(14,I dd.crewNow.1),(16,I ((j:Int)+1))]∧RCore h' p o oo (F e4 ((j:Int)+1))∧Keeps [o,o+1,oo] h4 h') ?_ ?_
  rotate_left
  ·rintro e h5 ⟨e5,rfl,k5,kk5⟩
   conv=>whnf
   refine Ag (by omega) (by omega) ((by omega:(j:Int)+1+1=((j+1:Nat):Int)+1)) ?_;conv=>whnf
   refine ⟨⟨_,j+1,Au ⟨rfl,rfl,rfl,rfl,rfl,rfl,trivial⟩,by omega,by rw [hst];exact k5,kk4.trans kk5⟩,?_⟩
   show 6-(((j+1:Nat):Int)+1).toNat<6-((j:Int)+1).toNat
   omega
  ·conv=>whnf
   have hFe:F e4 ((j:Int)+1)=if (hasB dd.crewNow.1 ((j:Int)+1) && !hasB c.crewNow.1 ((j:Int)+1))=true then e4.fresh1 (c.log.last.1+1) ((j:Int)+1) else e4:=by rw [hF];rfl
   rw [hFe]
   refine AIf.cut (fun e h'=>∃ e0,e=updL 133 e0 [(0,Ptr p),(7,Ptr b7),(11,I c.crewNow.1),(13,I (c.log.last.1+1)),(14,I dd.crewNow.1),(16,I ((j:Int)+1)),(109, .bool (hasB dd.crewNow.1 ((j:Int)+1) && !hasB c.crewNow.1 ((j:Int)+1)))]∧h4=h') ?_ ?_
   ·conv=>whnf
    refine ACalls.mono (refHas_any h4 dd.crewNow.1 ((j:Int)+1) (by omega) (by omega)) ?_
    cases hasB dd.crewNow.1 ((j:Int)+1) with
    | true =>
     rintro _ _ ⟨rfl,rfl⟩
     conv=>whnf
     refine C2 (refHas_any h4 c.crewNow.1 ((j:Int)+1) (by omega) (by omega)) ?_;conv=>whnf
     exact ⟨_,Au ⟨rfl,rfl,rfl,rfl,rfl,rfl,rfl,trivial⟩,rfl⟩
    | false =>
     rintro _ _ ⟨rfl,rfl⟩
     conv=>whnf
     exact ⟨_,Au ⟨rfl,rfl,rfl,rfl,rfl,rfl,rfl,trivial⟩,rfl⟩
   rintro e _ ⟨e5,rfl,rfl⟩
   cases (hasB dd.crewNow.1 ((j:Int)+1) && !hasB c.crewNow.1 ((j:Int)+1)) with
   | false =>
    conv=>whnf
    exact ⟨_,Au ⟨rfl,rfl,rfl,rfl,rfl,rfl,trivial⟩,⟨_,k4⟩,Keeps.refl _ _⟩
   | true =>
    conv=>whnf
    obtain ⟨m,hm⟩:∃ m:Nat,m=j+1:=⟨_,rfl⟩
    rw [show (j:Int)+1=((m:Nat):Int) by omega]
    have hm1:1≤(m:Int):=by omega
    have hm2:(m:Int)≤5:=by omega
    refine Aj (n:=6) (z:=1) (j:=m) (by omega) (by omega) rfl rfl ?_;conv=>whnf
    refine Af rfl rfl rfl k4.str (by have:=next_cell e4 cx4 hm1 hm2;rw [show 0+14+1+m*1=15+(m:Int).toNat by omega];exact Nat.ble_eq_true_of_le (List.getElem?_eq_some_iff.1 this).1) (coreCells {e4 with next:=e4.next.set m (c.log.last.1+1)} cx4) (by rw [show 0+14+1+m*1=15+(m:Int).toNat by omega];exact next_set e4 cx4 hm1 hm2 _) fun h5 t5 k5 a5 x5=>?_;conv=>whnf
    refine Aj (n:=6) (z:=1) (j:=m) (by omega) (by omega) rfl rfl ?_;conv=>whnf
    refine Af rfl rfl rfl k5 (by have:=mtch_cell {e4 with next:=e4.next.set m (c.log.last.1+1)} cx4 hm1 hm2;rw [show 0+14+7+m*1=21+(m:Int).toNat by omega];exact Nat.ble_eq_true_of_le (List.getElem?_eq_some_iff.1 this).1) (coreCells {e4 with next:=e4.next.set m (c.log.last.1+1),mtch:=e4.mtch.set m 0} cx4) (by rw [show 0+14+7+m*1=21+(m:Int).toNat by omega];exact mtch_set {e4 with next:=e4.next.set m (c.log.last.1+1)} cx4 hm1 hm2 _) fun h6 t6 k6 a6 x6=>?_;conv=>whnf
    refine Aj (n:=6) (z:=1) (j:=m) (by omega) (by omega) rfl rfl ?_;conv=>whnf
    refine Af rfl rfl rfl k6 (by have:=heard_cell {e4 with next:=e4.next.set m (c.log.last.1+1),mtch:=e4.mtch.set m 0} cx4 hm1 hm2;rw [show 0+14+13+m*1=27+(m:Int).toNat by omega];exact Nat.ble_eq_true_of_le (List.getElem?_eq_some_iff.1 this).1) (coreCells (e4.fresh1 (c.log.last.1+1) m) cx4) (by rw [show 0+14+13+m*1=27+(m:Int).toNat by omega];exact heard_set {e4 with next:=e4.next.set m (c.log.last.1+1),mtch:=e4.mtch.set m 0} cx4 hm1 hm2 _) fun h7 t7 k7 a7 x7=>?_;conv=>whnf
    have tt:=t5.trans (t6.trans t7)
    have q7:=k4.set' (c':=e4.fresh1 (c.log.last.1+1) m) ap.a tt k7
    exact ⟨_,Au ⟨rfl,rfl,rfl,rfl,rfl,rfl,trivial⟩,⟨_,q7⟩,tt.keep.keeps (by simp)⟩
 ·refine Ad (by omega) ?_;conv=>whnf
  rw [List.take_of_length_le (by show 5≤j;omega)] at k4
  obtain ⟨fa,fb,fd,fe,fh⟩:=freshes (c.log.last.1+1) ((ls (m5 dd.crewNow.1)).filter fun n => !hasB c.crewNow.1 n) dd fun n hn=>ls_in _ n (List.mem_filter.1 hn).1
  rw [fresh_five,← hF] at fe
  obtain ⟨e4,he4⟩:∃ e4,e4=[1,2,3,4,5].foldl F dd:=⟨_,rfl⟩
  rw [← he4] at k4 fe ⊢
  have lk4:DLk e4:=by rw [fe];exact lk3.same rfl rfl rfl
  have nk4:NextOk e4:=fun n h1 h2=>by
   rw [fe];show 0≤fa.get n∧fa.get n≤_
   have:=ok.nk n h1 h2
   rcases (fh n h1 h2).1 with z | z <;> rw [z]
   ·rw [p1];exact this
   ·omega
  have o4:e4.out.posts.length≤999999990:=by rw [fe];show dd.out.posts.length≤_;rw [p4,hout];simp [out0]
  have sf4:e4.self=c.self:=by rw [fe];exact p3
  refine ACalls.mono (rsendAll_any ap ⟨_,k4⟩ lk4 nk4 o4) ?_;rintro _ h8 ⟨rfl,k8,kk8⟩;conv=>whnf
  obtain ⟨y1,_⟩:=sends_more e4.others e4
  refine ACalls.mono (rrank_any ap k8 lk4.sendAll (by unfold CoreM.sendAll;rw [y1,sf4];exact ok.s1) (by unfold CoreM.sendAll;rw [y1,sf4];exact ok.s2)) ?_;rintro _ h9 ⟨rfl,k9,kk9⟩;conv=>whnf
  have KK:Keeps [o,o+1,oo] h1 h9:=kk4.trans ((kk8.mono (by simp)).trans (kk9.keeps (by simp)))
  have kb:h9 b7=some (row (0,1) (outCells out0 ox0) 96):=KK _ _ _ (by have:=ap.c;have:=ap.d;simp;omega) k1
  refine ACalls.mono (rend_any ap.a ap.c ap.d k9) ?_;rintro _ h11 ⟨ox,rfl,o11,q11,kk11⟩;conv=>whnf
  refine Ae rfl rfl rfl ((kk11.get (Ne.symm ap.c) kb)) rfl (outCells _ ox) rfl fun h12 t12 k12 a12 e12=>?_;conv=>whnf
  refine Ab rfl k12 rfl rfl ?_;conv=>whnf
  exact .inr ⟨hE',_,rfl,rtold_end ap n1 ((s1.keeps _).trans KK) kk11 o11 q11 t12 e12⟩
theorem rRead_any {h:Heap} {p o oo:Nat} {c:CoreM} (ap:Apart o oo) (k:RCore h p o oo c) (dk:DOk c) :
  ACalls PR 42 #[Ptr p] h (fun v h'=>(c.readE≠0∧v = .tuple #[I 0, .agg (outCells out0 ox0).toArray,I c.readE]∧Sub h h')∨(c.readE=0∧∃ u,v = .tuple #[I (c.round+1),u,I 0]∧RTold p o oo c.read h u h')):=by
 have ok:=dk.ok
 obtain ⟨cx,k0⟩:=k
 have hr1:=ok.r1
 have hr2:=ok.r2
 have hrd:=ok.rd
 have hout:=ok.out
 refine At mix Tryz.func42 rfl rfl Tryz.ntmps42 Tryz.results42 rfl ?_;conv=>whnf
 refine Ak (0,1) (outCells out0 ox0) rfl fun b3 h1 n1 s1 k1=>?_;conv=>whnf
 have k:=k0.sub s1
 refine Av ?_;conv=>whnf
 refine Aa rfl k.str rfl ?_;conv=>whnf
 by_cases c1:c.state=2
 rotate_left
 ·refine Ac (c1) ?_;conv=>whnf
  refine Ae rfl rfl rfl (k1) rfl (outCells out0 ox0) rfl fun h3 t3 k3 a3 e3=>?_;conv=>whnf
  refine Ab rfl k3 rfl rfl ?_;conv=>whnf
  have he:c.readE=200:=by unfold CoreM.readE;rw [if_pos c1]
  exact .inl ⟨by rw [he];decide,by rw [he];rfl,a3 h s1 n1⟩
 refine Ad ((by simpa using c1)) ?_;conv=>whnf
 refine Av ?_;conv=>whnf
 refine ACalls.mono (rown_any k ok.lk.lo) ?_
 cases hs:c.settled with
 | false =>
  rintro _ _ ⟨rfl,rfl⟩
  conv=>whnf
  refine Ae rfl rfl rfl (k1) rfl (outCells out0 ox0) rfl fun h3 t3 k3 a3 e3=>?_;conv=>whnf
  refine Ab rfl k3 rfl rfl ?_;conv=>whnf
  have he:c.readE=202:=by unfold CoreM.readE;rw [if_neg (by simpa using c1),if_pos hs]
  exact .inl ⟨by rw [he];decide,by rw [he];rfl,a3 h s1 n1⟩
 | true =>
  rintro _ _ ⟨rfl,rfl⟩
  conv=>whnf
  have he:c.readE=0:=by unfold CoreM.readE;rw [if_neg (by simpa using c1),if_neg (by rw [hs];simp)]
  refine ACalls.mono (rbegin_any ap.a hout ⟨_,k⟩) ?_;rintro _ h2 ⟨rfl,⟨cx2,k2⟩,kk2⟩;conv=>whnf
  refine Aa rfl k2.str rfl ?_;conv=>whnf
  refine Ag (by omega) (by omega) (rfl) ?_;conv=>whnf
  refine Af rfl rfl rfl (k2.str) rfl (coreCells {c with round:=c.round+1} cx2) rfl fun h3 t3 k3' a3 e3=>?_;conv=>whnf
  have k3:RX h3 p o oo {c with round:=c.round+1} cx2:=k2.set' ap.a t3 k3'
  refine Aa rfl k3.str rfl ?_;conv=>whnf
  have hrl:cx2.rd.n=c.reads.length:=by have:=k3.rd.sl.len;simpa using this.symm
  refine Aa rfl k3.str rfl ?_;conv=>whnf
  refine Ap (0,1) [I (c.round+1)] rfl rfl rfl rfl rfl rfl rfl fun b6 h5 n5 s5 k6=>?_;conv=>whnf
  refine AAppend.own (t:=(o,4)) (E:=3) (z:=1) (by_:=8) (zero:=[I 0]) (tx:=(0,1)) (xs:=[I (c.round+1)]) rfl ⟨_,rfl⟩ rfl rfl rfl rfl (by omega) (k3.rd.move fun _ _ e=>s5 _ _ e)
   ⟨rfl,Nat.le_refl _, .inr ⟨b6,0,_,_,_,rfl,k6,rfl⟩⟩ rfl (by omega) (by omega) fun a7 c7 h7 ow7 t7 _=>?_
  conv=>whnf
  have p7:=t7.get (u:=(o,0)) (by simp) (s5 _ _ k3.str)
  refine Af rfl rfl rfl (p7) rfl (coreCells c.asks {cx2 with rd:=⟨a7,cx2.rd.n+1,c7⟩}) rfl fun h8 t8 k8 a8 e8=>?_;conv=>whnf
  have q8:RX h8 p o oo c.asks {cx2 with rd:=⟨a7,cx2.rd.n+1,c7⟩}:=by
   refine ⟨k8,((k3.sd.move fun _ _ e=>s5 _ _ e).keepT t7 (by simp)).keepT t8 (by simp),KeepT.log (KeepT.log (Moves.move k3.log fun _ _ _ _ e=>s5 _ _ e) t7) t8,?_,?_⟩
   ·have:=ow7.keepT t8 (by simp)
    show Own h8 (o,4) 3 a7 (cx2.rd.n+1) c7 1 ((c.reads++[c.round+1]).map I)
    rw [List.map_append];exact this
   ·exact ((k3.out.move fun b t y _ e=>s5 _ _ e).keepT ap.a t7).keepT ap.a t8
  have KK8:Keeps [o,o+1,oo] h1 h8:=(kk2.trans (t3.keep.trans ((s5.keep o).trans (t7.keep.trans t8.keep)))).keeps (by simp)
  have lk8:DLk c.asks:=dk.lk.same rfl rfl rfl
  refine ACalls.mono (rsendAll_any ap ⟨_,q8⟩ lk8 ok.nk (by show c.out.posts.length≤_;rw [hout];simp [out0])) ?_;rintro _ h9 ⟨rfl,k9,kk9⟩;conv=>whnf
  obtain ⟨y1,y2,y3,y4,y5,y6,y7,y8⟩:=sends_more c.asks.others c.asks
  have hsr:∀ (l:List Int) (d:CoreM),(l.foldl CoreM.send d).out.reads=d.out.reads:=by
   intro l
   induction l with
   | nil=>intro d;rfl
   | cons n l ih=>intro d;rw [List.foldl_cons,ih];unfold CoreM.send;split <;> rfl
  refine ACalls.mono (rconfirm_any ap k9 lk8.sendAll (by unfold CoreM.sendAll;rw [y1];exact ok.s1) (by unfold CoreM.sendAll;rw [y1];exact ok.s2) (by unfold CoreM.sendAll;rw [hsr,y7];show c.out.reads.length+(c.reads++[c.round+1]).length≤_;rw [hout,List.length_append];simp [out0];omega)) ?_;rintro _ h10 ⟨rfl,k10,kk10⟩;conv=>whnf
  have KK:Keeps [o,o+1,oo] h1 h10:=KK8.trans ((kk9.mono (by simp)).trans (kk10.mono (by simp)))
  have kb:h10 b3=some (row (0,1) (outCells out0 ox0) 96):=KK _ _ _ (by have:=ap.c;have:=ap.d;simp;omega) k1
  refine ACalls.mono (rend_any ap.a ap.c ap.d k10) ?_;rintro _ h11 ⟨ox,rfl,o11,q11,kk11⟩;conv=>whnf
  refine Ae rfl rfl rfl ((kk11.get (Ne.symm ap.c) kb)) rfl (outCells _ ox) rfl fun h12 t12 k12 a12 e12=>?_;conv=>whnf
  refine Ab rfl k12 rfl rfl ?_;conv=>whnf
  exact .inr ⟨he,_,rfl,rtold_end ap n1 ((s1.keeps _).trans KK) kk11 o11 q11 t12 e12⟩
theorem rCompact_any {h:Heap} {p o oo:Nat} {c:CoreM} (ap:Apart o oo) (k:RIdle h p o c) (dk:DOk c) (hbi:c.log.bi≤c.snap.index) (hsi:c.snap.index≤9007199254740991) (i:Int) {t:Tag} {d:SlV} {data:List Int} (g:Sl h t d.a d.n d.c 1 (bytesV data)) (ht:t.1≠o) (ht1:t.1≠o+1) (hdn:d.n≤140737488355328) :
  ACalls PR 43 #[Ptr p,I i, .slice d.a d.n d.c] h (fun v h'=>(c.compactE i data≠0∧v = .tuple #[.agg #[I 0,I 0,I 0, .slice none 0 0],I (c.compactE i data)]∧Sub h h') ∨
   (c.compactE i data=0∧∃ a n cc,v = .tuple #[.agg #[I i,I (c.compact i data).snap.term,I (c.compact i data).snap.crew, .slice a n cc],I 0]∧Own h' (oo,6) 5 a n cc 1 (bytesV data)∧RIdle h' p o (c.compact i data)∧Keeps [o,o+1,oo] h h')):=by
 have ok:=dk.ok
 obtain ⟨cx,i1,i2,i3,i4,i5,i6⟩:=k
 have k0:RX h p o oo c cx:=⟨i1,i2,i3,i4,by rw [i5];exact i6 h oo⟩
 have hdl:data.length=d.n:=by have:=g.len;simpa [bytesV] using this
 have hl:=ok.lk.lo.last
 have ht2:=ok.lk.lo.top
 have hl0:=ok.lk.lo.lo
 have hes:=ok.es
 have hout:=ok.out
 obtain ⟨E,hE⟩:∃ E,E=c.compactE i data:=⟨_,rfl⟩
 have hE':=hE
 unfold CoreM.compactE at hE'
 rw [← hE]
 refine At mix Tryz.func43 rfl rfl Tryz.ntmps43 Tryz.results43 rfl ?_;conv=>whnf
 refine Ak (0,1) ([I 0,I 0,I 0, .slice none 0 0]) rfl fun b6 h1 n1 s1 k1=>?_;conv=>whnf
 have k:=k0.sub s1
 have g1:=g.sub s1
 refine C2 (rlast_any k ok.lk.lo) ?_;conv=>whnf
 refine Av ?_;conv=>whnf
 refine AIf.cut (fun e h'=>∃ e0,e=updL 77 e0 [(0,Ptr p),(1,I i),(2, .slice d.a d.n d.c),(6,Ptr b6),(36, .bool (decide (¬(c.snap.index+1≤i∧i≤minI c.commit c.log.last.1))))]∧h1=h') ?_ ?_
 ·conv=>whnf
  refine Aa rfl k.str rfl ?_;conv=>whnf
  by_cases e1:i≤c.snap.index
  ·refine Ac (e1) ?_;conv=>whnf
   exact ⟨_,Au ⟨rfl,rfl,rfl,rfl,congrArg Value.bool (by rw [decide_eq_true (by omega)]),trivial⟩,rfl⟩
  ·refine Ad (e1) ?_;conv=>whnf
   refine Aa rfl k.str rfl ?_;conv=>whnf
   refine Aq (show _=minI c.commit c.log.last.1 from rfl) ?_;conv=>whnf
   by_cases e2:minI c.commit c.log.last.1<i
   ·refine Ac (e2) ?_;conv=>whnf
    exact ⟨_,Au ⟨rfl,rfl,rfl,rfl,congrArg Value.bool (by rw [decide_eq_true (by omega)]),trivial⟩,rfl⟩
   ·refine Ad (e2) ?_;conv=>whnf
    exact ⟨_,Au ⟨rfl,rfl,rfl,rfl,congrArg Value.bool (by rw [decide_eq_false (by omega)]),trivial⟩,rfl⟩
 rintro e _ ⟨e0,rfl,rfl⟩
 by_cases c1:c.snap.index+1≤i∧i≤minI c.commit c.log.last.1
 rotate_left
 ·rw [decide_eq_true c1]
  conv=>whnf
  have HC:=hE'.trans (if_pos c1)
  refine Ae rfl rfl rfl (k1) rfl ([I 0,I 0,I 0, .slice none 0 0]) rfl fun h3 t3 k3 a3 e3=>?_;conv=>whnf
  refine Ab rfl k3 rfl rfl ?_;conv=>whnf
  exact .inl ⟨by rw [HC];decide,by rw [HC],a3 h s1 n1⟩
 rw [decide_eq_false (by simpa using c1)]
 conv=>whnf
 rw [if_neg (by simpa using c1)] at hE'
 refine Av ?_;conv=>whnf
 by_cases c2:8192<data.length
 ·refine Ac ((by omega)) ?_;conv=>whnf
  have HC:=hE'.trans (if_pos c2)
  refine Ae rfl rfl rfl (k1) rfl ([I 0,I 0,I 0, .slice none 0 0]) rfl fun h3 t3 k3 a3 e3=>?_;conv=>whnf
  refine Ab rfl k3 rfl rfl ?_;conv=>whnf
  exact .inl ⟨by rw [HC];decide,by rw [HC],a3 h s1 n1⟩
 refine Ad ((by omega)) ?_;conv=>whnf
 rw [if_neg c2] at hE'
 have hi2:i≤c.log.bi+c.log.es.length:=by
  have:=c1.2;unfold minI at this;split at this <;> omega
 have hco:(c.log.compact i).1=0:=LG.compact_ok ok.lk.lo (by omega) hi2
 rw [hco] at hE'
 refine Aa rfl k.str rfl ?_;conv=>whnf
 refine C2 (rTerm_c k.log ok.lk.lo i) ?_;conv=>whnf
 refine C2 (rcrewUpTo_any k ok.lk.lo dk.sy i hi2) ?_;conv=>whnf
 refine ACalls.mono (copyB_any h1 (o,3) g1 hdn) ?_
 rintro v h2 ⟨a2,c2,rfl,ow2,s2⟩
 conv=>whnf
 refine Ak (0,1) ([I 0,I 0,I 0, .slice none 0 0]) rfl fun b14 h3 n3 s3 k3=>?_;conv=>whnf
 refine Ae rfl rfl rfl (k3) rfl ([I i,I (c.log.term i).1,I (c.crewUpTo i).1, .slice a2 d.n c2]) rfl fun h4 t4 k4 a4 e4=>?_;conv=>whnf
 have hb14:h1 b14=none:=by
  cases e:h1 b14 with
  | none=>rfl
  | some y=>rw [s2 _ _ e] at n3;cases n3
 have s4:Sub h1 h4:=a4 h1 (s2.trans s3) hb14
 have q4:=k.sub s4
 have g4:=g1.sub s4
 have ow4:=(ow2.sub s3).keepT t4 (fun c=>ap.c (congrArg Prod.fst c))
 refine Aa rfl q4.str rfl ?_;conv=>whnf
 refine ACalls.mono (rCompact_c (by omega) q4.log ok.lk.lo i (by omega)) ?_;rintro _ h5 ⟨rfl,l5,kk5⟩;conv=>whnf
 rw [show (c.log.compact i).1=0 from hco]
 have k145:=kk5.get (by simp) k4
 have g5:=g4.keep kk5 ht1
 refine Ab rfl k145 rfl rfl ?_;conv=>whnf
 have p5:=kk5.get (by simp) q4.str
 refine Ae rfl rfl rfl (p5) rfl (coreCells (c.compact i data) {cx with sd:=⟨a2,d.n,c2⟩}) rfl fun h6 t6 k6 a6 e6=>?_;conv=>whnf
 have q6:RX h6 p o oo (c.compact i data) {cx with sd:=⟨a2,d.n,c2⟩}:=by
  refine ⟨k6,(Own.move ow4 fun _ _ e=>kk5.get (by simp) e).keepT t6 (by simp),KeepT.log l5 t6,(q4.rd.move fun _ _ e=>kk5.get (by simp) e).keepT t6 (by simp),?_⟩
  exact (q4.out.move fun b t y ht e=>kk5 _ _ _ (by rw [ht];exact ap.b.symm) e).keepT ap.a t6
 have g6:=g5.keep t6.keep ht
 have n6:∀ b y,h6 b=some ((oo,6),y)→h6 b=some ((oo,6),y):=fun _ _ e=>e
 refine ACalls.mono (copyB_any h6 (oo,6) g6 hdn) ?_
 rintro v h7 ⟨a7,c7,rfl,ow7,s7⟩
 conv=>whnf
 have k147:=s7 _ _ (t6.get (u:=(0,1)) (fun c=>ap.c (congrArg Prod.fst c).symm) k145)
 refine Af rfl rfl rfl (k147) rfl ([I i,I (c.log.term i).1,I (c.crewUpTo i).1, .slice a7 d.n c7]) rfl fun h8 t8 k8 a8 e8=>?_;conv=>whnf
 refine Ab rfl k8 rfl rfl ?_;conv=>whnf
 have KK7:Keeps [o,o+1,oo] h1 h7:=(s4.keeps _).trans ((kk5.keeps (by simp)).trans ((t6.keep.keeps (by simp)).trans (s7.keeps _)))
 have b614:b6≠b14:=fun c=>by rw [c] at k1;rw [k1] at hb14;cases hb14
 have k68:=e8 _ _ b614 (KK7 _ _ _ (by have:=ap.c;have:=ap.d;simp;omega) k1)
 refine Ae rfl rfl rfl (k68) rfl ([I i,I (c.log.term i).1,I (c.crewUpTo i).1, .slice a7 d.n c7]) rfl fun h9 t9 k9 a9 e9=>?_;conv=>whnf
 refine Ab rfl k9 rfl rfl ?_;conv=>whnf
 have tt:=t8.trans t9
 refine .inr ⟨hE',a7,d.n,c7,rfl,ow7.keepT tt (fun c=>ap.d (congrArg Prod.fst c)),?_,fun b t y hb e=>?_⟩
 ·have q9:=q6.sub s7
  exact ⟨{cx with sd:=⟨a2,d.n,c2⟩},tt.get (u:=(o,0)) (Ne.symm (tag_ne ap.c)) q9.str,q9.sd.keepT tt (Ne.symm (tag_ne ap.c)),Moves.move q9.log fun _ t _ ht e=>tt _ _ _ (fun c=>by rw [c] at ht;simp at ht) e,q9.rd.keepT tt (Ne.symm (tag_ne ap.c)),hout,i6⟩
 ·have e1:=s1 _ _ e
  have e7:=KK7 _ _ _ hb e1
  refine e9 _ _ (fun c=>?_) (e8 _ _ (fun c=>?_) e7)
  ·rw [c,n1] at e;cases e
  ·rw [c,hb14] at e1;cases e1
theorem rsavedSnap_any {h:Heap} {t3:Tag} {x:SH} (sd:Sl h t3 x.d.a x.d.n x.d.c 1 (bytesV x.data)) (hc0 : -9223372036854775808≤x.sc) (hc1:x.sc≤9223372036854775807) :
  ACalls PR 34 #[.agg x.cells.toArray] h (fun v h'=>v = .bool x.snapB∧h=h'):=by
 have hd:x.data.length=x.d.n:=by have:=sd.len;simpa [bytesV] using this
 have hd0:x.data=[]↔x.d.n=0:=by rw [← hd,List.length_eq_zero_iff]
 have hS:x.snapB=(decide (x.si=0∧x.st=0∧x.sc=0∧x.d.n=0) || (decide (0<x.si)&&decide (1≤x.st∧x.st≤x.term)&&decide (cchk x.sc=0))):=by
  unfold SH.snapB
  congr 1
  exact decide_eq_decide.2 (by rw [hd0])
 generalize x.snapB=S at hS ⊢
 refine Ar (As mix Tryz.func34 rfl rfl Tryz.ntmps34 Tryz.results34 rfl ?_);conv=>whnf
 refine Al (0,1) (x.cells) rfl fun b1 h1 n1 s1 k1=>?_;conv=>whnf
 refine Ab rfl k1 rfl rfl ?_;conv=>whnf
 refine Ak (0,1) ([I 0,I 0,I 0, .slice none 0 0]) rfl fun b3 h2 n2 s2 k2=>?_;conv=>whnf
 refine Ae rfl rfl rfl (k2) rfl ([I x.si,I x.st,I x.sc, .slice x.d.a x.d.n x.d.c]) rfl fun h3 t3' k3 a3 e3=>?_;conv=>whnf
 have b13:b1≠b3:=fun c=>by rw [c,n2] at k1;cases k1
 have k13:=e3 _ _ b13 (s2 _ _ k1)
 have hb3:h b3=none:=by
  cases e:h b3 with
  | none=>rfl
  | some y=>rw [s1 _ _ e] at n2;cases n2
 have s3:Sub h h3:=a3 h (s1.trans s2) hb3
 refine Aa rfl k3 rfl ?_;conv=>whnf
 by_cases c1:x.si=0
 ·refine Ac (c1) ?_;conv=>whnf
  rw [decide_eq_false (show ¬ 0<x.si by omega)] at hS
  refine Aa rfl k3 rfl ?_;conv=>whnf
  by_cases c2:x.st=0
  ·refine Ac (c2) ?_;conv=>whnf
   refine Aa rfl k3 rfl ?_;conv=>whnf
   by_cases c3:x.sc=0
   ·refine Ac (c3) ?_;conv=>whnf
    refine Aa rfl k3 rfl ?_;conv=>whnf
    refine ACmp.dec ?_;conv=>whnf
    exact ⟨congrArg Value.bool (by rw [hS];simp [c1,c2,c3]),s3⟩
   ·refine Ad (c3) ?_;conv=>whnf
    exact ⟨congrArg Value.bool (by rw [hS];simp [c3]),s3⟩
  ·refine Ad (c2) ?_;conv=>whnf
   exact ⟨congrArg Value.bool (by rw [hS];simp [c2]),s3⟩
 ·refine Ad (c1) ?_;conv=>whnf
  rw [decide_eq_false (fun z=>c1 z.1),Bool.false_or] at hS
  refine Aa rfl k3 rfl ?_;conv=>whnf
  by_cases d1:1≤x.si
  rotate_left
  ·refine Ad ((by omega)) ?_;conv=>whnf
   exact ⟨congrArg Value.bool (by rw [hS,decide_eq_false (show ¬ 0<x.si by omega)];rfl),s3⟩
  refine Ac ((by omega)) ?_;conv=>whnf
  refine Aa rfl k3 rfl ?_;conv=>whnf
  by_cases d2:1≤x.st
  rotate_left
  ·refine Ad ((by omega)) ?_;conv=>whnf
   exact ⟨congrArg Value.bool (by rw [hS,decide_eq_false (show ¬ (1≤x.st∧x.st≤x.term) by omega)];simp),s3⟩
  refine Ac ((by omega)) ?_;conv=>whnf
  refine Aa rfl k3 rfl ?_
  refine Aa rfl k13 rfl ?_;conv=>whnf
  by_cases d3:x.st≤x.term
  rotate_left
  ·refine Ad ((by omega)) ?_;conv=>whnf
   exact ⟨congrArg Value.bool (by rw [hS,decide_eq_false (show ¬ (1≤x.st∧x.st≤x.term) by omega)];simp),s3⟩
  refine Ac ((by omega)) ?_;conv=>whnf
  refine Aa rfl k3 rfl ?_;conv=>whnf
  refine C2 (refCheck_any h3 x.sc hc0 hc1) ?_;conv=>whnf
  refine ACmp.dec ?_;conv=>whnf
  exact ⟨congrArg Value.bool (by rw [hS,decide_eq_true (show 0<x.si by omega),decide_eq_true (show 1≤x.st∧x.st≤x.term by omega)];simp),s3⟩
theorem late_crews (x:SH) (l:List EH):(!(l.any fun e=>decide (x.term<e.term))&&crewsMay (l.map EH.abs))=l.all fun e => !decide (x.term<e.term)&&(decide (e.kind≠2) || crewOk e.abs):=by
 induction l with
 | nil=>rfl
 | cons e l ih =>
  rw [List.all_cons,← ih,List.any_cons,List.map_cons]
  show (!(_ || _)&&((decide (e.kind≠2) || crewOk e.abs)&&crewsMay _))=_
  cases decide (x.term<e.term) <;> cases (decide (e.kind≠2) || crewOk e.abs) <;> simp
theorem rNew_any {h:Heap} (o:Nat) (ho:o≠0) (self first:Int) {t1 t2 t3:Tag} {x:SH} (draw:Int) (k:x.Ok h t1 t2 t3) (tn1:t1.1≠o+1) (tn2:t2.1≠o+1) (tn3:t3.1≠o+1) (by_:∀ e∈x.es,∀ z∈e.data,0≤z∧z<256)
  (hf0 : -9223372036854775808≤first) (hf1:first≤9223372036854775807) (hc0 : -9223372036854775808≤x.sc) (hc1:x.sc≤9223372036854775807) (hn:x.e.n*48≤140737488355328) (hdn:x.d.n≤140737488355328) :
  ACalls PR 10 #[I self,I first, .agg x.cells.toArray,I draw] h (fun v h'=>(cnewOk self first x.abs draw=false∧v = .tuple #[.pointer none,I 2]∧Keep (o+1) h h') ∨
   (cnewOk self first x.abs draw=true∧∃ p,v = .tuple #[Ptr p,I 0]∧RIdle h' p o (cnew self first x.abs draw)∧Keep (o+1) h h')):=by
 have hlen:x.es.length=x.e.n:=k.es.len
 have hR:cnewOk self first x.abs draw=((decide (1≤self∧self≤5)&&decide (cchk first=0)&&decide (0≤draw)&&numB x.term&&decide (0≤x.vote∧x.vote≤5)&&x.snapB)&&(okBase x.si x.st&&(decide (((lnew x.si x.st).append (x.es.map EH.abs)).1=0)&&x.es.all fun e => !decide (x.term<e.term)&&(decide (e.kind≠2) || crewOk e.abs)))):=by
  rw [← late_crews]
  show (decide (1≤self∧self≤5)&&decide (cchk first=0)&&decide (0≤draw)&&x.abs.may&&okBase x.si x.st&&decide (((lnew x.si x.st).append (x.es.map EH.abs)).1=0))=_
  rw [may_eq]
  ac_rfl
 generalize cnewOk self first x.abs draw=R at hR ⊢
 refine At mix Tryz.func10 rfl rfl Tryz.ntmps10 Tryz.results10 rfl ?_;conv=>whnf
 refine Al (0,1) (x.cells) rfl fun b6 h1 n1 s1 k1=>?_;conv=>whnf
 have k':x.Ok h1 t1 t2 t3:=⟨k.es.sub s1,k.sd.sub s1⟩
 refine Av ?_;conv=>whnf
 obtain ⟨G,hG⟩:∃ G,G=(decide (1≤self∧self≤5)&&decide (cchk first=0)&&decide (0≤draw)&&numB x.term&&decide (0≤x.vote∧x.vote≤5)&&x.snapB):=⟨_,rfl⟩
 rw [← hG] at hR
 refine AIf.cut (fun e h'=>∃ e0,e=updL 124 e0 [(0,I self),(1,I first),(3,I draw),(6,Ptr b6),(53, .bool (!G))]∧h1=h') ?_ ?_
 ·conv=>whnf
  by_cases a1:1≤self
  rotate_left
  ·refine Ac ((by omega)) ?_;conv=>whnf
   have W:=decide_eq_false (show ¬ (1≤self∧self≤5) by omega)
   exact ⟨_,Au ⟨rfl,rfl,rfl,rfl,congrArg Value.bool (by rw [hG,W];simp),trivial⟩,rfl⟩
  refine Ad ((by omega)) ?_;conv=>whnf
  by_cases a2:self≤5
  rotate_left
  ·refine Ac ((by omega)) ?_;conv=>whnf
   have W:=decide_eq_false (show ¬ (1≤self∧self≤5) by omega)
   exact ⟨_,Au ⟨rfl,rfl,rfl,rfl,congrArg Value.bool (by rw [hG,W];simp),trivial⟩,rfl⟩
  refine Ad ((by omega)) ?_;conv=>whnf
  refine C2 (refCheck_any h1 first hf0 hf1) ?_;conv=>whnf
  by_cases a3:cchk first=0
  rotate_left
  ·refine Ac (a3) ?_;conv=>whnf
   have W:=decide_eq_false a3
   exact ⟨_,Au ⟨rfl,rfl,rfl,rfl,congrArg Value.bool (by rw [hG,W];simp),trivial⟩,rfl⟩
  refine Ad ((by simpa using a3)) ?_;conv=>whnf
  by_cases a4:draw<0
  ·refine Ac (a4) ?_;conv=>whnf
   have W:=decide_eq_false (show ¬ 0≤draw by omega)
   exact ⟨_,Au ⟨rfl,rfl,rfl,rfl,congrArg Value.bool (by rw [hG,W];simp),trivial⟩,rfl⟩
  refine Ad (a4) ?_;conv=>whnf
  refine Aa rfl k1 rfl ?_;conv=>whnf
  by_cases a5:x.term<0
  ·refine Ac (a5) ?_;conv=>whnf
   have W:numB x.term=false:=by unfold numB;simp;omega
   exact ⟨_,Au ⟨rfl,rfl,rfl,rfl,congrArg Value.bool (by rw [hG,W];simp),trivial⟩,rfl⟩
  refine Ad (a5) ?_;conv=>whnf
  refine Aa rfl k1 rfl ?_;conv=>whnf
  by_cases a6:9007199254740991<x.term
  ·refine Ac ((by omega)) ?_;conv=>whnf
   have W:numB x.term=false:=by unfold numB;simp;omega
   exact ⟨_,Au ⟨rfl,rfl,rfl,rfl,congrArg Value.bool (by rw [hG,W];simp),trivial⟩,rfl⟩
  refine Ad ((by omega)) ?_;conv=>whnf
  refine Aa rfl k1 rfl ?_;conv=>whnf
  by_cases a7:x.vote<0
  ·refine Ac ((by omega)) ?_;conv=>whnf
   have W:=decide_eq_false (show ¬ (0≤x.vote∧x.vote≤5) by omega)
   exact ⟨_,Au ⟨rfl,rfl,rfl,rfl,congrArg Value.bool (by rw [hG,W];simp),trivial⟩,rfl⟩
  refine Ad ((by omega)) ?_;conv=>whnf
  refine Aa rfl k1 rfl ?_;conv=>whnf
  by_cases a8:5<x.vote
  ·refine Ac ((by omega)) ?_;conv=>whnf
   have W:=decide_eq_false (show ¬ (0≤x.vote∧x.vote≤5) by omega)
   exact ⟨_,Au ⟨rfl,rfl,rfl,rfl,congrArg Value.bool (by rw [hG,W];simp),trivial⟩,rfl⟩
  refine Ad ((by omega)) ?_;conv=>whnf
  refine Ab rfl k1 rfl rfl ?_;conv=>whnf
  refine C2 (rsavedSnap_any k'.sd hc0 hc1) ?_;conv=>whnf
  have hn6:numB x.term=true:=by unfold numB;simp;omega
  exact ⟨_,Au ⟨rfl,rfl,rfl,rfl,congrArg Value.bool (by rw [hG,decide_eq_true (show 1≤self∧self≤5 by omega),decide_eq_true a3,decide_eq_true (show 0≤draw by omega),hn6,decide_eq_true (show 0≤x.vote∧x.vote≤5 by omega)];simp),trivial⟩,rfl⟩
 rintro e _ ⟨e0,rfl,rfl⟩
 cases G with
 | false =>
  conv=>whnf
  exact .inl ⟨by rw [hR];simp,rfl,s1.keep _⟩
 | true =>
 rw [Bool.true_and] at hR
 have hd0:0≤draw:=by
  have:=hG.symm
  simp only [Bool.and_eq_true,decide_eq_true_eq] at this
  exact this.1.1.1.2
 clear hG
 conv=>whnf
 refine Aa rfl k1 rfl ?_
 refine Aa rfl k1 rfl ?_;conv=>whnf
 refine ACalls.mono (rNew_c h1 (o+1) (by omega) x.si x.st) ?_
 rintro v h2 (⟨a5,lp,rfl,l2,s2⟩ | ⟨a5,rfl,s2⟩)
 rotate_left
 ·conv=>whnf
  refine Av ?_;conv=>whnf
  refine AIf.cut (fun e h'=>∃ e0,e=updL 124 e0 [(72, .bool true)]∧h2=h') ?_ ?_
  ·conv=>whnf
   refine Ac ((by decide)) ?_;conv=>whnf
   exact ⟨_,Au ⟨rfl,trivial⟩,rfl⟩
  rintro e _ ⟨e1,rfl,rfl⟩
  conv=>whnf
  exact .inl ⟨by rw [hR,a5];simp,rfl,(s1.trans s2).keep _⟩
 rw [a5,Bool.true_and] at hR
 conv=>whnf
 refine Av ?_;conv=>whnf
 have lo2:LOk (lnew x.si x.st):=LOk.new (okBase_bd a5).1 (okBase_bd a5).2
 refine AIf.cut (fun e h'=>∃ e0,e=updL 124 e0 [(0,I self),(1,I first),(3,I draw),(6,Ptr b6),(10,Ptr lp),(72, .bool (!decide (((lnew x.si x.st).append (x.es.map EH.abs)).1=0)))]∧RL h' lp (o+1) ((lnew x.si x.st).append (x.es.map EH.abs)).2∧Keep (o+1) h1 h') ?_ ?_
 ·conv=>whnf
  refine Ad ((by decide)) ?_;conv=>whnf
  refine Aa rfl (s2 _ _ k1) rfl ?_;conv=>whnf
  refine ACalls.mono (rAppend_c (by omega:o+1≠0) l2 lo2 tn1 tn2 (k'.es.sub s2) (by simp [lnew];omega)) ?_;rintro _ h3 ⟨rfl,l3,kk3⟩;conv=>whnf
  refine ACmp.dec ?_;conv=>whnf
  exact ⟨_,Au ⟨rfl,rfl,rfl,rfl,rfl,congrArg Value.bool (by simp),trivial⟩,l3,(s2.keep _).trans kk3⟩
 rintro e h3 ⟨e1,rfl,l3,kk3⟩
 have k13:=kk3.get (by simp) k1
 have KK3:Keep (o+1) h h3:=(s1.keep _).trans kk3
 by_cases a6:((lnew x.si x.st).append (x.es.map EH.abs)).1=0
 rotate_left
 ·rw [decide_eq_false a6] at hR ⊢
  conv=>whnf
  exact .inl ⟨by rw [hR];rfl,rfl,KK3⟩
 rw [decide_eq_true a6,Bool.true_and] at hR
 rw [decide_eq_true a6]
 conv=>whnf
 have X3:Ents h3 t1 t2 x.e.a x.e.n x.e.c x.es:=⟨k'.es.sl.keep kk3 tn1,fun e he=>Sl.keep (k'.es.good e he) kk3 tn2,k'.es.small⟩
 have sd3:Sl h3 t3 x.d.a x.d.n x.d.c 1 (bytesV x.data):=k'.sd.keep kk3 tn3
 refine ALoop.mk (fun e h'=>h3=h'∧∃ e0,∃ j:Nat,e=updL 124 e0 [(0,I self),(1,I first),(3,I draw),(6,Ptr b6),(10,Ptr lp),(12,I j)]∧j≤x.e.n∧R=(x.es.drop j).all fun e => !decide (x.term<e.term)&&(decide (e.kind≠2) || crewOk e.abs)) (fun e=>x.e.n-natOf (e 12))
  ⟨rfl,_,0,Au ⟨rfl,rfl,rfl,rfl,rfl,rfl,trivial⟩,by omega,by rw [List.drop_zero];exact hR⟩ ?_
 clear hR
 rintro e _ ⟨rfl,e2,j,rfl,hj,hR⟩
 conv=>whnf
 refine Av ?_;conv=>whnf
 refine Aa rfl k13 rfl ?_;conv=>whnf
 by_cases hjn:j<x.e.n
 ·refine Ac (by omega) ?_;conv=>whnf
  obtain ⟨y,hy⟩:∃ y,x.es[j]? = some y:=⟨x.es[j]'(by omega),by simp⟩
  have my:=List.mem_of_getElem? hy
  have hdr:x.es.drop j=y::x.es.drop (j+1):=by
   rw [List.drop_eq_getElem_cons (show j<x.es.length by omega),(List.getElem?_eq_some_iff.1 hy).2]
  rw [hdr,List.all_cons] at hR
  obtain ⟨b,off,l,E,fz,ea,hb,hc⟩:=X3.sl.pos (by omega)
  have g0:(l.drop (off+j*4)).take 4=y.cells:=by rw [part_of_take hc (by omega),encs_part hy]
  have gT:l[off+j*4]? = some (I y.term):=by have:=congrArg (fun q:List Value=>q[0]?) g0;simpa [List.getElem?_take,List.getElem?_drop,EH.cells] using this
  refine Av ?_;conv=>whnf
  refine Av ?_;conv=>whnf
  refine Am (h3) [] (Sub.refl _) (by decide +kernel) ?_;conv=>whnf
  refine Aa rfl k13 rfl ?_;conv=>whnf
  rw [ea]
  refine Ai (n:=x.e.n) (z:=4) (j:=j) rfl hjn rfl rfl ?_;conv=>whnf
  refine Aa rfl hb gT ?_
  refine Aa rfl k13 rfl ?_;conv=>whnf
  by_cases c1:x.term<y.term
  ·refine Ac ((by omega)) ?_;conv=>whnf
   exact .inl ⟨by rw [hR,decide_eq_true c1];rfl,rfl,KK3⟩
  refine Ad ((by omega)) ?_;conv=>whnf
  rw [decide_eq_false c1,Bool.not_false,Bool.true_and] at hR
  refine Aa rfl k13 rfl ?_;conv=>whnf
  rw [ea]
  refine Ai (n:=x.e.n) (z:=4) (j:=j) rfl hjn rfl rfl ?_;conv=>whnf
  refine Ab rfl hb g0 rfl ?_;conv=>whnf
  refine ACalls.mono (rcrewEntry_any h3 y (X3.good y my) (by_ y my)) ?_
  cases c2:(decide (y.kind≠2) || crewOk y.abs) with
  | false =>
   rintro _ _ ⟨rfl,rfl⟩
   conv=>whnf
   refine ⟨Sub.refl _,?_⟩;conv=>whnf
   exact .inl ⟨by rw [hR,c2];rfl,rfl,KK3⟩
  | true =>
  rintro _ _ ⟨rfl,rfl⟩
  conv=>whnf
  refine ⟨Sub.refl _,?_⟩;conv=>whnf
  rw [c2,Bool.true_and] at hR
  refine Ag (by omega) (by omega) ((by omega:(j:Int)+1=((j+1:Nat):Int))) ?_;conv=>whnf
  refine ⟨⟨rfl,_,j+1,Au ⟨rfl,rfl,rfl,rfl,rfl,rfl,trivial⟩,by omega,hR⟩,?_⟩
  show x.e.n-(j+1)<x.e.n-j
  omega
 ·refine Ad (by omega) ?_;conv=>whnf
  rw [List.drop_of_length_le (by omega)] at hR
  refine Aa rfl k13 rfl ?_
  refine Aa rfl k13 rfl ?_
  refine Ab rfl k13 rfl rfl ?_
  refine Aa rfl k13 rfl ?_;conv=>whnf
  refine ⟨by omega,?_⟩
  refine Aq (rfl) ?_;conv=>whnf
  have hm1:0≤draw.tmod 10:=Int.tmod_nonneg _ hd0
  have hm2:draw.tmod 10<10:=Int.tmod_lt_of_pos _ (by omega)
  refine Ag (by omega) (by omega) (rfl) ?_;conv=>whnf
  refine Al (o,0) (coreCells (cnew self first x.abs draw) ⟨x.d,lp,0,0,0,slv0,ox0⟩) rfl fun p h5 n5 s5 k5=>?_;conv=>whnf
  refine Aa rfl (s5 _ _ k13) rfl ?_;conv=>whnf
  refine ACalls.mono (copyB_any h5 (o,3) (sd3.sub s5) hdn) ?_
  rintro v h6 ⟨a6',c6,rfl,ow6,s6⟩
  conv=>whnf
  refine Af rfl rfl rfl ((s6 _ _ k5)) rfl (coreCells (cnew self first x.abs draw) ⟨⟨a6',x.d.n,c6⟩,lp,0,0,0,slv0,ox0⟩) rfl fun h7 t7 k7 a7 e7=>?_;conv=>whnf
  have n3:h3 p=none:=n5
  refine .inr ⟨by rw [hR];rfl,p,rfl,⟨⟨⟨a6',x.d.n,c6⟩,lp,0,0,0,slv0,ox0⟩,k7,ow6.keepT t7 (by simp),KeepT.log (Moves.move l3 fun _ _ _ _ e=>s6 _ _ (s5 _ _ e)) t7, .inl ⟨rfl,rfl,rfl⟩,rfl,fun h' oo=>OutOk.zero h' oo⟩,KK3.trans ((a7 h3 (s5.trans s6) n3).keep _)⟩
theorem ph_len (ps:List PH):∀ e∈ps.map PH.cells,e.length=14:=fun e he=>by obtain ⟨y,_,rfl⟩:=List.mem_map.1 he;rfl
theorem ph_one (ps:List PH):(ps.map PH.cells).flatten.all oneCell=true:=by
 rw [List.all_eq_true];intro x hx
 obtain ⟨l,hl,hx⟩:=List.mem_flatten.1 hx
 obtain ⟨y,_,rfl⟩:=List.mem_map.1 hl
 simp only [PH.cells,List.mem_cons,List.not_mem_nil,or_false] at hx
 rcases hx with rfl | rfl | rfl | rfl | rfl | rfl | rfl | rfl | rfl | rfl | rfl | rfl | rfl | rfl <;> rfl
theorem encs_all1 (es:List EH):(encs es).all oneCell=true:=by
 rw [List.all_eq_true];intro x hx
 obtain ⟨e,_,hx⟩:=List.mem_flatMap.1 hx
 simp only [EH.cells,List.mem_cons,List.not_mem_nil,or_false] at hx
 rcases hx with rfl | rfl | rfl | rfl <;> rfl
theorem Ents.upto {h:Heap} {t td:Tag} {a:Option Addr} {n c:Nat} {es:List EH} (s:Ents h t td a n c es) {k:Nat} (hk:k≤n):Ents h t td a k c (es.take k):=by
 refine ⟨?_,fun e he=>s.good e (List.mem_of_mem_take he),fun e he=>s.small e (List.mem_of_mem_take he)⟩
 have:=s.sl.slice (l:=0) (m:=k) (x:=c) (by omega) hk (by have:=s.sl.le;omega)
 rw [Nat.zero_mul,List.drop_zero,Nat.sub_zero,Nat.sub_zero,slBase_zero,encs_take] at this
 exact this
theorem drop_any {h:Heap} {tg t:Tag} {s:SlV} {ps:List PH} (g:Sl h t s.a s.n s.c 14 (ps.map PH.cells).flatten) (hn:s.n≤1000000) (i:Nat) (hi:i<s.n) :
  ACalls PR 13 #[.slice s.a s.n s.c,I i] h (fun v h'=>∃ s':SlV,v = .slice s'.a s'.n s'.c∧Own h' tg 49 s'.a s'.n s'.c 14 ((dropN ps i).map PH.cells).flatten∧KeepT tg h h'):=by
 have hl:ps.length=s.n:=by
  have:=g.len;rw [flat_len (ph_len ps)] at this;simp at this;omega
 have e1:((ps.map PH.cells).flatten.drop (0*14)).take ((i-0)*14)=((ps.take i).map PH.cells).flatten:=by
  rw [Nat.zero_mul,List.drop_zero,Nat.sub_zero,flat_take (ph_len ps),List.map_take]
 have e2:((ps.map PH.cells).flatten.drop ((i+1)*14)).take ((s.n-(i+1))*14)=((ps.drop (i+1)).map PH.cells).flatten:=by
  rw [flat_drop (ph_len ps),← List.map_drop,List.take_of_length_le]
  rw [flat_len (ph_len _)];simp;omega
 have g1:=g.slice (l:=0) (m:=i) (x:=s.c) (by omega) (by omega) (by have:=g.le;omega)
 rw [e1] at g1
 simp only [slBase_zero,Nat.sub_zero] at g1
 have g2:=g.slice (l:=i+1) (m:=s.n) (x:=s.c) (by omega) (Nat.le_refl _) g.le
 rw [e2] at g2
 have hcap:=g.le
 refine As mix Tryz.func13 rfl rfl Tryz.ntmps13 Tryz.results13 rfl ?_;conv=>whnf
 refine ASlc.upto (z:=14) (m:=i) rfl (by omega) rfl rfl ?_;conv=>whnf
 refine AAppend.own (t:=tg) (E:=49) (z:=14) (by_:=144) (zero:=post0z) (cs:=[]) rfl ⟨_,rfl⟩ rfl rfl rfl rfl (by omega) (.inl ⟨rfl,rfl,rfl⟩) g1 (ph_one _) (by omega) (by omega) fun a1 c1 h1 ow1 t1 s1=>?_
 conv=>whnf
 refine Ag (by omega) (by omega) (rfl) ?_;conv=>whnf
 refine ASlc.from (z:=14) (l:=i+1) (by omega) (by omega) hcap rfl rfl ?_;conv=>whnf
 refine AAppend.own (t:=tg) (E:=49) (z:=14) (by_:=144) (zero:=post0z) rfl ⟨_,rfl⟩ rfl rfl rfl rfl (by omega) ow1 (g2.sub (s1 rfl)) (ph_one _) (by omega) (by omega) fun a2 c2 h2 ow2 t2 _=>?_
 conv=>whnf
 refine ⟨⟨a2,_,c2⟩,rfl,?_,(s1 rfl).keepT _ |>.trans t2⟩
 unfold dropN
 rw [List.map_append,List.flatten_append]
 exact ow2
theorem like_any {h:Heap} {t1 t2:Tag} {a b:EH} (ga:a.Good h t1) (gb:b.Good h t2) (hn:a.n≤4611686018427387904) :
  ACalls PR 19 #[.agg a.cells.toArray, .agg b.cells.toArray] h (fun v h'=>v = .bool (decide (a.abs=b.abs))∧h=h'):=by
 have hno:∀ {q:Prop},¬ q→(a.abs=b.abs→q)→decide (a.abs=b.abs)=false:=fun n f=>decide_eq_false fun c=>n (f c)
 refine Ar (As mix Tryz.func19 rfl rfl Tryz.ntmps19 Tryz.results19 rfl ?_);conv=>whnf
 refine Al (0,1) (a.cells) rfl fun b2 h1 n1 s1 k1=>?_;conv=>whnf
 refine Al (0,1) (b.cells) rfl fun b3 h2 n2 s2 k2=>?_;conv=>whnf
 have s12:=s1.trans s2
 refine Aa rfl (s2 _ _ k1) rfl ?_
 refine Aa rfl k2 rfl ?_;conv=>whnf
 by_cases c1:a.term=b.term
 ·refine Ac (c1) ?_;conv=>whnf
  refine Aa rfl (s2 _ _ k1) rfl ?_
  refine Aa rfl k2 rfl ?_;conv=>whnf
  by_cases c2:a.index=b.index
  ·refine Ac (c2) ?_;conv=>whnf
   refine Aa rfl (s2 _ _ k1) rfl ?_
   refine Aa rfl k2 rfl ?_;conv=>whnf
   by_cases c3:a.kind=b.kind
   ·refine Ac (c3) ?_;conv=>whnf
    refine Aa rfl (s2 _ _ k1) rfl ?_
    refine Aa rfl k2 rfl ?_;conv=>whnf
    refine C2 (eqBytes_any h2 (Sl.sub ga s12) (Sl.sub gb s12) hn) ?_;conv=>whnf
    refine ⟨?_,s12⟩
    congr 1
    unfold EH.abs
    simp only [Prod.mk.injEq,c1,c2,c3,true_and]
   ·refine Ad (c3) ?_;conv=>whnf
    exact ⟨by rw [hno c3 fun e=>congrArg (·.2.2.1) e],s12⟩
  ·refine Ad (c2) ?_;conv=>whnf
   exact ⟨by rw [hno c2 fun e=>congrArg (·.2.1) e],s12⟩
 ·refine Ad (c1) ?_;conv=>whnf
  exact ⟨by rw [hno c1 fun e=>congrArg (·.1) e],s12⟩
def afterH (i t:Int):List EH→List EH
  | []=>[]
  | e::r=>if e.index=i∧e.term=t then r else afterH i t r
theorem afterH_abs (i t:Int):∀ l:List EH,(afterH i t l).map EH.abs=afterE i t (l.map EH.abs)
 | []=>rfl
 | e::r=>by
  rw [List.map_cons]
  unfold afterH afterE
  have:(e.index=i∧e.term=t)↔(e.abs.2.1=i∧e.abs.1=t):=Iff.rfl
  by_cases c:e.index=i∧e.term=t
  ·rw [if_pos c,if_pos (this.1 c)]
  ·rw [if_neg c,if_neg (fun d=>c (this.2 d)),afterH_abs i t r]
theorem afterH_mem {i t:Int}:∀ {l:List EH} {e:EH},e∈afterH i t l→e∈l
 | [],_,h=>by cases h
 | x::r,e,h=>by
  unfold afterH at h
  split at h
  ·exact List.mem_cons_of_mem _ h
  ·exact List.mem_cons_of_mem _ (afterH_mem h)
theorem afterH_len (i t:Int):∀ l:List EH,(afterH i t l).length≤l.length
 | []=>by simp [afterH]
 | x::r=>by
  unfold afterH
  split
  ·simp
  ·have:=afterH_len i t r;simp;omega
theorem snapped_any {h:Heap} (N:Nat) {t1 t2 t3:Tag} {x:SH} (k:x.Ok h t1 t2 t3) (hn:x.e.n≤1000000000) (i tm cr:Int) (d:SlV) :
  ACalls PR 112 #[.agg x.cells.toArray, .agg #[I i,I tm,I cr, .slice d.a d.n d.c]] h (fun v h'=>∃ (e:SlV) (tg:Tag),v = .agg #[I x.term,I x.vote,I i,I tm,I cr, .slice d.a d.n d.c, .slice e.a e.n e.c]∧N≤tg.1 ∧
   Own h' tg 59 e.a e.n e.c 4 (encs (afterH i tm x.es))∧Sub h h'):=by
 refine ACalls.owner ⟨_,Tryz.func112,rfl,rfl⟩ fun o0 ho0 bnd=>?_
 have hl:x.es.length=x.e.n:=k.es.len
 obtain ⟨tg,htg⟩:∃ tg:Tag,tg=(o0+N+1,4):=⟨_,rfl⟩
 have ht0:((0,1):Tag)≠tg:=fun c=>by rw [htg] at c;have:=congrArg Prod.fst c;simp only at this;omega
 have hsub:∀ {h':Heap},KeepT tg h h'→Sub h h':=fun kt b y e=>kt b y.1 y.2 (fun c=>by have:=bnd b y.1 y.2 e;rw [c,htg] at this;simp at this;omega) e
 obtain ⟨out,hout⟩:∃ out,out=afterH i tm x.es:=⟨_,rfl⟩
 rw [← hout]
 refine As mix Tryz.func112 rfl rfl Tryz.ntmps112 Tryz.results112 rfl ?_;conv=>whnf
 refine Al (0,1) (x.cells) rfl fun b2 h1 n1 s1 k1=>?_;conv=>whnf
 refine Al (0,1) ([I i,I tm,I cr, .slice d.a d.n d.c]) rfl fun b3 h2 n2 s2 k2=>?_;conv=>whnf
 refine Ak (0,1) ([I 0,I 0,I 0,I 0,I 0, .slice none 0 0, .slice none 0 0]) rfl fun b4 h3 n3 s3 k3=>?_;conv=>whnf
 have b24:b2≠b4:=fun c=>by rw [c] at k1;rw [s2 _ _ k1] at n3;cases n3
 have b34:b3≠b4:=fun c=>by rw [c] at k2;rw [k2] at n3;cases n3
 have b23:b2≠b3:=fun c=>by rw [c] at k1;rw [k1] at n2;cases n2
 have n2h:h b3=none:=by
  cases e:h b3 with
  | none=>rfl
  | some y=>rw [s1 _ _ e] at n2;cases n2
 have n3h:h b4=none:=by
  cases e:h b4 with
  | none=>rfl
  | some y=>rw [s2 _ _ (s1 _ _ e)] at n3;cases n3
 refine ALoop.mk (fun e h'=>∃ (e0:Env) (j:Nat) (is:Bool) (left:List EH) (ls:SlV),e=updL 52 e0 [(2,Ptr b2),(3,Ptr b3),(4,Ptr b4),(5, .slice ls.a ls.n ls.c),(6, .bool is),(7,I j)]∧j≤x.e.n∧KeepT tg h h' ∧
   h' b2=some (row (0,1) x.cells 34)∧h' b3=some (row (0,1) [I i,I tm,I cr, .slice d.a d.n d.c] 31)∧h' b4=some (row (0,1) [I 0,I 0,I 0,I 0,I 0, .slice none 0 0, .slice none 0 0] 34) ∧
   Own h' tg 59 ls.a ls.n ls.c 4 (encs left)∧left.length≤j∧((is=false∧left=[]∧afterH i tm (x.es.drop j)=out)∨(is=true∧left++x.es.drop j=out)))
  (fun e=>x.e.n-natOf (e 7)) ⟨_,0,false,[],slv0,Au ⟨rfl,rfl,rfl,rfl,rfl,rfl,trivial⟩,by omega,(s1.trans (s2.trans s3)).keepT _,s3 _ _ (s2 _ _ k1),s3 _ _ k2,k3, .inl ⟨rfl,rfl,rfl⟩,by simp, .inl ⟨rfl,rfl,by rw [hout,List.drop_zero]⟩⟩ ?_
 rintro e h' ⟨e0,j,is,left,ls,rfl,hj,kt,q2,q3,q4,ow,hll,st⟩
 have hlsn:ls.n=left.length:=by have:=ow.sl.len;rw [encs_length] at this;omega
 conv=>whnf
 refine Aa rfl q2 rfl ?_;conv=>whnf
 by_cases hjn:j<x.e.n
 ·refine Ac (by omega) ?_;conv=>whnf
  obtain ⟨y,hy⟩:∃ y,x.es[j]? = some y:=⟨x.es[j]'(by omega),by simp⟩
  have hdj:x.es.drop j=y::x.es.drop (j+1):=by
   obtain ⟨h0,h1⟩:=List.getElem?_eq_some_iff.1 hy
   rw [← h1];exact (List.getElem_cons_drop h0).symm
  have my:=List.mem_of_getElem? hy
  rcases st with ⟨rfl,hl0,hst⟩ | ⟨rfl,hst⟩
  ·
   subst hl0
   rw [hdj] at hst
   unfold afterH at hst
   conv=>whnf
   obtain ⟨bb,off,l,E,fz,ea,hb,hc⟩:=(k.es.sl.sub (hsub kt)).pos (by omega)
   have gp:(l.drop (off+j*4)).take 4=y.cells:=by rw [part_of_take hc (by omega),encs_part hy]
   have g1:l[off+j*4+1]? = some (I y.index):=by
    have:=congrArg (·[1]?) gp;simpa [List.getElem?_take,List.getElem?_drop,EH.cells,Nat.add_assoc] using this
   have g0:l[off+j*4+0]? = some (I y.term):=by
    have:=congrArg (·[0]?) gp;simpa [List.getElem?_take,List.getElem?_drop,EH.cells,Nat.add_assoc] using this
   refine Am (h') [] (Sub.refl _) (by decide +kernel) ?_;conv=>whnf
   refine Aa rfl q2 rfl ?_;conv=>whnf
   rw [ea]
   refine Ai rfl hjn rfl rfl ?_;conv=>whnf
   refine Aa rfl hb g1 ?_
   refine Aa rfl q3 rfl ?_;conv=>whnf
   by_cases c1:y.index=i
   ·refine Ac (c1) ?_;conv=>whnf
    refine Aa rfl q2 rfl ?_;conv=>whnf
    rw [ea]
    refine Ai rfl hjn rfl rfl ?_;conv=>whnf
    refine Aa rfl hb g0 ?_
    refine Aa rfl q3 rfl ?_;conv=>whnf
    by_cases c2:y.term=tm
    ·refine Ac (c2) ?_;conv=>whnf
     rw [if_pos ⟨c1,c2⟩] at hst
     refine Ag (by omega) (by omega) ((by omega:(j:Int)+1=((j+1:Nat):Int))) ?_;conv=>whnf
     refine ⟨⟨_,j+1,true,[],ls,Au ⟨rfl,rfl,rfl,rfl,rfl,rfl,trivial⟩,by omega,kt,q2,q3,q4,ow,(by simp),(.inr ⟨rfl,hst⟩)⟩,?_⟩
     show x.e.n-(j+1)<x.e.n-j
     omega
    ·refine Ad (c2) ?_;conv=>whnf
     rw [if_neg (fun c=>c2 c.2)] at hst
     refine Ag (by omega) (by omega) ((by omega:(j:Int)+1=((j+1:Nat):Int))) ?_;conv=>whnf
     refine ⟨⟨_,j+1,false,[],ls,Au ⟨rfl,rfl,rfl,rfl,rfl,rfl,trivial⟩,by omega,kt,q2,q3,q4,ow,(by simp),(.inl ⟨rfl,rfl,hst⟩)⟩,?_⟩
     show x.e.n-(j+1)<x.e.n-j
     omega
   ·refine Ad (c1) ?_;conv=>whnf
    rw [if_neg (fun c=>c1 c.1)] at hst
    refine Ag (by omega) (by omega) ((by omega:(j:Int)+1=((j+1:Nat):Int))) ?_;conv=>whnf
    refine ⟨⟨_,j+1,false,[],ls,Au ⟨rfl,rfl,rfl,rfl,rfl,rfl,trivial⟩,by omega,kt,q2,q3,q4,ow,(by simp),(.inl ⟨rfl,rfl,hst⟩)⟩,?_⟩
    show x.e.n-(j+1)<x.e.n-j
    omega
  ·conv=>whnf
   obtain ⟨bb,off,l,E,fz,ea,hb,hc⟩:=(k.es.sl.sub (hsub kt)).pos (by omega)
   have gp:(l.drop (off+j*4)).take 4=y.cells:=by rw [part_of_take hc (by omega),encs_part hy]
   refine Aa rfl q2 rfl ?_;conv=>whnf
   rw [ea]
   refine Ai rfl hjn rfl rfl ?_;conv=>whnf
   refine Ab rfl hb gp rfl ?_;conv=>whnf
   refine Ap (0,1) y.cells rfl rfl rfl rfl rfl rfl rfl fun b6 h5 n5 s5 k6=>?_;conv=>whnf
   refine AAppend.own (t:=tg) (E:=59) (z:=4) (by_:=48) (zero:=[I 0,I 0,I 0, .slice none 0 0]) (tx:=(0,1)) (xs:=y.cells) rfl ⟨_,rfl⟩ rfl rfl rfl rfl (by omega) (ow.move fun _ _ e=>s5 _ _ e)
    ⟨rfl,Nat.le_refl _, .inr ⟨b6,0,_,_,_,rfl,k6,rfl⟩⟩ rfl (by omega) (by omega) fun a7 c7 h7 ow7 t7 _=>?_
   conv=>whnf
   refine Am (h7) [] (Sub.refl _) (by decide +kernel) ?_;conv=>whnf
   rw [hdj] at hst
   have e7:encs left++y.cells=encs (left++[y]):=by simp [encs]
   rw [e7] at ow7
   refine Ag (by omega) (by omega) ((by omega:(j:Int)+1=((j+1:Nat):Int))) ?_;conv=>whnf
   refine ⟨⟨_,j+1,true,(left++[y]),⟨a7,ls.n+1,c7⟩,Au ⟨rfl,rfl,rfl,rfl,rfl,rfl,trivial⟩,by omega,(kt.trans ((s5.keepT _).trans t7)),(t7.get ht0 (s5 _ _ q2)),(t7.get ht0 (s5 _ _ q3)),(t7.get ht0 (s5 _ _ q4)),ow7,(by simp;omega),(.inr ⟨rfl,by rw [List.append_assoc];exact hst⟩)⟩,?_⟩
   show x.e.n-(j+1)<x.e.n-j
   omega
 ·refine Ad (by omega) ?_;conv=>whnf
  have hjj:j=x.e.n:=by omega
  have hdn:x.es.drop j=[]:=List.drop_of_length_le (by omega)
  have hfin:left=out:=by
   rcases st with ⟨_,hl0,hst⟩ | ⟨_,hst⟩
   ·rw [hdn] at hst;rw [hl0,← hst];rfl
   ·rw [hdn,List.append_nil] at hst;exact hst
  subst hfin
  refine Ab rfl q3 rfl rfl ?_;conv=>whnf
  refine Ae rfl rfl rfl (q2) rfl ([I x.term,I x.vote,I i,I tm,I cr, .slice d.a d.n d.c, .slice x.e.a x.e.n x.e.c]) rfl fun h5 t5 k5 a5 e5=>?_;conv=>whnf
  refine Af rfl rfl rfl (k5) rfl ([I x.term,I x.vote,I i,I tm,I cr, .slice d.a d.n d.c, .slice ls.a ls.n ls.c]) rfl fun h6 t6 k6 a6 e6=>?_;conv=>whnf
  refine Ab rfl k6 rfl rfl ?_;conv=>whnf
  refine Ae rfl rfl rfl ((e6 _ _ (Ne.symm b24) (e5 _ _ (Ne.symm b24) q4))) rfl ([I x.term,I x.vote,I i,I tm,I cr, .slice d.a d.n d.c, .slice ls.a ls.n ls.c]) rfl fun h7 t7 k7 a7 e7=>?_;conv=>whnf
  refine Ab rfl k7 rfl rfl ?_;conv=>whnf
  refine ⟨ls,tg,rfl,by rw [htg];show N≤o0+N+1;omega,((ow.keepT t5 (Ne.symm ht0)).keepT t6 (Ne.symm ht0)).keepT t7 (Ne.symm ht0),?_⟩
  exact a7 h (a6 h (a5 h (hsub kt) (by cases e:h b2 with | none=>rfl | some y=>rw [e] at n1;cases n1)) n1) n3h
section
def kvG {α:Type} (f:α→Value) (l:List (Int×α)):List (Value×Value):=l.map fun y=>(I y.1,f y.2)
theorem kvG_miss {α:Type} {f:α→Value} {k:Int}:∀ {l:List (Int×α)} {es:List MapEntry},es.map kv=kvG f l→alook k l=none→∀ e∈es,e.key≠I k
 | [],es,h,_,e,he=>by
  have:es=[]:=List.map_eq_nil_iff.1 h
  rw [this] at he;cases he
 | (j,y)::l,es,h,hn,e,he=>by
  cases es with
  | nil=>cases he
  | cons e1 es =>
   simp only [kvG,List.map_cons,List.cons.injEq,Prod.mk.injEq,kv] at h
   obtain ⟨⟨h1,h2⟩,h3⟩:=h
   unfold alook at hn
   split at hn
   ·cases hn
   rename_i hj
   rcases List.mem_cons.1 he with rfl | he
   ·rw [h1];intro c;simp only [Value.int.injEq,true_and] at c;exact hj c
   ·exact kvG_miss (f:=f) h3 hn e he
theorem kvG_hit {α:Type} {f:α→Value} {k:Int} {o:α}:∀ {l:List (Int×α)} {es:List MapEntry},es.map kv=kvG f l→alook k l=some o →
  ∃ (j:Nat) (e:MapEntry),es[j]? = some e∧e.key=I k∧e.val=f o∧∀ x:α,(es.set j {e with val:=f x}).map kv=kvG f (aset k x l)
 | [],es,h,hn=>by cases hn
 | (j,y)::l,es,h,hn=>by
  cases es with
  | nil=>simp [kvG] at h
  | cons e1 es =>
   simp only [kvG,List.map_cons,List.cons.injEq,Prod.mk.injEq,kv] at h
   obtain ⟨⟨h1,h2⟩,h3⟩:=h
   unfold alook at hn
   split at hn
   ·rename_i hj
    cases hn
    refine ⟨0,e1,rfl,by rw [h1,hj],h2,fun x=>?_⟩
    unfold aset
    rw [if_pos hj]
    simp only [List.set_cons_zero,List.map_cons,kvG,kv,h1]
    rw [show es.map (fun e=>(e.key,e.val))=l.map (fun y=>(I y.1,f y.2)) from h3]
   ·rename_i hj
    obtain ⟨i,e,a,b,c,d⟩:=kvG_hit (f:=f) h3 hn
    refine ⟨i+1,e,a,b,c,fun x=>?_⟩
    unfold aset
    rw [if_neg hj]
    simp only [List.set_cons_succ,List.map_cons,kvG,kv,h1,h2]
    have:=d x
    unfold kvG at this
    rw [show (es.set i {e with val:=f x}).map (fun e=>(e.key,e.val))=_ from this]
theorem kvG_new {α:Type} {f:α→Value} {k:Int} {x:α} {clock:Nat}:∀ {l:List (Int×α)} {es:List MapEntry},es.map kv=kvG f l→alook k l=none→(es++[(⟨I k,f x,clock⟩:MapEntry)]).map kv=kvG f (aset k x l)
 | [],es,h,_=>by
  have:es=[]:=List.map_eq_nil_iff.1 h
  rw [this];rfl
 | (j,y)::l,es,h,hn=>by
  cases es with
  | nil=>simp [kvG] at h
  | cons e1 es =>
   simp only [kvG,List.map_cons,List.cons.injEq] at h
   unfold alook at hn
   split at hn
   ·cases hn
   rename_i hj
   unfold aset
   rw [if_neg hj]
   have:=kvG_new (f:=f) (x:=x) (clock:=clock) (es:=es) h.2 hn
   simp only [List.cons_append,List.map_cons,kvG] at this ⊢
   rw [this,h.1]
theorem alook_map {α β:Type} (f:α→β) (k:Int):∀ l:List (Int×α),alook k (l.map fun y=>(y.1,f y.2))=(alook k l).map f
 | []=>rfl
 | (j,y)::l=>by
  rw [List.map_cons]
  unfold alook
  simp only []
  split
  ·rfl
  ·exact alook_map f k l
theorem aset_map {α β:Type} (f:α→β) (k:Int) (x:α):∀ l:List (Int×α),(aset k x l).map (fun y=>(y.1,f y.2))=aset k (f x) (l.map fun y=>(y.1,f y.2))
 | []=>rfl
 | (j,y)::l=>by
  rw [List.map_cons]
  unfold aset
  simp only []
  split
  ·rfl
  ·rw [List.map_cons,aset_map f k x l]
theorem aset_mem {α:Type} {k:Int} {x:α} {y:Int×α}:∀ {l:List (Int×α)},y∈aset k x l→y.2=x∨y∈l
 | [],h=>by rw [List.mem_singleton.1 h];exact .inl rfl
 | (j,z)::l,h=>by
  unfold aset at h
  split at h
  ·rcases List.mem_cons.1 h with rfl | h
   ·exact .inl rfl
   ·exact .inr (List.mem_cons_of_mem _ h)
  ·rcases List.mem_cons.1 h with rfl | h
   ·exact .inr (by simp)
   ·exact (aset_mem h).imp id (List.mem_cons_of_mem _)
theorem alook_mem {α:Type} {k:Int} {x:α}:∀ {l:List (Int×α)},alook k l=some x→(k,x)∈l
 | [],h=>by cases h
 | (j,z)::l,h=>by
  unfold alook at h
  split at h
  ·rename_i e;cases h;rw [e];simp
  ·exact List.mem_cons_of_mem _ (alook_mem h)
theorem AMapUpd.hitN {P:Program} {t kt et:TypeId} {d:TypeDesc} {h:Heap} {r clock:Nat} {tg:Tag} {es:List MapEntry} {k x:Value} {K:Heap→Prop} {j:Nat} {e:MapEntry} (m:MapAt h r tg d es clock)
  (ht:P.underlying t=some (.map kt et)) (hd:P.underlying kt=some d) (hj:es[j]? = some e) (hk:e.key=k)
  (c:∀ h2,MapAt h2 r tg d (es.set j {e with val:=x}) clock→KeepT tg h h2→K h2):AMapUpd P t r k x h K :=
 AMapUpd.hit m ht hd hj hk fun mm=>c _ mm (KeepT.set m.at_)
theorem AMapUpd.missN {P:Program} {t kt et:TypeId} {d:TypeDesc} {h:Heap} {r clock:Nat} {tg:Tag} {es:List MapEntry} {k x:Value} {K:Heap→Prop} (m:MapAt h r tg d es clock)
  (ht:P.underlying t=some (.map kt et)) (hd:P.underlying kt=some d) (hik:Go.MapKept.IsKey d k) (hk:∀ e∈es,e.key≠k)
  (c:∀ h2,MapAt h2 r tg d (es++[(⟨k,x,clock⟩:MapEntry)]) (clock+1)→KeepT tg h h2→K h2):AMapUpd P t r k x h K :=
 AMapUpd.miss m ht hd hik hk fun mm=>c _ mm (KeepT.set m.at_)
theorem Idle.x {T:TypeId} {LP:Heap→Nat→Nat→LG→Prop} {h:Heap} {p o:Nat} {c:CoreM} (k:Idle T LP h p o c):∃ x,CoreX T LP h p o 1 c x:=k.all 1
theorem state_i {h:Heap} {p o:Nat} {c:CoreM} (k:PIdle h p o c):ACalls PR 18 #[Ptr p] h (fun v h'=>v=I c.state∧h=h'):=by
 obtain ⟨x,k⟩:=k.x;exact State_any k
theorem term_i {h:Heap} {p o:Nat} {c:CoreM} (k:PIdle h p o c):ACalls PR 17 #[Ptr p] h (fun v h'=>v=I c.term∧h=h'):=by
 obtain ⟨x,k⟩:=k.x;exact CTerm_any k
theorem commit_i {h:Heap} {p o:Nat} {c:CoreM} (k:PIdle h p o c):ACalls PR 14 #[Ptr p] h (fun v h'=>v=I c.commit∧h=h'):=by
 obtain ⟨x,k⟩:=k.x;exact Commit_any k
variable {h h':Heap} {N p:Nat} {x:NetM} {v:NX}
theorem NetX.same (k:NetX h N p x v) (kt:KeepT (N,0) h h') (hs:h' p=some (row (N,0) (netCells x v) 41)):NetX h' N p x v :=
 k.move' (fun b t y _ n e=>kt _ _ _ n e) hs rfl rfl rfl rfl rfl rfl rfl
theorem NetX.ledSet (k:NetX h N p x v) (kt:KeepT (N,1) h h') {e1:List MapEntry} {k1:Nat} {l:List (Int×Int)} (m:MapAt h' v.m1 (N,1) (.int .i64) e1 k1) (e:e1.map kv=kvI l) :
  NetX h' N p {x with leaders:=l} {v with e1:=e1,k1:=k1}:=by
 have mv:∀ b (t:Tag) y,t≠(N,1)→h b=some (t,y)→h' b=some (t,y):=fun b t y n e=>kt _ _ _ n e
 refine ⟨k.n0,mv _ _ _ (by simp) k.str,k.sz3,k.sz5,fun n n1 n2=>?_,k.none,fun n n1 n2=>?_,k.ml.move fun _ _ e=>mv _ _ _ (by simp) e,k.pa,fun y hy=>?_,k.mb,m,e,k.cho.move fun _ e=>mv _ _ _ (by simp) e,k.choE,k.choA,fun y hy=>Sl.move (k.choG y hy) fun _ _ e=>mv _ _ _ (by simp) e⟩
 ·obtain ⟨b,hb,id⟩:=k.cores n n1 n2
  exact ⟨b,hb,id.move fun _ t _ ht e=>mv _ _ _ (fun c=>by rw [c] at ht;simp only at ht;omega) e⟩
 ·obtain ⟨q1,t1,q2,q3⟩:=k.kept n n1 n2
  exact ⟨q1,t1,q2,q3.move fun _ t _ ht e=>mv _ _ _ (by rcases ht with rfl | rfl | rfl <;> (intro c;have:=congrArg Prod.fst c;have:=congrArg Prod.snd c;simp only at *;omega)) e⟩
 ·obtain ⟨r,hr⟩:=k.ps y hy
  exact ⟨r,hr.move fun _ t _ ht e=>mv _ _ _ (by rcases ht with rfl | rfl | rfl <;> simp) e⟩
theorem NetX.choSet (k:NetX h N p x v) (kt:KeepT (N,2) h h') {e2:List MapEntry} {k2:Nat} {l:List (Int×EH)} (m:MapAt h' v.m2 (N,2) (.int .i64) e2 k2) (e:e2.map kv=kvE l) {l':List (Int×Abs)} (el:l.map (fun y=>(y.1,y.2.abs))=l') (g:∀ y∈l,y.2.Good h (N+1,2)) :
  NetX h' N p {x with chosen:=l'} {v with e2:=e2,k2:=k2,ch:=l}:=by
 have mv:∀ b (t:Tag) y,t≠(N,2)→h b=some (t,y)→h' b=some (t,y):=fun b t y n e=>kt _ _ _ n e
 refine ⟨k.n0,mv _ _ _ (by simp) k.str,k.sz3,k.sz5,fun n n1 n2=>?_,k.none,fun n n1 n2=>?_,k.ml.move fun _ _ e=>mv _ _ _ (by simp) e,k.pa,fun y hy=>?_,k.mb,k.led.move fun _ e=>mv _ _ _ (by simp) e,k.ledE,m,e,el,fun y hy=>Sl.move (g y hy) fun _ _ e=>mv _ _ _ (by simp) e⟩
 ·obtain ⟨b,hb,id⟩:=k.cores n n1 n2
  exact ⟨b,hb,id.move fun _ t _ ht e=>mv _ _ _ (fun c=>by rw [c] at ht;simp only at ht;omega) e⟩
 ·obtain ⟨q1,t1,q2,q3⟩:=k.kept n n1 n2
  exact ⟨q1,t1,q2,q3.move fun _ t _ ht e=>mv _ _ _ (by rcases ht with rfl | rfl | rfl <;> (intro c;have:=congrArg Prod.fst c;have:=congrArg Prod.snd c;simp only at *;omega)) e⟩
 ·obtain ⟨r,hr⟩:=k.ps y hy
  exact ⟨r,hr.move fun _ t _ ht e=>mv _ _ _ (by rcases ht with rfl | rfl | rfl <;> simp) e⟩
structure LookOk (x:NetM) (n:Int):Prop where
  f1:(x.cores.get n).state=2→∀ o,alook (x.cores.get n).term x.leaders=some o→o=n
  f2:x.commits.get n≤(x.cores.get n).commit
  f3:x.terms.get n≤(x.cores.get n).term
  es:(lookEs (x.cores.get n).commit (x.kept.get n).entries (true,x.chosen)).1=true
  top:(x.cores.get n).commit≤(x.kept.get n).snap.index+(x.kept.get n).entries.length
  s0:0≤(x.kept.get n).snap.index
  s1:(x.kept.get n).snap.index≤1000000000
  len:(x.kept.get n).entries.length≤1000000000
  fine:x.fine=true
theorem lookEs_false (commit:Int):∀ (l:List Abs) (ch:List (Int×Abs)),(lookEs commit l (false,ch)).1=false
 | [],ch=>rfl
 | e::l,ch=>by
  unfold lookEs
  split
  ·rfl
  ·exact lookEs_false commit l _
theorem lookEs_head {commit:Int} {e:Abs} {l:List Abs} {ch:List (Int×Abs)} (k:(lookEs commit (e::l) (true,ch)).1=true) (hc:¬ commit<e.2.1) :
  agreeE (alook e.2.1 ch) e=true∧lookEs commit (e::l) (true,ch)=lookEs commit l (true,aset e.2.1 e ch):=by
 have e1:lookEs commit (e::l) (true,ch)=lookEs commit l (true&&agreeE (alook e.2.1 ch) e,aset e.2.1 e ch):=if_neg hc
 rw [e1] at k ⊢
 cases ha:agreeE (alook e.2.1 ch) e with
 | true=>exact ⟨rfl,rfl⟩
 | false=>rw [ha] at k;simp only [Bool.and_false] at k;rw [lookEs_false] at k;cases k
theorem look_eq (x:NetM) (n:Int) (k:LookOk x n):x.look n={x with
  leaders:=if (x.cores.get n).state=2 then aset (x.cores.get n).term n x.leaders else x.leaders,
  chosen:=(lookEs (x.cores.get n).commit (x.kept.get n).entries (true,x.chosen)).2,
  commits:=x.commits.set n (x.cores.get n).commit,terms:=x.terms.set n (x.cores.get n).term}:=by
 have f1:(if (x.cores.get n).state=2 then agreeI (alook (x.cores.get n).term x.leaders) n else true)=true:=by
  split
  ·rename_i h2
   cases ho:alook (x.cores.get n).term x.leaders with
   | none=>rfl
   | some o=>exact decide_eq_true (k.f1 h2 o ho)
  ·rfl
 have f2:(decide (x.commits.get n≤(x.cores.get n).commit)&&decide (x.terms.get n≤(x.cores.get n).term))=true:=by
  rw [decide_eq_true k.f2,decide_eq_true k.f3];rfl
 unfold NetM.look
 simp only []
 rw [k.fine,f1,f2,Bool.true_and,Bool.true_and,k.es,decide_eq_true k.top,Bool.and_self]
theorem look_any (k:NetX h N p x v) {n:Int} (n1:1≤n) (n2:n≤x.size) (ok:LookOk x n) :
  ACalls PR 124 #[Ptr p,I n] h (fun r h'=>r = .tuple #[]∧(∃ v',NetX h' N p (x.look n) v')∧Low N h h'):=by
 rw [look_eq x n ok]
 have hN:=k.n0
 have hs5:=k.sz5
 have n5:n≤5:=by omega
 obtain ⟨m,hm⟩:∃ m:Nat,n=m:=⟨n.toNat,by omega⟩
 obtain ⟨b,hb,id⟩:=k.cores n n1 n2
 obtain ⟨ka,t1,kt1,kok⟩:=k.kept n n1 n5
 obtain ⟨c,hc⟩:∃ c,c=x.cores.get n:=⟨_,rfl⟩
 obtain ⟨s,hs⟩:∃ s,s=v.ke.get n:=⟨_,rfl⟩
 rw [← hs] at ka kok
 have o1:=ok.f1;have o2:=ok.f2;have o3:=ok.f3;have o4:=ok.es;have o5:=ok.top;have o6:=ok.s0;have o7:=ok.s1;have o8:=ok.len
 rw [← ka] at o4 o5 o6 o7 o8 ⊢
 rw [← hc] at o1 o2 o3 o4 o5 id ⊢
 have hsl:s.es.length=s.e.n:=kok.es.len
 have hlen:s.abs.entries.length=s.e.n:=by show (s.es.map EH.abs).length=_;rw [List.length_map,hsl]
 have hse:s.abs.entries=s.es.map EH.abs:=rfl
 have hsi:s.abs.snap.index=s.si:=rfl
 rw [hlen,hsi] at o5
 rw [hsi] at o6 o7
 rw [hlen] at o8
 have hcore:(netCells x v)[0+2+m*1]? = some (Ptr b):=by
  have:=core_cell x v n1 n5
  rw [hb] at this
  rw [show 0+2+m*1=2+n.toNat by omega];exact this
 have t01:((0,1):Tag)≠(N,0):=fun c=>by have:=congrArg Prod.fst c;simp only at this;omega
 obtain ⟨LL,hLL⟩:∃ LL,LL=if c.state=2 then aset c.term n x.leaders else x.leaders:=⟨_,rfl⟩
 rw [← hLL]
 refine At mix Tryz.func124 rfl rfl Tryz.ntmps124 Tryz.results124 rfl ?_;conv=>whnf
 refine Aj (n:=6) (z:=1) (j:=m) (by omega) (by omega) rfl rfl ?_;conv=>whnf
 refine Aa rfl k.str hcore ?_;conv=>whnf
 refine AIf.cut (fun e h'=>∃ (e0:Env) (V1:NX),e=updL 172 e0 [(0,Ptr p),(1,I n),(4,Ptr b)]∧NetX h' N p {x with leaders:=LL} V1∧V1.cp=v.cp∧V1.ke=v.ke∧V1.k2=v.k2∧V1.ch=v.ch∧Low N h h') ?_ ?_
 ·conv=>whnf
  refine C2 (state_i id) ?_;conv=>whnf
  by_cases c2:c.state=2
  ·refine Ac (c2) ?_;conv=>whnf
   rw [if_pos c2] at hLL
   refine Av ?_;conv=>whnf
   refine Am (h) [] (Sub.refl _) (by decide +kernel) ?_;conv=>whnf
   refine Aa rfl k.str rfl ?_;conv=>whnf
   refine C2 (term_i id) ?_;conv=>whnf
   refine ⟨Sub.refl _,?_⟩;conv=>whnf
   cases ho:alook c.term x.leaders with
   | none =>
    refine ALookup.miss k.led rfl rfl rfl rfl (kvG_miss (f:=I) k.ledE ho) ?_
    conv=>whnf
    refine Av ?_;conv=>whnf
    refine Aa rfl k.str rfl ?_;conv=>whnf
    have EE:(v.e1++[(⟨I c.term,I n,v.k1⟩:MapEntry)]).map kv=kvI (aset c.term n x.leaders):=kvG_new (f:=I) k.ledE ho
    refine Af rfl rfl rfl (k.str) rfl (netCells x v) rfl fun h2 t2 q2 a2 e2=>?_;conv=>whnf
    have k2:=k.same t2 q2
    have id2:PIdle h2 b (N+2*n.toNat) c:=id.move fun _ t _ ht e=>t2 _ _ _ (fun c=>by rw [c] at ht;simp only at ht;omega) e
    refine An (h2) [7] [0,1,2,3,4,6,5,7] (Sub.refl _) (by decide +kernel) ?_;conv=>whnf
    refine Aa rfl k2.str rfl ?_;conv=>whnf
    refine C2 (term_i id2) ?_;conv=>whnf
    refine ⟨Sub.refl _,?_⟩;conv=>whnf
    refine AMapUpd.missN k2.led rfl rfl rfl (kvG_miss (f:=I) k2.ledE ho) fun h3 mm t3=>?_;conv=>whnf
    have K1:=k2.ledSet t3 mm EE
    have L1:Low N h h3:=Low.trans (show Low N h h2 from fun b t y ht e=>t2 _ _ _ (fun c=>by rw [c] at ht;simp at ht) e) fun b t y ht e=>t3 _ _ _ (fun c=>by rw [c] at ht;simp at ht) e
    exact ⟨_,{v with e1:=(v.e1++[(⟨I c.term,I n,v.k1⟩:MapEntry)]),k1:=(v.k1+1)},Au ⟨rfl,rfl,rfl,trivial⟩,by rw [hLL];exact K1,rfl,rfl,rfl,rfl,L1⟩
   | some o =>
    have hon:=(o1 c2 o ho).symm
    subst hon
    obtain ⟨i,e1,g1,g2,g3,g4⟩:=kvG_hit (f:=I) k.ledE ho
    refine ALookup.hit k.led rfl rfl (List.mem_of_getElem? g1) g2 ?_
    rw [g3]
    conv=>whnf
    refine Av ?_;conv=>whnf
    refine Aa rfl k.str rfl ?_;conv=>whnf
    refine Ac (rfl) ?_;conv=>whnf
    have EE:(v.e1.set i {e1 with val:=I n}).map kv=kvI (aset c.term n x.leaders):=g4 n
    refine Af rfl rfl rfl (k.str) rfl (netCells x v) rfl fun h2 t2 q2 a2 e2=>?_;conv=>whnf
    have k2:=k.same t2 q2
    have id2:PIdle h2 b (N+2*n.toNat) c:=id.move fun _ t _ ht e=>t2 _ _ _ (fun c=>by rw [c] at ht;simp only at ht;omega) e
    refine An (h2) [7] [0,1,2,3,4,6,5,7] (Sub.refl _) (by decide +kernel) ?_;conv=>whnf
    refine Aa rfl k2.str rfl ?_;conv=>whnf
    refine C2 (term_i id2) ?_;conv=>whnf
    refine ⟨Sub.refl _,?_⟩;conv=>whnf
    refine AMapUpd.hitN k2.led rfl rfl g1 g2 fun h3 mm t3=>?_;conv=>whnf
    have K1:=k2.ledSet t3 mm EE
    have L1:Low N h h3:=Low.trans (show Low N h h2 from fun b t y ht e=>t2 _ _ _ (fun c=>by rw [c] at ht;simp at ht) e) fun b t y ht e=>t3 _ _ _ (fun c=>by rw [c] at ht;simp at ht) e
    exact ⟨_,{v with e1:=(v.e1.set i {e1 with val:=I n}),k1:=v.k1},Au ⟨rfl,rfl,rfl,trivial⟩,by rw [hLL];exact K1,rfl,rfl,rfl,rfl,L1⟩
  ·refine Ad (c2) ?_;conv=>whnf
   rw [if_neg c2] at hLL
   have L1:=Low.refl N h
   have K1:=k
   exact ⟨_,v,Au ⟨rfl,rfl,rfl,trivial⟩,by rw [hLL];exact K1,rfl,rfl,rfl,rfl,L1⟩
 rintro e H1 ⟨e1,V1,rfl,K1,V1c,V1k,V12,V1h,L1⟩
 conv=>whnf
 have id1:PIdle H1 b (N+2*n.toNat) c:=by
  obtain ⟨b',hb',id'⟩:=K1.cores n n1 n2
  rw [V1c,hb] at hb';cases hb';rw [hc];exact id'
 have hcm:(netCells {x with leaders:=LL} V1)[0+54+m*1]? = some (I (x.commits.get n)):=by
  rw [show 0+54+m*1=54+n.toNat by omega];exact cm_cell {x with leaders:=LL} V1 n1 n5
 have htm:(netCells {x with leaders:=LL} V1)[0+60+m*1]? = some (I (x.terms.get n)):=by
  rw [show 0+60+m*1=60+n.toNat by omega];exact tm_cell {x with leaders:=LL} V1 n1 n5
 refine Av ?_;conv=>whnf
 refine An (H1) [29] [0,1,2,3,4,5,6,8,9,10,11,12,13,7,14,15,16,17,19,20,21,22,23,24,18,25,26,27,28,29] (Sub.refl _) (by decide +kernel) ?_;conv=>whnf
 refine Aa rfl K1.str rfl ?_;conv=>whnf
 refine Aj (n:=6) (z:=1) (j:=m) (by omega) (by omega) rfl rfl ?_;conv=>whnf
 refine Aa rfl K1.str hcm ?_;conv=>whnf
 refine C2 (commit_i id1) ?_;conv=>whnf
 refine ⟨Sub.refl _,?_⟩;conv=>whnf
 refine Ac (o2) ?_;conv=>whnf
 refine Aj (n:=6) (z:=1) (j:=m) (by omega) (by omega) rfl rfl ?_;conv=>whnf
 refine Aa rfl K1.str htm ?_;conv=>whnf
 refine C2 (term_i id1) ?_;conv=>whnf
 refine ⟨Sub.refl _,?_⟩;conv=>whnf
 refine Ac (o3) ?_;conv=>whnf
 refine Af rfl rfl rfl (K1.str) rfl (netCells {x with leaders:=LL} V1) rfl fun h2 t2 q2 a2 e2=>?_;conv=>whnf
 have K2:=K1.same t2 q2
 have L2:Low N h h2:=L1.trans fun b t y ht e=>t2 _ _ _ (fun c=>by rw [c] at ht;simp at ht) e
 refine Aj (n:=6) (z:=7) (j:=m) (by omega) (by omega) rfl rfl ?_;conv=>whnf
 have hke:((netCells {x with leaders:=LL} V1).drop (0+8+m*7)).take 7=s.cells:=by
  rw [show 0+8+m*7=8+n.toNat*7 by omega,kept_cells {x with leaders:=LL} V1 n1 n5,V1k,hs]
 refine Ab rfl q2 hke rfl ?_;conv=>whnf
 refine Ak (0,1) ([I 0,I 0,I 0,I 0,I 0, .slice none 0 0, .slice none 0 0]) rfl fun b7 h3 n3 s3 q3=>?_;conv=>whnf
 refine Ae rfl rfl rfl (q3) rfl (s.cells) rfl fun h4 t4 q4 a4 e4=>?_;conv=>whnf
 have K4:=(K2.sub s3).local t4
 have L4:Low N h h4:=L2.trans (Sub.low (a4 h2 s3 n3))
 clear t2 q2 a2 e2 K2 L2 n3 s3 q3 t4 a4 e4
 refine ALoop.mk (fun e h'=>∃ (e0:Env) (j:Nat) (ch:List (Int×Abs)) (v':NX),e=updL 172 e0 [(0,Ptr p),(1,I n),(4,Ptr b),(7,Ptr b7),(8,I j)]∧j≤s.e.n∧Low N h h'∧h' b7=some (row (0,1) s.cells 34) ∧
   NetX h' N p {x with leaders:=LL,chosen:=ch} v'∧v'.cp=v.cp∧v'.ke=v.ke∧lookEs c.commit s.abs.entries (true,x.chosen)=lookEs c.commit ((s.es.drop j).map EH.abs) (true,ch))
  (fun e=>s.e.n-natOf (e 8)) ⟨_,0,x.chosen,V1,Au ⟨rfl,rfl,rfl,rfl,rfl,trivial⟩,by omega,L4,q4,K4,V1c,V1k,by rw [List.drop_zero,hse]⟩ ?_
 clear q4 K4 L4
 rintro e h' ⟨e0,j,ch,v',rfl,hj,L5,q5,K5,vc,vk,st⟩
 have hcm:∀ y,(netCells {x with leaders:=LL,chosen:=y} v')[0+54+m*1]? = some (I (x.commits.get n)):=fun y=>by
  rw [show 0+54+m*1=54+n.toNat by omega];exact cm_cell _ v' n1 n5
 have id5:PIdle h' b (N+2*n.toNat) c:=by
  obtain ⟨b',hb',id'⟩:=K5.cores n n1 n2
  rw [vc,hb] at hb';cases hb';rw [hc];exact id'
 conv=>whnf
 refine Av ?_;conv=>whnf
 refine Aa rfl q5 rfl ?_;conv=>whnf
 by_cases hjn:j<s.e.n
 ·refine Ac (by omega) ?_;conv=>whnf
  refine Av ?_;conv=>whnf
  obtain ⟨y,hy⟩:∃ y,s.es[j]? = some y:=⟨s.es[j]'(by omega),by simp⟩
  have hdj:s.es.drop j=y::s.es.drop (j+1):=by
   obtain ⟨h0,h1⟩:=List.getElem?_eq_some_iff.1 hy
   rw [← h1];exact (List.getElem_cons_drop h0).symm
  have my:=List.mem_of_getElem? hy
  obtain ⟨ka5,t15,kt15,kok5⟩:=K5.kept n n1 n5
  rw [vk,← hs] at kok5
  obtain ⟨bb,off,l,E,fz,ea,hbb,hcc⟩:=kok5.es.sl.pos (by omega)
  have gp:(l.drop (off+j*4)).take 4=y.cells:=by rw [part_of_take hcc (by omega),encs_part hy]
  refine Aa rfl q5 rfl ?_;conv=>whnf
  rw [ea]
  refine Ai rfl hjn rfl rfl ?_;conv=>whnf
  refine Ab rfl hbb gp rfl ?_;conv=>whnf
  refine Ak (0,1) ([I 0,I 0,I 0, .slice none 0 0]) rfl fun b9 h10 n10 s10 q10=>?_;conv=>whnf
  refine Ae rfl rfl rfl (q10) rfl (y.cells) rfl fun h11 t11 q11 a11 e11=>?_;conv=>whnf
  have s11:Sub h' h11:=a11 h' s10 n10
  have K11:=K5.sub s11
  have L11:Low N h h11:=L5.trans s11.low
  have id11:=id5.move fun _ _ _ _ e=>s11 _ _ e
  have q511:=s11 _ _ q5
  have gy:y.Good h11 (N+1,2):=Sl.sub (kok5.es.good y my) s11
  have hyn:=kok5.es.small y my
  clear K5 id5 L5 q5 hbb n10 s10 q10 t11 a11 e11 s11 kok5 ka5
  rw [hdj,List.map_cons] at st
  have hya:y.abs.2.1=y.index:=rfl
  refine Av ?_;conv=>whnf
  refine Av ?_;conv=>whnf
  refine Am (h11) [] (Sub.refl _) (by decide +kernel) ?_;conv=>whnf
  refine Aa rfl q11 rfl ?_;conv=>whnf
  refine C2 (commit_i id11) ?_;conv=>whnf
  refine ⟨Sub.refl _,?_⟩;conv=>whnf
  by_cases c1:c.commit<y.index
  ·refine Ac (c1) ?_;conv=>whnf
   have FIN:(lookEs c.commit s.abs.entries (true,x.chosen)).2=ch:=by
    rw [st];unfold lookEs;rw [if_pos (by rw [hya];exact c1)]
   have h6:=h11
   have K6:=K11
   have q6:=q511
   have L6:=L11
   have id6:PIdle h11 b (N+2*n.toNat) c:=by
    obtain ⟨b',hb',id'⟩:=K6.cores n n1 n2
    rw [vc,hb] at hb';cases hb';rw [hc];exact id'
   refine Av ?_;conv=>whnf
   refine Am (h11) [19] (Sub.refl _) (by decide +kernel) ?_;conv=>whnf
   refine Aa rfl K6.str rfl ?_
   refine Aa rfl q6 rfl ?_
   refine Aa rfl q6 rfl ?_;conv=>whnf
   refine Ag (by omega) (by omega) (rfl) ?_;conv=>whnf
   refine C2 (commit_i id6) ?_;conv=>whnf
   refine ⟨Sub.refl _,?_⟩;conv=>whnf
   refine Ac (o5) ?_;conv=>whnf
   refine Af rfl rfl rfl (K6.str) rfl (netCells {x with leaders:=LL,chosen:=ch} v') rfl fun h7 t7 q7 a7 e7=>?_;conv=>whnf
   have K7:=K6.same t7 q7
   have L7:Low N h h7:=L6.trans fun b t y ht e=>t7 _ _ _ (fun c=>by rw [c] at ht;simp at ht) e
   have id7:PIdle h7 b (N+2*n.toNat) c:=id6.move fun _ t _ ht e=>t7 _ _ _ (fun c=>by rw [c] at ht;simp only at ht;omega) e
   refine Av ?_;conv=>whnf
   refine An (h7) [7] [0,1,2,4,5,3,6,7] (Sub.refl _) (by decide +kernel) ?_;conv=>whnf
   refine C2 (commit_i id7) ?_;conv=>whnf
   refine ⟨Sub.refl _,?_⟩;conv=>whnf
   refine Aj (n:=6) (z:=1) (j:=m) (by omega) (by omega) rfl rfl ?_;conv=>whnf
   refine Af rfl rfl rfl K7.str (by have:=hcm ch;exact Nat.ble_eq_true_of_le (List.getElem?_eq_some_iff.1 this).1) (netCells {x with leaders:=LL,chosen:=ch,commits:=x.commits.set n c.commit} v') (by rw [show 0+54+m*1=54+n.toNat by omega];exact cm_set {x with leaders:=LL,chosen:=ch} v' n1 n5 _) fun h8 t8 q8 a8 e8=>?_;conv=>whnf
   have K8:NetX h8 N p {x with leaders:=LL,chosen:=ch,commits:=x.commits.set n c.commit} v':=K7.move' (fun b t y _ n e=>t8 _ _ _ n e) q8 rfl rfl rfl rfl rfl rfl rfl
   have L8:Low N h h8:=L7.trans fun b t y ht e=>t8 _ _ _ (fun c=>by rw [c] at ht;simp at ht) e
   have id8:PIdle h8 b (N+2*n.toNat) c:=id7.move fun _ t _ ht e=>t8 _ _ _ (fun c=>by rw [c] at ht;simp only at ht;omega) e
   have htm:(netCells {x with leaders:=LL,chosen:=ch,commits:=x.commits.set n c.commit} v')[0+60+m*1]? = some (I (x.terms.get n)):=by
    rw [show 0+60+m*1=60+n.toNat by omega];exact tm_cell _ v' n1 n5
   refine An (h8) [7] [0,1,2,4,5,3,6,7] (Sub.refl _) (by decide +kernel) ?_;conv=>whnf
   refine C2 (term_i id8) ?_;conv=>whnf
   refine ⟨Sub.refl _,?_⟩;conv=>whnf
   refine Aj (n:=6) (z:=1) (j:=m) (by omega) (by omega) rfl rfl ?_;conv=>whnf
   refine Af rfl rfl rfl K8.str (by exact Nat.ble_eq_true_of_le (List.getElem?_eq_some_iff.1 htm).1) (netCells {x with leaders:=LL,chosen:=ch,commits:=x.commits.set n c.commit,terms:=x.terms.set n c.term} v') (by rw [show 0+60+m*1=60+n.toNat by omega];exact tm_set {x with leaders:=LL,chosen:=ch,commits:=x.commits.set n c.commit} v' n1 n5 _) fun h9 t9 q9 a9 e9=>?_;conv=>whnf
   have K9:NetX h9 N p {x with leaders:=LL,chosen:=ch,commits:=x.commits.set n c.commit,terms:=x.terms.set n c.term} v':=K8.move' (fun b t y _ n e=>t9 _ _ _ n e) q9 rfl rfl rfl rfl rfl rfl rfl
   refine ⟨rfl,⟨v',?_⟩,L8.trans fun b t y ht e=>t9 _ _ _ (fun c=>by rw [c] at ht;simp at ht) e⟩
   rw [FIN]
   exact K9
  refine Ad (c1) ?_;conv=>whnf
  have o4':=o4
  rw [st] at o4'
  obtain ⟨ag,st'⟩:=lookEs_head o4' (by rw [hya];exact c1)
  rw [hya] at ag st'
  rw [show ch=v'.ch.map (fun z=>(z.1,z.2.abs)) from K11.choA.symm,alook_map] at ag
  refine Av ?_;conv=>whnf
  refine Am (h11) [] (Sub.refl _) (by decide +kernel) ?_;conv=>whnf
  refine Aa rfl K11.str rfl ?_
  refine Aa rfl q11 rfl ?_;conv=>whnf
  cases ho:alook y.index v'.ch with
  | none =>
   refine ALookup.miss K11.cho rfl rfl rfl rfl (kvG_miss (f:=fun e:EH => .agg e.cells.toArray) K11.choE ho) ?_
   conv=>whnf
   refine Ak (0,1) ([I 0,I 0,I 0, .slice none 0 0]) rfl fun b10 h12 n12 s12 q12=>?_;conv=>whnf
   refine ⟨s12,?_⟩;conv=>whnf
   refine Ae rfl rfl rfl (q12) rfl ([I 0,I 0,I 0, .slice none 0 0]) rfl fun h13 t13 q13' a13 e13=>?_;conv=>whnf
   have s13:Sub h11 h13:=a13 h11 s12 n12
   refine ⟨s13,?_⟩;conv=>whnf
   have K13:=K11.sub s13
   refine Av ?_;conv=>whnf
   refine Aa rfl K13.str rfl ?_;conv=>whnf
   refine Af rfl rfl rfl (K13.str) rfl (netCells {x with leaders:=LL,chosen:=ch} v') rfl fun h14 t14 q14 a14 e14=>?_;conv=>whnf
   have K14:=K13.same t14 q14
   have L14:Low N h h14:=(L11.trans s13.low).trans fun b t y ht e=>t14 _ _ _ (fun c=>by rw [c] at ht;simp at ht) e
   have q514:=t14.get t01 (s13 _ _ q511)
   have q914:=t14.get t01 (s13 _ _ q11)
   have gy14:y.Good h14 (N+1,2):=Sl.keepT (Sl.sub gy s13) t14 (by simp)
   have EE:=kvG_new (f:=fun e:EH => .agg e.cells.toArray) (x:=y) (clock:=v'.k2) K14.choE ho
   refine Am (h14) [7] (Sub.refl _) (by decide +kernel) ?_;conv=>whnf
   refine Aa rfl K14.str rfl ?_
   refine Aa rfl q914 rfl ?_
   refine Ab rfl q914 rfl rfl ?_;conv=>whnf
   refine AMapUpd.miss K14.cho rfl rfl rfl (kvG_miss (f:=fun e:EH => .agg e.cells.toArray) K14.choE ho) fun mm=>?_;conv=>whnf
   have KK:=K14.choSet (KeepT.set K14.cho.at_) (l':=aset y.index y.abs ch) mm EE ((aset_map EH.abs y.index y v'.ch).trans (congrArg (aset y.index y.abs) K14.choA)) (fun z hz=>(aset_mem hz).elim (fun e=>by rw [e];exact gy14) (K14.choG z))
   refine Ag (by omega) (by omega) ((by omega:(j:Int)+1=((j+1:Nat):Int))) ?_;conv=>whnf
   refine ⟨⟨_,j+1,aset y.index y.abs ch,_,Au ⟨rfl,rfl,rfl,rfl,rfl,trivial⟩,by omega,L14.trans fun b t y ht e=>KeepT.set K14.cho.at_ _ _ _ (fun c=>by rw [c] at ht;simp at ht) e,KeepT.set K14.cho.at_ _ _ _ (fun c=>by have:=congrArg Prod.fst c;simp only at this;omega) q514,KK,vc,vk,by rw [st,st']⟩,?_⟩
   show s.e.n-(j+1)<s.e.n-j
   omega
  | some old =>
   rw [ho] at ag
   have ag':old.abs=y.abs:=of_decide_eq_true ag
   obtain ⟨i,e1,g1,g2,g3,g4⟩:=kvG_hit (f:=fun e:EH => .agg e.cells.toArray) K11.choE ho
   refine ALookup.hit K11.cho rfl rfl (List.mem_of_getElem? g1) g2 ?_
   rw [g3]
   conv=>whnf
   refine Ak (0,1) ([I 0,I 0,I 0, .slice none 0 0]) rfl fun b10 h12 n12 s12 q12=>?_;conv=>whnf
   refine ⟨s12,?_⟩;conv=>whnf
   refine Ae rfl rfl rfl (q12) rfl (old.cells) rfl fun h13 t13 q13' a13 e13=>?_;conv=>whnf
   have s13:Sub h11 h13:=a13 h11 s12 n12
   refine ⟨s13,?_⟩;conv=>whnf
   have K13:=K11.sub s13
   refine Av ?_;conv=>whnf
   refine Aa rfl K13.str rfl ?_
   refine Ab rfl q13' rfl rfl ?_
   refine Ab rfl (s13 _ _ q11) rfl rfl ?_;conv=>whnf
   have hon:old.n≤4611686018427387904:=by
    have h1:old.data.length=old.n:=by have:=(K11.choG _ (alook_mem ho)).len;simpa [bytesV] using this
    have h2:y.data.length=y.n:=by have:=gy.len;simpa [bytesV] using this
    have h3:old.data=y.data:=congrArg (·.2.2.2) ag'
    rw [h3] at h1;omega
   refine C2 (like_any (K13.choG _ (alook_mem ho)) (Sl.sub gy s13) hon) ?_;conv=>whnf
   rw [decide_eq_true ag']
   conv=>whnf
   refine Af rfl rfl rfl (K13.str) rfl (netCells {x with leaders:=LL,chosen:=ch} v') rfl fun h14 t14 q14 a14 e14=>?_;conv=>whnf
   have K14:=K13.same t14 q14
   have L14:Low N h h14:=(L11.trans s13.low).trans fun b t y ht e=>t14 _ _ _ (fun c=>by rw [c] at ht;simp at ht) e
   have q514:=t14.get t01 (s13 _ _ q511)
   have q914:=t14.get t01 (s13 _ _ q11)
   have gy14:y.Good h14 (N+1,2):=Sl.keepT (Sl.sub gy s13) t14 (by simp)
   have EE:=g4 y
   refine Am (h14) [7] (Sub.refl _) (by decide +kernel) ?_;conv=>whnf
   refine Aa rfl K14.str rfl ?_
   refine Aa rfl q914 rfl ?_
   refine Ab rfl q914 rfl rfl ?_;conv=>whnf
   refine AMapUpd.hit K14.cho rfl rfl g1 g2 fun mm=>?_;conv=>whnf
   have KK:=K14.choSet (KeepT.set K14.cho.at_) (l':=aset y.index y.abs ch) mm EE ((aset_map EH.abs y.index y v'.ch).trans (congrArg (aset y.index y.abs) K14.choA)) (fun z hz=>(aset_mem hz).elim (fun e=>by rw [e];exact gy14) (K14.choG z))
   refine Ag (by omega) (by omega) ((by omega:(j:Int)+1=((j+1:Nat):Int))) ?_;conv=>whnf
   refine ⟨⟨_,j+1,aset y.index y.abs ch,_,Au ⟨rfl,rfl,rfl,rfl,rfl,trivial⟩,by omega,L14.trans fun b t y ht e=>KeepT.set K14.cho.at_ _ _ _ (fun c=>by rw [c] at ht;simp at ht) e,KeepT.set K14.cho.at_ _ _ _ (fun c=>by have:=congrArg Prod.fst c;simp only at this;omega) q514,KK,vc,vk,by rw [st,st']⟩,?_⟩
   show s.e.n-(j+1)<s.e.n-j
   omega
 ·refine Ad (by omega) ?_;conv=>whnf
  have FIN:(lookEs c.commit s.abs.entries (true,x.chosen)).2=ch:=by
   rw [st,List.drop_of_length_le (by omega)];rfl
  have K6:=K5
  have q6:=q5
  have L6:=L5
  have id6:PIdle h' b (N+2*n.toNat) c:=by
   obtain ⟨b',hb',id'⟩:=K6.cores n n1 n2
   rw [vc,hb] at hb';cases hb';rw [hc];exact id'
  refine Av ?_;conv=>whnf
  refine Am (h') [19] (Sub.refl _) (by decide +kernel) ?_;conv=>whnf
  refine Aa rfl K6.str rfl ?_
  refine Aa rfl q6 rfl ?_
  refine Aa rfl q6 rfl ?_;conv=>whnf
  refine Ag (by omega) (by omega) (rfl) ?_;conv=>whnf
  refine C2 (commit_i id6) ?_;conv=>whnf
  refine ⟨Sub.refl _,?_⟩;conv=>whnf
  refine Ac (o5) ?_;conv=>whnf
  refine Af rfl rfl rfl (K6.str) rfl (netCells {x with leaders:=LL,chosen:=ch} v') rfl fun h7 t7 q7 a7 e7=>?_;conv=>whnf
  have K7:=K6.same t7 q7
  have L7:Low N h h7:=L6.trans fun b t y ht e=>t7 _ _ _ (fun c=>by rw [c] at ht;simp at ht) e
  have id7:PIdle h7 b (N+2*n.toNat) c:=id6.move fun _ t _ ht e=>t7 _ _ _ (fun c=>by rw [c] at ht;simp only at ht;omega) e
  refine Av ?_;conv=>whnf
  refine An (h7) [7] [0,1,2,4,5,3,6,7] (Sub.refl _) (by decide +kernel) ?_;conv=>whnf
  refine C2 (commit_i id7) ?_;conv=>whnf
  refine ⟨Sub.refl _,?_⟩;conv=>whnf
  refine Aj (n:=6) (z:=1) (j:=m) (by omega) (by omega) rfl rfl ?_;conv=>whnf
  refine Af rfl rfl rfl K7.str (by have:=hcm ch;exact Nat.ble_eq_true_of_le (List.getElem?_eq_some_iff.1 this).1) (netCells {x with leaders:=LL,chosen:=ch,commits:=x.commits.set n c.commit} v') (by rw [show 0+54+m*1=54+n.toNat by omega];exact cm_set {x with leaders:=LL,chosen:=ch} v' n1 n5 _) fun h8 t8 q8 a8 e8=>?_;conv=>whnf
  have K8:NetX h8 N p {x with leaders:=LL,chosen:=ch,commits:=x.commits.set n c.commit} v':=K7.move' (fun b t y _ n e=>t8 _ _ _ n e) q8 rfl rfl rfl rfl rfl rfl rfl
  have L8:Low N h h8:=L7.trans fun b t y ht e=>t8 _ _ _ (fun c=>by rw [c] at ht;simp at ht) e
  have id8:PIdle h8 b (N+2*n.toNat) c:=id7.move fun _ t _ ht e=>t8 _ _ _ (fun c=>by rw [c] at ht;simp only at ht;omega) e
  have htm:(netCells {x with leaders:=LL,chosen:=ch,commits:=x.commits.set n c.commit} v')[0+60+m*1]? = some (I (x.terms.get n)):=by
   rw [show 0+60+m*1=60+n.toNat by omega];exact tm_cell _ v' n1 n5
  refine An (h8) [7] [0,1,2,4,5,3,6,7] (Sub.refl _) (by decide +kernel) ?_;conv=>whnf
  refine C2 (term_i id8) ?_;conv=>whnf
  refine ⟨Sub.refl _,?_⟩;conv=>whnf
  refine Aj (n:=6) (z:=1) (j:=m) (by omega) (by omega) rfl rfl ?_;conv=>whnf
  refine Af rfl rfl rfl K8.str (by exact Nat.ble_eq_true_of_le (List.getElem?_eq_some_iff.1 htm).1) (netCells {x with leaders:=LL,chosen:=ch,commits:=x.commits.set n c.commit,terms:=x.terms.set n c.term} v') (by rw [show 0+60+m*1=60+n.toNat by omega];exact tm_set {x with leaders:=LL,chosen:=ch,commits:=x.commits.set n c.commit} v' n1 n5 _) fun h9 t9 q9 a9 e9=>?_;conv=>whnf
  have K9:NetX h9 N p {x with leaders:=LL,chosen:=ch,commits:=x.commits.set n c.commit,terms:=x.terms.set n c.term} v':=K8.move' (fun b t y _ n e=>t9 _ _ _ n e) q9 rfl rfl rfl rfl rfl rfl rfl
  refine ⟨rfl,⟨v',?_⟩,L8.trans fun b t y ht e=>t9 _ _ _ (fun c=>by rw [c] at ht;simp at ht) e⟩
  rw [FIN]
  exact K9
end
end Go.Ah
