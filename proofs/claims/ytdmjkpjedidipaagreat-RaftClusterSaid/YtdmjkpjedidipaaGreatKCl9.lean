/- Texts that the law leans on, one behind the other. -/
import Derived.Test.YtdmjkpjedidipaaGreatKCl8
namespace Go.Ah
open Go.Proofs
set_option linter.unusedVariables false
set_option linter.unusedSimpArgs false
set_option maxRecDepth 20000
set_option maxHeartbeats 1000000 in
theorem rsavedSnap_any {h:Heap} {t3:Tag} {x:SH} (sd:Sl h t3 x.d.a x.d.n x.d.c 1 (bytesV x.data)) (hc0 : -9223372036854775808≤x.sc) (hc1:x.sc≤9223372036854775807) :
  ACalls PR 34 #[.agg x.cells.toArray] h (fun v h'=>v = .bool x.snapB∧h=h'):=by
 have hd:x.data.length=x.d.n:=by have:=sd.len;simpa [bytesV] using this
 have hd0:x.data=[]↔x.d.n=0:=by rw [← hd,List.length_eq_zero_iff]
 have hS:x.snapB=(decide (x.si=0∧x.st=0∧x.sc=0∧x.d.n=0) || (decide (0<x.si)&&decide (1≤x.st∧x.st≤x.term)&&decide (cchk x.sc=0))):=by
  unfold SH.snapB
  congr 1
  exact decide_eq_decide.2 (by rw [hd0])
 generalize x.snapB=S at hS ⊢
 refine acalls_pure (acalls_of mix Tryz.func34 rfl rfl Tryz.ntmps34 Tryz.results34 rfl ?_);conv=>whnf
 refine ABox.mkN (0,1) (x.cells) rfl fun b1 h1 n1 s1 k1=>?_;conv=>whnf
 refine ALoad.agg rfl k1 rfl rfl ?_;conv=>whnf
 refine AAlloc.mkN (0,1) ([I 0,I 0,I 0, .slice none 0 0]) rfl fun b3 h2 n2 s2 k2=>?_;conv=>whnf
 refine AStore.aggN rfl rfl rfl (k2) rfl ([I x.si,I x.st,I x.sc, .slice x.d.a x.d.n x.d.c]) rfl fun h3 t3' k3 a3 e3=>?_;conv=>whnf
 have b13:b1≠b3:=fun c=>by rw [c,n2] at k1;cases k1
 have k13:=e3 _ _ b13 (s2 _ _ k1)
 have hb3:h b3=none:=by
  cases e:h b3 with
  | none=>rfl
  | some y=>rw [s1 _ _ e] at n2;cases n2
 have s3:Sub h h3:=a3 h (s1.trans s2) hb3
 refine ALoad.one rfl k3 rfl ?_;conv=>whnf
 by_cases c1:x.si=0
 ·refine ACmp.yes (c1) ?_;conv=>whnf
  rw [decide_eq_false (show ¬ 0<x.si by omega)] at hS
  refine ALoad.one rfl k3 rfl ?_;conv=>whnf
  by_cases c2:x.st=0
  ·refine ACmp.yes (c2) ?_;conv=>whnf
   refine ALoad.one rfl k3 rfl ?_;conv=>whnf
   by_cases c3:x.sc=0
   ·refine ACmp.yes (c3) ?_;conv=>whnf
    refine ALoad.one rfl k3 rfl ?_;conv=>whnf
    refine ACmp.dec ?_;conv=>whnf
    exact ⟨congrArg Value.bool (by rw [hS];simp [c1,c2,c3]),s3⟩
   ·refine ACmp.no (c3) ?_;conv=>whnf
    exact ⟨congrArg Value.bool (by rw [hS];simp [c3]),s3⟩
  ·refine ACmp.no (c2) ?_;conv=>whnf
   exact ⟨congrArg Value.bool (by rw [hS];simp [c2]),s3⟩
 ·refine ACmp.no (c1) ?_;conv=>whnf
  rw [decide_eq_false (fun z=>c1 z.1),Bool.false_or] at hS
  refine ALoad.one rfl k3 rfl ?_;conv=>whnf
  by_cases d1:1≤x.si
  rotate_left
  ·refine ACmp.no ((by omega)) ?_;conv=>whnf
   exact ⟨congrArg Value.bool (by rw [hS,decide_eq_false (show ¬ 0<x.si by omega)];rfl),s3⟩
  refine ACmp.yes ((by omega)) ?_;conv=>whnf
  refine ALoad.one rfl k3 rfl ?_;conv=>whnf
  by_cases d2:1≤x.st
  rotate_left
  ·refine ACmp.no ((by omega)) ?_;conv=>whnf
   exact ⟨congrArg Value.bool (by rw [hS,decide_eq_false (show ¬ (1≤x.st∧x.st≤x.term) by omega)];simp),s3⟩
  refine ACmp.yes ((by omega)) ?_;conv=>whnf
  refine ALoad.one rfl k3 rfl ?_
  refine ALoad.one rfl k13 rfl ?_;conv=>whnf
  by_cases d3:x.st≤x.term
  rotate_left
  ·refine ACmp.no ((by omega)) ?_;conv=>whnf
   exact ⟨congrArg Value.bool (by rw [hS,decide_eq_false (show ¬ (1≤x.st∧x.st≤x.term) by omega)];simp),s3⟩
  refine ACmp.yes ((by omega)) ?_;conv=>whnf
  refine ALoad.one rfl k3 rfl ?_;conv=>whnf
  refine ACalls.mono (refCheck_any h3 x.sc hc0 hc1) ?_;rintro _ _ ⟨rfl,rfl⟩;conv=>whnf
  refine ACmp.dec ?_;conv=>whnf
  exact ⟨congrArg Value.bool (by rw [hS,decide_eq_true (show 0<x.si by omega),decide_eq_true (show 1≤x.st∧x.st≤x.term by omega)];simp),s3⟩
theorem late_crews (x:SH) (l:List EH):(!(l.any fun e=>decide (x.term<e.term))&&crewsMay (l.map EH.abs))=l.all fun e => !decide (x.term<e.term)&&(decide (e.kind≠2) || crewOk e.abs):=by
 induction l with
 | nil=>rfl
 | cons e l ih =>
  rw [List.all_cons,← ih,List.any_cons,List.map_cons]
  show (!(_ || _)&&((decide (e.kind≠2) || crewOk e.abs)&&crewsMay _))=_
  cases decide (x.term<e.term) <;> cases (decide (e.kind≠2) || crewOk e.abs) <;> simp
set_option maxHeartbeats 4000000 in
theorem rNew_any {h:Heap} (o:Nat) (ho:o≠0) (self first:Int) {t1 t2 t3:Tag} {x:SH} (draw:Int) (k:x.Ok h t1 t2 t3) (tn1:t1.1≠o+1) (tn2:t2.1≠o+1) (tn3:t3.1≠o+1) (by_:∀ e∈x.es,∀ z∈e.data,0≤z∧z<256)
  (hf0 : -9223372036854775808≤first) (hf1:first≤9223372036854775807) (hc0 : -9223372036854775808≤x.sc) (hc1:x.sc≤9223372036854775807) (hn:x.e.n*48≤140737488355328) (hdn:x.d.n≤140737488355328) :
  ACalls PR 10 #[I self,I first, .agg x.cells.toArray,I draw] h (fun v h'=>(cnewOk self first x.abs draw=false∧v = .tuple #[.pointer none,I 2]∧Keep (o+1) h h') ∨
   (cnewOk self first x.abs draw=true∧∃ p,v = .tuple #[Ptr p,I 0]∧RIdle h' p o (cnew self first x.abs draw)∧Keep (o+1) h h')):=by
 have hlen:x.es.length=x.e.n:=k.es.len
 have hR:cnewOk self first x.abs draw=((decide (1≤self∧self≤5)&&decide (cchk first=0)&&decide (0≤draw)&&numB x.term&&decide (0≤x.vote∧x.vote≤5)&&x.snapB)&&(okBase x.si x.st&&(decide (((lnew x.si x.st).append (x.es.map EH.abs)).1=0)&&x.es.all fun e => !decide (x.term<e.term)&&(decide (e.kind≠2) || crewOk e.abs)))):=by
  rw [← late_crews]
  show (decide (1≤self∧self≤5)&&decide (cchk first=0)&&decide (0≤draw)&&x.abs.may&&okBase x.si x.st&&decide (((lnew x.si x.st).append (x.es.map EH.abs)).1=0))=_
  rw [may_eq]
  ac_rfl
 generalize cnewOk self first x.abs draw=R at hR ⊢
 refine acalls_ofj mix Tryz.func10 rfl rfl Tryz.ntmps10 Tryz.results10 rfl ?_;conv=>whnf
 refine ABox.mkN (0,1) (x.cells) rfl fun b6 h1 n1 s1 k1=>?_;conv=>whnf
 have k':x.Ok h1 t1 t2 t3:=⟨k.es.sub s1,k.sd.sub s1⟩
 refine AIf.go ?_;conv=>whnf
 obtain ⟨G,hG⟩:∃ G,G=(decide (1≤self∧self≤5)&&decide (cchk first=0)&&decide (0≤draw)&&numB x.term&&decide (0≤x.vote∧x.vote≤5)&&x.snapB):=⟨_,rfl⟩
 rw [← hG] at hR
 refine AIf.cut (fun e h'=>∃ e0,e=updL 124 e0 [(0,I self),(1,I first),(3,I draw),(6,Ptr b6),(53, .bool (!G))]∧h1=h') ?_ ?_
 ·conv=>whnf
  by_cases a1:1≤self
  rotate_left
  ·refine ACmp.yes ((by omega)) ?_;conv=>whnf
   have W:=decide_eq_false (show ¬ (1≤self∧self≤5) by omega)
   exact ⟨_,updL_self ⟨rfl,rfl,rfl,rfl,congrArg Value.bool (by rw [hG,W];simp),trivial⟩,rfl⟩
  refine ACmp.no ((by omega)) ?_;conv=>whnf
  by_cases a2:self≤5
  rotate_left
  ·refine ACmp.yes ((by omega)) ?_;conv=>whnf
   have W:=decide_eq_false (show ¬ (1≤self∧self≤5) by omega)
   exact ⟨_,updL_self ⟨rfl,rfl,rfl,rfl,congrArg Value.bool (by rw [hG,W];simp),trivial⟩,rfl⟩
  refine ACmp.no ((by omega)) ?_;conv=>whnf
  refine ACalls.mono (refCheck_any h1 first hf0 hf1) ?_;rintro _ _ ⟨rfl,rfl⟩;conv=>whnf
  by_cases a3:cchk first=0
  rotate_left
  ·refine ACmp.yes (a3) ?_;conv=>whnf
   have W:=decide_eq_false a3
   exact ⟨_,updL_self ⟨rfl,rfl,rfl,rfl,congrArg Value.bool (by rw [hG,W];simp),trivial⟩,rfl⟩
  refine ACmp.no ((by simpa using a3)) ?_;conv=>whnf
  by_cases a4:draw<0
  ·refine ACmp.yes (a4) ?_;conv=>whnf
   have W:=decide_eq_false (show ¬ 0≤draw by omega)
   exact ⟨_,updL_self ⟨rfl,rfl,rfl,rfl,congrArg Value.bool (by rw [hG,W];simp),trivial⟩,rfl⟩
  refine ACmp.no (a4) ?_;conv=>whnf
  refine ALoad.one rfl k1 rfl ?_;conv=>whnf
  by_cases a5:x.term<0
  ·refine ACmp.yes (a5) ?_;conv=>whnf
   have W:numB x.term=false:=by unfold numB;simp;omega
   exact ⟨_,updL_self ⟨rfl,rfl,rfl,rfl,congrArg Value.bool (by rw [hG,W];simp),trivial⟩,rfl⟩
  refine ACmp.no (a5) ?_;conv=>whnf
  refine ALoad.one rfl k1 rfl ?_;conv=>whnf
  by_cases a6:9007199254740991<x.term
  ·refine ACmp.yes ((by omega)) ?_;conv=>whnf
   have W:numB x.term=false:=by unfold numB;simp;omega
   exact ⟨_,updL_self ⟨rfl,rfl,rfl,rfl,congrArg Value.bool (by rw [hG,W];simp),trivial⟩,rfl⟩
  refine ACmp.no ((by omega)) ?_;conv=>whnf
  refine ALoad.one rfl k1 rfl ?_;conv=>whnf
  by_cases a7:x.vote<0
  ·refine ACmp.yes ((by omega)) ?_;conv=>whnf
   have W:=decide_eq_false (show ¬ (0≤x.vote∧x.vote≤5) by omega)
   exact ⟨_,updL_self ⟨rfl,rfl,rfl,rfl,congrArg Value.bool (by rw [hG,W];simp),trivial⟩,rfl⟩
  refine ACmp.no ((by omega)) ?_;conv=>whnf
  refine ALoad.one rfl k1 rfl ?_;conv=>whnf
  by_cases a8:5<x.vote
  ·refine ACmp.yes ((by omega)) ?_;conv=>whnf
   have W:=decide_eq_false (show ¬ (0≤x.vote∧x.vote≤5) by omega)
   exact ⟨_,updL_self ⟨rfl,rfl,rfl,rfl,congrArg Value.bool (by rw [hG,W];simp),trivial⟩,rfl⟩
  refine ACmp.no ((by omega)) ?_;conv=>whnf
  refine ALoad.agg rfl k1 rfl rfl ?_;conv=>whnf
  refine ACalls.mono (rsavedSnap_any k'.sd hc0 hc1) ?_;rintro _ _ ⟨rfl,rfl⟩;conv=>whnf
  have hn6:numB x.term=true:=by unfold numB;simp;omega
  exact ⟨_,updL_self ⟨rfl,rfl,rfl,rfl,congrArg Value.bool (by rw [hG,decide_eq_true (show 1≤self∧self≤5 by omega),decide_eq_true a3,decide_eq_true (show 0≤draw by omega),hn6,decide_eq_true (show 0≤x.vote∧x.vote≤5 by omega)];simp),trivial⟩,rfl⟩
 rintro e _ ⟨e0,rfl,rfl⟩
 cases G with
 | false =>
  conv=>whnf
  exact .inl ⟨by rw [hR];simp,rfl,s1.keep _⟩
 | true =>
 rw [Bool.true_and] at hR
 have hd0:0≤draw:=by
  have:=hG.symm
  simp only [Bool.and_eq_true,decide_eq_true_eq] at this
  exact this.1.1.1.2
 clear hG
 conv=>whnf
 refine ALoad.one rfl k1 rfl ?_
 refine ALoad.one rfl k1 rfl ?_;conv=>whnf
 refine ACalls.mono (rNew_c h1 (o+1) (by omega) x.si x.st) ?_
 rintro v h2 (⟨a5,lp,rfl,l2,s2⟩ | ⟨a5,rfl,s2⟩)
 rotate_left
 ·conv=>whnf
  refine AIf.go ?_;conv=>whnf
  refine AIf.cut (fun e h'=>∃ e0,e=updL 124 e0 [(72, .bool true)]∧h2=h') ?_ ?_
  ·conv=>whnf
   refine ACmp.yes ((by decide)) ?_;conv=>whnf
   exact ⟨_,updL_self ⟨rfl,trivial⟩,rfl⟩
  rintro e _ ⟨e1,rfl,rfl⟩
  conv=>whnf
  exact .inl ⟨by rw [hR,a5];simp,rfl,(s1.trans s2).keep _⟩
 rw [a5,Bool.true_and] at hR
 conv=>whnf
 refine AIf.go ?_;conv=>whnf
 have lo2:LOk (lnew x.si x.st):=LOk.new (okBase_bd a5).1 (okBase_bd a5).2
 refine AIf.cut (fun e h'=>∃ e0,e=updL 124 e0 [(0,I self),(1,I first),(3,I draw),(6,Ptr b6),(10,Ptr lp),(72, .bool (!decide (((lnew x.si x.st).append (x.es.map EH.abs)).1=0)))]∧RL h' lp (o+1) ((lnew x.si x.st).append (x.es.map EH.abs)).2∧Keep (o+1) h1 h') ?_ ?_
 ·conv=>whnf
  refine ACmp.no ((by decide)) ?_;conv=>whnf
  refine ALoad.one rfl (s2 _ _ k1) rfl ?_;conv=>whnf
  refine ACalls.mono (rAppend_c (by omega:o+1≠0) l2 lo2 tn1 tn2 (k'.es.sub s2) (by simp [lnew];omega)) ?_;rintro _ h3 ⟨rfl,l3,kk3⟩;conv=>whnf
  refine ACmp.dec ?_;conv=>whnf
  exact ⟨_,updL_self ⟨rfl,rfl,rfl,rfl,rfl,congrArg Value.bool (by simp),trivial⟩,l3,(s2.keep _).trans kk3⟩
 rintro e h3 ⟨e1,rfl,l3,kk3⟩
 have k13:=kk3.get (by simp) k1
 have KK3:Keep (o+1) h h3:=(s1.keep _).trans kk3
 by_cases a6:((lnew x.si x.st).append (x.es.map EH.abs)).1=0
 rotate_left
 ·rw [decide_eq_false a6] at hR ⊢
  conv=>whnf
  exact .inl ⟨by rw [hR];rfl,rfl,KK3⟩
 rw [decide_eq_true a6,Bool.true_and] at hR
 rw [decide_eq_true a6]
 conv=>whnf
 have X3:Ents h3 t1 t2 x.e.a x.e.n x.e.c x.es:=⟨k'.es.sl.keep kk3 tn1,fun e he=>Sl.keep (k'.es.good e he) kk3 tn2,k'.es.small⟩
 have sd3:Sl h3 t3 x.d.a x.d.n x.d.c 1 (bytesV x.data):=k'.sd.keep kk3 tn3
 refine ALoop.mk (fun e h'=>h3=h'∧∃ e0,∃ j:Nat,e=updL 124 e0 [(0,I self),(1,I first),(3,I draw),(6,Ptr b6),(10,Ptr lp),(12,I j)]∧j≤x.e.n∧R=(x.es.drop j).all fun e => !decide (x.term<e.term)&&(decide (e.kind≠2) || crewOk e.abs)) (fun e=>x.e.n-natOf (e 12))
  ⟨rfl,_,0,updL_self ⟨rfl,rfl,rfl,rfl,rfl,rfl,trivial⟩,by omega,by rw [List.drop_zero];exact hR⟩ ?_
 clear hR
 rintro e _ ⟨rfl,e2,j,rfl,hj,hR⟩
 conv=>whnf
 refine AIf.go ?_;conv=>whnf
 refine ALoad.one rfl k13 rfl ?_;conv=>whnf
 by_cases hjn:j<x.e.n
 ·refine ACmp.yes (by omega) ?_;conv=>whnf
  obtain ⟨y,hy⟩:∃ y,x.es[j]? = some y:=⟨x.es[j]'(by omega),by simp⟩
  have my:=List.mem_of_getElem? hy
  have hdr:x.es.drop j=y::x.es.drop (j+1):=by
   rw [List.drop_eq_getElem_cons (show j<x.es.length by omega),(List.getElem?_eq_some_iff.1 hy).2]
  rw [hdr,List.all_cons] at hR
  obtain ⟨b,off,l,E,fz,ea,hb,hc⟩:=X3.sl.pos (by omega)
  have g0:(l.drop (off+j*4)).take 4=y.cells:=by rw [part_of_take hc (by omega),encs_part hy]
  have gT:l[off+j*4]? = some (I y.term):=by have:=congrArg (fun q:List Value=>q[0]?) g0;simpa [List.getElem?_take,List.getElem?_drop,EH.cells] using this
  refine AIf.go ?_;conv=>whnf
  refine AIf.go ?_;conv=>whnf
  refine ADrawn.mk (h3) [] (Sub.refl _) (by decide +kernel) ?_;conv=>whnf
  refine ALoad.one rfl k13 rfl ?_;conv=>whnf
  rw [ea]
  refine AIdx.nat (n:=x.e.n) (z:=4) (j:=j) rfl hjn rfl rfl ?_;conv=>whnf
  refine ALoad.one rfl hb gT ?_
  refine ALoad.one rfl k13 rfl ?_;conv=>whnf
  by_cases c1:x.term<y.term
  ·refine ACmp.yes ((by omega)) ?_;conv=>whnf
   exact .inl ⟨by rw [hR,decide_eq_true c1];rfl,rfl,KK3⟩
  refine ACmp.no ((by omega)) ?_;conv=>whnf
  rw [decide_eq_false c1,Bool.not_false,Bool.true_and] at hR
  refine ALoad.one rfl k13 rfl ?_;conv=>whnf
  rw [ea]
  refine AIdx.nat (n:=x.e.n) (z:=4) (j:=j) rfl hjn rfl rfl ?_;conv=>whnf
  refine ALoad.agg rfl hb g0 rfl ?_;conv=>whnf
  refine ACalls.mono (rcrewEntry_any h3 y (X3.good y my) (by_ y my)) ?_
  cases c2:(decide (y.kind≠2) || crewOk y.abs) with
  | false =>
   rintro _ _ ⟨rfl,rfl⟩
   conv=>whnf
   refine ⟨Sub.refl _,?_⟩;conv=>whnf
   exact .inl ⟨by rw [hR,c2];rfl,rfl,KK3⟩
  | true =>
  rintro _ _ ⟨rfl,rfl⟩
  conv=>whnf
  refine ⟨Sub.refl _,?_⟩;conv=>whnf
  rw [c2,Bool.true_and] at hR
  refine AArith.ok (by omega) (by omega) ((by omega:(j:Int)+1=((j+1:Nat):Int))) ?_;conv=>whnf
  refine ⟨⟨rfl,_,j+1,updL_self ⟨rfl,rfl,rfl,rfl,rfl,rfl,trivial⟩,by omega,hR⟩,?_⟩
  show x.e.n-(j+1)<x.e.n-j
  omega
 ·refine ACmp.no (by omega) ?_;conv=>whnf
  rw [List.drop_of_length_le (by omega)] at hR
  refine ALoad.one rfl k13 rfl ?_
  refine ALoad.one rfl k13 rfl ?_
  refine ALoad.agg rfl k13 rfl rfl ?_
  refine ALoad.one rfl k13 rfl ?_;conv=>whnf
  refine ⟨by omega,?_⟩
  refine AInt.as (rfl) ?_;conv=>whnf
  have hm1:0≤draw.tmod 10:=Int.tmod_nonneg _ hd0
  have hm2:draw.tmod 10<10:=Int.tmod_lt_of_pos _ (by omega)
  refine AArith.ok (by omega) (by omega) (rfl) ?_;conv=>whnf
  refine ABox.mkN (o,0) (coreCells (cnew self first x.abs draw) ⟨x.d,lp,0,0,0,slv0,ox0⟩) rfl fun p h5 n5 s5 k5=>?_;conv=>whnf
  refine ALoad.one rfl (s5 _ _ k13) rfl ?_;conv=>whnf
  refine ACalls.mono (copyB_any h5 (o,3) (sd3.sub s5) hdn) ?_
  rintro v h6 ⟨a6',c6,rfl,ow6,s6⟩
  conv=>whnf
  refine AStore.oneN rfl rfl rfl ((s6 _ _ k5)) rfl (coreCells (cnew self first x.abs draw) ⟨⟨a6',x.d.n,c6⟩,lp,0,0,0,slv0,ox0⟩) rfl fun h7 t7 k7 a7 e7=>?_;conv=>whnf
  have n3:h3 p=none:=n5
  refine .inr ⟨by rw [hR];rfl,p,rfl,⟨⟨⟨a6',x.d.n,c6⟩,lp,0,0,0,slv0,ox0⟩,k7,ow6.keepT t7 (by simp),KeepT.log (Moves.move l3 fun _ _ _ _ e=>s6 _ _ (s5 _ _ e)) t7, .inl ⟨rfl,rfl,rfl⟩,rfl,fun h' oo=>OutOk.zero h' oo⟩,KK3.trans ((a7 h3 (s5.trans s6) n3).keep _)⟩
theorem ph_len (ps:List PH):∀ e∈ps.map PH.cells,e.length=14:=fun e he=>by obtain ⟨y,_,rfl⟩:=List.mem_map.1 he;rfl
theorem ph_one (ps:List PH):(ps.map PH.cells).flatten.all oneCell=true:=by
 rw [List.all_eq_true];intro x hx
 obtain ⟨l,hl,hx⟩:=List.mem_flatten.1 hx
 obtain ⟨y,_,rfl⟩:=List.mem_map.1 hl
 simp only [PH.cells,List.mem_cons,List.not_mem_nil,or_false] at hx
 rcases hx with rfl | rfl | rfl | rfl | rfl | rfl | rfl | rfl | rfl | rfl | rfl | rfl | rfl | rfl <;> rfl
theorem encs_all1 (es:List EH):(encs es).all oneCell=true:=by
 rw [List.all_eq_true];intro x hx
 obtain ⟨e,_,hx⟩:=List.mem_flatMap.1 hx
 simp only [EH.cells,List.mem_cons,List.not_mem_nil,or_false] at hx
 rcases hx with rfl | rfl | rfl | rfl <;> rfl
theorem Ents.upto {h:Heap} {t td:Tag} {a:Option Addr} {n c:Nat} {es:List EH} (s:Ents h t td a n c es) {k:Nat} (hk:k≤n):Ents h t td a k c (es.take k):=by
 refine ⟨?_,fun e he=>s.good e (List.mem_of_mem_take he),fun e he=>s.small e (List.mem_of_mem_take he)⟩
 have:=s.sl.slice (l:=0) (m:=k) (x:=c) (by omega) hk (by have:=s.sl.le;omega)
 rw [Nat.zero_mul,List.drop_zero,Nat.sub_zero,Nat.sub_zero,slBase_zero,encs_take] at this
 exact this
theorem drop_any {h:Heap} {tg t:Tag} {s:SlV} {ps:List PH} (g:Sl h t s.a s.n s.c 14 (ps.map PH.cells).flatten) (hn:s.n≤1000000) (i:Nat) (hi:i<s.n) :
  ACalls PR 13 #[.slice s.a s.n s.c,I i] h (fun v h'=>∃ s':SlV,v = .slice s'.a s'.n s'.c∧Own h' tg 49 s'.a s'.n s'.c 14 ((dropN ps i).map PH.cells).flatten∧KeepT tg h h'):=by
 have hl:ps.length=s.n:=by
  have:=g.len;rw [flat_len (ph_len ps)] at this;simp at this;omega
 have e1:((ps.map PH.cells).flatten.drop (0*14)).take ((i-0)*14)=((ps.take i).map PH.cells).flatten:=by
  rw [Nat.zero_mul,List.drop_zero,Nat.sub_zero,flat_take (ph_len ps),List.map_take]
 have e2:((ps.map PH.cells).flatten.drop ((i+1)*14)).take ((s.n-(i+1))*14)=((ps.drop (i+1)).map PH.cells).flatten:=by
  rw [flat_drop (ph_len ps),← List.map_drop,List.take_of_length_le]
  rw [flat_len (ph_len _)];simp;omega
 have g1:=g.slice (l:=0) (m:=i) (x:=s.c) (by omega) (by omega) (by have:=g.le;omega)
 rw [e1] at g1
 simp only [slBase_zero,Nat.sub_zero] at g1
 have g2:=g.slice (l:=i+1) (m:=s.n) (x:=s.c) (by omega) (Nat.le_refl _) g.le
 rw [e2] at g2
 have hcap:=g.le
 refine acalls_of mix Tryz.func13 rfl rfl Tryz.ntmps13 Tryz.results13 rfl ?_;conv=>whnf
 refine ASlc.upto (z:=14) (m:=i) rfl (by omega) rfl rfl ?_;conv=>whnf
 refine AAppend.own (t:=tg) (E:=49) (z:=14) (by_:=144) (zero:=post0z) (cs:=[]) rfl ⟨_,rfl⟩ rfl rfl rfl rfl (by omega) (.inl ⟨rfl,rfl,rfl⟩) g1 (ph_one _) (by omega) (by omega) fun a1 c1 h1 ow1 t1 s1=>?_
 conv=>whnf
 refine AArith.ok (by omega) (by omega) (rfl) ?_;conv=>whnf
 refine ASlc.from (z:=14) (l:=i+1) (by omega) (by omega) hcap rfl rfl ?_;conv=>whnf
 refine AAppend.own (t:=tg) (E:=49) (z:=14) (by_:=144) (zero:=post0z) rfl ⟨_,rfl⟩ rfl rfl rfl rfl (by omega) ow1 (g2.sub (s1 rfl)) (ph_one _) (by omega) (by omega) fun a2 c2 h2 ow2 t2 _=>?_
 conv=>whnf
 refine ⟨⟨a2,_,c2⟩,rfl,?_,(s1 rfl).keepT _ |>.trans t2⟩
 unfold dropN
 rw [List.map_append,List.flatten_append]
 exact ow2
theorem like_any {h:Heap} {t1 t2:Tag} {a b:EH} (ga:a.Good h t1) (gb:b.Good h t2) (hn:a.n≤4611686018427387904) :
  ACalls PR 19 #[.agg a.cells.toArray, .agg b.cells.toArray] h (fun v h'=>v = .bool (decide (a.abs=b.abs))∧h=h'):=by
 have hno:∀ {q:Prop},¬ q→(a.abs=b.abs→q)→decide (a.abs=b.abs)=false:=fun n f=>decide_eq_false fun c=>n (f c)
 refine acalls_pure (acalls_of mix Tryz.func19 rfl rfl Tryz.ntmps19 Tryz.results19 rfl ?_);conv=>whnf
 refine ABox.mkN (0,1) (a.cells) rfl fun b2 h1 n1 s1 k1=>?_;conv=>whnf
 refine ABox.mkN (0,1) (b.cells) rfl fun b3 h2 n2 s2 k2=>?_;conv=>whnf
 have s12:=s1.trans s2
 refine ALoad.one rfl (s2 _ _ k1) rfl ?_
 refine ALoad.one rfl k2 rfl ?_;conv=>whnf
 by_cases c1:a.term=b.term
 ·refine ACmp.yes (c1) ?_;conv=>whnf
  refine ALoad.one rfl (s2 _ _ k1) rfl ?_
  refine ALoad.one rfl k2 rfl ?_;conv=>whnf
  by_cases c2:a.index=b.index
  ·refine ACmp.yes (c2) ?_;conv=>whnf
   refine ALoad.one rfl (s2 _ _ k1) rfl ?_
   refine ALoad.one rfl k2 rfl ?_;conv=>whnf
   by_cases c3:a.kind=b.kind
   ·refine ACmp.yes (c3) ?_;conv=>whnf
    refine ALoad.one rfl (s2 _ _ k1) rfl ?_
    refine ALoad.one rfl k2 rfl ?_;conv=>whnf
    refine ACalls.mono (eqBytes_any h2 (Sl.sub ga s12) (Sl.sub gb s12) hn) ?_;rintro _ _ ⟨rfl,rfl⟩;conv=>whnf
    refine ⟨?_,s12⟩
    congr 1
    unfold EH.abs
    simp only [Prod.mk.injEq,c1,c2,c3,true_and]
   ·refine ACmp.no (c3) ?_;conv=>whnf
    exact ⟨by rw [hno c3 fun e=>congrArg (·.2.2.1) e],s12⟩
  ·refine ACmp.no (c2) ?_;conv=>whnf
   exact ⟨by rw [hno c2 fun e=>congrArg (·.2.1) e],s12⟩
 ·refine ACmp.no (c1) ?_;conv=>whnf
  exact ⟨by rw [hno c1 fun e=>congrArg (·.1) e],s12⟩
def afterH (i t:Int):List EH→List EH
  | []=>[]
  | e::r=>if e.index=i∧e.term=t then r else afterH i t r
theorem afterH_abs (i t:Int):∀ l:List EH,(afterH i t l).map EH.abs=afterE i t (l.map EH.abs)
 | []=>rfl
 | e::r=>by
  rw [List.map_cons]
  unfold afterH afterE
  have:(e.index=i∧e.term=t)↔(e.abs.2.1=i∧e.abs.1=t):=Iff.rfl
  by_cases c:e.index=i∧e.term=t
  ·rw [if_pos c,if_pos (this.1 c)]
  ·rw [if_neg c,if_neg (fun d=>c (this.2 d)),afterH_abs i t r]
theorem afterH_mem {i t:Int}:∀ {l:List EH} {e:EH},e∈afterH i t l→e∈l
 | [],_,h=>by cases h
 | x::r,e,h=>by
  unfold afterH at h
  split at h
  ·exact List.mem_cons_of_mem _ h
  ·exact List.mem_cons_of_mem _ (afterH_mem h)
theorem afterH_len (i t:Int):∀ l:List EH,(afterH i t l).length≤l.length
 | []=>by simp [afterH]
 | x::r=>by
  unfold afterH
  split
  ·simp
  ·have:=afterH_len i t r;simp;omega
set_option maxHeartbeats 2000000 in
theorem snapped_any {h:Heap} (N:Nat) {t1 t2 t3:Tag} {x:SH} (k:x.Ok h t1 t2 t3) (hn:x.e.n≤1000000000) (i tm cr:Int) (d:SlV) :
  ACalls PR 112 #[.agg x.cells.toArray, .agg #[I i,I tm,I cr, .slice d.a d.n d.c]] h (fun v h'=>∃ (e:SlV) (tg:Tag),v = .agg #[I x.term,I x.vote,I i,I tm,I cr, .slice d.a d.n d.c, .slice e.a e.n e.c]∧N≤tg.1 ∧
   Own h' tg 59 e.a e.n e.c 4 (encs (afterH i tm x.es))∧Sub h h'):=by
 refine ACalls.owner ⟨_,Tryz.func112,rfl,rfl⟩ fun o0 ho0 bnd=>?_
 have hl:x.es.length=x.e.n:=k.es.len
 obtain ⟨tg,htg⟩:∃ tg:Tag,tg=(o0+N+1,4):=⟨_,rfl⟩
 have ht0:((0,1):Tag)≠tg:=fun c=>by rw [htg] at c;have:=congrArg Prod.fst c;simp only at this;omega
 have hsub:∀ {h':Heap},KeepT tg h h'→Sub h h':=fun kt b y e=>kt b y.1 y.2 (fun c=>by have:=bnd b y.1 y.2 e;rw [c,htg] at this;simp at this;omega) e
 obtain ⟨out,hout⟩:∃ out,out=afterH i tm x.es:=⟨_,rfl⟩
 rw [← hout]
 refine acalls_of mix Tryz.func112 rfl rfl Tryz.ntmps112 Tryz.results112 rfl ?_;conv=>whnf
 refine ABox.mkN (0,1) (x.cells) rfl fun b2 h1 n1 s1 k1=>?_;conv=>whnf
 refine ABox.mkN (0,1) ([I i,I tm,I cr, .slice d.a d.n d.c]) rfl fun b3 h2 n2 s2 k2=>?_;conv=>whnf
 refine AAlloc.mkN (0,1) ([I 0,I 0,I 0,I 0,I 0, .slice none 0 0, .slice none 0 0]) rfl fun b4 h3 n3 s3 k3=>?_;conv=>whnf
 have b24:b2≠b4:=fun c=>by rw [c] at k1;rw [s2 _ _ k1] at n3;cases n3
 have b34:b3≠b4:=fun c=>by rw [c] at k2;rw [k2] at n3;cases n3
 have b23:b2≠b3:=fun c=>by rw [c] at k1;rw [k1] at n2;cases n2
 have n2h:h b3=none:=by
  cases e:h b3 with
  | none=>rfl
  | some y=>rw [s1 _ _ e] at n2;cases n2
 have n3h:h b4=none:=by
  cases e:h b4 with
  | none=>rfl
  | some y=>rw [s2 _ _ (s1 _ _ e)] at n3;cases n3
 refine ALoop.mk (fun e h'=>∃ (e0:Env) (j:Nat) (is:Bool) (left:List EH) (ls:SlV),e=updL 52 e0 [(2,Ptr b2),(3,Ptr b3),(4,Ptr b4),(5, .slice ls.a ls.n ls.c),(6, .bool is),(7,I j)]∧j≤x.e.n∧KeepT tg h h' ∧
   h' b2=some (row (0,1) x.cells 34)∧h' b3=some (row (0,1) [I i,I tm,I cr, .slice d.a d.n d.c] 31)∧h' b4=some (row (0,1) [I 0,I 0,I 0,I 0,I 0, .slice none 0 0, .slice none 0 0] 34) ∧
   Own h' tg 59 ls.a ls.n ls.c 4 (encs left)∧left.length≤j∧((is=false∧left=[]∧afterH i tm (x.es.drop j)=out)∨(is=true∧left++x.es.drop j=out)))
  (fun e=>x.e.n-natOf (e 7)) ⟨_,0,false,[],slv0,updL_self ⟨rfl,rfl,rfl,rfl,rfl,rfl,trivial⟩,by omega,(s1.trans (s2.trans s3)).keepT _,s3 _ _ (s2 _ _ k1),s3 _ _ k2,k3, .inl ⟨rfl,rfl,rfl⟩,by simp, .inl ⟨rfl,rfl,by rw [hout,List.drop_zero]⟩⟩ ?_
 rintro e h' ⟨e0,j,is,left,ls,rfl,hj,kt,q2,q3,q4,ow,hll,st⟩
 have hlsn:ls.n=left.length:=by have:=ow.sl.len;rw [encs_length] at this;omega
 conv=>whnf
 refine ALoad.one rfl q2 rfl ?_;conv=>whnf
 by_cases hjn:j<x.e.n
 ·refine ACmp.yes (by omega) ?_;conv=>whnf
  obtain ⟨y,hy⟩:∃ y,x.es[j]? = some y:=⟨x.es[j]'(by omega),by simp⟩
  have hdj:x.es.drop j=y::x.es.drop (j+1):=by
   obtain ⟨h0,h1⟩:=List.getElem?_eq_some_iff.1 hy
   rw [← h1];exact (List.getElem_cons_drop h0).symm
  have my:=List.mem_of_getElem? hy
  rcases st with ⟨rfl,hl0,hst⟩ | ⟨rfl,hst⟩
  ·
   subst hl0
   rw [hdj] at hst
   unfold afterH at hst
   conv=>whnf
   obtain ⟨bb,off,l,E,fz,ea,hb,hc⟩:=(k.es.sl.sub (hsub kt)).pos (by omega)
   have gp:(l.drop (off+j*4)).take 4=y.cells:=by rw [part_of_take hc (by omega),encs_part hy]
   have g1:l[off+j*4+1]? = some (I y.index):=by
    have:=congrArg (·[1]?) gp;simpa [List.getElem?_take,List.getElem?_drop,EH.cells,Nat.add_assoc] using this
   have g0:l[off+j*4+0]? = some (I y.term):=by
    have:=congrArg (·[0]?) gp;simpa [List.getElem?_take,List.getElem?_drop,EH.cells,Nat.add_assoc] using this
   refine ADrawn.mk (h') [] (Sub.refl _) (by decide +kernel) ?_;conv=>whnf
   refine ALoad.one rfl q2 rfl ?_;conv=>whnf
   rw [ea]
   refine AIdx.nat rfl hjn rfl rfl ?_;conv=>whnf
   refine ALoad.one rfl hb g1 ?_
   refine ALoad.one rfl q3 rfl ?_;conv=>whnf
   by_cases c1:y.index=i
   ·refine ACmp.yes (c1) ?_;conv=>whnf
    refine ALoad.one rfl q2 rfl ?_;conv=>whnf
    rw [ea]
    refine AIdx.nat rfl hjn rfl rfl ?_;conv=>whnf
    refine ALoad.one rfl hb g0 ?_
    refine ALoad.one rfl q3 rfl ?_;conv=>whnf
    by_cases c2:y.term=tm
    ·refine ACmp.yes (c2) ?_;conv=>whnf
     rw [if_pos ⟨c1,c2⟩] at hst
     refine AArith.ok (by omega) (by omega) ((by omega:(j:Int)+1=((j+1:Nat):Int))) ?_;conv=>whnf
     refine ⟨⟨_,j+1,true,[],ls,updL_self ⟨rfl,rfl,rfl,rfl,rfl,rfl,trivial⟩,by omega,kt,q2,q3,q4,ow,(by simp),(.inr ⟨rfl,hst⟩)⟩,?_⟩
     show x.e.n-(j+1)<x.e.n-j
     omega
    ·refine ACmp.no (c2) ?_;conv=>whnf
     rw [if_neg (fun c=>c2 c.2)] at hst
     refine AArith.ok (by omega) (by omega) ((by omega:(j:Int)+1=((j+1:Nat):Int))) ?_;conv=>whnf
     refine ⟨⟨_,j+1,false,[],ls,updL_self ⟨rfl,rfl,rfl,rfl,rfl,rfl,trivial⟩,by omega,kt,q2,q3,q4,ow,(by simp),(.inl ⟨rfl,rfl,hst⟩)⟩,?_⟩
     show x.e.n-(j+1)<x.e.n-j
     omega
   ·refine ACmp.no (c1) ?_;conv=>whnf
    rw [if_neg (fun c=>c1 c.1)] at hst
    refine AArith.ok (by omega) (by omega) ((by omega:(j:Int)+1=((j+1:Nat):Int))) ?_;conv=>whnf
    refine ⟨⟨_,j+1,false,[],ls,updL_self ⟨rfl,rfl,rfl,rfl,rfl,rfl,trivial⟩,by omega,kt,q2,q3,q4,ow,(by simp),(.inl ⟨rfl,rfl,hst⟩)⟩,?_⟩
    show x.e.n-(j+1)<x.e.n-j
    omega
  ·conv=>whnf
   obtain ⟨bb,off,l,E,fz,ea,hb,hc⟩:=(k.es.sl.sub (hsub kt)).pos (by omega)
   have gp:(l.drop (off+j*4)).take 4=y.cells:=by rw [part_of_take hc (by omega),encs_part hy]
   refine ALoad.one rfl q2 rfl ?_;conv=>whnf
   rw [ea]
   refine AIdx.nat rfl hjn rfl rfl ?_;conv=>whnf
   refine ALoad.agg rfl hb gp rfl ?_;conv=>whnf
   refine ABuildSl.mkN (0,1) y.cells rfl rfl rfl rfl rfl rfl rfl fun b6 h5 n5 s5 k6=>?_;conv=>whnf
   refine AAppend.own (t:=tg) (E:=59) (z:=4) (by_:=48) (zero:=[I 0,I 0,I 0, .slice none 0 0]) (tx:=(0,1)) (xs:=y.cells) rfl ⟨_,rfl⟩ rfl rfl rfl rfl (by omega) (ow.move fun _ _ e=>s5 _ _ e)
    ⟨rfl,Nat.le_refl _, .inr ⟨b6,0,_,_,_,rfl,k6,rfl⟩⟩ rfl (by omega) (by omega) fun a7 c7 h7 ow7 t7 _=>?_
   conv=>whnf
   refine ADrawn.mk (h7) [] (Sub.refl _) (by decide +kernel) ?_;conv=>whnf
   rw [hdj] at hst
   have e7:encs left++y.cells=encs (left++[y]):=by simp [encs]
   rw [e7] at ow7
   refine AArith.ok (by omega) (by omega) ((by omega:(j:Int)+1=((j+1:Nat):Int))) ?_;conv=>whnf
   refine ⟨⟨_,j+1,true,(left++[y]),⟨a7,ls.n+1,c7⟩,updL_self ⟨rfl,rfl,rfl,rfl,rfl,rfl,trivial⟩,by omega,(kt.trans ((s5.keepT _).trans t7)),(t7.get ht0 (s5 _ _ q2)),(t7.get ht0 (s5 _ _ q3)),(t7.get ht0 (s5 _ _ q4)),ow7,(by simp;omega),(.inr ⟨rfl,by rw [List.append_assoc];exact hst⟩)⟩,?_⟩
   show x.e.n-(j+1)<x.e.n-j
   omega
 ·refine ACmp.no (by omega) ?_;conv=>whnf
  have hjj:j=x.e.n:=by omega
  have hdn:x.es.drop j=[]:=List.drop_of_length_le (by omega)
  have hfin:left=out:=by
   rcases st with ⟨_,hl0,hst⟩ | ⟨_,hst⟩
   ·rw [hdn] at hst;rw [hl0,← hst];rfl
   ·rw [hdn,List.append_nil] at hst;exact hst
  subst hfin
  refine ALoad.agg rfl q3 rfl rfl ?_;conv=>whnf
  refine AStore.aggN rfl rfl rfl (q2) rfl ([I x.term,I x.vote,I i,I tm,I cr, .slice d.a d.n d.c, .slice x.e.a x.e.n x.e.c]) rfl fun h5 t5 k5 a5 e5=>?_;conv=>whnf
  refine AStore.oneN rfl rfl rfl (k5) rfl ([I x.term,I x.vote,I i,I tm,I cr, .slice d.a d.n d.c, .slice ls.a ls.n ls.c]) rfl fun h6 t6 k6 a6 e6=>?_;conv=>whnf
  refine ALoad.agg rfl k6 rfl rfl ?_;conv=>whnf
  refine AStore.aggN rfl rfl rfl ((e6 _ _ (Ne.symm b24) (e5 _ _ (Ne.symm b24) q4))) rfl ([I x.term,I x.vote,I i,I tm,I cr, .slice d.a d.n d.c, .slice ls.a ls.n ls.c]) rfl fun h7 t7 k7 a7 e7=>?_;conv=>whnf
  refine ALoad.agg rfl k7 rfl rfl ?_;conv=>whnf
  refine ⟨ls,tg,rfl,by rw [htg];show N≤o0+N+1;omega,((ow.keepT t5 (Ne.symm ht0)).keepT t6 (Ne.symm ht0)).keepT t7 (Ne.symm ht0),?_⟩
  exact a7 h (a6 h (a5 h (hsub kt) (by cases e:h b2 with | none=>rfl | some y=>rw [e] at n1;cases n1)) n1) n3h
section
def kvG {α:Type} (f:α→Value) (l:List (Int×α)):List (Value×Value):=l.map fun y=>(I y.1,f y.2)
theorem kvG_miss {α:Type} {f:α→Value} {k:Int}:∀ {l:List (Int×α)} {es:List MapEntry},es.map kv=kvG f l→alook k l=none→∀ e∈es,e.key≠I k
 | [],es,h,_,e,he=>by
  have:es=[]:=List.map_eq_nil_iff.1 h
  rw [this] at he;cases he
 | (j,y)::l,es,h,hn,e,he=>by
  cases es with
  | nil=>cases he
  | cons e1 es =>
   simp only [kvG,List.map_cons,List.cons.injEq,Prod.mk.injEq,kv] at h
   obtain ⟨⟨h1,h2⟩,h3⟩:=h
   unfold alook at hn
   split at hn
   ·cases hn
   rename_i hj
   rcases List.mem_cons.1 he with rfl | he
   ·rw [h1];intro c;simp only [Value.int.injEq,true_and] at c;exact hj c
   ·exact kvG_miss (f:=f) h3 hn e he
theorem kvG_hit {α:Type} {f:α→Value} {k:Int} {o:α}:∀ {l:List (Int×α)} {es:List MapEntry},es.map kv=kvG f l→alook k l=some o →
  ∃ (j:Nat) (e:MapEntry),es[j]? = some e∧e.key=I k∧e.val=f o∧∀ x:α,(es.set j {e with val:=f x}).map kv=kvG f (aset k x l)
 | [],es,h,hn=>by cases hn
 | (j,y)::l,es,h,hn=>by
  cases es with
  | nil=>simp [kvG] at h
  | cons e1 es =>
   simp only [kvG,List.map_cons,List.cons.injEq,Prod.mk.injEq,kv] at h
   obtain ⟨⟨h1,h2⟩,h3⟩:=h
   unfold alook at hn
   split at hn
   ·rename_i hj
    cases hn
    refine ⟨0,e1,rfl,by rw [h1,hj],h2,fun x=>?_⟩
    unfold aset
    rw [if_pos hj]
    simp only [List.set_cons_zero,List.map_cons,kvG,kv,h1]
    rw [show es.map (fun e=>(e.key,e.val))=l.map (fun y=>(I y.1,f y.2)) from h3]
   ·rename_i hj
    obtain ⟨i,e,a,b,c,d⟩:=kvG_hit (f:=f) h3 hn
    refine ⟨i+1,e,a,b,c,fun x=>?_⟩
    unfold aset
    rw [if_neg hj]
    simp only [List.set_cons_succ,List.map_cons,kvG,kv,h1,h2]
    have:=d x
    unfold kvG at this
    rw [show (es.set i {e with val:=f x}).map (fun e=>(e.key,e.val))=_ from this]
theorem kvG_new {α:Type} {f:α→Value} {k:Int} {x:α} {clock:Nat}:∀ {l:List (Int×α)} {es:List MapEntry},es.map kv=kvG f l→alook k l=none→(es++[(⟨I k,f x,clock⟩:MapEntry)]).map kv=kvG f (aset k x l)
 | [],es,h,_=>by
  have:es=[]:=List.map_eq_nil_iff.1 h
  rw [this];rfl
 | (j,y)::l,es,h,hn=>by
  cases es with
  | nil=>simp [kvG] at h
  | cons e1 es =>
   simp only [kvG,List.map_cons,List.cons.injEq] at h
   unfold alook at hn
   split at hn
   ·cases hn
   rename_i hj
   unfold aset
   rw [if_neg hj]
   have:=kvG_new (f:=f) (x:=x) (clock:=clock) (es:=es) h.2 hn
   simp only [List.cons_append,List.map_cons,kvG] at this ⊢
   rw [this,h.1]
theorem alook_map {α β:Type} (f:α→β) (k:Int):∀ l:List (Int×α),alook k (l.map fun y=>(y.1,f y.2))=(alook k l).map f
 | []=>rfl
 | (j,y)::l=>by
  rw [List.map_cons]
  unfold alook
  simp only []
  split
  ·rfl
  ·exact alook_map f k l
theorem aset_map {α β:Type} (f:α→β) (k:Int) (x:α):∀ l:List (Int×α),(aset k x l).map (fun y=>(y.1,f y.2))=aset k (f x) (l.map fun y=>(y.1,f y.2))
 | []=>rfl
 | (j,y)::l=>by
  rw [List.map_cons]
  unfold aset
  simp only []
  split
  ·rfl
  ·rw [List.map_cons,aset_map f k x l]
theorem aset_mem {α:Type} {k:Int} {x:α} {y:Int×α}:∀ {l:List (Int×α)},y∈aset k x l→y.2=x∨y∈l
 | [],h=>by rw [List.mem_singleton.1 h];exact .inl rfl
 | (j,z)::l,h=>by
  unfold aset at h
  split at h
  ·rcases List.mem_cons.1 h with rfl | h
   ·exact .inl rfl
   ·exact .inr (List.mem_cons_of_mem _ h)
  ·rcases List.mem_cons.1 h with rfl | h
   ·exact .inr (by simp)
   ·exact (aset_mem h).imp id (List.mem_cons_of_mem _)
theorem alook_mem {α:Type} {k:Int} {x:α}:∀ {l:List (Int×α)},alook k l=some x→(k,x)∈l
 | [],h=>by cases h
 | (j,z)::l,h=>by
  unfold alook at h
  split at h
  ·rename_i e;cases h;rw [e];simp
  ·exact List.mem_cons_of_mem _ (alook_mem h)
theorem AMapUpd.hitN {P:Program} {t kt et:TypeId} {d:TypeDesc} {h:Heap} {r clock:Nat} {tg:Tag} {es:List MapEntry} {k x:Value} {K:Heap→Prop} {j:Nat} {e:MapEntry} (m:MapAt h r tg d es clock)
  (ht:P.underlying t=some (.map kt et)) (hd:P.underlying kt=some d) (hj:es[j]? = some e) (hk:e.key=k)
  (c:∀ h2,MapAt h2 r tg d (es.set j {e with val:=x}) clock→KeepT tg h h2→K h2):AMapUpd P t r k x h K :=
 AMapUpd.hit m ht hd hj hk fun mm=>c _ mm (KeepT.set m.at_)
theorem AMapUpd.missN {P:Program} {t kt et:TypeId} {d:TypeDesc} {h:Heap} {r clock:Nat} {tg:Tag} {es:List MapEntry} {k x:Value} {K:Heap→Prop} (m:MapAt h r tg d es clock)
  (ht:P.underlying t=some (.map kt et)) (hd:P.underlying kt=some d) (hik:Go.MapKept.IsKey d k) (hk:∀ e∈es,e.key≠k)
  (c:∀ h2,MapAt h2 r tg d (es++[(⟨k,x,clock⟩:MapEntry)]) (clock+1)→KeepT tg h h2→K h2):AMapUpd P t r k x h K :=
 AMapUpd.miss m ht hd hik hk fun mm=>c _ mm (KeepT.set m.at_)
theorem Idle.x {T:TypeId} {LP:Heap→Nat→Nat→LG→Prop} {h:Heap} {p o:Nat} {c:CoreM} (k:Idle T LP h p o c):∃ x,CoreX T LP h p o 1 c x:=k.all 1
theorem state_i {h:Heap} {p o:Nat} {c:CoreM} (k:PIdle h p o c):ACalls PR 18 #[Ptr p] h (fun v h'=>v=I c.state∧h=h'):=by
 obtain ⟨x,k⟩:=k.x;exact State_any k
theorem term_i {h:Heap} {p o:Nat} {c:CoreM} (k:PIdle h p o c):ACalls PR 17 #[Ptr p] h (fun v h'=>v=I c.term∧h=h'):=by
 obtain ⟨x,k⟩:=k.x;exact CTerm_any k
theorem commit_i {h:Heap} {p o:Nat} {c:CoreM} (k:PIdle h p o c):ACalls PR 14 #[Ptr p] h (fun v h'=>v=I c.commit∧h=h'):=by
 obtain ⟨x,k⟩:=k.x;exact Commit_any k
variable {h h':Heap} {N p:Nat} {x:NetM} {v:NX}
theorem NetX.same (k:NetX h N p x v) (kt:KeepT (N,0) h h') (hs:h' p=some (row (N,0) (netCells x v) 41)):NetX h' N p x v :=
 k.move' (fun b t y _ n e=>kt _ _ _ n e) hs rfl rfl rfl rfl rfl rfl rfl
theorem NetX.ledSet (k:NetX h N p x v) (kt:KeepT (N,1) h h') {e1:List MapEntry} {k1:Nat} {l:List (Int×Int)} (m:MapAt h' v.m1 (N,1) (.int .i64) e1 k1) (e:e1.map kv=kvI l) :
  NetX h' N p {x with leaders:=l} {v with e1:=e1,k1:=k1}:=by
 have mv:∀ b (t:Tag) y,t≠(N,1)→h b=some (t,y)→h' b=some (t,y):=fun b t y n e=>kt _ _ _ n e
 refine ⟨k.n0,mv _ _ _ (by simp) k.str,k.sz3,k.sz5,fun n n1 n2=>?_,k.none,fun n n1 n2=>?_,k.ml.move fun _ _ e=>mv _ _ _ (by simp) e,k.pa,fun y hy=>?_,k.mb,m,e,k.cho.move fun _ e=>mv _ _ _ (by simp) e,k.choE,k.choA,fun y hy=>Sl.move (k.choG y hy) fun _ _ e=>mv _ _ _ (by simp) e⟩
 ·obtain ⟨b,hb,id⟩:=k.cores n n1 n2
  exact ⟨b,hb,id.move fun _ t _ ht e=>mv _ _ _ (fun c=>by rw [c] at ht;simp only at ht;omega) e⟩
 ·obtain ⟨q1,t1,q2,q3⟩:=k.kept n n1 n2
  exact ⟨q1,t1,q2,q3.move fun _ t _ ht e=>mv _ _ _ (by rcases ht with rfl | rfl | rfl <;> (intro c;have:=congrArg Prod.fst c;have:=congrArg Prod.snd c;simp only at *;omega)) e⟩
 ·obtain ⟨r,hr⟩:=k.ps y hy
  exact ⟨r,hr.move fun _ t _ ht e=>mv _ _ _ (by rcases ht with rfl | rfl | rfl <;> simp) e⟩
theorem NetX.choSet (k:NetX h N p x v) (kt:KeepT (N,2) h h') {e2:List MapEntry} {k2:Nat} {l:List (Int×EH)} (m:MapAt h' v.m2 (N,2) (.int .i64) e2 k2) (e:e2.map kv=kvE l) {l':List (Int×Abs)} (el:l.map (fun y=>(y.1,y.2.abs))=l') (g:∀ y∈l,y.2.Good h (N+1,2)) :
  NetX h' N p {x with chosen:=l'} {v with e2:=e2,k2:=k2,ch:=l}:=by
 have mv:∀ b (t:Tag) y,t≠(N,2)→h b=some (t,y)→h' b=some (t,y):=fun b t y n e=>kt _ _ _ n e
 refine ⟨k.n0,mv _ _ _ (by simp) k.str,k.sz3,k.sz5,fun n n1 n2=>?_,k.none,fun n n1 n2=>?_,k.ml.move fun _ _ e=>mv _ _ _ (by simp) e,k.pa,fun y hy=>?_,k.mb,k.led.move fun _ e=>mv _ _ _ (by simp) e,k.ledE,m,e,el,fun y hy=>Sl.move (g y hy) fun _ _ e=>mv _ _ _ (by simp) e⟩
 ·obtain ⟨b,hb,id⟩:=k.cores n n1 n2
  exact ⟨b,hb,id.move fun _ t _ ht e=>mv _ _ _ (fun c=>by rw [c] at ht;simp only at ht;omega) e⟩
 ·obtain ⟨q1,t1,q2,q3⟩:=k.kept n n1 n2
  exact ⟨q1,t1,q2,q3.move fun _ t _ ht e=>mv _ _ _ (by rcases ht with rfl | rfl | rfl <;> (intro c;have:=congrArg Prod.fst c;have:=congrArg Prod.snd c;simp only at *;omega)) e⟩
 ·obtain ⟨r,hr⟩:=k.ps y hy
  exact ⟨r,hr.move fun _ t _ ht e=>mv _ _ _ (by rcases ht with rfl | rfl | rfl <;> simp) e⟩
structure LookOk (x:NetM) (n:Int):Prop where
  f1:(x.cores.get n).state=2→∀ o,alook (x.cores.get n).term x.leaders=some o→o=n
  f2:x.commits.get n≤(x.cores.get n).commit
  f3:x.terms.get n≤(x.cores.get n).term
  es:(lookEs (x.cores.get n).commit (x.kept.get n).entries (true,x.chosen)).1=true
  top:(x.cores.get n).commit≤(x.kept.get n).snap.index+(x.kept.get n).entries.length
  s0:0≤(x.kept.get n).snap.index
  s1:(x.kept.get n).snap.index≤1000000000
  len:(x.kept.get n).entries.length≤1000000000
  fine:x.fine=true
theorem lookEs_false (commit:Int):∀ (l:List Abs) (ch:List (Int×Abs)),(lookEs commit l (false,ch)).1=false
 | [],ch=>rfl
 | e::l,ch=>by
  unfold lookEs
  split
  ·rfl
  ·exact lookEs_false commit l _
theorem lookEs_head {commit:Int} {e:Abs} {l:List Abs} {ch:List (Int×Abs)} (k:(lookEs commit (e::l) (true,ch)).1=true) (hc:¬ commit<e.2.1) :
  agreeE (alook e.2.1 ch) e=true∧lookEs commit (e::l) (true,ch)=lookEs commit l (true,aset e.2.1 e ch):=by
 have e1:lookEs commit (e::l) (true,ch)=lookEs commit l (true&&agreeE (alook e.2.1 ch) e,aset e.2.1 e ch):=if_neg hc
 rw [e1] at k ⊢
 cases ha:agreeE (alook e.2.1 ch) e with
 | true=>exact ⟨rfl,rfl⟩
 | false=>rw [ha] at k;simp only [Bool.and_false] at k;rw [lookEs_false] at k;cases k
theorem look_eq (x:NetM) (n:Int) (k:LookOk x n):x.look n={x with
  leaders:=if (x.cores.get n).state=2 then aset (x.cores.get n).term n x.leaders else x.leaders,
  chosen:=(lookEs (x.cores.get n).commit (x.kept.get n).entries (true,x.chosen)).2,
  commits:=x.commits.set n (x.cores.get n).commit,terms:=x.terms.set n (x.cores.get n).term}:=by
 have f1:(if (x.cores.get n).state=2 then agreeI (alook (x.cores.get n).term x.leaders) n else true)=true:=by
  split
  ·rename_i h2
   cases ho:alook (x.cores.get n).term x.leaders with
   | none=>rfl
   | some o=>exact decide_eq_true (k.f1 h2 o ho)
  ·rfl
 have f2:(decide (x.commits.get n≤(x.cores.get n).commit)&&decide (x.terms.get n≤(x.cores.get n).term))=true:=by
  rw [decide_eq_true k.f2,decide_eq_true k.f3];rfl
 unfold NetM.look
 simp only []
 rw [k.fine,f1,f2,Bool.true_and,Bool.true_and,k.es,decide_eq_true k.top,Bool.and_self]
set_option maxHeartbeats 4000000 in
theorem look_any (k:NetX h N p x v) {n:Int} (n1:1≤n) (n2:n≤x.size) (ok:LookOk x n) :
  ACalls PR 124 #[Ptr p,I n] h (fun r h'=>r = .tuple #[]∧(∃ v',NetX h' N p (x.look n) v')∧Low N h h'):=by
 rw [look_eq x n ok]
 have hN:=k.n0
 have hs5:=k.sz5
 have n5:n≤5:=by omega
 obtain ⟨m,hm⟩:∃ m:Nat,n=m:=⟨n.toNat,by omega⟩
 obtain ⟨b,hb,id⟩:=k.cores n n1 n2
 obtain ⟨ka,t1,kt1,kok⟩:=k.kept n n1 n5
 obtain ⟨c,hc⟩:∃ c,c=x.cores.get n:=⟨_,rfl⟩
 obtain ⟨s,hs⟩:∃ s,s=v.ke.get n:=⟨_,rfl⟩
 rw [← hs] at ka kok
 have o1:=ok.f1;have o2:=ok.f2;have o3:=ok.f3;have o4:=ok.es;have o5:=ok.top;have o6:=ok.s0;have o7:=ok.s1;have o8:=ok.len
 rw [← ka] at o4 o5 o6 o7 o8 ⊢
 rw [← hc] at o1 o2 o3 o4 o5 id ⊢
 have hsl:s.es.length=s.e.n:=kok.es.len
 have hlen:s.abs.entries.length=s.e.n:=by show (s.es.map EH.abs).length=_;rw [List.length_map,hsl]
 have hse:s.abs.entries=s.es.map EH.abs:=rfl
 have hsi:s.abs.snap.index=s.si:=rfl
 rw [hlen,hsi] at o5
 rw [hsi] at o6 o7
 rw [hlen] at o8
 have hcore:(netCells x v)[0+2+m*1]? = some (Ptr b):=by
  have:=core_cell x v n1 n5
  rw [hb] at this
  rw [show 0+2+m*1=2+n.toNat by omega];exact this
 have t01:((0,1):Tag)≠(N,0):=fun c=>by have:=congrArg Prod.fst c;simp only at this;omega
 obtain ⟨LL,hLL⟩:∃ LL,LL=if c.state=2 then aset c.term n x.leaders else x.leaders:=⟨_,rfl⟩
 rw [← hLL]
 refine acalls_ofj mix Tryz.func124 rfl rfl Tryz.ntmps124 Tryz.results124 rfl ?_;conv=>whnf
 refine AIdxA.nat (n:=6) (z:=1) (j:=m) (by omega) (by omega) rfl rfl ?_;conv=>whnf
 refine ALoad.one rfl k.str hcore ?_;conv=>whnf
 refine AIf.cut (fun e h'=>∃ (e0:Env) (V1:NX),e=updL 172 e0 [(0,Ptr p),(1,I n),(4,Ptr b)]∧NetX h' N p {x with leaders:=LL} V1∧V1.cp=v.cp∧V1.ke=v.ke∧V1.k2=v.k2∧V1.ch=v.ch∧Low N h h') ?_ ?_
 ·conv=>whnf
  refine ACalls.mono (state_i id) ?_;rintro _ _ ⟨rfl,rfl⟩;conv=>whnf
  by_cases c2:c.state=2
  ·refine ACmp.yes (c2) ?_;conv=>whnf
   rw [if_pos c2] at hLL
   refine AIf.go ?_;conv=>whnf
   refine ADrawn.mk (h) [] (Sub.refl _) (by decide +kernel) ?_;conv=>whnf
   refine ALoad.one rfl k.str rfl ?_;conv=>whnf
   refine ACalls.mono (term_i id) ?_;rintro _ _ ⟨rfl,rfl⟩;conv=>whnf
   refine ⟨Sub.refl _,?_⟩;conv=>whnf
   cases ho:alook c.term x.leaders with
   | none =>
    refine ALookup.miss k.led rfl rfl rfl rfl (kvG_miss (f:=I) k.ledE ho) ?_
    conv=>whnf
    refine AIf.go ?_;conv=>whnf
    refine ALoad.one rfl k.str rfl ?_;conv=>whnf
    have EE:(v.e1++[(⟨I c.term,I n,v.k1⟩:MapEntry)]).map kv=kvI (aset c.term n x.leaders):=kvG_new (f:=I) k.ledE ho
    refine AStore.oneN rfl rfl rfl (k.str) rfl (netCells x v) rfl fun h2 t2 q2 a2 e2=>?_;conv=>whnf
    have k2:=k.same t2 q2
    have id2:PIdle h2 b (N+2*n.toNat) c:=id.move fun _ t _ ht e=>t2 _ _ _ (fun c=>by rw [c] at ht;simp only at ht;omega) e
    refine ADrawn.mkO (h2) [7] [0,1,2,3,4,6,5,7] (Sub.refl _) (by decide +kernel) ?_;conv=>whnf
    refine ALoad.one rfl k2.str rfl ?_;conv=>whnf
    refine ACalls.mono (term_i id2) ?_;rintro _ _ ⟨rfl,rfl⟩;conv=>whnf
    refine ⟨Sub.refl _,?_⟩;conv=>whnf
    refine AMapUpd.missN k2.led rfl rfl rfl (kvG_miss (f:=I) k2.ledE ho) fun h3 mm t3=>?_;conv=>whnf
    have K1:=k2.ledSet t3 mm EE
    have L1:Low N h h3:=Low.trans (show Low N h h2 from fun b t y ht e=>t2 _ _ _ (fun c=>by rw [c] at ht;simp at ht) e) fun b t y ht e=>t3 _ _ _ (fun c=>by rw [c] at ht;simp at ht) e
    exact ⟨_,{v with e1:=(v.e1++[(⟨I c.term,I n,v.k1⟩:MapEntry)]),k1:=(v.k1+1)},updL_self ⟨rfl,rfl,rfl,trivial⟩,by rw [hLL];exact K1,rfl,rfl,rfl,rfl,L1⟩
   | some o =>
    have hon:=(o1 c2 o ho).symm
    subst hon
    obtain ⟨i,e1,g1,g2,g3,g4⟩:=kvG_hit (f:=I) k.ledE ho
    refine ALookup.hit k.led rfl rfl (List.mem_of_getElem? g1) g2 ?_
    rw [g3]
    conv=>whnf
    refine AIf.go ?_;conv=>whnf
    refine ALoad.one rfl k.str rfl ?_;conv=>whnf
    refine ACmp.yes (rfl) ?_;conv=>whnf
    have EE:(v.e1.set i {e1 with val:=I n}).map kv=kvI (aset c.term n x.leaders):=g4 n
    refine AStore.oneN rfl rfl rfl (k.str) rfl (netCells x v) rfl fun h2 t2 q2 a2 e2=>?_;conv=>whnf
    have k2:=k.same t2 q2
    have id2:PIdle h2 b (N+2*n.toNat) c:=id.move fun _ t _ ht e=>t2 _ _ _ (fun c=>by rw [c] at ht;simp only at ht;omega) e
    refine ADrawn.mkO (h2) [7] [0,1,2,3,4,6,5,7] (Sub.refl _) (by decide +kernel) ?_;conv=>whnf
    refine ALoad.one rfl k2.str rfl ?_;conv=>whnf
    refine ACalls.mono (term_i id2) ?_;rintro _ _ ⟨rfl,rfl⟩;conv=>whnf
    refine ⟨Sub.refl _,?_⟩;conv=>whnf
    refine AMapUpd.hitN k2.led rfl rfl g1 g2 fun h3 mm t3=>?_;conv=>whnf
    have K1:=k2.ledSet t3 mm EE
    have L1:Low N h h3:=Low.trans (show Low N h h2 from fun b t y ht e=>t2 _ _ _ (fun c=>by rw [c] at ht;simp at ht) e) fun b t y ht e=>t3 _ _ _ (fun c=>by rw [c] at ht;simp at ht) e
    exact ⟨_,{v with e1:=(v.e1.set i {e1 with val:=I n}),k1:=v.k1},updL_self ⟨rfl,rfl,rfl,trivial⟩,by rw [hLL];exact K1,rfl,rfl,rfl,rfl,L1⟩
  ·refine ACmp.no (c2) ?_;conv=>whnf
   rw [if_neg c2] at hLL
   have L1:=Low.refl N h
   have K1:=k
   exact ⟨_,v,updL_self ⟨rfl,rfl,rfl,trivial⟩,by rw [hLL];exact K1,rfl,rfl,rfl,rfl,L1⟩
 rintro e H1 ⟨e1,V1,rfl,K1,V1c,V1k,V12,V1h,L1⟩
 conv=>whnf
 have id1:PIdle H1 b (N+2*n.toNat) c:=by
  obtain ⟨b',hb',id'⟩:=K1.cores n n1 n2
  rw [V1c,hb] at hb';cases hb';rw [hc];exact id'
 have hcm:(netCells {x with leaders:=LL} V1)[0+54+m*1]? = some (I (x.commits.get n)):=by
  rw [show 0+54+m*1=54+n.toNat by omega];exact cm_cell {x with leaders:=LL} V1 n1 n5
 have htm:(netCells {x with leaders:=LL} V1)[0+60+m*1]? = some (I (x.terms.get n)):=by
  rw [show 0+60+m*1=60+n.toNat by omega];exact tm_cell {x with leaders:=LL} V1 n1 n5
 refine AIf.go ?_;conv=>whnf
 refine ADrawn.mkO (H1) [29] [0,1,2,3,4,5,6,8,9,10,11,12,13,7,14,15,16,17,19,20,21,22,23,24,18,25,26,27,28,29] (Sub.refl _) (by decide +kernel) ?_;conv=>whnf
 refine ALoad.one rfl K1.str rfl ?_;conv=>whnf
 refine AIdxA.nat (n:=6) (z:=1) (j:=m) (by omega) (by omega) rfl rfl ?_;conv=>whnf
 refine ALoad.one rfl K1.str hcm ?_;conv=>whnf
 refine ACalls.mono (commit_i id1) ?_;rintro _ _ ⟨rfl,rfl⟩;conv=>whnf
 refine ⟨Sub.refl _,?_⟩;conv=>whnf
 refine ACmp.yes (o2) ?_;conv=>whnf
 refine AIdxA.nat (n:=6) (z:=1) (j:=m) (by omega) (by omega) rfl rfl ?_;conv=>whnf
 refine ALoad.one rfl K1.str htm ?_;conv=>whnf
 refine ACalls.mono (term_i id1) ?_;rintro _ _ ⟨rfl,rfl⟩;conv=>whnf
 refine ⟨Sub.refl _,?_⟩;conv=>whnf
 refine ACmp.yes (o3) ?_;conv=>whnf
 refine AStore.oneN rfl rfl rfl (K1.str) rfl (netCells {x with leaders:=LL} V1) rfl fun h2 t2 q2 a2 e2=>?_;conv=>whnf
 have K2:=K1.same t2 q2
 have L2:Low N h h2:=L1.trans fun b t y ht e=>t2 _ _ _ (fun c=>by rw [c] at ht;simp at ht) e
 refine AIdxA.nat (n:=6) (z:=7) (j:=m) (by omega) (by omega) rfl rfl ?_;conv=>whnf
 have hke:((netCells {x with leaders:=LL} V1).drop (0+8+m*7)).take 7=s.cells:=by
  rw [show 0+8+m*7=8+n.toNat*7 by omega,kept_cells {x with leaders:=LL} V1 n1 n5,V1k,hs]
 refine ALoad.agg rfl q2 hke rfl ?_;conv=>whnf
 refine AAlloc.mkN (0,1) ([I 0,I 0,I 0,I 0,I 0, .slice none 0 0, .slice none 0 0]) rfl fun b7 h3 n3 s3 q3=>?_;conv=>whnf
 refine AStore.aggN rfl rfl rfl (q3) rfl (s.cells) rfl fun h4 t4 q4 a4 e4=>?_;conv=>whnf
 have K4:=(K2.sub s3).local t4
 have L4:Low N h h4:=L2.trans (Sub.low (a4 h2 s3 n3))
 clear t2 q2 a2 e2 K2 L2 n3 s3 q3 t4 a4 e4
 refine ALoop.mk (fun e h'=>∃ (e0:Env) (j:Nat) (ch:List (Int×Abs)) (v':NX),e=updL 172 e0 [(0,Ptr p),(1,I n),(4,Ptr b),(7,Ptr b7),(8,I j)]∧j≤s.e.n∧Low N h h'∧h' b7=some (row (0,1) s.cells 34) ∧
   NetX h' N p {x with leaders:=LL,chosen:=ch} v'∧v'.cp=v.cp∧v'.ke=v.ke∧lookEs c.commit s.abs.entries (true,x.chosen)=lookEs c.commit ((s.es.drop j).map EH.abs) (true,ch))
  (fun e=>s.e.n-natOf (e 8)) ⟨_,0,x.chosen,V1,updL_self ⟨rfl,rfl,rfl,rfl,rfl,trivial⟩,by omega,L4,q4,K4,V1c,V1k,by rw [List.drop_zero,hse]⟩ ?_
 clear q4 K4 L4
 rintro e h' ⟨e0,j,ch,v',rfl,hj,L5,q5,K5,vc,vk,st⟩
 have hcm:∀ y,(netCells {x with leaders:=LL,chosen:=y} v')[0+54+m*1]? = some (I (x.commits.get n)):=fun y=>by
  rw [show 0+54+m*1=54+n.toNat by omega];exact cm_cell _ v' n1 n5
 have id5:PIdle h' b (N+2*n.toNat) c:=by
  obtain ⟨b',hb',id'⟩:=K5.cores n n1 n2
  rw [vc,hb] at hb';cases hb';rw [hc];exact id'
 conv=>whnf
 refine AIf.go ?_;conv=>whnf
 refine ALoad.one rfl q5 rfl ?_;conv=>whnf
 by_cases hjn:j<s.e.n
 ·refine ACmp.yes (by omega) ?_;conv=>whnf
  refine AIf.go ?_;conv=>whnf
  obtain ⟨y,hy⟩:∃ y,s.es[j]? = some y:=⟨s.es[j]'(by omega),by simp⟩
  have hdj:s.es.drop j=y::s.es.drop (j+1):=by
   obtain ⟨h0,h1⟩:=List.getElem?_eq_some_iff.1 hy
   rw [← h1];exact (List.getElem_cons_drop h0).symm
  have my:=List.mem_of_getElem? hy
  obtain ⟨ka5,t15,kt15,kok5⟩:=K5.kept n n1 n5
  rw [vk,← hs] at kok5
  obtain ⟨bb,off,l,E,fz,ea,hbb,hcc⟩:=kok5.es.sl.pos (by omega)
  have gp:(l.drop (off+j*4)).take 4=y.cells:=by rw [part_of_take hcc (by omega),encs_part hy]
  refine ALoad.one rfl q5 rfl ?_;conv=>whnf
  rw [ea]
  refine AIdx.nat rfl hjn rfl rfl ?_;conv=>whnf
  refine ALoad.agg rfl hbb gp rfl ?_;conv=>whnf
  refine AAlloc.mkN (0,1) ([I 0,I 0,I 0, .slice none 0 0]) rfl fun b9 h10 n10 s10 q10=>?_;conv=>whnf
  refine AStore.aggN rfl rfl rfl (q10) rfl (y.cells) rfl fun h11 t11 q11 a11 e11=>?_;conv=>whnf
  have s11:Sub h' h11:=a11 h' s10 n10
  have K11:=K5.sub s11
  have L11:Low N h h11:=L5.trans s11.low
  have id11:=id5.move fun _ _ _ _ e=>s11 _ _ e
  have q511:=s11 _ _ q5
  have gy:y.Good h11 (N+1,2):=Sl.sub (kok5.es.good y my) s11
  have hyn:=kok5.es.small y my
  clear K5 id5 L5 q5 hbb n10 s10 q10 t11 a11 e11 s11 kok5 ka5
  rw [hdj,List.map_cons] at st
  have hya:y.abs.2.1=y.index:=rfl
  refine AIf.go ?_;conv=>whnf
  refine AIf.go ?_;conv=>whnf
  refine ADrawn.mk (h11) [] (Sub.refl _) (by decide +kernel) ?_;conv=>whnf
  refine ALoad.one rfl q11 rfl ?_;conv=>whnf
  refine ACalls.mono (commit_i id11) ?_;rintro _ _ ⟨rfl,rfl⟩;conv=>whnf
  refine ⟨Sub.refl _,?_⟩;conv=>whnf
  by_cases c1:c.commit<y.index
  ·refine ACmp.yes (c1) ?_;conv=>whnf
   have FIN:(lookEs c.commit s.abs.entries (true,x.chosen)).2=ch:=by
    rw [st];unfold lookEs;rw [if_pos (by rw [hya];exact c1)]
   have h6:=h11
   have K6:=K11
   have q6:=q511
   have L6:=L11
   have id6:PIdle h11 b (N+2*n.toNat) c:=by
    obtain ⟨b',hb',id'⟩:=K6.cores n n1 n2
    rw [vc,hb] at hb';cases hb';rw [hc];exact id'
   refine AIf.go ?_;conv=>whnf
   refine ADrawn.mk (h11) [19] (Sub.refl _) (by decide +kernel) ?_;conv=>whnf
   refine ALoad.one rfl K6.str rfl ?_
   refine ALoad.one rfl q6 rfl ?_
   refine ALoad.one rfl q6 rfl ?_;conv=>whnf
   refine AArith.ok (by omega) (by omega) (rfl) ?_;conv=>whnf
   refine ACalls.mono (commit_i id6) ?_;rintro _ _ ⟨rfl,rfl⟩;conv=>whnf
   refine ⟨Sub.refl _,?_⟩;conv=>whnf
   refine ACmp.yes (o5) ?_;conv=>whnf
   refine AStore.oneN rfl rfl rfl (K6.str) rfl (netCells {x with leaders:=LL,chosen:=ch} v') rfl fun h7 t7 q7 a7 e7=>?_;conv=>whnf
   have K7:=K6.same t7 q7
   have L7:Low N h h7:=L6.trans fun b t y ht e=>t7 _ _ _ (fun c=>by rw [c] at ht;simp at ht) e
   have id7:PIdle h7 b (N+2*n.toNat) c:=id6.move fun _ t _ ht e=>t7 _ _ _ (fun c=>by rw [c] at ht;simp only at ht;omega) e
   refine AIf.go ?_;conv=>whnf
   refine ADrawn.mkO (h7) [7] [0,1,2,4,5,3,6,7] (Sub.refl _) (by decide +kernel) ?_;conv=>whnf
   refine ACalls.mono (commit_i id7) ?_;rintro _ _ ⟨rfl,rfl⟩;conv=>whnf
   refine ⟨Sub.refl _,?_⟩;conv=>whnf
   refine AIdxA.nat (n:=6) (z:=1) (j:=m) (by omega) (by omega) rfl rfl ?_;conv=>whnf
   refine AStore.oneN rfl rfl rfl K7.str (by have:=hcm ch;exact Nat.ble_eq_true_of_le (List.getElem?_eq_some_iff.1 this).1) (netCells {x with leaders:=LL,chosen:=ch,commits:=x.commits.set n c.commit} v') (by rw [show 0+54+m*1=54+n.toNat by omega];exact cm_set {x with leaders:=LL,chosen:=ch} v' n1 n5 _) fun h8 t8 q8 a8 e8=>?_;conv=>whnf
   have K8:NetX h8 N p {x with leaders:=LL,chosen:=ch,commits:=x.commits.set n c.commit} v':=K7.move' (fun b t y _ n e=>t8 _ _ _ n e) q8 rfl rfl rfl rfl rfl rfl rfl
   have L8:Low N h h8:=L7.trans fun b t y ht e=>t8 _ _ _ (fun c=>by rw [c] at ht;simp at ht) e
   have id8:PIdle h8 b (N+2*n.toNat) c:=id7.move fun _ t _ ht e=>t8 _ _ _ (fun c=>by rw [c] at ht;simp only at ht;omega) e
   have htm:(netCells {x with leaders:=LL,chosen:=ch,commits:=x.commits.set n c.commit} v')[0+60+m*1]? = some (I (x.terms.get n)):=by
    rw [show 0+60+m*1=60+n.toNat by omega];exact tm_cell _ v' n1 n5
   refine ADrawn.mkO (h8) [7] [0,1,2,4,5,3,6,7] (Sub.refl _) (by decide +kernel) ?_;conv=>whnf
   refine ACalls.mono (term_i id8) ?_;rintro _ _ ⟨rfl,rfl⟩;conv=>whnf
   refine ⟨Sub.refl _,?_⟩;conv=>whnf
   refine AIdxA.nat (n:=6) (z:=1) (j:=m) (by omega) (by omega) rfl rfl ?_;conv=>whnf
   refine AStore.oneN rfl rfl rfl K8.str (by exact Nat.ble_eq_true_of_le (List.getElem?_eq_some_iff.1 htm).1) (netCells {x with leaders:=LL,chosen:=ch,commits:=x.commits.set n c.commit,terms:=x.terms.set n c.term} v') (by rw [show 0+60+m*1=60+n.toNat by omega];exact tm_set {x with leaders:=LL,chosen:=ch,commits:=x.commits.set n c.commit} v' n1 n5 _) fun h9 t9 q9 a9 e9=>?_;conv=>whnf
   have K9:NetX h9 N p {x with leaders:=LL,chosen:=ch,commits:=x.commits.set n c.commit,terms:=x.terms.set n c.term} v':=K8.move' (fun b t y _ n e=>t9 _ _ _ n e) q9 rfl rfl rfl rfl rfl rfl rfl
   refine ⟨rfl,⟨v',?_⟩,L8.trans fun b t y ht e=>t9 _ _ _ (fun c=>by rw [c] at ht;simp at ht) e⟩
   rw [FIN]
   exact K9
  refine ACmp.no (c1) ?_;conv=>whnf
  have o4':=o4
  rw [st] at o4'
  obtain ⟨ag,st'⟩:=lookEs_head o4' (by rw [hya];exact c1)
  rw [hya] at ag st'
  rw [show ch=v'.ch.map (fun z=>(z.1,z.2.abs)) from K11.choA.symm,alook_map] at ag
  refine AIf.go ?_;conv=>whnf
  refine ADrawn.mk (h11) [] (Sub.refl _) (by decide +kernel) ?_;conv=>whnf
  refine ALoad.one rfl K11.str rfl ?_
  refine ALoad.one rfl q11 rfl ?_;conv=>whnf
  cases ho:alook y.index v'.ch with
  | none =>
   refine ALookup.miss K11.cho rfl rfl rfl rfl (kvG_miss (f:=fun e:EH => .agg e.cells.toArray) K11.choE ho) ?_
   conv=>whnf
   refine AAlloc.mkN (0,1) ([I 0,I 0,I 0, .slice none 0 0]) rfl fun b10 h12 n12 s12 q12=>?_;conv=>whnf
   refine ⟨s12,?_⟩;conv=>whnf
   refine AStore.aggN rfl rfl rfl (q12) rfl ([I 0,I 0,I 0, .slice none 0 0]) rfl fun h13 t13 q13' a13 e13=>?_;conv=>whnf
   have s13:Sub h11 h13:=a13 h11 s12 n12
   refine ⟨s13,?_⟩;conv=>whnf
   have K13:=K11.sub s13
   refine AIf.go ?_;conv=>whnf
   refine ALoad.one rfl K13.str rfl ?_;conv=>whnf
   refine AStore.oneN rfl rfl rfl (K13.str) rfl (netCells {x with leaders:=LL,chosen:=ch} v') rfl fun h14 t14 q14 a14 e14=>?_;conv=>whnf
   have K14:=K13.same t14 q14
   have L14:Low N h h14:=(L11.trans s13.low).trans fun b t y ht e=>t14 _ _ _ (fun c=>by rw [c] at ht;simp at ht) e
   have q514:=t14.get t01 (s13 _ _ q511)
   have q914:=t14.get t01 (s13 _ _ q11)
   have gy14:y.Good h14 (N+1,2):=Sl.keepT (Sl.sub gy s13) t14 (by simp)
   have EE:=kvG_new (f:=fun e:EH => .agg e.cells.toArray) (x:=y) (clock:=v'.k2) K14.choE ho
   refine ADrawn.mk (h14) [7] (Sub.refl _) (by decide +kernel) ?_;conv=>whnf
   refine ALoad.one rfl K14.str rfl ?_
   refine ALoad.one rfl q914 rfl ?_
   refine ALoad.agg rfl q914 rfl rfl ?_;conv=>whnf
   refine AMapUpd.miss K14.cho rfl rfl rfl (kvG_miss (f:=fun e:EH => .agg e.cells.toArray) K14.choE ho) fun mm=>?_;conv=>whnf
   have KK:=K14.choSet (KeepT.set K14.cho.at_) (l':=aset y.index y.abs ch) mm EE ((aset_map EH.abs y.index y v'.ch).trans (congrArg (aset y.index y.abs) K14.choA)) (fun z hz=>(aset_mem hz).elim (fun e=>by rw [e];exact gy14) (K14.choG z))
   refine AArith.ok (by omega) (by omega) ((by omega:(j:Int)+1=((j+1:Nat):Int))) ?_;conv=>whnf
   refine ⟨⟨_,j+1,aset y.index y.abs ch,_,updL_self ⟨rfl,rfl,rfl,rfl,rfl,trivial⟩,by omega,L14.trans fun b t y ht e=>KeepT.set K14.cho.at_ _ _ _ (fun c=>by rw [c] at ht;simp at ht) e,KeepT.set K14.cho.at_ _ _ _ (fun c=>by have:=congrArg Prod.fst c;simp only at this;omega) q514,KK,vc,vk,by rw [st,st']⟩,?_⟩
   show s.e.n-(j+1)<s.e.n-j
   omega
  | some old =>
   rw [ho] at ag
   have ag':old.abs=y.abs:=of_decide_eq_true ag
   obtain ⟨i,e1,g1,g2,g3,g4⟩:=kvG_hit (f:=fun e:EH => .agg e.cells.toArray) K11.choE ho
   refine ALookup.hit K11.cho rfl rfl (List.mem_of_getElem? g1) g2 ?_
   rw [g3]
   conv=>whnf
   refine AAlloc.mkN (0,1) ([I 0,I 0,I 0, .slice none 0 0]) rfl fun b10 h12 n12 s12 q12=>?_;conv=>whnf
   refine ⟨s12,?_⟩;conv=>whnf
   refine AStore.aggN rfl rfl rfl (q12) rfl (old.cells) rfl fun h13 t13 q13' a13 e13=>?_;conv=>whnf
   have s13:Sub h11 h13:=a13 h11 s12 n12
   refine ⟨s13,?_⟩;conv=>whnf
   have K13:=K11.sub s13
   refine AIf.go ?_;conv=>whnf
   refine ALoad.one rfl K13.str rfl ?_
   refine ALoad.agg rfl q13' rfl rfl ?_
   refine ALoad.agg rfl (s13 _ _ q11) rfl rfl ?_;conv=>whnf
   have hon:old.n≤4611686018427387904:=by
    have h1:old.data.length=old.n:=by have:=(K11.choG _ (alook_mem ho)).len;simpa [bytesV] using this
    have h2:y.data.length=y.n:=by have:=gy.len;simpa [bytesV] using this
    have h3:old.data=y.data:=congrArg (·.2.2.2) ag'
    rw [h3] at h1;omega
   refine ACalls.mono (like_any (K13.choG _ (alook_mem ho)) (Sl.sub gy s13) hon) ?_;rintro _ _ ⟨rfl,rfl⟩;conv=>whnf
   rw [decide_eq_true ag']
   conv=>whnf
   refine AStore.oneN rfl rfl rfl (K13.str) rfl (netCells {x with leaders:=LL,chosen:=ch} v') rfl fun h14 t14 q14 a14 e14=>?_;conv=>whnf
   have K14:=K13.same t14 q14
   have L14:Low N h h14:=(L11.trans s13.low).trans fun b t y ht e=>t14 _ _ _ (fun c=>by rw [c] at ht;simp at ht) e
   have q514:=t14.get t01 (s13 _ _ q511)
   have q914:=t14.get t01 (s13 _ _ q11)
   have gy14:y.Good h14 (N+1,2):=Sl.keepT (Sl.sub gy s13) t14 (by simp)
   have EE:=g4 y
   refine ADrawn.mk (h14) [7] (Sub.refl _) (by decide +kernel) ?_;conv=>whnf
   refine ALoad.one rfl K14.str rfl ?_
   refine ALoad.one rfl q914 rfl ?_
   refine ALoad.agg rfl q914 rfl rfl ?_;conv=>whnf
   refine AMapUpd.hit K14.cho rfl rfl g1 g2 fun mm=>?_;conv=>whnf
   have KK:=K14.choSet (KeepT.set K14.cho.at_) (l':=aset y.index y.abs ch) mm EE ((aset_map EH.abs y.index y v'.ch).trans (congrArg (aset y.index y.abs) K14.choA)) (fun z hz=>(aset_mem hz).elim (fun e=>by rw [e];exact gy14) (K14.choG z))
   refine AArith.ok (by omega) (by omega) ((by omega:(j:Int)+1=((j+1:Nat):Int))) ?_;conv=>whnf
   refine ⟨⟨_,j+1,aset y.index y.abs ch,_,updL_self ⟨rfl,rfl,rfl,rfl,rfl,trivial⟩,by omega,L14.trans fun b t y ht e=>KeepT.set K14.cho.at_ _ _ _ (fun c=>by rw [c] at ht;simp at ht) e,KeepT.set K14.cho.at_ _ _ _ (fun c=>by have:=congrArg Prod.fst c;simp only at this;omega) q514,KK,vc,vk,by rw [st,st']⟩,?_⟩
   show s.e.n-(j+1)<s.e.n-j
   omega
 ·refine ACmp.no (by omega) ?_;conv=>whnf
  have FIN:(lookEs c.commit s.abs.entries (true,x.chosen)).2=ch:=by
   rw [st,List.drop_of_length_le (by omega)];rfl
  have K6:=K5
  have q6:=q5
  have L6:=L5
  have id6:PIdle h' b (N+2*n.toNat) c:=by
   obtain ⟨b',hb',id'⟩:=K6.cores n n1 n2
   rw [vc,hb] at hb';cases hb';rw [hc];exact id'
  refine AIf.go ?_;conv=>whnf
  refine ADrawn.mk (h') [19] (Sub.refl _) (by decide +kernel) ?_;conv=>whnf
  refine ALoad.one rfl K6.str rfl ?_
  refine ALoad.one rfl q6 rfl ?_
  refine ALoad.one rfl q6 rfl ?_;conv=>whnf
  refine AArith.ok (by omega) (by omega) (rfl) ?_;conv=>whnf
  refine ACalls.mono (commit_i id6) ?_;rintro _ _ ⟨rfl,rfl⟩;conv=>whnf
  refine ⟨Sub.refl _,?_⟩;conv=>whnf
  refine ACmp.yes (o5) ?_;conv=>whnf
  refine AStore.oneN rfl rfl rfl (K6.str) rfl (netCells {x with leaders:=LL,chosen:=ch} v') rfl fun h7 t7 q7 a7 e7=>?_;conv=>whnf
  have K7:=K6.same t7 q7
  have L7:Low N h h7:=L6.trans fun b t y ht e=>t7 _ _ _ (fun c=>by rw [c] at ht;simp at ht) e
  have id7:PIdle h7 b (N+2*n.toNat) c:=id6.move fun _ t _ ht e=>t7 _ _ _ (fun c=>by rw [c] at ht;simp only at ht;omega) e
  refine AIf.go ?_;conv=>whnf
  refine ADrawn.mkO (h7) [7] [0,1,2,4,5,3,6,7] (Sub.refl _) (by decide +kernel) ?_;conv=>whnf
  refine ACalls.mono (commit_i id7) ?_;rintro _ _ ⟨rfl,rfl⟩;conv=>whnf
  refine ⟨Sub.refl _,?_⟩;conv=>whnf
  refine AIdxA.nat (n:=6) (z:=1) (j:=m) (by omega) (by omega) rfl rfl ?_;conv=>whnf
  refine AStore.oneN rfl rfl rfl K7.str (by have:=hcm ch;exact Nat.ble_eq_true_of_le (List.getElem?_eq_some_iff.1 this).1) (netCells {x with leaders:=LL,chosen:=ch,commits:=x.commits.set n c.commit} v') (by rw [show 0+54+m*1=54+n.toNat by omega];exact cm_set {x with leaders:=LL,chosen:=ch} v' n1 n5 _) fun h8 t8 q8 a8 e8=>?_;conv=>whnf
  have K8:NetX h8 N p {x with leaders:=LL,chosen:=ch,commits:=x.commits.set n c.commit} v':=K7.move' (fun b t y _ n e=>t8 _ _ _ n e) q8 rfl rfl rfl rfl rfl rfl rfl
  have L8:Low N h h8:=L7.trans fun b t y ht e=>t8 _ _ _ (fun c=>by rw [c] at ht;simp at ht) e
  have id8:PIdle h8 b (N+2*n.toNat) c:=id7.move fun _ t _ ht e=>t8 _ _ _ (fun c=>by rw [c] at ht;simp only at ht;omega) e
  have htm:(netCells {x with leaders:=LL,chosen:=ch,commits:=x.commits.set n c.commit} v')[0+60+m*1]? = some (I (x.terms.get n)):=by
   rw [show 0+60+m*1=60+n.toNat by omega];exact tm_cell _ v' n1 n5
  refine ADrawn.mkO (h8) [7] [0,1,2,4,5,3,6,7] (Sub.refl _) (by decide +kernel) ?_;conv=>whnf
  refine ACalls.mono (term_i id8) ?_;rintro _ _ ⟨rfl,rfl⟩;conv=>whnf
  refine ⟨Sub.refl _,?_⟩;conv=>whnf
  refine AIdxA.nat (n:=6) (z:=1) (j:=m) (by omega) (by omega) rfl rfl ?_;conv=>whnf
  refine AStore.oneN rfl rfl rfl K8.str (by exact Nat.ble_eq_true_of_le (List.getElem?_eq_some_iff.1 htm).1) (netCells {x with leaders:=LL,chosen:=ch,commits:=x.commits.set n c.commit,terms:=x.terms.set n c.term} v') (by rw [show 0+60+m*1=60+n.toNat by omega];exact tm_set {x with leaders:=LL,chosen:=ch,commits:=x.commits.set n c.commit} v' n1 n5 _) fun h9 t9 q9 a9 e9=>?_;conv=>whnf
  have K9:NetX h9 N p {x with leaders:=LL,chosen:=ch,commits:=x.commits.set n c.commit,terms:=x.terms.set n c.term} v':=K8.move' (fun b t y _ n e=>t9 _ _ _ n e) q9 rfl rfl rfl rfl rfl rfl rfl
  refine ⟨rfl,⟨v',?_⟩,L8.trans fun b t y ht e=>t9 _ _ _ (fun c=>by rw [c] at ht;simp at ht) e⟩
  rw [FIN]
  exact K9
end
section
variable {h h':Heap} {N p:Nat} {x:NetM} {v:NX}
def NetM.kept1 (x:NetM) (n:Int) (o:OutM):NetM :=
  let y:={x with kept:=x.kept.set n (keptM (x.kept.get n) o)}
  if x.mails.length+o.posts.length<400 then {y with mails:=x.mails++o.posts} else y
structure KeepOk (x:NetM) (n:Int) (o:OutM):Prop where
  ko:keptOk (x.kept.get n) o=true
  fine:x.fine=true
  look:LookOk (x.kept1 n o) n
  s0:0≤(x.kept.get n).snap.index
  s1:(x.kept.get n).snap.index≤1000000000
  len:(x.kept.get n).entries.length≤1000000000
  i1:o.snap.index≤1000000000
  elen:o.entries.length≤1000000000
  plen:o.posts.length≤1000000
theorem keep_eq {n:Int} {o:OutM} (k:KeepOk x n o):x.keep n o=(x.kept1 n o).look n:=by
 unfold NetM.keep NetM.kept1
 simp only []
 rw [k.ko,k.fine,Bool.and_self]
theorem NetX.keSet (k:NetX h N p x v) {n:Int} (n1:1≤n) (n5:n≤5) {s:SH} {t1:Tag} (ht:N+12≤t1.1) (ok:s.Ok h' t1 (N+1,2) (N+1,6)) (kt:KeepT (N,0) h h') (hs:h' p=some (row (N,0) (netCells x {v with ke:=v.ke.set n s}) 41)) :
  NetX h' N p {x with kept:=x.kept.set n s.abs} {v with ke:=v.ke.set n s}:=by
 have mv:∀ b (t:Tag) y,t≠(N,0)→h b=some (t,y)→h' b=some (t,y):=fun b t y n e=>kt _ _ _ n e
 refine ⟨k.n0,hs,k.sz3,k.sz5,fun m m1 m2=>?_,k.none,fun m m1 m2=>?_,k.ml.move fun _ _ e=>mv _ _ _ (by simp) e,k.pa,fun y hy=>?_,k.mb,k.led.move fun _ e=>mv _ _ _ (by simp) e,k.ledE,k.cho.move fun _ e=>mv _ _ _ (by simp) e,k.choE,k.choA,fun y hy=>Sl.move (k.choG y hy) fun _ _ e=>mv _ _ _ (by simp) e⟩
 ·obtain ⟨b,hb,id⟩:=k.cores m m1 m2
  exact ⟨b,hb,id.move fun _ t _ ht e=>mv _ _ _ (fun c=>by rw [c] at ht;simp only at ht;omega) e⟩
 ·show ((v.ke.set n s).get m).abs=(x.kept.set n s.abs).get m∧∃ t1:Tag,N+12≤t1.1∧((v.ke.set n s).get m).Ok h' t1 (N+1,2) (N+1,6)
  rw [Fv.get_set _ _ _ _ m1 m2,Fv.get_set _ _ _ _ m1 m2]
  by_cases z:m=n
  ·rw [if_pos z,if_pos z];exact ⟨rfl,t1,ht,ok⟩
  ·rw [if_neg z,if_neg z]
   obtain ⟨q1,t1,q2,q3⟩:=k.kept m m1 m2
   exact ⟨q1,t1,q2,q3.move fun _ t _ ht e=>mv _ _ _ (by rcases ht with rfl | rfl | rfl <;> (intro c;have:=congrArg Prod.fst c;have:=congrArg Prod.snd c;simp only at *;omega)) e⟩
 ·obtain ⟨r,hr⟩:=k.ps y hy
  exact ⟨r,hr.move fun _ t _ ht e=>mv _ _ _ (by rcases ht with rfl | rfl | rfl <;> simp) e⟩
theorem NetX.mlSet (k:NetX h N p x v) {s:SlV} {ps:List PH} {l:List PostM} (kt:∀ b (t:Tag) y,t≠(N,0)→t≠(N,3)→h b=some (t,y)→h' b=some (t,y)) (hs:h' p=some (row (N,0) (netCells x {v with ml:=s}) 41))
  (ow:Own h' (N,3) 49 s.a s.n s.c 14 (ps.map PH.cells).flatten) (pa:ps.map PH.abs=l) (pk:∀ y∈ps,∃ r,y.Ok h (N+1,r) (N+1,5) (N+1,6)) (hl:l.length≤400) :
  NetX h' N p {x with mails:=l} {v with ml:=s,ps:=ps}:=by
 refine ⟨k.n0,hs,k.sz3,k.sz5,fun m m1 m2=>?_,k.none,fun m m1 m2=>?_,ow,pa,fun y hy=>?_,hl,k.led.move fun _ e=>kt _ _ _ (by simp) (by simp) e,k.ledE,k.cho.move fun _ e=>kt _ _ _ (by simp) (by simp) e,k.choE,k.choA,fun y hy=>Sl.move (k.choG y hy) fun _ _ e=>kt _ _ _ (by simp) (by simp) e⟩
 ·obtain ⟨b,hb,id⟩:=k.cores m m1 m2
  exact ⟨b,hb,id.move fun _ t _ ht e=>kt _ _ _ (fun c=>by rw [c] at ht;simp only at ht;omega) (fun c=>by rw [c] at ht;simp only at ht;omega) e⟩
 ·obtain ⟨q1,t1,q2,q3⟩:=k.kept m m1 m2
  exact ⟨q1,t1,q2,q3.move fun _ t _ ht e=>kt _ _ _ (by rcases ht with rfl | rfl | rfl <;> (intro c;have:=congrArg Prod.fst c;have:=congrArg Prod.snd c;simp only at *;omega)) (by rcases ht with rfl | rfl | rfl <;> (intro c;have:=congrArg Prod.fst c;have:=congrArg Prod.snd c;simp only at *;omega)) e⟩
 ·obtain ⟨r,hr⟩:=pk y hy
  exact ⟨r,hr.move fun _ t _ ht e=>kt _ _ _ (by rcases ht with rfl | rfl | rfl <;> simp) (by rcases ht with rfl | rfl | rfl <;> simp) e⟩
theorem OutOk.local {o:OutM} {y:OX} {M:Nat} (k:OutOk h M o y) (hM:M≠0) (kt:KeepT (0,1) h h'):OutOk h' M o y:=k.move fun b t z ht e=>kt _ _ _ (fun c=>by rw [c] at ht;exact hM ht.symm) e
theorem Made.ok {y:PH} {M r:Nat} (m:y.Made h M r):y.Ok h (M,r) (M,5) (M,6) :=
 ⟨⟨m.es.sl,fun e he=>Own.sl (m.ed e he),fun e he=>by have:=m.sm e he;omega⟩,m.sd.sl⟩
set_option maxHeartbeats 8000000 in
theorem keep_any (k:NetX h N p x v) {n:Int} (n1:1≤n) (n2:n≤x.size) {o:OutM} {ox:OX} (out:OutOk h (N+1) o ox) (ok:KeepOk x n o) :
  ACalls PR 59 #[Ptr p,I n, .agg (outCells o ox).toArray] h (fun r h'=>r = .tuple #[]∧(∃ v',NetX h' N p (x.keep n o) v')∧Low N h h'):=by
 rw [keep_eq ok]
 refine ACalls.owner ⟨_,Tryz.func59,rfl,rfl⟩ fun o0 ho0 bnd=>?_
 have hN:=k.n0
 have hs5:=k.sz5
 have n5:n≤5:=by omega
 obtain ⟨m,hm⟩:∃ m:Nat,n=m:=⟨n.toNat,by omega⟩
 obtain ⟨ka,t1,kt1,kok⟩:=k.kept n n1 n5
 obtain ⟨s,hs⟩:∃ s,s=v.ke.get n:=⟨_,rfl⟩
 rw [← hs] at ka kok
 have o1:=ok.ko;have o3:=ok.s0;have o4:=ok.s1;have o5:=ok.len;have o6:=ok.i1;have o7:=ok.elen;have o8:=ok.plen
 have olk:=ok.look
 have e0:x.kept1 n o=(let y:={x with kept:=x.kept.set n (keptM s.abs o)};if x.mails.length+o.posts.length<400 then {y with mails:=x.mails++o.posts} else y):=by rw [ka];rfl
 rw [e0] at olk ⊢
 clear e0
 obtain ⟨KM,hKM⟩:∃ KM,KM=keptM s.abs o:=⟨_,rfl⟩
 rw [← hKM] at olk ⊢
 simp only [] at olk ⊢
 rw [← ka] at o1 o3 o4 o5
 have hsl:s.es.length=s.e.n:=kok.es.len
 have hlen:s.abs.entries.length=s.e.n:=by show (s.es.map EH.abs).length=_;rw [List.length_map,hsl]
 have hse:s.abs.entries=s.es.map EH.abs:=rfl
 have hsi:s.abs.snap.index=s.si:=rfl
 rw [hsi] at o3 o4
 rw [hlen] at o5
 have t01:((0,1):Tag)≠(N,0):=fun c=>by have:=congrArg Prod.fst c;simp only at this;omega
 obtain ⟨tg,htg⟩:∃ tg:Tag,tg=(o0+N+12,4):=⟨_,rfl⟩
 have htg0:((0,1):Tag)≠tg:=fun c=>by rw [htg] at c;have:=congrArg Prod.fst c;simp only at this;omega
 have hon:ox.es.length=ox.oe.n:=by have:=out.oe.sl.len;rw [encs_length] at this;omega
 have hoe:ox.oe.n≤1000000000:=by rw [← hon];have:=congrArg List.length out.ea;rw [List.length_map] at this;omega
 have hpn:ox.ps.length=ox.op.n:=by have:=out.op.sl.len;rw [flat_len (ph_len ox.ps)] at this;simp at this;omega
 have hpo:ox.ps.length=o.posts.length:=by have:=congrArg List.length out.pa;rw [List.length_map] at this;omega
 have hmn:v.ps.length=v.ml.n:=by have:=k.ml.sl.len;rw [flat_len (ph_len v.ps)] at this;simp at this;omega
 have hmo:v.ps.length=x.mails.length:=by have:=congrArg List.length k.pa;rw [List.length_map] at this;omega
 have hmb:=k.mb
 have kc:((netCells x v).drop (0+8+m*7)).take 7=s.cells:=by
  rw [show 0+8+m*7=8+n.toNat*7 by omega,kept_cells x v n1 n5,hs]
 refine acalls_ofj mix Tryz.func59 rfl rfl Tryz.ntmps59 Tryz.results59 rfl ?_;conv=>whnf
 refine ABox.mkN (0,1) (outCells o ox) rfl fun b5 h1 n1' s1 q1=>?_;conv=>whnf
 have k1:=k.sub s1
 refine AIdxA.nat (n:=6) (z:=7) (j:=m) (by omega) (by omega) rfl rfl ?_;conv=>whnf
 refine ALoad.agg rfl k1.str kc rfl ?_;conv=>whnf
 refine AAlloc.mkN (0,1) ([I 0,I 0,I 0,I 0,I 0, .slice none 0 0, .slice none 0 0]) rfl fun b6 h2 n2' s2 q2=>?_;conv=>whnf
 refine AStore.aggN rfl rfl rfl (q2) rfl (s.cells) rfl fun h3 t3 q3 a3 e3=>?_;conv=>whnf
 have b56:b5≠b6:=fun c=>by rw [c] at q1;rw [q1] at n2';cases n2'
 have q53:=e3 _ _ b56 (s2 _ _ q1)
 have n6h:h b6=none:=by
  cases e:h b6 with
  | none=>rfl
  | some y=>rw [s1 _ _ e] at n2';cases n2'
 have s3:Sub h h3:=a3 h (s1.trans s2) n6h
 have Q63:=q3
 clear q1 q2 t3 a3 e3 k1 s1 s2 n2' q3
 obtain ⟨S1,hS1⟩:∃ S1:SH,S1={s with term:=o.term,vote:=o.vote}:=⟨_,rfl⟩
 have hfirst:(if o.hard=true then ({s.abs with term:=o.term,vote:=o.vote}:SavedM) else s.abs)=S1.abs∧(o.hard=false→S1=s):=by
  unfold keptOk at o1
  simp only [] at o1
  have hf:(decide ((if o.hard=true then ({s.abs with term:=o.term,vote:=o.vote}:SavedM) else s.abs).term=o.term)&&decide ((if o.hard=true then ({s.abs with term:=o.term,vote:=o.vote}:SavedM) else s.abs).vote=o.vote))=true:=by
   split at o1
   ·simp only [Bool.and_eq_true] at o1 ⊢;exact o1.1.1
   ·exact o1
  cases hh:o.hard with
  | true=>rw [hS1];exact ⟨rfl,fun c=>by cases c⟩
  | false =>
   rw [hh] at hf
   simp only [Bool.false_eq_true,if_false,Bool.and_eq_true,decide_eq_true_eq] at hf
   obtain ⟨f1,f2⟩:=hf
   have f1':s.term=o.term:=f1
   have f2':s.vote=o.vote:=f2
   have:S1=s:=by rw [hS1,← f1',← f2']
   rw [this]
   exact ⟨rfl,fun _=>rfl⟩
 obtain ⟨hA,hB⟩:=hfirst
 have hcut:∀ S:SavedM,S=(if 0<o.snap.index then snappedM S1.abs o.snap else S1.abs)→0<o.cut→S.snap.index<o.cut∧o.cut≤S.snap.index+S.entries.length:=by
  rintro S rfl hc
  unfold keptOk at o1
  simp only [] at o1
  rw [hA,if_pos hc] at o1
  simp only [Bool.and_eq_true,decide_eq_true_eq] at o1
  exact ⟨o1.1.2,o1.2⟩
 have hKM2:KM=(let s2:=if 0<o.snap.index then snappedM S1.abs o.snap else S1.abs
   let s3:=if 0<o.cut then {s2 with entries:=s2.entries.take (o.cut-s2.snap.index-1).toNat} else s2
   ({s3 with entries:=s3.entries++o.entries}:SavedM)):=by
  rw [hKM];unfold keptM;simp only [];rw [hA]
 have SOK1:∀ {H:Heap},Sub h H→S1.Ok H t1 (N+1,2) (N+1,6):=fun sb=>by
  rw [hS1];exact ⟨⟨kok.es.sl.sub sb,fun e he=>Sl.sub (kok.es.good e he) sb,kok.es.small⟩,kok.sd.sub sb⟩
 have hS1l:S1.e.n≤1000000000:=by rw [hS1];exact o5
 have hS1i:0≤S1.si∧S1.si≤1000000000:=by rw [hS1];exact ⟨o3,o4⟩
 clear hKM hA o1
 simp only [] at hKM2
 refine AIf.cut (fun e h'=>∃ e0:Env,e=updL 132 e0 [(0,Ptr p),(1,I n),(5,Ptr b5),(6,Ptr b6)]∧h' b5=some (row (0,1) (outCells o ox) 65)∧h' b6=some (row (0,1) S1.cells 34)∧Sub h h') ?_ ?_
 ·conv=>whnf
  rcases Bool.eq_false_or_eq_true o.hard with hh | hh
  ·refine ALoad.one (v := .bool true) rfl q53 (by show some (Value.bool o.hard)=_;rw [hh]) ?_;conv=>whnf
   refine ALoad.one rfl q53 rfl ?_;conv=>whnf
   refine AStore.oneN rfl rfl rfl (Q63) rfl (({s with term:=o.term}:SH).cells) rfl fun h4 t4 q4 a4 e4=>?_;conv=>whnf
   have q54:=e4 _ _ b56 q53
   refine ALoad.one rfl q54 rfl ?_;conv=>whnf
   refine AStore.oneN rfl rfl rfl (q4) rfl (({s with term:=o.term,vote:=o.vote}:SH).cells) rfl fun h5 t5 q5 a5 e5=>?_;conv=>whnf
   have q55:=e5 _ _ b56 q54
   have s5:Sub h h5:=a5 h (a4 h s3 n6h) n6h
   rw [← hS1] at q5
   clear t4 q4 a4 e4 t5 a5 e5 q54
   exact ⟨_,updL_self ⟨rfl,rfl,rfl,rfl,trivial⟩,q55,q5,s5⟩
  ·refine ALoad.one (v := .bool false) rfl q53 (by show some (Value.bool o.hard)=_;rw [hh]) ?_;conv=>whnf
   have q5:=Q63
   rw [← hB hh] at q5
   exact ⟨_,updL_self ⟨rfl,rfl,rfl,rfl,trivial⟩,q53,q5,s3⟩
 rintro e hA ⟨e0,rfl,A5,A6,ASUB⟩
 conv=>whnf
 refine AIf.go ?_;conv=>whnf
 refine ALoad.one rfl (k.sub ASUB).str rfl ?_
 refine ALoad.one rfl A6 rfl ?_
 refine ALoad.one rfl A5 rfl ?_;conv=>whnf
 refine ACmp.yes (by rw [hS1]) ?_;conv=>whnf
 refine ALoad.one rfl A6 rfl ?_
 refine ALoad.one rfl A5 rfl ?_;conv=>whnf
 refine ACmp.yes (by rw [hS1]) ?_;conv=>whnf
 refine AStore.oneN rfl rfl rfl ((k.sub ASUB).str) rfl (netCells x v) rfl fun h15 t15 q15 a15 e15=>?_;conv=>whnf
 have s15:Sub h h15:=fun b y e=>by
  by_cases z:b=p
  ·subst z;rw [k.str] at e;cases e;exact q15
  ·exact e15 _ _ z (ASUB _ _ e)
 have w5:=t15.get t01 A5
 have w6:=t15.get t01 A6
 clear t15 q15 a15 e15
 refine AIf.cut (fun e h'=>∃ (e0:Env) (S2:SH) (TS:Tag),e=updL 132 e0 [(0,Ptr p),(1,I n),(5,Ptr b5),(6,Ptr b6)]∧h' b5=some (row (0,1) (outCells o ox) 65)∧h' b6=some (row (0,1) S2.cells 34)∧Sub h h'∧S2.Ok h' TS (N+1,2) (N+1,6)∧N+12≤TS.1∧S2.abs=(if 0<o.snap.index then snappedM S1.abs o.snap else S1.abs)∧S2.e.n≤1000000000∧0≤S2.si∧S2.si≤1000000000) ?_ ?_
 ·conv=>whnf
  refine ALoad.one rfl w5 rfl ?_;conv=>whnf
  by_cases c4:0<o.snap.index
  ·refine ACmp.yes (c4) ?_;conv=>whnf
   refine ALoad.agg rfl w6 rfl rfl ?_
   refine ALoad.agg rfl w5 rfl rfl ?_;conv=>whnf
   refine ACalls.mono (snapped_any (N+12) (SOK1 s15) hS1l o.snap.index o.snap.term o.snap.crew ox.od) ?_
   rintro _ h16 ⟨e16,t16,rfl,ht16,ow16,s16⟩
   conv=>whnf
   have w5':=s16 _ _ w5
   refine AStore.aggN rfl rfl rfl ((s16 _ _ w6)) rfl ([I S1.term,I S1.vote,I o.snap.index,I o.snap.term,I o.snap.crew, .slice ox.od.a ox.od.n ox.od.c, .slice e16.a e16.n e16.c]) rfl fun h17 t17 q17 a17 e17=>?_;conv=>whnf
   have s17:Sub h h17:=a17 h (s15.trans s16) n6h
   have w57:=e17 _ _ b56 w5'
   obtain ⟨S4,hS4⟩:∃ S4:SH,S4={S1 with si:=o.snap.index,st:=o.snap.term,sc:=o.snap.crew,d:=ox.od,data:=o.snap.data,e:=e16,es:=afterH o.snap.index o.snap.term S1.es}:=⟨_,rfl⟩
   have w67:h17 b6=some (row (0,1) S4.cells 34):=by rw [hS4];exact q17
   have t160:(0,1)≠t16:=fun c=>by rw [← c] at ht16;simp only at ht16;omega
   have ro4:S4.Ok h17 t16 (N+1,2) (N+1,6):=by
    rw [hS4]
    exact ⟨⟨(ow16.keepT t17 (Ne.symm t160)).sl,fun e he=>(SOK1 s17).es.good e (afterH_mem he),fun e he=>(SOK1 s17).es.small e (afterH_mem he)⟩,out.od.sl.sub s17⟩
   have eq4:S4.abs=snappedM S1.abs o.snap:=by
    rw [hS4]
    show (⟨S1.term,S1.vote,⟨o.snap.index,o.snap.term,o.snap.crew,o.snap.data⟩,(afterH o.snap.index o.snap.term S1.es).map EH.abs⟩:SavedM)=_
    rw [afterH_abs];rfl
   have hS4l:S4.e.n≤1000000000:=by
    have h1:=ro4.es.len
    have h2:S4.es.length≤S1.es.length:=by rw [hS4];exact afterH_len _ _ _
    have h3:=(SOK1 s17).es.len
    omega
   have hS4i:0≤S4.si∧S4.si≤1000000000:=by rw [hS4];exact ⟨by show 0≤o.snap.index;omega,o6⟩
   have htS:N+12≤t16.1:=ht16
   exact ⟨_,S4,t16,updL_self ⟨rfl,rfl,rfl,rfl,trivial⟩,w57,w67,s17,ro4,htS,by rw [if_pos c4];exact eq4,hS4l,hS4i.1,hS4i.2⟩
  ·refine ACmp.no (c4) ?_;conv=>whnf
   have ro1:=SOK1 s15
   have eq1:S1.abs=S1.abs:=rfl
   exact ⟨_,S1,t1,updL_self ⟨rfl,rfl,rfl,rfl,trivial⟩,w5,w6,s15,ro1,kt1,by rw [if_neg c4],hS1l,hS1i.1,hS1i.2⟩
 rintro e RH ⟨e1,S2,TS,rfl,R5,R6,RSUB,RO,htS,EQ2,HS2,hsi1,hsi2⟩
 conv=>whnf
 refine AIf.cut (fun e h'=>∃ (e0:Env) (S:SH) (TS:Tag),e=updL 132 e0 [(0,Ptr p),(1,I n),(5,Ptr b5),(6,Ptr b6)]∧h' b5=some (row (0,1) (outCells o ox) 65)∧h' b6=some (row (0,1) S.cells 34)∧Sub h h'∧S.Ok h' TS (N+1,2) (N+1,6)∧KM={S.abs with entries:=S.abs.entries++o.entries}∧S.e.n≤1000000000) ?_ ?_
 ·conv=>whnf
  refine ALoad.one rfl R5 rfl ?_;conv=>whnf
  by_cases c5:0<o.cut
  ·refine ACmp.yes (c5) ?_;conv=>whnf
   refine AIf.go ?_;conv=>whnf
   obtain ⟨f1,f2⟩:=hcut S2.abs EQ2 c5
   have f1':S2.si<o.cut:=f1
   have f2':o.cut≤S2.si+S2.e.n:=by
    have:S2.abs.entries.length=S2.e.n:=by show (S2.es.map EH.abs).length=_;rw [List.length_map];exact RO.es.len
    rw [this] at f2;exact f2
   rw [← EQ2,if_pos c5] at hKM2
   refine ALoad.one rfl (k.sub RSUB).str rfl ?_
   refine ALoad.one rfl R5 rfl ?_
   refine ALoad.one rfl R6 rfl ?_;conv=>whnf
   refine ACmp.yes (f1') ?_;conv=>whnf
   refine ALoad.one rfl R5 rfl ?_
   refine ALoad.one rfl R6 rfl ?_
   refine ALoad.one rfl R6 rfl ?_;conv=>whnf
   refine AArith.ok (by omega) (by omega) (rfl) ?_;conv=>whnf
   refine ACmp.yes (f2') ?_;conv=>whnf
   refine AStore.oneN rfl rfl rfl ((k.sub RSUB).str) rfl (netCells x v) rfl fun h20 t20 q20 a20 e20=>?_;conv=>whnf
   have s20:Sub h h20:=fun b y e=>by
    by_cases z:b=p
    ·subst z;rw [k.str] at e;cases e;exact q20
    ·exact e20 _ _ z (RSUB _ _ e)
   have r5:=t20.get t01 R5
   have r6:=t20.get t01 R6
   have ro:=RO.move (h':=h20) fun b t y ht e=>t20 _ _ _ (by rcases ht with rfl | rfl | rfl <;> (intro c;have:=congrArg Prod.fst c;have:=congrArg Prod.snd c;simp only at *;omega)) e
   obtain ⟨kk,hkk⟩:∃ kk:Nat,kk=(o.cut-S2.si-1).toNat:=⟨_,rfl⟩
   refine ALoad.one rfl r6 rfl ?_
   refine ALoad.one rfl r5 rfl ?_
   refine ALoad.one rfl r6 rfl ?_;conv=>whnf
   refine AArith.ok (by omega) (by omega) (rfl) ?_;conv=>whnf
   refine AArith.ok (by omega) (by omega) (rfl) ?_;conv=>whnf
   refine ALoad.one rfl r6 rfl ?_;conv=>whnf
   refine AInt.as (show _=o.cut-S2.si-1 from if_neg (by omega)) ?_;conv=>whnf
   refine AInt.as (show _=o.cut-S2.si-1 from if_neg (by omega)) ?_;conv=>whnf
   refine ASlc.upto (z:=4) (m:=kk) (by omega) (by have:=ro.es.sl.le;omega) rfl rfl ?_;conv=>whnf
   refine AStore.oneN rfl rfl rfl (r6) rfl (({S2 with e:=⟨S2.e.a,kk,S2.e.c⟩}:SH).cells) rfl fun h21 t21 q21 a21 e21=>?_;conv=>whnf
   have s21:Sub h h21:=a21 h s20 n6h
   have r51:=e21 _ _ b56 r5
   have ro1:({S2 with e:=⟨S2.e.a,kk,S2.e.c⟩,es:=S2.es.take kk}:SH).Ok h21 TS (N+1,2) (N+1,6):=by
    have:=ro.move (h':=h21) fun b t y ht e=>t21 _ _ _ (by rcases ht with rfl | rfl | rfl <;> (intro c;have:=congrArg Prod.fst c;have:=congrArg Prod.snd c;simp only at *;omega)) e
    have hkS:kk≤S2.e.n:=by omega
    exact ⟨Ents.upto (k:=kk) this.es hkS,this.sd⟩
   obtain ⟨S3,hS3⟩:∃ S3:SH,S3={S2 with e:=⟨S2.e.a,kk,S2.e.c⟩,es:=S2.es.take kk}:=⟨_,rfl⟩
   have q21':h21 b6=some (row (0,1) S3.cells 34):=by rw [hS3];exact q21
   rw [← hS3] at ro1
   have eq3:KM={S3.abs with entries:=S3.abs.entries++o.entries}:=by
    rw [hKM2,hS3]
    show (⟨S2.term,S2.vote,⟨S2.si,S2.st,S2.sc,S2.data⟩,(S2.es.map EH.abs).take (o.cut-S2.si-1).toNat++o.entries⟩:SavedM)=⟨S2.term,S2.vote,⟨S2.si,S2.st,S2.sc,S2.data⟩,(S2.es.take kk).map EH.abs++o.entries⟩
    rw [List.map_take,hkk]
   have hSn:S3.e.n≤1000000000:=by rw [hS3];show kk≤_;omega
   exact ⟨_,S3,TS,updL_self ⟨rfl,rfl,rfl,rfl,trivial⟩,r51,q21',s21,ro1,eq3,hSn⟩
  ·refine ACmp.no (c5) ?_;conv=>whnf
   rw [← EQ2,if_neg c5] at hKM2
   exact ⟨_,S2,TS,updL_self ⟨rfl,rfl,rfl,rfl,trivial⟩,R5,R6,RSUB,RO,hKM2,HS2⟩
 rintro e HH ⟨e2,S,TS',rfl,Q5,Q6,SUB,SOK,EQ,hSn⟩
 conv=>whnf
 refine AIf.go ?_;conv=>whnf
 have hSl:S.es.length=S.e.n:=SOK.es.len
 refine ADrawn.mkO (two HH b5 b6) [7] [0,1,3,4,2,5,6,7] (two_sub _ _ _) (by decide +kernel) ?_;conv=>whnf
 refine ALoad.one rfl ((two_r _ _ _).trans Q6) rfl ?_
 refine ALoad.one rfl ((two_l _ _ _).trans Q5) rfl ?_;conv=>whnf
 refine AAppend.own (t:=tg) (E:=59) (z:=4) (by_:=48) (zero:=[I 0,I 0,I 0, .slice none 0 0]) (cs:=[]) rfl ⟨_,rfl⟩ rfl rfl rfl rfl (by omega) (.inl ⟨rfl,rfl,rfl⟩) SOK.es.sl (encs_all1 _) (by omega) (by omega) fun a7 c7 h7 ow7 t7 s7=>?_
 conv=>whnf
 have s7:=s7 rfl
 refine ⟨(two_sub _ _ _).trans s7,?_⟩;conv=>whnf
 refine AAppend.own (t:=tg) (E:=59) (z:=4) (by_:=48) (zero:=[I 0,I 0,I 0, .slice none 0 0]) (tx:=(N+1,1)) rfl ⟨_,rfl⟩ rfl rfl rfl rfl (by omega) ow7 ((out.oe.sl.sub SUB).sub s7) (encs_all1 _) (by omega) (by omega) fun a8 c8 h8 ow8 t8 _=>?_
 conv=>whnf
 have s8:Sub h h8:=fun b y e=>t8 _ y.1 _ (fun c=>by have:=bnd b y.1 y.2 e;rw [c,htg] at this;simp only at this;omega) (s7 _ _ (SUB _ _ e))
 have q58:=t8.get htg0 (s7 _ _ Q5)
 have q68:=t8.get htg0 (s7 _ _ Q6)
 have d8:∀ r:Nat,∀ b y,HH b=some ((N+1,r),y)→h8 b=some ((N+1,r),y):=fun r b y e=>t8.get (fun c=>by rw [htg] at c;have:=congrArg Prod.fst c;simp only at this;omega) (s7 _ _ e)
 refine ⟨two_get (fun y hy=>?_) (fun y hy=>?_),?_⟩
 ·rw [Q5] at hy;cases hy;exact q58
 ·rw [Q6] at hy;cases hy;exact q68
 conv=>whnf
 rw [List.nil_append,← encs_append] at ow8
 refine AStore.oneN rfl rfl rfl (q68) rfl (({S with e:=⟨a8,0+S.e.n+ox.oe.n,c8⟩,es:=S.es++ox.es}:SH).cells) rfl fun h9 t9 q9 a9 e9=>?_;conv=>whnf
 obtain ⟨S9,hS9⟩:∃ S9:SH,S9={S with e:=⟨a8,0+S.e.n+ox.oe.n,c8⟩,es:=S.es++ox.es}:=⟨_,rfl⟩
 have s9:Sub h h9:=a9 h s8 n6h
 have k9:NetX h9 N p x v:=k.sub s9
 have o9:OutOk h9 (N+1) o ox:=out.move fun _ _ _ _ e=>s9 _ _ e
 have q59:=e9 _ _ b56 q58
 have ok9:S9.Ok h9 tg (N+1,2) (N+1,6):=by
  rw [hS9]
  refine ⟨⟨(ow8.keepT t9 (Ne.symm htg0)).sl,fun e he=>?_,fun e he=>?_⟩,(Sl.move SOK.sd fun _ _ e=>d8 _ _ _ e).keepT t9 (by simp)⟩
  ·rcases List.mem_append.1 he with he | he
   ·exact Sl.keepT (Sl.move (SOK.es.good e he) fun _ _ e=>d8 _ _ _ e) t9 (by simp)
   ·exact Own.sl (o9.ed e he)
  ·rcases List.mem_append.1 he with he | he
   ·exact SOK.es.small e he
   ·have:=out.es e he;omega
 have hab:S9.abs=KM:=by
  rw [hS9,EQ]
  show (⟨S.term,S.vote,⟨S.si,S.st,S.sc,S.data⟩,(S.es++ox.es).map EH.abs⟩:SavedM)=_
  rw [List.map_append,out.ea];rfl
 rw [← hS9] at q9
 clear a9 e9 d8 s8 q58 q68 t9 ow8 t8 ow7 t7 s7
 refine AIf.go ?_;conv=>whnf
 refine ADrawn.mk (h9) [6] (Sub.refl _) (by decide +kernel) ?_;conv=>whnf
 refine ALoad.agg rfl q9 rfl rfl ?_;conv=>whnf
 refine AIdxA.nat (n:=6) (z:=7) (j:=m) (by omega) (by omega) rfl rfl ?_;conv=>whnf
 have ksz:(netCells x v).length=67:=rfl
 refine AStore.aggN (vs:=S9.cells) rfl rfl rfl k9.str (Nat.ble_eq_true_of_le (by rw [ksz];show 0+8+m*7+7≤67;omega)) (netCells x {v with ke:=v.ke.set n S9}) (by rw [show 0+8+m*7=8+n.toNat*7 by omega];exact kept_set x v n1 n5 S9) fun h10 t10 q10 a10 e10=>?_;conv=>whnf
 have k10:=k9.keSet n1 n5 (by rw [htg];show N+12≤o0+N+12;omega) (ok9.move fun b t y ht e=>t10 _ _ _ (by rcases ht with rfl | rfl | rfl <;> (intro c;have:=congrArg Prod.fst c;have:=congrArg Prod.snd c;rw [htg] at *;simp only at *;omega)) e) t10 q10
 rw [hab] at k10
 have q510:=t10.get t01 q59
 have o10:OutOk h10 (N+1) o ox:=o9.move fun b t y ht e=>t10 _ _ _ (fun c=>by rw [c] at ht;simp only at ht;omega) e
 have L10:Low N h h10:=s9.low.trans fun b t y ht e=>t10 _ _ _ (fun c=>by rw [c] at ht;simp at ht) e
 clear q9 q59 t10 q10 a10 e10 k9 o9 ok9 s9
 obtain ⟨v10,hv10⟩:∃ v10,v10={v with ke:=v.ke.set n S9}:=⟨_,rfl⟩
 rw [← hv10] at k10
 have hml:v10.ml.n=v.ml.n:=by rw [hv10]
 refine AIf.go ?_;conv=>whnf
 refine AIf.go ?_;conv=>whnf
 refine ADrawn.mk (h10) [] (Sub.refl _) (by decide +kernel) ?_;conv=>whnf
 refine ALoad.one rfl k10.str rfl ?_
 refine ALoad.one rfl q510 rfl ?_;conv=>whnf
 refine AArith.ok (by omega) (by omega) (rfl) ?_;conv=>whnf
 by_cases c9:x.mails.length+o.posts.length<400
 ·rw [if_pos c9] at olk ⊢
  refine ACmp.yes ((by omega)) ?_;conv=>whnf
  refine ADrawn.mk (two h10 p b5) [10] (two_sub _ _ _) (by decide +kernel) ?_;conv=>whnf
  refine ALoad.one rfl ((two_l _ _ _).trans k10.str) rfl ?_
  refine ALoad.one rfl ((two_r _ _ _).trans q510) rfl ?_;conv=>whnf
  refine AAppend.own (t:=(N,3)) (E:=49) (z:=14) (by_:=144) (zero:=post0z) (tx:=(N+1,3)) rfl ⟨_,rfl⟩ rfl rfl rfl rfl (by omega) k10.ml o10.op.sl (ph_one _) (by omega) (by omega) fun a11 c11 h11 ow11 t11 _=>?_
  conv=>whnf
  have p11:=t11.get (u:=(N,0)) (by simp) k10.str
  have b11:=t11.get (u:=(0,1)) (fun c=>by have:=congrArg Prod.snd c;simp at this) q510
  refine ⟨two_get (fun y hy=>?_) (fun y hy=>?_),?_⟩
  ·rw [k10.str] at hy;cases hy;exact p11
  ·rw [q510] at hy;cases hy;exact b11
  conv=>whnf
  refine AStore.oneN rfl rfl rfl (p11) rfl (netCells {x with kept:=x.kept.set n KM} {v10 with ml:=⟨a11,v10.ml.n+ox.op.n,c11⟩}) rfl fun h12 t12 q12 a12 e12=>?_;conv=>whnf
  have k12:=k10.mlSet (h':=h12) (s:=⟨a11,v10.ml.n+ox.op.n,c11⟩) (ps:=v10.ps++ox.ps) (l:=x.mails++o.posts) (fun b t y n0 n3 e=>t12 _ _ _ n0 (t11 _ _ _ n3 e)) q12 (by rw [List.map_append,List.flatten_append];exact ow11.keepT t12 (by simp)) (by rw [List.map_append,out.pa];exact congrArg (· ++ o.posts) k10.pa)
   (fun y hy=>by
    rcases List.mem_append.1 hy with hy | hy
    ·exact k10.ps y hy
    ·obtain ⟨i,hi⟩:=List.getElem?_of_mem hy
     exact ⟨_,Made.ok (o10.ps i y hi)⟩) (by rw [List.length_append];omega)
  have L12:Low N h h12:=L10.trans fun b t y ht e=>t12 _ _ _ (fun c=>by rw [c] at ht;simp at ht) (t11 _ _ _ (fun c=>by rw [c] at ht;simp at ht) e)
  refine ACalls.mono (look_any k12 n1 n2 olk) ?_
  rintro _ h13 ⟨rfl,k13,L13⟩
  conv=>whnf
  exact ⟨rfl,k13,L12.trans L13⟩
 ·rw [if_neg c9] at olk ⊢
  refine ACmp.no ((by omega)) ?_;conv=>whnf
  refine ACalls.mono (look_any k10 n1 n2 olk) ?_
  rintro _ h13 ⟨rfl,k13,L13⟩
  conv=>whnf
  exact ⟨rfl,k13,L10.trans L13⟩
end
section
def CoreM.pn (c:CoreM):Nat:=c.out.posts.length
theorem say_pn (c:CoreM) (n:Int) (p:PostM):(c.say n p).pn=c.pn+1:=by
 show (c.out.posts++[_]).length=_
 rw [List.length_append];rfl
theorem send_pn (c:CoreM) (n:Int):(c.send n).pn=c.pn+1:=by
 unfold CoreM.send;split <;> exact say_pn _ _ _
theorem sends_pn:∀ (l:List Int) (c:CoreM),(l.foldl CoreM.send c).pn=c.pn+l.length
 | [],c=>rfl
 | m::l,c=>by rw [List.foldl_cons,sends_pn l,send_pn,List.length_cons];omega
theorem says_pn (p:PostM):∀ (l:List Int) (c:CoreM),(l.foldl (fun x m=>x.say m p) c).pn=c.pn+l.length
 | [],c=>rfl
 | m::l,c=>by rw [List.foldl_cons,says_pn p l,say_pn,List.length_cons];omega
theorem ls_five:((List.range 32).all fun k=>decide ((ls k).length≤5))=true:=by decide +kernel
theorem ls_le (c:Int):(ls (m5 c)).length≤5:=of_decide_eq_true (List.all_eq_true.1 ls_five _ (List.mem_range.2 (m5_lt c)))
theorem others_le (c:CoreM):c.others.length≤5:=Nat.le_trans (List.length_filter_le _ _) (ls_le _)
theorem sendAll_pn (c:CoreM):c.sendAll.pn≤c.pn+5:=by
 unfold CoreM.sendAll;rw [sends_pn];have:=others_le c;omega
theorem rank_pn (c:CoreM):c.rank.pn=c.pn:=by
 have er:c.rank=(let d:={c with mtch:=c.mtch.set c.self c.log.last.1};let r:=rankOf d.crewNow.1 d.mtch;if r≤d.commit∨d.has r d.term=false then d else if hasB d.crewNow.1 d.self=false∧d.crewNow.2≤r then ({d with commit:=r}:CoreM).follow else {d with commit:=r}):=rfl
 rw [er]
 simp only []
 split
 ·rfl
 ·split <;> rfl
theorem put_pn (c:CoreM) (k:Int) (d:List Int):(c.put k d).pn=c.pn:=by
 unfold CoreM.put;simp only [];split <;> rfl
theorem lead_pn (c:CoreM):c.lead.pn≤c.pn+5:=by
 rw [CoreM.lead_eq,rank_pn]
 have:=sendAll_pn (c.office.put 0 [])
 rw [put_pn] at this
 exact this
theorem stand_pn (c:CoreM):c.stand.pn≤c.pn+10:=by
 rw [CoreM.stand_is]
 split
 ·omega
 ·have e:(c.stoodM.others.foldl (fun x m=>x.say m {post0 with kind:=1,index:=c.log.last.1,logTerm:=c.log.last.2}) c.stoodM).pn≤c.pn+5:=by
   rw [says_pn]
   have:=others_le c.stoodM
   have h:c.stoodM.pn=c.pn:=rfl
   omega
  split
  ·have:=lead_pn (c.stoodM.others.foldl (fun x m=>x.say m {post0 with kind:=1,index:=c.log.last.1,logTerm:=c.log.last.2}) c.stoodM)
   omega
  ·omega
theorem tick_pn (c:CoreM) (d:Int):(c.tick d).pn≤c.pn+10:=by
 unfold CoreM.tick
 split
 ·split
  ·have:=sendAll_pn {c with beat:=2}
   have h:({c with beat:=2}:CoreM).pn=c.pn:=rfl
   omega
  ·show c.pn≤_;omega
 ·simp only []
  split
  ·refine Nat.le_trans (stand_pn _) ?_;show c.pn+10≤c.pn+10;omega
  ·show c.pn≤_;omega
theorem confirm_pn (c:CoreM):c.confirm.pn=c.pn:=by unfold CoreM.confirm;split <;> rfl
theorem appendRest_pn (c:CoreM) (l:List Abs):(c.appendRest l).pn=c.pn:=by
 unfold CoreM.appendRest
 split
 ·rfl
 ·simp only [];split <;> rfl
theorem append_pn (c:CoreM) (p:PostM):(c.append p).pn≤c.pn+1:=by
 rw [CoreM.append_eq]
 split
 ·unfold CoreM.appendNo;rw [say_pn];omega
 ·unfold CoreM.appendOk;simp only [];rw [say_pn]
  have:=appendRest_pn c (aList c p)
  show (c.appendRest (aList c p)).pn+1≤_
  omega
theorem install_pn (c:CoreM) (p:PostM):(c.install p).pn≤c.pn+1:=by
 unfold CoreM.install
 simp only []
 rw [say_pn]
 split
 ·show c.pn+1≤_;omega
 ·omega
theorem told_pn (c:CoreM) (p:PostM):(c.told p).pn≤c.pn+1:=by
 unfold CoreM.told
 rw [confirm_pn]
 simp only []
 split
 ·split
  ·rw [send_pn,rank_pn];show c.pn+1≤_;omega
  ·rw [rank_pn];show c.pn≤_;omega
 ·rw [send_pn];show c.pn+1≤_;omega
theorem take1_pn (c:CoreM) (p:PostM) (d:Int):(c.take1 p d).pn≤c.pn+10:=by
 unfold CoreM.take1
 split
 ·rw [CoreM.asked_eq,say_pn];split
  ·show c.pn+1≤_;omega
  ·omega
 ·split
  ·unfold CoreM.voted
   split
   ·omega
   ·simp only [];split
    ·refine Nat.le_trans (lead_pn _) ?_;show c.pn+5≤_;omega
    ·show c.pn≤_;omega
  ·split
   ·split
    ·omega
    ·simp only [];split
     ·refine Nat.le_trans (install_pn _ _) ?_;show c.pn+1≤_;omega
     ·refine Nat.le_trans (append_pn _ _) ?_;show c.pn+1≤_;omega
   ·split
    ·have:=told_pn c p;omega
    ·omega
theorem take_pn (c:CoreM) (p:PostM) (d:Int):(c.take p d).pn≤c.pn+10:=by
 unfold CoreM.take
 split
 ·omega
 ·split
  ·unfold CoreM.refuse;split
   ·rw [say_pn];omega
   ·split
    ·rw [say_pn];omega
    ·omega
  ·split
   ·exact take1_pn (c.learn p.term) p d
   ·exact take1_pn c p d
theorem anews_pn (index:Int) (P:Int→Bool):∀ (l:List Int) (c:CoreM),(l.foldl (fun x m=>if P m=true then x else x.anew index m) c).pn=c.pn
 | [],c=>rfl
 | m::l,c=>by rw [List.foldl_cons,anews_pn index P l];split <;> rfl
theorem propose_pn (c:CoreM) (k:Int) (d:List Int):(c.propose k d).pn≤c.pn+5:=by
 rw [CoreM.propose_is,rank_pn]
 have h:=sendAll_pn ((ls (m5 (c.put k d).crewNow.1)).foldl (fun x m=>if hasB c.crewNow.1 m=true then x else x.anew (c.log.last.1+1) m) (c.put k d))
 rw [anews_pn,put_pn] at h
 exact h
theorem read_pn (c:CoreM):c.read.pn≤c.pn+5:=by
 unfold CoreM.read
 rw [confirm_pn]
 exact sendAll_pn {c with round:=c.round+1,reads:=c.reads++[c.round+1]}
variable {g:Gh} {n:Int} {x:NetM}
theorem Idl.cok (w:Wld g) {s:SavedM} {c:CoreM} {A:List Abs} (k:Idl g n s c A):COk c:=by
 have sv:=k.srv
 have h3:=w.sz3;have h5:=w.sz5;have l3:=w.l3
 have n1:=sv.n1;have n2:=sv.n2
 have tl:=w.l1 n n1 n2
 have al:=sv.al
 have htm:=sv.tm
 have hlen:=sv.rep.len
 have hlo:=sv.rep.lo
 have hle:=sv.rep.le
 have hesA:∀ (j:Nat) (e:Abs),c.log.es[j]? = some e→A[c.log.bi.toNat+j]? = some e:=fun j e h=>by rw [sv.rep.es,List.getElem?_drop] at h;exact h
 have hmem:∀ e∈c.log.es,e∈A:=fun e he=>by
  obtain ⟨j,hj⟩:=List.getElem?_of_mem he
  exact List.mem_of_getElem? (hesA j e hj)
 have cr:0≤c.snap.crew∧c.snap.crew≤255:=by
  by_cases z:0<c.log.bi
  ·rw [(sv.s1 z).2]
   have:=conf_range (A.take c.log.bi.toNat) g.size 14 (fun e he=>sv.eok e (List.mem_of_mem_take he)) (by omega)
   omega
  ·rw [sv.s0 (by omega)];exact ⟨Int.le_refl _,by decide⟩
 have hc0:=sv.c0;have hc1:=sv.c1
 have five:∀ m:Int,1≤m→m≤5→five0.get m=0:=fun m h1 h2=>by
  have:m=1∨m=2∨m=3∨m=4∨m=5:=by omega
  rcases this with rfl | rfl | rfl | rfl | rfl <;> rfl
 refine ⟨⟨⟨fun j e h=>?_,hlo,by omega,fun e he=>(sv.eok e (hmem e he)).len⟩,fun e he _=>(sv.eok e (hmem e he)).by_,by omega,sv.sd⟩,fun m m1 m2=>?_,fun m m1 m2=>?_,by rw [sv.self];exact n1,by rw [sv.self];omega,sv.t0,by omega,k.out,by omega,by have:=sv.rl;omega,sv.q1,sv.q2,sv.v1,sv.v2,sv.w1,sv.w2,sv.b1,sv.b2,sv.r1,by have:=sv.r2;omega,by rw [sv.first];omega,cr,by omega,by omega⟩
 ·rw [sv.rep.ix _ e (hesA j e h)];omega
 ·by_cases z:c.state=2
  ·have:=(sv.lead z).2.2.2 m m1 m2;omega
  ·rw [(sv.idle z).1,five m m1 m2];omega
 ·by_cases z:c.state=2
  ·have h1:=(sv.lead z).2.2.1 m m1 m2
   have h2:=w.acc m c.term
   have h4:=w.l2 c.term
   omega
  ·rw [(sv.idle z).2.1,five m m1 m2];omega
theorem Msg.small {p:PostM} (m:Msg g p) (w:Wld g):(∀ e∈p.entries,∀ z∈e.2.2.2,0≤z∧z<256)∧(0≤p.snap.crew∧p.snap.crew<256)∧p.entries.length≤8:=by
 have none:∀ q:PostM,p=q→q.entries=[]→q.snap=snap0→(∀ e∈p.entries,∀ z∈e.2.2.2,0≤z∧z<256)∧(0≤p.snap.crew∧p.snap.crew<256)∧p.entries.length≤8:=fun q e h1 h2=>by
  rw [e,h1,h2];exact ⟨(fun _ h=>nomatch h),⟨by decide,by decide⟩,by simp⟩
 rcases m.body with b | b | b | b | b | b
 ·exact none _ b.2.1 rfl rfl
 ·exact none _ b.2.1 rfl rfl
 ·obtain ⟨_,e,b1,b2,b3,b4,b5,b6,b7,b8⟩:=b
  refine ⟨fun y hy=>?_,?_,b5⟩
  ·rw [b7] at hy
   exact (w.eok _ y (List.mem_of_mem_drop (List.mem_of_mem_take hy))).by_
  ·rw [e];exact ⟨Int.le_refl 0,(by decide:(0:Int)<256)⟩
 ·exact none _ b.2.1 rfl rfl
 ·obtain ⟨_,e,b1,b2,b3,b4,b5,b6⟩:=b
  refine ⟨fun y hy=>?_,?_,?_⟩
  ·rw [e] at hy;cases hy
  ·rw [b5];exact conf_range _ g.size 14 (fun e he=>w.eok _ e (List.mem_of_mem_take he)) (by omega)
  ·rw [e];simp [post0]
 ·exact none _ b.2.1 rfl rfl
theorem NetI.lookOk (k:NetI g x) (n1:1≤n) (n2:n≤x.size):LookOk x n:=by
 obtain ⟨A,id⟩:=k.srv n n1 n2
 have sv:=id.srv
 have hs5:=k.w.sz5
 have hsz:=k.sz
 have l3:=k.w.l3
 have hke:(x.kept.get n).entries=(x.cores.get n).log.es:=by rw [id.kept];rfl
 have hks:(x.kept.get n).snap.index=(x.cores.get n).log.bi:=by rw [id.kept];exact sv.si
 have hlen:=sv.rep.len
 have hlo:=sv.rep.lo
 have hle:=sv.rep.le
 have al:=sv.al
 have hc1:=sv.c1
 have hlk:=lookEs_ok k.w sv (x.kept.get n).entries x.chosen (fun e he=>by
  rw [hke,sv.rep.es] at he
  obtain ⟨j,hj⟩:=List.getElem?_of_mem he
  rw [List.getElem?_drop] at hj
  exact ⟨_,hj⟩) k.chosen
 exact ⟨fun h2 o ho=>(k.leaders _ _ ho).1.symm.trans (sv.lead h2).1,k.cm n n1 n2,k.tms n n1 n2,hlk.1,by rw [hks,hke];omega,by rw [hks];exact hlo,by rw [hks];omega,by rw [hke];omega,k.fine⟩
theorem NetI.keepOk (k:NetI g x) (n1:1≤n) (n2:n≤x.size) {c:CoreM} {A:List Abs} {g':Gh} (e:Ext n g g') (m:Mid g' n (x.kept.get n) c A) (hc:(x.cores.get n).commit≤c.commit) (hp:c.pn≤1000000) :
  KeepOk {x with cores:=x.cores.set n c.done.1} n c.done.2:=by
 obtain ⟨A0,id0⟩:=k.srv n n1 n2
 have hs5:=k.w.sz5
 have hsz:=k.sz
 obtain ⟨k1,k2,k3⟩:=m.kept
 have ht:(x.cores.get n).term≤c.term:=by rw [id0.srv.tm,m.srv.tm];exact e.tmn
 have hm':∀ p∈x.mails,Msg g' p:=fun p hp=>e.msg k.w (k.mails p hp)
 have base:NetI g' {x with cores:=x.cores.set n c.done.1,kept:=x.kept.set n c.done.1.saved}:=by
  refine ⟨m.w,e.size.trans k.sz,fun j j1 j2=>?_,hm',k.fine,fun t o ho=>?_,fun i y hy=>e.chosenAt (k.chosen i y hy),fun j j1 j2=>?_,fun j j1 j2=>?_,k.draw⟩
  ·have j2':j≤x.size:=j2
   show ∃ A,Idl g' j ((x.kept.set n c.done.1.saved).get j) ((x.cores.set n c.done.1).get j) A
   rw [Fv.get_set _ _ _ _ j1 (by omega),Fv.get_set _ _ _ _ j1 (by omega)]
   split
   ·rename_i z;rw [z];exact ⟨A,k3,rfl,rfl⟩
   ·rename_i z
    obtain ⟨B,idj⟩:=k.srv j j1 j2'
    exact ⟨B,e.idl k.w z idj⟩
  ·obtain ⟨l1,l2⟩:=k.leaders t o ho
   exact ⟨(e.led t (by rw [l1];exact l2)).1.trans l1,l2⟩
  ·have j2':j≤x.size:=j2
   show x.commits.get j≤((x.cores.set n c.done.1).get j).commit
   rw [Fv.get_set _ _ _ _ j1 (by omega)]
   split
   ·rename_i z;rw [z];have:=k.cm n n1 n2;show _≤c.commit;omega
   ·exact k.cm j j1 j2'
  ·have j2':j≤x.size:=j2
   show x.terms.get j≤((x.cores.set n c.done.1).get j).term
   rw [Fv.get_set _ _ _ _ j1 (by omega)]
   split
   ·rename_i z;rw [z];have:=k.tms n n1 n2;show _≤c.term;omega
   ·exact k.tms j j1 j2'
 have sv0:=id0.srv
 have l3:=k.w.l3;have l3':=m.w.l3
 have hlen0:=sv0.rep.len;have hlo0:=sv0.rep.lo;have hle0:=sv0.rep.le;have al0:=sv0.al
 have hlen1:=m.srv.rep.len;have hlo1:=m.srv.rep.lo;have hle1:=m.srv.rep.le;have al1:=m.srv.al
 have hke:(x.kept.get n).entries=(x.cores.get n).log.es:=by rw [id0.kept];rfl
 have hks:(x.kept.get n).snap.index=(x.cores.get n).log.bi:=by rw [id0.kept];exact sv0.si
 have hes:c.out.entries.length≤c.log.es.length:=by
  rcases m.kp.log with ⟨_,_,_,b⟩ | ⟨_,_,_,_,_,b⟩ | ⟨_,_,_,b,_⟩
  ·rw [b,List.length_append];omega
  ·rw [b,List.length_append];omega
  ·rw [b];simp
 have hsi:c.out.snap.index≤1000000000:=by
  rcases m.kp.log with ⟨b,_⟩ | ⟨b,_⟩ | ⟨_,b,_⟩
  ·rw [b];omega
  ·rw [b];omega
  ·rw [b,m.srv.si];omega
 refine ⟨k1,k.fine,?_,by show 0≤(x.kept.get n).snap.index;rw [hks];exact hlo0,by show (x.kept.get n).snap.index≤_;rw [hks];omega,by show (x.kept.get n).entries.length≤_;rw [hke];omega,hsi,by show c.out.entries.length≤_;omega,hp⟩
 unfold NetM.kept1
 simp only []
 rw [k2]
 split
 ·refine NetI.lookOk (g:=g') ⟨base.w,base.sz,base.srv,fun p hp=>?_,k.fine,base.leaders,base.chosen,base.cm,base.tms,base.draw⟩ n1 n2
  rcases List.mem_append.1 hp with hp | hp
  ·exact hm' p hp
  ·exact m.out p hp
 ·exact NetI.lookOk base n1 n2
theorem NetI.keepCall (k:NetI g x) (n1:1≤n) (n2:n≤x.size) {c:CoreM} (hl:g.lim+10≤100000000) (hc:(x.cores.get n).commit≤c.commit) (hp:c.pn≤(x.cores.get n).pn+10)
  (h:∀ A,Mid (g.more 10) n (x.kept.get n) (x.cores.get n) A→(A.length:Int)+1≤(g.more 10).lim→(x.cores.get n).term+1≤(g.more 10).lim→(x.cores.get n).out=out0→(x.cores.get n).round+1≤(g.more 10).lim→((x.cores.get n).reads.length:Int)+1≤(g.more 10).lim →
   ∃ g' A',Ext n (g.more 10) g'∧g'.lim=(g.more 10).lim∧Mid g' n (x.kept.get n) c A'):KeepOk {x with cores:=x.cores.set n c.done.1} n c.done.2:=by
 have k':=k.more (d:=10) (by omega) hl
 obtain ⟨A,id⟩:=k.srv n n1 n2
 obtain ⟨A2,id2⟩:=k'.srv n n1 n2
 have hal:=id2.srv.al
 have h1:=id.srv.al;have h2:=k.w.l1 n n1 (by rw [k.sz];exact n2);have h3:=id.srv.tm;have h4:=id.srv.r2;have h5:=id.srv.rl
 have m0:Mid (g.more 10) n (x.kept.get n) (x.cores.get n) A:=Idl.mid k'.w ⟨id.srv.more (by omega),id.kept,id.out⟩
 obtain ⟨g',A',e,el,m⟩:=h A m0 (by show (A.length:Int)+1≤g.lim+10;omega) (by show (x.cores.get n).term+1≤g.lim+10;omega) id.out (by show (x.cores.get n).round+1≤g.lim+10;omega) (by show ((x.cores.get n).reads.length:Int)+1≤g.lim+10;omega)
 have hp0:(x.cores.get n).pn=0:=by unfold CoreM.pn;rw [id.out];rfl
 exact k'.keepOk n1 n2 e m hc (by omega)
theorem NetI.keepTick (k:NetI g x) (n1:1≤n) (n2:n≤x.size) {d:Int} (hd:0≤d) (hl:g.lim+10≤100000000):KeepOk {x with cores:=x.cores.set n ((x.cores.get n).tick d).done.1} n ((x.cores.get n).tick d).done.2 :=
 k.keepCall n1 n2 hl (tick_commit _ _) (tick_pn _ _) fun A m h1 h2 h3 _ _=>m.tick (by rw [h3];rfl) h1 h2 hd
theorem NetI.keepPropose (k:NetI g x) (n1:1≤n) (n2:n≤x.size) {kind:Int} {data:List Int} (hE:(x.cores.get n).proposeE kind data=0) (hb:∀ z∈data,0≤z∧z<256) (hsz:kind=2→∀ m∈ls (m5 (crewNum (0,0,0,data))),m≤x.size) (hl:g.lim+10≤100000000) :
  KeepOk {x with cores:=x.cores.set n ((x.cores.get n).propose kind data).done.1} n ((x.cores.get n).propose kind data).done.2 :=
 k.keepCall n1 n2 hl (propose_commit _ _ _) (Nat.le_trans (propose_pn _ _ _) (by omega)) fun A m h1 h2 h3 _ _=>m.propose hE hb (fun h j hj=>by show j≤g.size;rw [k.sz];exact hsz h j hj) (by rw [h3];rfl) h1
theorem NetI.keepRead (k:NetI g x) (n1:1≤n) (n2:n≤x.size) (hE:(x.cores.get n).readE=0) (hl:g.lim+10≤100000000):KeepOk {x with cores:=x.cores.set n (x.cores.get n).read.done.1} n (x.cores.get n).read.done.2 :=
 k.keepCall n1 n2 hl (read_commit _) (Nat.le_trans (read_pn _) (by omega)) fun A m h1 h2 h3 h4 h5=>⟨_,A,Ext.refl _ _,rfl,m.read hE h4 h5⟩
theorem NetI.keepTake (k:NetI g x) {p:PostM} (m:Msg g p) {d:Int} (hd:0≤d) (hl:g.lim+10≤100000000) :
  (x.cores.get p.dst).takes p=true∧KeepOk {x with cores:=x.cores.set p.dst ((x.cores.get p.dst).take p d).done.1} p.dst ((x.cores.get p.dst).take p d).done.2:=by
 have hd2:p.dst≤x.size:=by rw [← k.sz];exact m.d2
 obtain ⟨A,id⟩:=k.srv p.dst m.d1 hd2
 refine ⟨m.takes k.w id.srv.self,k.keepCall m.d1 hd2 hl (take_commit _ _ _) (take_pn _ _ _) fun A m' h1 h2 h3 _ _=>?_⟩
 exact m'.take ((ext_more (n:=0) (g:=g) (by omega:(0:Int)≤10)).msg k.w m) rfl hd (by rw [h3];rfl) (by rw [h3];rfl) (by rw [h3];rfl) h1
theorem NetI.cok (k:NetI g x) (n1:1≤n) (n2:n≤x.size):COk (x.cores.get n):=by
 obtain ⟨A,id⟩:=k.srv n n1 n2
 exact id.cok k.w
end
theorem snap_self (s:SnapM):SnapM.same ⟨s.index,s.term,s.crew,s.data⟩ ⟨s.index,s.term,s.crew,s.data⟩=true:=by unfold SnapM.same;simp
theorem OutOk.count {h:Heap} {oo:Nat} {o:OutM} {x:OX} (k:OutOk h oo o x):x.ps.length=x.op.n∧x.op.n=o.posts.length∧x.es.length=x.oe.n∧x.oe.n=o.entries.length∧x.qr.n=o.reads.length∧x.od.n=o.snap.data.length:=by
 have h1:=k.op.sl.len
 rw [flat_len (ph_len x.ps),List.length_map] at h1
 have h2:=congrArg List.length k.pa
 rw [List.length_map] at h2
 have h3:=k.oe.sl.len
 rw [encs_length] at h3
 have h4:=congrArg List.length k.ea
 rw [List.length_map] at h4
 have h5:o.reads.length=x.qr.n:=by have:=k.qr.sl.len;simpa using this
 have h6:o.snap.data.length=x.od.n:=by have:=k.od.sl.len;simpa [bytesV] using this
 omega
theorem OutOk.entries {h:Heap} {oo:Nat} {o:OutM} {x:OX} (k:OutOk h oo o x):Ents h (oo,1) (oo,2) x.oe.a x.oe.n x.oe.c x.es :=
 ⟨k.oe.sl,fun y hy=>(k.ed y hy).sl,fun y hy=>by have:=k.es y hy;omega⟩
theorem OutOk.post {h:Heap} {oo:Nat} {o:OutM} {x:OX} (k:OutOk h oo o x) {j:Nat} (hj:j<o.posts.length):∃ y,x.ps[j]? = some y∧y.Ok h (oo,10+j) (oo,5) (oo,6)∧o.posts[j]? = some y.abs:=by
 have hc:=k.count
 obtain ⟨y,hy⟩:∃ y,x.ps[j]? = some y:=⟨x.ps[j]'(by omega),by simp⟩
 refine ⟨y,hy,Made.ok (k.ps j y hy),?_⟩
 rw [← k.pa,List.getElem?_map,hy];rfl
theorem ph_part {ps:List PH} {j:Nat} {y:PH} (h:ps[j]? = some y):(((ps.map PH.cells).flatten).drop (j*14)).take 14=y.cells:=by
 have e:(ps.map PH.cells)[j]? = some y.cells:=by rw [List.getElem?_map,h];rfl
 exact flat_part (ph_len ps) e
set_option maxHeartbeats 4000000 in
theorem sameOut_any {h:Heap} {o1 o2:Nat} {O:OutM} {x y:OX} (kx:OutOk h o1 O x) (ky:OutOk h o2 O y) (hs:O.snap.data.length≤100000000) (he:O.entries.length≤100000000) (hr:O.reads.length≤100000000) (hpl:O.posts.length≤100000000)
  (hp:∀ q∈O.posts,q.entries.length≤100000000∧q.snap.data.length≤100000000) :
  ACalls PR 45 #[.agg (outCells O x).toArray, .agg (outCells O y).toArray] h (fun v h'=>v = .bool true∧h=h'):=by
 obtain ⟨x1,x2,x3,x4,x5,x6⟩:=kx.count
 obtain ⟨y1,y2,y3,y4,y5,y6⟩:=ky.count
 refine acalls_pure (acalls_of mix Tryz.func45 rfl rfl Tryz.ntmps45 Tryz.results45 rfl ?_);conv=>whnf
 refine ABox.mkN (0,1) (outCells O x) rfl fun b2 h1 n1 s1 k1=>?_;conv=>whnf
 refine ABox.mkN (0,1) (outCells O y) rfl fun b3 h2 n2 s2 k2=>?_;conv=>whnf
 have k12:=s2 _ _ k1
 have s12:=s1.trans s2
 refine ALoad.one rfl k12 rfl ?_
 refine ALoad.one rfl k2 rfl ?_;conv=>whnf
 cases hh:O.hard with
 | true =>
  conv=>whnf
  refine ALoad.one rfl k12 rfl ?_
  refine ALoad.one rfl k2 rfl ?_;conv=>whnf
  refine ACmp.no ((by simp)) ?_;conv=>whnf
  refine ALoad.one rfl k12 rfl ?_
  refine ALoad.one rfl k2 rfl ?_;conv=>whnf
  refine ACmp.no ((by simp)) ?_;conv=>whnf
  refine ALoad.one rfl k12 rfl ?_
  refine ALoad.one rfl k2 rfl ?_;conv=>whnf
  refine ACmp.no ((by simp)) ?_;conv=>whnf
  refine ALoad.one rfl k12 rfl ?_
  refine ALoad.one rfl k2 rfl ?_;conv=>whnf
  refine ACmp.no ((by simp)) ?_;conv=>whnf
  refine ALoad.one rfl k12 rfl ?_
  refine ALoad.one rfl k2 rfl ?_;conv=>whnf
  refine ACalls.mono (EqInts_any h2 (kx.qr.sl.sub s12) (ky.qr.sl.sub s12) (by omega)) ?_
  rw [decide_eq_true (rfl:O.reads=O.reads)]
  rintro _ _ ⟨rfl,rfl⟩
  conv=>whnf
  refine ALoad.one rfl k12 rfl ?_
  refine ALoad.one rfl k2 rfl ?_;conv=>whnf
  refine ACalls.mono (sameEnts_any (kx.entries.sub s12) (ky.entries.sub s12) (by omega)) ?_
  rw [decide_eq_true (kx.ea.trans ky.ea.symm)]
  rintro _ _ ⟨rfl,rfl⟩
  conv=>whnf
  refine ALoad.agg rfl k12 rfl rfl ?_
  refine ALoad.agg rfl k2 rfl rfl ?_;conv=>whnf
  refine ACalls.mono (sameSnap_any (d1:=x.od) (d2:=y.od) (kx.od.sl.sub s12) (ky.od.sl.sub s12) (by omega)) ?_
  rw [snap_self]
  rintro _ _ ⟨rfl,rfl⟩
  conv=>whnf
  refine ALoad.one rfl k12 rfl ?_
  refine ALoad.one rfl k2 rfl ?_;conv=>whnf
  refine ACmp.no ((by omega)) ?_;conv=>whnf
  refine ALoop.mk (fun e h'=>h2=h'∧∃ e0,∃ j:Nat,e=updL 91 e0 [(2,Ptr b2),(3,Ptr b3),(5,I j)]∧j≤x.op.n) (fun e=>x.op.n-natOf (e 5))
   ⟨rfl,_,0,updL_self ⟨rfl,rfl,rfl,trivial⟩,by omega⟩ ?_
  rintro e _ ⟨rfl,e0,j,rfl,hj⟩
  conv=>whnf
  refine ALoad.one rfl k12 rfl ?_;conv=>whnf
  by_cases hjn:j<x.op.n
  ·refine ACmp.yes (by omega) ?_;conv=>whnf
   obtain ⟨p,hp1,hp2,hp3⟩:=kx.post (j:=j) (by omega)
   obtain ⟨q,hq1,hq2,hq3⟩:=ky.post (j:=j) (by omega)
   have hpq:p.abs=q.abs:=by rw [hp3] at hq3;exact Option.some.inj hq3
   obtain ⟨hb1,hb2⟩:=hp p.abs (List.mem_of_getElem? hp3)
   have el:p.es.length=p.e.n:=hp2.es.len
   have dl:p.data.length=p.d.n:=by have:=hp2.sd.len;simpa [bytesV] using this
   have hb1':p.es.length≤100000000:=by have:p.abs.entries.length=p.es.length:=List.length_map _;omega
   have hb2':p.data.length≤100000000:=hb2
   obtain ⟨b,off,l,E,fz,ea,hb,hc⟩:=(kx.op.sl.sub s12).pos (by omega)
   obtain ⟨b',off',l',E',fz',ea',hb',hc'⟩:=(ky.op.sl.sub s12).pos (by omega)
   have g0:(l.drop (off+j*14)).take 14=p.cells:=by rw [part_of_take hc (by omega),ph_part hp1]
   have g0':(l'.drop (off'+j*14)).take 14=q.cells:=by rw [part_of_take hc' (by omega),ph_part hq1]
   refine ADrawn.mk (h2) [] (Sub.refl _) (by decide +kernel) ?_;conv=>whnf
   refine ALoad.one rfl k12 rfl ?_;conv=>whnf
   rw [ea]
   refine AIdx.nat (n:=x.op.n) (z:=14) (j:=j) rfl hjn rfl rfl ?_;conv=>whnf
   refine ALoad.agg rfl hb g0 rfl ?_
   refine ALoad.one rfl k2 rfl ?_;conv=>whnf
   rw [ea']
   refine AIdx.nat (n:=y.op.n) (z:=14) (j:=j) rfl (by omega) rfl rfl ?_;conv=>whnf
   refine ALoad.agg rfl hb' g0' rfl ?_;conv=>whnf
   have po:p.Ok h2 _ _ _:=⟨hp2.es.sub s12,hp2.sd.sub s12⟩
   have qo:q.Ok h2 _ _ _:=⟨hq2.es.sub s12,hq2.sd.sub s12⟩
   refine ACalls.mono (rsame_any po qo (by omega) (by omega)) ?_
   rw [hpq,same_self]
   rintro _ _ ⟨rfl,rfl⟩
   conv=>whnf
   refine ⟨Sub.refl _,?_⟩;conv=>whnf
   refine AArith.ok (by omega) (by omega) ((by omega:(j:Int)+1=((j+1:Nat):Int))) ?_;conv=>whnf
   refine ⟨⟨rfl,_,j+1,updL_self ⟨rfl,rfl,rfl,trivial⟩,by omega⟩,?_⟩
   show x.op.n-(j+1)<x.op.n-j
   omega
  ·refine ACmp.no (by omega) ?_;conv=>whnf
   exact ⟨rfl,s12⟩
 | false =>
  conv=>whnf
  refine ALoad.one rfl k12 rfl ?_
  refine ALoad.one rfl k2 rfl ?_;conv=>whnf
  refine ACmp.no ((by simp)) ?_;conv=>whnf
  refine ALoad.one rfl k12 rfl ?_
  refine ALoad.one rfl k2 rfl ?_;conv=>whnf
  refine ACmp.no ((by simp)) ?_;conv=>whnf
  refine ALoad.one rfl k12 rfl ?_
  refine ALoad.one rfl k2 rfl ?_;conv=>whnf
  refine ACmp.no ((by simp)) ?_;conv=>whnf
  refine ALoad.one rfl k12 rfl ?_
  refine ALoad.one rfl k2 rfl ?_;conv=>whnf
  refine ACmp.no ((by simp)) ?_;conv=>whnf
  refine ALoad.one rfl k12 rfl ?_
  refine ALoad.one rfl k2 rfl ?_;conv=>whnf
  refine ACalls.mono (EqInts_any h2 (kx.qr.sl.sub s12) (ky.qr.sl.sub s12) (by omega)) ?_
  rw [decide_eq_true (rfl:O.reads=O.reads)]
  rintro _ _ ⟨rfl,rfl⟩
  conv=>whnf
  refine ALoad.one rfl k12 rfl ?_
  refine ALoad.one rfl k2 rfl ?_;conv=>whnf
  refine ACalls.mono (sameEnts_any (kx.entries.sub s12) (ky.entries.sub s12) (by omega)) ?_
  rw [decide_eq_true (kx.ea.trans ky.ea.symm)]
  rintro _ _ ⟨rfl,rfl⟩
  conv=>whnf
  refine ALoad.agg rfl k12 rfl rfl ?_
  refine ALoad.agg rfl k2 rfl rfl ?_;conv=>whnf
  refine ACalls.mono (sameSnap_any (d1:=x.od) (d2:=y.od) (kx.od.sl.sub s12) (ky.od.sl.sub s12) (by omega)) ?_
  rw [snap_self]
  rintro _ _ ⟨rfl,rfl⟩
  conv=>whnf
  refine ALoad.one rfl k12 rfl ?_
  refine ALoad.one rfl k2 rfl ?_;conv=>whnf
  refine ACmp.no ((by omega)) ?_;conv=>whnf
  refine ALoop.mk (fun e h'=>h2=h'∧∃ e0,∃ j:Nat,e=updL 91 e0 [(2,Ptr b2),(3,Ptr b3),(5,I j)]∧j≤x.op.n) (fun e=>x.op.n-natOf (e 5))
   ⟨rfl,_,0,updL_self ⟨rfl,rfl,rfl,trivial⟩,by omega⟩ ?_
  rintro e _ ⟨rfl,e0,j,rfl,hj⟩
  conv=>whnf
  refine ALoad.one rfl k12 rfl ?_;conv=>whnf
  by_cases hjn:j<x.op.n
  ·refine ACmp.yes (by omega) ?_;conv=>whnf
   obtain ⟨p,hp1,hp2,hp3⟩:=kx.post (j:=j) (by omega)
   obtain ⟨q,hq1,hq2,hq3⟩:=ky.post (j:=j) (by omega)
   have hpq:p.abs=q.abs:=by rw [hp3] at hq3;exact Option.some.inj hq3
   obtain ⟨hb1,hb2⟩:=hp p.abs (List.mem_of_getElem? hp3)
   have el:p.es.length=p.e.n:=hp2.es.len
   have dl:p.data.length=p.d.n:=by have:=hp2.sd.len;simpa [bytesV] using this
   have hb1':p.es.length≤100000000:=by have:p.abs.entries.length=p.es.length:=List.length_map _;omega
   have hb2':p.data.length≤100000000:=hb2
   obtain ⟨b,off,l,E,fz,ea,hb,hc⟩:=(kx.op.sl.sub s12).pos (by omega)
   obtain ⟨b',off',l',E',fz',ea',hb',hc'⟩:=(ky.op.sl.sub s12).pos (by omega)
   have g0:(l.drop (off+j*14)).take 14=p.cells:=by rw [part_of_take hc (by omega),ph_part hp1]
   have g0':(l'.drop (off'+j*14)).take 14=q.cells:=by rw [part_of_take hc' (by omega),ph_part hq1]
   refine ADrawn.mk (h2) [] (Sub.refl _) (by decide +kernel) ?_;conv=>whnf
   refine ALoad.one rfl k12 rfl ?_;conv=>whnf
   rw [ea]
   refine AIdx.nat (n:=x.op.n) (z:=14) (j:=j) rfl hjn rfl rfl ?_;conv=>whnf
   refine ALoad.agg rfl hb g0 rfl ?_
   refine ALoad.one rfl k2 rfl ?_;conv=>whnf
   rw [ea']
   refine AIdx.nat (n:=y.op.n) (z:=14) (j:=j) rfl (by omega) rfl rfl ?_;conv=>whnf
   refine ALoad.agg rfl hb' g0' rfl ?_;conv=>whnf
   have po:p.Ok h2 _ _ _:=⟨hp2.es.sub s12,hp2.sd.sub s12⟩
   have qo:q.Ok h2 _ _ _:=⟨hq2.es.sub s12,hq2.sd.sub s12⟩
   refine ACalls.mono (rsame_any po qo (by omega) (by omega)) ?_
   rw [hpq,same_self]
   rintro _ _ ⟨rfl,rfl⟩
   conv=>whnf
   refine ⟨Sub.refl _,?_⟩;conv=>whnf
   refine AArith.ok (by omega) (by omega) ((by omega:(j:Int)+1=((j+1:Nat):Int))) ?_;conv=>whnf
   refine ⟨⟨rfl,_,j+1,updL_self ⟨rfl,rfl,rfl,trivial⟩,by omega⟩,?_⟩
   show x.op.n-(j+1)<x.op.n-j
   omega
  ·refine ACmp.no (by omega) ?_;conv=>whnf
   exact ⟨rfl,s12⟩
section
variable {h h':Heap} {N p:Nat} {x:NetM} {v:NX} {n:Int} {g:Gh}
theorem out_yes (k:NetX h N p x v) (n1:1≤n) (n2:n≤x.size) {o:OutM} {ox:OX} (out:OutOk h (N+1) o ox) (ok:KeepOk x n o) :
  ACalls PR 22 #[Ptr p,I n, .agg (outCells o ox).toArray,I 0] h (fun r h'=>r = .tuple #[]∧(∃ v',NetX h' N p (x.keep n o) v')∧Low N h h'):=by
 refine acalls_of mix Tryz.func22 rfl rfl Tryz.ntmps22 Tryz.results22 rfl ?_;conv=>whnf
 refine ABox.mkN (0,1) (outCells o ox) rfl fun b6 h1 n1' s1 k1=>?_;conv=>whnf
 refine ACmp.yes (rfl) ?_;conv=>whnf
 refine ALoad.agg rfl k1 rfl rfl ?_;conv=>whnf
 refine ACalls.mono (keep_any (k.sub s1) n1 n2 (out.move fun _ _ _ _ e=>s1 _ _ e) ok) ?_
 rintro _ h2 ⟨rfl,k2,L2⟩
 conv=>whnf
 exact ⟨rfl,k2,s1.low.trans L2⟩
theorem out_no (h:Heap) (p:Nat) (n:Int) {e:Int} (he:e≠0) :
  ACalls PR 22 #[Ptr p,I n, .agg (outCells out0 ox0).toArray,I e] h (fun r h'=>r = .tuple #[]∧Sub h h'):=by
 refine acalls_of mix Tryz.func22 rfl rfl Tryz.ntmps22 Tryz.results22 rfl ?_;conv=>whnf
 refine ABox.mkN (0,1) (outCells out0 ox0) rfl fun b6 h1 n1' s1 k1=>?_;conv=>whnf
 refine ACmp.no (he) ?_;conv=>whnf
 exact ⟨rfl,s1⟩
theorem NetX.coreNew (k:NetX h N p x v) (n1:1≤n) (n5:n≤5) {b:Nat} {c:CoreM} (mv:∀ b (t:Tag) y,t≠(N,0)→t.1≠N+2*n.toNat→t.1≠N+2*n.toNat+1→h b=some (t,y)→h' b=some (t,y)) (id:PIdle h' b (N+2*n.toNat) c) {v':NX} (hv:v'.cp.get n=some b∧(∀ m,1≤m→m≤5→m≠n→v'.cp.get m=v.cp.get m)∧v'={v with cp:=v'.cp}) (n2:n≤x.size)
  (hs:h' p=some (row (N,0) (netCells x v') 41)):NetX h' N p {x with cores:=x.cores.set n c} v':=by
 obtain ⟨hv1,hv2,hv3⟩:=hv
 have e1:v'.ke=v.ke:=by rw [hv3]
 have e2:v'.ml=v.ml:=by rw [hv3]
 have e3:v'.ps=v.ps:=by rw [hv3]
 have e4:v'.m1=v.m1:=by rw [hv3]
 have e5:v'.e1=v.e1:=by rw [hv3]
 have e6:v'.k1=v.k1:=by rw [hv3]
 have e7:v'.m2=v.m2:=by rw [hv3]
 have e8:v'.e2=v.e2:=by rw [hv3]
 have e9:v'.k2=v.k2:=by rw [hv3]
 have e10:v'.ch=v.ch:=by rw [hv3]
 refine ⟨k.n0,hs,k.sz3,k.sz5,fun m m1 m2=>?_,fun m m1 m2=>?_,fun m m1 m2=>?_,?_,by rw [e3];exact k.pa,fun y hy=>?_,k.mb,?_,by rw [e5];exact k.ledE,?_,by rw [e8,e10];exact k.choE,by rw [e10];exact k.choA,fun y hy=>?_⟩
 ·have hs5:=k.sz5
  have m2':m≤x.size:=m2
  by_cases z:m=n
  ·refine ⟨b,by rw [z];exact hv1,?_⟩
   show PIdle h' b (N+2*m.toNat) ((x.cores.set n c).get m)
   rw [Fv.get_set _ _ _ _ m1 (by omega),if_pos z,z];exact id
  ·obtain ⟨b',hb',id'⟩:=k.cores m m1 m2'
   refine ⟨b',by rw [hv2 m m1 (by omega) z];exact hb',?_⟩
   show PIdle h' b' (N+2*m.toNat) ((x.cores.set n c).get m)
   rw [Fv.get_set _ _ _ _ m1 (by omega),if_neg z]
   exact id'.move fun _ t _ ht e=>mv _ _ _ (fun c=>by rw [c] at ht;simp only at ht;omega) (by omega) (by omega) e
 ·have m1':x.size<m:=m1
  have:=k.sz3
  rw [hv2 m (by omega) m2 (by omega)];exact k.none m m1 m2
 ·rw [e1]
  obtain ⟨q1,t1,q2,q3⟩:=k.kept m m1 m2
  exact ⟨q1,t1,q2,q3.move fun _ t _ ht e=>mv _ _ _ (by rcases ht with rfl | rfl | rfl <;> (intro c;have:=congrArg Prod.fst c;have:=congrArg Prod.snd c;simp only at *;omega)) (by rcases ht with rfl | rfl | rfl <;> first | omega | (show N+1≠_;omega)) (by rcases ht with rfl | rfl | rfl <;> first | omega | (show N+1≠_;omega)) e⟩
 ·rw [e2,e3];exact k.ml.move fun _ _ e=>mv _ _ _ (by simp) (by simp;omega) (by simp;omega) e
 ·rw [e3] at hy
  obtain ⟨r,hr⟩:=k.ps y hy
  exact ⟨r,hr.move fun _ t _ ht e=>mv _ _ _ (by rcases ht with rfl | rfl | rfl <;> simp) (by rcases ht with rfl | rfl | rfl <;> (show N+1≠_;omega)) (by rcases ht with rfl | rfl | rfl <;> (show N+1≠_;omega)) e⟩
 ·rw [e4,e5,e6];exact k.led.move fun _ e=>mv _ _ _ (by simp) (by simp;omega) (by simp;omega) e
 ·rw [e7,e8,e9];exact k.cho.move fun _ e=>mv _ _ _ (by simp) (by simp;omega) (by simp;omega) e
 ·rw [e10] at hy
  exact Sl.move (k.choG y hy) fun _ _ e=>mv _ _ _ (by simp) (by show N+1≠_;omega) (by show N+1≠_;omega) e
theorem NetX.coreSet (k:NetX h N p x v) (n1:1≤n) (n2:n≤x.size) {b:Nat} {c:CoreM} (hb:v.cp.get n=some b) (kk:Keeps [N+2*n.toNat,N+2*n.toNat+1] h h') (id:PIdle h' b (N+2*n.toNat) c):NetX h' N p {x with cores:=x.cores.set n c} v :=
 k.coreNew n1 (by have:=k.sz5;omega) (fun b t y _ a1 a2 e=>kk _ _ _ (by simp [a1,a2]) e) id ⟨hb,fun _ _ _ _=>rfl,rfl⟩ n2 (kk _ _ _ (by simp;omega) k.str)
theorem keeps_low {n:Int} (n1:1≤n) (kk:Keeps [N+2*n.toNat,N+2*n.toNat+1] h h'):Low N h h':=fun b t y ht e=>kk _ _ _ (by simp;omega) e
theorem out_call (k:NetX h N p x v) (n1:1≤n) (n2:n≤x.size) {b:Nat} (hb:v.cp.get n=some b) {c:CoreM} {h1 h2:Heap} {ox:OX} (kk:Keeps [N+2*n.toNat,N+2*n.toNat+1] h h1) (id:PIdle h1 b (N+2*n.toNat) c.done.1) (out:OutOk h1 (N+1) c.done.2 ox)
  (ok:KeepOk {x with cores:=x.cores.set n c.done.1} n c.done.2) (s:Sub h1 h2) :
  ACalls PR 22 #[Ptr p,I n, .agg (outCells c.done.2 ox).toArray,I 0] h2 (fun r h'=>r = .tuple #[]∧(∃ v',NetX h' N p (x.out n c) v')∧Low N h h'):=by
 refine (out_yes ((k.coreSet n1 n2 hb kk id).sub s) n1 n2 (out.move fun _ _ _ _ e=>s _ _ e) ok).mono ?_
 rintro _ h3 ⟨rfl,k3,L3⟩
 exact ⟨rfl,k3,(keeps_low n1 kk).trans (s.low.trans L3)⟩
theorem tmod_emod {a:Int} (h:0≤a):a.tmod 7=a % 7:=Int.tmod_eq_emod_of_nonneg h
set_option maxHeartbeats 2000000 in
theorem again_any (k:NetX h N p x v) (i:NetI g x) (n1:1≤n) (n2:n≤x.size) :
  ACalls PR 47 #[Ptr p,I n] h (fun r h'=>r = .tuple #[]∧(∃ v',NetX h' N p (x.again n) v')∧Low N h h'):=by
 have hN:=k.n0
 have hs5:=k.sz5
 have n5:n≤5:=by omega
 obtain ⟨A,id⟩:=i.srv n n1 n2
 have hd:=i.draw
 obtain ⟨g1,g2,g3,g4⟩:=id.again i.w (draw:=x.draw % 7) (Int.emod_nonneg _ (by omega))
 have ck:=id.cok i.w
 obtain ⟨m,hm⟩:∃ m:Nat,n=m:=⟨n.toNat,by omega⟩
 obtain ⟨ka,t1,kt1,kok⟩:=k.kept n n1 n5
 obtain ⟨s,hs⟩:∃ s,s=v.ke.get n:=⟨_,rfl⟩
 rw [← hs] at ka kok
 have ex:x.again n={x with cores:=x.cores.set n (cnew n 14 s.abs (x.draw % 7)),commits:=x.commits.set n s.si}:=by
  unfold NetM.again
  rw [if_pos (show cnewOk n crew0 (x.kept.get n) (x.draw % 7)=true from g1),← ka];rfl
 rw [ex]
 rw [← ka] at g1 g2 g3 g4
 have hes:s.es.map EH.abs=(x.cores.get n).log.es:=by have:=id.kept;rw [← ka] at this;exact congrArg SavedM.entries this
 have hsc:s.sc=(x.cores.get n).snap.crew:=by have:=id.kept;rw [← ka] at this;exact congrArg (fun y=>y.snap.crew) this
 have hsd:s.data=(x.cores.get n).snap.data:=by have:=id.kept;rw [← ka] at this;exact congrArg (fun y=>y.snap.data) this
 have hln:s.e.n≤1000000000:=by
  have h1:=kok.es.len
  have h2:=congrArg List.length hes
  rw [List.length_map] at h2
  have:=ck.es;omega
 have hdn:s.d.n≤8192:=by
  have h1:=kok.sd.len
  have h2:=ck.lk.snap
  rw [← hsd] at h2
  simp [bytesV] at h1;omega
 have hby:∀ e∈s.es,∀ z∈e.data,0≤z∧z<256:=fun e he=>by
  have:e.abs∈(x.cores.get n).log.es:=by rw [← hes];exact List.mem_map.2 ⟨e,he,rfl⟩
  rw [id.srv.rep.es] at this
  exact (id.srv.eok _ (List.mem_of_mem_drop this)).by_
 have hcr:=ck.sc
 rw [← hsc] at hcr
 have kc:((netCells x v).drop (0+8+m*7)).take 7=s.cells:=by
  rw [show 0+8+m*7=8+n.toNat*7 by omega,kept_cells x v n1 n5,hs]
 refine acalls_of mix Tryz.func47 rfl rfl Tryz.ntmps47 Tryz.results47 rfl ?_;conv=>whnf
 refine ADrawn.mk (h) [16] (Sub.refl _) (by decide +kernel) ?_;conv=>whnf
 refine ALoad.one rfl k.str rfl ?_;conv=>whnf
 refine AIdxA.nat (n:=6) (z:=7) (j:=m) (by omega) (by omega) rfl rfl ?_;conv=>whnf
 refine ALoad.agg rfl k.str kc rfl ?_
 refine ALoad.one rfl k.str rfl ?_;conv=>whnf
 refine ⟨by omega,?_⟩
 refine AInt.as (tmod_emod hd) ?_;conv=>whnf
 refine ACalls.mono (New_any' (N+2*n.toNat) (by omega) n 14 (x.draw % 7) kok (by omega) (by show N+1≠_;omega) (by show N+1≠_;omega) hby (by omega) (by omega) (by omega) (by omega) (by omega) (by omega)) ?_
 rintro _ h1 (⟨c1,_⟩ | ⟨_,b',rfl,id1,kk1⟩)
 ·rw [g1] at c1;cases c1
 conv=>whnf
 have p1:=kk1.get (by simp;omega) k.str
 refine ALoad.one rfl p1 rfl ?_;conv=>whnf
 refine ACmp.yes (rfl) ?_;conv=>whnf
 refine AStore.oneN rfl rfl rfl (p1) rfl (netCells x v) rfl fun h2 t2 q2 a2 e2=>?_;conv=>whnf
 refine AIdxA.nat (n:=6) (z:=1) (j:=m) (by omega) (by omega) rfl rfl ?_;conv=>whnf
 refine AStore.oneN rfl rfl rfl q2 (by have:=core_cell x v n1 n5;rw [show 0+2+m*1=2+n.toNat by omega];exact Nat.ble_eq_true_of_le (List.getElem?_eq_some_iff.1 this).1) (netCells x {v with cp:=v.cp.set n (some b')}) (by rw [show 0+2+m*1=2+n.toNat by omega];exact core_set x v n1 n5 (some b')) fun h3 t3 q3 a3 e3=>?_;conv=>whnf
 have mv:∀ b (t:Tag) y,t≠(N,0)→h1 b=some (t,y)→h3 b=some (t,y):=fun b t y ht e=>t3 _ _ _ ht (t2 _ _ _ ht e)
 have k3:NetX h3 N p {x with cores:=x.cores.set n (cnew n 14 s.abs (x.draw % 7))} {v with cp:=v.cp.set n (some b')} :=
  k.coreNew n1 n5 (fun b t y a1 a2 a3 e=>mv _ _ _ a1 (kk1 _ _ _ a3 e)) (id1.move fun _ t _ ht e=>mv _ _ _ (fun c=>by rw [c] at ht;simp only at ht;omega) e) ⟨by show (v.cp.set n (some b')).get n=_;rw [Fv.get_set _ _ _ _ n1 n5,if_pos rfl],fun m m1 m2 hm=>by show (v.cp.set n (some b')).get m=_;rw [Fv.get_set _ _ _ _ m1 m2,if_neg hm],rfl⟩ n2 q3
 have L3:Low N h h3:=fun b t y ht e=>mv _ _ _ (fun c=>by rw [c] at ht;simp at ht) (kk1 _ _ _ (by omega) e)
 have hsi:(netCells {x with cores:=x.cores.set n (cnew n 14 s.abs (x.draw % 7))} {v with cp:=v.cp.set n (some b')})[0+8+m*7+2+0]? = some (I s.si):=by
  rw [show 0+8+m*7+2+0=8+n.toNat*7+2 by omega,hs];exact kept_si _ _ n1 n5
 refine ADrawn.mk (h3) [13] (Sub.refl _) (by decide +kernel) ?_;conv=>whnf
 refine AIdxA.nat (n:=6) (z:=7) (j:=m) (by omega) (by omega) rfl rfl ?_;conv=>whnf
 refine ALoad.one rfl k3.str hsi ?_;conv=>whnf
 refine AIdxA.nat (n:=6) (z:=1) (j:=m) (by omega) (by omega) rfl rfl ?_;conv=>whnf
 refine AStore.oneN rfl rfl rfl k3.str (by rw [show 0+54+m*1=54+n.toNat by omega];exact Nat.ble_eq_true_of_le (List.getElem?_eq_some_iff.1 (cm_cell _ _ n1 n5)).1) (netCells {x with cores:=x.cores.set n (cnew n 14 s.abs (x.draw % 7)),commits:=x.commits.set n s.si} {v with cp:=v.cp.set n (some b')}) (by rw [show 0+54+m*1=54+n.toNat by omega];exact cm_set _ _ n1 n5 _) fun h4 t4 q4 a4 e4=>?_;conv=>whnf
 exact ⟨rfl,⟨_,k3.move' (fun b t y _ n e=>t4 _ _ _ n e) q4 rfl rfl rfl rfl rfl rfl rfl⟩,L3.trans fun b t y ht e=>t4 _ _ _ (fun c=>by rw [c] at ht;simp at ht) e⟩
theorem flip_eq1:((List.range 256).all fun c=>[1,2,3,4,5].all fun k=>decide ((IntKind.i64.wrap (BitVec.ofInt 64 (c:Int) ^^^ BitVec.ofInt 64 (IntKind.i64.wrap ((1:Int)*2^(min ((k:Nat):Int).toNat IntKind.i64.bits)))).toNat)=flip (c:Int) ((k:Nat):Int)))=true:=by decide +kernel
theorem flip_eq {c k:Int} (c0:0≤c) (c1:c<256) (k0:1≤k) (k1:k≤5):IntKind.i64.wrap (BitVec.ofInt 64 c ^^^ BitVec.ofInt 64 (IntKind.i64.wrap (1*2^(min k.toNat IntKind.i64.bits)))).toNat=flip c k:=by
 have h:=List.all_eq_true.1 flip_eq1 c.toNat (List.mem_range.2 (by omega))
 have hk:k.toNat∈[1,2,3,4,5]:=by
  have:k.toNat=1∨k.toNat=2∨k.toNat=3∨k.toNat=4∨k.toNat=5:=by omega
  simpa using this
 have h2:=of_decide_eq_true (List.all_eq_true.1 h _ hk)
 rw [Int.toNat_of_nonneg c0,Int.toNat_of_nonneg (by omega)] at h2
 exact h2
theorem u8_mod (c:Int):IntKind.u8.wrap c=c % 256:=rfl
theorem row_sl {h:Heap} {b:Nat} {l:List Int} {n:Nat} (hl:l.length=n) (e:h b=some (row (0,1) (bytesV l) 5)):Sl h (0,1) (some ⟨b,0,none⟩) n n 1 (bytesV l) :=
 ⟨by simp [bytesV,hl],Nat.le_refl _, .inr ⟨b,0,_,_,_,rfl,e,by rw [List.drop_zero,List.take_of_length_le];simp [bytesV,hl]⟩⟩
theorem NetI.crew (i:NetI g x) (n1:1≤n) (n2:n≤x.size):0≤(x.cores.get n).crewNow.1∧(x.cores.get n).crewNow.1<256∧∀ m∈ls (m5 (x.cores.get n).crewNow.1),m≤x.size:=by
 obtain ⟨A,id⟩:=i.srv n n1 n2
 have hs3:=i.w.sz3;have hsz:=i.sz
 rw [id.srv.crew.1]
 have cr:=conf_range A g.size 14 id.srv.eok (by omega)
 exact ⟨cr.1,cr.2,fun m hm=>by rw [← hsz];exact conf_size hs3 A id.srv.eok 14 (fun z hz=>Int.le_trans (crew14 z hz) hs3) m hm⟩
set_option maxHeartbeats 2000000 in
theorem change_any (k:NetX h N p x v) (i:NetI g x) (n1:1≤n) (n2:n≤x.size) (y:Int) (hl:g.lim+10≤100000000) :
  ACalls PR 48 #[Ptr p,I n,I y] h (fun r h'=>r = .tuple #[]∧(∃ v',NetX h' N p (x.change n y) v')∧Low N h h'):=by
 have hN:=k.n0
 have hs5:=k.sz5
 have hs3:=k.sz3
 have n5:n≤5:=by omega
 obtain ⟨m,hm⟩:∃ m:Nat,n=m:=⟨n.toNat,by omega⟩
 obtain ⟨b,hb,id⟩:=k.cores n n1 n2
 have ck:=i.cok n1 n2
 obtain ⟨b1,b2⟩:=bring_in y x.size (by omega)
 obtain ⟨c0,c1,c2⟩:=i.crew n1 n2
 obtain ⟨fl,hfl⟩:∃ fl,fl=flip (x.cores.get n).crewNow.1 (1+bring y x.size) % 256:=⟨_,rfl⟩
 have hfl0:0≤fl∧fl<256:=by rw [hfl];exact ⟨Int.emod_nonneg _ (by omega),Int.emod_lt_of_pos _ (by omega)⟩
 have hsz:∀ z∈ls (m5 (crewNum (0,0,0,[fl]))),z≤x.size:=fun z hz=>by
  obtain ⟨c,hc⟩:∃ c:Nat,(x.cores.get n).crewNow.1=c:=⟨((x.cores.get n).crewNow.1).toNat,by omega⟩
  obtain ⟨q,hq⟩:∃ q:Nat,1+bring y x.size=q:=⟨(1+bring y x.size).toNat,by omega⟩
  rw [hfl,hc,hq] at hz
  rcases flip_in c (by omega) q (by omega) (by omega) z hz with h | h
  ·omega
  ·rw [← hc] at h;exact c2 z h
 have ex:x.change n y=x.propose n 2 [fl]:=by rw [hfl];rfl
 rw [ex]
 have hcore:(netCells x v)[0+2+m*1]? = some (Ptr b):=by
  have:=core_cell x v n1 n5
  rw [hb] at this
  rw [show 0+2+m*1=2+n.toNat by omega];exact this
 obtain ⟨cx,kx⟩:=id.x
 refine acalls_of mix Tryz.func48 rfl rfl Tryz.ntmps48 Tryz.results48 rfl ?_;conv=>whnf
 refine ADrawn.mkO (h) [] [0,1,2,3,4,5,7,8,9,10,11,6,12,13,14,15,16] (Sub.refl _) (by decide +kernel) ?_;conv=>whnf
 refine AIdxA.nat (n:=6) (z:=1) (j:=m) (by omega) (by omega) rfl rfl ?_;conv=>whnf
 refine ALoad.one rfl k.str hcore ?_
 refine ALoad.one rfl k.str rfl ?_;conv=>whnf
 refine ACalls.mono (Crew_any kx ck.lk) ?_;rintro _ _ ⟨rfl,rfl⟩;conv=>whnf
 refine ⟨Sub.refl _,?_⟩;conv=>whnf
 refine ACalls.mono (bring_any y x.size (by omega) h) ?_;rintro _ _ ⟨rfl,rfl⟩;conv=>whnf
 refine ⟨Sub.refl _,?_⟩;conv=>whnf
 refine AArith.ok (by omega) (by omega) (rfl) ?_;conv=>whnf
 refine ⟨by omega,AArith.raw ?_⟩;conv=>whnf
 refine AInt.as (flip_eq c0 c1 (by omega) (by omega)) ?_;conv=>whnf
 refine AIdxA.nat (n:=6) (z:=1) (j:=m) (by omega) (by omega) rfl rfl ?_;conv=>whnf
 refine ALoad.one rfl k.str hcore ?_;conv=>whnf
 refine AArith.raw ?_
 rw [u8_mod,← hfl]
 conv=>whnf
 refine ABuildSl.mkN (0,1) [.int .u8 fl] rfl rfl rfl rfl rfl rfl rfl fun b6 h5 n5' s5 k6=>?_;conv=>whnf
 have k5:=k.sub s5
 have id5:PIdle h5 b (N+2*n.toNat) (x.cores.get n):=id.move fun _ _ _ _ e=>s5 _ _ e
 refine ACalls.mono (propose_net (N+1) (by omega) id5 ck 2 (row_sl (l:=[fl]) rfl k6) (fun z hz=>by rw [List.mem_singleton.1 hz];exact hfl0)) ?_
 rintro _ h7 (⟨er,rfl,s7⟩ | ⟨ez,u,rfl,ox,rfl,ok7,id7,kk7⟩)
 ·conv=>whnf
  refine AAlloc.mkN (0,1) (outCells out0 ox0) rfl fun b8 h8 n8 s8 k8=>?_;conv=>whnf
  refine AStore.aggN rfl rfl rfl (k8) rfl (outCells out0 ox0) rfl fun h9 t9 k9 a9 e9=>?_;conv=>whnf
  refine ALoad.agg rfl k9 rfl rfl ?_;conv=>whnf
  refine ACalls.mono (out_no h9 p n er) ?_
  rintro _ h10 ⟨rfl,s10⟩
  conv=>whnf
  have s9:Sub h7 h9:=a9 h7 s8 n8
  have e:x.propose n 2 [fl]=x:=by unfold NetM.propose;rw [if_neg er]
  rw [e]
  exact ⟨rfl,⟨v,(((k5.sub s7).sub s9).sub s10)⟩,(s5.trans (s7.trans (s9.trans s10))).low⟩
 ·conv=>whnf
  refine AAlloc.mkN (0,1) (outCells out0 ox0) rfl fun b8 h8 n8 s8 k8=>?_;conv=>whnf
  refine AStore.aggN rfl rfl rfl (k8) rfl (outCells ((x.cores.get n).propose 2 [fl]).done.2 ox) rfl fun h9 t9 k9 a9 e9=>?_;conv=>whnf
  refine ALoad.agg rfl k9 rfl rfl ?_;conv=>whnf
  have s9:Sub h7 h9:=a9 h7 s8 n8
  have kp:=i.keepPropose n1 n2 (kind:=2) (data:=[fl]) ez (fun z hz=>by rw [List.mem_singleton.1 hz];exact hfl0) (fun _=>hsz) hl
  refine ACalls.mono (out_call k5 n1 n2 hb kk7 id7 ok7 kp s9) ?_
  rintro _ h10 ⟨rfl,k10,L10⟩
  conv=>whnf
  have e:x.propose n 2 [fl]=x.out n ((x.cores.get n).propose 2 [fl]):=by unfold NetM.propose;rw [if_pos ez]
  rw [e]
  exact ⟨rfl,k10,s5.low.trans L10⟩
set_option maxHeartbeats 4000000 in
theorem compact_any (k:NetX h N p x v) (i:NetI g x) (n1:1≤n) (n2:n≤x.size) :
  ACalls PR 49 #[Ptr p,I n] h (fun r h'=>r = .tuple #[]∧(∃ v',NetX h' N p (x.compact n) v')∧Low N h h'):=by
 have hN:=k.n0
 have hs5:=k.sz5
 have n5:n≤5:=by omega
 obtain ⟨m,hm⟩:∃ m:Nat,n=m:=⟨n.toNat,by omega⟩
 obtain ⟨b,hb,id⟩:=k.cores n n1 n2
 have ck:=i.cok n1 n2
 obtain ⟨A,il⟩:=i.srv n n1 n2
 obtain ⟨ka,t1,kt1,kok⟩:=k.kept n n1 n5
 obtain ⟨s,hs⟩:∃ s,s=v.ke.get n:=⟨_,rfl⟩
 rw [← hs] at ka kok
 obtain ⟨c,hc⟩:∃ c,c=x.cores.get n:=⟨_,rfl⟩
 rw [← hc] at id ck il
 have hes:s.es.map EH.abs=c.log.es:=by have:=il.kept;rw [← ka] at this;exact congrArg SavedM.entries this
 have hln:s.e.n≤1000000000:=by
  have h1:=kok.es.len
  have h2:=congrArg List.length hes
  rw [List.length_map] at h2
  have:=ck.es;omega
 have hbi:c.log.bi≤c.snap.index:=by rw [il.srv.si];exact Int.le_refl _
 have hsi:c.snap.index≤9007199254740991:=by
  have:=il.srv.rep.le;have:=il.srv.al;have:=i.w.l3;have:=il.srv.rep.lo
  rw [il.srv.si];omega
 have hcore:(netCells x v)[0+2+m*1]? = some (Ptr b):=by
  have:=core_cell x v n1 n5
  rw [hb] at this
  rw [show 0+2+m*1=2+n.toNat by omega];exact this
 have kc:((netCells x v).drop (0+8+m*7)).take 7=s.cells:=by
  rw [show 0+8+m*7=8+n.toNat*7 by omega,kept_cells x v n1 n5,hs]
 obtain ⟨cb,hcb⟩:∃ cb,cb=c.commit % 256:=⟨_,rfl⟩
 have hcb0:0≤cb∧cb<256:=by rw [hcb];exact ⟨Int.emod_nonneg _ (by omega),Int.emod_lt_of_pos _ (by omega)⟩
 have ex:x.compact n=if c.compactE c.commit [cb]=0 then {x with cores:=x.cores.set n (c.compact c.commit [cb]),kept:=x.kept.set n (snappedM s.abs (c.compact c.commit [cb]).snap)} else x:=by
  rw [hcb,hc,ka];rfl
 rw [ex]
 have kd:∀ r:Nat,((N+1,r):Tag)≠(N,0):=fun r c=>by have:=congrArg Prod.fst c;simp only at this;omega
 have kl:∀ r:Nat,((N+1,r):Tag)≠(0,1):=fun r c=>by have:=congrArg Prod.fst c;simp only at this;omega
 refine acalls_of mix Tryz.func49 rfl rfl Tryz.ntmps49 Tryz.results49 rfl ?_;conv=>whnf
 refine ADrawn.mkT (h) [22] (.take 0 (.take 1 (.take 2 (.take 3 (.take 4 (.take 5 (.take 6 (.take 7 (.take 8 (.take 9 (.take 10 (.take 11 (.take 13 (.take 14 (.take 15 (.take 16 (.take 17 (.take 18 (.alt 26 (.take 12 (.take 19 (.take 20 (.take 21 (.take 22 (.take 23 (.take 24 (.take 25 (.take 27 (.take 28 (.done))))))))))) (.alt 12 (.alt 26 (.take 19 (.take 20 (.take 21 (.take 22 (.take 23 (.take 24 (.take 25 (.take 27 (.take 28 (.done)))))))))) (.alt 19 (.take 20 (.alt 26 (.take 21 (.take 22 (.take 23 (.take 24 (.take 25 (.take 27 (.take 28 (.done)))))))) (.alt 21 (.alt 26 (.take 22 (.take 23 (.take 24 (.take 25 (.take 27 (.take 28 (.done))))))) (.alt 22 (.take 23 (.take 24 (.take 25 (.take 26 (.take 27 (.take 28 (.done))))))) (.stop))) (.stop)))) (.stop))) (.stop))))))))))))))))))))) (Sub.refl _) (by decide +kernel) ?_;conv=>whnf
 refine AIdxA.nat (n:=6) (z:=1) (j:=m) (by omega) (by omega) rfl rfl ?_;conv=>whnf
 refine ALoad.one rfl k.str hcore ?_;conv=>whnf
 refine AIdxA.nat (n:=6) (z:=1) (j:=m) (by omega) (by omega) rfl rfl ?_;conv=>whnf
 refine ALoad.one rfl k.str hcore ?_;conv=>whnf
 refine AIdxA.nat (n:=6) (z:=1) (j:=m) (by omega) (by omega) rfl rfl ?_;conv=>whnf
 refine ALoad.one rfl k.str hcore ?_;conv=>whnf
 refine And.intro ?_ ?_
 ·refine AAlloc.mkN (0,1) ([I 0,I 0,I 0, .slice none 0 0]) rfl fun b4 h1 n1' s1 k1=>?_;conv=>whnf
  refine ⟨s1,?_⟩;conv=>whnf
  have id1:PIdle h1 b (N+2*n.toNat) c:=id.move fun _ _ _ _ e=>s1 _ _ e
  refine ACalls.mono (commit_i id1) ?_;rintro _ _ ⟨rfl,rfl⟩;conv=>whnf
  refine ⟨s1,?_⟩;conv=>whnf
  refine ACalls.mono (commit_i id1) ?_;rintro _ _ ⟨rfl,rfl⟩;conv=>whnf
  refine ⟨s1,?_⟩;conv=>whnf
  refine AArith.raw ?_
  rw [u8_mod,← hcb]
  conv=>whnf
  refine ABuildSl.mkN (0,1) [.int .u8 cb] rfl rfl rfl rfl rfl rfl rfl fun b6 h5 n5' s5 k6=>?_;conv=>whnf
  have sC:=s1.trans s5
  refine ⟨sC,?_⟩;conv=>whnf
  have k4C:=s5 _ _ k1
  have idC:PIdle h5 b (N+2*n.toNat) c:=id.move fun _ _ _ _ e=>sC _ _ e
  refine ACalls.mono (compact_net (N+1) (by omega) idC ck hbi hsi c.commit (row_sl (l:=[cb]) rfl k6) (by show 0≠_;omega) (by omega)) ?_
  rintro _ h7 (⟨er,rfl,s7⟩ | ⟨ez,a7,n7,c7,rfl,ow7,id7,kk7⟩)
  ·conv=>whnf
   refine AStore.aggN rfl rfl rfl ((s7 _ _ k4C)) rfl ([I 0,I 0,I 0, .slice none 0 0]) rfl fun h8 t8 k8 a8 e8=>?_;conv=>whnf
   refine ⟨Sub.nil _,?_⟩;conv=>whnf
   refine ACmp.no (er) ?_;conv=>whnf
   rw [if_neg er]
   exact ⟨rfl,⟨v,((k.sub sC).sub s7).local t8⟩,(a8 h (sC.trans s7) n1').low⟩
  ·conv=>whnf
   have k7:=kk7 _ _ _ (show ((0,1):Tag).1∉_ by simp;omega) k4C
   refine AStore.aggN rfl rfl rfl (k7) rfl ([I c.commit,I (c.compact c.commit [cb]).snap.term,I (c.compact c.commit [cb]).snap.crew, .slice a7 n7 c7]) rfl fun h8 t8 k8 a8 e8=>?_;conv=>whnf
   refine ⟨Sub.nil _,?_⟩;conv=>whnf
   have LOW:Low N h h8:=fun b t y ht e=>e8 _ _ (fun z=>by rw [z,n1'] at e;cases e) (kk7 _ _ _ (by simp;omega) (sC _ _ e))
   refine ACmp.yes (rfl) ?_;conv=>whnf
   have K1:=((k.sub sC).coreSet n1 n2 hb kk7 id7).local t8
   obtain ⟨ka2,t2',kt2',kok2⟩:=K1.kept n n1 n5
   rw [← hs] at kok2
   have kc1:((netCells {x with cores:=x.cores.set n (c.compact c.commit [cb])} v).drop (0+8+m*7)).take 7=s.cells:=kc
   refine ADrawn.mkO (h8) [9] [0,1,2,3,4,5,6,7,8,10,11,9,12,13] (Sub.refl _) (by decide +kernel) ?_;conv=>whnf
   refine AIdxA.nat (n:=6) (z:=7) (j:=m) (by omega) (by omega) rfl rfl ?_;conv=>whnf
   refine ALoad.agg rfl K1.str kc1 rfl ?_
   refine ALoad.agg rfl k8 rfl rfl ?_;conv=>whnf
   refine ACalls.mono (snapped_any (N+12) kok2 hln c.commit (c.compact c.commit [cb]).snap.term (c.compact c.commit [cb]).snap.crew ⟨a7,n7,c7⟩) ?_
   rintro _ h20 ⟨e20,t20,rfl,ht20,ow20,s20⟩
   conv=>whnf
   refine AIdxA.nat (n:=6) (z:=7) (j:=m) (by omega) (by omega) rfl rfl ?_;conv=>whnf
   obtain ⟨S2,hS2⟩:∃ S2:SH,S2={s with si:=c.commit,st:=(c.compact c.commit [cb]).snap.term,sc:=(c.compact c.commit [cb]).snap.crew,d:=⟨a7,n7,c7⟩,data:=[cb],e:=e20,es:=afterH c.commit (c.compact c.commit [cb]).snap.term s.es}:=⟨_,rfl⟩
   have K20:=K1.sub s20
   have ksz:∀ (y:NetM) (v:NX),(netCells y v).length=67:=fun y v=>rfl
   refine AStore.aggN (vs:=[I s.term,I s.vote,I c.commit,I (c.compact c.commit [cb]).snap.term,I (c.compact c.commit [cb]).snap.crew, .slice a7 n7 c7, .slice e20.a e20.n e20.c]) rfl rfl rfl K20.str (Nat.ble_eq_true_of_le (by rw [ksz];show 0+8+m*7+7≤67;omega)) (netCells {x with cores:=x.cores.set n (c.compact c.commit [cb])} {v with ke:=v.ke.set n S2}) (by rw [show 0+8+m*7=8+n.toNat*7 by omega];have:=kept_set {x with cores:=x.cores.set n (c.compact c.commit [cb])} v n1 n5 S2;rw [← this,hS2];rfl) fun h21 t21 q21 a21 e21=>?_;conv=>whnf
   refine ⟨Sub.nil _,?_⟩;conv=>whnf
   have ok21:S2.Ok h21 t20 (N+1,2) (N+1,6):=by
    rw [hS2]
    refine ⟨⟨(ow20.keepT t21 (fun c=>by rw [c] at ht20;simp only at ht20;omega)).sl,fun e he=>?_,fun e he=>kok2.es.small e (afterH_mem he)⟩,?_⟩
    ·exact (Sl.sub (kok2.es.good e (afterH_mem he)) s20).keepT t21 (kd 2)
    ·exact ((ow7.sl.keepT t8 (kl 6)).sub s20).keepT t21 (kd 6)
   have k21:=K20.keSet n1 n5 ht20 ok21 t21 q21
   have eq21:S2.abs=snappedM s.abs (c.compact c.commit [cb]).snap:=by
    rw [hS2]
    show (⟨s.term,s.vote,⟨c.commit,_,_,[cb]⟩,(afterH c.commit (c.compact c.commit [cb]).snap.term s.es).map EH.abs⟩:SavedM)=_
    rw [afterH_abs];rfl
   rw [eq21] at k21
   rw [if_pos ez]
   refine ⟨rfl,⟨_,k21⟩,LOW.trans (s20.low.trans fun b t y ht e=>t21 _ _ _ (fun c=>by rw [c] at ht;simp at ht) e)⟩
 conv=>whnf
 refine And.intro ?_ trivial
 refine ACalls.mono (commit_i id) ?_;rintro _ _ ⟨rfl,rfl⟩;conv=>whnf
 refine ⟨Sub.refl _,?_⟩;conv=>whnf
 refine And.intro ?_ ?_
 ·refine AAlloc.mkN (0,1) ([I 0,I 0,I 0, .slice none 0 0]) rfl fun b4 h1 n1' s1 k1=>?_;conv=>whnf
  refine ⟨s1,?_⟩;conv=>whnf
  have id1:PIdle h1 b (N+2*n.toNat) c:=id.move fun _ _ _ _ e=>s1 _ _ e
  refine ACalls.mono (commit_i id1) ?_;rintro _ _ ⟨rfl,rfl⟩;conv=>whnf
  refine ⟨s1,?_⟩;conv=>whnf
  refine AArith.raw ?_
  rw [u8_mod,← hcb]
  conv=>whnf
  refine ABuildSl.mkN (0,1) [.int .u8 cb] rfl rfl rfl rfl rfl rfl rfl fun b6 h5 n5' s5 k6=>?_;conv=>whnf
  have sC:=s1.trans s5
  refine ⟨sC,?_⟩;conv=>whnf
  have k4C:=s5 _ _ k1
  have idC:PIdle h5 b (N+2*n.toNat) c:=id.move fun _ _ _ _ e=>sC _ _ e
  refine ACalls.mono (compact_net (N+1) (by omega) idC ck hbi hsi c.commit (row_sl (l:=[cb]) rfl k6) (by show 0≠_;omega) (by omega)) ?_
  rintro _ h7 (⟨er,rfl,s7⟩ | ⟨ez,a7,n7,c7,rfl,ow7,id7,kk7⟩)
  ·conv=>whnf
   refine AStore.aggN rfl rfl rfl ((s7 _ _ k4C)) rfl ([I 0,I 0,I 0, .slice none 0 0]) rfl fun h8 t8 k8 a8 e8=>?_;conv=>whnf
   refine ⟨Sub.nil _,?_⟩;conv=>whnf
   refine ACmp.no (er) ?_;conv=>whnf
   rw [if_neg er]
   exact ⟨rfl,⟨v,((k.sub sC).sub s7).local t8⟩,(a8 h (sC.trans s7) n1').low⟩
  ·conv=>whnf
   have k7:=kk7 _ _ _ (show ((0,1):Tag).1∉_ by simp;omega) k4C
   refine AStore.aggN rfl rfl rfl (k7) rfl ([I c.commit,I (c.compact c.commit [cb]).snap.term,I (c.compact c.commit [cb]).snap.crew, .slice a7 n7 c7]) rfl fun h8 t8 k8 a8 e8=>?_;conv=>whnf
   refine ⟨Sub.nil _,?_⟩;conv=>whnf
   have LOW:Low N h h8:=fun b t y ht e=>e8 _ _ (fun z=>by rw [z,n1'] at e;cases e) (kk7 _ _ _ (by simp;omega) (sC _ _ e))
   refine ACmp.yes (rfl) ?_;conv=>whnf
   have K1:=((k.sub sC).coreSet n1 n2 hb kk7 id7).local t8
   obtain ⟨ka2,t2',kt2',kok2⟩:=K1.kept n n1 n5
   rw [← hs] at kok2
   have kc1:((netCells {x with cores:=x.cores.set n (c.compact c.commit [cb])} v).drop (0+8+m*7)).take 7=s.cells:=kc
   refine ADrawn.mkO (h8) [9] [0,1,2,3,4,5,6,7,8,10,11,9,12,13] (Sub.refl _) (by decide +kernel) ?_;conv=>whnf
   refine AIdxA.nat (n:=6) (z:=7) (j:=m) (by omega) (by omega) rfl rfl ?_;conv=>whnf
   refine ALoad.agg rfl K1.str kc1 rfl ?_
   refine ALoad.agg rfl k8 rfl rfl ?_;conv=>whnf
   refine ACalls.mono (snapped_any (N+12) kok2 hln c.commit (c.compact c.commit [cb]).snap.term (c.compact c.commit [cb]).snap.crew ⟨a7,n7,c7⟩) ?_
   rintro _ h20 ⟨e20,t20,rfl,ht20,ow20,s20⟩
   conv=>whnf
   refine AIdxA.nat (n:=6) (z:=7) (j:=m) (by omega) (by omega) rfl rfl ?_;conv=>whnf
   obtain ⟨S2,hS2⟩:∃ S2:SH,S2={s with si:=c.commit,st:=(c.compact c.commit [cb]).snap.term,sc:=(c.compact c.commit [cb]).snap.crew,d:=⟨a7,n7,c7⟩,data:=[cb],e:=e20,es:=afterH c.commit (c.compact c.commit [cb]).snap.term s.es}:=⟨_,rfl⟩
   have K20:=K1.sub s20
   have ksz:∀ (y:NetM) (v:NX),(netCells y v).length=67:=fun y v=>rfl
   refine AStore.aggN (vs:=[I s.term,I s.vote,I c.commit,I (c.compact c.commit [cb]).snap.term,I (c.compact c.commit [cb]).snap.crew, .slice a7 n7 c7, .slice e20.a e20.n e20.c]) rfl rfl rfl K20.str (Nat.ble_eq_true_of_le (by rw [ksz];show 0+8+m*7+7≤67;omega)) (netCells {x with cores:=x.cores.set n (c.compact c.commit [cb])} {v with ke:=v.ke.set n S2}) (by rw [show 0+8+m*7=8+n.toNat*7 by omega];have:=kept_set {x with cores:=x.cores.set n (c.compact c.commit [cb])} v n1 n5 S2;rw [← this,hS2];rfl) fun h21 t21 q21 a21 e21=>?_;conv=>whnf
   refine ⟨Sub.nil _,?_⟩;conv=>whnf
   have ok21:S2.Ok h21 t20 (N+1,2) (N+1,6):=by
    rw [hS2]
    refine ⟨⟨(ow20.keepT t21 (fun c=>by rw [c] at ht20;simp only at ht20;omega)).sl,fun e he=>?_,fun e he=>kok2.es.small e (afterH_mem he)⟩,?_⟩
    ·exact (Sl.sub (kok2.es.good e (afterH_mem he)) s20).keepT t21 (kd 2)
    ·exact ((ow7.sl.keepT t8 (kl 6)).sub s20).keepT t21 (kd 6)
   have k21:=K20.keSet n1 n5 ht20 ok21 t21 q21
   have eq21:S2.abs=snappedM s.abs (c.compact c.commit [cb]).snap:=by
    rw [hS2]
    show (⟨s.term,s.vote,⟨c.commit,_,_,[cb]⟩,(afterH c.commit (c.compact c.commit [cb]).snap.term s.es).map EH.abs⟩:SavedM)=_
    rw [afterH_abs];rfl
   rw [eq21] at k21
   rw [if_pos ez]
   refine ⟨rfl,⟨_,k21⟩,LOW.trans (s20.low.trans fun b t y ht e=>t21 _ _ _ (fun c=>by rw [c] at ht;simp at ht) e)⟩
 conv=>whnf
 refine And.intro ?_ trivial
 refine ACalls.mono (commit_i id) ?_;rintro _ _ ⟨rfl,rfl⟩;conv=>whnf
 refine ⟨Sub.refl _,?_⟩;conv=>whnf
 refine AArith.raw ?_
 rw [u8_mod,← hcb]
 conv=>whnf
 refine And.intro ?_ ?_
 ·refine AAlloc.mkN (0,1) ([I 0,I 0,I 0, .slice none 0 0]) rfl fun b4 h1 n1' s1 k1=>?_;conv=>whnf
  refine ⟨s1,?_⟩;conv=>whnf
  refine ABuildSl.mkN (0,1) [.int .u8 cb] rfl rfl rfl rfl rfl rfl rfl fun b6 h5 n5' s5 k6=>?_;conv=>whnf
  have sC:=s1.trans s5
  refine ⟨sC,?_⟩;conv=>whnf
  have k4C:=s5 _ _ k1
  have idC:PIdle h5 b (N+2*n.toNat) c:=id.move fun _ _ _ _ e=>sC _ _ e
  refine ACalls.mono (compact_net (N+1) (by omega) idC ck hbi hsi c.commit (row_sl (l:=[cb]) rfl k6) (by show 0≠_;omega) (by omega)) ?_
  rintro _ h7 (⟨er,rfl,s7⟩ | ⟨ez,a7,n7,c7,rfl,ow7,id7,kk7⟩)
  ·conv=>whnf
   refine AStore.aggN rfl rfl rfl ((s7 _ _ k4C)) rfl ([I 0,I 0,I 0, .slice none 0 0]) rfl fun h8 t8 k8 a8 e8=>?_;conv=>whnf
   refine ⟨Sub.nil _,?_⟩;conv=>whnf
   refine ACmp.no (er) ?_;conv=>whnf
   rw [if_neg er]
   exact ⟨rfl,⟨v,((k.sub sC).sub s7).local t8⟩,(a8 h (sC.trans s7) n1').low⟩
  ·conv=>whnf
   have k7:=kk7 _ _ _ (show ((0,1):Tag).1∉_ by simp;omega) k4C
   refine AStore.aggN rfl rfl rfl (k7) rfl ([I c.commit,I (c.compact c.commit [cb]).snap.term,I (c.compact c.commit [cb]).snap.crew, .slice a7 n7 c7]) rfl fun h8 t8 k8 a8 e8=>?_;conv=>whnf
   refine ⟨Sub.nil _,?_⟩;conv=>whnf
   have LOW:Low N h h8:=fun b t y ht e=>e8 _ _ (fun z=>by rw [z,n1'] at e;cases e) (kk7 _ _ _ (by simp;omega) (sC _ _ e))
   refine ACmp.yes (rfl) ?_;conv=>whnf
   have K1:=((k.sub sC).coreSet n1 n2 hb kk7 id7).local t8
   obtain ⟨ka2,t2',kt2',kok2⟩:=K1.kept n n1 n5
   rw [← hs] at kok2
   have kc1:((netCells {x with cores:=x.cores.set n (c.compact c.commit [cb])} v).drop (0+8+m*7)).take 7=s.cells:=kc
   refine ADrawn.mkO (h8) [9] [0,1,2,3,4,5,6,7,8,10,11,9,12,13] (Sub.refl _) (by decide +kernel) ?_;conv=>whnf
   refine AIdxA.nat (n:=6) (z:=7) (j:=m) (by omega) (by omega) rfl rfl ?_;conv=>whnf
   refine ALoad.agg rfl K1.str kc1 rfl ?_
   refine ALoad.agg rfl k8 rfl rfl ?_;conv=>whnf
   refine ACalls.mono (snapped_any (N+12) kok2 hln c.commit (c.compact c.commit [cb]).snap.term (c.compact c.commit [cb]).snap.crew ⟨a7,n7,c7⟩) ?_
   rintro _ h20 ⟨e20,t20,rfl,ht20,ow20,s20⟩
   conv=>whnf
   refine AIdxA.nat (n:=6) (z:=7) (j:=m) (by omega) (by omega) rfl rfl ?_;conv=>whnf
   obtain ⟨S2,hS2⟩:∃ S2:SH,S2={s with si:=c.commit,st:=(c.compact c.commit [cb]).snap.term,sc:=(c.compact c.commit [cb]).snap.crew,d:=⟨a7,n7,c7⟩,data:=[cb],e:=e20,es:=afterH c.commit (c.compact c.commit [cb]).snap.term s.es}:=⟨_,rfl⟩
   have K20:=K1.sub s20
   have ksz:∀ (y:NetM) (v:NX),(netCells y v).length=67:=fun y v=>rfl
   refine AStore.aggN (vs:=[I s.term,I s.vote,I c.commit,I (c.compact c.commit [cb]).snap.term,I (c.compact c.commit [cb]).snap.crew, .slice a7 n7 c7, .slice e20.a e20.n e20.c]) rfl rfl rfl K20.str (Nat.ble_eq_true_of_le (by rw [ksz];show 0+8+m*7+7≤67;omega)) (netCells {x with cores:=x.cores.set n (c.compact c.commit [cb])} {v with ke:=v.ke.set n S2}) (by rw [show 0+8+m*7=8+n.toNat*7 by omega];have:=kept_set {x with cores:=x.cores.set n (c.compact c.commit [cb])} v n1 n5 S2;rw [← this,hS2];rfl) fun h21 t21 q21 a21 e21=>?_;conv=>whnf
   refine ⟨Sub.nil _,?_⟩;conv=>whnf
   have ok21:S2.Ok h21 t20 (N+1,2) (N+1,6):=by
    rw [hS2]
    refine ⟨⟨(ow20.keepT t21 (fun c=>by rw [c] at ht20;simp only at ht20;omega)).sl,fun e he=>?_,fun e he=>kok2.es.small e (afterH_mem he)⟩,?_⟩
    ·exact (Sl.sub (kok2.es.good e (afterH_mem he)) s20).keepT t21 (kd 2)
    ·exact ((ow7.sl.keepT t8 (kl 6)).sub s20).keepT t21 (kd 6)
   have k21:=K20.keSet n1 n5 ht20 ok21 t21 q21
   have eq21:S2.abs=snappedM s.abs (c.compact c.commit [cb]).snap:=by
    rw [hS2]
    show (⟨s.term,s.vote,⟨c.commit,_,_,[cb]⟩,(afterH c.commit (c.compact c.commit [cb]).snap.term s.es).map EH.abs⟩:SavedM)=_
    rw [afterH_abs];rfl
   rw [eq21] at k21
   rw [if_pos ez]
   refine ⟨rfl,⟨_,k21⟩,LOW.trans (s20.low.trans fun b t y ht e=>t21 _ _ _ (fun c=>by rw [c] at ht;simp at ht) e)⟩
 conv=>whnf
 refine And.intro ?_ trivial
 refine ABuildSl.mkN (0,1) [.int .u8 cb] rfl rfl rfl rfl rfl rfl rfl fun b6 h5 n5' s5 k6=>?_;conv=>whnf
 refine ⟨s5,?_⟩;conv=>whnf
 refine And.intro ?_ ?_
 ·refine AAlloc.mkN (0,1) ([I 0,I 0,I 0, .slice none 0 0]) rfl fun b4 h1 n1' s1 k1=>?_;conv=>whnf
  have sC:=s5.trans s1
  refine ⟨sC,?_⟩;conv=>whnf
  have k6C:=s1 _ _ k6
  have nb4:h b4=none:=by cases e:h b4 with | none=>rfl | some y=>rw [s5 _ _ e] at n1';cases n1'
  have idC:PIdle h1 b (N+2*n.toNat) c:=id.move fun _ _ _ _ e=>sC _ _ e
  refine ACalls.mono (compact_net (N+1) (by omega) idC ck hbi hsi c.commit (row_sl (l:=[cb]) rfl k6C) (by show 0≠_;omega) (by omega)) ?_
  rintro _ h7 (⟨er,rfl,s7⟩ | ⟨ez,a7,n7,c7,rfl,ow7,id7,kk7⟩)
  ·conv=>whnf
   refine AStore.aggN rfl rfl rfl ((s7 _ _ k1)) rfl ([I 0,I 0,I 0, .slice none 0 0]) rfl fun h8 t8 k8 a8 e8=>?_;conv=>whnf
   refine ⟨Sub.nil _,?_⟩;conv=>whnf
   refine ACmp.no (er) ?_;conv=>whnf
   rw [if_neg er]
   exact ⟨rfl,⟨v,((k.sub sC).sub s7).local t8⟩,(a8 h (sC.trans s7) nb4).low⟩
  ·conv=>whnf
   have k7:=kk7 _ _ _ (show ((0,1):Tag).1∉_ by simp;omega) k1
   refine AStore.aggN rfl rfl rfl (k7) rfl ([I c.commit,I (c.compact c.commit [cb]).snap.term,I (c.compact c.commit [cb]).snap.crew, .slice a7 n7 c7]) rfl fun h8 t8 k8 a8 e8=>?_;conv=>whnf
   refine ⟨Sub.nil _,?_⟩;conv=>whnf
   have LOW:Low N h h8:=fun b t y ht e=>e8 _ _ (fun z=>by rw [z,nb4] at e;cases e) (kk7 _ _ _ (by simp;omega) (sC _ _ e))
   refine ACmp.yes (rfl) ?_;conv=>whnf
   have K1:=((k.sub sC).coreSet n1 n2 hb kk7 id7).local t8
   obtain ⟨ka2,t2',kt2',kok2⟩:=K1.kept n n1 n5
   rw [← hs] at kok2
   have kc1:((netCells {x with cores:=x.cores.set n (c.compact c.commit [cb])} v).drop (0+8+m*7)).take 7=s.cells:=kc
   refine ADrawn.mkO (h8) [9] [0,1,2,3,4,5,6,7,8,10,11,9,12,13] (Sub.refl _) (by decide +kernel) ?_;conv=>whnf
   refine AIdxA.nat (n:=6) (z:=7) (j:=m) (by omega) (by omega) rfl rfl ?_;conv=>whnf
   refine ALoad.agg rfl K1.str kc1 rfl ?_
   refine ALoad.agg rfl k8 rfl rfl ?_;conv=>whnf
   refine ACalls.mono (snapped_any (N+12) kok2 hln c.commit (c.compact c.commit [cb]).snap.term (c.compact c.commit [cb]).snap.crew ⟨a7,n7,c7⟩) ?_
   rintro _ h20 ⟨e20,t20,rfl,ht20,ow20,s20⟩
   conv=>whnf
   refine AIdxA.nat (n:=6) (z:=7) (j:=m) (by omega) (by omega) rfl rfl ?_;conv=>whnf
   obtain ⟨S2,hS2⟩:∃ S2:SH,S2={s with si:=c.commit,st:=(c.compact c.commit [cb]).snap.term,sc:=(c.compact c.commit [cb]).snap.crew,d:=⟨a7,n7,c7⟩,data:=[cb],e:=e20,es:=afterH c.commit (c.compact c.commit [cb]).snap.term s.es}:=⟨_,rfl⟩
   have K20:=K1.sub s20
   have ksz:∀ (y:NetM) (v:NX),(netCells y v).length=67:=fun y v=>rfl
   refine AStore.aggN (vs:=[I s.term,I s.vote,I c.commit,I (c.compact c.commit [cb]).snap.term,I (c.compact c.commit [cb]).snap.crew, .slice a7 n7 c7, .slice e20.a e20.n e20.c]) rfl rfl rfl K20.str (Nat.ble_eq_true_of_le (by rw [ksz];show 0+8+m*7+7≤67;omega)) (netCells {x with cores:=x.cores.set n (c.compact c.commit [cb])} {v with ke:=v.ke.set n S2}) (by rw [show 0+8+m*7=8+n.toNat*7 by omega];have:=kept_set {x with cores:=x.cores.set n (c.compact c.commit [cb])} v n1 n5 S2;rw [← this,hS2];rfl) fun h21 t21 q21 a21 e21=>?_;conv=>whnf
   refine ⟨Sub.nil _,?_⟩;conv=>whnf
   have ok21:S2.Ok h21 t20 (N+1,2) (N+1,6):=by
    rw [hS2]
    refine ⟨⟨(ow20.keepT t21 (fun c=>by rw [c] at ht20;simp only at ht20;omega)).sl,fun e he=>?_,fun e he=>kok2.es.small e (afterH_mem he)⟩,?_⟩
    ·exact (Sl.sub (kok2.es.good e (afterH_mem he)) s20).keepT t21 (kd 2)
    ·exact ((ow7.sl.keepT t8 (kl 6)).sub s20).keepT t21 (kd 6)
   have k21:=K20.keSet n1 n5 ht20 ok21 t21 q21
   have eq21:S2.abs=snappedM s.abs (c.compact c.commit [cb]).snap:=by
    rw [hS2]
    show (⟨s.term,s.vote,⟨c.commit,_,_,[cb]⟩,(afterH c.commit (c.compact c.commit [cb]).snap.term s.es).map EH.abs⟩:SavedM)=_
    rw [afterH_abs];rfl
   rw [eq21] at k21
   rw [if_pos ez]
   refine ⟨rfl,⟨_,k21⟩,LOW.trans (s20.low.trans fun b t y ht e=>t21 _ _ _ (fun c=>by rw [c] at ht;simp at ht) e)⟩
 conv=>whnf
 refine And.intro ?_ trivial
 have idC:PIdle h5 b (N+2*n.toNat) c:=id.move fun _ _ _ _ e=>s5 _ _ e
 refine ACalls.mono (compact_net (N+1) (by omega) idC ck hbi hsi c.commit (row_sl (l:=[cb]) rfl k6) (by show 0≠_;omega) (by omega)) ?_
 rintro _ h7 (⟨er,rfl,s7⟩ | ⟨ez,a7,n7,c7,rfl,ow7,id7,kk7⟩)
 ·conv=>whnf
  refine AAlloc.mkN (0,1) ([I 0,I 0,I 0, .slice none 0 0]) rfl fun b4 h1 n1' s1 k1=>?_;conv=>whnf
  refine ⟨Sub.nil _,?_⟩;conv=>whnf
  refine AStore.aggN rfl rfl rfl (k1) rfl ([I 0,I 0,I 0, .slice none 0 0]) rfl fun h8 t8 k8 a8 e8=>?_;conv=>whnf
  refine ⟨Sub.nil _,?_⟩;conv=>whnf
  refine ACmp.no (er) ?_;conv=>whnf
  rw [if_neg er]
  exact ⟨rfl,⟨v,(((k.sub s5).sub s7).sub s1).local t8⟩,(a8 h ((s5.trans s7).trans s1) (by cases e:h b4 with | none=>rfl | some y=>rw [s7 _ _ (s5 _ _ e)] at n1';cases n1')).low⟩
 ·conv=>whnf
  refine AAlloc.mkN (0,1) ([I 0,I 0,I 0, .slice none 0 0]) rfl fun b4 h1 n1' s1 k1=>?_;conv=>whnf
  refine ⟨Sub.nil _,?_⟩;conv=>whnf
  refine AStore.aggN rfl rfl rfl (k1) rfl ([I c.commit,I (c.compact c.commit [cb]).snap.term,I (c.compact c.commit [cb]).snap.crew, .slice a7 n7 c7]) rfl fun h8 t8 k8 a8 e8=>?_;conv=>whnf
  refine ⟨Sub.nil _,?_⟩;conv=>whnf
  have LOW:Low N h h8:=fun b t y ht e=>e8 _ _ (fun z=>by rw [z] at e;have:=kk7 _ _ _ (show t.1∉_ by simp;omega) (s5 _ _ e);rw [this] at n1';cases n1') (s1 _ _ (kk7 _ _ _ (by simp;omega) (s5 _ _ e)))
  have t78:KeepT (0,1) h7 h8:=(s1.keepT _).trans t8
  refine ACmp.yes (rfl) ?_;conv=>whnf
  have K1:=((k.sub s5).coreSet n1 n2 hb kk7 id7).local t78
  obtain ⟨ka2,t2',kt2',kok2⟩:=K1.kept n n1 n5
  rw [← hs] at kok2
  have kc1:((netCells {x with cores:=x.cores.set n (c.compact c.commit [cb])} v).drop (0+8+m*7)).take 7=s.cells:=kc
  refine ADrawn.mkO (h8) [9] [0,1,2,3,4,5,6,7,8,10,11,9,12,13] (Sub.refl _) (by decide +kernel) ?_;conv=>whnf
  refine AIdxA.nat (n:=6) (z:=7) (j:=m) (by omega) (by omega) rfl rfl ?_;conv=>whnf
  refine ALoad.agg rfl K1.str kc1 rfl ?_
  refine ALoad.agg rfl k8 rfl rfl ?_;conv=>whnf
  refine ACalls.mono (snapped_any (N+12) kok2 hln c.commit (c.compact c.commit [cb]).snap.term (c.compact c.commit [cb]).snap.crew ⟨a7,n7,c7⟩) ?_
  rintro _ h20 ⟨e20,t20,rfl,ht20,ow20,s20⟩
  conv=>whnf
  refine AIdxA.nat (n:=6) (z:=7) (j:=m) (by omega) (by omega) rfl rfl ?_;conv=>whnf
  obtain ⟨S2,hS2⟩:∃ S2:SH,S2={s with si:=c.commit,st:=(c.compact c.commit [cb]).snap.term,sc:=(c.compact c.commit [cb]).snap.crew,d:=⟨a7,n7,c7⟩,data:=[cb],e:=e20,es:=afterH c.commit (c.compact c.commit [cb]).snap.term s.es}:=⟨_,rfl⟩
  have K20:=K1.sub s20
  have ksz:∀ (y:NetM) (v:NX),(netCells y v).length=67:=fun y v=>rfl
  refine AStore.aggN (vs:=[I s.term,I s.vote,I c.commit,I (c.compact c.commit [cb]).snap.term,I (c.compact c.commit [cb]).snap.crew, .slice a7 n7 c7, .slice e20.a e20.n e20.c]) rfl rfl rfl K20.str (Nat.ble_eq_true_of_le (by rw [ksz];show 0+8+m*7+7≤67;omega)) (netCells {x with cores:=x.cores.set n (c.compact c.commit [cb])} {v with ke:=v.ke.set n S2}) (by rw [show 0+8+m*7=8+n.toNat*7 by omega];have:=kept_set {x with cores:=x.cores.set n (c.compact c.commit [cb])} v n1 n5 S2;rw [← this,hS2];rfl) fun h21 t21 q21 a21 e21=>?_;conv=>whnf
  refine ⟨Sub.nil _,?_⟩;conv=>whnf
  have ok21:S2.Ok h21 t20 (N+1,2) (N+1,6):=by
   rw [hS2]
   refine ⟨⟨(ow20.keepT t21 (fun c=>by rw [c] at ht20;simp only at ht20;omega)).sl,fun e he=>?_,fun e he=>kok2.es.small e (afterH_mem he)⟩,?_⟩
   ·exact (Sl.sub (kok2.es.good e (afterH_mem he)) s20).keepT t21 (kd 2)
   ·exact ((ow7.sl.keepT t78 (kl 6)).sub s20).keepT t21 (kd 6)
  have k21:=K20.keSet n1 n5 ht20 ok21 t21 q21
  have eq21:S2.abs=snappedM s.abs (c.compact c.commit [cb]).snap:=by
   rw [hS2]
   show (⟨s.term,s.vote,⟨c.commit,_,_,[cb]⟩,(afterH c.commit (c.compact c.commit [cb]).snap.term s.es).map EH.abs⟩:SavedM)=_
   rw [afterH_abs];rfl
  rw [eq21] at k21
  rw [if_pos ez]
  refine ⟨rfl,⟨_,k21⟩,LOW.trans (s20.low.trans fun b t y ht e=>t21 _ _ _ (fun c=>by rw [c] at ht;simp at ht) e)⟩
end
end Go.Ah
