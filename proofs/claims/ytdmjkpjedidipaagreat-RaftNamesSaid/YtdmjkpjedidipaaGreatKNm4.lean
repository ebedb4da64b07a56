/- Texts that the law leans on, one behind the other. -/
import Derived.Test.YtdmjkpjedidipaaGreatKNm3
namespace Go.Ah
open Go.Proofs
set_option linter.unusedVariables false
set_option linter.unusedSimpArgs false
set_option maxRecDepth 20000
set_option maxHeartbeats 16000000
def AsksE (g:FuncId) (caps:List Value) (es:List EH) (P:EH→Bool) (h:Heap):Prop :=
  ∀ e∈es,∀ h',Sub h h'→ACalls PR g ((e.val::caps).toArray) h' (fun v h''=>v = .bool (P e)∧h'=h'')
theorem IndexFuncE_any {h:Heap} {t td:Tag} {a:Option Addr} {n cp:Nat} {es:List EH} {g:FuncId} {caps:List Value} {P:EH→Bool} (A:AsksE g caps es P h)
  (X:Ents h t td a n cp es) (hn:n≤4611686018427387904) :
  ACalls PR 170 #[.slice a n cp, .func (.func g) #[] caps.toArray] h (fun v h'=>(∃ k:Nat,k≤n∧(∀ j x,j<k→es[j]? = some x→P x=false) ∧
   ((k<n∧v=I k∧∃ x,es[k]? = some x∧P x=true)∨(k=n∧v=I (-1))))∧h=h'):=by
 have hxl:=X.len
 refine Ar (As mix Tryz.func170 rfl rfl Tryz.ntmps170 Tryz.results170 rfl ?_);conv=>whnf
 refine ALoop.mk (fun e h'=>Sub h h'∧∃ e0,∃ k:Nat,e=updL 19 e0 [(0, .slice a n cp),(1, .func (.func g) #[] caps.toArray),(7,I n),(8,I k)]∧k≤n∧(∀ j x,j<k→es[j]? = some x→P x=false)) (fun e=>n-natOf (e 8))
  ⟨Sub.refl _,_,0,Au ⟨rfl,rfl,rfl,rfl,trivial⟩,by omega,fun j x hj=>absurd hj (by omega)⟩ ?_
 rintro e h2 ⟨s2,e0,k,rfl,hk,hp⟩
 conv=>whnf
 by_cases hkn:k<n
 ·refine Ac (by omega) ?_;conv=>whnf
  obtain ⟨y,hy⟩:∃ y,es[k]? = some y:=⟨es[k]'(by omega),by simp⟩
  obtain ⟨b,off,l,E,fz,rfl,hb,hc⟩:=(X.sl.sub s2).pos (by omega)
  have g0:(l.drop (off+k*4)).take 4=y.cells:=by rw [part_of_take hc (by omega),encs_part hy]
  refine Ai (z:=4) (j:=k) rfl hkn rfl rfl ?_;conv=>whnf
  refine Ab rfl hb g0 rfl ?_;conv=>whnf
  have hcall:=A y (List.mem_of_getElem? hy) h2 s2
  cases hP:P y with
  | true =>
   rw [hP] at hcall
   refine ACalls.mono (hcall) ?_;rintro _ h3 ⟨rfl,rfl⟩;conv=>whnf
   exact ⟨⟨k,hk,hp, .inl ⟨hkn,rfl,y,hy,hP⟩⟩,s2⟩
  | false =>
   rw [hP] at hcall
   refine ACalls.mono (hcall) ?_;rintro _ h3 ⟨rfl,rfl⟩;conv=>whnf
   refine Ag (by omega) (by omega) ((by omega:(k:Int)+1=((k+1:Nat):Int))) ?_;conv=>whnf
   refine ⟨⟨s2,_,k+1,Au ⟨rfl,rfl,rfl,rfl,trivial⟩,by omega,fun j x hj hx=>?_⟩,?_⟩
   ·by_cases hjk:j=k
    ·subst hjk;rw [hy] at hx;cases hx;exact hP
    ·exact hp j x (by omega) hx
   ·show n-(k+1)<n-k
    omega
 ·refine Ad (by omega) ?_;conv=>whnf
  obtain rfl:k=n:=by omega
  exact ⟨⟨k,Nat.le_refl _,hp, .inr ⟨rfl,rfl⟩⟩,s2⟩
theorem ContainsE_any {h:Heap} {t td:Tag} {a:Option Addr} {n cp:Nat} {es:List EH} {g:FuncId} {caps:List Value} {P:EH→Bool} (A:AsksE g caps es P h)
  (X:Ents h t td a n cp es) (hn:n≤4611686018427387904) :
  ACalls PR 129 #[.slice a n cp, .func (.func g) #[] caps.toArray] h (fun v h'=>v = .bool (es.any P)∧h=h'):=by
 have hxl:=X.len
 refine Ar (As mix Tryz.func129 rfl rfl Tryz.ntmps129 Tryz.results129 rfl ?_);conv=>whnf
 refine ACalls.mono (IndexFuncE_any A X hn) ?_
 rintro _ _ ⟨⟨k,hk,hp,⟨hkn,rfl,y,hy,hP⟩ | ⟨rfl,rfl⟩⟩,rfl⟩
 ·conv=>whnf
  refine Ac (by omega) ?_;conv=>whnf
  refine ⟨?_,Sub.refl _⟩
  rw [List.any_eq_true.2 ⟨y,List.mem_of_getElem? hy,hP⟩]
 ·conv=>whnf
  refine Ad (by omega) ?_;conv=>whnf
  refine ⟨?_,Sub.refl _⟩
  have:es.any P=false:=by
   rw [List.any_eq_false]
   intro x hx
   obtain ⟨j,hj⟩:=List.getElem?_of_mem hx
   rw [hp j x (by have:=(List.getElem?_eq_some_iff.1 hj).1;omega) hj];simp
  rw [this]
theorem crewsMay_any {h:Heap} {t td:Tag} {a:Option Addr} {n cp:Nat} {es:List EH} (X:Ents h t td a n cp es) (hn:n≤4611686018427387904) (by_:∀ e∈es,∀ x∈e.data,0≤x∧x<256) :
  ACalls PR 132 #[.slice a n cp] h (fun v h'=>v = .bool (crewsMay (es.map EH.abs))∧h=h'):=by
 refine Ar (As mix Tryz.func132 rfl rfl Tryz.ntmps132 Tryz.results132 rfl ?_);conv=>whnf
 have A:AsksE 177 [] es (fun e=>decide (e.kind=2) && !crewOk e.abs) h:=by
  intro e he h' s
  refine Ar (As mix Tryz.func177 rfl rfl Tryz.ntmps177 Tryz.results177 rfl ?_);conv=>whnf
  refine Al (0,1) (e.cells) rfl fun b1 h1 n1 s1 k1=>?_;conv=>whnf
  refine Ab rfl k1 rfl rfl ?_;conv=>whnf
  refine C2 (crewOf_any _ e (Sl.sub (X.good e he) (s.trans s1)) (by_ e he)) ?_;conv=>whnf
  refine Aa rfl k1 rfl ?_;conv=>whnf
  by_cases c1:e.kind=2
  ·refine Ac (c1) ?_;conv=>whnf
   refine ⟨?_,s1⟩
   simp [c1]
  ·refine Ad (c1) ?_;conv=>whnf
   refine ⟨?_,s1⟩
   simp [c1]
 refine C2 (ContainsE_any A X hn) ?_;conv=>whnf
 refine ⟨?_,Sub.refl _⟩
 refine congrArg Value.bool ?_
 unfold crewsMay
 rw [List.all_map,List.not_any_eq_all_not]
 congr 1
 funext e
 simp [EH.abs]
 rfl
theorem part_int (w:World) (xs:List Int) (i:Nat) (h:i<xs.length):(part 3 (xs.map I).toArray (i*1)).run PR w = .ok (I xs[i]) w:=by
 have hu:PR.underlying 3=some (.int .i64):=rfl
 simp [part,isAgg_run hu,h]
theorem eqItems_ints (w:World) (d:Nat) (xs ys:List Int):∀ is:List Nat,(∀ i∈is,i<xs.length∧i<ys.length)→(Op.eqItems (d+1) 3 1 (xs.map I).toArray (ys.map I).toArray is).run PR w = .ok (is.all fun i=>decide (xs[i]? = ys[i]?)) w
 | [],_=>by simp [Op.eqItems]
 | i::is,h=>by
  obtain ⟨h1,h2⟩:=h i (by simp)
  have ih:=eqItems_ints w d xs ys is fun j hj=>h j (by simp [hj])
  simp only [Op.eqItems,Sem.run_bind,part_int w xs i h1,part_int w ys i h2,Result.andThen_ok,run_equalIn_int (P:=PR) w d 3 .i64 .i64 xs[i] ys[i] (by rfl)]
  have e1:xs[i]? = some xs[i]:=by simp
  have e2:ys[i]? = some ys[i]:=by simp
  cases hb:(xs[i] == ys[i]) with
  | true=>simp [ih,e1,e2,eq_of_beq hb]
  | false =>
   have:xs[i]≠ys[i]:=by simpa using hb
   simp [e1,e2,this]
theorem AEqAgg.ints {o:Oper} {e:Env} {h:Heap} {x y:Operand} {T' t:TypeId} {n:Nat} {xs ys:List Int} {K:Value→Prop} (ho:o.op = .binOp .eql t x y T') (hx:e.ev x = .agg (xs.map I).toArray) (hy:e.ev y = .agg (ys.map I).toArray)
  (hu:PR.underlying t=some (.array n 3)) (hg:PR.eqGuardType PR.depth t=false) (h1:xs.length=n) (h2:ys.length=n)
  (k:K (.bool (decide (xs=ys)))):AEqAgg PR o e h K:=by
 refine ⟨⟨_,fun w=>?_,k⟩⟩
 obtain ⟨i,hi,hi2⟩:∃ i,PR.info? 3=some i∧PR.cellsOf 3=1:=⟨_,rfl,rfl⟩
 simp only [execOp,ho,hx,hy,Sem.run_bind,run_eqGuard_agg w .eql t x y _ _ hg,Result.andThen_ok,run_eql_struct]
 rw [run_equalIn_array w 9999 _ _ hu hi,hi2,eqItems_ints w 9998 xs ys _ fun i hi=>by have:=List.mem_range.1 hi;omega]
 have:((List.range n).all fun i=>decide (xs[i]? = ys[i]?))=decide (xs=ys):=by
  rw [Bool.eq_iff_iff,List.all_eq_true,decide_eq_true_iff]
  refine ⟨fun h=>?_,fun h i _=>by rw [h];simp⟩
  apply List.ext_getElem?
  intro i
  by_cases c:i<n
  ·simpa using h i (List.mem_range.2 c)
  ·rw [List.getElem?_eq_none (by omega),List.getElem?_eq_none (by omega)]
 rw [this]
 simp
theorem AEqAgg.ints_is {o:Oper} {e:Env} {h:Heap} {x y:Operand} {T' t:TypeId} {n:Nat} {xs ys:List Int} {K:Value→Prop} (b:Bool) (hb:decide (xs=ys)=b) (ho:o.op = .binOp .eql t x y T') (hx:e.ev x = .agg (xs.map I).toArray) (hy:e.ev y = .agg (ys.map I).toArray)
  (hu:PR.underlying t=some (.array n 3)) (hg:PR.eqGuardType PR.depth t=false) (h1:xs.length=n) (h2:ys.length=n)
  (k:K (.bool b)):AEqAgg PR o e h K:=AEqAgg.ints ho hx hy hu hg h1 h2 (by rw [hb];exact k)
theorem within_any (h:Heap) (a b c:Int):ACalls PR 171 #[I a,I b,I c] h (fun v h'=>v = .bool (decide (b≤a∧a≤c))∧h=h'):=by
 refine Ar (As mix Tryz.func171 rfl rfl Tryz.ntmps171 Tryz.results171 rfl ?_);conv=>whnf
 by_cases c1:b≤a
 ·refine Ac (c1) ?_;conv=>whnf
  by_cases c2:a≤c
  ·refine Ac (c2) ?_;conv=>whnf
   exact ⟨by rw [decide_eq_true ⟨c1,c2⟩],Sub.refl _⟩
  ·refine Ad (c2) ?_;conv=>whnf
   exact ⟨by rw [decide_eq_false fun c=>c2 c.2],Sub.refl _⟩
 ·refine Ad (c1) ?_;conv=>whnf
  exact ⟨by rw [decide_eq_false fun c=>c1 c.1],Sub.refl _⟩
theorem within_yes (h:Heap) {a b c:Int} (p:b≤a∧a≤c):ACalls PR 171 #[I a,I b,I c] h (fun v h'=>v = .bool true∧h=h'):=by
 have:=within_any h a b c;rw [decide_eq_true p] at this;exact this
theorem within_no (h:Heap) {a b c:Int} (p:¬(b≤a∧a≤c)):ACalls PR 171 #[I a,I b,I c] h (fun v h'=>v = .bool false∧h=h'):=by
 have:=within_any h a b c;rw [decide_eq_false p] at this;exact this
theorem pnumber_any (h:Heap) (a:Int):ACalls PR 172 #[I a] h (fun v h'=>v = .bool (numB a)∧h=h'):=by
 refine Ar (As mix Tryz.func172 rfl rfl Tryz.ntmps172 Tryz.results172 rfl ?_);conv=>whnf
 refine C2 (within_any h a 0 9007199254740991) ?_;conv=>whnf
 exact ⟨rfl,Sub.refl _⟩
theorem pnumber_yes (h:Heap) {a:Int} (p:numB a=true):ACalls PR 172 #[I a] h (fun v h'=>v = .bool true∧h=h'):=by
 have:=pnumber_any h a;rw [p] at this;exact this
theorem pnumber_no (h:Heap) {a:Int} (p:numB a=false):ACalls PR 172 #[I a] h (fun v h'=>v = .bool false∧h=h'):=by
 have:=pnumber_any h a;rw [p] at this;exact this
def post1:PH:=⟨0,0,0,0,0,0,0,false,0,slv0,[],0,0,0,slv0,[]⟩
def PH.bare (p:PH):PH :=
  let o:={post1 with kind:=p.kind,src:=p.src,dst:=p.dst,term:=p.term}
  if p.kind=1 then {o with index:=p.index,logTerm:=p.logTerm}
  else if p.kind=2 then {o with ok:=p.ok}
  else if p.kind=3 then {o with index:=p.index,logTerm:=p.logTerm,commit:=p.commit,hint:=p.hint,e:=p.e,es:=p.es}
  else if p.kind=4 then {o with ok:=p.ok,index:=p.index,hint:=p.hint}
  else if p.kind=5 then {o with hint:=p.hint,si:=p.si,st:=p.st,sc:=p.sc,d:=p.d,data:=p.data}
  else if p.kind=6 then {o with index:=p.index,hint:=p.hint}
  else o
theorem bare_any (h:Heap) (x:PH):ACalls PR 174 #[.agg x.cells.toArray] h (fun v h'=>v = .agg x.bare.cells.toArray∧h=h'):=by
 refine Ar (As mix Tryz.func174 rfl rfl Tryz.ntmps174 Tryz.results174 rfl ?_);conv=>whnf
 refine Al (0,1) (x.cells) rfl fun b1 h1 n1 s1 k1=>?_;conv=>whnf
 refine Ak (0,1) (post1.cells) rfl fun b2 h2 n2 s2 k2=>?_;conv=>whnf
 have k12:=s2 _ _ k1
 refine Aa rfl k12 rfl ?_
 refine Aa rfl k12 rfl ?_
 refine Aa rfl k12 rfl ?_
 refine Aa rfl k12 rfl ?_;conv=>whnf
 refine Ak (0,1) (post1.cells) rfl fun b3 h3 n3 s3 k3=>?_;conv=>whnf
 refine Ae rfl rfl rfl (k3) rfl (({post1 with kind:=x.kind,src:=x.src,dst:=x.dst,term:=x.term}:PH).cells) rfl fun h4 t4 k4 a4 e4=>?_;conv=>whnf
 have b13:b1≠b3:=fun c=>by rw [c,n3] at k12;cases k12
 have b23:b2≠b3:=fun c=>by rw [c,n3] at k2;cases k2
 have k14:=e4 _ _ b13 (s3 _ _ k12)
 have k24:=e4 _ _ b23 (s3 _ _ k2)
 have hb2:h b2=none:=by
  cases e:h b2 with
  | none=>rfl
  | some y=>rw [s1 _ _ e] at n2;cases n2
 have hb3:h b3=none:=by
  cases e:h b3 with
  | none=>rfl
  | some y=>rw [s2 _ _ (s1 _ _ e)] at n3;cases n3
 have s4:Sub h h4:=a4 h ((s1.trans s2).trans s3) hb3
 clear s1 s2 s3 k1 k2 k3 k12 n1 n2 n3 t4 a4 e4
 refine Aa rfl k14 rfl ?_;conv=>whnf
 unfold PH.bare
 by_cases c1:x.kind=1
 ·refine Ac (c1) ?_;conv=>whnf
  rw [if_pos c1]
  refine Am (one h4 b1) [] (one_sub _ _) (by decide +kernel) ?_;conv=>whnf
  refine Aa rfl ((one_at _ _).trans k14) rfl ?_
  refine Aa rfl ((one_at _ _).trans k14) rfl ?_;conv=>whnf
  refine Af rfl rfl rfl (k4) rfl (({post1 with kind:=x.kind,src:=x.src,dst:=x.dst,term:=x.term,index:=x.index}:PH).cells) rfl fun h5 t5 k5 a5 e5=>?_;conv=>whnf
  refine ⟨one_get fun y hy=>e5 _ _ b13 hy,?_⟩;conv=>whnf
  refine Af rfl rfl rfl (k5) rfl (({post1 with kind:=x.kind,src:=x.src,dst:=x.dst,term:=x.term,index:=x.index,logTerm:=x.logTerm}:PH).cells) rfl fun h6 t6 k6 a6 e6=>?_;conv=>whnf
  refine ⟨one_get fun y hy=>e6 _ _ b13 (e5 _ _ b13 hy),?_⟩;conv=>whnf
  refine Ab rfl k6 rfl rfl ?_;conv=>whnf
  refine Ae rfl rfl rfl ((e6 _ _ b23 (e5 _ _ b23 k24))) rfl (({post1 with kind:=x.kind,src:=x.src,dst:=x.dst,term:=x.term,index:=x.index,logTerm:=x.logTerm}:PH).cells) rfl fun hz tz kz az ez=>?_;conv=>whnf
  refine Ab rfl kz rfl rfl ?_;conv=>whnf
  exact ⟨rfl,az h (a6 h (a5 h s4 hb3) hb3) hb2⟩
 refine Ad (c1) ?_;conv=>whnf
 rw [if_neg c1]
 by_cases c2:x.kind=2
 ·refine Ac (c2) ?_;conv=>whnf
  rw [if_pos c2]
  refine Aa rfl k14 rfl ?_;conv=>whnf
  refine Af rfl rfl rfl (k4) rfl (({post1 with kind:=x.kind,src:=x.src,dst:=x.dst,term:=x.term,ok:=x.ok}:PH).cells) rfl fun h5 t5 k5 a5 e5=>?_;conv=>whnf
  refine Ab rfl k5 rfl rfl ?_;conv=>whnf
  refine Ae rfl rfl rfl ((e5 _ _ b23 k24)) rfl (({post1 with kind:=x.kind,src:=x.src,dst:=x.dst,term:=x.term,ok:=x.ok}:PH).cells) rfl fun hz tz kz az ez=>?_;conv=>whnf
  refine Ab rfl kz rfl rfl ?_;conv=>whnf
  exact ⟨rfl,az h (a5 h s4 hb3) hb2⟩
 refine Ad (c2) ?_;conv=>whnf
 rw [if_neg c2]
 by_cases c3:x.kind=3
 ·refine Ac (c3) ?_;conv=>whnf
  rw [if_pos c3]
  refine Am (one h4 b1) [] (one_sub _ _) (by decide +kernel) ?_;conv=>whnf
  refine Aa rfl ((one_at _ _).trans k14) rfl ?_
  refine Aa rfl ((one_at _ _).trans k14) rfl ?_
  refine Aa rfl ((one_at _ _).trans k14) rfl ?_
  refine Aa rfl ((one_at _ _).trans k14) rfl ?_
  refine Aa rfl ((one_at _ _).trans k14) rfl ?_;conv=>whnf
  refine Af rfl rfl rfl (k4) rfl (({post1 with kind:=x.kind,src:=x.src,dst:=x.dst,term:=x.term,index:=x.index}:PH).cells) rfl fun h5 t5 k5 a5 e5=>?_;conv=>whnf
  refine ⟨one_get fun y hy=>e5 _ _ b13 hy,?_⟩;conv=>whnf
  refine Af rfl rfl rfl (k5) rfl (({post1 with kind:=x.kind,src:=x.src,dst:=x.dst,term:=x.term,index:=x.index,logTerm:=x.logTerm}:PH).cells) rfl fun h6 t6 k6 a6 e6=>?_;conv=>whnf
  refine ⟨one_get fun y hy=>e6 _ _ b13 (e5 _ _ b13 hy),?_⟩;conv=>whnf
  refine Af rfl rfl rfl (k6) rfl (({post1 with kind:=x.kind,src:=x.src,dst:=x.dst,term:=x.term,index:=x.index,logTerm:=x.logTerm,commit:=x.commit}:PH).cells) rfl fun h7 t7 k7 a7 e7=>?_;conv=>whnf
  refine ⟨one_get fun y hy=>e7 _ _ b13 (e6 _ _ b13 (e5 _ _ b13 hy)),?_⟩;conv=>whnf
  refine Af rfl rfl rfl (k7) rfl (({post1 with kind:=x.kind,src:=x.src,dst:=x.dst,term:=x.term,index:=x.index,logTerm:=x.logTerm,commit:=x.commit,hint:=x.hint}:PH).cells) rfl fun h8 t8 k8 a8 e8=>?_;conv=>whnf
  refine ⟨one_get fun y hy=>e8 _ _ b13 (e7 _ _ b13 (e6 _ _ b13 (e5 _ _ b13 hy))),?_⟩;conv=>whnf
  refine Af rfl rfl rfl (k8) rfl (({post1 with kind:=x.kind,src:=x.src,dst:=x.dst,term:=x.term,index:=x.index,logTerm:=x.logTerm,commit:=x.commit,hint:=x.hint,e:=x.e}:PH).cells) rfl fun h9 t9 k9 a9 e9=>?_;conv=>whnf
  refine ⟨one_get fun y hy=>e9 _ _ b13 (e8 _ _ b13 (e7 _ _ b13 (e6 _ _ b13 (e5 _ _ b13 hy)))),?_⟩;conv=>whnf
  refine Ab rfl k9 rfl rfl ?_;conv=>whnf
  refine Ae rfl rfl rfl ((e9 _ _ b23 (e8 _ _ b23 (e7 _ _ b23 (e6 _ _ b23 (e5 _ _ b23 k24)))))) rfl (({post1 with kind:=x.kind,src:=x.src,dst:=x.dst,term:=x.term,index:=x.index,logTerm:=x.logTerm,commit:=x.commit,hint:=x.hint,e:=x.e}:PH).cells) rfl fun hz tz kz az ez=>?_;conv=>whnf
  refine Ab rfl kz rfl rfl ?_;conv=>whnf
  exact ⟨rfl,az h (a9 h (a8 h (a7 h (a6 h (a5 h s4 hb3) hb3) hb3) hb3) hb3) hb2⟩
 refine Ad (c3) ?_;conv=>whnf
 rw [if_neg c3]
 by_cases c4:x.kind=4
 ·refine Ac (c4) ?_;conv=>whnf
  rw [if_pos c4]
  refine Am (one h4 b1) [] (one_sub _ _) (by decide +kernel) ?_;conv=>whnf
  refine Aa rfl ((one_at _ _).trans k14) rfl ?_
  refine Aa rfl ((one_at _ _).trans k14) rfl ?_
  refine Aa rfl ((one_at _ _).trans k14) rfl ?_;conv=>whnf
  refine Af rfl rfl rfl (k4) rfl (({post1 with kind:=x.kind,src:=x.src,dst:=x.dst,term:=x.term,ok:=x.ok}:PH).cells) rfl fun h5 t5 k5 a5 e5=>?_;conv=>whnf
  refine ⟨one_get fun y hy=>e5 _ _ b13 hy,?_⟩;conv=>whnf
  refine Af rfl rfl rfl (k5) rfl (({post1 with kind:=x.kind,src:=x.src,dst:=x.dst,term:=x.term,ok:=x.ok,index:=x.index}:PH).cells) rfl fun h6 t6 k6 a6 e6=>?_;conv=>whnf
  refine ⟨one_get fun y hy=>e6 _ _ b13 (e5 _ _ b13 hy),?_⟩;conv=>whnf
  refine Af rfl rfl rfl (k6) rfl (({post1 with kind:=x.kind,src:=x.src,dst:=x.dst,term:=x.term,ok:=x.ok,index:=x.index,hint:=x.hint}:PH).cells) rfl fun h7 t7 k7 a7 e7=>?_;conv=>whnf
  refine ⟨one_get fun y hy=>e7 _ _ b13 (e6 _ _ b13 (e5 _ _ b13 hy)),?_⟩;conv=>whnf
  refine Ab rfl k7 rfl rfl ?_;conv=>whnf
  refine Ae rfl rfl rfl ((e7 _ _ b23 (e6 _ _ b23 (e5 _ _ b23 k24)))) rfl (({post1 with kind:=x.kind,src:=x.src,dst:=x.dst,term:=x.term,ok:=x.ok,index:=x.index,hint:=x.hint}:PH).cells) rfl fun hz tz kz az ez=>?_;conv=>whnf
  refine Ab rfl kz rfl rfl ?_;conv=>whnf
  exact ⟨rfl,az h (a7 h (a6 h (a5 h s4 hb3) hb3) hb3) hb2⟩
 refine Ad (c4) ?_;conv=>whnf
 rw [if_neg c4]
 by_cases c5:x.kind=5
 ·refine Ac (c5) ?_;conv=>whnf
  rw [if_pos c5]
  refine Am (one h4 b1) [] (one_sub _ _) (by decide +kernel) ?_;conv=>whnf
  refine Aa rfl ((one_at _ _).trans k14) rfl ?_
  refine Ab rfl ((one_at _ _).trans k14) rfl rfl ?_;conv=>whnf
  refine Af rfl rfl rfl (k4) rfl (({post1 with kind:=x.kind,src:=x.src,dst:=x.dst,term:=x.term,hint:=x.hint}:PH).cells) rfl fun h5 t5 k5 a5 e5=>?_;conv=>whnf
  refine ⟨one_get fun y hy=>e5 _ _ b13 hy,?_⟩;conv=>whnf
  refine Ae rfl rfl rfl (k5) rfl (({post1 with kind:=x.kind,src:=x.src,dst:=x.dst,term:=x.term,hint:=x.hint,si:=x.si,st:=x.st,sc:=x.sc,d:=x.d}:PH).cells) rfl fun h6 t6 k6 a6 e6=>?_;conv=>whnf
  refine ⟨one_get fun y hy=>e6 _ _ b13 (e5 _ _ b13 hy),?_⟩;conv=>whnf
  refine Ab rfl k6 rfl rfl ?_;conv=>whnf
  refine Ae rfl rfl rfl ((e6 _ _ b23 (e5 _ _ b23 k24))) rfl (({post1 with kind:=x.kind,src:=x.src,dst:=x.dst,term:=x.term,hint:=x.hint,si:=x.si,st:=x.st,sc:=x.sc,d:=x.d}:PH).cells) rfl fun hz tz kz az ez=>?_;conv=>whnf
  refine Ab rfl kz rfl rfl ?_;conv=>whnf
  exact ⟨rfl,az h (a6 h (a5 h s4 hb3) hb3) hb2⟩
 refine Ad (c5) ?_;conv=>whnf
 rw [if_neg c5]
 by_cases c6:x.kind=6
 ·refine Ac (c6) ?_;conv=>whnf
  rw [if_pos c6]
  refine Am (one h4 b1) [] (one_sub _ _) (by decide +kernel) ?_;conv=>whnf
  refine Aa rfl ((one_at _ _).trans k14) rfl ?_
  refine Aa rfl ((one_at _ _).trans k14) rfl ?_;conv=>whnf
  refine Af rfl rfl rfl (k4) rfl (({post1 with kind:=x.kind,src:=x.src,dst:=x.dst,term:=x.term,index:=x.index}:PH).cells) rfl fun h5 t5 k5 a5 e5=>?_;conv=>whnf
  refine ⟨one_get fun y hy=>e5 _ _ b13 hy,?_⟩;conv=>whnf
  refine Af rfl rfl rfl (k5) rfl (({post1 with kind:=x.kind,src:=x.src,dst:=x.dst,term:=x.term,index:=x.index,hint:=x.hint}:PH).cells) rfl fun h6 t6 k6 a6 e6=>?_;conv=>whnf
  refine ⟨one_get fun y hy=>e6 _ _ b13 (e5 _ _ b13 hy),?_⟩;conv=>whnf
  refine Ab rfl k6 rfl rfl ?_;conv=>whnf
  refine Ae rfl rfl rfl ((e6 _ _ b23 (e5 _ _ b23 k24))) rfl (({post1 with kind:=x.kind,src:=x.src,dst:=x.dst,term:=x.term,index:=x.index,hint:=x.hint}:PH).cells) rfl fun hz tz kz az ez=>?_;conv=>whnf
  refine Ab rfl kz rfl rfl ?_;conv=>whnf
  exact ⟨rfl,az h (a6 h (a5 h s4 hb3) hb3) hb2⟩
 refine Ad (c6) ?_;conv=>whnf
 rw [if_neg c6]
 refine Ab rfl k4 rfl rfl ?_;conv=>whnf
 refine Ae rfl rfl rfl (k24) rfl (({post1 with kind:=x.kind,src:=x.src,dst:=x.dst,term:=x.term}:PH).cells) rfl fun hz tz kz az ez=>?_;conv=>whnf
 refine Ab rfl kz rfl rfl ?_;conv=>whnf
 exact ⟨rfl,az h s4 hb2⟩
def PH.nums (x:PH):List Int:=[x.kind,x.src,x.dst,x.term,x.index,x.logTerm,x.commit,x.hint,x.si,x.st,x.sc]
def PH.alike (x y:PH):Bool:=decide (x.nums=y.nums)&&decide (x.ok=y.ok)&&decide (x.e.n=y.e.n)&&decide (x.d.n=y.d.n)
theorem alike1_any (h:Heap) (x:PH):ACalls PR 194 #[.agg x.cells.toArray] h (fun v h'=>v = .agg (x.nums.map I).toArray∧h=h'):=by
 refine Ar (As mix Tryz.func194 rfl rfl Tryz.ntmps194 Tryz.results194 rfl ?_);conv=>whnf
 refine Al (0,1) (x.cells) rfl fun b1 h1 n1 s1 k1=>?_;conv=>whnf
 refine Ak (0,1) ([I 0,I 0,I 0,I 0,I 0,I 0,I 0,I 0,I 0,I 0,I 0]) rfl fun b2 h2 n2 s2 k2=>?_;conv=>whnf
 have k12:=s2 _ _ k1
 refine Aa rfl k12 rfl ?_
 refine Aa rfl k12 rfl ?_
 refine Aa rfl k12 rfl ?_
 refine Aa rfl k12 rfl ?_
 refine Aa rfl k12 rfl ?_
 refine Aa rfl k12 rfl ?_
 refine Aa rfl k12 rfl ?_
 refine Aa rfl k12 rfl ?_
 refine Aa rfl k12 rfl ?_
 refine Aa rfl k12 rfl ?_
 refine Aa rfl k12 rfl ?_;conv=>whnf
 have hb2:h b2=none:=by
  cases e:h b2 with
  | none=>rfl
  | some y=>rw [s1 _ _ e] at n2;cases n2
 refine Ae rfl rfl rfl (k2) rfl ([I x.kind,I x.src,I x.dst,I x.term,I x.index,I x.logTerm,I x.commit,I x.hint,I x.si,I x.st,I x.sc]) rfl fun h3 t3 k3 a3 e3=>?_;conv=>whnf
 refine Ab rfl k3 rfl rfl ?_;conv=>whnf
 exact ⟨rfl,a3 h (s1.trans s2) hb2⟩
theorem palike_any (h:Heap) (x y:PH):ACalls PR 173 #[.agg x.cells.toArray, .agg y.cells.toArray] h (fun v h'=>v = .bool (x.alike y)∧h=h'):=by
 refine Ar (As mix Tryz.func173 rfl rfl Tryz.ntmps173 Tryz.results173 rfl ?_);conv=>whnf
 refine Al (0,1) (x.cells) rfl fun b1 h1 n1 s1 k1=>?_;conv=>whnf
 refine Al (0,1) (y.cells) rfl fun b2 h2 n2 s2 k2=>?_;conv=>whnf
 have k12:=s2 _ _ k1
 have hs:Sub h h2:=s1.trans s2
 refine An (h2) [] ([0,1,3,4,2]++(List.range 30).map (5 + ·)) (Sub.refl _) (by decide +kernel) ?_;conv=>whnf
 refine Ab rfl k12 rfl rfl ?_
 refine Ab rfl k2 rfl rfl ?_;conv=>whnf
 refine C2 (alike1_any h2 x) ?_;conv=>whnf
 refine ⟨Sub.refl _,?_⟩;conv=>whnf
 refine C2 (alike1_any h2 y) ?_;conv=>whnf
 refine ⟨Sub.refl _,?_⟩;conv=>whnf
 unfold PH.alike
 by_cases c1:x.nums=y.nums
 ·rw [decide_eq_true c1,Bool.true_and]
  refine AEqAgg.ints_is true (decide_eq_true c1) (n:=11) (xs:=x.nums) (ys:=y.nums) rfl rfl rfl rfl (by decide +kernel) rfl rfl ?_;conv=>whnf
  refine Aa rfl k12 rfl ?_
  refine Aa rfl k2 rfl ?_;conv=>whnf
  cases hx:x.ok with
  | true =>
   cases hy:y.ok with
   | true =>
    conv=>whnf
    simp only [decide_true,Bool.true_and]
    refine Aa rfl k12 rfl ?_
    refine Aa rfl k2 rfl ?_;conv=>whnf
    by_cases c3:x.e.n=y.e.n
    ·refine Ac (by omega) ?_;conv=>whnf
     refine Aa rfl k12 rfl ?_
     refine Aa rfl k2 rfl ?_;conv=>whnf
     rw [decide_eq_true c3,Bool.true_and]
     by_cases c4:x.d.n=y.d.n
     ·refine Ac (by omega) ?_;conv=>whnf
      exact ⟨by rw [decide_eq_true c4],hs⟩
     ·refine Ad (by omega) ?_;conv=>whnf
      exact ⟨by rw [decide_eq_false c4],hs⟩
    ·refine Ad (by omega) ?_;conv=>whnf
     exact ⟨by rw [decide_eq_false c3];rfl,hs⟩
   | false =>
    conv=>whnf
    exact ⟨rfl,hs⟩
  | false =>
   cases hy:y.ok with
   | true =>
    conv=>whnf
    exact ⟨rfl,hs⟩
   | false =>
    conv=>whnf
    simp only [decide_true,Bool.true_and]
    refine Aa rfl k12 rfl ?_
    refine Aa rfl k2 rfl ?_;conv=>whnf
    by_cases c3:x.e.n=y.e.n
    ·refine Ac (by omega) ?_;conv=>whnf
     refine Aa rfl k12 rfl ?_
     refine Aa rfl k2 rfl ?_;conv=>whnf
     rw [decide_eq_true c3,Bool.true_and]
     by_cases c4:x.d.n=y.d.n
     ·refine Ac (by omega) ?_;conv=>whnf
      exact ⟨by rw [decide_eq_true c4],hs⟩
     ·refine Ad (by omega) ?_;conv=>whnf
      exact ⟨by rw [decide_eq_false c4],hs⟩
    ·refine Ad (by omega) ?_;conv=>whnf
     exact ⟨by rw [decide_eq_false c3];rfl,hs⟩
 ·rw [decide_eq_false c1]
  refine AEqAgg.ints_is false (decide_eq_false c1) (n:=11) (xs:=x.nums) (ys:=y.nums) rfl rfl rfl rfl (by decide +kernel) rfl rfl ?_;conv=>whnf
  exact ⟨rfl,hs⟩
theorem entriesMay_any {h:Heap} {t1 t2 t3:Tag} {x:PH} (k:x.Ok h t1 t2 t3) (hi:numB x.index=true) (hn:x.e.n≤4611686018427387904) :
  ACalls PR 175 #[.agg x.cells.toArray] h (fun v h'=>v = .bool (entriesMay x.term x.index x.logTerm (x.es.map EH.abs)&&decide (x.es.length≤8))∧h=h'):=by
 have hl:=k.es.len
 have hi':0≤x.index∧x.index≤9007199254740991:=by simpa [numB] using hi
 obtain ⟨R,hR⟩:∃ R,R=entriesMay x.term x.index x.logTerm (x.es.map EH.abs):=⟨_,rfl⟩
 rw [← hR]
 refine Ar (As mix Tryz.func175 rfl rfl Tryz.ntmps175 Tryz.results175 rfl ?_);conv=>whnf
 refine Al (0,1) (x.cells) rfl fun b1 h1 n1 s1 k1=>?_;conv=>whnf
 refine Aa rfl k1 rfl ?_
 refine Aa rfl k1 rfl ?_;conv=>whnf
 refine ALoop.mk (fun e h'=>Sub h1 h'∧∃ e0,∃ j:Nat,∃ tm:Int,e=updL 58 e0 [(1,Ptr b1),(3,I tm),(9, .slice x.e.a x.e.n x.e.c),(10,I x.e.n),(11,I j)]∧j≤x.e.n ∧
   entriesMay x.term (x.index+j) tm ((x.es.drop j).map EH.abs)=R) (fun e=>x.e.n-natOf (e 11))
  ⟨Sub.refl _,_,0,x.logTerm,Au ⟨rfl,rfl,rfl,rfl,rfl,trivial⟩,by omega,by rw [hR];simp⟩ ?_
 rintro e h2 ⟨s2,e0,j,tm,rfl,hj,hm⟩
 conv=>whnf
 by_cases hjn:j<x.e.n
 ·refine Ac (by omega) ?_;conv=>whnf
  obtain ⟨y,hy⟩:∃ y,x.es[j]? = some y:=⟨x.es[j]'(by omega),by simp⟩
  have my:=List.mem_of_getElem? hy
  have gy:=(k.es.good y my).len
  have gy:y.data.length=y.n:=by simpa [bytesV] using gy
  have hm2:entriesMay x.term (x.index+j) tm (y.abs::(x.es.drop (j+1)).map EH.abs)=R:=by
   rw [← hm,List.drop_eq_getElem_cons (show j<x.es.length by omega),(List.getElem?_eq_some_iff.1 hy).2];rfl
  unfold entriesMay at hm2
  obtain ⟨b,off,l,E,fz,ea,hb,hc⟩:=((k.es.sl.sub s1).sub s2).pos (by omega)
  have g0:(l.drop (off+j*4)).take 4=y.cells:=by rw [part_of_take hc (by omega),encs_part hy]
  have ea':=ea
  rw [ea]
  refine Ai (z:=4) (j:=j) rfl hjn rfl rfl ?_;conv=>whnf
  refine Ab rfl hb g0 rfl ?_;conv=>whnf
  refine Ak (0,1) (entry0z) rfl fun b5 h3 n3 s3 k3=>?_;conv=>whnf
  refine Ae rfl rfl rfl (k3) rfl (y.cells) rfl fun h4 t4 k4 a4 e4=>?_;conv=>whnf
  have s4:Sub h1 h4:=a4 h1 (s2.trans s3) (by
   cases e:h1 b5 with
   | none=>rfl
   | some y=>rw [s2 _ _ e] at n3;cases n3)
  have k14:=s4 _ _ k1
  refine Aa rfl k4 rfl ?_
  refine Aa rfl k14 rfl ?_;conv=>whnf
  refine Ag (by omega) (by omega) (rfl) ?_;conv=>whnf
  refine Ag (by omega) (by omega) (rfl) ?_;conv=>whnf
  by_cases c1:y.index=x.index+1+j
  ·refine Ad (by simpa using c1) ?_;conv=>whnf
   refine Aa rfl k4 rfl ?_;conv=>whnf
   have e1:decide (y.abs.2.1=x.index+j+1)=true:=decide_eq_true (by show y.index=_;omega)
   rw [e1,Bool.true_and] at hm2
   cases c2:numB y.index with
   | false =>
    refine C2 (pnumber_no h4 c2) ?_;conv=>whnf
    rw [show numB y.abs.2.1=false from c2] at hm2
    exact ⟨by rw [← hm2];rfl,s1.trans s4⟩
   | true =>
   refine C2 (pnumber_yes h4 c2) ?_;conv=>whnf
   rw [show numB y.abs.2.1=true from c2,Bool.true_and] at hm2
   refine Aa rfl k4 rfl ?_
   refine Aa rfl k14 rfl ?_;conv=>whnf
   by_cases c3:tm≤y.term∧y.term≤x.term
   ·refine C2 (within_yes h4 c3) ?_;conv=>whnf
    rw [decide_eq_true (show tm≤y.abs.1∧y.abs.1≤x.term from c3),Bool.true_and] at hm2
    refine Aa rfl k4 rfl ?_;conv=>whnf
    by_cases c4:0≤y.kind∧y.kind≤2
    ·refine C2 (within_yes h4 c4) ?_;conv=>whnf
     rw [decide_eq_true (show 0≤y.abs.2.2.1∧y.abs.2.2.1≤2 from c4),Bool.true_and] at hm2
     refine Aa rfl k4 rfl ?_;conv=>whnf
     by_cases c5:y.n≤1200
     ·refine Ad (by omega) ?_;conv=>whnf
      rw [decide_eq_true (show y.abs.2.2.2.length≤1200 by show y.data.length≤1200;omega),Bool.true_and] at hm2
      refine Aa rfl k4 rfl ?_;conv=>whnf
      refine Ag (by omega) (by omega) ((by omega:(j:Int)+1=((j+1:Nat):Int))) ?_;conv=>whnf
      refine ⟨⟨s4,_,j+1,y.term,Au ⟨rfl,rfl,rfl,rfl,rfl,trivial⟩,by omega,?_⟩,?_⟩
      ·rw [← hm2]
       rw [show x.index+((j+1:Nat):Int)=x.index+j+1 by omega];rfl
      ·show x.e.n-(j+1)<x.e.n-j
       omega
     ·refine Ac (by omega) ?_;conv=>whnf
      rw [decide_eq_false (show ¬ y.abs.2.2.2.length≤1200 by show ¬ y.data.length≤1200;omega),Bool.false_and] at hm2
      exact ⟨by rw [← hm2];rfl,s1.trans s4⟩
    ·refine C2 (within_no h4 c4) ?_;conv=>whnf
     rw [decide_eq_false (show ¬ (0≤y.abs.2.2.1∧y.abs.2.2.1≤2) from c4),Bool.false_and] at hm2
     exact ⟨by rw [← hm2];rfl,s1.trans s4⟩
   ·refine C2 (within_no h4 c3) ?_;conv=>whnf
    rw [decide_eq_false (show ¬ (tm≤y.abs.1∧y.abs.1≤x.term) from c3),Bool.false_and] at hm2
    exact ⟨by rw [← hm2];rfl,s1.trans s4⟩
  ·refine Ac (by simpa using c1) ?_;conv=>whnf
   rw [decide_eq_false (show ¬ (y.abs.2.1=x.index+j+1) by show ¬ (y.index=_);omega)] at hm2
   exact ⟨by rw [← hm2];simp,s1.trans s4⟩
 ·refine Ad (by omega) ?_;conv=>whnf
  obtain rfl:j=x.e.n:=by omega
  refine Aa rfl (s2 _ _ k1) rfl ?_;conv=>whnf
  rw [List.drop_of_length_le (by omega)] at hm
  rw [← hm]
  refine ACmp.dec ?_
  conv=>whnf
  refine ⟨?_,s1.trans s2⟩
  simp [entriesMay,hl]
  omega
theorem and_one (c:Int) (h0 : -9223372036854775808≤c) (h1:c≤9223372036854775807):IntKind.i64.wrap ((BitVec.ofInt 64 c &&& BitVec.ofInt 64 1).toNat:Int)=c % 2:=by
 have e:(BitVec.ofInt 64 c &&& BitVec.ofInt 64 1).toNat=(c % 2).toNat:=by
  rw [BitVec.toNat_and]
  rw [show (BitVec.ofInt 64 1).toNat=2^1-1 by decide,Nat.and_two_pow_sub_one_eq_mod,BitVec.toNat_ofInt]
  omega
 rw [e,i64_wrap (by omega) (by omega)];omega
theorem snapMay_eq (x:PH):x.abs.snapMay=(decide (1≤x.si∧x.si≤9007199254740991)&&decide (0≤x.st∧x.st≤x.term)&&decide (x.sc % 2=0∧1≤x.sc∧x.sc≤63)&&decide (x.data.length≤8192)):=rfl
theorem psnapMay_any {h:Heap} {t1 t2 t3:Tag} {x:PH} (k:x.Ok h t1 t2 t3) (hc0 : -9223372036854775808≤x.sc) (hc1:x.sc≤9223372036854775807) :
  ACalls PR 176 #[.agg x.cells.toArray] h (fun v h'=>v = .bool (decide (x.kind≠5) || x.abs.snapMay)∧h=h'):=by
 have hdl:x.d.n=x.data.length:=by have:=k.sd.len;simpa [bytesV] using this.symm
 refine Ar (As mix Tryz.func176 rfl rfl Tryz.ntmps176 Tryz.results176 rfl ?_);conv=>whnf
 refine Al (0,1) (x.cells) rfl fun b1 h1 n1 s1 k1=>?_;conv=>whnf
 refine Ab rfl k1 rfl rfl ?_;conv=>whnf
 refine Ak (0,1) ([I 0,I 0,I 0, .slice none 0 0]) rfl fun b3 h2 n2 s2 k2=>?_;conv=>whnf
 refine Ae rfl rfl rfl (k2) rfl ([I x.si,I x.st,I x.sc, .slice x.d.a x.d.n x.d.c]) rfl fun h3 t3 k3 a3 e3=>?_;conv=>whnf
 have b13:b1≠b3:=fun c=>by rw [c,n2] at k1;cases k1
 have k13:=e3 _ _ b13 (s2 _ _ k1)
 have hb3:h b3=none:=by
  cases e:h b3 with
  | none=>rfl
  | some y=>rw [s1 _ _ e] at n2;cases n2
 have s3:Sub h h3:=a3 h (s1.trans s2) hb3
 refine Aa rfl k13 rfl ?_;conv=>whnf
 by_cases c0:x.kind≠5
 ·refine Ac (c0) ?_;conv=>whnf
  exact ⟨by rw [decide_eq_true c0];rfl,s3⟩
 refine Ad (c0) ?_;conv=>whnf
 rw [decide_eq_false c0,Bool.false_or]
 have hR:=snapMay_eq x
 generalize x.abs.snapMay=R at hR ⊢
 refine Aa rfl k3 rfl ?_;conv=>whnf
 refine Aq (and_one x.sc hc0 hc1) ?_;conv=>whnf
 by_cases c1:x.sc % 2=0
 ·refine Ac (c1) ?_;conv=>whnf
  refine Aa rfl k3 rfl ?_;conv=>whnf
  by_cases c2:1≤x.sc∧x.sc≤63
  ·refine C2 (within_yes h3 c2) ?_;conv=>whnf
   refine Aa rfl k3 rfl ?_;conv=>whnf
   by_cases c3:1≤x.si∧x.si≤9007199254740991
   ·refine C2 (within_yes h3 c3) ?_;conv=>whnf
    refine Aa rfl k3 rfl ?_
    refine Aa rfl k13 rfl ?_;conv=>whnf
    by_cases c4:0≤x.st∧x.st≤x.term
    ·refine C2 (within_yes h3 c4) ?_;conv=>whnf
     refine Aa rfl k3 rfl ?_;conv=>whnf
     by_cases c5:(x.d.n:Int)≤8192
     ·refine Ac (c5) ?_;conv=>whnf
      exact ⟨by rw [hR,decide_eq_true c3,decide_eq_true c4,decide_eq_true ⟨c1,c2⟩,decide_eq_true (show x.data.length≤8192 by omega)];rfl,s3⟩
     ·refine Ad (c5) ?_;conv=>whnf
      exact ⟨by rw [hR,decide_eq_false (show ¬ x.data.length≤8192 by omega),Bool.and_false],s3⟩
    ·refine C2 (within_no h3 c4) ?_;conv=>whnf
     exact ⟨by rw [hR,decide_eq_false c4,Bool.and_false,Bool.false_and,Bool.false_and],s3⟩
   ·refine C2 (within_no h3 c3) ?_;conv=>whnf
    exact ⟨by rw [hR,decide_eq_false c3];rfl,s3⟩
  ·refine C2 (within_no h3 c2) ?_;conv=>whnf
   have CC:¬ (x.sc % 2=0∧1≤x.sc∧x.sc≤63):=fun c=>c2 c.2
   refine Aa rfl k3 rfl ?_;conv=>whnf
   by_cases c3:1≤x.si∧x.si≤9007199254740991
   ·refine C2 (within_yes h3 c3) ?_;conv=>whnf
    refine Aa rfl k3 rfl ?_
    refine Aa rfl k13 rfl ?_;conv=>whnf
    by_cases c4:0≤x.st∧x.st≤x.term
    ·refine C2 (within_yes h3 c4) ?_;conv=>whnf
     exact ⟨by rw [hR,decide_eq_false CC,Bool.and_false,Bool.false_and],s3⟩
    ·refine C2 (within_no h3 c4) ?_;conv=>whnf
     exact ⟨by rw [hR,decide_eq_false CC,Bool.and_false,Bool.false_and],s3⟩
   ·refine C2 (within_no h3 c3) ?_;conv=>whnf
    exact ⟨by rw [hR,decide_eq_false CC,Bool.and_false,Bool.false_and],s3⟩
 ·refine Ad (c1) ?_;conv=>whnf
  have CC:¬ (x.sc % 2=0∧1≤x.sc∧x.sc≤63):=fun c=>c1 c.1
  refine Aa rfl k3 rfl ?_;conv=>whnf
  by_cases c3:1≤x.si∧x.si≤9007199254740991
  ·refine C2 (within_yes h3 c3) ?_;conv=>whnf
   refine Aa rfl k3 rfl ?_
   refine Aa rfl k13 rfl ?_;conv=>whnf
   by_cases c4:0≤x.st∧x.st≤x.term
   ·refine C2 (within_yes h3 c4) ?_;conv=>whnf
    exact ⟨by rw [hR,decide_eq_false CC,Bool.and_false,Bool.false_and],s3⟩
   ·refine C2 (within_no h3 c4) ?_;conv=>whnf
    exact ⟨by rw [hR,decide_eq_false CC,Bool.and_false,Bool.false_and],s3⟩
  ·refine C2 (within_no h3 c3) ?_;conv=>whnf
   exact ⟨by rw [hR,decide_eq_false CC,Bool.and_false,Bool.false_and],s3⟩
theorem PH.Ok.len {h:Heap} {t1 t2 t3:Tag} {x:PH} (k:x.Ok h t1 t2 t3):x.es.length=x.e.n∧x.data.length=x.d.n:=by
 refine ⟨k.es.len,?_⟩
 have:=k.sd.len
 simpa [bytesV] using this
theorem alike_bare {x:PH} (hl:x.es.length=x.e.n) (hd:x.data.length=x.d.n):x.alike x.bare=x.abs.same x.abs.bare:=by
 have e0:x.e.n=0↔x.es=[]:=by rw [← hl,List.length_eq_zero_iff]
 have d0:x.d.n=0↔x.data=[]:=by rw [← hd,List.length_eq_zero_iff]
 unfold PH.bare PostM.bare
 simp only [PH.abs]
 by_cases c1:x.kind=1
 ·rw [Bool.eq_iff_iff]
  simp only [c1,PH.alike,PH.nums,PostM.same,SnapM.same,post0,post1,snap0,slv0,Bool.and_eq_true,decide_eq_true_iff,List.cons.injEq,Int.reduceEq,if_true,if_false,e0,d0,List.map_eq_nil_iff,true_and,and_true]
  grind
 by_cases c2:x.kind=2
 ·rw [Bool.eq_iff_iff]
  simp only [c2,PH.alike,PH.nums,PostM.same,SnapM.same,post0,post1,snap0,slv0,Bool.and_eq_true,decide_eq_true_iff,List.cons.injEq,Int.reduceEq,if_true,if_false,e0,d0,List.map_eq_nil_iff,true_and,and_true]
  grind
 by_cases c3:x.kind=3
 ·rw [Bool.eq_iff_iff]
  simp only [c3,PH.alike,PH.nums,PostM.same,SnapM.same,post0,post1,snap0,slv0,Bool.and_eq_true,decide_eq_true_iff,List.cons.injEq,Int.reduceEq,if_true,if_false,e0,d0,List.map_eq_nil_iff,true_and,and_true]
  grind
 by_cases c4:x.kind=4
 ·rw [Bool.eq_iff_iff]
  simp only [c4,PH.alike,PH.nums,PostM.same,SnapM.same,post0,post1,snap0,slv0,Bool.and_eq_true,decide_eq_true_iff,List.cons.injEq,Int.reduceEq,if_true,if_false,e0,d0,List.map_eq_nil_iff,true_and,and_true]
  grind
 by_cases c5:x.kind=5
 ·rw [Bool.eq_iff_iff]
  simp only [c5,PH.alike,PH.nums,PostM.same,SnapM.same,post0,post1,snap0,slv0,Bool.and_eq_true,decide_eq_true_iff,List.cons.injEq,Int.reduceEq,if_true,if_false,e0,d0,List.map_eq_nil_iff,true_and,and_true]
  grind
 by_cases c6:x.kind=6
 ·rw [Bool.eq_iff_iff]
  simp only [c6,PH.alike,PH.nums,PostM.same,SnapM.same,post0,post1,snap0,slv0,Bool.and_eq_true,decide_eq_true_iff,List.cons.injEq,Int.reduceEq,if_true,if_false,e0,d0,List.map_eq_nil_iff,true_and,and_true]
  grind
 rw [Bool.eq_iff_iff]
 simp only [c1,c2,c3,c4,c5,c6,PH.alike,PH.nums,PostM.same,SnapM.same,post0,post1,snap0,slv0,Bool.and_eq_true,decide_eq_true_iff,List.cons.injEq,if_false,e0,d0,List.map_eq_nil_iff,true_and,and_true]
 grind
theorem check_eq (x:PH):x.abs.check=(decide (1≤x.kind∧x.kind≤6)&&decide (1≤x.src∧x.src≤5∧1≤x.dst∧x.dst≤5∧x.src≠x.dst) &&
 (numB x.term&&numB x.index&&numB x.commit&&numB x.hint&&decide (0≤x.logTerm∧x.logTerm≤x.term)) &&
 x.abs.same x.abs.bare&&(decide ((x.es.map EH.abs).length≤8)&&entriesMay x.term x.index x.logTerm (x.es.map EH.abs))&&(decide (x.kind≠5) || x.abs.snapMay)):=rfl
theorem PCheck_any {h:Heap} {t1 t2 t3:Tag} {x:PH} (k:x.Ok h t1 t2 t3) (hc0 : -9223372036854775808≤x.sc) (hc1:x.sc≤9223372036854775807) (hn:x.e.n≤4611686018427387904) :
  ACalls PR 131 #[.agg x.cells.toArray] h (fun v h'=>v=I (if x.abs.check=true then 0 else 2)∧h=h'):=by
 obtain ⟨hl,hd⟩:=k.len
 have hR:=check_eq x
 generalize x.abs.check=R at hR ⊢
 obtain ⟨A,hA⟩:∃ A,A=decide (1≤x.kind∧x.kind≤6):=⟨_,rfl⟩
 obtain ⟨B,hB⟩:∃ A,A=decide (1≤x.src∧x.src≤5∧1≤x.dst∧x.dst≤5∧x.src≠x.dst):=⟨_,rfl⟩
 obtain ⟨C,hC⟩:∃ A,A=(numB x.term&&numB x.index&&numB x.commit&&numB x.hint&&decide (0≤x.logTerm∧x.logTerm≤x.term)):=⟨_,rfl⟩
 obtain ⟨D,hD⟩:∃ A,A=x.abs.same x.abs.bare:=⟨_,rfl⟩
 obtain ⟨E,hE⟩:∃ A,A=(decide ((x.es.map EH.abs).length≤8)&&entriesMay x.term x.index x.logTerm (x.es.map EH.abs)):=⟨_,rfl⟩
 obtain ⟨F,hF⟩:∃ A,A=(decide (x.kind≠5) || x.abs.snapMay):=⟨_,rfl⟩
 rw [← hA,← hB,← hC,← hD,← hE,← hF] at hR
 have al:=alike_bare hl hd
 rw [← hD] at al
 have en:(entriesMay x.term x.index x.logTerm (x.es.map EH.abs)&&decide (x.es.length≤8))=E:=by rw [hE,List.length_map,Bool.and_comm]
 refine Ar (As mix Tryz.func131 rfl rfl Tryz.ntmps131 Tryz.results131 rfl ?_);conv=>whnf
 refine Al (0,1) (x.cells) rfl fun b1 h1 n1 s1 k1=>?_;conv=>whnf
 have q1:x.Ok h1 t1 t2 t3:=⟨k.es.sub s1,k.sd.sub s1⟩
 refine Aa rfl k1 rfl ?_;conv=>whnf
 by_cases s1':1≤x.src∧x.src≤5
 ·refine C2 (within_yes h1 s1') ?_;conv=>whnf
  refine Aa rfl k1 rfl ?_;conv=>whnf
  by_cases s2:1≤x.dst∧x.dst≤5
  ·refine C2 (within_yes h1 s2) ?_;conv=>whnf
   refine Aa rfl k1 rfl ?_
   refine Aa rfl k1 rfl ?_;conv=>whnf
   by_cases s3:x.src≠x.dst
   ·refine Ac (s3) ?_;conv=>whnf
    have hB1:B=true:=by rw [hB];exact decide_eq_true ⟨s1'.1,s1'.2,s2.1,s2.2,s3⟩
    refine Aa rfl k1 rfl ?_;conv=>whnf
    cases n1:numB x.term with
    | false =>
     refine C2 (pnumber_no h1 n1) ?_;conv=>whnf
     have HC:C=false:=by rw [hC,n1];simp
     refine Am (h1) [] (Sub.refl _) (by decide +kernel) ?_;conv=>whnf
     refine Aa rfl k1 rfl ?_;conv=>whnf
     by_cases a1:1≤x.kind∧x.kind≤6
     ·refine C2 (within_yes h1 a1) ?_;conv=>whnf
      refine ⟨Sub.refl _,?_⟩;conv=>whnf
      exact ⟨by rw [hR,HC];simp,s1⟩
     ·refine C2 (within_no h1 a1) ?_;conv=>whnf
      refine ⟨Sub.refl _,?_⟩;conv=>whnf
      exact ⟨by rw [hR,HC];simp,s1⟩
    | true =>
    refine C2 (pnumber_yes h1 n1) ?_;conv=>whnf
    refine Aa rfl k1 rfl ?_;conv=>whnf
    cases n2:numB x.index with
    | false =>
     refine C2 (pnumber_no h1 n2) ?_;conv=>whnf
     have HC:C=false:=by rw [hC,n2];simp
     refine Am (h1) [] (Sub.refl _) (by decide +kernel) ?_;conv=>whnf
     refine Aa rfl k1 rfl ?_;conv=>whnf
     by_cases a1:1≤x.kind∧x.kind≤6
     ·refine C2 (within_yes h1 a1) ?_;conv=>whnf
      refine ⟨Sub.refl _,?_⟩;conv=>whnf
      exact ⟨by rw [hR,HC];simp,s1⟩
     ·refine C2 (within_no h1 a1) ?_;conv=>whnf
      refine ⟨Sub.refl _,?_⟩;conv=>whnf
      exact ⟨by rw [hR,HC];simp,s1⟩
    | true =>
    refine C2 (pnumber_yes h1 n2) ?_;conv=>whnf
    refine Aa rfl k1 rfl ?_;conv=>whnf
    cases n3:numB x.commit with
    | false =>
     refine C2 (pnumber_no h1 n3) ?_;conv=>whnf
     have HC:C=false:=by rw [hC,n3];simp
     refine Am (h1) [] (Sub.refl _) (by decide +kernel) ?_;conv=>whnf
     refine Aa rfl k1 rfl ?_;conv=>whnf
     by_cases a1:1≤x.kind∧x.kind≤6
     ·refine C2 (within_yes h1 a1) ?_;conv=>whnf
      refine ⟨Sub.refl _,?_⟩;conv=>whnf
      exact ⟨by rw [hR,HC];simp,s1⟩
     ·refine C2 (within_no h1 a1) ?_;conv=>whnf
      refine ⟨Sub.refl _,?_⟩;conv=>whnf
      exact ⟨by rw [hR,HC];simp,s1⟩
    | true =>
    refine C2 (pnumber_yes h1 n3) ?_;conv=>whnf
    refine Aa rfl k1 rfl ?_;conv=>whnf
    cases n4:numB x.hint with
    | false =>
     refine C2 (pnumber_no h1 n4) ?_;conv=>whnf
     have HC:C=false:=by rw [hC,n4];simp
     refine Am (h1) [] (Sub.refl _) (by decide +kernel) ?_;conv=>whnf
     refine Aa rfl k1 rfl ?_;conv=>whnf
     by_cases a1:1≤x.kind∧x.kind≤6
     ·refine C2 (within_yes h1 a1) ?_;conv=>whnf
      refine ⟨Sub.refl _,?_⟩;conv=>whnf
      exact ⟨by rw [hR,HC];simp,s1⟩
     ·refine C2 (within_no h1 a1) ?_;conv=>whnf
      refine ⟨Sub.refl _,?_⟩;conv=>whnf
      exact ⟨by rw [hR,HC];simp,s1⟩
    | true =>
    refine C2 (pnumber_yes h1 n4) ?_;conv=>whnf
    refine Aa rfl k1 rfl ?_
    refine Aa rfl k1 rfl ?_;conv=>whnf
    by_cases n5:0≤x.logTerm∧x.logTerm≤x.term
    ·refine C2 (within_yes h1 n5) ?_;conv=>whnf
     have hC1:C=true:=by rw [hC,n1,n2,n3,n4,decide_eq_true n5];rfl
     refine Am (h1) [] (Sub.refl _) (by decide +kernel) ?_;conv=>whnf
     refine Aa rfl k1 rfl ?_;conv=>whnf
     by_cases a1:1≤x.kind∧x.kind≤6
     ·have hA1:A=true:=by rw [hA];exact decide_eq_true a1
      refine C2 (within_yes h1 a1) ?_;conv=>whnf
      refine ⟨Sub.refl _,?_⟩;conv=>whnf
      refine Ab rfl k1 rfl rfl ?_
      refine Ab rfl k1 rfl rfl ?_;conv=>whnf
      refine C2 (bare_any h1 x) ?_;conv=>whnf
      refine ⟨Sub.refl _,?_⟩;conv=>whnf
      refine ACalls.mono (palike_any h1 x x.bare) ?_
      rw [al]
      cases hd1:D with
      | false =>
       rintro _ _ ⟨rfl,rfl⟩
       conv=>whnf
       refine ⟨Sub.refl _,?_⟩;conv=>whnf
       exact ⟨by rw [hR,hd1];simp,s1⟩
      | true =>
       rintro _ _ ⟨rfl,rfl⟩
       conv=>whnf
       refine ⟨Sub.refl _,?_⟩;conv=>whnf
       refine Ab rfl k1 rfl rfl ?_;conv=>whnf
       have hnx:numB x.index=true:=by rw [hC1] at hC;simp only [Bool.true_eq,Bool.and_eq_true] at hC;exact hC.1.1.1.2
       refine ACalls.mono (entriesMay_any q1 hnx hn) ?_
       rw [en]
       cases he1:E with
       | false =>
        rintro _ _ ⟨rfl,rfl⟩
        conv=>whnf
        refine ⟨Sub.refl _,?_⟩;conv=>whnf
        exact ⟨by rw [hR,he1];simp,s1⟩
       | true =>
        rintro _ _ ⟨rfl,rfl⟩
        conv=>whnf
        refine ⟨Sub.refl _,?_⟩;conv=>whnf
        refine Ab rfl k1 rfl rfl ?_;conv=>whnf
        refine ACalls.mono (psnapMay_any q1 hc0 hc1) ?_
        rw [← hF]
        cases hf1:F with
        | false =>
         rintro _ _ ⟨rfl,rfl⟩
         conv=>whnf
         refine ⟨Sub.refl _,?_⟩;conv=>whnf
         exact ⟨by rw [hR,hf1];simp,s1⟩
        | true =>
         rintro _ _ ⟨rfl,rfl⟩
         conv=>whnf
         refine ⟨Sub.refl _,?_⟩;conv=>whnf
         exact ⟨by rw [hR,hA1,hB1,hC1,hd1,he1,hf1];simp,s1⟩
     ·have hA0:A=false:=by rw [hA];exact decide_eq_false a1
      refine C2 (within_no h1 a1) ?_;conv=>whnf
      refine ⟨Sub.refl _,?_⟩;conv=>whnf
      exact ⟨by rw [hR,hA0];simp,s1⟩
    ·refine C2 (within_no h1 n5) ?_;conv=>whnf
     have HC:C=false:=by rw [hC,decide_eq_false n5];simp
     refine Am (h1) [] (Sub.refl _) (by decide +kernel) ?_;conv=>whnf
     refine Aa rfl k1 rfl ?_;conv=>whnf
     by_cases a1:1≤x.kind∧x.kind≤6
     ·refine C2 (within_yes h1 a1) ?_;conv=>whnf
      refine ⟨Sub.refl _,?_⟩;conv=>whnf
      exact ⟨by rw [hR,HC];simp,s1⟩
     ·refine C2 (within_no h1 a1) ?_;conv=>whnf
      refine ⟨Sub.refl _,?_⟩;conv=>whnf
      exact ⟨by rw [hR,HC];simp,s1⟩
   ·refine Ad (s3) ?_;conv=>whnf
    have hB0:B=false:=by rw [hB];exact decide_eq_false fun c=>s3 c.2.2.2.2
    refine Aa rfl k1 rfl ?_;conv=>whnf
    cases n1:numB x.term with
    | false =>
     refine C2 (pnumber_no h1 n1) ?_;conv=>whnf
     have HC:C=false:=by rw [hC,n1];simp
     refine Am (h1) [] (Sub.refl _) (by decide +kernel) ?_;conv=>whnf
     refine Aa rfl k1 rfl ?_;conv=>whnf
     by_cases a1:1≤x.kind∧x.kind≤6
     ·refine C2 (within_yes h1 a1) ?_;conv=>whnf
      refine ⟨Sub.refl _,?_⟩;conv=>whnf
      exact ⟨by rw [hR,hB0];simp,s1⟩
     ·refine C2 (within_no h1 a1) ?_;conv=>whnf
      refine ⟨Sub.refl _,?_⟩;conv=>whnf
      exact ⟨by rw [hR,hB0];simp,s1⟩
    | true =>
    refine C2 (pnumber_yes h1 n1) ?_;conv=>whnf
    refine Aa rfl k1 rfl ?_;conv=>whnf
    cases n2:numB x.index with
    | false =>
     refine C2 (pnumber_no h1 n2) ?_;conv=>whnf
     have HC:C=false:=by rw [hC,n2];simp
     refine Am (h1) [] (Sub.refl _) (by decide +kernel) ?_;conv=>whnf
     refine Aa rfl k1 rfl ?_;conv=>whnf
     by_cases a1:1≤x.kind∧x.kind≤6
     ·refine C2 (within_yes h1 a1) ?_;conv=>whnf
      refine ⟨Sub.refl _,?_⟩;conv=>whnf
      exact ⟨by rw [hR,hB0];simp,s1⟩
     ·refine C2 (within_no h1 a1) ?_;conv=>whnf
      refine ⟨Sub.refl _,?_⟩;conv=>whnf
      exact ⟨by rw [hR,hB0];simp,s1⟩
    | true =>
    refine C2 (pnumber_yes h1 n2) ?_;conv=>whnf
    refine Aa rfl k1 rfl ?_;conv=>whnf
    cases n3:numB x.commit with
    | false =>
     refine C2 (pnumber_no h1 n3) ?_;conv=>whnf
     have HC:C=false:=by rw [hC,n3];simp
     refine Am (h1) [] (Sub.refl _) (by decide +kernel) ?_;conv=>whnf
     refine Aa rfl k1 rfl ?_;conv=>whnf
     by_cases a1:1≤x.kind∧x.kind≤6
     ·refine C2 (within_yes h1 a1) ?_;conv=>whnf
      refine ⟨Sub.refl _,?_⟩;conv=>whnf
      exact ⟨by rw [hR,hB0];simp,s1⟩
     ·refine C2 (within_no h1 a1) ?_;conv=>whnf
      refine ⟨Sub.refl _,?_⟩;conv=>whnf
      exact ⟨by rw [hR,hB0];simp,s1⟩
    | true =>
    refine C2 (pnumber_yes h1 n3) ?_;conv=>whnf
    refine Aa rfl k1 rfl ?_;conv=>whnf
    cases n4:numB x.hint with
    | false =>
     refine C2 (pnumber_no h1 n4) ?_;conv=>whnf
     have HC:C=false:=by rw [hC,n4];simp
     refine Am (h1) [] (Sub.refl _) (by decide +kernel) ?_;conv=>whnf
     refine Aa rfl k1 rfl ?_;conv=>whnf
     by_cases a1:1≤x.kind∧x.kind≤6
     ·refine C2 (within_yes h1 a1) ?_;conv=>whnf
      refine ⟨Sub.refl _,?_⟩;conv=>whnf
      exact ⟨by rw [hR,hB0];simp,s1⟩
     ·refine C2 (within_no h1 a1) ?_;conv=>whnf
      refine ⟨Sub.refl _,?_⟩;conv=>whnf
      exact ⟨by rw [hR,hB0];simp,s1⟩
    | true =>
    refine C2 (pnumber_yes h1 n4) ?_;conv=>whnf
    refine Aa rfl k1 rfl ?_
    refine Aa rfl k1 rfl ?_;conv=>whnf
    by_cases n5:0≤x.logTerm∧x.logTerm≤x.term
    ·refine C2 (within_yes h1 n5) ?_;conv=>whnf
     have hC1:C=true:=by rw [hC,n1,n2,n3,n4,decide_eq_true n5];rfl
     refine Am (h1) [] (Sub.refl _) (by decide +kernel) ?_;conv=>whnf
     refine Aa rfl k1 rfl ?_;conv=>whnf
     by_cases a1:1≤x.kind∧x.kind≤6
     ·refine C2 (within_yes h1 a1) ?_;conv=>whnf
      refine ⟨Sub.refl _,?_⟩;conv=>whnf
      exact ⟨by rw [hR,hB0];simp,s1⟩
     ·refine C2 (within_no h1 a1) ?_;conv=>whnf
      refine ⟨Sub.refl _,?_⟩;conv=>whnf
      exact ⟨by rw [hR,hB0];simp,s1⟩
    ·refine C2 (within_no h1 n5) ?_;conv=>whnf
     have HC:C=false:=by rw [hC,decide_eq_false n5];simp
     refine Am (h1) [] (Sub.refl _) (by decide +kernel) ?_;conv=>whnf
     refine Aa rfl k1 rfl ?_;conv=>whnf
     by_cases a1:1≤x.kind∧x.kind≤6
     ·refine C2 (within_yes h1 a1) ?_;conv=>whnf
      refine ⟨Sub.refl _,?_⟩;conv=>whnf
      exact ⟨by rw [hR,hB0];simp,s1⟩
     ·refine C2 (within_no h1 a1) ?_;conv=>whnf
      refine ⟨Sub.refl _,?_⟩;conv=>whnf
      exact ⟨by rw [hR,hB0];simp,s1⟩
  ·refine C2 (within_no h1 s2) ?_;conv=>whnf
   have hB0:B=false:=by rw [hB];exact decide_eq_false fun c=>s2 ⟨c.2.2.1,c.2.2.2.1⟩
   refine Aa rfl k1 rfl ?_;conv=>whnf
   cases n1:numB x.term with
   | false =>
    refine C2 (pnumber_no h1 n1) ?_;conv=>whnf
    have HC:C=false:=by rw [hC,n1];simp
    refine Am (h1) [] (Sub.refl _) (by decide +kernel) ?_;conv=>whnf
    refine Aa rfl k1 rfl ?_;conv=>whnf
    by_cases a1:1≤x.kind∧x.kind≤6
    ·refine C2 (within_yes h1 a1) ?_;conv=>whnf
     refine ⟨Sub.refl _,?_⟩;conv=>whnf
     exact ⟨by rw [hR,hB0];simp,s1⟩
    ·refine C2 (within_no h1 a1) ?_;conv=>whnf
     refine ⟨Sub.refl _,?_⟩;conv=>whnf
     exact ⟨by rw [hR,hB0];simp,s1⟩
   | true =>
   refine C2 (pnumber_yes h1 n1) ?_;conv=>whnf
   refine Aa rfl k1 rfl ?_;conv=>whnf
   cases n2:numB x.index with
   | false =>
    refine C2 (pnumber_no h1 n2) ?_;conv=>whnf
    have HC:C=false:=by rw [hC,n2];simp
    refine Am (h1) [] (Sub.refl _) (by decide +kernel) ?_;conv=>whnf
    refine Aa rfl k1 rfl ?_;conv=>whnf
    by_cases a1:1≤x.kind∧x.kind≤6
    ·refine C2 (within_yes h1 a1) ?_;conv=>whnf
     refine ⟨Sub.refl _,?_⟩;conv=>whnf
     exact ⟨by rw [hR,hB0];simp,s1⟩
    ·refine C2 (within_no h1 a1) ?_;conv=>whnf
     refine ⟨Sub.refl _,?_⟩;conv=>whnf
     exact ⟨by rw [hR,hB0];simp,s1⟩
   | true =>
   refine C2 (pnumber_yes h1 n2) ?_;conv=>whnf
   refine Aa rfl k1 rfl ?_;conv=>whnf
   cases n3:numB x.commit with
   | false =>
    refine C2 (pnumber_no h1 n3) ?_;conv=>whnf
    have HC:C=false:=by rw [hC,n3];simp
    refine Am (h1) [] (Sub.refl _) (by decide +kernel) ?_;conv=>whnf
    refine Aa rfl k1 rfl ?_;conv=>whnf
    by_cases a1:1≤x.kind∧x.kind≤6
    ·refine C2 (within_yes h1 a1) ?_;conv=>whnf
     refine ⟨Sub.refl _,?_⟩;conv=>whnf
     exact ⟨by rw [hR,hB0];simp,s1⟩
    ·refine C2 (within_no h1 a1) ?_;conv=>whnf
     refine ⟨Sub.refl _,?_⟩;conv=>whnf
     exact ⟨by rw [hR,hB0];simp,s1⟩
   | true =>
   refine C2 (pnumber_yes h1 n3) ?_;conv=>whnf
   refine Aa rfl k1 rfl ?_;conv=>whnf
   cases n4:numB x.hint with
   | false =>
    refine C2 (pnumber_no h1 n4) ?_;conv=>whnf
    have HC:C=false:=by rw [hC,n4];simp
    refine Am (h1) [] (Sub.refl _) (by decide +kernel) ?_;conv=>whnf
    refine Aa rfl k1 rfl ?_;conv=>whnf
    by_cases a1:1≤x.kind∧x.kind≤6
    ·refine C2 (within_yes h1 a1) ?_;conv=>whnf
     refine ⟨Sub.refl _,?_⟩;conv=>whnf
     exact ⟨by rw [hR,hB0];simp,s1⟩
    ·refine C2 (within_no h1 a1) ?_;conv=>whnf
     refine ⟨Sub.refl _,?_⟩;conv=>whnf
     exact ⟨by rw [hR,hB0];simp,s1⟩
   | true =>
   refine C2 (pnumber_yes h1 n4) ?_;conv=>whnf
   refine Aa rfl k1 rfl ?_
   refine Aa rfl k1 rfl ?_;conv=>whnf
   by_cases n5:0≤x.logTerm∧x.logTerm≤x.term
   ·refine C2 (within_yes h1 n5) ?_;conv=>whnf
    have hC1:C=true:=by rw [hC,n1,n2,n3,n4,decide_eq_true n5];rfl
    refine Am (h1) [] (Sub.refl _) (by decide +kernel) ?_;conv=>whnf
    refine Aa rfl k1 rfl ?_;conv=>whnf
    by_cases a1:1≤x.kind∧x.kind≤6
    ·refine C2 (within_yes h1 a1) ?_;conv=>whnf
     refine ⟨Sub.refl _,?_⟩;conv=>whnf
     exact ⟨by rw [hR,hB0];simp,s1⟩
    ·refine C2 (within_no h1 a1) ?_;conv=>whnf
     refine ⟨Sub.refl _,?_⟩;conv=>whnf
     exact ⟨by rw [hR,hB0];simp,s1⟩
   ·refine C2 (within_no h1 n5) ?_;conv=>whnf
    have HC:C=false:=by rw [hC,decide_eq_false n5];simp
    refine Am (h1) [] (Sub.refl _) (by decide +kernel) ?_;conv=>whnf
    refine Aa rfl k1 rfl ?_;conv=>whnf
    by_cases a1:1≤x.kind∧x.kind≤6
    ·refine C2 (within_yes h1 a1) ?_;conv=>whnf
     refine ⟨Sub.refl _,?_⟩;conv=>whnf
     exact ⟨by rw [hR,hB0];simp,s1⟩
    ·refine C2 (within_no h1 a1) ?_;conv=>whnf
     refine ⟨Sub.refl _,?_⟩;conv=>whnf
     exact ⟨by rw [hR,hB0];simp,s1⟩
 ·refine C2 (within_no h1 s1') ?_;conv=>whnf
  have hB0:B=false:=by rw [hB];exact decide_eq_false fun c=>s1' ⟨c.1,c.2.1⟩
  refine Aa rfl k1 rfl ?_;conv=>whnf
  cases n1:numB x.term with
  | false =>
   refine C2 (pnumber_no h1 n1) ?_;conv=>whnf
   have HC:C=false:=by rw [hC,n1];simp
   refine Am (h1) [] (Sub.refl _) (by decide +kernel) ?_;conv=>whnf
   refine Aa rfl k1 rfl ?_;conv=>whnf
   by_cases a1:1≤x.kind∧x.kind≤6
   ·refine C2 (within_yes h1 a1) ?_;conv=>whnf
    refine ⟨Sub.refl _,?_⟩;conv=>whnf
    exact ⟨by rw [hR,hB0];simp,s1⟩
   ·refine C2 (within_no h1 a1) ?_;conv=>whnf
    refine ⟨Sub.refl _,?_⟩;conv=>whnf
    exact ⟨by rw [hR,hB0];simp,s1⟩
  | true =>
  refine C2 (pnumber_yes h1 n1) ?_;conv=>whnf
  refine Aa rfl k1 rfl ?_;conv=>whnf
  cases n2:numB x.index with
  | false =>
   refine C2 (pnumber_no h1 n2) ?_;conv=>whnf
   have HC:C=false:=by rw [hC,n2];simp
   refine Am (h1) [] (Sub.refl _) (by decide +kernel) ?_;conv=>whnf
   refine Aa rfl k1 rfl ?_;conv=>whnf
   by_cases a1:1≤x.kind∧x.kind≤6
   ·refine C2 (within_yes h1 a1) ?_;conv=>whnf
    refine ⟨Sub.refl _,?_⟩;conv=>whnf
    exact ⟨by rw [hR,hB0];simp,s1⟩
   ·refine C2 (within_no h1 a1) ?_;conv=>whnf
    refine ⟨Sub.refl _,?_⟩;conv=>whnf
    exact ⟨by rw [hR,hB0];simp,s1⟩
  | true =>
  refine C2 (pnumber_yes h1 n2) ?_;conv=>whnf
  refine Aa rfl k1 rfl ?_;conv=>whnf
  cases n3:numB x.commit with
  | false =>
   refine C2 (pnumber_no h1 n3) ?_;conv=>whnf
   have HC:C=false:=by rw [hC,n3];simp
   refine Am (h1) [] (Sub.refl _) (by decide +kernel) ?_;conv=>whnf
   refine Aa rfl k1 rfl ?_;conv=>whnf
   by_cases a1:1≤x.kind∧x.kind≤6
   ·refine C2 (within_yes h1 a1) ?_;conv=>whnf
    refine ⟨Sub.refl _,?_⟩;conv=>whnf
    exact ⟨by rw [hR,hB0];simp,s1⟩
   ·refine C2 (within_no h1 a1) ?_;conv=>whnf
    refine ⟨Sub.refl _,?_⟩;conv=>whnf
    exact ⟨by rw [hR,hB0];simp,s1⟩
  | true =>
  refine C2 (pnumber_yes h1 n3) ?_;conv=>whnf
  refine Aa rfl k1 rfl ?_;conv=>whnf
  cases n4:numB x.hint with
  | false =>
   refine C2 (pnumber_no h1 n4) ?_;conv=>whnf
   have HC:C=false:=by rw [hC,n4];simp
   refine Am (h1) [] (Sub.refl _) (by decide +kernel) ?_;conv=>whnf
   refine Aa rfl k1 rfl ?_;conv=>whnf
   by_cases a1:1≤x.kind∧x.kind≤6
   ·refine C2 (within_yes h1 a1) ?_;conv=>whnf
    refine ⟨Sub.refl _,?_⟩;conv=>whnf
    exact ⟨by rw [hR,hB0];simp,s1⟩
   ·refine C2 (within_no h1 a1) ?_;conv=>whnf
    refine ⟨Sub.refl _,?_⟩;conv=>whnf
    exact ⟨by rw [hR,hB0];simp,s1⟩
  | true =>
  refine C2 (pnumber_yes h1 n4) ?_;conv=>whnf
  refine Aa rfl k1 rfl ?_
  refine Aa rfl k1 rfl ?_;conv=>whnf
  by_cases n5:0≤x.logTerm∧x.logTerm≤x.term
  ·refine C2 (within_yes h1 n5) ?_;conv=>whnf
   have hC1:C=true:=by rw [hC,n1,n2,n3,n4,decide_eq_true n5];rfl
   refine Am (h1) [] (Sub.refl _) (by decide +kernel) ?_;conv=>whnf
   refine Aa rfl k1 rfl ?_;conv=>whnf
   by_cases a1:1≤x.kind∧x.kind≤6
   ·refine C2 (within_yes h1 a1) ?_;conv=>whnf
    refine ⟨Sub.refl _,?_⟩;conv=>whnf
    exact ⟨by rw [hR,hB0];simp,s1⟩
   ·refine C2 (within_no h1 a1) ?_;conv=>whnf
    refine ⟨Sub.refl _,?_⟩;conv=>whnf
    exact ⟨by rw [hR,hB0];simp,s1⟩
  ·refine C2 (within_no h1 n5) ?_;conv=>whnf
   have HC:C=false:=by rw [hC,decide_eq_false n5];simp
   refine Am (h1) [] (Sub.refl _) (by decide +kernel) ?_;conv=>whnf
   refine Aa rfl k1 rfl ?_;conv=>whnf
   by_cases a1:1≤x.kind∧x.kind≤6
   ·refine C2 (within_yes h1 a1) ?_;conv=>whnf
    refine ⟨Sub.refl _,?_⟩;conv=>whnf
    exact ⟨by rw [hR,hB0];simp,s1⟩
   ·refine C2 (within_no h1 a1) ?_;conv=>whnf
    refine ⟨Sub.refl _,?_⟩;conv=>whnf
    exact ⟨by rw [hR,hB0];simp,s1⟩
theorem takes_eq (c:CoreM) (x:PH):c.takes x.abs=(x.abs.check&&decide (x.dst=c.self)&&decide (0<x.term) && !(x.es.any (fun e=>decide (e.term<1)) || (decide (x.kind=5)&&decide (x.st<1)))&&crewsMay (x.es.map EH.abs)):=by
 have e1:(x.es.map EH.abs).all (fun e=>decide (1≤e.1)) = !x.es.any (fun e=>decide (e.term<1)):=by
  rw [List.all_map,List.not_any_eq_all_not]
  congr 1
  funext e
  show decide (1≤e.term) = !decide (e.term<1)
  rw [← decide_not,decide_eq_decide];omega
 have e2:(decide (x.kind≠5) || decide (1≤x.st)) = !(decide (x.kind=5)&&decide (x.st<1)):=by
  by_cases h:x.kind=5 <;> by_cases h2:x.st<1 <;> simp [h,h2] <;> omega
 show (x.abs.check&&decide (x.dst=c.self)&&decide (0<x.term)&&(x.es.map EH.abs).all (fun e=>decide (1≤e.1))&&(decide (x.kind≠5) || decide (1≤x.st))&&crewsMay (x.es.map EH.abs))=_
 rw [e1,e2,Bool.not_or]
 simp only [Bool.and_assoc]
theorem pcheck_yes {h:Heap} {t1 t2 t3:Tag} {x:PH} (k:x.Ok h t1 t2 t3) (hc0 : -9223372036854775808≤x.sc) (hc1:x.sc≤9223372036854775807) (hn:x.e.n≤4611686018427387904) (b:x.abs.check=true) :
  ACalls PR 131 #[.agg x.cells.toArray] h (fun v h'=>v=I 0∧h=h'):=by
 have:=PCheck_any k hc0 hc1 hn;rw [if_pos b] at this;exact this
theorem pcheck_no {h:Heap} {t1 t2 t3:Tag} {x:PH} (k:x.Ok h t1 t2 t3) (hc0 : -9223372036854775808≤x.sc) (hc1:x.sc≤9223372036854775807) (hn:x.e.n≤4611686018427387904) (b:x.abs.check=false) :
  ACalls PR 131 #[.agg x.cells.toArray] h (fun v h'=>v=I 2∧h=h'):=by
 have:=PCheck_any k hc0 hc1 hn;rw [if_neg (by rw [b];simp)] at this;exact this
theorem takes_any {h:Heap} {p o oo:Nat} {c:CoreM} {cx:CX} (kc:CoreX 81 LA h p o oo c cx) {t1 t2 t3:Tag} {x:PH} (k:x.Ok h t1 t2 t3) (by_:∀ e∈x.es,∀ z∈e.data,0≤z∧z<256)
  (hc0 : -9223372036854775808≤x.sc) (hc1:x.sc≤9223372036854775807) (hn:x.e.n≤4611686018427387904) :
  ACalls PR 62 #[Ptr p, .agg x.cells.toArray] h (fun v h'=>v = .bool (c.takes x.abs)∧h=h'):=by
 rw [takes_eq]
 obtain ⟨X,hX⟩:∃ A,A=x.es.any (fun e=>decide (e.term<1)):=⟨_,rfl⟩
 obtain ⟨W,hW⟩:∃ A,A=crewsMay (x.es.map EH.abs):=⟨_,rfl⟩
 rw [← hX,← hW]
 refine Ar (As mix Tryz.func62 rfl rfl Tryz.ntmps62 Tryz.results62 rfl ?_);conv=>whnf
 refine Al (0,1) (x.cells) rfl fun b1 h1 n1 s1 k1=>?_;conv=>whnf
 have q1:x.Ok h1 t1 t2 t3:=⟨k.es.sub s1,k.sd.sub s1⟩
 have kc1:=kc.sub s1
 have A1:AsksE 130 [] x.es (fun e=>decide (e.term<1)) h1:=by
  intro e he h' s
  refine Ar (As mix Tryz.func130 rfl rfl Tryz.ntmps130 Tryz.results130 rfl ?_);conv=>whnf
  refine Al (0,1) (e.cells) rfl fun b1 h2 n2 s2 k2=>?_;conv=>whnf
  refine Aa rfl k2 rfl ?_;conv=>whnf
  refine ACmp.dec ?_;conv=>whnf
  exact ⟨rfl,s2⟩
 refine Aa rfl k1 rfl ?_;conv=>whnf
 refine ACalls.mono (ContainsE_any A1 q1.es hn) ?_
 rw [← hX]
 cases hX':X with
 | true =>
  rintro _ _ ⟨rfl,rfl⟩
  conv=>whnf
  refine Am (h1) [] (Sub.refl _) (by decide +kernel) ?_;conv=>whnf
  refine Ab rfl k1 rfl rfl ?_;conv=>whnf
  cases a1:x.abs.check with
  | false =>
   refine C2 (pcheck_no q1 hc0 hc1 hn a1) ?_;conv=>whnf
   refine ⟨Sub.refl _,?_⟩;conv=>whnf
   refine Ad ((by decide)) ?_;conv=>whnf
   exact ⟨by simp,s1⟩
  | true =>
  refine C2 (pcheck_yes q1 hc0 hc1 hn a1) ?_;conv=>whnf
  refine ⟨Sub.refl _,?_⟩;conv=>whnf
  refine Ac (rfl) ?_;conv=>whnf
  refine Aa rfl k1 rfl ?_
  refine Aa rfl kc1.str rfl ?_;conv=>whnf
  by_cases a2:x.dst=c.self
  ·refine Ac (a2) ?_;conv=>whnf
   refine Aa rfl k1 rfl ?_;conv=>whnf
   by_cases a3:0<x.term
   ·refine Ac (a3) ?_;conv=>whnf
    exact ⟨by simp,s1⟩
   ·refine Ad (a3) ?_;conv=>whnf
    exact ⟨by simp [a3],s1⟩
  ·refine Ad (a2) ?_;conv=>whnf
   exact ⟨by simp [a2],s1⟩
 | false =>
  rintro _ _ ⟨rfl,rfl⟩
  conv=>whnf
  refine Aa rfl k1 rfl ?_;conv=>whnf
  by_cases c0:x.kind=5
  ·refine Ac (c0) ?_;conv=>whnf
   refine Aa rfl k1 rfl ?_;conv=>whnf
   by_cases c1:x.st<1
   ·refine Ac (c1) ?_;conv=>whnf
    refine Am (h1) [] (Sub.refl _) (by decide +kernel) ?_;conv=>whnf
    refine Ab rfl k1 rfl rfl ?_;conv=>whnf
    cases a1:x.abs.check with
    | false =>
     refine C2 (pcheck_no q1 hc0 hc1 hn a1) ?_;conv=>whnf
     refine ⟨Sub.refl _,?_⟩;conv=>whnf
     refine Ad ((by decide)) ?_;conv=>whnf
     exact ⟨by simp,s1⟩
    | true =>
    refine C2 (pcheck_yes q1 hc0 hc1 hn a1) ?_;conv=>whnf
    refine ⟨Sub.refl _,?_⟩;conv=>whnf
    refine Ac (rfl) ?_;conv=>whnf
    refine Aa rfl k1 rfl ?_
    refine Aa rfl kc1.str rfl ?_;conv=>whnf
    by_cases a2:x.dst=c.self
    ·refine Ac (a2) ?_;conv=>whnf
     refine Aa rfl k1 rfl ?_;conv=>whnf
     by_cases a3:0<x.term
     ·refine Ac (a3) ?_;conv=>whnf
      exact ⟨by simp [c0,c1],s1⟩
     ·refine Ad (a3) ?_;conv=>whnf
      exact ⟨by simp [a3],s1⟩
    ·refine Ad (a2) ?_;conv=>whnf
     exact ⟨by simp [a2],s1⟩
   ·refine Ad (c1) ?_;conv=>whnf
    refine Am (h1) [] (Sub.refl _) (by decide +kernel) ?_;conv=>whnf
    refine Ab rfl k1 rfl rfl ?_;conv=>whnf
    cases a1:x.abs.check with
    | false =>
     refine C2 (pcheck_no q1 hc0 hc1 hn a1) ?_;conv=>whnf
     refine ⟨Sub.refl _,?_⟩;conv=>whnf
     refine Ad ((by decide)) ?_;conv=>whnf
     exact ⟨by simp,s1⟩
    | true =>
    refine C2 (pcheck_yes q1 hc0 hc1 hn a1) ?_;conv=>whnf
    refine ⟨Sub.refl _,?_⟩;conv=>whnf
    refine Ac (rfl) ?_;conv=>whnf
    refine Aa rfl k1 rfl ?_
    refine Aa rfl kc1.str rfl ?_;conv=>whnf
    by_cases a2:x.dst=c.self
    ·refine Ac (a2) ?_;conv=>whnf
     refine Aa rfl k1 rfl ?_;conv=>whnf
     by_cases a3:0<x.term
     ·refine Ac (a3) ?_;conv=>whnf
      refine Aa rfl k1 rfl ?_;conv=>whnf
      refine ACalls.mono (crewsMay_any q1.es hn by_) ?_
      rw [← hW]
      cases hW':W with
      | false =>
       rintro _ _ ⟨rfl,rfl⟩
       conv=>whnf
       refine ⟨Sub.refl _,?_⟩;conv=>whnf
       exact ⟨by simp,s1⟩
      | true =>
       rintro _ _ ⟨rfl,rfl⟩
       conv=>whnf
       refine ⟨Sub.refl _,?_⟩;conv=>whnf
       exact ⟨by simp [a2,a3,c1],s1⟩
     ·refine Ad (a3) ?_;conv=>whnf
      exact ⟨by simp [a3],s1⟩
    ·refine Ad (a2) ?_;conv=>whnf
     exact ⟨by simp [a2],s1⟩
  ·refine Ad (c0) ?_;conv=>whnf
   have c1:=c0
   refine Am (h1) [] (Sub.refl _) (by decide +kernel) ?_;conv=>whnf
   refine Ab rfl k1 rfl rfl ?_;conv=>whnf
   cases a1:x.abs.check with
   | false =>
    refine C2 (pcheck_no q1 hc0 hc1 hn a1) ?_;conv=>whnf
    refine ⟨Sub.refl _,?_⟩;conv=>whnf
    refine Ad ((by decide)) ?_;conv=>whnf
    exact ⟨by simp,s1⟩
   | true =>
   refine C2 (pcheck_yes q1 hc0 hc1 hn a1) ?_;conv=>whnf
   refine ⟨Sub.refl _,?_⟩;conv=>whnf
   refine Ac (rfl) ?_;conv=>whnf
   refine Aa rfl k1 rfl ?_
   refine Aa rfl kc1.str rfl ?_;conv=>whnf
   by_cases a2:x.dst=c.self
   ·refine Ac (a2) ?_;conv=>whnf
    refine Aa rfl k1 rfl ?_;conv=>whnf
    by_cases a3:0<x.term
    ·refine Ac (a3) ?_;conv=>whnf
     refine Aa rfl k1 rfl ?_;conv=>whnf
     refine ACalls.mono (crewsMay_any q1.es hn by_) ?_
     rw [← hW]
     cases hW':W with
     | false =>
      rintro _ _ ⟨rfl,rfl⟩
      conv=>whnf
      refine ⟨Sub.refl _,?_⟩;conv=>whnf
      exact ⟨by simp,s1⟩
     | true =>
      rintro _ _ ⟨rfl,rfl⟩
      conv=>whnf
      refine ⟨Sub.refl _,?_⟩;conv=>whnf
      exact ⟨by simp [a2,a3,c1],s1⟩
    ·refine Ad (a3) ?_;conv=>whnf
     exact ⟨by simp [a3],s1⟩
   ·refine Ad (a2) ?_;conv=>whnf
    exact ⟨by simp [a2],s1⟩
section
structure Pre (i:Nat) (A B:List Abs):Prop where
  a:i≤A.length
  b:i≤B.length
  c:∀ k,k<i→A[k]? = B[k]?
theorem Pre.refl {i:Nat} {A:List Abs} (h:i≤A.length):Pre i A A:=⟨h,h,fun _ _=>rfl⟩
theorem Pre.symm {i:Nat} {A B:List Abs} (p:Pre i A B):Pre i B A:=⟨p.b,p.a,fun k h=>(p.c k h).symm⟩
theorem Pre.trans {i:Nat} {A B C:List Abs} (p:Pre i A B) (q:Pre i B C):Pre i A C:=⟨p.a,q.b,fun k h=>(p.c k h).trans (q.c k h)⟩
theorem Pre.le {i j:Nat} {A B:List Abs} (p:Pre i A B) (h:j≤i):Pre j A B:=⟨Nat.le_trans h p.a,Nat.le_trans h p.b,fun k hk=>p.c k (Nat.lt_of_lt_of_le hk h)⟩
theorem Pre.take {i:Nat} {A B:List Abs} (p:Pre i A B):A.take i=B.take i:=by
 apply List.ext_getElem?
 intro k
 rw [List.getElem?_take,List.getElem?_take]
 split
 ·exact p.c k (by assumption)
 ·rfl
theorem Pre.take_le {i j:Nat} {A B:List Abs} (p:Pre i A B) (h:j≤i):A.take j=B.take j:=(p.le h).take
theorem Pre.append {A B:List Abs}:Pre A.length A (A++B):=⟨Nat.le_refl _,by simp,fun k h=>by rw [List.getElem?_append_left h]⟩
theorem Pre.of_take {i:Nat} {A B:List Abs} (ha:i≤A.length) (hb:i≤B.length) (h:A.take i=B.take i):Pre i A B :=
 ⟨ha,hb,fun k hk=>by
  have:=congrArg (fun l=>l[k]?) h
  simpa [List.getElem?_take,hk] using this⟩
def conf (f:Int) (A:List Abs):Int:=A.foldl (fun c e=>if e.2.2.1=2 then crewNum e else c) f
theorem conf_snoc (f:Int) (A:List Abs) (e:Abs):conf f (A++[e])=if e.2.2.1=2 then crewNum e else conf f A:=by simp [conf,List.foldl_append]
def Says (A:List Abs) (k:Nat):Prop:=∃ e,A[k]? = some e∧e.2.2.1=2
theorem Says.lt {A:List Abs} {k:Nat} (s:Says A k):k<A.length:=by
 obtain ⟨e,h,_⟩:=s;exact (List.getElem?_eq_some_iff.1 h).1
theorem Pre.says {i k:Nat} {A B:List Abs} (p:Pre i A B) (h:k<i) (s:Says A k):Says B k:=by
 obtain ⟨e,h1,h2⟩:=s;exact ⟨e,by rw [← p.c k h];exact h1,h2⟩
theorem conf_step (f:Int) (A:List Abs) (k:Nat) (h:¬ Says A k):conf f (A.take (k+1))=conf f (A.take k):=by
 by_cases hk:k<A.length
 ·rw [List.take_succ_eq_append_getElem hk,conf_snoc,if_neg]
  intro c;exact h ⟨A[k],by simp,c⟩
 ·rw [List.take_of_length_le (by omega),List.take_of_length_le (by omega)]
theorem conf_same (f:Int) (A:List Abs) (a:Nat):∀ b,a≤b→(∀ k,a≤k→k<b→¬ Says A k)→conf f (A.take b)=conf f (A.take a)
 | 0,h,_=>by rw [show a=0 by omega]
 | b+1,h,n=>by
  by_cases c:a=b+1
  ·rw [c]
  ·rw [conf_step f A b (n b (by omega) (by omega)),conf_same f A a b (by omega) fun k h1 h2=>n k h1 (by omega)]
theorem says_first (A:List Abs) (a:Nat):∀ b,(∀ k,a≤k→k<b→¬ Says A k)∨∃ k,a≤k∧k<b∧Says A k∧∀ j,a≤j→j<k→¬ Says A j
 | 0 => .inl fun k _ h=>absurd h (by omega)
 | b+1=>by
  rcases says_first A a b with h | ⟨k,h1,h2,h3,h4⟩
  ·by_cases c:a≤b∧Says A b
   ·exact .inr ⟨b,c.1,by omega,c.2,fun j h1 h2=>h j h1 h2⟩
   ·refine .inl fun k h1 h2 s=>?_
    by_cases e:k=b
    ·subst e;exact c ⟨h1,s⟩
    ·exact h k h1 (by omega) s
  ·exact .inr ⟨k,h1,by omega,h3,h4⟩
theorem says_last (A:List Abs):∀ b,(∀ k,k<b→¬ Says A k)∨∃ k,k<b∧Says A k∧∀ j,k<j→j<b→¬ Says A j
 | 0 => .inl fun k h=>absurd h (by omega)
 | b+1=>by
  by_cases c:Says A b
  ·exact .inr ⟨b,by omega,c,fun j h1 h2=>absurd h1 (by omega)⟩
  ·rcases says_last A b with h | ⟨k,h1,h2,h3⟩
   ·refine .inl fun k h1 s=>?_
    by_cases e:k=b
    ·subst e;exact c s
    ·exact h k (by omega) s
   ·refine .inr ⟨k,by omega,h2,fun j j1 j2 s=>?_⟩
    by_cases e:j=b
    ·subst e;exact c s
    ·exact h3 j j1 (by omega) s
theorem conf_none (f:Int) (A:List Abs) (b:Nat) (h:∀ k,k<b→¬ Says A k):conf f (A.take b)=f:=by
 rw [conf_same f A 0 b (by omega) fun k _ hk=>h k hk];rfl
def Near (c d:Int):Prop:=∀ p q:Int→Bool,mostOf c p=true→mostOf d q=true→∃ n,p n=true∧q n=true
theorem Near.symm {c d:Int} (h:Near c d):Near d c:=fun p q hp hq=>by
 obtain ⟨n,a,b⟩:=h q p hq hp;exact ⟨n,b,a⟩
theorem two_filters (p q:Int→Bool):∀ l:List Int,l.length<(l.filter p).length+(l.filter q).length→∃ n∈l,p n=true∧q n=true
 | [],h=>by simp at h
 | x::r,h=>by
  by_cases c:p x=true∧q x=true
  ·exact ⟨x,by simp,c⟩
  ·have:r.length<(r.filter p).length+(r.filter q).length:=by
    rw [List.filter_cons,List.filter_cons] at h
    by_cases c1:p x=true <;> by_cases c2:q x=true
    ·exact absurd ⟨c1,c2⟩ c
    ·simp [c1,c2] at h;omega
    ·simp [c1,c2] at h;omega
    ·simp [c1,c2] at h;omega
   obtain ⟨n,a,b⟩:=two_filters p q r this
   exact ⟨n,List.mem_cons_of_mem _ a,b⟩
theorem Near.refl (c:Int):Near c c:=fun p q hp hq=>by
 simp only [mostOf,decide_eq_true_eq] at hp hq
 obtain ⟨n,_,a⟩:=two_filters p q (ls (m5 c)) (by omega)
 exact ⟨n,a⟩
structure Hist where
  first:Int
  led:Int→Int
  ll:Int→List Abs
  ini:Int→List Abs
  acc:Int→Int→Nat
  q:Int→Int→Bool
variable {H:Hist}
structure Good (H:Hist) (A:List Abs):Prop where
  lm:∀ (k:Nat) (e:Abs),A[k]? = some e→1≤e.1∧H.led e.1≠0∧Pre (k+1) A (H.ll e.1)
  mono:∀ (j k:Nat) (e f:Abs),j≤k→A[j]? = some e→A[k]? = some f→e.1≤f.1
def Own1 (H:Hist) (u:Int) (i:Nat):Prop:=∃ k e,i=k+1∧(H.ll u)[k]? = some e∧e.1=u
def Acked (H:Hist) (u:Int) (i:Nat):Int→Bool:=fun n=>decide (i≤H.acc n u)
structure Chosen (H:Hist) (u:Int) (i:Nat):Prop where
  led:H.led u≠0
  own:Own1 H u i
  most:∃ m,i≤m∧m≤(H.ll u).length∧mostOf (conf H.first ((H.ll u).take m)) (Acked H u i)=true
def Vow (H:Hist) (v t:Int) (R:Int→Prop) (L:List Abs):Prop:=∀ u i,u<t→H.led u≠0→Own1 H u i→i≤H.acc v u→Pre i (H.ll u) L∨∃ w,u<w∧R w∧H.led w≠0∧¬ Pre i (H.ll u) (H.ini w)
structure HOk (H:Hist):Prop where
  log:∀ t,H.led t≠0→Good H (H.ll t)
  ini:∀ t,H.led t≠0→Pre (H.ini t).length (H.ini t) (H.ll t)
  old:∀ t (k:Nat) (e:Abs),H.led t≠0→(H.ini t)[k]? = some e→e.1<t
  top:∀ t (k:Nat) (e:Abs),H.led t≠0→(H.ll t)[k]? = some e→e.1≤t
  own:∀ t (k:Nat) (e:Abs),H.led t≠0→(H.ini t).length≤k→(H.ll t)[k]? = some e→e.1=t
  most:∀ t,H.led t≠0→mostOf (conf H.first (H.ini t)) (H.q t)=true
  vow:∀ t v,H.led t≠0→H.q t v=true→Vow H v t (· < t) (H.ini t)
  cf:∀ u (k:Nat) (e:Abs),H.led u≠0→(H.ll u)[k]? = some e→e.2.2.1=2→e.1=u →
    Near (conf H.first ((H.ll u).take k)) (conf H.first ((H.ll u).take (k+1))) ∧
    ∃ i,i≤k∧Own1 H u i∧mostOf (conf H.first ((H.ll u).take k)) (Acked H u i)=true∧∀ j,j<k→Says (H.ll u) j→j<i
theorem take_len_conf (f:Int) (A:List Abs):conf f (A.take A.length)=conf f A:=by rw [List.take_length]
theorem near_one {f:Int} {A B:List Abs}
  (ca:∀ k k',k<k'→Says A k→Says A k'→Pre (k+1) A B) (cb:∀ k k',k<k'→Says B k→Says B k'→Pre (k+1) A B)
  (sb:∀ k,Says B k→Near (conf f (B.take k)) (conf f (B.take (k+1))))
  (ain:∀ k,Says A k→Pre (k+1) A B):Near (conf f A) (conf f B):=by
 rcases says_last B B.length with hb | ⟨b,b1,b2,b3⟩
 ·have ha:∀ k,k<A.length→¬ Says A k:=fun k hk s=>hb k (by have:=(ain k s).b;omega) ((ain k s).says (Nat.lt_succ_self k) s)
  rw [← take_len_conf f A,← take_len_conf f B,conf_none f A _ ha,conf_none f B _ hb]
  exact Near.refl _
 ·have eb:conf f B=conf f (B.take (b+1)):=by
   rw [← take_len_conf f B];exact conf_same f B (b+1) _ (by omega) fun k k1 k2=>b3 k (by omega) k2
  by_cases bin:Pre (b+1) A B
  ·have sa:Says A b:=bin.symm.says (Nat.lt_succ_self b) b2
   have ea:conf f A=conf f (A.take (b+1)):=by
    rw [← take_len_conf f A]
    refine conf_same f A (b+1) _ (by have:=sa.lt;omega) fun k k1 k2 s=>?_
    have:=(ain k s).says (Nat.lt_succ_self k) s
    exact b3 k (by omega) this.lt this
   rw [ea,eb,bin.take];exact Near.refl _
  ·have ea:conf f A=conf f (B.take b):=by
    have np:∀ k,Says A k→k<b:=fun k s=>by
     have s':=(ain k s).says (Nat.lt_succ_self k) s
     by_cases c:k<b
     ·exact c
     ·by_cases c2:k=b
      ·subst c2;exact absurd (ain k s) bin
      ·exact absurd s' (b3 k (by omega) s'.lt)
    rcases says_last B b with h | ⟨c,c1,c2,c3⟩
    ·rw [conf_none f B b h,← take_len_conf f A]
     exact conf_none f A _ fun k hk s=>h k (np k s) ((ain k s).says (Nat.lt_succ_self k) s)
    ·have pc:=cb c b c1 c2 b2
     rw [conf_same f B (c+1) b (by omega) fun k k1 k2=>c3 k (by omega) k2,← pc.take,← take_len_conf f A]
     refine conf_same f A (c+1) _ pc.a fun k k1 k2 s=>?_
     exact c3 k (by omega) (np k s) ((ain k s).says (Nat.lt_succ_self k) s)
   rw [ea,eb];exact sb b b2
structure Cand (H:Hist) (T:Int) (R:Int→Prop) (B:List Abs) (Q:Int→Bool):Prop where
  lm:∀ (k:Nat) (e:Abs),B[k]? = some e→1≤e.1∧H.led e.1≠0∧Pre (k+1) B (H.ll e.1)
  mono:∀ (j k:Nat) (e f:Abs),j≤k→B[j]? = some e→B[k]? = some f→e.1≤f.1
  old:∀ (k:Nat) (e:Abs),B[k]? = some e→e.1<T
  most:mostOf (conf H.first B) Q=true
  vow:∀ v,Q v=true→Vow H v T R B
theorem HOk.cand (ok:HOk H) {t:Int} (ht:H.led t≠0):Cand H t (· < t) (H.ini t) (H.q t):=by
 have pB:=ok.ini t ht
 have gt:=ok.log t ht
 refine ⟨fun k e h=>?_,fun j k e f h a b=>?_,fun k e h=>ok.old t k e ht h,ok.most t ht,fun v hv=>ok.vow t v ht hv⟩
 ·have hk:=(List.getElem?_eq_some_iff.1 h).1
  obtain ⟨a,b,c⟩:=gt.lm k e (by rw [← pB.c k hk];exact h)
  exact ⟨a,b,(pB.le (by omega)).trans c⟩
 ·have hk:=(List.getElem?_eq_some_iff.1 b).1
  exact gt.mono j k e f h (by rw [← pB.c j (by omega)];exact a) (by rw [← pB.c k hk];exact b)
theorem near_logs (ok:HOk H) {U:Int} {A B:List Abs}
  (lmA:∀ (k:Nat) (e:Abs),A[k]? = some e→1≤e.1∧H.led e.1≠0∧Pre (k+1) A (H.ll e.1)) (monoA:∀ (j k:Nat) (e f:Abs),j≤k→A[j]? = some e→A[k]? = some f→e.1≤f.1) (lowA:∀ (k:Nat) (e:Abs),A[k]? = some e→e.1<U)
  (lmB:∀ (k:Nat) (e:Abs),B[k]? = some e→1≤e.1∧H.led e.1≠0∧Pre (k+1) B (H.ll e.1)) (monoB:∀ (j k:Nat) (e f:Abs),j≤k→B[j]? = some e→B[k]? = some f→e.1≤f.1) (low:∀ (k:Nat) (e:Abs),B[k]? = some e→e.1<U)
  (toA:∀ u' i',u'<U→Chosen H u' i'→Pre i' (H.ll u') A) (toB:∀ u' i',u'<U→Chosen H u' i'→Pre i' (H.ll u') B):Near (conf H.first B) (conf H.first A):=by
 have step:∀ A:List Abs,(∀ (k:Nat) (e:Abs),A[k]? = some e→1≤e.1∧H.led e.1≠0∧Pre (k+1) A (H.ll e.1))→∀ k,Says A k→∃ e,A[k]? = some e∧H.led e.1≠0∧Pre (k+1) A (H.ll e.1)∧Near (conf H.first (A.take k)) (conf H.first (A.take (k+1))) ∧
   ∃ i,i≤k∧Chosen H e.1 i∧∀ j,j<k→Says A j→j<i:=fun A lm k ⟨e,h,h2⟩=>by
  obtain ⟨_,a,b⟩:=lm k e h
  obtain ⟨n,i',c1,c2,c3,c4⟩:=ok.cf e.1 k e a (by rw [← b.c k (Nat.lt_succ_self k)];exact h) h2 rfl
  rw [← b.take,← b.take_le (Nat.le_succ k)] at n
  rw [← b.take_le (Nat.le_succ k)] at c3
  refine ⟨e,h,a,b,n,i',c1,⟨a,c2,k,c1,by have:=b.b;omega,by rw [← b.take_le (Nat.le_succ k)];exact c3⟩,fun j hj s=>c4 j hj (b.says (by omega) s)⟩
 have cA:∀ k k',k<k'→Says A k→Says A k'→Pre (k+1) A B:=fun k k' hk s s'=>by
  obtain ⟨e,he,hl,pe,_,i',i1,ci,i2⟩:=step _ lmA k' s'
  have:=toB e.1 i' (lowA _ _ he) ci
  exact ((pe.le (by omega)).trans this).le (i2 k hk s)
 have cB:∀ k k',k<k'→Says B k→Says B k'→Pre (k+1) A B:=fun k k' hk s s'=>by
  obtain ⟨e,he,hl,pe,_,i',i1,ci,i2⟩:=step _ lmB k' s'
  have:=toA e.1 i' (low _ _ he) ci
  exact ((pe.le (by omega)).trans this).symm.le (i2 k hk s)
 by_cases ain:∀ k,Says A k→Pre (k+1) A B
 ·exact (near_one cA cB (fun k s=>(step _ lmB k s).elim fun e he=>he.2.2.2.1) ain).symm
 ·by_cases bin:∀ k,Says B k→Pre (k+1) B A
  ·exact near_one (fun k k' h s s'=>(cB k k' h s s').symm) (fun k k' h s s'=>(cA k k' h s s').symm) (fun k s=>(step _ lmA k s).elim fun e he=>he.2.2.2.1) bin
  ·exfalso
   obtain ⟨a,na⟩:=Classical.not_forall.1 ain
   obtain ⟨sa,na⟩:=Classical.not_imp.1 na
   obtain ⟨b,nb⟩:=Classical.not_forall.1 bin
   obtain ⟨sb,nb⟩:=Classical.not_imp.1 nb
   obtain ⟨ea,ha,hla,pa,_,ia,ia1,cia,_⟩:=step _ lmA a sa
   obtain ⟨eb,hb,hlb,pb,_,ib,ib1,cib,_⟩:=step _ lmB b sb
   have qa:=toB ea.1 ia (lowA _ _ ha) cia
   have qb:=toA eb.1 ib (low _ _ hb) cib
   by_cases c1:ea.1=eb.1
   ·rw [← c1] at pb
    by_cases c2:a≤b
    ·exact na (pa.trans (pb.le (by omega)).symm)
    ·exact nb (pb.trans (pa.le (by omega)).symm)
   ·by_cases c2:ea.1<eb.1
    ·obtain ⟨x,ex,rfl,hx,hx2⟩:=cib.own
     have hxA:=(qb.c x (by omega)).symm.trans hx
     have:a<x+1:=by
      by_cases c3:x<a
      ·have:=monoA x a _ _ (by omega) hxA ha;omega
      ·omega
     exact na ((qb.le (by omega)).symm.trans (pb.le (by omega)).symm)
    ·obtain ⟨x,ex,rfl,hx,hx2⟩:=cia.own
     have hxB:=(qa.c x (by omega)).symm.trans hx
     have:b<x+1:=by
      by_cases c3:x<b
      ·have:=monoB x b _ _ (by omega) hxB hb;omega
      ·omega
     exact nb ((qa.le (by omega)).symm.trans (pa.le (by omega)).symm)
theorem chosen_core (ok:HOk H) {t:Int} {R:Int→Prop} {B:List Abs} {Q:Int→Bool} (cd:Cand H t R B Q) (hR:∀ w,w<t→R w) (IA:∀ w u' i',R w→H.led w≠0→u'<w→Chosen H u' i'→Pre i' (H.ll u') (H.ini w)) :
  ∀ (U:Nat) (u:Int),u.toNat=U→u<t→∀ i,Chosen H u i→Pre i (H.ll u) B:=by
 intro U
 induction U using Nat.strongRecOn with
 | _ U ihU =>
 intro u hU hut i ch
 have pos:∀ {u:Int} {i:Nat},H.led u≠0→Own1 H u i→1≤u:=fun hl ⟨k,e,_,h,he⟩=>by
  have:=((ok.log _ hl).lm k e h).1;omega
 have hu:=ch.led
 have u1:=pos hu ch.own
 have IB:∀ u' i',u'<u→Chosen H u' i'→Pre i' (H.ll u') B:=fun u' i' hu' c =>
  ihU u'.toNat (by have:=pos c.led c.own;omega) u' rfl (by omega) i' c
 have V:∀ m i',Near (conf H.first B) (conf H.first ((H.ll u).take m))→Own1 H u i'→i'≤m→m≤(H.ll u).length→mostOf (conf H.first ((H.ll u).take m)) (Acked H u i')=true→Pre i' (H.ll u) B:=fun m i' nr o h1 h2 mo=>by
  obtain ⟨v,a,b⟩:=nr _ _ cd.most mo
  rcases cd.vow v a u i' hut hu o (by simpa [Acked] using b) with p | ⟨w,w1,w2,w3,w4⟩
  ·exact p
  ·exact absurd (IA w u i' w2 w3 w1 ⟨hu,o,m,h1,h2,mo⟩) w4
 obtain ⟨m,hm1,hm2,hmo⟩:=ch.most
 by_cases low:∀ (k:Nat) (e:Abs),B[k]? = some e→e.1<u
 ·
  exfalso
  have no:∀ i',Own1 H u i'→¬ Pre i' (H.ll u) B:=fun i' ⟨k,e,hk,h,he⟩ p=>by
   have:=low k e (by rw [← p.c k (by omega)];exact h)
   omega
  have pA:=ok.ini u hu
  have cu:=ok.cand hu
  have nr:Near (conf H.first B) (conf H.first (H.ini u)) :=
   near_logs ok cu.lm cu.mono cu.old cd.lm cd.mono low (fun u' i' h c=>IA u u' i' (hR u hut) hu h c) IB
  have cA0:conf H.first ((H.ll u).take (H.ini u).length)=conf H.first (H.ini u):=by rw [← pA.take,List.take_length]
  have ownA:∀ i',Own1 H u i'→(H.ini u).length<i':=fun i' ⟨k,e,hk,h,he⟩=>by
   by_cases c:(H.ini u).length≤k
   ·omega
   ·have:=ok.old u k e hu (by rw [pA.c k (by omega)];exact h)
    omega
  rcases says_first (H.ll u) (H.ini u).length m with h | ⟨k,k1,k2,k3,k4⟩
  ·have e:=conf_same H.first (H.ll u) (H.ini u).length m (by have:=ownA i ch.own;omega) h
   exact no i ch.own (V m i (by rw [e,cA0];exact nr) ch.own hm1 hm2 hmo)
  ·have k3':=k3
   obtain ⟨e,he,he2⟩:=k3'
   obtain ⟨_,i',c1,c2,c3,c4⟩:=ok.cf u k e hu he he2 (ok.own u k e hu k1 he)
   have ek:=conf_same H.first (H.ll u) (H.ini u).length k k1 k4
   exact no i' c2 (V k i' (by rw [ek,cA0];exact nr) c2 c1 (by omega) c3)
 ·
  obtain ⟨k,hk⟩:=Classical.not_forall.1 low
  obtain ⟨e,hk⟩:=Classical.not_forall.1 hk
  obtain ⟨hk,he⟩:=Classical.not_imp.1 hk
  have hkl:=(List.getElem?_eq_some_iff.1 hk).1
  obtain ⟨l,hl⟩:∃ l,B[B.length-1]? = some l:=⟨B[B.length-1],by simp⟩
  have hlu:u≤l.1:=by have:=cd.mono k _ e l (by omega) hk hl;omega
  obtain ⟨_,l2,l3⟩:=cd.lm _ l hl
  rw [show B.length-1+1=B.length by omega] at l3
  by_cases c1:l.1=u
  ·rw [c1] at l3
   by_cases c2:i≤B.length
   ·exact (l3.le c2).symm
   ·exfalso
    have no:∀ i',B.length<i'→¬ Pre i' (H.ll u) B:=fun i' h p=>by have:=p.b;omega
    have eB:conf H.first ((H.ll u).take B.length)=conf H.first B:=by rw [← l3.take,List.take_length]
    have ownk:∀ (k:Nat) (e:Abs),B.length≤k→(H.ll u)[k]? = some e→e.1=u:=fun k e h he=>by
     have a:=ok.top u k e hu he
     have b:=(ok.log u hu).mono (B.length-1) k l e (by omega) (by rw [← l3.c _ (by omega)];exact hl) he
     omega
    rcases says_first (H.ll u) B.length m with h | ⟨k1,p1,p2,p3,p4⟩
    ·have e:=conf_same H.first (H.ll u) B.length m (by omega) h
     exact no i (by omega) (V m i (by rw [e,eB];exact Near.refl _) ch.own hm1 hm2 hmo)
    ·have p3':=p3
     obtain ⟨e1,he1,he1'⟩:=p3'
     obtain ⟨n1,_⟩:=ok.cf u k1 e1 hu he1 he1' (ownk k1 e1 p1 he1)
     have ek1:=conf_same H.first (H.ll u) B.length k1 p1 p4
     rw [ek1,eB] at n1
     rcases says_first (H.ll u) (k1+1) m with h | ⟨k2,r1,r2,r3,r4⟩
     ·have e:=conf_same H.first (H.ll u) (k1+1) m (by omega) h
      exact no i (by omega) (V m i (by rw [e];exact n1) ch.own hm1 hm2 hmo)
     ·obtain ⟨e2,he2,he2'⟩:=r3
      obtain ⟨_,i',c1,c2,c3,c4⟩:=ok.cf u k2 e2 hu he2 he2' (ownk k2 e2 (by omega) he2)
      have ek2:=conf_same H.first (H.ll u) (k1+1) k2 r1 r4
      have:=c4 k1 (by omega) p3
      exact no i' (by omega) (V k2 i' (by rw [ek2];exact n1) c2 c1 (by omega) c3)
  ·have lt:l.1<t:=cd.old _ l hl
   have p:=IA l.1 u i (hR _ lt) l2 (by omega) ch
   have p2:Pre i (H.ll u) (H.ll l.1):=p.trans ((ok.ini l.1 l2).le p.b)
   have hi:i≤B.length:=by
    by_cases c:i≤B.length
    ·exact c
    ·exfalso
     have h1:=p2.c (B.length-1) (by omega)
     rw [← l3.c _ (by omega),hl] at h1
     have:=ok.top u _ l hu h1
     omega
   exact p2.trans (l3.le hi).symm
theorem chosen_stays (ok:HOk H):∀ (T:Nat) (t:Int),t.toNat=T→H.led t≠0→∀ u i,u<t→Chosen H u i→Pre i (H.ll u) (H.ini t):=by
 intro T
 induction T using Nat.strongRecOn with
 | _ T ihT =>
 intro t hT ht u i hut ch
 refine chosen_core ok (ok.cand ht) (fun w h=>h) (fun w u' i' hw lw huw c=>?_) _ u rfl hut i ch
 obtain ⟨k,e,_,h,he⟩:=c.own
 have:=((ok.log _ c.led).lm k e h).1
 exact ihT w.toNat (by omega) w rfl lw u' i' huw c
theorem chosen_in (ok:HOk H) {t u:Int} {i:Nat} (ht:H.led t≠0) (hut:u<t) (c:Chosen H u i):Pre i (H.ll u) (H.ini t):=chosen_stays ok _ t rfl ht u i hut c
theorem chosen_cand (ok:HOk H) {T u:Int} {B:List Abs} {Q:Int→Bool} {i:Nat} (cd:Cand H T (· ≤ T) B Q) (hut:u<T) (c:Chosen H u i):Pre i (H.ll u) B :=
 chosen_core ok cd (fun w h=>by omega) (fun w u' i' _ lw huw c=>chosen_in ok lw huw c) _ u rfl hut i c
theorem Cand.weak {T:Int} {B:List Abs} {Q:Int→Bool} (c:Cand H T (· < T) B Q):Cand H T (· ≤ T) B Q :=
 ⟨c.lm,c.mono,c.old,c.most,fun v hv u i a b d e=>(c.vow v hv u i a b d e).imp id fun ⟨w,w1,w2,w3⟩=>⟨w,w1,by omega,w3⟩⟩
theorem Cand.strict {T:Int} {B:List Abs} {Q:Int→Bool} (c:Cand H T (· ≤ T) B Q) (h:H.led T=0):Cand H T (· < T) B Q :=
 ⟨c.lm,c.mono,c.old,c.most,fun v hv u i a b d e=>(c.vow v hv u i a b d e).imp id fun ⟨w,w1,w2,w3⟩=>⟨w,w1,by
  have:w≠T:=fun x=>by subst x;exact w3.1 h
  omega,w3⟩⟩
theorem cands_meet (ok:HOk H) {T:Int} {A B:List Abs} {Q R:Int→Bool} (ca:Cand H T (· ≤ T) A Q) (cb:Cand H T (· ≤ T) B R):∃ n,Q n=true∧R n=true:=by
 obtain ⟨n,a,b⟩:=near_logs ok cb.lm cb.mono cb.old ca.lm ca.mono ca.old (fun u' i' h c=>chosen_cand ok cb h c) (fun u' i' h c=>chosen_cand ok ca h c) _ _ ca.most cb.most
 exact ⟨n,a,b⟩
end
section
def termAt (A:List Abs) (i:Nat):Int:=if i=0 then 0 else match A[i-1]? with
  | some e=>e.1
  | none=>0
theorem termAt_some {A:List Abs} {k:Nat} {e:Abs} (h:A[k]? = some e):termAt A (k+1)=e.1:=by
 unfold termAt;rw [if_neg (by omega),Nat.add_sub_cancel,h]
theorem Pre.termAt {i j:Nat} {A B:List Abs} (p:Pre i A B) (h:j≤i):termAt A j=termAt B j:=by
 unfold Go.Ah.termAt
 by_cases c:j=0
 ·rw [if_pos c,if_pos c]
 ·rw [if_neg c,if_neg c,p.c _ (by omega)]
structure Rep (L:LG) (A:List Abs):Prop where
  lo:0≤L.bi
  le:L.bi.toNat≤A.length
  es:L.es=A.drop L.bi.toNat
  bt:L.bt=termAt A L.bi.toNat
  ix:∀ (k:Nat) (e:Abs),A[k]? = some e→e.2.1=k+1
variable {L:LG} {A:List Abs}
theorem Rep.len (r:Rep L A):(L.es.length:Int)=A.length-L.bi:=by
 have:=r.le;have:=r.lo
 rw [r.es,List.length_drop];omega
theorem Rep.last (r:Rep L A):L.last=((A.length:Int),termAt A A.length):=by
 have hl:=r.le;have h0:=r.lo
 unfold LG.last
 rw [r.es]
 by_cases c:L.bi.toNat=A.length
 ·rw [List.drop_of_length_le (by omega)]
  simp only [List.getLast?_nil]
  rw [r.bt,c]
  exact Prod.ext (by show L.bi=_;omega) rfl
 ·have hk:A.length-1<A.length:=by omega
  have e1:(A.drop L.bi.toNat).getLast? = some A[A.length-1]:=by
   rw [List.getLast?_eq_getElem?,List.length_drop,List.getElem?_drop,show L.bi.toNat+(A.length-L.bi.toNat-1)=A.length-1 by omega]
   simp
  rw [e1]
  simp only []
  have e2:A[A.length-1]? = some A[A.length-1]:=by simp
  have:=r.ix _ _ e2
  have ht:=termAt_some e2
  rw [show A.length-1+1=A.length by omega] at ht
  exact Prod.ext (by show A[A.length-1].2.1=_;rw [this];omega) ht.symm
theorem Rep.spot (r:Rep L A) {i:Int} (h1:L.bi<i):L.spot i=A[(i-1).toNat]? := by
 have h0:=r.lo
 unfold LG.spot
 rw [if_pos h1,r.es,List.getElem?_drop,show L.bi.toNat+(i-L.bi-1).toNat=(i-1).toNat by omega]
theorem Rep.term_in (r:Rep L A) {i:Int} (h1:L.bi≤i) (h2:i≤A.length):L.term i=(termAt A i.toNat,0):=by
 have h0:=r.lo
 unfold LG.term
 by_cases c:i=L.bi
 ·rw [if_pos c,r.bt,c]
 ·rw [if_neg c,r.spot (by omega)]
  have:(i-1).toNat<A.length:=by omega
  obtain ⟨e,he⟩:∃ e,A[(i-1).toNat]? = some e:=⟨A[(i-1).toNat],by simp⟩
  rw [he]
  have ht:=termAt_some he
  rw [show (i-1).toNat+1=i.toNat by omega] at ht
  simp only [ht]
theorem Rep.term_out (r:Rep L A) {i:Int} (h:i<L.bi∨(A.length:Int)<i):L.term i=(0,9):=by
 have h0:=r.lo;have hl:=r.le
 unfold LG.term
 rw [if_neg (by omega)]
 by_cases c:L.bi<i
 ·rw [r.spot c,List.getElem?_eq_none (by omega)]
 ·unfold LG.spot;rw [if_neg c]
theorem Rep.has (r:Rep L A) (c:CoreM) (hc:c.log=L) (i t:Int):c.has i t=true↔L.bi≤i∧i≤A.length∧termAt A i.toNat=t:=by
 unfold CoreM.has
 rw [hc,decide_eq_true_iff]
 by_cases h:L.bi≤i∧i≤A.length
 ·rw [r.term_in h.1 h.2];simp [h]
 ·rw [r.term_out (by omega)];simp;omega
theorem Rep.slice (r:Rep L A) {i:Int} (h1:L.bi<i) (h2:i≤A.length+1):(L.slice i 8).1=(A.drop (i-1).toNat).take 8:=by
 have h0:=r.lo;have hl:=r.len
 unfold LG.slice
 rw [if_neg (by unfold LG.reach;simp;omega),if_neg (by omega),r.es,List.drop_drop,show L.bi.toNat+(i-L.bi-1).toNat=(i-1).toNat by omega]
 rfl
theorem Rep.cut (r:Rep L A) {i:Int} (h1:L.bi<i) (h2:i≤A.length+1):Rep (L.cut i).2 (A.take (i-1).toNat)∧(L.cut i).2.bi=L.bi:=by
 have h0:=r.lo;have hl:=r.le;have hn:=r.len
 unfold LG.cut
 rw [if_pos (by unfold LG.reach;simp;omega)]
 refine ⟨⟨h0,by simp only [List.length_take];omega,?_,?_,fun k e h=>?_⟩,rfl⟩
 ·simp only []
  rw [r.es,List.drop_take,show (i-1).toNat-L.bi.toNat=(i-L.bi-1).toNat by omega]
 ·simp only []
  rw [r.bt]
  exact (Pre.of_take (i:=L.bi.toNat) hl (by simp only [List.length_take];omega) (by rw [List.take_take,Nat.min_eq_left (by omega)])).termAt (Nat.le_refl _)
 ·rw [List.getElem?_take] at h
  split at h
  ·exact r.ix k e h
  ·cases h
theorem Rep.compact (r:Rep L A) {i:Int} (h1:L.bi<i) (h2:i≤A.length):(L.compact i).1=0∧Rep (L.compact i).2 A∧(L.compact i).2.bi=i:=by
 have h0:=r.lo;have hl:=r.le
 unfold LG.compact
 have:(i-1).toNat<A.length:=by omega
 obtain ⟨e,he⟩:∃ e,A[(i-1).toNat]? = some e:=⟨A[(i-1).toNat],by simp⟩
 have hx:=r.ix _ _ he
 have ht:=termAt_some he
 rw [r.spot h1,he]
 simp only []
 have hi:e.2.1=i:=by rw [hx];omega
 refine ⟨trivial,⟨by simp only [];omega,by simp only [];omega,?_,?_,r.ix⟩,hi⟩
 ·simp only []
  rw [r.es,List.drop_drop,hi,show L.bi.toNat+((i-L.bi-1).toNat+1)=i.toNat by omega]
 ·simp only []
  rw [hi,← ht,show (i-1).toNat+1=i.toNat by omega]
theorem Rep.new {A:List Abs} {i t:Int} (h0:0≤i) (hl:(A.length:Int)=i) (ht:termAt A A.length=t) (ix:∀ (k:Nat) (e:Abs),A[k]? = some e→e.2.1=k+1):Rep (lnew i t) A:=by
 have:i.toNat=A.length:=by omega
 exact ⟨h0,by show i.toNat≤_;omega,by show []=A.drop i.toNat;rw [this,List.drop_length],by show t=termAt A i.toNat;rw [this,ht],ix⟩
theorem aapp_ok2:∀ (xs:List Abs) (m:Int×Int),0≤m.1→(∀ (k:Nat) (e:Abs),xs[k]? = some e→e.2.1=m.1+1+k∧1≤e.1∧e.1≤9007199254740991∧e.2.1≤9007199254740991∧0≤e.2.2.1∧e.2.2.1≤2∧e.2.2.2.length≤1200) →
  (∀ (k:Nat) (e:Abs),xs[k]? = some e→m.2≤e.1)→(∀ (j k:Nat) (e f:Abs),j≤k→xs[j]? = some e→xs[k]? = some f→e.1≤f.1)→aapp m xs=0
 | [],m,_,_,_,_=>rfl
 | x::r,m,h0,h1,h2,h3=>by
  obtain ⟨a1,a2,a3,a4,a5,a6,a7⟩:=h1 0 x rfl
  have b:=h2 0 x rfl
  have hz:achk x m=0:=by
   unfold achk
   have n1:isNum x.1=true:=isNum_iff.2 ⟨a2,a3⟩
   have n2:isNum x.2.1=true:=isNum_iff.2 ⟨by rw [a1];simp;omega,a4⟩
   rw [if_neg (by rw [n1,n2];simp;omega),if_neg (by rw [a1];simp),if_neg (by omega)]
  unfold aapp
  rw [if_pos hz]
  refine aapp_ok2 r (x.2.1,x.1) (by show 0≤x.2.1;rw [a1];simp;omega) (fun k e he=>?_) (fun k e he=>h3 0 (k+1) x e (by omega) rfl (by simpa using he)) (fun j k e f hjk he hf=>h3 (j+1) (k+1) e f (by omega) (by simpa using he) (by simpa using hf))
  obtain ⟨c1,c2⟩:=h1 (k+1) e (by simpa using he)
  refine ⟨?_,c2⟩
  show e.2.1=x.2.1+1+k
  rw [c1,a1];simp;omega
theorem Rep.append (r:Rep L A) (xs:List Abs) (h:(L.append xs).1=0):Rep (L.append xs).2 (A++xs)∧(L.append xs).2.bi=L.bi:=by
 have h0:=r.lo;have hl:=r.le
 unfold LG.append at h ⊢
 split at h
 ·rename_i hz
  rw [if_pos hz]
  rw [r.last] at hz
  obtain ⟨i1,_,_⟩:=aapp_ok xs _ (by simp) hz
  refine ⟨⟨h0,by simp only [List.length_append];omega,?_,?_,fun k e he=>?_⟩,rfl⟩
  ·simp only []
   rw [r.es,List.drop_append_of_le_length hl]
  ·simp only []
   rw [r.bt]
   exact (Pre.append.le hl).termAt (Nat.le_refl _)
  ·rw [List.getElem?_append] at he
   split at he
   ·exact r.ix k e he
   ·rw [i1 _ e he];simp only [];omega
 ·rename_i hz;exact absurd h hz
theorem Rep.append_ok (r:Rep L A) (xs:List Abs) (hx:∀ (k:Nat) (e:Abs),xs[k]? = some e→e.2.1=A.length+1+k∧1≤e.1∧e.1≤9007199254740991∧e.2.1≤9007199254740991∧0≤e.2.2.1∧e.2.2.1≤2∧e.2.2.2.length≤1200)
  (hm:∀ (j k:Nat) (e f:Abs),j≤k→(A++xs)[j]? = some e→(A++xs)[k]? = some f→e.1≤f.1):(L.append xs).1=0:=by
 unfold LG.append
 have hxs:∀ (k:Nat) (e:Abs),xs[k]? = some e→(A++xs)[A.length+k]? = some e:=fun k e h=>by
  rw [List.getElem?_append_right (by omega),Nat.add_sub_cancel_left];exact h
 rw [if_pos]
 rw [r.last]
 refine aapp_ok2 xs _ (by simp) hx (fun k e he=>?_) fun j k e f hjk he hf=>hm _ _ e f (by omega) (hxs j e he) (hxs k f hf)
 show termAt A A.length≤e.1
 by_cases c:A.length=0
 ·unfold termAt;rw [if_pos c];have:=(hx k e he).2.1;omega
 ·obtain ⟨l,hl⟩:∃ l,A[A.length-1]? = some l:=⟨A[A.length-1],by simp⟩
  have ht:=termAt_some hl
  rw [show A.length-1+1=A.length by omega] at ht
  rw [ht]
  exact hm (A.length-1) (A.length+k) l e (by omega) (by rw [List.getElem?_append_left (by omega)];exact hl) (hxs k e he)
theorem crewIn_conf (r:Rep L A) (f:Int):∀ k:Nat,L.bi.toNat+k≤A.length →
  (match crewIn L k with | some x=>x.1 | none=>conf f (A.take L.bi.toNat))=conf f (A.take (L.bi.toNat+k)) ∧
  (match crewIn L k with | some x=>L.bi.toNat<x.2.toNat∧0≤x.2∧x.2.toNat≤L.bi.toNat+k∧(∀ j,Says A j→j<L.bi.toNat+k→j<x.2.toNat) | none=>∀ j,Says A j→j<L.bi.toNat+k→j<L.bi.toNat)
 | 0,_=>⟨by simp [crewIn],fun j _ h=>by omega⟩
 | k+1,h=>by
  have h0:=r.lo
  obtain ⟨ih1,ih2⟩:=crewIn_conf r f k (by omega)
  unfold crewIn
  have hk:L.bi.toNat+k<A.length:=by omega
  obtain ⟨e,he⟩:∃ e,A[L.bi.toNat+k]? = some e:=⟨A[L.bi.toNat+k],by simp⟩
  have hes:L.es[k]? = some e:=by rw [r.es,List.getElem?_drop];exact he
  rw [hes]
  simp only []
  have htk:A.take (L.bi.toNat+(k+1))=A.take (L.bi.toNat+k)++[e]:=by
   rw [← Nat.add_assoc,List.take_succ_eq_append_getElem hk,(List.getElem?_eq_some_iff.1 he).2]
  by_cases c:e.2.2.1=2
  ·rw [if_pos c,htk,conf_snoc,if_pos c]
   refine ⟨rfl,?_⟩
   simp only []
   refine ⟨by omega,by omega,by omega,fun j _ hj=>by omega⟩
  ·rw [if_neg c,htk,conf_snoc,if_neg c]
   refine ⟨ih1,?_⟩
   have ns:¬ Says A (L.bi.toNat+k):=fun ⟨e',h1,h2⟩=>by rw [he] at h1;cases h1;exact c h2
   cases hc:crewIn L k with
   | some x =>
    rw [hc] at ih2
    simp only [] at ih2 ⊢
    refine ⟨ih2.1,ih2.2.1,by omega,fun j sj hj=>?_⟩
    by_cases hj2:j=L.bi.toNat+k
    ·subst hj2;exact absurd sj ns
    ·exact ih2.2.2.2 j sj (by omega)
   | none =>
    rw [hc] at ih2
    simp only [] at ih2 ⊢
    intro j sj hj
    by_cases hj2:j=L.bi.toNat+k
    ·subst hj2;exact absurd sj ns
    ·exact ih2 j sj (by omega)
theorem crewUpTo_conf {c:CoreM} (r:Rep c.log A) (hs:c.snap.index=c.log.bi) (s1:0<c.log.bi→c.snap.crew=conf c.first (A.take c.log.bi.toNat)) {i:Int} (h1:c.log.bi≤i) (h2:i≤A.length) :
  (c.crewUpTo i).1=conf c.first (A.take i.toNat)∧∀ j,Says A j→j<i.toNat→j<(c.crewUpTo i).2.toNat∨j<c.log.bi.toNat:=by
 have h0:=r.lo
 obtain ⟨a,b⟩:=crewIn_conf r c.first (i-c.log.bi).toNat (by omega)
 rw [show c.log.bi.toNat+(i-c.log.bi).toNat=i.toNat by omega] at a b
 unfold CoreM.crewUpTo
 cases hc:crewIn c.log (i-c.log.bi).toNat with
 | some x =>
  rw [hc] at a b
  exact ⟨a,fun j sj hj => .inl (b.2.2.2 j sj hj)⟩
 | none =>
  rw [hc] at a b
  simp only [] at a b ⊢
  refine ⟨?_,fun j sj hj => .inr (b j sj hj)⟩
  by_cases hz:0<c.snap.index
  ·rw [if_pos hz,← a];exact s1 (by omega)
  ·rw [if_neg hz,← a,show c.log.bi.toNat=0 by omega];rfl
end
structure Fv (α:Type) where
  b1:α
  b2:α
  b3:α
  b4:α
  b5:α
def Fv.get {α:Type} (f:Fv α) (n:Int):α:=if n=1 then f.b1 else if n=2 then f.b2 else if n=3 then f.b3 else if n=4 then f.b4 else f.b5
def Fv.set {α:Type} (f:Fv α) (n:Int) (x:α):Fv α :=
  ⟨if n=1 then x else f.b1,if n=2 then x else f.b2,if n=3 then x else f.b3,if n=4 then x else f.b4,if n=5 then x else f.b5⟩
theorem Fv.get_set {α:Type} (f:Fv α) (n m:Int) (x:α) (h1:1≤m) (h2:m≤5):(f.set n x).get m=if m=n then x else f.get m:=by
 have:m=1∨m=2∨m=3∨m=4∨m=5:=by omega
 rcases this with rfl | rfl | rfl | rfl | rfl <;> simp [Fv.set,Fv.get,eq_comm]
def alook {α:Type} (k:Int):List (Int×α)→Option α
  | []=>none
  | (j,x)::r=>if j=k then some x else alook k r
def aset {α:Type} (k:Int) (x:α):List (Int×α)→List (Int×α)
  | []=>[(k,x)]
  | (j,y)::r=>if j=k then (j,x)::r else (j,y)::aset k x r
theorem alook_aset {α:Type} (k m:Int) (x:α):∀ l:List (Int×α),alook m (aset k x l)=if m=k then some x else alook m l
 | []=>by
  simp only [aset,alook]
  by_cases h:m=k
  ·simp [h]
  ·rw [if_neg (fun c=>h c.symm),if_neg h]
 | (j,y)::r=>by
  simp only [aset]
  by_cases h:j=k
  ·rw [if_pos h]
   simp only [alook]
   by_cases h2:m=k
   ·rw [if_pos (by omega),if_pos h2]
   ·rw [if_neg (by omega),if_neg h2,if_neg (by omega)]
  ·rw [if_neg h]
   simp only [alook]
   by_cases h2:j=m
   ·rw [if_pos h2,if_neg (by omega),if_pos h2]
   ·rw [if_neg h2,alook_aset k m x r,if_neg h2]
structure NetM where
  size:Int
  cores:Fv CoreM
  kept:Fv SavedM
  mails:List PostM
  fine:Bool
  leaders:List (Int×Int)
  chosen:List (Int×Abs)
  commits:Five
  terms:Five
  draw:Int
structure StepM where
  op:Int
  a:Int
  b:Int
def crew0:Int:=14
def afterE (i t:Int):List Abs→List Abs
  | []=>[]
  | e::r=>if e.2.1=i∧e.1=t then r else afterE i t r
def snappedM (s:SavedM) (t:SnapM):SavedM:={s with snap:=t,entries:=afterE t.index t.term s.entries}
def agreeI (o:Option Int) (y:Int):Bool:=match o with
  | none=>true
  | some x=>decide (x=y)
def agreeE (o:Option Abs) (y:Abs):Bool:=match o with
  | none=>true
  | some x=>decide (x=y)
def lookEs (commit:Int):List Abs→Bool×List (Int×Abs)→Bool×List (Int×Abs)
  | [],r=>r
  | e::l,(f,ch)=>if commit<e.2.1 then (f,ch) else lookEs commit l (f&&agreeE (alook e.2.1 ch) e,aset e.2.1 e ch)
def NetM.look (x:NetM) (n:Int):NetM :=
  let c:=x.cores.get n
  let s:=x.kept.get n
  let f1:=if c.state=2 then agreeI (alook c.term x.leaders) n else true
  let ls:=if c.state=2 then aset c.term n x.leaders else x.leaders
  let f2:=decide (x.commits.get n≤c.commit)&&decide (x.terms.get n≤c.term)
  let r:=lookEs c.commit s.entries (x.fine&&f1&&f2,x.chosen)
  {x with fine:=r.1&&decide (c.commit≤s.snap.index+s.entries.length),leaders:=ls,chosen:=r.2,commits:=x.commits.set n c.commit,terms:=x.terms.set n c.term}
def keptM (s:SavedM) (o:OutM):SavedM :=
  let s:=if o.hard=true then {s with term:=o.term,vote:=o.vote} else s
  let s:=if 0<o.snap.index then snappedM s o.snap else s
  let s:=if 0<o.cut then {s with entries:=s.entries.take (o.cut-s.snap.index-1).toNat} else s
  {s with entries:=s.entries++o.entries}
def keptOk (s:SavedM) (o:OutM):Bool :=
  let s:=if o.hard=true then {s with term:=o.term,vote:=o.vote} else s
  let f:=decide (s.term=o.term)&&decide (s.vote=o.vote)
  let s:=if 0<o.snap.index then snappedM s o.snap else s
  if 0<o.cut then f&&decide (s.snap.index<o.cut)&&decide (o.cut≤s.snap.index+s.entries.length) else f
def NetM.keep (x:NetM) (n:Int) (o:OutM):NetM :=
  let x:={x with fine:=x.fine&&keptOk (x.kept.get n) o,kept:=x.kept.set n (keptM (x.kept.get n) o)}
  let x:=if x.mails.length+o.posts.length<400 then {x with mails:=x.mails++o.posts} else x
  x.look n
def NetM.out (x:NetM) (n:Int) (c:CoreM):NetM:=({x with cores:=x.cores.set n c.done.1}).keep n c.done.2
def NetM.tick (x:NetM) (n d:Int):NetM:=x.out n ((x.cores.get n).tick d)
def NetM.propose (x:NetM) (n kind:Int) (data:List Int):NetM :=
  if (x.cores.get n).proposeE kind data=0 then x.out n ((x.cores.get n).propose kind data) else x
def NetM.read (x:NetM) (n:Int):NetM:=if (x.cores.get n).readE=0 then x.out n (x.cores.get n).read else x
def NetM.take (x:NetM) (p:PostM) (d:Int):NetM :=
  if (x.cores.get p.dst).takes p=true then x.out p.dst ((x.cores.get p.dst).take p d) else {x with fine:=false}
def NetM.again (x:NetM) (n:Int):NetM :=
  if cnewOk n crew0 (x.kept.get n) (x.draw % 7)=true then {x with cores:=x.cores.set n (cnew n crew0 (x.kept.get n) (x.draw % 7)),commits:=x.commits.set n (x.kept.get n).snap.index}
  else {x with fine:=false}
def flip (c k:Int):Int:=((c.toNat ^^^ 2^k.toNat:Nat):Int)
def NetM.change (x:NetM) (n b:Int):NetM:=x.propose n 2 [flip (x.cores.get n).crewNow.1 (1+bring b x.size) % 256]
def NetM.compact (x:NetM) (n:Int):NetM :=
  let c:=x.cores.get n
  let data:=[c.commit % 256]
  if c.compactE c.commit data=0 then {x with cores:=x.cores.set n (c.compact c.commit data),kept:=x.kept.set n (snappedM (x.kept.get n) (c.compact c.commit data).snap)} else x
def dropN {α:Type} (l:List α) (i:Nat):List α:=l.take i++l.drop (i+1)
def NetM.tickAll (x:NetM):NetM:=(List.range x.size.toNat).foldl (fun (y:NetM) (k:Nat)=>y.tick ((k:Int)+1) (x.draw+(k:Int)+1)) x
def NetM.step (y:NetM) (s:StepM):NetM :=
  let x:={y with draw:=(y.draw*7+s.b % 1024+3) % 100003}
  let n:=1+bring s.a x.size
  let i:=(bring s.a x.mails.length).toNat
  let op:=bring s.op 10
  if op=0 then (match x.mails[i]? with | none=>x | some p=>({x with mails:=dropN x.mails i}).take p x.draw)
  else if op=1 then x.tick n x.draw
  else if op=2 then x.propose n 1 [s.b % 256,x.draw % 256]
  else if op=3 then (if x.mails=[] then x else {x with mails:=dropN x.mails i})
  else if op=4 then (match x.mails[i]? with | none=>x | some p=>if x.mails.length<300 then {x with mails:=x.mails++[p]} else x)
  else if op=5 then x.again n
  else if op=6 then x.change n s.b
  else if op=7 then x.read n
  else if op=8 then x.compact n
  else x.tickAll
def NetM.drain:Nat→NetM→NetM
  | 0,x=>x
  | k+1,x=>match x.mails with
    | []=>x
    | _::_=>NetM.drain k (x.step ⟨0,0,0⟩)
def NetM.rests:Nat→Int→NetM→NetM
  | 0,_,x=>x
  | k+1,t,x=>NetM.rests k (t+1) ((x.drain 2000).step ⟨9,0,t⟩)
def NetM.rest (x:NetM) (ticks:Nat):NetM:=x.rests ticks 0
def newNetM (size:Int):NetM :=
  ⟨3+bring size 3,⟨cnew 1 crew0 saved0 1,cnew 2 crew0 saved0 2,cnew 3 crew0 saved0 3,cnew 4 crew0 saved0 4,cnew 5 crew0 saved0 5⟩,⟨saved0,saved0,saved0,saved0,saved0⟩,[],true,[],[],five0,five0,0⟩
def awakeM1 (n:Int) (r:NetM×Int):NetM×Int :=
  if (r.1.cores.get n).state=2 then
    ((r.1.propose n 1 [120]).rest 6,if (r.1.cores.get n).proposeE 1 [120]=0 then (r.1.cores.get n).log.last.1+1 else 0)
  else r
def awakeM:Bool :=
  let r:=awakeM1 3 (awakeM1 2 (awakeM1 1 ((newNetM 0).rest 40,0)))
  r.1.fine&&decide (1<r.2)&&decide ((r.1.cores.get 1).commit=r.2)&&decide ((r.1.cores.get 2).commit=r.2)&&decide ((r.1.cores.get 3).commit=r.2)
section
structure Gh where
  size:Int
  lim:Int
  H:Hist
  tm:Int→Int
  vt:Int→Int→Int
  cand:Int→Int→List Abs
def Com (H:Hist) (T:Int) (c:Nat) (A:List Abs):Prop:=c=0∨∃ u i,Chosen H u i∧u≤T∧c≤i∧Pre c A (H.ll u)
def Vl (H:Hist) (n T:Int) (A:List Abs):Prop:=∀ u i,u≤T→H.led u≠0→Own1 H u i→i≤H.acc n u→Pre i (H.ll u) A∨∃ w,u<w∧w≤T∧H.led w≠0∧¬ Pre i (H.ll u) (H.ini w)
structure EOk (size:Int) (e:Abs):Prop where
  k0:0≤e.2.2.1
  k2:e.2.2.1≤2
  len:e.2.2.2.length≤1200
  by_:∀ x∈e.2.2.2,0≤x∧x<256
  cr:e.2.2.1=2→crewOk e=true∧∀ n∈ls (m5 (crewNum e)),n≤size
structure Wld (g:Gh):Prop where
  ok:HOk g.H
  first:g.H.first=14
  sz3:3≤g.size
  sz5:g.size≤5
  led:∀ t,g.H.led t≠0→1≤t∧t≤g.tm (g.H.led t)∧1≤g.H.led t∧g.H.led t≤g.size
  ll0:∀ t,g.H.led t=0→g.H.ll t=[]
  acc:∀ n u,g.H.acc n u≤(g.H.ll u).length
  acc0:∀ n u,0<g.H.acc n u→u≤g.tm n
  accL:∀ t,g.H.led t≠0→g.H.acc (g.H.led t) t=(g.H.ll t).length
  q:∀ t v,g.H.led t≠0→g.H.q t v=true→g.vt v t=g.H.led t
  vt:∀ n t,g.vt n t≠0→t≤g.tm n
  eok:∀ t,∀ e∈g.H.ll t,EOk g.size e
  ix:∀ t (k:Nat) (e:Abs),(g.H.ll t)[k]? = some e→e.2.1=k+1
  cg:∀ t s,s≠0→g.vt s t=s→Good g.H (g.cand t s)∧∀ (k:Nat) (e:Abs),(g.cand t s)[k]? = some e→e.1<t
  l1:∀ n,1≤n→n≤g.size→g.tm n≤g.lim
  l2:∀ t,((g.H.ll t).length:Int)≤g.lim
  l3:g.lim≤100000000
structure Srv (g:Gh) (n:Int) (c:CoreM) (A:List Abs):Prop where
  n1:1≤n
  n2:n≤g.size
  self:c.self=n
  first:c.first=14
  tm:c.term=g.tm n
  t0:0≤c.term
  rep:Rep c.log A
  si:c.snap.index=c.log.bi
  s0:c.log.bi=0→c.snap=snap0
  s1:0<c.log.bi→c.snap.term=c.log.bt∧c.snap.crew=conf 14 (A.take c.log.bi.toNat)
  sd:c.snap.data.length≤8192
  good:Good g.H A
  low:∀ (k:Nat) (e:Abs),A[k]? = some e→e.1≤c.term
  eok:∀ e∈A,EOk g.size e
  al:(A.length:Int)≤g.lim
  vl:Vl g.H n c.term A
  c0:c.log.bi≤c.commit
  c1:c.commit≤A.length
  com:Com g.H c.term c.commit.toNat A
  vote:c.vote=g.vt n c.term
  vr0:0≤c.vote
  vr1:c.vote≤5
  st:c.state=0∨c.state=1∨c.state=2
  lead:c.state=2→g.H.led c.term=n∧g.H.ll c.term=A∧(∀ m,1≤m→m≤5→0≤c.mtch.get m∧(c.mtch.get m).toNat≤g.H.acc m c.term)∧∀ m,1≤m→m≤5→1≤c.next.get m∧c.next.get m≤A.length+1
  lc:c.state=2→1≤c.commit→termAt A c.commit.toNat=c.term→Chosen g.H c.term c.commit.toNat
  cand:c.state=1→g.H.led c.term≠n∧g.vt n c.term=n∧g.cand c.term n=A∧(∀ (k:Nat) (e:Abs),A[k]? = some e→e.1<c.term)∧1≤c.term∧∀ s,hasB c.votes s=true→g.vt s c.term=n∧Vow g.H s c.term (· ≤ c.term) A
  idle:c.state≠2→c.next=five0∧c.mtch=five0∧c.reads=[]
  q1:0≤c.quiet
  q2:c.quiet≤10
  w1:1≤c.wait
  w2:c.wait≤19
  b0:c.state=2→1≤c.beat
  b1:0≤c.beat
  b2:c.beat≤2
  v1:0≤c.votes
  v2:c.votes<64
  r1:0≤c.round
  r2:c.round≤g.lim
  rl:(c.reads.length:Int)≤g.lim
structure Msg (g:Gh) (p:PostM):Prop where
  s1:1≤p.src
  s2:p.src≤g.size
  d1:1≤p.dst
  d2:p.dst≤g.size
  ne:p.src≠p.dst
  t1:1≤p.term
  t2:p.term≤g.tm p.src
  h0:0≤p.hint
  h1:p.hint≤g.lim
  body:(p.kind=1∧p={post0 with kind:=1,src:=p.src,dst:=p.dst,term:=p.term,index:=p.index,logTerm:=p.logTerm}∧g.vt p.src p.term=p.src∧p.index=(g.cand p.term p.src).length∧p.logTerm=termAt (g.cand p.term p.src) (g.cand p.term p.src).length∧p.index≤g.lim) ∨
    (p.kind=2∧p={post0 with kind:=2,src:=p.src,dst:=p.dst,term:=p.term,ok:=p.ok}∧(p.ok=true→g.vt p.src p.term=p.dst∧g.vt p.dst p.term=p.dst∧Vow g.H p.src p.term (· ≤ p.term) (g.cand p.term p.dst))) ∨
    (p.kind=3∧p={post0 with kind:=3,src:=p.src,dst:=p.dst,term:=p.term,index:=p.index,logTerm:=p.logTerm,commit:=p.commit,hint:=p.hint,entries:=p.entries}∧g.H.led p.term=p.src∧0≤p.index∧p.index≤(g.H.ll p.term).length∧p.logTerm=termAt (g.H.ll p.term) p.index.toNat ∧
      p.entries.length≤8∧p.index+p.entries.length≤(g.H.ll p.term).length∧p.entries=((g.H.ll p.term).drop p.index.toNat).take p.entries.length∧0≤p.commit∧p.commit≤(g.H.ll p.term).length∧Com g.H p.term p.commit.toNat (g.H.ll p.term)) ∨
    (p.kind=4∧p={post0 with kind:=4,src:=p.src,dst:=p.dst,term:=p.term,ok:=p.ok,index:=p.index,hint:=p.hint}∧0≤p.index∧p.index≤g.lim∧(p.ok=true→p.index.toNat≤g.H.acc p.src p.term)) ∨
    (p.kind=5∧p={post0 with kind:=5,src:=p.src,dst:=p.dst,term:=p.term,hint:=p.hint,snap:=p.snap}∧g.H.led p.term=p.src∧1≤p.snap.index∧p.snap.index≤(g.H.ll p.term).length∧p.snap.term=termAt (g.H.ll p.term) p.snap.index.toNat ∧
      p.snap.crew=conf 14 ((g.H.ll p.term).take p.snap.index.toNat)∧p.snap.data.length≤8192∧Com g.H p.term p.snap.index.toNat (g.H.ll p.term)) ∨
    (p.kind=6∧p={post0 with kind:=6,src:=p.src,dst:=p.dst,term:=p.term,index:=p.index,hint:=p.hint}∧0≤p.index∧p.index≤g.lim∧p.index.toNat≤g.H.acc p.src p.term)
structure Ext (n:Int) (g g':Gh):Prop where
  size:g'.size=g.size
  lim:g.lim≤g'.lim
  first:g'.H.first=g.H.first
  tm:∀ m,m≠n→g'.tm m=g.tm m
  tmn:g.tm n≤g'.tm n
  vt:∀ m t,g.vt m t≠0→g'.vt m t=g.vt m t
  vtn:∀ m t,m≠n→g'.vt m t=g.vt m t
  cand:∀ t m,g.vt m t=m→m≠0→g'.cand t m=g.cand t m
  led:∀ t,g.H.led t≠0→g'.H.led t=g.H.led t∧g'.H.ini t=g.H.ini t∧Pre (g.H.ll t).length (g.H.ll t) (g'.H.ll t)
  new:∀ t,g.H.led t=0→g'.H.led t≠0→g'.H.led t=n
  ll:∀ t,g.H.led t≠0→g.H.led t≠n→g'.H.ll t=g.H.ll t
  acc:∀ m u,g.H.acc m u≤g'.H.acc m u
  accn:∀ m u,m≠n∨u<g.tm n→g'.H.acc m u=g.H.acc m u
theorem Ext.refl (n:Int) (g:Gh):Ext n g g :=
 ⟨rfl,Int.le_refl _,rfl,fun _ _=>rfl,Int.le_refl _,fun _ _ _=>rfl,fun _ _ _=>rfl,fun _ _ _ _=>rfl,fun _ _=>⟨rfl,rfl,Pre.refl (Nat.le_refl _)⟩,fun t h h'=>absurd h h',fun _ _ _=>rfl,fun _ _=>Nat.le_refl _,fun _ _ _=>rfl⟩
theorem Ext.trans {n:Int} {a b c:Gh} (x:Ext n a b) (y:Ext n b c):Ext n a c:=by
 refine ⟨y.size.trans x.size,Int.le_trans x.lim y.lim,y.first.trans x.first,fun m h=>(y.tm m h).trans (x.tm m h),Int.le_trans x.tmn y.tmn,fun m t h=>?_,fun m t h=>(y.vtn m t h).trans (x.vtn m t h),fun t m h h0=>?_,fun t h=>?_,fun t h h'=>?_,fun t h h'=>?_,fun m u=>Nat.le_trans (x.acc m u) (y.acc m u),fun m u h=>?_⟩
 ·have e:=x.vt m t h
  rw [← e];exact y.vt m t (by rw [e];exact h)
 ·have e:=x.vt m t (by rw [h];exact h0)
  rw [y.cand t m (by rw [e];exact h) h0,x.cand t m h h0]
 ·obtain ⟨a1,a2,a3⟩:=x.led t h
  obtain ⟨b1,b2,b3⟩:=y.led t (by rw [a1];exact h)
  exact ⟨b1.trans a1,b2.trans a2,a3.trans (b3.le a3.b)⟩
 ·by_cases hb:b.H.led t=0
  ·exact y.new t hb h'
  ·rw [(y.led t hb).1];exact x.new t h hb
 ·obtain ⟨a1,_,_⟩:=x.led t h
  rw [y.ll t (by rw [a1];exact h) (by rw [a1];exact h'),x.ll t h h']
 ·rw [y.accn m u (h.imp id fun h=>Int.lt_of_lt_of_le h x.tmn),x.accn m u h]
theorem mostOf_mono {c:Int} {p q:Int→Bool} (h:∀ n,p n=true→q n=true) (m:mostOf c p=true):mostOf c q=true:=by
 simp only [mostOf,decide_eq_true_eq] at m ⊢
 have:((ls (m5 c)).filter p).length≤((ls (m5 c)).filter q).length:=by
  generalize ls (m5 c)=l
  induction l with
  | nil=>simp
  | cons x r ih =>
   rw [List.filter_cons,List.filter_cons]
   by_cases c1:p x=true
   ·rw [if_pos c1,if_pos (h x c1)];simp;exact ih
   ·rw [if_neg c1]
    split
    ·simp;omega
    ·exact ih
 omega
section
variable {n:Int} {g g':Gh}
theorem Ext.own (x:Ext n g g') {u:Int} {i:Nat} (h:g.H.led u≠0) (o:Own1 g.H u i):Own1 g'.H u i:=by
 obtain ⟨k,e,rfl,h1,h2⟩:=o
 exact ⟨k,e,rfl,by rw [← (x.led u h).2.2.c k (List.getElem?_eq_some_iff.1 h1).1];exact h1,h2⟩
theorem Ext.own' (x:Ext n g g') {u:Int} {i:Nat} (h:g.H.led u≠0) (hi:i≤(g.H.ll u).length) (o:Own1 g'.H u i):Own1 g.H u i:=by
 obtain ⟨k,e,rfl,h1,h2⟩:=o
 exact ⟨k,e,rfl,by rw [(x.led u h).2.2.c k (by omega)];exact h1,h2⟩
theorem Ext.chosen (x:Ext n g g') {u:Int} {i:Nat} (c:Chosen g.H u i):Chosen g'.H u i:=by
 obtain ⟨m,h1,h2,h3⟩:=c.most
 obtain ⟨a,b,p⟩:=x.led u c.led
 refine ⟨by rw [a];exact c.led,x.own c.led c.own,m,h1,Nat.le_trans h2 p.b,?_⟩
 rw [x.first,← p.take_le h2]
 exact mostOf_mono (fun k hk=>by simp only [Acked,decide_eq_true_eq] at hk ⊢;exact Nat.le_trans hk (x.acc k u)) h3
theorem Ext.com (x:Ext n g g') {T T':Int} {c:Nat} {A:List Abs} (hT:T≤T') (k:Com g.H T c A):Com g'.H T' c A :=
 k.imp id fun ⟨u,i,ch,hu,hi,p⟩=>⟨u,i,x.chosen ch,by omega,hi,p.trans ((x.led u ch.led).2.2.le p.b)⟩
theorem Ext.good (x:Ext n g g') {A:List Abs} (k:Good g.H A):Good g'.H A :=
 ⟨fun j e h=>by
  obtain ⟨a,b,c⟩:=k.lm j e h
  obtain ⟨d,_,p⟩:=x.led e.1 b
  exact ⟨a,by rw [d];exact b,c.trans (p.le c.b)⟩,k.mono⟩
theorem Ext.pre (x:Ext n g g') {u:Int} {i:Nat} {A:List Abs} (h:g.H.led u≠0) (p:Pre i (g.H.ll u) A):Pre i (g'.H.ll u) A:=((x.led u h).2.2.le p.a).symm.trans p
theorem Ext.npre (x:Ext n g g') {u w:Int} {i:Nat} (h:g.H.led u≠0) (hw:g.H.led w≠0) (hi:i≤(g.H.ll u).length) (p:¬ Pre i (g.H.ll u) (g.H.ini w)):¬ Pre i (g'.H.ll u) (g'.H.ini w):=fun c=>by
 rw [(x.led w hw).2.1] at c
 exact p (((x.led u h).2.2.le hi).trans c)
theorem Ext.vow (w:Wld g) (x:Ext n g g') {v t:Int} {R:Int→Prop} {L:List Abs} (hv:t≤g.tm v) (k:Vow g.H v t R L):Vow g'.H v t R L:=by
 intro u i hu hl ho hi
 obtain ⟨_,_,hik,_,_⟩:=id ho
 have ha:g'.H.acc v u=g.H.acc v u:=x.accn v u (by
  by_cases c:v=n
  ·subst c;exact .inr (by omega)
  ·exact .inl c)
 rw [ha] at hi
 have hacc:=w.acc v u
 have hlu:g.H.led u≠0:=fun c=>by
  rw [w.ll0 u c] at hacc
  simp at hacc
  omega
 rcases k u i hu hlu (x.own' hlu (by omega) ho) hi with p | ⟨z,z1,z2,z3,z4⟩
 ·exact .inl (x.pre hlu p)
 ·exact .inr ⟨z,z1,z2,by rw [(x.led z z3).1];exact z3,x.npre hlu z3 (by omega) z4⟩
theorem Ext.vl (w:Wld g) (x:Ext n g g') {m T:Int} {A:List Abs} (hm:m≠n) (k:Vl g.H m T A):Vl g'.H m T A:=by
 intro u i hu hl ho hi
 obtain ⟨_,_,hik,_,_⟩:=id ho
 have ha:g'.H.acc m u=g.H.acc m u:=x.accn m u (.inl hm)
 rw [ha] at hi
 have hacc:=w.acc m u
 have hlu:g.H.led u≠0:=fun c=>by
  rw [w.ll0 u c] at hacc
  simp at hacc
  omega
 rcases k u i hu hlu (x.own' hlu (by omega) ho) hi with p | ⟨z,z1,z2,z3,z4⟩
 ·exact .inl (x.pre hlu p)
 ·exact .inr ⟨z,z1,z2,by rw [(x.led z z3).1];exact z3,x.npre hlu z3 (by omega) z4⟩
theorem Ext.srv (w:Wld g) (x:Ext n g g') {m:Int} {c:CoreM} {A:List Abs} (hm:m≠n) (k:Srv g m c A):Srv g' m c A:=by
 have hlim:=x.lim
 refine ⟨k.n1,by rw [x.size];exact k.n2,k.self,k.first,by rw [x.tm m hm];exact k.tm,k.t0,k.rep,k.si,k.s0,k.s1,k.sd,x.good k.good,k.low,by rw [x.size];exact k.eok,by have:=k.al;omega,x.vl w hm k.vl,k.c0,k.c1,x.com (Int.le_refl _) k.com,
  by rw [x.vtn m _ hm];exact k.vote,k.vr0,k.vr1,k.st,fun h=>?_,fun h h1 h2=>x.chosen (k.lc h h1 h2),fun h=>?_,k.idle,k.q1,k.q2,k.w1,k.w2,k.b0,k.b1,k.b2,k.v1,k.v2,k.r1,by have:=k.r2;omega,by have:=k.rl;omega⟩
 ·obtain ⟨a,b,d,e⟩:=k.lead h
  have hn0:g.H.led c.term≠0:=by rw [a];have:=k.n1;omega
  refine ⟨(x.led _ hn0).1.trans a,(x.ll _ hn0 (by rw [a];exact hm)).trans b,fun j j1 j2=>⟨(d j j1 j2).1,Nat.le_trans (d j j1 j2).2 (x.acc _ _)⟩,e⟩
 ·obtain ⟨a,b,d,e1,e2,e⟩:=k.cand h
  refine ⟨fun z=>?_,(x.vtn m _ hm).trans b,(x.cand _ _ b (by have:=k.n1;omega)).trans d,e1,e2,fun s hs=>?_⟩
  ·by_cases hl:g.H.led c.term=0
   ·have:=x.new _ hl (by rw [z];have:=k.n1;omega)
    rw [z] at this;exact hm this
   ·rw [(x.led _ hl).1] at z;exact a z
  ·obtain ⟨y1,y2⟩:=e s hs
   have hv:g.vt s c.term≠0:=by rw [y1];have:=k.n1;omega
   exact ⟨(x.vt s _ hv).trans y1,x.vow w (w.vt s _ hv) y2⟩
theorem Ext.msg (w:Wld g) (x:Ext n g g') {p:PostM} (k:Msg g p):Msg g' p:=by
 have hlim:=x.lim
 have htm:g.tm p.src≤g'.tm p.src:=by
  by_cases c:p.src=n
  ·rw [c];exact x.tmn
  ·rw [x.tm _ c];exact Int.le_refl _
 have hs0:p.src≠0:=by have:=k.s1;omega
 have hd0:p.dst≠0:=by have:=k.d1;omega
 refine ⟨k.s1,by rw [x.size];exact k.s2,k.d1,by rw [x.size];exact k.d2,k.ne,k.t1,Int.le_trans k.t2 htm,k.h0,Int.le_trans k.h1 hlim,?_⟩
 rcases k.body with ⟨a,b,c,d,e,f⟩ | ⟨a,b,c⟩ | ⟨a,b,c,d1,d2,d3,e1,e2,e3,f1,f2,f3⟩ | ⟨a,b,c,d,e⟩ | ⟨a,b,c,d1,d2,d3,d4,d5,d6⟩ | ⟨a,b,c,d,e⟩
 ·refine .inl ⟨a,b,(x.vt _ _ (by rw [c];exact hs0)).trans c,?_,?_,by omega⟩
  ·rw [x.cand _ _ c hs0];exact d
  ·rw [x.cand _ _ c hs0];exact e
 ·refine .inr (.inl ⟨a,b,fun h=>?_⟩)
  obtain ⟨c1,c2,c3⟩:=c h
  have hv:g.vt p.src p.term≠0:=by rw [c1];exact hd0
  refine ⟨(x.vt _ _ hv).trans c1,(x.vt _ _ (by rw [c2];exact hd0)).trans c2,?_⟩
  rw [x.cand _ _ c2 hd0]
  exact x.vow w (w.vt _ _ hv) c3
 ·have hl0:g.H.led p.term≠0:=by rw [c];exact hs0
  obtain ⟨y1,y2,y3⟩:=x.led _ hl0
  refine .inr (.inr (.inl ⟨a,b,y1.trans c,d1,by have:=y3.b;omega,by rw [d3];exact y3.termAt (by omega),e1,by have:=y3.b;omega,?_,f1,by have:=y3.b;omega,?_⟩))
  ·apply List.ext_getElem?
   intro j
   have e4:=congrArg (fun l=>l[j]?) e3
   simp only [List.getElem?_take,List.getElem?_drop] at e4 ⊢
   rw [e4]
   split
   ·exact y3.c _ (by omega)
   ·rfl
  ·have z:=x.com (Int.le_refl _) f3
   exact z.imp id fun ⟨u,i,ch,hu,hi,p'⟩=>⟨u,i,ch,hu,hi,(y3.le p'.a).symm.trans p'⟩
 ·exact .inr (.inr (.inr (.inl ⟨a,b,c,by omega,fun h=>Nat.le_trans (e h) (x.acc _ _)⟩)))
 ·have hl0:g.H.led p.term≠0:=by rw [c];exact hs0
  obtain ⟨y1,y2,y3⟩:=x.led _ hl0
  refine .inr (.inr (.inr (.inr (.inl ⟨a,b,y1.trans c,d1,by have:=y3.b;omega,by rw [d3];exact y3.termAt (by omega),by rw [d4,y3.take_le (by omega)],d5,?_⟩))))
  have z:=x.com (Int.le_refl _) d6
  exact z.imp id fun ⟨u,i,ch,hu,hi,p'⟩=>⟨u,i,ch,hu,hi,(y3.le p'.a).symm.trans p'⟩
 ·exact .inr (.inr (.inr (.inr (.inr ⟨a,b,c,by omega,Nat.le_trans e (x.acc _ _)⟩))))
end
theorem Com.in_ {g:Gh} (w:Wld g) {T t:Int} {c:Nat} {A:List Abs} (k:Com g.H T c A) (hl:g.H.led t≠0) (hT:T≤t) (hA:c≤A.length):Pre c A (g.H.ll t):=by
 rcases k with rfl | ⟨u,i,ch,hu,hi,p⟩
 ·exact ⟨by omega,by omega,fun k hk=>by omega⟩
 ·by_cases e:u=t
  ·rw [e] at p;exact p
  ·have:=chosen_in w.ok hl (by omega) ch
   exact p.trans ((this.trans ((w.ok.ini t hl).le this.b)).le hi)
theorem Com.com {g:Gh} (w:Wld g) {T T':Int} {c d:Nat} {A B:List Abs} (k:Com g.H T c A) (k':Com g.H T' d B) (hA:c≤A.length) (hB:d≤B.length) (hcd:c≤d):Pre c A B:=by
 rcases k with rfl | ⟨u,i,ch,hu,hi,p⟩
 ·exact ⟨by omega,by omega,fun k hk=>by omega⟩
 ·rcases k' with rfl | ⟨u',i',ch',hu',hi',p'⟩
  ·exact ⟨by omega,by omega,fun k hk=>by omega⟩
  ·have hij:Pre c (g.H.ll u) (g.H.ll u'):=by
    by_cases e:u=u'
    ·rw [e];rw [e] at p;exact Pre.refl p.b
    ·by_cases l:u<u'
     ·have:=chosen_in w.ok ch'.led l ch
      exact (this.trans ((w.ok.ini u' ch'.led).le this.b)).le hi
     ·have:=chosen_in w.ok ch.led (by omega) ch'
      exact (this.trans ((w.ok.ini u ch.led).le this.b)).symm.le (by omega)
   exact p.trans (hij.trans (p'.le hcd).symm)
end
section
structure Kp (s:SavedM) (c:CoreM):Prop where
  hard:c.out.hard=false→s.term=c.term∧s.vote=c.vote
  log:(c.out.snap.index=0∧c.out.cut=0∧c.snap=s.snap∧c.log.es=s.entries++c.out.entries) ∨
    (c.out.snap.index=0∧0<c.out.cut∧s.snap.index<c.out.cut∧c.out.cut≤s.snap.index+s.entries.length∧c.snap=s.snap∧c.log.es=s.entries.take (c.out.cut-s.snap.index-1).toNat++c.out.entries) ∨
    (0<c.out.snap.index∧c.out.snap=c.snap∧c.out.cut=0∧c.out.entries=[]∧c.log.es=afterE c.snap.index c.snap.term s.entries)
structure Mid (g:Gh) (n:Int) (s:SavedM) (c:CoreM) (A:List Abs):Prop where
  w:Wld g
  srv:Srv g n c A
  kp:Kp s c
  out:∀ p∈c.out.posts,Msg g p
variable {g:Gh} {n:Int} {s:SavedM} {c:CoreM} {A:List Abs}
theorem Srv.putOut (k:Srv g n c A) (o:OutM):Srv g n {c with out:=o} A:={k with}
theorem Mid.say (k:Mid g n s c A) {m:Int} {p:PostM} (h:Msg g {p with src:=c.self,dst:=m,term:=c.term}):Mid g n s (c.say m p) A :=
 ⟨k.w,k.srv.putOut _,⟨k.kp.hard,k.kp.log⟩,fun q hq=>by
  rcases List.mem_append.1 hq with hq | hq
  ·exact k.out q hq
  ·rw [List.mem_singleton.1 hq];exact h⟩
theorem Srv.follow (k:Srv g n c A) (hl:0≤g.lim):Srv g n c.follow A :=
 {k with
  st := .inl rfl
  lead:=fun h=>by cases h
  lc:=fun h=>by cases h
  cand:=fun h=>by cases h
  idle:=fun _=>⟨rfl,rfl,rfl⟩
  b0:=fun h=>by cases h
  b1:=Int.le_refl 0
  b2:=by show (0:Int)≤2;omega
  v1:=Int.le_refl 0
  v2:=by show (0:Int)<64;omega
  r1:=Int.le_refl 0
  r2:=hl
  rl:=hl}
theorem Wld.lim0 (w:Wld g) (k:Srv g n c A):0≤g.lim:=by have:=k.al;omega
theorem Mid.follow (k:Mid g n s c A):Mid g n s c.follow A:=⟨k.w,k.srv.follow (k.w.lim0 k.srv),⟨k.kp.hard,k.kp.log⟩,k.out⟩
theorem HOk.ext (w:Wld g) {g':Gh} (x:Ext n g g') (hled:g'.H.led=g.H.led) (hll:g'.H.ll=g.H.ll) (hini:g'.H.ini=g.H.ini) (hq:g'.H.q=g.H.q):HOk g'.H:=by
 have ok:=w.ok
 refine ⟨fun t ht=>?_,fun t ht=>?_,fun t k e ht h=>?_,fun t k e ht h=>?_,fun t k e ht hk h=>?_,fun t ht=>?_,fun t v ht hv=>?_,fun u k e hu he h2 h1=>?_⟩
 ·rw [hled] at ht;rw [hll];exact x.good (ok.log t ht)
 ·rw [hled] at ht;rw [hll,hini];exact ok.ini t ht
 ·rw [hled] at ht;rw [hini] at h;exact ok.old t k e ht h
 ·rw [hled] at ht;rw [hll] at h;exact ok.top t k e ht h
 ·rw [hled] at ht;rw [hini] at hk;rw [hll] at h;exact ok.own t k e ht hk h
 ·rw [hled] at ht;rw [x.first,hini,hq];exact ok.most t ht
 ·rw [hled] at ht;rw [hq] at hv;rw [hini]
  exact x.vow w (w.vt v t (by rw [w.q t v ht hv];exact ht)) (ok.vow t v ht hv)
 ·rw [hled] at hu;rw [hll] at he ⊢;rw [x.first]
  obtain ⟨a,i,b1,b2,b3,b4⟩:=ok.cf u k e hu he h2 h1
  exact ⟨a,i,b1,x.own hu b2,mostOf_mono (fun m hm=>by simp only [Acked,decide_eq_true_eq] at hm ⊢;exact Nat.le_trans hm (x.acc m u)) b3,b4⟩
def Gh.term (g:Gh) (n t:Int):Gh:={g with tm:=fun m=>if m=n then t else g.tm m}
theorem ext_term {t:Int} (h:g.tm n≤t):Ext n g (g.term n t) :=
 ⟨rfl,Int.le_refl _,rfl,fun m hm=>if_neg hm,by show g.tm n≤(if n=n then t else _);rw [if_pos rfl];exact h,fun _ _ _=>rfl,fun _ _ _=>rfl,fun _ _ _ _=>rfl,fun _ _=>⟨rfl,rfl,Pre.refl (Nat.le_refl _)⟩,fun t h h'=>absurd h h',fun _ _ _=>rfl,fun _ _=>Nat.le_refl _,fun _ _ _=>rfl⟩
theorem tm_term (g:Gh) (n t m:Int):(g.term n t).tm m=if m=n then t else g.tm m:=rfl
theorem Wld.term (w:Wld g) {t:Int} (h:g.tm n≤t) (hl:t≤g.lim):Wld (g.term n t):=by
 have x:=ext_term (n:=n) h
 have htm:∀ m,g.tm m≤(g.term n t).tm m:=fun m=>by
  rw [tm_term];split
  ·rename_i c;rw [c];exact h
  ·exact Int.le_refl _
 refine {w with led:=fun u hu=>?_,acc0:=fun m u hu=>Int.le_trans (w.acc0 m u hu) (htm m),vt:=fun m u hu=>Int.le_trans (w.vt m u hu) (htm m),l1:=fun m m1 m2=>?_}
 ·obtain ⟨a,b,c⟩:=w.led u hu
  exact ⟨a,Int.le_trans b (htm _),c⟩
 ·rw [tm_term];split
  ·exact hl
  ·exact w.l1 m m1 m2
theorem Vl.term (w:Wld g) {t:Int} (h:g.tm n≤t) (k:Vl g.H n (g.tm n) A):Vl g.H n t A:=by
 intro u i hu hl ho hi
 by_cases c:u≤g.tm n
 ·exact (k u i c hl ho hi).imp id fun ⟨z,z1,z2,z3⟩=>⟨z,z1,by omega,z3⟩
 ·obtain ⟨_,_,hik,_,_⟩:=ho
  exact absurd (w.acc0 n u (by omega)) c
theorem Com.mono {H:Hist} {T T':Int} {c:Nat} (h:T≤T') (k:Com H T c A):Com H T' c A :=
 k.imp id fun ⟨u,i,ch,hu,r⟩=>⟨u,i,ch,by omega,r⟩
theorem Com.less {H:Hist} {T:Int} {c d:Nat} (h:d≤c) (k:Com H T c A):Com H T d A:=by
 rcases k with rfl | ⟨u,i,ch,hu,hi,p⟩
 ·exact .inl (by omega)
 ·exact .inr ⟨u,i,ch,hu,by omega,p.le h⟩
theorem Com.move {H:Hist} {T:Int} {c:Nat} {B:List Abs} (k:Com H T c A) (p:Pre c A B):Com H T c B :=
 k.imp id fun ⟨u,i,ch,hu,hi,q⟩=>⟨u,i,ch,hu,hi,p.symm.trans q⟩
theorem Srv.learn (w:Wld g) (k:Srv g n c A) {t:Int} (h:g.tm n<t):Srv (g.term n t) n (c.learn t) A:=by
 have hl:=w.lim0 k
 have ht:=k.tm
 have hc:c.term≤t:=by omega
 have hv:g.vt n t=0:=by
  by_cases z:g.vt n t=0
  ·exact z
  ·have:=w.vt n t z;omega
 exact {k with
  tm:=by show t=_;rw [tm_term,if_pos rfl]
  t0:=by have:=k.t0;show 0≤t;omega
  low:=fun j e he=>Int.le_trans (k.low j e he) hc
  vl:=Vl.term w (show g.tm n≤t by omega) (by rw [← ht];exact k.vl)
  com:=k.com.mono (T':=t) hc
  vote:=hv.symm
  vr0:=Int.le_refl 0
  vr1:=by show (0:Int)≤5;omega
  st := .inl rfl
  lead:=fun h=>by cases h
  lc:=fun h=>by cases h
  cand:=fun h=>by cases h
  idle:=fun _=>⟨rfl,rfl,rfl⟩
  b0:=fun h=>by cases h
  b1:=Int.le_refl 0
  b2:=by show (0:Int)≤2;omega
  v1:=Int.le_refl 0
  v2:=by show (0:Int)<64;omega
  r1:=Int.le_refl 0
  r2:=hl
  rl:=hl}
theorem Mid.learn (k:Mid g n s c A) {t:Int} (h:g.tm n<t) (hl:t≤g.lim):Ext n g (g.term n t)∧Mid (g.term n t) n s (c.learn t) A :=
 ⟨ext_term (by omega),k.w.term (by omega) hl,k.srv.learn k.w h,⟨(fun h=>by cases h),k.kp.log⟩,fun p hp=>(ext_term (by omega)).msg k.w (k.out p hp)⟩
theorem vow_grant (w:Wld g) {v t:Int} {C:List Abs} (k:Srv g v c A) (ht:c.term=t) (gc:Good g.H C) (lc:∀ (k:Nat) (e:Abs),C[k]? = some e→e.1<t)
  (up:termAt A A.length<termAt C C.length∨(termAt C C.length=termAt A A.length∧A.length≤C.length)):Vow g.H v t (· ≤ t) C:=by
 intro u i hu hl ho hi
 have hv:=k.vl u i (by omega) hl ho hi
 rcases hv with p | ⟨z,z1,z2,z3⟩
 ·obtain ⟨j,e,rfl,he,hue⟩:=ho
  have hA:A[j]? = some e:=by rw [← p.c j (by omega)];exact he
  have hj:j<A.length:=(List.getElem?_eq_some_iff.1 hA).1
  obtain ⟨a,ha⟩:∃ a,A[A.length-1]? = some a:=⟨A[A.length-1],by simp⟩
  have hta:=termAt_some ha
  rw [show A.length-1+1=A.length by omega] at hta
  have hau:u≤a.1:=by have:=k.good.mono j (A.length-1) e a (by omega) hA ha;omega
  have hu1:1≤u:=by have:=(k.good.lm j e hA).1;omega
  have hC0:0<C.length:=by
   by_cases z:C.length=0
   ·exfalso
    rw [z] at up
    unfold termAt at up
    rw [if_pos rfl,if_neg (by omega)] at up
    rw [show A.length-1=A.length-1 from rfl,ha] at up
    simp only [] at up
    omega
   ·omega
  obtain ⟨b,hb⟩:∃ b,C[C.length-1]? = some b:=⟨C[C.length-1],by simp⟩
  have htb:=termAt_some hb
  rw [show C.length-1+1=C.length by omega] at htb
  rw [hta,htb] at up
  obtain ⟨_,b2,b3⟩:=gc.lm _ b hb
  rw [show C.length-1+1=C.length by omega] at b3
  have hbt:=lc _ b hb
  by_cases e1:b.1=u
  ·left
   rw [e1] at b3
   exact (b3.le (by omega)).symm
  ·by_cases e2:Pre (j+1) (g.H.ll u) (g.H.ini b.1)
   ·left
    have e3:Pre (j+1) (g.H.ll u) (g.H.ll b.1):=e2.trans ((w.ok.ini b.1 b2).le e2.b)
    have hle:j+1≤C.length:=by
     by_cases z:j+1≤C.length
     ·exact z
     ·exfalso
      have h1:=e3.c (C.length-1) (by omega)
      rw [← b3.c _ (by omega),hb] at h1
      have:=w.ok.top u _ b hl h1
      omega
    exact e3.trans (b3.le hle).symm
   ·right
    exact ⟨b.1,by omega,by omega,b2,e2⟩
 ·exact .inr ⟨z,z1,by omega,z3⟩
end
section
variable {g:Gh} {n:Int} {s:SavedM} {c:CoreM} {A:List Abs}
theorem ls_in1 (k:Int):∀ n∈ls (m5 k),1≤n∧n≤5:=fun n hn=>by
 have:=List.all_eq_true.1 (ls_ok (m5 k) (m5_lt _)) n hn
 simpa [ok1] using this
theorem waits_in {d:Int} (h:0≤d):10≤waits d∧waits d≤19:=by
 unfold waits
 have h1:0≤d.tmod 10:=Int.tmod_nonneg _ h
 have h2:d.tmod 10<10:=Int.tmod_lt_of_pos _ (by omega)
 omega
theorem Srv.crew (k:Srv g n c A):c.crewNow.1=conf 14 A∧∀ j,Says A j→j<c.crewNow.2.toNat∨j<c.log.bi.toNat:=by
 have hl:=k.rep.le;have h0:=k.rep.lo
 have hh:=crewUpTo_conf k.rep k.si (fun h=>by rw [k.first];exact (k.s1 h).2) (i:=A.length) (by omega) (Int.le_refl _)
 unfold CoreM.crewNow
 rw [k.rep.last]
 simp only []
 rw [k.first] at hh
 refine ⟨by rw [hh.1];simp,fun j sj=>hh.2 j sj (by have:=sj.lt;omega)⟩
theorem conf_size {size:Int} (hs:3≤size):∀ A:List Abs,(∀ e∈A,EOk size e)→∀ f:Int,(∀ n∈ls (m5 f),n≤size)→∀ n∈ls (m5 (conf f A)),n≤size
 | [],_,f,hf=>hf
 | e::r,h,f,hf=>by
  unfold conf
  rw [List.foldl_cons]
  refine conf_size hs r (fun x hx=>h x (by simp [hx])) _ ?_
  split
  ·exact ((h e (by simp)).cr (by assumption)).2
  ·exact hf
theorem crew14:∀ n∈ls (m5 14),n≤3:=by decide
theorem Srv.others (w:Wld g) (k:Srv g n c A):∀ m∈c.others,1≤m∧m≤g.size∧m≠n:=fun m hm=>by
 obtain ⟨h1,h2⟩:=List.mem_filter.1 hm
 have:=ls_in1 c.crewNow.1 m h1
 have hs:=w.sz3
 refine ⟨this.1,?_,?_⟩
 ·rw [k.crew.1] at h1
  exact conf_size w.sz3 A k.eok 14 (fun x hx=>Int.le_trans (crew14 x hx) hs) m h1
 ·rw [k.self] at h2
  simpa using h2
def CoreM.askedOk (c:CoreM) (p:PostM):Bool:=(decide (c.log.last.2<p.logTerm) || (decide (p.logTerm=c.log.last.2)&&decide (c.log.last.1≤p.index)))&&(decide (c.vote=0) || decide (c.vote=p.src))
theorem CoreM.asked_eq (c:CoreM) (p:PostM) (draw:Int):c.asked p draw=(if c.askedOk p=true then {c with vote:=p.src,wait:=waits draw,out:={c.out with hard:=true}} else c).say p.src {post0 with kind:=2,ok:=c.askedOk p}:=rfl
def Gh.voted (g:Gh) (n t d:Int):Gh:={g with vt:=fun m u=>if m=n∧u=t then d else g.vt m u}
theorem vt_voted (g:Gh) (n t d m u:Int):(g.voted n t d).vt m u=if m=n∧u=t then d else g.vt m u:=rfl
theorem ext_voted {t d:Int} (h:g.vt n t=0∨g.vt n t=d):Ext n g (g.voted n t d):=by
 refine ⟨rfl,Int.le_refl _,rfl,fun _ _=>rfl,Int.le_refl _,fun m u hu=>?_,fun m u hm=>if_neg fun c=>hm c.1,fun _ _ _ _=>rfl,fun _ _=>⟨rfl,rfl,Pre.refl (Nat.le_refl _)⟩,fun t h h'=>absurd h h',fun _ _ _=>rfl,fun _ _=>Nat.le_refl _,fun _ _ _=>rfl⟩
 rw [vt_voted];split
 ·rename_i c;obtain ⟨rfl,rfl⟩:=c
  rcases h with h | h
  ·exact absurd h hu
  ·exact h.symm
 ·rfl
theorem Wld.voted (w:Wld g) {t d:Int} (h:g.vt n t=0∨g.vt n t=d) (ht:t≤g.tm n) (hd:d≠n):Wld (g.voted n t d):=by
 have x:=ext_voted h
 refine {w with q:=fun u v hu hq=>?_,vt:=fun m u hu=>?_,cg:=fun u m hm hv=>?_}
 ·have:=w.q u v hu hq
  exact (x.vt v u (by rw [this];exact hu)).trans this
 ·rw [vt_voted] at hu
  split at hu
  ·rename_i c;rw [c.1,c.2];exact ht
  ·exact w.vt m u hu
 ·rw [vt_voted] at hv
  split at hv
  ·rename_i c;exact absurd (hv.trans c.1) hd
  ·exact w.cg u m hm hv
theorem Mid.asked' (k:Mid g n s c A) {p:PostM} (m:Msg g p) (hk:p.kind=1) (hd:p.dst=n) (ht:p.term=c.term) (hs:c.state≠2) {draw:Int} (hdr:0≤draw) :
  ∃ g',Ext n g g'∧g'.lim=g.lim∧Mid g' n s (c.asked p draw) A:=by
 have hself:=k.srv.self
 have hne:p.src≠n:=by rw [← hd];exact m.ne
 have hn1:=k.srv.n1;have hn2:=k.srv.n2
 obtain ⟨_,b,b1,b2,b3,b4⟩:=m.body.resolve_right (by rw [hk];simp)
 have hlim:=k.w.lim0 k.srv
 rw [CoreM.asked_eq]
 by_cases hok:c.askedOk p=true
 ·rw [hok,if_pos rfl]
  have hao:=hok
  unfold CoreM.askedOk at hao
  simp only [Bool.and_eq_true,Bool.or_eq_true,decide_eq_true_eq,k.srv.rep.last] at hao
  obtain ⟨up,hv⟩:=hao
  have hvt:g.vt n c.term=0∨g.vt n c.term=p.src:=by rw [← k.srv.vote];exact hv
  have x:=ext_voted (n:=n) hvt
  have htn:c.term≤g.tm n:=by rw [k.srv.tm];exact Int.le_refl _
  have w':=k.w.voted hvt htn hne
  have hst:c.state=0:=by
   rcases k.srv.st with h | h | h
   ·exact h
   ·exfalso
    obtain ⟨_,h2,_⟩:=k.srv.cand h
    rw [h2] at hvt
    rcases hvt with h | h <;> omega
   ·exact absurd h hs
  obtain ⟨wt1,wt2⟩:=waits_in hdr
  refine ⟨g.voted n c.term p.src,x,rfl,Mid.say (c:={c with vote:=p.src,wait:=waits draw,out:={c.out with hard:=true}}) ⟨w',?_,⟨(fun h=>by cases h),k.kp.log⟩,fun q hq=>x.msg k.w (k.out q hq)⟩ ?_⟩
  ·exact {k.srv with
    vote:=by show p.src=_;rw [vt_voted,if_pos ⟨rfl,rfl⟩]
    vr0:=by have:=m.s1;show 0≤p.src;omega
    vr1:=by have:=m.s2;have:=k.w.sz5;show p.src≤5;omega
    cand:=fun h=>by rw [show ({c with vote:=p.src,wait:=waits draw,out:={c.out with hard:=true}}:CoreM).state=c.state from rfl,hst] at h;cases h
    w1:=by show 1≤waits draw;omega
    w2:=wt2}
  ·refine ⟨by show 1≤c.self;omega,by show c.self≤g.size;omega,m.s1,m.s2,by show c.self≠p.src;omega,by show 1≤c.term;rw [← ht];exact m.t1,by show c.term≤g.tm c.self;rw [hself];exact htn,Int.le_refl 0,hlim, .inr (.inl ⟨rfl,rfl,fun _=>?_⟩)⟩
   show (g.voted n c.term p.src).vt c.self c.term=p.src∧(g.voted n c.term p.src).vt p.src c.term=p.src∧Vow g.H c.self c.term (· ≤ c.term) (g.cand c.term p.src)
   rw [hself]
   refine ⟨by rw [vt_voted,if_pos ⟨rfl,rfl⟩],by rw [vt_voted,if_neg fun h=>hne h.1,← ht];exact b1,?_⟩
   obtain ⟨cg1,cg2⟩:=k.w.cg p.term p.src (by have:=m.s1;omega) b1
   rw [ht] at cg1 cg2 b2 b3
   refine vow_grant k.w k.srv rfl cg1 cg2 ?_
   rw [b3] at up
   rcases up with up | ⟨up1,up2⟩
   ·exact .inl up
   ·exact .inr ⟨up1,by rw [b2] at up2;omega⟩
 ·rw [Bool.eq_false_iff.2 hok,if_neg (by simp)]
  refine ⟨g,Ext.refl _ _,rfl,k.say ?_⟩
  refine ⟨by show 1≤c.self;omega,by show c.self≤g.size;omega,m.s1,m.s2,by show c.self≠p.src;omega,by show 1≤c.term;rw [← ht];exact m.t1,by show c.term≤g.tm c.self;rw [hself,k.srv.tm];exact Int.le_refl _,Int.le_refl 0,hlim, .inr (.inl ⟨rfl,rfl,fun h=>by cases h⟩)⟩
def Gh.stands (g:Gh) (n t:Int) (A:List Abs):Gh :=
  {g with tm:=fun m=>if m=n then t else g.tm m,vt:=fun m u=>if m=n∧u=t then n else g.vt m u,cand:=fun u m=>if u=t∧m=n then A else g.cand u m}
theorem pow_has0:∀ n:Nat,n<6→∀ j:Nat,j<5→hasB ((2:Int)^n) ((j:Int)+1)=decide (j+1=n):=by decide +kernel
theorem pow_has (n:Nat) (_:1≤n) (h:n≤5) (j:Nat) (hj:j<5):hasB ((2:Int)^n) ((j:Int)+1)=decide (j+1=n):=pow_has0 n (by omega) j hj
theorem hasB_range {v m:Int} (h:hasB v m=true):1≤m∧m≤5:=by
 unfold hasB at h;simp only [Bool.and_eq_true,decide_eq_true_eq] at h;exact h.1
theorem Mid.stood (k:Mid g n s c A) (hl:c.term+1≤g.lim) :
  Ext n g (g.stands n (c.term+1) A)∧Mid (g.stands n (c.term+1) A) n s {c.learn (c.term+1) with vote:=c.self,state:=1,votes:=2^c.self.toNat} A:=by
 have ht:=k.srv.tm
 have hn1:=k.srv.n1;have hn2:=k.srv.n2;have hs5:=k.w.sz5
 have hself:=k.srv.self
 have t0:=k.srv.t0
 have hv0:g.vt n (c.term+1)=0:=by
  by_cases z:g.vt n (c.term+1)=0
  ·exact z
  ·have:=k.w.vt n _ z;omega
 have x:Ext n g (g.stands n (c.term+1) A):=by
  refine ⟨rfl,Int.le_refl _,rfl,fun m hm=>if_neg hm,?_,fun m u hu=>?_,fun m u hm=>if_neg fun c=>hm c.1,fun u m hu hm=>?_,fun _ _=>⟨rfl,rfl,Pre.refl (Nat.le_refl _)⟩,fun t h h'=>absurd h h',fun _ _ _=>rfl,fun _ _=>Nat.le_refl _,fun _ _ _=>rfl⟩
  ·show g.tm n≤(if n=n then c.term+1 else _);rw [if_pos rfl];omega
  ·show (if m=n∧u=c.term+1 then n else g.vt m u)=_
   rw [if_neg];rintro ⟨rfl,rfl⟩;exact hu hv0
  ·show (if u=c.term+1∧m=n then A else g.cand u m)=_
   rw [if_neg];rintro ⟨rfl,rfl⟩;rw [hv0] at hu;omega
 have htm:∀ m,g.tm m≤(g.stands n (c.term+1) A).tm m:=fun m=>by
  show _≤(if m=n then c.term+1 else g.tm m)
  split
  ·rename_i e;rw [e];omega
  ·exact Int.le_refl _
 have lt:∀ (j:Nat) (e:Abs),A[j]? = some e→e.1<c.term+1:=fun j e he=>by have:=k.srv.low j e he;omega
 have w':Wld (g.stands n (c.term+1) A):=by
  refine {k.w with led:=fun u hu=>?_,acc0:=fun m u hu=>Int.le_trans (k.w.acc0 m u hu) (htm m),q:=fun u v hu hq=>?_,vt:=fun m u hu=>?_,cg:=fun u m hm hv=>?_,l1:=fun m m1 m2=>?_}
  ·obtain ⟨a,b,d⟩:=k.w.led u hu
   exact ⟨a,Int.le_trans b (htm _),d⟩
  ·have:=k.w.q u v hu hq
   exact (x.vt v u (by rw [this];exact hu)).trans this
  ·have hu':(if m=n∧u=c.term+1 then n else g.vt m u)≠0:=hu
   split at hu'
   ·rename_i e;rw [e.1,e.2];show c.term+1≤(if n=n then c.term+1 else _);rw [if_pos rfl];exact Int.le_refl _
   ·exact Int.le_trans (k.w.vt m u hu') (htm m)
  ·have hv':(if m=n∧u=c.term+1 then n else g.vt m u)=m:=hv
   show Good g.H (if u=c.term+1∧m=n then A else g.cand u m)∧∀ (k:Nat) (e:Abs),(if u=c.term+1∧m=n then A else g.cand u m)[k]? = some e→e.1<u
   by_cases e:m=n∧u=c.term+1
   ·rw [if_pos ⟨e.2,e.1⟩,e.2];exact ⟨k.srv.good,lt⟩
   ·rw [if_neg e] at hv'
    rw [if_neg fun z=>e ⟨z.2,z.1⟩];exact k.w.cg u m hm hv'
  ·show (if m=n then c.term+1 else g.tm m)≤g.lim
   split
   ·exact hl
   ·exact k.w.l1 m m1 m2
 refine ⟨x,⟨w',?_,⟨(fun h=>by cases h),k.kp.log⟩,fun p hp=>x.msg k.w (k.out p hp)⟩⟩
 have sl:=k.srv.learn k.w (t:=c.term+1) (by omega)
 obtain ⟨m,hm⟩:∃ m:Nat,n=m:=⟨n.toNat,by omega⟩
 have hp:(2:Int)^c.self.toNat<64:=by
  rw [hself,hm,Int.toNat_natCast]
  have:m=1∨m=2∨m=3∨m=4∨m=5:=by omega
  rcases this with rfl | rfl | rfl | rfl | rfl <;> decide
 have hp0:(0:Int)≤2^c.self.toNat:=Int.pow_nonneg (by omega)
 exact {sl with
  vote:=by show c.self=(if n=n∧c.term+1=c.term+1 then n else _);rw [if_pos ⟨rfl,rfl⟩,hself]
  vr0:=by show 0≤c.self;omega
  vr1:=by show c.self≤5;omega
  st := .inr (.inl rfl)
  lead:=fun h=>by cases h
  lc:=fun h=>by cases h
  cand:=fun _=>by
   refine ⟨fun z=>?_,?_,?_,lt,by show 1≤c.term+1;omega,fun v hv=>?_⟩
   ·have z':g.H.led (c.term+1)=n:=z
    have:=(k.w.led (c.term+1) (by rw [z'];omega)).2.1
    rw [z'] at this;omega
   ·show (if n=n∧c.term+1=c.term+1 then n else _)=n;rw [if_pos ⟨rfl,rfl⟩]
   ·show (if c.term+1=c.term+1∧n=n then A else _)=A;rw [if_pos ⟨rfl,rfl⟩]
   ·have hv':hasB ((2:Int)^c.self.toNat) v=true:=hv
    rw [hself,hm,Int.toNat_natCast] at hv'
    obtain ⟨v1,v2⟩:=hasB_range hv'
    obtain ⟨j,rfl⟩:∃ j:Nat,v=(j:Int)+1:=⟨(v-1).toNat,by omega⟩
    rw [pow_has m (by omega) (by omega) j (by omega)] at hv'
    have hj:j+1=m:=by simpa using hv'
    have hvn:(j:Int)+1=n:=by omega
    rw [hvn]
    refine ⟨?_,?_⟩
    ·show (if n=n∧c.term+1=c.term+1 then n else _)=n;rw [if_pos ⟨rfl,rfl⟩]
    ·intro u i hu hl ho hi
     exact (k.srv.vl u i (by show u≤c.term;have hu':u<c.term+1:=hu;omega) hl ho hi).imp id fun ⟨z,z1,z2,z3⟩=>⟨z,z1,by show z≤c.term+1;omega,z3⟩
  idle:=fun _=>⟨rfl,rfl,rfl⟩
  b0:=fun h=>by cases h
  v1:=hp0
  v2:=hp}
end
def cmpI (a b:Int):Int:=if a<b then -1 else if b<a then 1 else 0
theorem nan_any (h:Heap) (a:Int):ACalls PR 178 #[I a] h (fun v h'=>v = .bool false∧h=h'):=by
 refine Ar (As mix Tryz.func178 rfl rfl Tryz.ntmps178 Tryz.results178 rfl ?_);conv=>whnf
 refine Ad ((by simp)) ?_;conv=>whnf
 exact ⟨rfl,Sub.refl _⟩
theorem compare_any (h:Heap) (a b:Int):ACalls PR 133 #[I a,I b] h (fun v h'=>v=I (cmpI a b)∧h=h'):=by
 refine Ar (As mix Tryz.func133 rfl rfl Tryz.ntmps133 Tryz.results133 rfl ?_);conv=>whnf
 refine C2 (nan_any h a) ?_;conv=>whnf
 refine C2 (nan_any h b) ?_;conv=>whnf
 unfold cmpI
 by_cases c1:a<b
 ·refine Ac (c1) ?_;conv=>whnf
  exact ⟨by rw [if_pos c1],Sub.refl _⟩
 ·refine Ad (c1) ?_;conv=>whnf
  by_cases c2:b<a
  ·refine Ac (c2) ?_;conv=>whnf
   exact ⟨by rw [if_neg c1,if_pos c2],Sub.refl _⟩
  ·refine Ad (c2) ?_;conv=>whnf
   exact ⟨by rw [if_neg c1,if_neg c2],Sub.refl _⟩
theorem or2_any {h:Heap} {t:Tag} {b:Nat} {a c:Int} (k:h b=some (row t [I a,I c] 3)):ACalls PR 179 #[.slice (some ⟨b,0,none⟩) 2 2] h (fun v h'=>v=I (if a≠0 then a else c)∧h=h'):=by
 refine Ar (As mix Tryz.func179 rfl rfl Tryz.ntmps179 Tryz.results179 rfl ?_);conv=>whnf
 refine ALoop.mk (fun e h'=>h=h'∧∃ e0,∃ j:Nat,e=updL 18 e0 [(0, .slice (some ⟨b,0,none⟩) 2 2),(3,I 0),(6, .slice (some ⟨b,0,none⟩) 2 2),(7,I 2),(8,I j)]∧j≤2∧(1≤j→a=0)∧(2≤j→c=0)) (fun e=>2-natOf (e 8))
  ⟨rfl,_,0,Au ⟨rfl,rfl,rfl,rfl,rfl,trivial⟩,by omega,by omega,by omega⟩ ?_
 rintro e _ ⟨rfl,e0,j,rfl,hj,h1,h2⟩
 conv=>whnf
 have:j=0∨j=1∨j=2:=by omega
 rcases this with rfl | rfl | rfl
 ·refine Ac (by omega) ?_;conv=>whnf
  refine Ai (n:=2) (z:=1) (j:=0) rfl (by omega) rfl rfl ?_;conv=>whnf
  refine Aa rfl k rfl ?_;conv=>whnf
  by_cases c0:a≠0
  ·refine Ac (c0) ?_;conv=>whnf
   exact ⟨by rw [if_pos c0],Sub.refl _⟩
  ·refine Ad (c0) ?_;conv=>whnf
   refine Ag (by omega) (by omega) (rfl) ?_;conv=>whnf
   refine ⟨⟨rfl,_,1,Au ⟨rfl,rfl,rfl,rfl,rfl,trivial⟩,by omega,fun _=>Classical.not_not.1 c0,fun h=>absurd h (by omega)⟩,?_⟩
   show 2-1<2-0
   omega
 ·refine Ac (by omega) ?_;conv=>whnf
  refine Ai (n:=2) (z:=1) (j:=1) rfl (by omega) rfl rfl ?_;conv=>whnf
  refine Aa rfl k rfl ?_;conv=>whnf
  by_cases c0:c≠0
  ·refine Ac (c0) ?_;conv=>whnf
   exact ⟨by rw [if_neg (by have:=h1 (by omega);omega)],Sub.refl _⟩
  ·refine Ad (c0) ?_;conv=>whnf
   refine Ag (by omega) (by omega) (rfl) ?_;conv=>whnf
   refine ⟨⟨rfl,_,2,Au ⟨rfl,rfl,rfl,rfl,rfl,trivial⟩,by omega,fun _=>h1 (by omega),fun _=>Classical.not_not.1 c0⟩,?_⟩
   show 2-2<2-1
   omega
 ·refine Ad (by omega) ?_;conv=>whnf
  have:=h1 (by omega)
  have:=h2 (by omega)
  exact ⟨by rw [if_neg (by omega),this],Sub.refl _⟩
theorem fresh_iff (lt t i l:Int):0≤(if cmpI lt t≠0 then cmpI lt t else cmpI i l)↔(t<lt∨(lt=t∧l≤i)):=by
 unfold cmpI
 by_cases c1:lt<t
 ·simp [c1];try omega
 ·by_cases c2:t<lt
  ·simp [c1,c2]
  ·by_cases c3:i<l
   ·simp [c1,c2,c3];try omega
   ·by_cases c4:l<i
    ·simp [c1,c2,c3,c4];try omega
    ·simp [c1,c2,c3,c4];try omega
structure Given (h:Heap) (o oo:Nat) (x:PH):Prop where
  ok:∃ t1 t2 t3:Tag,x.Ok h t1 t2 t3∧t1.1∉[o,o+1,oo]∧t2.1∉[o,o+1,oo]∧t3.1∉[o,o+1,oo]
  by_:∀ e∈x.es,∀ z∈e.data,0≤z∧z<256
  sc0 : -9223372036854775808≤x.sc
  sc1:x.sc≤9223372036854775807
  n1:x.e.n≤1000000
theorem Given.keeps {h h':Heap} {o oo:Nat} {x:PH} (g:Given h o oo x) (k:Keeps [o,o+1,oo] h h'):Given h' o oo x:=by
 obtain ⟨⟨t1,t2,t3,ok,n1,n2,n3⟩,a,b,c,d⟩:=g
 exact ⟨⟨t1,t2,t3,⟨⟨ok.es.sl.keeps k n1,fun e he=>Sl.keeps (ok.es.good e he) k n2,ok.es.small⟩,ok.sd.keeps k n3⟩,n1,n2,n3⟩,a,b,c,d⟩
theorem Given.sub {h h':Heap} {o oo:Nat} {x:PH} (g:Given h o oo x) (k:Sub h h'):Given h' o oo x:=g.keeps (k.keeps _)
theorem made0 {h:Heap} {oo r:Nat} {x:PH} (h1:x.e=slv0) (h2:x.es=[]) (h3:x.d=slv0) (h4:x.data=[]):x.Made h oo r :=
 ⟨by rw [h1,h2];exact .inl ⟨rfl,rfl,rfl⟩,by rw [h2];simp,by rw [h2];simp,by rw [h3,h4];exact .inl ⟨rfl,rfl,rfl⟩⟩
theorem refuse_any {h:Heap} {p o oo:Nat} {c:CoreM} (ap:Apart o oo) (k:PCore h p o oo c) (x:PH) (hp:c.out.posts.length≤1000000000) :
  ACalls PR 134 #[Ptr p, .agg x.cells.toArray] h (fun v h'=>v = .tuple #[]∧PCore h' p o oo (c.refuse x.abs)∧Keeps [o,oo] h h'):=by
 refine As mix Tryz.func134 rfl rfl Tryz.ntmps134 Tryz.results134 rfl ?_;conv=>whnf
 refine Al (0,1) (x.cells) rfl fun b1 h1 n1 s1 k1=>?_;conv=>whnf
 have q:=k.sub s1
 refine Aa rfl k1 rfl ?_;conv=>whnf
 by_cases c1:x.kind=1
 ·refine Ac (c1) ?_;conv=>whnf
  rw [show c.refuse x.abs=c.say x.src {post0 with kind:=2} from if_pos c1]
  refine Aa rfl k1 rfl ?_;conv=>whnf
  refine ACalls.mono (say_any ap.a ap.b ap.c ap.d q x.src {post1 with kind:=2} (made0 rfl rfl rfl rfl) hp) ?_;rintro _ h2 ⟨rfl,k2,kk2⟩;conv=>whnf
  exact ⟨rfl,k2,(s1.keeps _).trans kk2⟩
 ·refine Ad (c1) ?_;conv=>whnf
  by_cases c2:x.kind=3
  ·refine Ac (c2) ?_;conv=>whnf
   rw [show c.refuse x.abs=c.say x.src {post0 with kind:=4} from (if_neg c1).trans (if_pos c2)]
   refine Aa rfl k1 rfl ?_;conv=>whnf
   refine ACalls.mono (say_any ap.a ap.b ap.c ap.d q x.src {post1 with kind:=4} (made0 rfl rfl rfl rfl) hp) ?_;rintro _ h2 ⟨rfl,k2,kk2⟩;conv=>whnf
   exact ⟨rfl,k2,(s1.keeps _).trans kk2⟩
  ·refine Ad (c2) ?_;conv=>whnf
   rw [show c.refuse x.abs=c from (if_neg c1).trans (if_neg c2)]
   exact ⟨rfl,q,s1.keeps _⟩
theorem asked_any {h:Heap} {p o oo:Nat} {c:CoreM} (ap:Apart o oo) (k:PCore h p o oo c) (lo:LOk c.log) (x:PH) (draw:Int) (hd:0≤draw) (hp:c.out.posts.length≤1000000000) :
  ACalls PR 135 #[Ptr p, .agg x.cells.toArray,I draw] h (fun v h'=>v = .tuple #[]∧PCore h' p o oo (c.asked x.abs draw)∧Keeps [o,oo] h h'):=by
 obtain ⟨cx,k⟩:=k
 rw [CoreM.asked_eq]
 refine As mix Tryz.func135 rfl rfl Tryz.ntmps135 Tryz.results135 rfl ?_;conv=>whnf
 refine Al (0,1) (x.cells) rfl fun b1 h1 n1 s1 k1=>?_;conv=>whnf
 have q:=k.sub s1
 refine Aa rfl q.str rfl ?_;conv=>whnf
 refine C2 (Last_c q.log lo) ?_;conv=>whnf
 refine An (h1) [] [0,1,2,4,5,6,3,7,8,9,10,11] (Sub.refl _) (by decide +kernel) ?_;conv=>whnf
 refine Aa rfl k1 rfl ?_
 refine Aa rfl k1 rfl ?_;conv=>whnf
 refine C2 (compare_any h1 x.logTerm c.log.last.2) ?_;conv=>whnf
 refine ⟨Sub.refl _,?_⟩;conv=>whnf
 refine C2 (compare_any h1 x.index c.log.last.1) ?_;conv=>whnf
 refine ⟨Sub.refl _,?_⟩;conv=>whnf
 refine Ap (0,1) [I (cmpI x.logTerm c.log.last.2),I (cmpI x.index c.log.last.1)] rfl rfl rfl rfl rfl rfl rfl fun b2 h2 n2 s2 k2=>?_;conv=>whnf
 refine ⟨s2,?_⟩;conv=>whnf
 refine C2 (or2_any k2) ?_;conv=>whnf
 refine ⟨s2,?_⟩;conv=>whnf
 have q2:=q.sub s2
 have k12:=s2 _ _ k1
 have hf:=fresh_iff x.logTerm c.log.last.2 x.index c.log.last.1
 generalize (if cmpI x.logTerm c.log.last.2≠0 then cmpI x.logTerm c.log.last.2 else cmpI x.index c.log.last.1)=rr at hf ⊢
 have hao:c.askedOk x.abs=((decide (c.log.last.2<x.logTerm) || (decide (x.logTerm=c.log.last.2)&&decide (c.log.last.1≤x.index)))&&(decide (c.vote=0) || decide (c.vote=x.src))):=rfl
 cases hfr:(decide (c.log.last.2<x.logTerm) || (decide (x.logTerm=c.log.last.2)&&decide (c.log.last.1≤x.index))) with
 | false =>
  refine Ad ((by rw [hf];simp at hfr;omega)) ?_;conv=>whnf
  refine Am (h2) [] (Sub.refl _) (by decide +kernel) ?_;conv=>whnf
  have NB:=hfr
  have hno:c.askedOk x.abs=false:=by rw [hao,NB];simp
  rw [hno,if_neg (by simp)]
  refine Aa rfl k12 rfl ?_;conv=>whnf
  refine ACalls.mono (say_any ap.a ap.b ap.c ap.d ⟨_,q2⟩ x.src {post1 with kind:=2,ok:=false} (made0 rfl rfl rfl rfl) hp) ?_;rintro _ h3 ⟨rfl,k3,kk3⟩;conv=>whnf
  exact ⟨rfl,k3,((s1.trans s2).keeps _).trans kk3⟩
 | true =>
  refine Ac ((by rw [hf];simp at hfr;omega)) ?_;conv=>whnf
  refine Am (h2) [] (Sub.refl _) (by decide +kernel) ?_;conv=>whnf
  refine Aa rfl q2.str rfl ?_;conv=>whnf
  by_cases c2:c.vote=0
  ·refine Ac (c2) ?_;conv=>whnf
   have VB:=c2
   have hyes:c.askedOk x.abs=true:=by rw [hao,hfr];simp [VB]
   rw [hyes,if_pos rfl]
   refine An ((two h2 p b1)) [8] [0,1,2,3,4,5,6,7,8,9,10,11] (two_sub _ _ _) (by decide +kernel) ?_;conv=>whnf
   refine Aa rfl ((two_r _ _ _).trans k12) rfl ?_;conv=>whnf
   refine C2 (waits_any h2 draw hd) ?_;conv=>whnf
   refine ⟨two_sub _ _ _,?_⟩;conv=>whnf
   refine Af rfl rfl rfl (q2.str) rfl (coreCells {c with vote:=x.src} cx) rfl fun h3 t3 k3 a3 e3=>?_;conv=>whnf
   refine Af rfl rfl rfl (k3) rfl (coreCells {c with vote:=x.src,wait:=waits draw} cx) rfl fun h4 t4 k4 a4 e4=>?_;conv=>whnf
   refine ⟨(fun b y e=>by cases e),?_⟩;conv=>whnf
   refine Af rfl rfl rfl (k4) rfl (coreCells {c with vote:=x.src,wait:=waits draw,out:={c.out with hard:=true}} cx) rfl fun h5 t5 k5 a5 e5=>?_;conv=>whnf
   have tt:=t3.trans (t4.trans t5)
   have k15:=tt.get (tag_ne ap.c) k12
   have q5:CoreX 81 LA h5 p o oo {c with vote:=x.src,wait:=waits draw,out:={c.out with hard:=true}} cx:=⟨k5,q2.sd.keepT tt (by simp),KeepT.log q2.log tt,q2.rd.keepT tt (by simp),by
    have z:=q2.out.keepT ap.a tt
    exact ⟨z.od,z.oe,z.ed,z.ea,z.es,z.op,z.ps,z.pa,z.qr⟩⟩
   refine Aa rfl k15 rfl ?_;conv=>whnf
   refine ACalls.mono (say_any ap.a ap.b ap.c ap.d ⟨_,q5⟩ x.src {post1 with kind:=2,ok:=true} (made0 rfl rfl rfl rfl) hp) ?_;rintro _ h6 ⟨rfl,k6,kk6⟩;conv=>whnf
   exact ⟨rfl,k6,((s1.trans s2).keeps _).trans ((tt.keep.keeps (by simp)).trans kk6)⟩
  ·refine Ad (c2) ?_;conv=>whnf
   refine Aa rfl q2.str rfl ?_
   refine Aa rfl k12 rfl ?_;conv=>whnf
   by_cases c3:c.vote=x.src
   ·refine Ac (c3) ?_;conv=>whnf
    have VB:=c3
    have hyes:c.askedOk x.abs=true:=by rw [hao,hfr];simp [VB]
    rw [hyes,if_pos rfl]
    refine An ((two h2 p b1)) [8] [0,1,2,3,4,5,6,7,8,9,10,11] (two_sub _ _ _) (by decide +kernel) ?_;conv=>whnf
    refine Aa rfl ((two_r _ _ _).trans k12) rfl ?_;conv=>whnf
    refine C2 (waits_any h2 draw hd) ?_;conv=>whnf
    refine ⟨two_sub _ _ _,?_⟩;conv=>whnf
    refine Af rfl rfl rfl (q2.str) rfl (coreCells {c with vote:=x.src} cx) rfl fun h3 t3 k3 a3 e3=>?_;conv=>whnf
    refine Af rfl rfl rfl (k3) rfl (coreCells {c with vote:=x.src,wait:=waits draw} cx) rfl fun h4 t4 k4 a4 e4=>?_;conv=>whnf
    refine ⟨(fun b y e=>by cases e),?_⟩;conv=>whnf
    refine Af rfl rfl rfl (k4) rfl (coreCells {c with vote:=x.src,wait:=waits draw,out:={c.out with hard:=true}} cx) rfl fun h5 t5 k5 a5 e5=>?_;conv=>whnf
    have tt:=t3.trans (t4.trans t5)
    have k15:=tt.get (tag_ne ap.c) k12
    have q5:CoreX 81 LA h5 p o oo {c with vote:=x.src,wait:=waits draw,out:={c.out with hard:=true}} cx:=⟨k5,q2.sd.keepT tt (by simp),KeepT.log q2.log tt,q2.rd.keepT tt (by simp),by
     have z:=q2.out.keepT ap.a tt
     exact ⟨z.od,z.oe,z.ed,z.ea,z.es,z.op,z.ps,z.pa,z.qr⟩⟩
    refine Aa rfl k15 rfl ?_;conv=>whnf
    refine ACalls.mono (say_any ap.a ap.b ap.c ap.d ⟨_,q5⟩ x.src {post1 with kind:=2,ok:=true} (made0 rfl rfl rfl rfl) hp) ?_;rintro _ h6 ⟨rfl,k6,kk6⟩;conv=>whnf
    exact ⟨rfl,k6,((s1.trans s2).keeps _).trans ((tt.keep.keeps (by simp)).trans kk6)⟩
   ·refine Ad (c3) ?_;conv=>whnf
    have NB:(decide (c.vote=0) || decide (c.vote=x.src))=false:=by simp [c2,c3]
    have hno:c.askedOk x.abs=false:=by rw [hao,NB];simp
    rw [hno,if_neg (by simp)]
    refine Aa rfl k12 rfl ?_;conv=>whnf
    refine ACalls.mono (say_any ap.a ap.b ap.c ap.d ⟨_,q2⟩ x.src {post1 with kind:=2,ok:=false} (made0 rfl rfl rfl rfl) hp) ?_;rintro _ h3 ⟨rfl,k3,kk3⟩;conv=>whnf
    exact ⟨rfl,k3,((s1.trans s2).keeps _).trans kk3⟩
theorem or_vput:∀ a:Nat,a<64→∀ n:Nat,n<6→1≤n→((a ||| 2^n:Nat):Int)=vput (a:Int) (n:Int):=by decide +kernel
theorem CoreM.voted_no {c:CoreM} {p:PostM} (h:c.state≠1∨p.ok=false):c.voted p=c:=if_pos h
theorem CoreM.voted_yes {c:CoreM} {p:PostM} (h:¬(c.state≠1∨p.ok=false)):c.voted p=if ({c with votes:=vput c.votes p.src}:CoreM).elected=true then ({c with votes:=vput c.votes p.src}:CoreM).lead else {c with votes:=vput c.votes p.src}:=if_neg h
theorem voted_any {h:Heap} {p o oo:Nat} {c:CoreM} (ap:Apart o oo) (k:PCore h p o oo c) (lk:LogOk c) (hs1:1≤c.self) (hs2:c.self≤5) (hv1:0≤c.votes) (hv2:c.votes<64) (x:PH) (hx1:1≤x.src) (hx2:x.src≤5)
  (hroom:(c.log.es.length+1)*48≤140737488355328) (he:c.out.entries.length≤1000000000) (hp:c.out.posts.length≤999999990) :
  ACalls PR 136 #[Ptr p, .agg x.cells.toArray] h (fun v h'=>v = .tuple #[]∧PCore h' p o oo (c.voted x.abs)∧Keeps [o,o+1,oo] h h'):=by
 obtain ⟨cx,k⟩:=k
 obtain ⟨a,ha⟩:∃ a:Nat,c.votes=a:=⟨c.votes.toNat,by omega⟩
 obtain ⟨n,hn⟩:∃ n:Nat,x.src=n:=⟨x.src.toNat,by omega⟩
 refine As mix Tryz.func136 rfl rfl Tryz.ntmps136 Tryz.results136 rfl ?_;conv=>whnf
 refine Al (0,1) (x.cells) rfl fun b1 h1 n1 s1 k1=>?_;conv=>whnf
 have q:=k.sub s1
 refine Aa rfl q.str rfl ?_;conv=>whnf
 by_cases c1:c.state≠1
 ·refine Ac (c1) ?_;conv=>whnf
  rw [CoreM.voted_no (.inl c1)]
  exact ⟨rfl,⟨_,q⟩,s1.keeps _⟩
 refine Ad (c1) ?_;conv=>whnf
 refine Aa rfl k1 rfl ?_;conv=>whnf
 cases c2:x.ok with
 | false =>
  conv=>whnf
  rw [CoreM.voted_no (.inr c2)]
  exact ⟨rfl,⟨_,q⟩,s1.keeps _⟩
 | true =>
 conv=>whnf
 rw [CoreM.voted_yes (by show ¬(c.state≠1∨x.ok=false);rw [c2];simpa using c1)]
 refine Am ((two h1 p b1)) [12] (two_sub _ _ _) (by decide +kernel) ?_;conv=>whnf
 refine Aa rfl ((two_l _ _ _).trans q.str) rfl ?_
 refine Aa rfl ((two_r _ _ _).trans k1) rfl ?_;conv=>whnf
 rw [hn,ha]
 refine ⟨by omega,?_⟩
 refine AArith.as (shl_one n (by omega)) ?_;conv=>whnf
 refine Aq ((or_bits a (by omega) n (by omega)).1.trans (or_vput a (by omega) n (by omega) (by omega))) ?_;conv=>whnf
 rw [← ha,← hn]
 refine Af rfl rfl rfl (q.str) rfl (coreCells {c with votes:=vput c.votes x.src} cx) rfl fun h2 t2 k2 a2 e2=>?_;conv=>whnf
 obtain ⟨g,hg⟩:∃ g:CoreM,g={c with votes:=vput c.votes x.src}:=⟨_,rfl⟩
 rw [show ({c with votes:=vput c.votes x.abs.src}:CoreM)=g from hg.symm]
 rw [← hg] at k2
 have q2:CoreX 81 LA h2 p o oo g cx:=by
  rw [hg] at k2 ⊢
  exact ⟨k2,q.sd.keepT t2 (by simp),KeepT.log q.log t2,q.rd.keepT t2 (by simp),q.out.keepT ap.a t2⟩
 have lk2:LogOk g:=by rw [hg];exact lk.same rfl rfl
 have g1:g.self=c.self:=by rw [hg]
 have g2:g.log=c.log:=by rw [hg]
 have g3:g.out=c.out:=by rw [hg]
 have kk2:Keeps [o,o+1,oo] h h2:=(s1.keeps _).trans (t2.keep.keeps (by simp))
 refine C2 (crewNow_any q2 lk2.lo lk2.by_) ?_;conv=>whnf
 refine Aa rfl q2.str rfl ?_;conv=>whnf
 refine ACalls.mono (Most_any h2 g.crewNow.1 g.votes) ?_
 rw [mostOf_set (p:=hasB g.votes) (fun n _ _=>rfl),show mostOf g.crewNow.1 (hasB g.votes)=g.elected from rfl]
 cases hel:g.elected with
 | false =>
  rintro _ _ ⟨rfl,rfl⟩
  conv=>whnf
  rw [if_neg (by simp)]
  exact ⟨rfl,⟨_,q2⟩,kk2⟩
 | true =>
  rintro _ _ ⟨rfl,rfl⟩
  conv=>whnf
  rw [if_pos rfl]
  refine ACalls.mono (lead_any ap ⟨_,q2⟩ lk2 (by rw [g1];exact hs1) (by rw [g1];exact hs2) (by rw [g2];exact hroom) (by rw [g3];exact he) (by rw [g3];exact hp)) ?_;rintro _ h7 ⟨rfl,k7,kk7⟩;conv=>whnf
  exact ⟨rfl,k7,kk2.trans kk7⟩
end Go.Ah
