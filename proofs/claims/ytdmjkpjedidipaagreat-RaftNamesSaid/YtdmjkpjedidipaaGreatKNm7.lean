/- Texts that the law leans on, one behind the other. -/
import Derived.Test.YtdmjkpjedidipaaGreatKNm6
namespace Go.Ah
open Go.Proofs
set_option linter.unusedVariables false
set_option linter.unusedSimpArgs false
set_option maxRecDepth 20000
set_option maxHeartbeats 16000000
section
variable {g:Gh} {n:Int} {s:SavedM} {c:CoreM} {A:List Abs}
def CoreM.saved (c:CoreM):SavedM:=⟨c.term,c.vote,c.snap,c.log.es⟩
structure Idl (g:Gh) (n:Int) (s:SavedM) (c:CoreM) (A:List Abs):Prop where
  srv:Srv g n c A
  kept:s=c.saved
  out:c.out=out0
theorem Idl.mid (w:Wld g) (k:Idl g n s c A):Mid g n s c A:=by
 refine ⟨w,k.srv,⟨fun _=>?_, .inl ⟨by rw [k.out];rfl,by rw [k.out];rfl,?_,?_⟩⟩,fun p hp=>?_⟩
 ·rw [k.kept];exact ⟨rfl,rfl⟩
 ·rw [k.kept];rfl
 ·rw [k.kept,k.out];show c.log.es=c.log.es++[];rw [List.append_nil]
 ·rw [k.out] at hp;cases hp
theorem Ext.idl (w:Wld g) {g':Gh} {m:Int} (x:Ext n g g') (h:m≠n) (k:Idl g m s c A):Idl g' m s c A:=⟨x.srv w h k.srv,k.kept,k.out⟩
theorem Mid.kept (k:Mid g n s c A):keptOk s c.done.2=true∧keptM s c.done.2=c.done.1.saved∧Srv g n c.done.1 A:=by
 have e1:∀ h:c.out.hard=false,s.term=c.term∧s.vote=c.vote:=k.kp.hard
 refine ⟨?_,?_,k.srv.putOut _⟩
 ·unfold keptOk CoreM.done
  simp only []
  cases hh:c.out.hard with
  | true =>
   rcases k.kp.log with ⟨a,b,_⟩ | ⟨a,b,d,e,f,_⟩ | ⟨a,b,d,_⟩
   ·rw [a,b];simp
   ·rw [a];simp [b,d,e]
   ·rw [d];simp
  | false =>
   obtain ⟨t1,t2⟩:=e1 hh
   rcases k.kp.log with ⟨a,b,_⟩ | ⟨a,b,d,e,f,_⟩ | ⟨a,b,d,_⟩
   ·rw [a,b];simp [t1,t2]
   ·rw [a];simp [b,d,e,t1,t2]
   ·rw [d];simp [t1,t2]
 ·unfold keptM CoreM.done CoreM.saved
  simp only []
  have hs:∀ S:SavedM,S.term=c.term→S.vote=c.vote→S.snap=s.snap→S.entries=s.entries →
    (let s:=if 0<c.out.snap.index then snappedM S c.out.snap else S
     let s:=if 0<c.out.cut then {s with entries:=s.entries.take (c.out.cut-s.snap.index-1).toNat} else s
     ({s with entries:=s.entries++c.out.entries}:SavedM))=⟨c.term,c.vote,c.snap,c.log.es⟩:=by
   intro S h1 h2 h3 h4
   simp only []
   rcases k.kp.log with ⟨a,b,d,e⟩ | ⟨a,b,d,e,f,h⟩ | ⟨a,b,d,e,f⟩
   ·rw [a,b];simp only [Int.lt_irrefl,if_false];rw [h1,h2,h3,h4,d,e]
   ·rw [a];simp only [Int.lt_irrefl,if_false];rw [if_pos b];simp only [];rw [h1,h2,h3,h4,f,h]
   ·rw [if_pos a,d];simp only [Int.lt_irrefl,if_false]
    unfold snappedM
    simp only []
    rw [h1,h2,h4,e,List.append_nil,b,f]
  cases hh:c.out.hard with
  | true=>exact hs _ rfl rfl rfl rfl
  | false =>
   obtain ⟨t1,t2⟩:=e1 hh
   exact hs s t1 t2 rfl rfl
theorem conf_chk:∀ (A:List Abs) (size f:Int),(∀ e∈A,EOk size e)→cchk f=0→cchk (conf f A)=0
 | [],_,f,_,h=>h
 | e::r,size,f,h,hf=>by
  unfold conf
  rw [List.foldl_cons]
  refine conf_chk r size _ (fun x hx=>h x (by simp [hx])) ?_
  split
  ·rename_i h2
   have:=((h e (by simp)).cr h2).1
   unfold crewOk at this
   unfold crewNum
   split at this
   ·simpa using this
   ·cases this
  ·exact hf
theorem chk14:cchk 14=0:=by decide
theorem sends_commit:∀ (l:List Int) (c:CoreM),(l.foldl CoreM.send c).commit=c.commit
 | [],c=>rfl
 | m::l,c=>by rw [List.foldl_cons,sends_commit l];unfold CoreM.send;split <;> rfl
theorem says_commit (p:PostM):∀ (l:List Int) (c:CoreM),(l.foldl (fun x m=>x.say m p) c).commit=c.commit
 | [],c=>rfl
 | m::l,c=>by rw [List.foldl_cons,says_commit p l];rfl
theorem rank_commit (c:CoreM):c.commit≤c.rank.commit:=by
 have er:c.rank=(let d:={c with mtch:=c.mtch.set c.self c.log.last.1};let r:=rankOf d.crewNow.1 d.mtch;if r≤d.commit∨d.has r d.term=false then d else if hasB d.crewNow.1 d.self=false∧d.crewNow.2≤r then ({d with commit:=r}:CoreM).follow else {d with commit:=r}):=rfl
 rw [er]
 simp only []
 split
 ·exact Int.le_refl _
 ·rename_i h
  split
  ·show c.commit≤rankOf _ _;omega
  ·show c.commit≤rankOf _ _;omega
theorem put_commit (c:CoreM) (k:Int) (d:List Int):(c.put k d).commit=c.commit:=by
 unfold CoreM.put;simp only [];split <;> rfl
theorem lead_commit (c:CoreM):c.commit≤c.lead.commit:=by
 rw [CoreM.lead_eq]
 have h:=rank_commit ((c.office.put 0 []).sendAll)
 unfold CoreM.sendAll at h ⊢
 rw [sends_commit,put_commit] at h
 exact h
theorem stand_commit (c:CoreM):c.commit≤c.stand.commit:=by
 rw [CoreM.stand_is]
 split
 ·exact Int.le_refl _
 ·have e:(c.stoodM.others.foldl (fun x m=>x.say m {post0 with kind:=1,index:=c.log.last.1,logTerm:=c.log.last.2}) c.stoodM).commit=c.commit:=by rw [says_commit];rfl
  split
  ·have:=lead_commit (c.stoodM.others.foldl (fun x m=>x.say m {post0 with kind:=1,index:=c.log.last.1,logTerm:=c.log.last.2}) c.stoodM)
   rw [e] at this;exact this
  ·rw [e];exact Int.le_refl _
theorem tick_commit (c:CoreM) (d:Int):c.commit≤(c.tick d).commit:=by
 unfold CoreM.tick
 split
 ·split
  ·unfold CoreM.sendAll;rw [sends_commit];exact Int.le_refl _
  ·exact Int.le_refl _
 ·simp only []
  split
  ·exact stand_commit _
  ·exact Int.le_refl _
theorem confirm_commit (c:CoreM):c.confirm.commit=c.commit:=by unfold CoreM.confirm;split <;> rfl
theorem appendRest_commit (c:CoreM) (l:List Abs):(c.appendRest l).commit=c.commit:=by
 unfold CoreM.appendRest
 split
 ·rfl
 ·simp only [];split <;> rfl
theorem append_commit (c:CoreM) (p:PostM):c.commit≤(c.append p).commit:=by
 rw [CoreM.append_eq]
 split
 ·exact Int.le_refl _
 ·unfold CoreM.appendOk
  show c.commit≤(if (c.appendRest _).commit<_ then _ else (c.appendRest _).commit)
  rw [appendRest_commit]
  split <;> omega
theorem install_commit (c:CoreM) (p:PostM):c.commit≤(c.install p).commit:=by
 unfold CoreM.install
 simp only []
 split
 ·show c.commit≤p.snap.index;omega
 ·exact Int.le_refl _
theorem told_commit (c:CoreM) (p:PostM):c.commit≤(c.told p).commit:=by
 unfold CoreM.told
 rw [confirm_commit]
 simp only []
 split
 ·split
  ·unfold CoreM.send;split
   ·exact rank_commit _
   ·exact rank_commit _
  ·exact rank_commit _
 ·unfold CoreM.send;split <;> exact Int.le_refl _
theorem take1_commit (c:CoreM) (p:PostM) (d:Int):c.commit≤(c.take1 p d).commit:=by
 unfold CoreM.take1
 split
 ·rw [CoreM.asked_eq];split <;> exact Int.le_refl _
 ·split
  ·unfold CoreM.voted
   split
   ·exact Int.le_refl _
   ·simp only [];split
    ·exact lead_commit _
    ·exact Int.le_refl _
  ·split
   ·split
    ·exact Int.le_refl _
    ·simp only [];split
     ·exact install_commit _ _
     ·exact append_commit _ _
   ·split
    ·exact told_commit _ _
    ·exact Int.le_refl _
theorem take_commit (c:CoreM) (p:PostM) (d:Int):c.commit≤(c.take p d).commit:=by
 unfold CoreM.take
 split
 ·exact Int.le_refl _
 ·split
  ·unfold CoreM.refuse;split
   ·exact Int.le_refl _
   ·split <;> exact Int.le_refl _
  ·split
   ·exact take1_commit (c.learn p.term) p d
   ·exact take1_commit c p d
theorem anews_commit (index:Int) (P:Int→Bool):∀ (l:List Int) (c:CoreM),(l.foldl (fun x m=>if P m=true then x else x.anew index m) c).commit=c.commit
 | [],c=>rfl
 | m::l,c=>by rw [List.foldl_cons,anews_commit index P l];split <;> rfl
theorem propose_commit (c:CoreM) (k:Int) (d:List Int):c.commit≤(c.propose k d).commit:=by
 rw [CoreM.propose_is]
 have h:=rank_commit (((ls (m5 (c.put k d).crewNow.1)).foldl (fun x m=>if hasB c.crewNow.1 m=true then x else x.anew (c.log.last.1+1) m) (c.put k d)).sendAll)
 unfold CoreM.sendAll at h ⊢
 rw [sends_commit,anews_commit,put_commit] at h
 exact h
end
section
variable {g:Gh} {n:Int} {s:SavedM} {c:CoreM} {A:List Abs}
theorem numB_of {x:Int} (h0:0≤x) (h1:x≤9007199254740991):numB x=true:=decide_eq_true ⟨h0,h1⟩
theorem same_self (p:PostM):p.same p=true:=by
 unfold PostM.same SnapM.same;simp
theorem chk_range {c:Int} (h:cchk c=0):c % 2=0∧1≤c∧c≤63:=by
 unfold cchk at h
 split at h
 ·rename_i z
  have:=m5_lt c
  omega
 ·cases h
theorem entriesMay_of {top:Int}:∀ (l:List Abs) (i t:Int),(∀ (k:Nat) (e:Abs),l[k]? = some e→e.2.1=i+1+k∧numB e.2.1=true∧e.1≤top∧0≤e.2.2.1∧e.2.2.1≤2∧e.2.2.2.length≤1200) →
  (∀ (k:Nat) (e:Abs),l[k]? = some e→t≤e.1)→(∀ (j k:Nat) (e f:Abs),j≤k→l[j]? = some e→l[k]? = some f→e.1≤f.1)→entriesMay top i t l=true
 | [],_,_,_,_,_=>rfl
 | e::r,i,t,h1,h2,h3=>by
  obtain ⟨a1,a2,a3,a4,a5,a6⟩:=h1 0 e rfl
  have b:=h2 0 e rfl
  unfold entriesMay
  rw [entriesMay_of r (i+1) e.1 (fun k f hf=>by
   obtain ⟨b1,b2⟩:=h1 (k+1) f (by simpa using hf)
   exact ⟨by rw [b1];omega,b2⟩) (fun k f hf=>h3 0 (k+1) e f (by omega) rfl (by simpa using hf)) (fun j k e' f hjk he hf=>h3 (j+1) (k+1) e' f (by omega) (by simpa using he) (by simpa using hf))]
  rw [decide_eq_true (show e.2.1=i+1 by rw [a1];omega),a2,decide_eq_true (show t≤e.1∧e.1≤top from ⟨b,a3⟩),decide_eq_true (show 0≤e.2.2.1∧e.2.2.1≤2 from ⟨a4,a5⟩),decide_eq_true a6]
  rfl
theorem Msg.takes (w:Wld g) {p:PostM} (m:Msg g p) (hs:c.self=p.dst):c.takes p=true:=by
 have m1:=m.s1;have m2:=m.s2;have m3:=m.d1;have m4:=m.d2;have m5:=m.t1;have m6:=m.t2;have m7:=m.h0;have m8:=m.h1
 have hne:=m.ne
 have hl3:=w.l3;have hs5:=w.sz5
 have htl:=w.l1 p.src m1 m2
 have hterm:numB p.term=true:=numB_of (by omega) (by omega)
 have hhint:numB p.hint=true:=numB_of m7 (by omega)
 have hB:decide (1≤p.src∧p.src≤5∧1≤p.dst∧p.dst≤5∧p.src≠p.dst)=true:=decide_eq_true ⟨m1,by omega,m3,by omega,hne⟩
 have hdst:decide (p.dst=c.self)=true:=decide_eq_true hs.symm
 have ht0:decide (0<p.term)=true:=decide_eq_true (by omega)
 have fin:decide (1≤p.kind∧p.kind≤6)=true→p.bare=p→numB p.index=true→numB p.commit=true→0≤p.logTerm→p.logTerm≤p.term→p.entries.length≤8→entriesMay p.term p.index p.logTerm p.entries=true→(p.kind=5→p.snapMay=true∧1≤p.snap.term)→(∀ e∈p.entries,1≤e.1)→crewsMay p.entries=true→c.takes p=true:=by
  intro k1 k2 k3 k4 k5 k6 k7 k8 k9 k10 k11
  unfold CoreM.takes PostM.check
  rw [k1,hB,hterm,k3,k4,hhint,decide_eq_true (show 0≤p.logTerm∧p.logTerm≤p.term from ⟨k5,k6⟩),k2,same_self,decide_eq_true k7,k8,hdst,ht0,k11]
  have h1:(decide (p.kind≠5) || p.snapMay)=true:=by
   by_cases z:p.kind=5
   ·rw [(k9 z).1];simp
   ·simp [z]
  have h2:(p.entries.all fun e=>decide (1≤e.1))=true:=by
   rw [List.all_eq_true];exact fun e he=>decide_eq_true (k10 e he)
  have h3:(decide (p.kind≠5) || decide (1≤p.snap.term))=true:=by
   by_cases z:p.kind=5
   ·rw [decide_eq_true (k9 z).2];simp
   ·simp [z]
  rw [h1,h2,h3];rfl
 rcases m.body with ⟨a,b,d,e,f,h⟩ | ⟨a,b,d⟩ | ⟨a,b,d,d1,d2,d3,e1,e2,e3,f1,f2,f3⟩ | ⟨a,b,d,e,f⟩ | ⟨a,b,d,d1,d2,d3,d4,d5,d6⟩ | ⟨a,b,d,e,f⟩
 ·obtain ⟨cg1,cg2⟩:=w.cg p.term p.src (by omega) d
  have hlt:0≤p.logTerm∧p.logTerm≤p.term:=by
   rw [f]
   by_cases z:(g.cand p.term p.src).length=0
   ·rw [z];unfold termAt;rw [if_pos rfl];omega
   ·obtain ⟨x,hx⟩:∃ x,(g.cand p.term p.src)[(g.cand p.term p.src).length-1]? = some x:=⟨(g.cand p.term p.src)[(g.cand p.term p.src).length-1],by simp⟩
    have ta:=termAt_some hx
    rw [show (g.cand p.term p.src).length-1+1=(g.cand p.term p.src).length by omega] at ta
    rw [ta]
    have:=(cg1.lm _ x hx).1;have:=cg2 _ x hx
    omega
  have he:p.entries=[]:=by rw [b];rfl
  have hc:p.commit=0:=by rw [b];rfl
  refine fin (by rw [a];rfl) (by unfold PostM.bare;rw [if_pos a];rw [a];exact b.symm) (numB_of (by omega) (by omega)) (by rw [hc];rfl) hlt.1 hlt.2 (by rw [he];simp) (by rw [he];rfl) (fun z=>by omega) (by rw [he];simp) (by rw [he];rfl)
 ·have he:p.entries=[]:=by rw [b];rfl
  have hc:p.commit=0:=by rw [b];rfl
  have hi:p.index=0:=by rw [b];rfl
  have hlt:p.logTerm=0:=by rw [b];rfl
  exact fin (by rw [a];rfl) (by unfold PostM.bare;rw [if_neg (by omega),if_pos a];rw [a];exact b.symm) (by rw [hi];rfl) (by rw [hc];rfl) (by omega) (by omega) (by rw [he];simp) (by rw [he];rfl) (fun z=>by omega) (by rw [he];simp) (by rw [he];rfl)
 ·have hl0:g.H.led p.term≠0:=by rw [d];omega
  have gl:=w.ok.log _ hl0
  have hl2:=w.l2 p.term
  have get:∀ (j:Nat) (x:Abs),p.entries[j]? = some x→(g.H.ll p.term)[p.index.toNat+j]? = some x:=fun j x h=>by
   rw [e3,List.getElem?_take] at h
   split at h
   ·rw [List.getElem?_drop] at h;exact h
   ·cases h
  have hlt:0≤p.logTerm∧p.logTerm≤p.term∧∀ (j:Nat) (x:Abs),p.entries[j]? = some x→p.logTerm≤x.1:=by
   rw [d3]
   by_cases z:p.index.toNat=0
   ·rw [z];unfold termAt;rw [if_pos rfl]
    exact ⟨by omega,by omega,fun j x h=>by have:=(gl.lm _ x (get j x h)).1;omega⟩
   ·obtain ⟨y,hy⟩:∃ y,(g.H.ll p.term)[p.index.toNat-1]? = some y:=⟨(g.H.ll p.term)[p.index.toNat-1],by simp⟩
    have ta:=termAt_some hy
    rw [show p.index.toNat-1+1=p.index.toNat by omega] at ta
    rw [ta]
    have:=(gl.lm _ y hy).1;have:=w.ok.top p.term _ y hl0 hy
    exact ⟨by omega,by omega,fun j x h=>gl.mono _ _ y x (by omega) hy (get j x h)⟩
  have heo:∀ (j:Nat) (x:Abs),p.entries[j]? = some x→EOk g.size x:=fun j x h=>w.eok _ x (List.mem_of_getElem? (get j x h))
  refine fin (by rw [a];rfl) (by unfold PostM.bare;rw [if_neg (by omega),if_neg (by omega),if_pos a];rw [a];exact b.symm) (numB_of d1 (by omega)) (numB_of f1 (by omega)) hlt.1 hlt.2.1 e1 ?_ (fun z=>by omega) (fun x hx=>?_) ?_
  ·refine entriesMay_of _ _ _ (fun j x h=>?_) hlt.2.2 fun i j x y hij hx hy=>gl.mono _ _ x y (by omega) (get i x hx) (get j y hy)
   have hx:=w.ix _ _ x (get j x h)
   have hj:=(List.getElem?_eq_some_iff.1 (get j x h)).1
   have he:=heo j x h
   exact ⟨by rw [hx];omega,numB_of (by rw [hx];omega) (by rw [hx];omega),w.ok.top _ _ x hl0 (get j x h),he.k0,he.k2,he.len⟩
  ·obtain ⟨j,hj⟩:=List.getElem?_of_mem hx
   exact (gl.lm _ x (get j x hj)).1
  ·unfold crewsMay
   rw [List.all_eq_true];intro x hx
   obtain ⟨j,hj⟩:=List.getElem?_of_mem hx
   have he:=heo j x hj
   by_cases z:x.2.2.1=2
   ·rw [(he.cr z).1];simp
   ·simp [z]
 ·have he:p.entries=[]:=by rw [b];rfl
  have hc:p.commit=0:=by rw [b];rfl
  have hlt:p.logTerm=0:=by rw [b];rfl
  exact fin (by rw [a];rfl) (by unfold PostM.bare;rw [if_neg (by omega),if_neg (by omega),if_neg (by omega),if_pos a];rw [a];exact b.symm) (numB_of d (by omega)) (by rw [hc];rfl) (by omega) (by omega) (by rw [he];simp) (by rw [he];rfl) (fun z=>by omega) (by rw [he];simp) (by rw [he];rfl)
 ·have hl0:g.H.led p.term≠0:=by rw [d];omega
  have gl:=w.ok.log _ hl0
  have hl2:=w.l2 p.term
  have he:p.entries=[]:=by rw [b];rfl
  have hc:p.commit=0:=by rw [b];rfl
  have hi:p.index=0:=by rw [b];rfl
  have hlt:p.logTerm=0:=by rw [b];rfl
  obtain ⟨y,hy⟩:∃ y,(g.H.ll p.term)[p.snap.index.toNat-1]? = some y:=⟨(g.H.ll p.term)[p.snap.index.toNat-1],by simp⟩
  have ta:=termAt_some hy
  rw [show p.snap.index.toNat-1+1=p.snap.index.toNat by omega,← d3] at ta
  have y1:=(gl.lm _ y hy).1
  have y2:=w.ok.top p.term _ y hl0 hy
  refine fin (by rw [a];rfl) (by unfold PostM.bare;rw [if_neg (by omega),if_neg (by omega),if_neg (by omega),if_neg (by omega),if_pos a];rw [a];exact b.symm) (by rw [hi];rfl) (by rw [hc];rfl) (by omega) (by omega) (by rw [he];simp) (by rw [he];rfl) (fun _=>⟨?_,by omega⟩) (by rw [he];simp) (by rw [he];rfl)
  have hck:cchk p.snap.crew=0:=by rw [d4];exact conf_chk _ g.size 14 (fun e he=>w.eok _ e (List.mem_of_mem_take he)) chk14
  unfold PostM.snapMay
  rw [decide_eq_true (show 1≤p.snap.index∧p.snap.index≤9007199254740991 by omega),decide_eq_true (show 0≤p.snap.term∧p.snap.term≤p.term by omega),decide_eq_true (chk_range hck),decide_eq_true d5];rfl
 ·have he:p.entries=[]:=by rw [b];rfl
  have hc:p.commit=0:=by rw [b];rfl
  have hlt:p.logTerm=0:=by rw [b];rfl
  exact fin (by rw [a];rfl) (by unfold PostM.bare;rw [if_neg (by omega),if_neg (by omega),if_neg (by omega),if_neg (by omega),if_neg (by omega),if_pos a];rw [a];exact b.symm) (numB_of d (by omega)) (by rw [hc];rfl) (by omega) (by omega) (by rw [he];simp) (by rw [he];rfl) (fun z=>by omega) (by rw [he];simp) (by rw [he];rfl)
end
section
variable {g:Gh} {n:Int}
def ChosenAt (g:Gh) (i:Int) (e:Abs):Prop:=1≤i∧∃ (m:Int) (T:Int) (d:Nat) (B:List Abs),1≤m∧m≤g.size∧T≤g.tm m∧Com g.H T d B∧d≤B.length∧i.toNat≤d∧B[i.toNat-1]? = some e
structure NetI (g:Gh) (x:NetM):Prop where
  w:Wld g
  sz:g.size=x.size
  srv:∀ n,1≤n→n≤x.size→∃ A,Idl g n (x.kept.get n) (x.cores.get n) A
  mails:∀ p∈x.mails,Msg g p
  fine:x.fine=true
  leaders:∀ t o,alook t x.leaders=some o→g.H.led t=o∧o≠0
  chosen:∀ i e,alook i x.chosen=some e→ChosenAt g i e
  cm:∀ n,1≤n→n≤x.size→x.commits.get n≤(x.cores.get n).commit
  tms:∀ n,1≤n→n≤x.size→x.terms.get n≤(x.cores.get n).term
  draw:0≤x.draw
theorem Ext.chosenAt {g':Gh} (x:Ext n g g') {i:Int} {e:Abs} (k:ChosenAt g i e):ChosenAt g' i e:=by
 obtain ⟨h,m,T,d,B,m1,m2,m3,m4,r⟩:=k
 refine ⟨h,m,T,d,B,m1,by rw [x.size];exact m2,?_,x.com (Int.le_refl _) m4,r⟩
 by_cases z:m=n
 ·rw [z] at m3 ⊢;exact Int.le_trans m3 x.tmn
 ·rw [x.tm m z];exact m3
theorem lookEs_ok (w:Wld g) {c:CoreM} {A:List Abs} (sv:Srv g n c A):∀ (l:List Abs) (ch:List (Int×Abs)),(∀ e∈l,∃ k:Nat,A[k]? = some e)→(∀ i e,alook i ch=some e→ChosenAt g i e) →
  (lookEs c.commit l (true,ch)).1=true∧∀ i e,alook i (lookEs c.commit l (true,ch)).2=some e→ChosenAt g i e
 | [],ch,_,h=>⟨rfl,h⟩
 | e::l,ch,hA,h=>by
  unfold lookEs
  split
  ·exact ⟨rfl,h⟩
  ·rename_i hc
   obtain ⟨k,hk⟩:=hA e (by simp)
   have hx:=sv.rep.ix k e hk
   have hkl:=(List.getElem?_eq_some_iff.1 hk).1
   have hc1:=sv.c1
   have here:ChosenAt g e.2.1 e:=⟨by rw [hx];omega,n,c.term,c.commit.toNat,A,sv.n1,sv.n2,by rw [sv.tm];exact Int.le_refl _,sv.com,by omega,by rw [hx];omega,by rw [hx];rw [show ((k:Int)+1).toNat-1=k by omega];exact hk⟩
   have hb:agreeE (alook e.2.1 ch) e=true:=by
    cases ho:alook e.2.1 ch with
    | none=>rfl
    | some o =>
     obtain ⟨h1,m,T,d,B,m1,m2,m3,m4,m5,m6,m7⟩:=h _ _ ho
     obtain ⟨_,m',T',d',B',n1,n2,n3,n4,n5,n6,n7⟩:=here
     refine decide_eq_true ?_
     have:B[e.2.1.toNat-1]? = B'[e.2.1.toNat-1]? := by
      rcases Nat.le_total d d' with hd | hd
      ·exact (Com.com w m4 n4 m5 n5 hd).c _ (by omega)
      ·exact ((Com.com w n4 m4 n5 m5 hd).c _ (by omega)).symm
     rw [m7,n7] at this
     exact Option.some.inj this
   rw [Bool.true_and,hb]
   refine lookEs_ok w sv l _ (fun e' he'=>hA e' (by simp [he'])) fun i e' hi=>?_
   rw [alook_aset] at hi
   split at hi
   ·rename_i z;cases hi;rw [z];exact here
   ·exact h i e' hi
theorem five_gs (f:Five) (n m v:Int) (h1:1≤m) (h2:m≤5):(f.set n v).get m=if m=n then v else f.get m:=five_get_set f n m v h1 h2
theorem NetI.look {x:NetM} (k:NetI g x) (n1:1≤n) (n2:n≤x.size):NetI g (x.look n):=by
 obtain ⟨A,id⟩:=k.srv n n1 n2
 have sv:=id.srv
 have hs5:=k.w.sz5
 have hsz:=k.sz
 have hke:(x.kept.get n).entries=(x.cores.get n).log.es:=by rw [id.kept];rfl
 have hks:(x.kept.get n).snap.index=(x.cores.get n).log.bi:=by rw [id.kept];exact sv.si
 have hlen:=sv.rep.len
 have f1:(if (x.cores.get n).state=2 then agreeI (alook (x.cores.get n).term x.leaders) n else true)=true:=by
  split
  ·rename_i h2
   cases ho:alook (x.cores.get n).term x.leaders with
   | none=>rfl
   | some o=>exact decide_eq_true ((k.leaders _ _ ho).1.symm.trans (sv.lead h2).1)
  ·rfl
 have f2:(decide (x.commits.get n≤(x.cores.get n).commit)&&decide (x.terms.get n≤(x.cores.get n).term))=true:=by
  rw [decide_eq_true (k.cm n n1 n2),decide_eq_true (k.tms n n1 n2)];rfl
 have hlk:=lookEs_ok k.w sv (x.kept.get n).entries x.chosen (fun e he=>by
  rw [hke,sv.rep.es] at he
  obtain ⟨j,hj⟩:=List.getElem?_of_mem he
  rw [List.getElem?_drop] at hj
  exact ⟨_,hj⟩) k.chosen
 have hc1:=sv.c1
 have f3:decide ((x.cores.get n).commit≤(x.kept.get n).snap.index+(x.kept.get n).entries.length)=true:=by
  refine decide_eq_true ?_
  rw [hks,hke,hlen];omega
 have e:x.look n={x with fine:=(lookEs (x.cores.get n).commit (x.kept.get n).entries (true,x.chosen)).1&&true,leaders:=if (x.cores.get n).state=2 then aset (x.cores.get n).term n x.leaders else x.leaders,chosen:=(lookEs (x.cores.get n).commit (x.kept.get n).entries (true,x.chosen)).2,commits:=x.commits.set n (x.cores.get n).commit,terms:=x.terms.set n (x.cores.get n).term}:=by
  unfold NetM.look
  simp only []
  rw [k.fine,f1,f2,f3];rfl
 rw [e]
 refine ⟨k.w,k.sz,k.srv,k.mails,by show (_&&true)=true;rw [hlk.1];rfl,fun t o ho=>?_,hlk.2,fun m m1 m2=>?_,fun m m1 m2=>?_,k.draw⟩
 ·have ho':alook t (if (x.cores.get n).state=2 then aset (x.cores.get n).term n x.leaders else x.leaders)=some o:=ho
  split at ho'
  ·rename_i h2
   rw [alook_aset] at ho'
   split at ho'
   ·rename_i z;cases ho';rw [z];exact ⟨(sv.lead h2).1,by omega⟩
   ·exact k.leaders t o ho'
  ·exact k.leaders t o ho'
 ·show (x.commits.set n (x.cores.get n).commit).get m≤_
  have m2':m≤x.size:=m2
  rw [five_gs _ _ _ _ m1 (by omega)]
  split
  ·rename_i z;rw [z];exact Int.le_refl _
  ·exact k.cm m m1 m2'
 ·show (x.terms.set n (x.cores.get n).term).get m≤_
  have m2':m≤x.size:=m2
  rw [five_gs _ _ _ _ m1 (by omega)]
  split
  ·rename_i z;rw [z];exact Int.le_refl _
  ·exact k.tms m m1 m2'
theorem NetI.out {x:NetM} (k:NetI g x) (n1:1≤n) (n2:n≤x.size) {c:CoreM} {A:List Abs} {g':Gh} (e:Ext n g g') (m:Mid g' n (x.kept.get n) c A) (hc:(x.cores.get n).commit≤c.commit):NetI g' (x.out n c):=by
 obtain ⟨A0,id0⟩:=k.srv n n1 n2
 have hs5:=k.w.sz5
 have hsz:=k.sz
 obtain ⟨k1,k2,k3⟩:=m.kept
 have ht:(x.cores.get n).term≤c.term:=by rw [id0.srv.tm,m.srv.tm];exact e.tmn
 have hm':∀ p∈x.mails,Msg g' p:=fun p hp=>e.msg k.w (k.mails p hp)
 unfold NetM.out NetM.keep
 simp only []
 have base:NetI g' {x with cores:=x.cores.set n c.done.1,kept:=x.kept.set n c.done.1.saved}:=by
  refine ⟨m.w,e.size.trans k.sz,fun j j1 j2=>?_,hm',k.fine,fun t o ho=>?_,fun i y hy=>e.chosenAt (k.chosen i y hy),fun j j1 j2=>?_,fun j j1 j2=>?_,k.draw⟩
  ·have j2':j≤x.size:=j2
   show ∃ A,Idl g' j ((x.kept.set n c.done.1.saved).get j) ((x.cores.set n c.done.1).get j) A
   rw [Fv.get_set _ _ _ _ j1 (by omega),Fv.get_set _ _ _ _ j1 (by omega)]
   split
   ·rename_i z;rw [z];exact ⟨A,k3,rfl,rfl⟩
   ·rename_i z
    obtain ⟨B,idj⟩:=k.srv j j1 j2'
    exact ⟨B,e.idl k.w z idj⟩
  ·obtain ⟨l1,l2⟩:=k.leaders t o ho
   exact ⟨(e.led t (by rw [l1];exact l2)).1.trans l1,l2⟩
  ·have j2':j≤x.size:=j2
   show x.commits.get j≤((x.cores.set n c.done.1).get j).commit
   rw [Fv.get_set _ _ _ _ j1 (by omega)]
   split
   ·rename_i z;rw [z];have:=k.cm n n1 n2;show _≤c.commit;omega
   ·exact k.cm j j1 j2'
  ·have j2':j≤x.size:=j2
   show x.terms.get j≤((x.cores.set n c.done.1).get j).term
   rw [Fv.get_set _ _ _ _ j1 (by omega)]
   split
   ·rename_i z;rw [z];have:=k.tms n n1 n2;show _≤c.term;omega
   ·exact k.tms j j1 j2'
 rw [k1,k2,k.fine]
 split
 ·refine NetI.look ⟨base.w,base.sz,base.srv,fun p hp=>?_,rfl,base.leaders,base.chosen,base.cm,base.tms,base.draw⟩ n1 n2
  rcases List.mem_append.1 hp with hp | hp
  ·exact hm' p hp
  ·exact m.out p hp
 ·exact NetI.look ⟨base.w,base.sz,base.srv,base.mails,rfl,base.leaders,base.chosen,base.cm,base.tms,base.draw⟩ n1 n2
end
section
variable {g:Gh} {n:Int} {x:NetM}
theorem NetI.more (k:NetI g x) {d:Int} (h:0≤d) (hl:g.lim+d≤100000000):NetI (g.more d) x:=by
 have e:=ext_more (n:=0) (g:=g) h
 exact ⟨k.w.more h hl,k.sz,fun n n1 n2=>by
  obtain ⟨A,id⟩:=k.srv n n1 n2
  exact ⟨A,id.srv.more h,id.kept,id.out⟩,fun p hp=>e.msg k.w (k.mails p hp),k.fine,k.leaders,fun i y hy=>e.chosenAt (k.chosen i y hy),k.cm,k.tms,k.draw⟩
theorem NetI.withDraw (k:NetI g x) {d:Int} (h:0≤d):NetI g {x with draw:=d}:=⟨k.w,k.sz,k.srv,k.mails,k.fine,k.leaders,k.chosen,k.cm,k.tms,h⟩
theorem NetI.withMails (k:NetI g x) {l:List PostM} (h:∀ p∈l,Msg g p):NetI g {x with mails:=l}:=⟨k.w,k.sz,k.srv,h,k.fine,k.leaders,k.chosen,k.cm,k.tms,k.draw⟩
theorem out_size (x:NetM) (n:Int) (c:CoreM):(x.out n c).size=x.size∧(x.out n c).draw=x.draw:=by
 unfold NetM.out NetM.keep
 simp only []
 split <;> exact ⟨rfl,rfl⟩
structure Goes (g:Gh) (x y:NetM) (d:Int):Prop where
  out:∃ g',NetI g' y∧g'.lim≤g.lim+d
  size:y.size=x.size
  draw:y.draw=x.draw
theorem NetI.goes (k:NetI g x) {d:Int} (h:0≤d):Goes g x x d:=⟨⟨g,k,by omega⟩,rfl,rfl⟩
theorem NetI.call (k:NetI g x) (n1:1≤n) (n2:n≤x.size) {c:CoreM} (hl:g.lim+10≤100000000) (hc:(x.cores.get n).commit≤c.commit)
  (h:∀ A,Mid (g.more 10) n (x.kept.get n) (x.cores.get n) A→(A.length:Int)+1≤(g.more 10).lim→(x.cores.get n).term+1≤(g.more 10).lim→(x.cores.get n).out=out0→(x.cores.get n).round+1≤(g.more 10).lim→((x.cores.get n).reads.length:Int)+1≤(g.more 10).lim →
   ∃ g' A',Ext n (g.more 10) g'∧g'.lim=(g.more 10).lim∧Mid g' n (x.kept.get n) c A'):Goes g x (x.out n c) 10:=by
 have k':=k.more (d:=10) (by omega) hl
 obtain ⟨A,id⟩:=k.srv n n1 n2
 obtain ⟨A2,id2⟩:=k'.srv n n1 n2
 have hal:=id2.srv.al
 have h1:=id.srv.al;have h2:=k.w.l1 n n1 (by rw [k.sz];exact n2);have h3:=id.srv.tm;have h4:=id.srv.r2;have h5:=id.srv.rl
 have m0:Mid (g.more 10) n (x.kept.get n) (x.cores.get n) A:=Idl.mid k'.w ⟨id.srv.more (by omega),id.kept,id.out⟩
 obtain ⟨g',A',e,el,m⟩:=h A m0 (by show (A.length:Int)+1≤g.lim+10;omega) (by show (x.cores.get n).term+1≤g.lim+10;omega) id.out (by show (x.cores.get n).round+1≤g.lim+10;omega) (by show ((x.cores.get n).reads.length:Int)+1≤g.lim+10;omega)
 exact ⟨⟨g',k'.out n1 n2 e m hc,by rw [el];exact Int.le_refl _⟩,(out_size x n c).1,(out_size x n c).2⟩
theorem NetI.tick (k:NetI g x) (n1:1≤n) (n2:n≤x.size) {d:Int} (hd:0≤d) (hl:g.lim+10≤100000000):Goes g x (x.tick n d) 10 :=
 k.call n1 n2 hl (tick_commit _ _) fun A m h1 h2 h3 _ _=>m.tick (by rw [h3];rfl) h1 h2 hd
theorem NetI.propose (k:NetI g x) (n1:1≤n) (n2:n≤x.size) {kind:Int} {data:List Int} (hb:∀ z∈data,0≤z∧z<256) (hsz:kind=2→∀ m∈ls (m5 (crewNum (0,0,0,data))),m≤x.size) (hl:g.lim+10≤100000000):Goes g x (x.propose n kind data) 10:=by
 unfold NetM.propose
 split
 ·rename_i hE
  exact k.call n1 n2 hl (propose_commit _ _ _) fun A m h1 h2 h3 _ _=>m.propose hE hb (fun h j hj=>by show j≤g.size;rw [k.sz];exact hsz h j hj) (by rw [h3];rfl) h1
 ·exact k.goes (by omega)
theorem NetI.take (k:NetI g x) {p:PostM} (m:Msg g p) {d:Int} (hd:0≤d) (hl:g.lim+10≤100000000):Goes g x (x.take p d) 10:=by
 have hd2:p.dst≤x.size:=by rw [← k.sz];exact m.d2
 obtain ⟨A,id⟩:=k.srv p.dst m.d1 hd2
 unfold NetM.take
 rw [if_pos (m.takes k.w id.srv.self)]
 refine k.call m.d1 hd2 hl (take_commit _ _ _) fun A m' h1 h2 h3 _ _=>?_
 exact m'.take ((ext_more (n:=0) (g:=g) (by omega:(0:Int)≤10)).msg k.w m) rfl hd (by rw [h3];rfl) (by rw [h3];rfl) (by rw [h3];rfl) h1
theorem bring_in (i n:Int) (h:0<n):0≤bring i n∧bring i n<n:=by
 unfold bring
 rw [if_neg (by omega)]
 have h1:=Int.tmod_lt_of_pos i h
 have h2 : -n<i.tmod n:=Int.lt_tmod_of_pos i h
 split <;> omega
theorem conf_range:∀ (A:List Abs) (size f:Int),(∀ e∈A,EOk size e)→0≤f∧f<256→0≤conf f A∧conf f A<256
 | [],_,f,_,h=>h
 | e::r,size,f,h,hf=>by
  unfold conf
  rw [List.foldl_cons]
  refine conf_range r size _ (fun x hx=>h x (by simp [hx])) ?_
  split
  ·have hb:=(h e (by simp)).by_
   unfold crewNum
   split
   ·rename_i x hx;exact hb x (by rw [hx];simp)
   ·omega
  ·exact hf
theorem tickAll_go:∀ (l:List Nat) (d0:Int) (g:Gh) (x:NetM),0≤d0→(∀ k∈l,(k:Int)+1≤x.size)→NetI g x→g.lim+10*l.length≤100000000→Goes g x (l.foldl (fun (y:NetM) (k:Nat)=>y.tick ((k:Int)+1) (d0+(k:Int)+1)) x) (10*l.length)
 | [],d0,g,x,_,_,k,_=>k.goes (by simp)
 | j::l,d0,g,x,h0,h,k,hl=>by
  rw [List.foldl_cons]
  simp only [List.length_cons] at hl
  have h1:=k.tick (n:=(j:Int)+1) (by omega) (h j (by simp)) (d:=d0+(j:Int)+1) (by omega) (by omega)
  obtain ⟨g',k',l'⟩:=h1.out
  have h2:=tickAll_go l d0 g' _ h0 (fun i hi=>by rw [h1.size];exact h i (by simp [hi])) k' (by omega)
  obtain ⟨g2,k2,l2⟩:=h2.out
  exact ⟨⟨g2,k2,by simp only [List.length_cons];omega⟩,h2.size.trans h1.size,h2.draw.trans h1.draw⟩
def NetM.stepOf (x:NetM) (s:StepM):NetM :=
  let n:=1+bring s.a x.size
  let i:=(bring s.a x.mails.length).toNat
  let op:=bring s.op 10
  if op=0 then (match x.mails[i]? with | none=>x | some p=>({x with mails:=dropN x.mails i}).take p x.draw)
  else if op=1 then x.tick n x.draw
  else if op=2 then x.propose n 1 [s.b % 256,x.draw % 256]
  else if op=3 then (if x.mails=[] then x else {x with mails:=dropN x.mails i})
  else if op=4 then (match x.mails[i]? with | none=>x | some p=>if x.mails.length<300 then {x with mails:=x.mails++[p]} else x)
  else if op=5 then x.again n
  else if op=6 then x.change n s.b
  else if op=7 then x.read n
  else if op=8 then x.compact n
  else x.tickAll
theorem step_eq (y:NetM) (s:StepM):y.step s=NetM.stepOf {y with draw:=(y.draw*7+s.b % 1024+3) % 100003} s:=rfl
theorem mem_dropN {α:Type} {l:List α} {i:Nat} {p:α} (hp:p∈dropN l i):p∈l:=by
 unfold dropN at hp
 rcases List.mem_append.1 hp with h | h
 ·exact List.mem_of_mem_take h
 ·exact List.mem_of_mem_drop h
theorem Goes.le {y:NetM} {d e:Int} (h:Goes g x y d) (hd:d≤e):Goes g x y e:=by
 obtain ⟨g',a,b⟩:=h.out
 exact ⟨⟨g',a,by omega⟩,h.size,h.draw⟩
end
section
def Turned (h'' h':Heap):Prop:=∀ b t x,h'' b=some (t,x)→∃ u,h' b=some (u,x)
theorem ACalls.turn {P:Program} {f:FuncId} {args:Array Value} {h:Heap} {R R':Value→Heap→Prop} (c:ACalls P f args h R) (k:∀ v h',R v h'→∃ h'',Turned h'' h'∧R' v h''):ACalls P f args h R' :=
 ⟨c.1,fun β w hr=>(c.2 β w hr).mono fun _ _ ⟨v,h',e,r,q⟩=>let ⟨h'',s,q'⟩:=k _ _ q;⟨v,h'',e,⟨fun b t o hb=>let ⟨u,hu⟩:=s b t o hb;r.rel b u o hu,r.os,r.tape,r.out,r.size⟩,q'⟩⟩
def Heap.retag (o n:Nat) (h:Heap):Heap:=fun b=>(h b).map fun y=>(if y.1.1=o then ((n,y.1.2):Tag) else y.1,y.2)
theorem retag_turned (o n:Nat) (h:Heap):Turned (h.retag o n) h:=fun b t x e=>by
 unfold Heap.retag at e
 cases hb:h b with
 | none=>rw [hb] at e;cases e
 | some y=>rw [hb] at e;simp only [Option.map_some,Option.some.injEq,Prod.mk.injEq] at e;exact ⟨y.1,by rw [← e.2]⟩
theorem retag_in {o n:Nat} {h:Heap} {b r:Nat} {x:Obj} (e:h b=some ((o,r),x)):h.retag o n b=some ((n,r),x):=by
 unfold Heap.retag;rw [e];simp
theorem retag_out {o n:Nat} {h:Heap} {b:Nat} {t:Tag} {x:Obj} (ht:t.1≠o) (e:h b=some (t,x)):h.retag o n b=some (t,x):=by
 unfold Heap.retag;rw [e];simp [ht]
theorem Own.turn {h h':Heap} {t t':Tag} {E:TypeId} {a:Option Addr} {n cap z:Nat} {cs:List Value} (s:Own h t E a n cap z cs) (k:∀ b x,h b=some (t,x)→h' b=some (t',x)):Own h' t' E a n cap z cs:=by
 rcases s with s | ⟨b,l,e,hb,r⟩
 ·exact .inl s
 ·exact .inr ⟨b,l,e,k _ _ hb,r⟩
theorem OutOk.retag {h:Heap} {oo n:Nat} {o:OutM} {x:OX} (k:OutOk h oo o x):OutOk (h.retag oo n) n o x :=
 ⟨k.od.turn fun _ _ e=>retag_in e,k.oe.turn fun _ _ e=>retag_in e,fun y hy=>Own.turn (k.ed y hy) fun _ _ e=>retag_in e,k.ea,k.es,k.op.turn fun _ _ e=>retag_in e,
  fun i y hy=>let m:=k.ps i y hy;⟨m.es.turn fun _ _ e=>retag_in e,fun z hz=>Own.turn (m.ed z hz) fun _ _ e=>retag_in e,m.sm,m.sd.turn fun _ _ e=>retag_in e⟩,k.pa,k.qr.turn fun _ _ e=>retag_in e⟩
def Told2 (M p o:Nat) (d:CoreM) (h:Heap) (v:Value) (h':Heap):Prop :=
  ∃ ox,v = .agg (outCells d.done.2 ox).toArray∧OutOk h' M d.done.2 ox∧PIdle h' p o d.done.1∧Keeps [o,o+1] h h'
theorem keeps_retag {h h':Heap} {o oo M:Nat} (hb:Bound oo h) (k:Keeps [o,o+1,oo] h h'):Keeps [o,o+1] h (h'.retag oo M):=fun b t x ht e=>by
 have h1:=hb _ _ _ e
 simp only [List.mem_cons,List.not_mem_nil,or_false,not_or] at ht
 exact retag_out (by omega) (k _ _ _ (by simp;omega) e)
theorem Told.turn {p o oo M:Nat} {d:CoreM} {h h':Heap} {v:Value} (t:Told p o oo d h v h') (hb:Bound oo h) (h1:o≠oo) (h2:o+1≠oo):∃ h'',Turned h'' h'∧Told2 M p o d h v h'':=by
 obtain ⟨ox,e,ok,q,kk⟩:=t
 refine ⟨h'.retag oo M,retag_turned _ _ _,ox,e,ok.retag,?_,keeps_retag hb kk⟩
 have i:PIdle h' p o d.done.1:=Idle.of q rfl
 exact i.keeps (os:=[oo]) (fun b t x ht e=>retag_out (by simpa using ht) e) (by simpa using h1) (by simpa using h2)
theorem Bound.le {o o':Nat} {h:Heap} (b:Bound o h) (k:o≤o'):Bound o' h:=fun c t x e=>Nat.lt_of_lt_of_le (b c t x e) k
theorem sub_turned {h':Heap}:Turned h' h':=fun b t x e=>⟨t,e⟩
theorem tick_net {h:Heap} {p o:Nat} {c:CoreM} (M:Nat) (h0:o≠0) (k:PIdle h p o c) (ok:COk c) {d:Int} (hd:0≤d) :
  ACalls PR 24 #[Ptr p,I d] h (fun v h'=>∃ u,v = .tuple #[u,I 0]∧Told2 M p o (c.tick d) h u h'):=by
 refine ACalls.owner ⟨_,Tryz.func24,rfl,rfl⟩ fun o0 ho0 bnd=>?_
 have ap:Apart o (o0+o+2):=⟨by omega,by omega,h0,by omega⟩
 refine (Tick_any ap (k.all _) ok d).turn fun v h' r=>?_
 rcases r with ⟨c1,_⟩ | ⟨_,u,rfl,t⟩
 ·omega
 ·obtain ⟨h'',a,b⟩:=t.turn (M:=M) (bnd.le (by omega)) ap.a ap.b
  exact ⟨h'',a,u,rfl,b⟩
theorem take_net {h:Heap} {p o:Nat} {c:CoreM} (M:Nat) (h0:o≠0) (k:PIdle h p o c) (ok:COk c) (x:PH) (g:∀ oo,Bound oo h→o+1<oo→Given h o oo x) (ht:c.takes x.abs=true) {d:Int} (hd:0≤d) :
  ACalls PR 25 #[Ptr p, .agg x.cells.toArray,I d] h (fun v h'=>∃ u,v = .tuple #[u,I 0]∧Told2 M p o (c.take x.abs d) h u h'):=by
 refine ACalls.owner ⟨_,Tryz.func25,rfl,rfl⟩ fun o0 ho0 bnd=>?_
 have ap:Apart o (o0+o+2):=⟨by omega,by omega,h0,by omega⟩
 refine (Take_any ap (k.all _) ok x (g _ (bnd.le (by omega)) (by omega)) d).turn fun v h' r=>?_
 rcases r with ⟨c1,_⟩ | ⟨_,_,u,rfl,t⟩
 ·rcases c1 with c1 | c1
  ·rw [ht] at c1;cases c1
  ·omega
 ·obtain ⟨h'',a,b⟩:=t.turn (M:=M) (bnd.le (by omega)) ap.a ap.b
  exact ⟨h'',a,u,rfl,b⟩
theorem read_net {h:Heap} {p o:Nat} {c:CoreM} (M:Nat) (h0:o≠0) (k:PIdle h p o c) (ok:COk c) :
  ACalls PR 26 #[Ptr p] h (fun v h'=>(c.readE≠0∧v = .tuple #[I 0, .agg (outCells out0 ox0).toArray,I c.readE]∧Sub h h')∨(c.readE=0∧∃ u,v = .tuple #[I (c.round+1),u,I 0]∧Told2 M p o c.read h u h')):=by
 refine ACalls.owner ⟨_,Tryz.func26,rfl,rfl⟩ fun o0 ho0 bnd=>?_
 have ap:Apart o (o0+o+2):=⟨by omega,by omega,h0,by omega⟩
 refine (Read_any ap (k.all _) ok).turn fun v h' r=>?_
 rcases r with r | ⟨e,u,rfl,t⟩
 ·exact ⟨h',sub_turned, .inl r⟩
 ·obtain ⟨h'',a,b⟩:=t.turn (M:=M) (bnd.le (by omega)) ap.a ap.b
  exact ⟨h'',a, .inr ⟨e,u,rfl,b⟩⟩
theorem propose_net {h:Heap} {p o:Nat} {c:CoreM} (M:Nat) (h0:o≠0) (k:PIdle h p o c) (ok:COk c) (kind:Int) {t:Tag} {a:Option Addr} {n cp:Nat} {data:List Int} (g:Sl h t a n cp 1 (bytesV data)) (hb:∀ z∈data,0≤z∧z<256) :
  ACalls PR 21 #[Ptr p,I kind, .slice a n cp] h (fun v h'=>(c.proposeE kind data≠0∧v = .tuple #[I 0, .agg (outCells out0 ox0).toArray,I (c.proposeE kind data)]∧Sub h h') ∨
   (c.proposeE kind data=0∧∃ u,v = .tuple #[I (c.log.last.1+1),u,I 0]∧Told2 M p o (c.propose kind data) h u h')):=by
 refine ACalls.owner ⟨_,Tryz.func21,rfl,rfl⟩ fun o0 ho0 bnd=>?_
 have ap:Apart o (o0+o+2):=⟨by omega,by omega,h0,by omega⟩
 refine (Propose_any ap (k.all _) ok kind (d:=⟨a,n,cp⟩) g hb).turn fun v h' r=>?_
 rcases r with r | ⟨e,u,rfl,t⟩
 ·exact ⟨h',sub_turned, .inl r⟩
 ·obtain ⟨h'',a,b⟩:=t.turn (M:=M) (bnd.le (by omega)) ap.a ap.b
  exact ⟨h'',a, .inr ⟨e,u,rfl,b⟩⟩
theorem compact_net {h:Heap} {p o:Nat} {c:CoreM} (M:Nat) (h0:o≠0) (k:PIdle h p o c) (ok:COk c) (hbi:c.log.bi≤c.snap.index) (hsi:c.snap.index≤9007199254740991) (i:Int) {t:Tag} {a:Option Addr} {n cp:Nat} {data:List Int} (g:Sl h t a n cp 1 (bytesV data)) (ht:t.1≠o+1) (hdn:n≤140737488355328) :
  ACalls PR 27 #[Ptr p,I i, .slice a n cp] h (fun v h'=>(c.compactE i data≠0∧v = .tuple #[.agg #[I 0,I 0,I 0, .slice none 0 0],I (c.compactE i data)]∧Sub h h') ∨
   (c.compactE i data=0∧∃ a n cc,v = .tuple #[.agg #[I i,I (c.compact i data).snap.term,I (c.compact i data).snap.crew, .slice a n cc],I 0]∧Own h' (M,6) 5 a n cc 1 (bytesV data)∧PIdle h' p o (c.compact i data)∧Keeps [o,o+1] h h')):=by
 refine ACalls.owner ⟨_,Tryz.func27,rfl,rfl⟩ fun o0 ho0 bnd=>?_
 have ap:Apart o (o0+o+2):=⟨by omega,by omega,h0,by omega⟩
 refine (Compact_any ap k ok hbi hsi i (d:=⟨a,n,cp⟩) g ht hdn).turn fun v h' r=>?_
 rcases r with r | ⟨e,a,n,cc,rfl,ow,q,kk⟩
 ·exact ⟨h',sub_turned, .inl r⟩
 ·refine ⟨h'.retag (o0+o+2) M,retag_turned _ _ _, .inr ⟨e,a,n,cc,rfl,ow.turn fun _ _ e=>retag_in e,?_,keeps_retag (bnd.le (by omega)) kk⟩⟩
  exact q.keeps (os:=[o0+o+2]) (fun b t x ht e=>retag_out (by simpa using ht) e) (by simp;omega) (by simp;omega)
structure NX where
  cp:Fv (Option Nat)
  ke:Fv SH
  ml:SlV
  ps:List PH
  m1:Nat
  e1:List MapEntry
  k1:Nat
  m2:Nat
  e2:List MapEntry
  k2:Nat
  ch:List (Int×EH)
def optp (b:Option Nat):Value := .pointer (b.map fun b=>⟨b,0,none⟩)
def netCells (x:NetM) (v:NX):List Value :=
  [I x.size,I 14, .pointer none,optp v.cp.b1,optp v.cp.b2,optp v.cp.b3,optp v.cp.b4,optp v.cp.b5,I 0,I 0,I 0,I 0,I 0, .slice none 0 0, .slice none 0 0,
   I v.ke.b1.term,I v.ke.b1.vote,I v.ke.b1.si,I v.ke.b1.st,I v.ke.b1.sc, .slice v.ke.b1.d.a v.ke.b1.d.n v.ke.b1.d.c, .slice v.ke.b1.e.a v.ke.b1.e.n v.ke.b1.e.c,
   I v.ke.b2.term,I v.ke.b2.vote,I v.ke.b2.si,I v.ke.b2.st,I v.ke.b2.sc, .slice v.ke.b2.d.a v.ke.b2.d.n v.ke.b2.d.c, .slice v.ke.b2.e.a v.ke.b2.e.n v.ke.b2.e.c,
   I v.ke.b3.term,I v.ke.b3.vote,I v.ke.b3.si,I v.ke.b3.st,I v.ke.b3.sc, .slice v.ke.b3.d.a v.ke.b3.d.n v.ke.b3.d.c, .slice v.ke.b3.e.a v.ke.b3.e.n v.ke.b3.e.c,
   I v.ke.b4.term,I v.ke.b4.vote,I v.ke.b4.si,I v.ke.b4.st,I v.ke.b4.sc, .slice v.ke.b4.d.a v.ke.b4.d.n v.ke.b4.d.c, .slice v.ke.b4.e.a v.ke.b4.e.n v.ke.b4.e.c,
   I v.ke.b5.term,I v.ke.b5.vote,I v.ke.b5.si,I v.ke.b5.st,I v.ke.b5.sc, .slice v.ke.b5.d.a v.ke.b5.d.n v.ke.b5.d.c, .slice v.ke.b5.e.a v.ke.b5.e.n v.ke.b5.e.c,
   .slice v.ml.a v.ml.n v.ml.c, .bool true, .map (some v.m1), .map (some v.m2),I 0,I x.commits.a1,I x.commits.a2,I x.commits.a3,I x.commits.a4,I x.commits.a5,I 0,I x.terms.a1,I x.terms.a2,I x.terms.a3,I x.terms.a4,I x.terms.a5,I x.draw]
def kvI (l:List (Int×Int)):List (Value×Value):=l.map fun y=>(I y.1,I y.2)
def kvE (l:List (Int×EH)):List (Value×Value):=l.map fun y=>(I y.1, .agg y.2.cells.toArray)
structure NetX (h:Heap) (N p:Nat) (x:NetM) (v:NX):Prop where
  n0:N≠0
  str:h p=some (row (N,0) (netCells x v) 41)
  sz3:3≤x.size
  sz5:x.size≤5
  cores:∀ n,1≤n→n≤x.size→∃ b,v.cp.get n=some b∧PIdle h b (N+2*n.toNat) (x.cores.get n)
  none:∀ n,x.size<n→n≤5→v.cp.get n=none
  kept:∀ n,1≤n→n≤5→(v.ke.get n).abs=x.kept.get n∧∃ t1:Tag,N+12≤t1.1∧(v.ke.get n).Ok h t1 (N+1,2) (N+1,6)
  ml:Own h (N,3) 49 v.ml.a v.ml.n v.ml.c 14 (v.ps.map PH.cells).flatten
  pa:v.ps.map PH.abs=x.mails
  ps:∀ y∈v.ps,∃ r,y.Ok h (N+1,r) (N+1,5) (N+1,6)
  mb:x.mails.length≤400
  led:MapAt h v.m1 (N,1) (.int .i64) v.e1 v.k1
  ledE:v.e1.map kv=kvI x.leaders
  cho:MapAt h v.m2 (N,2) (.int .i64) v.e2 v.k2
  choE:v.e2.map kv=kvE v.ch
  choA:v.ch.map (fun y=>(y.1,y.2.abs))=x.chosen
  choG:∀ y∈v.ch,y.2.Good h (N+1,2)
def Low (N:Nat) (h h':Heap):Prop:=∀ b (t:Tag) x,t.1<N→h b=some (t,x)→h' b=some (t,x)
theorem Low.refl (N:Nat) (h:Heap):Low N h h:=fun _ _ _ _ e=>e
theorem Low.trans {N:Nat} {a b c:Heap} (x:Low N a b) (y:Low N b c):Low N a c:=fun _ _ _ n e=>y _ _ _ n (x _ _ _ n e)
theorem Sub.low {N:Nat} {h h':Heap} (s:Sub h h'):Low N h h':=fun _ _ _ _ e=>s _ _ e
theorem SH.Ok.move {h h':Heap} {t1 t2 t3:Tag} {x:SH} (k:x.Ok h t1 t2 t3) (m:∀ b (t:Tag) y,(t=t1∨t=t2∨t=t3)→h b=some (t,y)→h' b=some (t,y)):x.Ok h' t1 t2 t3 :=
 ⟨⟨k.es.sl.move fun _ _ e=>m _ _ _ (.inl rfl) e,fun e he=>Sl.move (k.es.good e he) fun _ _ e=>m _ _ _ (.inr (.inl rfl)) e,k.es.small⟩,k.sd.move fun _ _ e=>m _ _ _ (.inr (.inr rfl)) e⟩
theorem PH.Ok.move {h h':Heap} {t1 t2 t3:Tag} {x:PH} (k:x.Ok h t1 t2 t3) (m:∀ b (t:Tag) y,(t=t1∨t=t2∨t=t3)→h b=some (t,y)→h' b=some (t,y)):x.Ok h' t1 t2 t3 :=
 ⟨⟨k.es.sl.move fun _ _ e=>m _ _ _ (.inl rfl) e,fun e he=>Sl.move (k.es.good e he) fun _ _ e=>m _ _ _ (.inr (.inl rfl)) e,k.es.small⟩,k.sd.move fun _ _ e=>m _ _ _ (.inr (.inr rfl)) e⟩
theorem Idle.move {T:TypeId} {LP:Heap→Nat→Nat→LG→Prop} [Moves LP] {h h':Heap} {p o:Nat} {c:CoreM} (k:Idle T LP h p o c) (m:∀ b (t:Tag) y,(t.1=o∨t.1=o+1)→h b=some (t,y)→h' b=some (t,y)):Idle T LP h' p o c:=by
 obtain ⟨x,a,b,d,e,f,g⟩:=k
 exact ⟨x,m _ _ _ (.inl rfl) a,b.move fun _ _ e=>m _ _ _ (.inl rfl) e,Moves.move d fun _ _ _ ht e=>m _ _ _ (.inr ht) e,e.move fun _ _ e=>m _ _ _ (.inl rfl) e,f,g⟩
variable {h h':Heap} {N p:Nat} {x:NetM} {v:NX}
theorem NetX.move' (k:NetX h N p x v) (m:∀ b (t:Tag) y,N≤t.1→t≠(N,0)→h b=some (t,y)→h' b=some (t,y)) {x':NetM} {v':NX} (hs:h' p=some (row (N,0) (netCells x' v') 41))
  (e1:x'.size=x.size) (e2:x'.cores=x.cores) (e3:x'.kept=x.kept) (e4:x'.mails=x.mails) (e5:x'.leaders=x.leaders) (e6:x'.chosen=x.chosen) (e7:v'=v):NetX h' N p x' v':=by
 subst e7
 refine ⟨k.n0,hs,by rw [e1];exact k.sz3,by rw [e1];exact k.sz5,fun n n1 n2=>?_,fun n n1 n2=>k.none n (by rw [← e1];exact n1) n2,fun n n1 n2=>?_,k.ml.move fun _ _ e=>m _ _ _ (Nat.le_refl _) (by simp) e,by rw [e4];exact k.pa,fun y hy=>?_,by rw [e4];exact k.mb,k.led.move fun _ e=>m _ _ _ (Nat.le_refl _) (by simp) e,by rw [e5];exact k.ledE,
  k.cho.move fun _ e=>m _ _ _ (Nat.le_refl _) (by simp) e,k.choE,by rw [e6];exact k.choA,fun y hy=>Sl.move (k.choG y hy) fun _ _ e=>m _ _ _ (by simp) (by simp) e⟩
 ·obtain ⟨b,hb,id⟩:=k.cores n n1 (by rw [← e1];exact n2)
  rw [e2]
  exact ⟨b,hb,id.move fun _ t _ ht e=>m _ _ _ (by omega) (fun c=>by rw [c] at ht;simp only at ht;omega) e⟩
 ·rw [e3]
  obtain ⟨q1,t1,q2,q3⟩:=k.kept n n1 n2
  exact ⟨q1,t1,q2,q3.move fun _ t _ ht e=>m _ _ _ (by rcases ht with rfl | rfl | rfl <;> first | omega | simp) (by rcases ht with rfl | rfl | rfl <;> (intro c;have:=congrArg Prod.fst c;have:=congrArg Prod.snd c;simp only at *;omega)) e⟩
 ·obtain ⟨r,hr⟩:=k.ps y hy
  exact ⟨r,hr.move fun _ t _ ht e=>m _ _ _ (by rcases ht with rfl | rfl | rfl <;> simp) (by rcases ht with rfl | rfl | rfl <;> simp) e⟩
theorem NetX.move (k:NetX h N p x v) (m:∀ b (t:Tag) y,N≤t.1→h b=some (t,y)→h' b=some (t,y)):NetX h' N p x v :=
 k.move' (fun b t y n _ e=>m b t y n e) (m _ _ _ (Nat.le_refl _) k.str) rfl rfl rfl rfl rfl rfl rfl
theorem NetX.sub (k:NetX h N p x v) (s:Sub h h'):NetX h' N p x v:=k.move fun _ _ _ _ e=>s _ _ e
theorem NetX.local (k:NetX h N p x v) (s:KeepT (0,1) h h'):NetX h' N p x v:=k.move fun _ t _ ht e=>s _ _ _ (fun c=>by rw [c] at ht;have:=k.n0;simp only at ht;omega) e
theorem core_cell (x:NetM) (v:NX) {n:Int} (h1:1≤n) (h2:n≤5):(netCells x v)[2+n.toNat]? = some (optp (v.cp.get n)):=by
 have:n=1∨n=2∨n=3∨n=4∨n=5:=by omega
 rcases this with rfl | rfl | rfl | rfl | rfl <;> rfl
theorem kept_cells (x:NetM) (v:NX) {n:Int} (h1:1≤n) (h2:n≤5):((netCells x v).drop (8+n.toNat*7)).take 7=(v.ke.get n).cells:=by
 have:n=1∨n=2∨n=3∨n=4∨n=5:=by omega
 rcases this with rfl | rfl | rfl | rfl | rfl <;> rfl
theorem cm_cell (x:NetM) (v:NX) {n:Int} (h1:1≤n) (h2:n≤5):(netCells x v)[54+n.toNat]? = some (I (x.commits.get n)):=by
 have:n=1∨n=2∨n=3∨n=4∨n=5:=by omega
 rcases this with rfl | rfl | rfl | rfl | rfl <;> rfl
theorem tm_cell (x:NetM) (v:NX) {n:Int} (h1:1≤n) (h2:n≤5):(netCells x v)[60+n.toNat]? = some (I (x.terms.get n)):=by
 have:n=1∨n=2∨n=3∨n=4∨n=5:=by omega
 rcases this with rfl | rfl | rfl | rfl | rfl <;> rfl
theorem core_set (x:NetM) (v:NX) {n:Int} (h1:1≤n) (h2:n≤5) (b:Option Nat):(netCells x v).set (2+n.toNat) (optp b)=netCells x {v with cp:=v.cp.set n b}:=by
 have:n=1∨n=2∨n=3∨n=4∨n=5:=by omega
 rcases this with rfl | rfl | rfl | rfl | rfl <;> rfl
theorem cm_set (x:NetM) (v:NX) {n:Int} (h1:1≤n) (h2:n≤5) (y:Int):(netCells x v).set (54+n.toNat) (I y)=netCells {x with commits:=x.commits.set n y} v:=by
 have:n=1∨n=2∨n=3∨n=4∨n=5:=by omega
 rcases this with rfl | rfl | rfl | rfl | rfl <;> rfl
theorem tm_set (x:NetM) (v:NX) {n:Int} (h1:1≤n) (h2:n≤5) (y:Int):(netCells x v).set (60+n.toNat) (I y)=netCells {x with terms:=x.terms.set n y} v:=by
 have:n=1∨n=2∨n=3∨n=4∨n=5:=by omega
 rcases this with rfl | rfl | rfl | rfl | rfl <;> rfl
theorem kept_set (x:NetM) (v:NX) {n:Int} (h1:1≤n) (h2:n≤5) (y:SH):(netCells x v).take (8+n.toNat*7)++(y.cells++(netCells x v).drop (8+n.toNat*7+7))=netCells x {v with ke:=v.ke.set n y}:=by
 have:n=1∨n=2∨n=3∨n=4∨n=5:=by omega
 rcases this with rfl | rfl | rfl | rfl | rfl <;> rfl
end
theorem DLk.put {c:CoreM} (k:DLk c) {kind:Int} {data:List Int} (hroom:(c.log.es.length+1)*48≤140737488355328) (hb:kind=2→crewOk (0,0,0,data)=true∧∀ x∈data,0≤x∧x<256):DLk (c.put kind data):=by
 refine ⟨k.lk.put hroom fun h=>(hb h).2,?_,?_,?_⟩
 ·rcases put_cases c kind data with ⟨_,e⟩ | ⟨_,e⟩ <;> rw [e]
  ·intro y hy h2
   rcases List.mem_append.1 hy with hy | hy
   ·exact k.sy y hy h2
   ·rw [List.mem_singleton.1 hy] at h2 ⊢;exact hb h2
  ·exact k.sy
 ·rcases put_cases c kind data with ⟨_,e⟩ | ⟨_,e⟩ <;> rw [e] <;> exact k.fc
 ·rw [(put_same c kind data).2.1];exact k.sc
theorem DLk.sendAll {c:CoreM} (k:DLk c):DLk c.sendAll:=by
 obtain ⟨a,_,b,_⟩:=sends_same c.others c
 obtain ⟨_,_,_,_,_,_,_,d⟩:=sends_more c.others c
 exact k.same a b d
def setOn (l:List Value) (v:Value) (j:Nat):List Value:=(List.range j).foldl (fun l i=>l.set (16+i) v) l
theorem setOn_len (l:List Value) (v:Value) (j:Nat):(setOn l v j).length=l.length:=by
 unfold setOn
 induction j with
 | zero=>rfl
 | succ j ih=>rw [List.range_succ,List.foldl_append];simpa using ih
theorem setOn_succ (l:List Value) (v:Value) (j:Nat):(setOn l v j).set (16+j) v=setOn l v (j+1):=by
 unfold setOn;rw [List.range_succ,List.foldl_append];rfl
theorem rlead_any {h:Heap} {p o oo:Nat} {c:CoreM} (ap:Apart o oo) (k:RCore h p o oo c) (lk:DLk c) (hs1:1≤c.self) (hs2:c.self≤5)
  (hroom:(c.log.es.length+1)*48≤140737488355328) (he:c.out.entries.length≤1000000000) (hp:c.out.posts.length≤999999990) :
  ACalls PR 157 #[Ptr p] h (fun v h'=>v = .tuple #[]∧RCore h' p o oo c.lead∧Keeps [o,o+1,oo] h h'):=by
 obtain ⟨x0,k0⟩:=k
 have hl:=lk.lk.lo.last
 have ht:=lk.lk.lo.top
 have hl0:=lk.lk.lo.lo
 refine As mix Tryz.func157 rfl rfl Tryz.ntmps157 Tryz.results157 rfl ?_;conv=>whnf
 refine C2 (rlast_any k0 lk.lk.lo) ?_;conv=>whnf
 refine ACalls.mono (rfollow_any ap.a ⟨x0,k0⟩) ?_;rintro _ h1 ⟨rfl,⟨x,k⟩,kk1⟩;conv=>whnf
 refine Af rfl rfl rfl (k.str) rfl (coreCells {c.follow with state:=2} x) rfl fun h2 t2 k2 a2 e2=>?_;conv=>whnf
 refine Aa rfl k2 rfl ?_;conv=>whnf
 refine Af rfl rfl rfl (k2) rfl (coreCells {c.follow with state:=2,head:=c.self} x) rfl fun h3 t3 k3 a3 e3=>?_;conv=>whnf
 obtain ⟨l,hlc⟩:∃ l,l=coreCells {c.follow with state:=2,head:=c.self} x:=⟨_,rfl⟩
 have hll:l.length=48:=by rw [hlc];rfl
 rw [← hlc] at k3
 refine ALoop.mk (fun e h'=>∃ e0,∃ j:Nat,e=updL 42 e0 [(0,Ptr p),(2,I c.log.last.1),(4,I ((j:Int)+1))]∧j≤5∧KeepT (o,0) h3 h'∧h' p=some (row (o,0) (setOn l (I (c.log.last.1+1)) j) 98)) (fun e=>6-natOf (e 4))
  ⟨_,0,Au ⟨rfl,rfl,rfl,trivial⟩,by omega,KeepT.refl _ _,k3⟩ ?_
 rintro e h4 ⟨e0,j,rfl,hj,t4,k4⟩
 conv=>whnf
 by_cases hj6:j<5
 ·refine Ac (by omega) ?_;conv=>whnf
  refine Ag (by omega) (by omega) (rfl) ?_;conv=>whnf
  refine Aj (n:=6) (z:=1) (j:=j+1) (by omega) (by omega) rfl rfl ?_;conv=>whnf
  refine Af rfl rfl rfl k4 (by exact Nat.ble_eq_true_of_le (by rw [setOn_len];omega)) (setOn l (I (c.log.last.1+1)) (j+1)) (by rw [show 0+14+1+(j+1)*1=16+j by omega];exact setOn_succ _ _ _) fun h5 t5 k5 a5 e5=>?_;conv=>whnf
  refine Ag (by omega) (by omega) ((by omega:(j:Int)+1+1=((j+1:Nat):Int)+1)) ?_;conv=>whnf
  refine ⟨⟨_,j+1,Au ⟨rfl,rfl,rfl,trivial⟩,by omega,t4.trans t5,k5⟩,?_⟩
  show 6-(((j+1:Nat):Int)+1).toNat<6-((j:Int)+1).toNat
  omega
 ·refine Ad (by omega) ?_;conv=>whnf
  obtain rfl:j=5:=by omega
  have e5':setOn l (I (c.log.last.1+1)) 5=coreCells {c.follow with state:=2,head:=c.self,next:=Five.all (c.log.last.1+1)} x:=by rw [hlc];rfl
  rw [e5'] at k4
  obtain ⟨d,hd⟩:∃ d:CoreM,d={c.follow with state:=2,head:=c.self,beat:=2,next:=Five.all (c.log.last.1+1)}:=⟨_,rfl⟩
  refine Af rfl rfl rfl (k4) rfl (coreCells {c.follow with state:=2,head:=c.self,beat:=2,next:=Five.all (c.log.last.1+1)} x) rfl fun h5 t5 k5 a5 e5=>?_;conv=>whnf
  rw [← hd] at k5
  have tt:=t2.trans (t3.trans (t4.trans t5))
  have k6:RX h5 p o oo d x:=k.set' ap.a tt k5 (by rw [hd]) (by rw [hd]) (by rw [hd]) (by rw [hd]) (by rw [hd]) (by rw [hd]) (by rw [hd])
  have kk6:=kk1.trans tt.keep
  have el:d.log=c.log:=by rw [hd];rfl
  have es:d.snap=c.snap:=by rw [hd];rfl
  have ef:d.self=c.self:=by rw [hd];rfl
  have eo:d.out=c.out:=by rw [hd];rfl
  have en:d.next=Five.all (c.log.last.1+1):=by rw [hd]
  have lk3:DLk d:=lk.same el es (by rw [hd];rfl)
  have lk4:=lk3.put (kind:=0) (data:=[]) (by rw [el];exact hroom) (by simp)
  obtain ⟨p1,p2,p3,p4,p5,p6,p7,p8⟩:=put_same d 0 []
  refine ACalls.mono (rput_any ap ⟨_,k6⟩ lk3.lk.lo (by rw [el];exact hroom) (by rw [el];omega) 0 (t:=(0,0)) (d:=slv0) (data:=[]) (Sl.nil ..) (by simp [slv0]) (by rw [eo];exact he)) ?_;rintro _ h6 ⟨rfl,k7,kk7⟩;conv=>whnf
  refine ACalls.mono (rsendAll_any ap k7 lk4 (fun n h1 h2=>by rw [p1,en,Five.get_all _ h1 h2];omega) (by rw [p4,eo];exact hp)) ?_;rintro _ h7 ⟨rfl,k8,kk8⟩;conv=>whnf
  obtain ⟨m1,_⟩:=sends_more (d.put 0 []).others (d.put 0 [])
  refine ACalls.mono (rrank_any ap k8 lk4.sendAll (by unfold CoreM.sendAll;rw [m1,p3,ef];exact hs1) (by unfold CoreM.sendAll;rw [m1,p3,ef];exact hs2)) ?_;rintro _ h8 ⟨rfl,k9,kk9⟩;conv=>whnf
  refine ⟨rfl,?_,(kk6.keeps (by simp)).trans (kk7.trans ((kk8.mono (by simp)).trans (kk9.keeps (by simp))))⟩
  rw [hd] at k9
  exact k9
theorem add_bits:∀ a:Nat,a<64→∀ n:Nat,n<6→a<2^n→(a+2^n<64∧a+2^n<2^(n+1)∧∀ j:Nat,j<5→hasB ((a+2^n:Nat):Int) ((j:Int)+1)=(hasB (a:Int) ((j:Int)+1) || decide (j+1=n))):=by decide +kernel
theorem zero_has:∀ j:Nat,j<5→hasB ((0:Nat):Int) ((j:Int)+1)=false:=by decide +kernel
theorem rconfirm_any {h:Heap} {p o oo:Nat} {c:CoreM} (ap:Apart o oo) (k:RCore h p o oo c) (lk:DLk c) (hs1:1≤c.self) (hs2:c.self≤5) (hroom:c.out.reads.length+c.reads.length≤1000000000) :
  ACalls PR 105 #[Ptr p] h (fun v h'=>v = .tuple #[]∧RCore h' p o oo c.confirm∧Keeps [o,oo] h h'):=by
 obtain ⟨x,k⟩:=k
 obtain ⟨m,hm⟩:∃ m:Nat,c.self=m:=⟨c.self.toNat,by omega⟩
 have hrl:x.rd.n=c.reads.length:=by have:=k.rd.sl.len;simpa using this.symm
 by_cases c1:c.state≠2
 ·refine As mix Tryz.func105 rfl rfl Tryz.ntmps105 Tryz.results105 rfl ?_;conv=>whnf
  refine Aa rfl k.str rfl ?_;conv=>whnf
  refine Ac (c1) ?_;conv=>whnf
  refine ⟨rfl,?_,Keeps.refl _ _⟩
  unfold CoreM.confirm;rw [if_pos c1];exact ⟨_,k⟩
 refine ACalls.owner ⟨_,Tryz.func105,rfl,rfl⟩ fun o0 ho0 bnd=>?_
 obtain ⟨f,hf⟩:∃ f,f=o0+o+oo+3:=⟨_,rfl⟩
 have bndf:Bound f h:=bnd.le (by omega)
 refine ACalls.turn (R:=fun v h'=>v = .tuple #[]∧(∃ qr lf:SlV,h' p=some (row (o,0) (coreCells c.confirm {x with rd:=lf,ox:={x.ox with qr:=qr}}) 98)∧Own h' (oo,7) 3 qr.a qr.n qr.c 1 (c.confirm.out.reads.map I)∧Own h' (f,4) 3 lf.a lf.n lf.c 1 (c.confirm.reads.map I))∧∀ b (t:Tag) y,t≠(o,0)→t≠(oo,7)→t.1≠f→h b=some (t,y)→h' b=some (t,y)) ?_ ?_
 rotate_left
 ·rintro v h' ⟨rfl,⟨qr,lf,e1,e2,e3⟩,mv⟩
  have hcf:c.confirm={c with reads:=c.reads.filter (fun r => !c.roundOk r),out:={c.out with reads:=c.out.reads++c.reads.filter c.roundOk}}:=by unfold CoreM.confirm;rw [if_neg c1]
  have go:∀ b (t:Tag) y,t.1≠f→h' b=some (t,y)→h'.retag f o b=some (t,y):=fun b t y ht e=>retag_out ht e
  have mv2:∀ b (t:Tag) y,t≠(o,0)→t≠(oo,7)→h b=some (t,y)→h'.retag f o b=some (t,y):=fun b t y t1 t2 e=>by
   have hb:=bndf _ _ _ e
   exact go _ _ _ (by omega) (mv _ _ _ t1 t2 (by omega) e)
  refine ⟨h'.retag f o,retag_turned _ _ _,rfl,⟨_,go _ _ _ (by show o≠f;omega) e1,?_,?_,?_,?_⟩,fun b t y ht e=>?_⟩
  ·rw [hcf];exact k.sd.move fun _ _ e=>mv2 _ _ _ (by simp) (fun c=>ap.a (congrArg Prod.fst c)) e
  ·rw [hcf];exact Moves.move k.log fun _ t _ ht e=>mv2 _ _ _ (fun c=>by rw [c] at ht;simp at ht) (fun c=>by rw [c] at ht;exact ap.b ht.symm) e
  ·exact e3.turn fun _ _ e=>retag_in e
  ·have kx:=k.out
   have g2:∀ r,r≠7→∀ b y,h b=some ((oo,r),y)→h'.retag f o b=some ((oo,r),y):=fun r hr b y e=>mv2 _ _ _ (fun c=>ap.a (congrArg Prod.fst c).symm) (fun c=>hr (congrArg Prod.snd c)) e
   rw [hcf] at e2 ⊢
   exact ⟨kx.od.move fun _ _ e=>g2 6 (by decide) _ _ e,kx.oe.move fun _ _ e=>g2 1 (by decide) _ _ e,fun y hy=>Own.move (kx.ed y hy) fun _ _ e=>g2 2 (by decide) _ _ e,kx.ea,kx.es,kx.op.move fun _ _ e=>g2 3 (by decide) _ _ e,
    fun i y hy=>(kx.ps i y hy).move fun b t z ht hr e=>by
     obtain ⟨t1,t2⟩:=t
     simp only at ht hr;subst ht
     exact g2 t2 (by omega) b z e,kx.pa,e2.move fun _ _ e=>go _ _ _ (by show oo≠f;omega) e⟩
  ·simp only [List.mem_cons,List.not_mem_nil,or_false,not_or] at ht
   exact mv2 _ _ _ (fun c=>ht.1 (by rw [c])) (fun c=>ht.2 (by rw [c])) e
 unfold CoreM.confirm
 rw [if_neg c1]
 simp only []
 let P:=c.roundOk
 let ck:Nat→CoreM:=fun j=>{c with out:={c.out with reads:=c.out.reads++(c.reads.take j).filter P}}
 let lf:Nat→List Int:=fun j=>(c.reads.take j).filter fun r => !P r
 refine As mix Tryz.func105 rfl rfl Tryz.ntmps105 Tryz.results105 rfl ?_;conv=>whnf
 refine Aa rfl k.str rfl ?_;conv=>whnf
 refine Ad (c1) ?_;conv=>whnf
 refine C2 (rcrew_any k lk.lk.lo lk.sy) ?_;conv=>whnf
 refine ALoop.mk (fun e h'=>∃ (e0:Env) (i:Nat) (qr:SlV) (la:Option Addr) (lc:Nat),e=updL 92 e0 [(0,Ptr p),(2,I c.crewNow.1),(4, .slice la (lf i).length lc),(5,I i)]∧i≤c.reads.length ∧
   h' p=some (row (o,0) (coreCells (ck i) {x with ox:={x.ox with qr:=qr}}) 98)∧Own h' (oo,7) 3 qr.a qr.n qr.c 1 ((ck i).out.reads.map I)∧Own h' (f,4) 3 la (lf i).length lc 1 ((lf i).map I) ∧
   ∀ b (t:Tag) y,t≠(o,0)→t≠(oo,7)→t.1≠f→h b=some (t,y)→h' b=some (t,y)) (fun e=>c.reads.length-natOf (e 5))
  ⟨_,0,x.ox.qr,none,0,Au ⟨rfl,rfl,rfl,rfl,trivial⟩,by omega,by simpa [ck] using k.str,by simpa [ck] using k.out.qr, .inl ⟨rfl,rfl,rfl⟩,fun _ _ _ _ _ _ e=>e⟩ ?_
 rintro e h2 ⟨e0,i,qr,la,lc,rfl,hi,k2,ow7,owf,mv⟩
 have rd2:Sl h2 (o,4) x.rd.a x.rd.n x.rd.c 1 (c.reads.map I):=k.rd.sl.move fun _ _ e=>mv _ _ _ (by simp) (fun c=>ap.a (congrArg Prod.fst c)) (by show o≠f;omega) e
 conv=>whnf
 refine Aa rfl k2 rfl ?_;conv=>whnf
 by_cases hin:i<c.reads.length
 ·refine Ac (by show (i:Int)<x.rd.n;omega) ?_;conv=>whnf
  obtain ⟨r,hr⟩:∃ r,c.reads[i]? = some r:=⟨c.reads[i]'hin,by simp⟩
  have hsP:=filter_take_succ (P:=P) hr
  have hsN:=filter_take_succ (P:=fun r => !P r) hr
  obtain ⟨bb,off,L,E,fz,ea,hb1,hc⟩:=rd2.pos (by omega)
  have g1:L[off+i*1]? = some (I r):=by rw [get_of_take hc (by omega),Nat.mul_one];simp [hr]
  have hlr:((ck i).out.reads).length≤1000000000:=by
   show (c.out.reads++(c.reads.take i).filter P).length≤_
   have:=List.length_filter_le P (c.reads.take i)
   rw [List.length_append];simp only [List.length_take] at this;omega
  have hll:(lf i).length≤c.reads.length:=by
   have:=List.length_filter_le (fun r => !P r) (c.reads.take i)
   simp only [List.length_take] at this
   show ((c.reads.take i).filter fun r => !P r).length≤_;omega
  refine ALoop.mk (fun e h'=>h2=h'∧∃ (e0:Env) (j a:Nat),e=updL 92 e0 [(0,Ptr p),(2,I c.crewNow.1),(4, .slice la (lf i).length lc),(5,I i),(6,I a),(7,I ((j:Int)+1))]∧j≤5∧a<64∧a<2^(j+1) ∧
    ∀ q:Nat,q<5→hasB a ((q:Int)+1)=(decide (q<j)&&(decide (q+1=m) || decide (r≤c.heard.get ((q:Int)+1))))) (fun e=>6-natOf (e 7))
   ⟨rfl,_,0,0,Au ⟨rfl,rfl,rfl,rfl,rfl,rfl,trivial⟩,by omega,by omega,by omega,fun q hq=>by rw [zero_has q hq];simp⟩ ?_
  rintro e _ ⟨rfl,e1,j,a,rfl,hj,ha,ha2,hab⟩
  conv=>whnf
  by_cases hj5:j<5
  ·refine Ac (by omega) ?_;conv=>whnf
   refine Am (h2) [] (Sub.refl _) (by decide +kernel) ?_;conv=>whnf
   refine Aa rfl k2 rfl ?_;conv=>whnf
   by_cases c2:(j:Int)+1=c.self
   ·refine Ac (c2) ?_;conv=>whnf
    have cm:j+1=m:=by omega
    obtain ⟨b1,b2,b3⟩:=add_bits a ha (j+1) (by omega) ha2
    have hsh:=shl_one (j+1) (by omega)
    rw [show (((j+1:Nat)):Int)=(j:Int)+1 by omega] at hsh
    refine ⟨by omega,?_⟩
    refine AArith.as hsh ?_;conv=>whnf
    refine Ag (r':=((a+2^(j+1):Nat):Int)) (by omega) (by omega) (by omega) ?_;conv=>whnf
    refine Ag (by omega) (by omega) ((by omega:(j:Int)+1+1=((j+1:Nat):Int)+1)) ?_;conv=>whnf
    refine ⟨⟨rfl,_,j+1,(a+2^(j+1)),Au ⟨rfl,rfl,rfl,rfl,rfl,rfl,trivial⟩,by omega,b1,b2,fun q hq=>?_⟩,?_⟩
    ·rw [b3 q hq,hab q hq]
     by_cases cq:q=j
     ·subst cq;simp [cm] <;> omega
     ·by_cases cq2:q<j
      ·simp [cq2,cq,show q<j+1 by omega]
      ·simp [cq2,cq,show ¬ q<j+1 by omega]
    ·show 6-(((j+1:Nat):Int)+1).toNat<6-((j:Int)+1).toNat
     omega
   ·refine Ad (c2) ?_;conv=>whnf
    have cm:¬ j+1=m:=by omega
    refine Aj (n:=6) (z:=1) (j:=j+1) (by omega) (by omega) rfl rfl ?_;conv=>whnf
    refine Aa rfl k2 (by have:=heard_cell (ck i) {x with ox:={x.ox with qr:=qr}} (n:=(j:Int)+1) (by omega) (by omega);rw [show 0+14+13+(j+1)*1=27+((j:Int)+1).toNat by omega];exact this) ?_
    refine Aa rfl k2 rfl ?_;conv=>whnf
    rw [ea]
    refine Ai (n:=x.rd.n) (z:=1) (j:=i) rfl (by omega) rfl rfl ?_;conv=>whnf
    refine Aa rfl hb1 g1 ?_;conv=>whnf
    by_cases c3:r≤c.heard.get ((j:Int)+1)
    ·refine Ac (c3) ?_;conv=>whnf
     obtain ⟨b1,b2,b3⟩:=add_bits a ha (j+1) (by omega) ha2
     have hsh:=shl_one (j+1) (by omega)
     rw [show (((j+1:Nat)):Int)=(j:Int)+1 by omega] at hsh
     refine ⟨by omega,?_⟩
     refine AArith.as hsh ?_;conv=>whnf
     refine Ag (r':=((a+2^(j+1):Nat):Int)) (by omega) (by omega) (by omega) ?_;conv=>whnf
     refine Ag (by omega) (by omega) ((by omega:(j:Int)+1+1=((j+1:Nat):Int)+1)) ?_;conv=>whnf
     refine ⟨⟨rfl,_,j+1,(a+2^(j+1)),Au ⟨rfl,rfl,rfl,rfl,rfl,rfl,trivial⟩,by omega,b1,b2,fun q hq=>?_⟩,?_⟩
     ·rw [b3 q hq,hab q hq]
      by_cases cq:q=j
      ·subst cq;simp [c3] <;> omega
      ·by_cases cq2:q<j
       ·simp [cq2,cq,show q<j+1 by omega]
       ·simp [cq2,cq,show ¬ q<j+1 by omega]
     ·show 6-(((j+1:Nat):Int)+1).toNat<6-((j:Int)+1).toNat
      omega
    ·refine Ad (c3) ?_;conv=>whnf
     have ha3:a<2^(j+1+1):=Nat.lt_of_lt_of_le ha2 (Nat.pow_le_pow_right (by omega) (by omega))
     refine Ag (by omega) (by omega) ((by omega:(j:Int)+1+1=((j+1:Nat):Int)+1)) ?_;conv=>whnf
     refine ⟨⟨rfl,_,j+1,a,Au ⟨rfl,rfl,rfl,rfl,rfl,rfl,trivial⟩,by omega,ha,ha3,fun q hq=>?_⟩,?_⟩
     ·rw [hab q hq]
      by_cases cq:q=j
      ·subst cq;simp [cm,c3] <;> omega
      ·by_cases cq2:q<j
       ·simp [cq2,cq,show q<j+1 by omega]
       ·simp [cq2,cq,show ¬ q<j+1 by omega]
     ·show 6-(((j+1:Nat):Int)+1).toNat<6-((j:Int)+1).toNat
      omega
  ·refine Ad (by omega) ?_;conv=>whnf
   obtain rfl:j=5:=by omega
   have now:=lk.now
   refine ACalls.mono (refMost_any h2 c.crewNow.1 a (by omega) (by omega) (by omega) (by omega)) ?_
   have hP:mostOf c.crewNow.1 (hasB a)=P r:=by
    show mostOf _ _=mostOf _ _
    unfold mostOf
    have:(ls (m5 c.crewNow.1)).filter (hasB a)=(ls (m5 c.crewNow.1)).filter fun n=>decide (n=c.self) || decide (r≤c.heard.get n):=by
     refine List.filter_congr fun n hn=>?_
     have:=List.all_eq_true.1 (ls_ok (m5 c.crewNow.1) (m5_lt _)) n hn
     simp [ok1] at this
     obtain ⟨q,rfl⟩:∃ q:Nat,n=(q:Int)+1:=⟨(n-1).toNat,by omega⟩
     rw [hab q (by omega),decide_eq_true (show q<5 by omega),Bool.true_and]
     congr 1
     exact decide_eq_decide.2 ⟨fun c=>by omega,fun c=>by omega⟩
    rw [this]
   rw [hP]
   cases hp:P r with
   | true =>
    rintro _ _ ⟨rfl,rfl⟩
    conv=>whnf
    rw [hp] at hsP hsN
    simp only [if_true] at hsP
    simp only [Bool.not_true,Bool.false_eq_true,if_false,List.append_nil] at hsN
    have hlf:lf (i+1)=lf i:=hsN
    have hqn:qr.n=((ck i).out.reads).length:=by have:=ow7.sl.len;simpa using this.symm
    refine Am ((few h2 [p,bb])) [18] (few_sub _ _) (by decide +kernel) ?_;conv=>whnf
    refine Aa rfl ((few_at (by simp)).trans k2) rfl ?_
    refine Aa rfl ((few_at (by simp)).trans k2) rfl ?_;conv=>whnf
    rw [ea]
    refine Ai (n:=x.rd.n) (z:=1) (j:=i) rfl (by omega) rfl rfl ?_;conv=>whnf
    refine Aa rfl ((few_at (by simp)).trans hb1) g1 ?_;conv=>whnf
    refine Ap (0,1) [I r] rfl rfl rfl rfl rfl rfl rfl fun b8 h8 n8 s8 k8=>?_;conv=>whnf
    refine ⟨(few_sub _ _).trans s8,?_⟩;conv=>whnf
    refine AAppend.own (n:=qr.n) (t:=(oo,7)) (E:=3) (z:=1) (by_:=8) (zero:=[I 0]) (tx:=(0,1)) (xs:=[I r]) rfl ⟨_,rfl⟩ rfl rfl rfl rfl (by omega) (ow7.move fun _ _ z=>s8 _ _ z)
     ⟨rfl,Nat.le_refl _, .inr ⟨b8,0,_,_,_,rfl,k8,rfl⟩⟩ rfl (by omega) (by omega) fun a9 c9 h9 ow9 t9 _=>?_
    conv=>whnf
    have p9:=t9.get (u:=(o,0)) (fun c=>ap.a (congrArg Prod.fst c)) (s8 _ _ k2)
    have hbt:=bb
    refine ⟨few_get fun z hz w hw=>?_,?_⟩
    ·simp only [List.mem_cons,List.not_mem_nil,or_false] at hz
     rcases hz with rfl | rfl
     ·rw [k2] at hw;cases hw;exact p9
     ·rw [hb1] at hw;cases hw;exact t9.get (fun c=>ap.a (congrArg Prod.fst c)) (s8 _ _ hb1)
    conv=>whnf
    refine Af rfl rfl rfl (p9) rfl (coreCells (ck (i+1)) {x with ox:={x.ox with qr:=⟨a9,qr.n+1,c9⟩}}) rfl fun h10 t10 k10 a10 e10=>?_;conv=>whnf
    have hck:(ck (i+1)).out.reads=(ck i).out.reads++[r]:=by show c.out.reads++(c.reads.take (i+1)).filter P=(c.out.reads++(c.reads.take i).filter P)++[r];rw [hsP,List.append_assoc]
    refine Ag (by omega) (by omega) ((by omega:(i:Int)+1=((i+1:Nat):Int))) ?_;conv=>whnf
    have mv10:∀ b (t:Tag) y,t≠(o,0)→t≠(oo,7)→h2 b=some (t,y)→h10 b=some (t,y):=fun b t y t1 t2 e=>t10 _ _ _ t1 (t9 _ _ _ t2 (s8 _ _ e))
    have ow10:=ow9.keepT t10 (fun c=>ap.a (congrArg Prod.fst c).symm)
    refine ⟨⟨_,i+1,⟨a9,qr.n+1,c9⟩,la,lc,Au ⟨rfl,rfl,by rw [hlf];rfl,rfl,trivial⟩,by omega,k10,by rw [hck,List.map_append];exact ow10,by rw [hlf];exact owf.move fun _ _ e=>mv10 _ _ _ (fun c=>by have:=congrArg Prod.fst c;simp only at this;omega) (fun c=>by have:=congrArg Prod.fst c;simp only at this;omega) e,fun b t y t1 t2 t3 e=>mv10 _ _ _ t1 t2 (mv _ _ _ t1 t2 t3 e)⟩,?_⟩
    show c.reads.length-(i+1)<c.reads.length-i
    omega
   | false =>
    rintro _ _ ⟨rfl,rfl⟩
    conv=>whnf
    rw [hp] at hsP hsN
    simp only [Bool.false_eq_true,if_false,List.append_nil] at hsP
    simp only [Bool.not_false,if_true] at hsN
    have hck:ck (i+1)=ck i:=by show ({c with out:={c.out with reads:=c.out.reads++(c.reads.take (i+1)).filter P}}:CoreM)=_;rw [hsP]
    have hlf:lf (i+1)=lf i++[r]:=hsN
    have hlf2:(lf (i+1)).length=(lf i).length+1:=by rw [hlf,List.length_append];rfl
    refine Aa rfl k2 rfl ?_;conv=>whnf
    rw [ea]
    refine Ai (n:=x.rd.n) (z:=1) (j:=i) rfl (by omega) rfl rfl ?_;conv=>whnf
    refine Aa rfl hb1 g1 ?_;conv=>whnf
    refine Ap (0,1) [I r] rfl rfl rfl rfl rfl rfl rfl fun b8 h8 n8 s8 k8=>?_;conv=>whnf
    refine AAppend.own (t:=(f,4)) (E:=3) (z:=1) (by_:=8) (zero:=[I 0]) (tx:=(0,1)) (xs:=[I r]) rfl ⟨_,rfl⟩ rfl rfl rfl rfl (by omega) (owf.move fun _ _ z=>s8 _ _ z)
     ⟨rfl,Nat.le_refl _, .inr ⟨b8,0,_,_,_,rfl,k8,rfl⟩⟩ rfl (by omega) (by omega) fun a9 c9 h9 ow9 t9 _=>?_
    conv=>whnf
    refine Ag (by omega) (by omega) ((by omega:(i:Int)+1=((i+1:Nat):Int))) ?_;conv=>whnf
    have mv9:∀ b (t:Tag) y,t.1≠f→h2 b=some (t,y)→h9 b=some (t,y):=fun b t y ht e=>t9.get (fun c=>ht (by rw [c])) (s8 _ _ e)
    refine ⟨⟨_,i+1,qr,a9,c9,Au ⟨rfl,rfl,by rw [hlf2];rfl,rfl,trivial⟩,by omega,by rw [hck];exact mv9 _ _ _ (by show o≠f;omega) k2,by rw [hck];exact ow7.move fun _ _ e=>mv9 _ _ _ (by show oo≠f;omega) e,by rw [hlf2,hlf,List.map_append];exact ow9,fun b t y t1 t2 t3 e=>mv9 _ _ _ t3 (mv _ _ _ t1 t2 t3 e)⟩,?_⟩
    show c.reads.length-(i+1)<c.reads.length-i
    omega
 ·refine Ad (by show ¬ (i:Int)<x.rd.n;omega) ?_;conv=>whnf
  obtain rfl:i=c.reads.length:=by omega
  refine Af rfl rfl rfl (k2) rfl (coreCells {ck c.reads.length with reads:=lf c.reads.length} {x with rd:=⟨la,(lf c.reads.length).length,lc⟩,ox:={x.ox with qr:=qr}}) rfl fun h3 t3 k3 a3 e3=>?_;conv=>whnf
  have ef:∀ Q:Int→Bool,(c.reads.take c.reads.length).filter Q=c.reads.filter Q:=fun Q=>by rw [List.take_length]
  have e1:lf c.reads.length=c.reads.filter fun r => !P r:=ef _
  have e2:ck c.reads.length={c with out:={c.out with reads:=c.out.reads++c.reads.filter P}}:=by show ({c with out:={c.out with reads:=c.out.reads++(c.reads.take c.reads.length).filter P}}:CoreM)=_;rw [ef]
  have ow7':=ow7.keepT t3 (fun c=>ap.a (congrArg Prod.fst c).symm)
  have owf':=owf.keepT t3 (fun c=>by have:=congrArg Prod.fst c;simp only at this;omega)
  rw [e1] at k3 owf'
  rw [e2] at k3 ow7'
  exact ⟨rfl,⟨qr,_,k3,ow7',owf'⟩,fun b t y t1 t2 t3' e=>t3 _ _ _ t1 (mv _ _ _ t1 t2 t3' e)⟩
theorem rstand_any {h:Heap} {p o oo:Nat} {c:CoreM} (ap:Apart o oo) (k:RCore h p o oo c) (lk:DLk c) (hs1:1≤c.self) (hs2:c.self≤5) (ht1:0≤c.term) (ht2:c.term<9007199254740991) (hb:hasB c.crewNow.1 c.self=true)
  (hv:0≤c.votes∧c.votes<64) (hroom:(c.log.es.length+1)*48≤140737488355328) (he:c.out.entries.length≤1000000000) (hp:c.out.posts.length≤999999980) :
  ACalls PR 90 #[Ptr p,I c.crewNow.1] h (fun v h'=>v = .tuple #[]∧RCore h' p o oo c.stand∧Keeps [o,o+1,oo] h h'):=by
 obtain ⟨x0,k0⟩:=k
 obtain ⟨m,hm⟩:∃ m:Nat,c.self=m:=⟨c.self.toNat,by omega⟩
 rw [CoreM.stand_eq,if_neg (by rw [hb];simp;omega)]
 refine As mix Tryz.func90 rfl rfl Tryz.ntmps90 Tryz.results90 rfl ?_;conv=>whnf
 refine Aa rfl k0.str rfl ?_;conv=>whnf
 refine Ag (by omega) (by omega) (rfl) ?_;conv=>whnf
 refine ACalls.mono (rgreater_any ap.a ⟨_,k0⟩ (c.term+1)) ?_;rintro _ h1 ⟨rfl,⟨x,k⟩,kk1⟩;conv=>whnf
 refine Aa rfl k.str rfl ?_;conv=>whnf
 rw [show (c.learn (c.term+1)).self=(m:Int) from hm]
 refine Af rfl rfl rfl (k.str) rfl (coreCells {c.learn (c.term+1) with vote:=(m:Int)} x) rfl fun h2 t2 k2 a2 e2=>?_;conv=>whnf
 refine Af rfl rfl rfl (k2) rfl (coreCells {c.learn (c.term+1) with vote:=(m:Int),state:=1} x) rfl fun h3 t3 k3 a3 e3=>?_;conv=>whnf
 refine Aa rfl k3 rfl ?_;conv=>whnf
 rw [show ({c.learn (c.term+1) with vote:=(m:Int),state:=1}:CoreM).self=(m:Int) from hm]
 refine ⟨by omega,?_⟩
 refine AArith.as (shl_one m (by omega)) ?_;conv=>whnf
 refine Af rfl rfl rfl (k3) rfl (coreCells {c.learn (c.term+1) with vote:=(m:Int),state:=1,votes:=((2^m:Nat):Int)} x) rfl fun h4 t4 k4 a4 e4=>?_;conv=>whnf
 have es:({c.learn (c.term+1) with vote:=(m:Int),state:=1,votes:=((2^m:Nat):Int)}:CoreM)=c.stood:=by
  unfold CoreM.stood;rw [hm];simp
 rw [es] at k4
 clear es
 have tt:=t2.trans (t3.trans t4)
 have q4:RX h4 p o oo c.stood x:=⟨k4,k.sd.keepT tt (by simp),KeepT.log k.log tt,k.rd.keepT tt (by simp),by
  have:=k.out.keepT ap.a tt
  exact this⟩
 have kk4:Keeps [o,o+1,oo] h h4:=(kk1.trans tt.keep).keeps (by simp)
 have lk4:DLk c.stood:=lk.same rfl rfl rfl
 obtain ⟨d,hd⟩:∃ d,d=c.stood:=⟨_,rfl⟩
 have f1:d.log=c.log:=by rw [hd];rfl
 have f2:d.self=c.self:=by rw [hd];rfl
 have f3:d.crewNow=c.crewNow:=by rw [hd];rfl
 have f4:d.out.posts=c.out.posts:=by rw [hd];rfl
 have f5:d.out.entries=c.out.entries:=by rw [hd];rfl
 have f6:d.log.last=c.log.last:=by rw [f1]
 have f7:d.votes=((2^m:Nat):Int):=by rw [hd];unfold CoreM.stood;rw [hm];simp
 rw [← hd] at q4 lk4 ⊢
 clear k4 k3 k2
 refine C2 (rlast_any q4 lk4.lk.lo) ?_;conv=>whnf
 rw [f6]
 refine ACalls.mono (rothers_any q4 lk4.lk.lo lk4.sy lk4.nowOk) ?_;rintro _ h5 ⟨al,cp,f,rfl,sl,hf1,hf2,s5⟩;conv=>whnf
 have hl5:=others_len d
 refine ALoop.mk (fun e h'=>∃ e0,∃ j:Nat,e=updL 63 e0 [(0,Ptr p),(1,I c.crewNow.1),(4,I c.log.last.1),(5,I c.log.last.2),(6, .slice al d.others.length cp),(7,I j)]∧j≤d.others.length∧RCore h' p o oo ((d.others.take j).foldl (fun x n=>x.say n (standP c)) d)∧Keeps [o,o+1,oo] h h'∧Sl h' (f,0) al d.others.length cp 1 (d.others.map I)) (fun e=>d.others.length-natOf (e 7))
  ⟨_,0,Au ⟨rfl,rfl,rfl,rfl,rfl,rfl,trivial⟩,by omega,⟨x,q4.sub s5⟩,kk4.trans (s5.keeps _),sl⟩ ?_
 rintro e h6 ⟨e0,j,rfl,hj,k6,kk6,s6⟩
 conv=>whnf
 by_cases hjn:j<d.others.length
 ·refine Ac (by omega) ?_;conv=>whnf
  obtain ⟨n,hn⟩:∃ n,d.others[j]? = some n:=⟨d.others[j]'hjn,by simp⟩
  obtain ⟨b,off,l,E,fz,rfl,hb6,hc⟩:=s6.pos (by omega)
  have g0:l[off+j*1]? = some (I n):=by rw [get_of_take hc (by omega),Nat.mul_one];simp [hn]
  refine Ai (z:=1) (j:=j) rfl hjn rfl rfl ?_;conv=>whnf
  refine Aa rfl hb6 g0 ?_;conv=>whnf
  obtain ⟨q,eq,hq⟩:=says_same (standP c) (d.others.take j) d
  have htl:(d.others.take j).length≤5:=by simp;omega
  have ph:PH.Made h6 oo (10+((d.others.take j).foldl (fun x n=>x.say n (standP c)) d).out.posts.length) ⟨1,0,n,0,c.log.last.1,c.log.last.2,0,false,0,slv0,[],0,0,0,slv0,[]⟩:=⟨.inl ⟨rfl,rfl,rfl⟩,by simp,by simp, .inl ⟨rfl,rfl,rfl⟩⟩
  refine ACalls.mono (rsay_any ap.a ap.b ap.c ap.d k6 n _ rfl ph (by rw [eq];simp only [List.length_append];rw [f4];omega)) ?_;rintro _ h7 ⟨rfl,k7,kk7⟩;conv=>whnf
  refine Ag (by omega) (by omega) ((by omega:(j:Int)+1=((j+1:Nat):Int))) ?_;conv=>whnf
  refine ⟨⟨_,j+1,Au ⟨rfl,rfl,rfl,rfl,rfl,rfl,trivial⟩,by omega,?_,kk6.trans (kk7.mono (by simp)),s6.keeps kk7 (by simp;omega)⟩,?_⟩
  ·rw [List.take_succ_eq_append_getElem hjn,(List.getElem?_eq_some_iff.1 hn).2,List.foldl_append]
   exact k7
  ·show d.others.length-(j+1)<d.others.length-j
   omega
 ·refine Ad (by omega) ?_;conv=>whnf
  rw [List.take_of_length_le (by omega)] at k6
  obtain ⟨q,eq,hq⟩:=says_same (standP c) d.others d
  obtain ⟨g,hg⟩:∃ g,g=d.others.foldl (fun x n=>x.say n (standP c)) d:=⟨_,rfl⟩
  have g1:g.log=c.log:=by rw [hg,eq];exact f1
  have g2:g.self=c.self:=by rw [hg,eq];exact f2
  have g3:g.crewNow=c.crewNow:=by rw [hg,eq];exact f3
  have g4:g.out.posts.length≤999999990:=by rw [hg,eq];simp only [List.length_append];rw [f4];omega
  have g5:g.out.entries=c.out.entries:=by rw [hg,eq];exact f5
  have g6:DLk g:=by rw [hg,eq];exact lk4.same rfl rfl rfl
  have g7:g.votes=((2^m:Nat):Int):=by rw [hg,eq];exact f7
  obtain ⟨w2,hw2,h2m⟩:∃ w2:Nat,2^m=w2∧w2≤2^5:=⟨_,rfl,Nat.pow_le_pow_right (by omega) (by omega)⟩
  rw [hw2] at g7
  rw [← hg] at k6 ⊢
  obtain ⟨x6,k6⟩:=k6
  have hnow:=g6.nowOk
  rw [← g3]
  unfold NowOk at hnow
  refine Aa rfl k6.str rfl ?_;conv=>whnf
  refine ACalls.mono (refMost_any h6 g.crewNow.1 g.votes hnow.1 hnow.2 (by rw [g7];omega) (by rw [g7];omega)) ?_
  rw [show mostOf g.crewNow.1 (hasB g.votes)=g.elected from rfl]
  cases hel:g.elected with
  | false =>
   rintro _ _ ⟨rfl,rfl⟩
   conv=>whnf
   rw [if_neg (by simp)]
   exact ⟨rfl,⟨_,k6⟩,kk6⟩
  | true =>
   rintro _ _ ⟨rfl,rfl⟩
   conv=>whnf
   rw [if_pos rfl]
   refine ACalls.mono (rlead_any ap ⟨_,k6⟩ g6 (by rw [g2];exact hs1) (by rw [g2];exact hs2) (by rw [g1];exact hroom) (by rw [g5];exact he) g4) ?_;rintro _ h7 ⟨rfl,k7,kk7⟩;conv=>whnf
   exact ⟨rfl,k7,kk6.trans kk7⟩
structure DOk (c:CoreM):Prop where
  ok:COk c
  sy:SaysOk c.log.es
  bc:c.log.bi≤c.commit
theorem DOk.lk {c:CoreM} (k:DOk c):DLk c:=⟨k.ok.lk,k.sy,k.ok.fc,k.ok.sc⟩
def RTold (p o oo:Nat) (d:CoreM) (h:Heap) (v:Value) (h':Heap):Prop :=
  ∃ ox,v = .agg (outCells d.done.2 ox).toArray∧OutOk h' oo d.done.2 ox∧(∀ oo2,oo2≠0→RCore h' p o oo2 d.done.1)∧Keeps [o,o+1,oo] h h'
theorem CoreAt.keeps2 {h h':Heap} {p o oo:Nat} {c:CoreM} {f r:Nat} (k:RCore h p o oo c) (kt:KeepT (f,r) h h') (h1:o≠f) (h2:o+1≠f) (h3:oo≠f):RCore h' p o oo c :=
 k.keeps (os:=[f]) (kt.keep.keeps (by simp)) (by simpa using h1) (by simpa using h2) (by simpa using h3)
theorem rtold_end {h h1 h3 h4:Heap} {p o oo b:Nat} {d:CoreM} {ox:OX} (ap:Apart o oo) (n:h b=none) (k1:Keeps [o,o+1,oo] h h1) (k3:Keep o h1 h3)
  (ok:OutOk h3 oo d.done.2 ox) (q:∀ oo2,RCore h3 p o oo2 d.done.1) (t4:KeepT (0,1) h3 h4) (e4:∀ c y,c≠b→h3 c=some y→h4 c=some y) :
  RTold p o oo d h (.agg (outCells d.done.2 ox).toArray) h4 :=
 ⟨ox,rfl,ok.keepT (Ne.symm ap.d) t4,fun oo2 h2=>(q oo2).keeps2 t4 ap.c (by omega) h2,fun c t y ht e=>e4 _ _ (fun hc=>by rw [hc,n] at e;cases e) (k3 _ _ _ (fun hc=>ht (by simp [hc])) (k1 _ _ _ ht e))⟩
theorem rTick_any {h:Heap} {p o oo:Nat} {c:CoreM} (ap:Apart o oo) (k:RCore h p o oo c) (dk:DOk c) (draw:Int) :
  ACalls PR 39 #[Ptr p,I draw] h (fun v h'=>(draw<0∧v = .tuple #[.agg (outCells out0 ox0).toArray,I 2]∧Sub h h')∨(0≤draw∧∃ u,v = .tuple #[u,I 0]∧RTold p o oo (c.tick draw) h u h')):=by
 have ok:=dk.ok
 have hout:=ok.out
 have hes:=ok.es
 have hb1:=ok.b1
 have hb2:=ok.b2
 refine At mix Tryz.func39 rfl rfl Tryz.ntmps39 Tryz.results39 rfl ?_;conv=>whnf
 refine Ak (0,1) (outCells out0 ox0) rfl fun b4 h1 n1 s1 k1=>?_;conv=>whnf
 have k:=k.sub s1
 refine Av ?_;conv=>whnf
 by_cases c0:draw<0
 ·refine Ac (c0) ?_;conv=>whnf
  refine Ae rfl rfl rfl (k1) rfl (outCells out0 ox0) rfl fun h2 t2 k2 a2 e2=>?_;conv=>whnf
  refine Ab rfl k2 rfl rfl ?_;conv=>whnf
  exact .inl ⟨c0,rfl,a2 h s1 n1⟩
 refine Ad (c0) ?_;conv=>whnf
 refine ACalls.mono (rbegin_any ap.a hout k) ?_;rintro _ h2 ⟨rfl,k2,kk2⟩;conv=>whnf
 obtain ⟨x,k2⟩:=k2
 have kb:∀ {h':Heap},Keeps [o,o+1,oo] h1 h'→h' b4=some (row (0,1) (outCells out0 ox0) 96):=fun kk=>kk _ _ _ (by have:=ap.c;have:=ap.d;simp;omega) k1
 unfold CoreM.tick
 refine Av ?_;conv=>whnf
 refine Aa rfl k2.str rfl ?_;conv=>whnf
 by_cases c1:c.state=2
 ·refine Ac (c1) ?_;conv=>whnf
  rw [if_pos c1]
  refine Aa rfl k2.str rfl ?_;conv=>whnf
  refine Ag (by omega) (by omega) (rfl) ?_;conv=>whnf
  refine Af rfl rfl rfl (k2.str) rfl (coreCells {c with beat:=c.beat-1} x) rfl fun h3 t3 k3' a3 e3=>?_;conv=>whnf
  have k3:RX h3 p o oo {c with beat:=c.beat-1} x:=k2.set' ap.a t3 k3'
  refine AIf.cut (fun e h'=>∃ e0,e=updL 89 e0 [(0,Ptr p),(4,Ptr b4)]∧RCore h' p o oo (if c.beat-1=0 then ({c with beat:=2}:CoreM).sendAll else {c with beat:=c.beat-1})∧Keeps [o,o+1,oo] h1 h') ?_ ?_
  ·conv=>whnf
   refine Aa rfl k3.str rfl ?_;conv=>whnf
   by_cases c2:c.beat-1=0
   ·refine Ac (c2) ?_;conv=>whnf
    rw [if_pos c2]
    refine Af rfl rfl rfl (k3.str) rfl (coreCells {c with beat:=2} x) rfl fun h4 t4 k4' a4 e4=>?_;conv=>whnf
    have k4:RX h4 p o oo {c with beat:=2} x:=k3.set' ap.a t4 k4'
    refine ACalls.mono (rsendAll_any ap ⟨_,k4⟩ (dk.lk.same rfl rfl rfl) ok.nk (by rw [show ({c with beat:=2}:CoreM).out=c.out from rfl,hout];simp [out0])) ?_;rintro _ h5 ⟨rfl,k5,kk5⟩;conv=>whnf
    exact ⟨_,Au ⟨rfl,rfl,trivial⟩,k5,((kk2.trans (t3.keep.trans t4.keep)).keeps (by simp)).trans (kk5.mono (by simp))⟩
   ·refine Ad (c2) ?_;conv=>whnf
    rw [if_neg c2]
    exact ⟨_,Au ⟨rfl,rfl,trivial⟩,⟨_,k3⟩,(kk2.trans t3.keep).keeps (by simp)⟩
  ·rintro e h7 ⟨e0,rfl,KC,KK⟩
   conv=>whnf
   refine ACalls.mono (rend_any ap.a ap.c ap.d KC) ?_;rintro _ h8 ⟨ox,rfl,o8,q8,kk8⟩;conv=>whnf
   refine Ae rfl rfl rfl ((kk8.get (Ne.symm ap.c) (kb KK))) rfl (outCells _ ox) rfl fun h9 t9 k9 a9 e9=>?_;conv=>whnf
   refine Ab rfl k9 rfl rfl ?_;conv=>whnf
   exact .inr ⟨by omega,_,rfl,rtold_end ap n1 ((s1.keeps _).trans KK) kk8 o8 q8 t9 e9⟩
 ·refine Ad (c1) ?_;conv=>whnf
  rw [if_neg c1]
  have hq1:=ok.q1
  have hq2:=ok.q2
  have hw1:=ok.w1
  have hw2:=ok.w2
  have hv1:=ok.v1
  have hv2:=ok.v2
  refine Aa rfl k2.str rfl ?_;conv=>whnf
  refine Ag (by omega) (by omega) (rfl) ?_;conv=>whnf
  refine Aq (rfl) ?_;conv=>whnf
  obtain ⟨q,hq⟩:∃ q,q=if 10<c.quiet+1 then 10 else c.quiet+1:=⟨_,rfl⟩
  rw [← hq]
  simp only []
  refine Af rfl rfl rfl (k2.str) rfl (coreCells {c with quiet:=q} x) rfl fun h3 t3 k3 a3 e3=>?_;conv=>whnf
  refine Aa rfl k3 rfl ?_;conv=>whnf
  refine Ag (r':=c.wait-1) (by simp only [];omega) (by simp only [];omega) rfl ?_;conv=>whnf
  refine Af rfl rfl rfl (k3) rfl (coreCells {c with quiet:=q,wait:=c.wait-1} x) rfl fun h4 t4 k4' a4 e4=>?_;conv=>whnf
  have k4:RX h4 p o oo {c with quiet:=q,wait:=c.wait-1} x:=k2.set' ap.a (t3.trans t4) k4'
  have kk4:Keeps [o,o+1,oo] h1 h4:=(kk2.trans (t3.keep.trans t4.keep)).keeps (by simp)
  refine AIf.cut (fun e h'=>∃ e0,e=updL 89 e0 [(0,Ptr p),(4,Ptr b4)]∧RCore h' p o oo (if c.wait-1=0 then ({c with quiet:=q,wait:=waits draw}:CoreM).stand else {c with quiet:=q,wait:=c.wait-1})∧Keeps [o,o+1,oo] h1 h') ?_ ?_
  ·conv=>whnf
   refine Aa rfl k4.str rfl ?_;conv=>whnf
   by_cases c2:c.wait-1=0
   ·refine Ac (c2) ?_;conv=>whnf
    rw [if_pos c2]
    refine ⟨by omega,?_⟩
    refine Aq (rfl) ?_;conv=>whnf
    have h1:0≤draw.tmod 10:=Int.tmod_nonneg _ (by omega)
    have h2:draw.tmod 10<10:=Int.tmod_lt_of_pos _ (by omega)
    refine Ag (by omega) (by omega) (rfl) ?_;conv=>whnf
    refine Af rfl rfl rfl (k4.str) rfl (coreCells {c with quiet:=q,wait:=waits draw} x) rfl fun h5 t5 k5' a5 e5=>?_;conv=>whnf
    have k5:RX h5 p o oo {c with quiet:=q,wait:=waits draw} x:=k4.set' ap.a t5 k5'
    have kk5:=kk4.trans (t5.keep.keeps (os:=[o,o+1,oo]) (by simp))
    have lk5:DLk {c with quiet:=q,wait:=waits draw}:=dk.lk.same rfl rfl rfl
    refine C2 (rcrew_any k5 lk5.lk.lo lk5.sy) ?_;conv=>whnf
    refine Av ?_;conv=>whnf
    refine Aa rfl k5.str rfl ?_;conv=>whnf
    have hnow:=lk5.nowOk
    unfold NowOk at hnow
    refine ACalls.mono (refHas_any h5 _ c.self hnow.1 hnow.2) ?_
    cases hb:hasB ({c with quiet:=q,wait:=waits draw}:CoreM).crewNow.1 c.self with
    | false =>
     rintro _ _ ⟨rfl,rfl⟩
     conv=>whnf
     rw [CoreM.stand_eq,if_pos (.inl hb)]
     exact ⟨_,Au ⟨rfl,rfl,trivial⟩,⟨_,k5⟩,kk5⟩
    | true =>
     rintro _ _ ⟨rfl,rfl⟩
     conv=>whnf
     refine Aa rfl k5.str rfl ?_;conv=>whnf
     have ht2:=ok.t2
     by_cases c3:c.term<9007199254740991
     ·refine Ac (c3) ?_;conv=>whnf
      refine ACalls.mono (rstand_any ap ⟨_,k5⟩ lk5 ok.s1 ok.s2 ok.t1 c3 hb ⟨hv1,hv2⟩ (by simp only [];omega) (by simp only [];rw [hout];simp [out0]) (by simp only [];rw [hout];simp [out0])) ?_;rintro _ h6 ⟨rfl,k6,kk6⟩;conv=>whnf
      exact ⟨_,Au ⟨rfl,rfl,trivial⟩,k6,kk5.trans kk6⟩
     ·refine Ad (c3) ?_;conv=>whnf
      rw [CoreM.stand_eq,if_pos (.inr (by show c.term=_;omega))]
      exact ⟨_,Au ⟨rfl,rfl,trivial⟩,⟨_,k5⟩,kk5⟩
   ·refine Ad (c2) ?_;conv=>whnf
    rw [if_neg c2]
    exact ⟨_,Au ⟨rfl,rfl,trivial⟩,⟨_,k4⟩,kk4⟩
  ·rintro e h7 ⟨e0,rfl,KC,KK⟩
   conv=>whnf
   refine ACalls.mono (rend_any ap.a ap.c ap.d KC) ?_;rintro _ h8 ⟨ox,rfl,o8,q8,kk8⟩;conv=>whnf
   refine Ae rfl rfl rfl ((kk8.get (Ne.symm ap.c) (kb KK))) rfl (outCells _ ox) rfl fun h9 t9 k9 a9 e9=>?_;conv=>whnf
   refine Ab rfl k9 rfl rfl ?_;conv=>whnf
   exact .inr ⟨by omega,_,rfl,rtold_end ap n1 ((s1.keeps _).trans KK) kk8 o8 q8 t9 e9⟩
theorem vput_add:∀ a:Nat,a<64→∀ n:Nat,n<6→1≤n→hasB (a:Int) (n:Int)=false→(vput (a:Int) (n:Int)=((a+2^n:Nat):Int)∧a+2^n<128):=by decide +kernel
theorem vput_has {a n:Int} (h:hasB a n=true):vput a n=a:=if_pos h
theorem vput_lt:∀ a:Nat,a<64→∀ n:Nat,n<6→1≤n→0≤vput (a:Int) (n:Int)∧vput (a:Int) (n:Int)<64:=by decide +kernel
theorem rvoted_any {h:Heap} {p o oo:Nat} {c:CoreM} (ap:Apart o oo) (k:RCore h p o oo c) (lk:DLk c) (hs1:1≤c.self) (hs2:c.self≤5) (hv1:0≤c.votes) (hv2:c.votes<64) (x:PH) (hx1:1≤x.src) (hx2:x.src≤5)
  (hroom:(c.log.es.length+1)*48≤140737488355328) (he:c.out.entries.length≤1000000000) (hp:c.out.posts.length≤999999990) :
  ACalls PR 95 #[Ptr p, .agg x.cells.toArray] h (fun v h'=>v = .tuple #[]∧RCore h' p o oo (c.voted x.abs)∧Keeps [o,o+1,oo] h h'):=by
 obtain ⟨cx,k⟩:=k
 obtain ⟨a,ha⟩:∃ a:Nat,c.votes=a:=⟨c.votes.toNat,by omega⟩
 obtain ⟨n,hn⟩:∃ n:Nat,x.src=n:=⟨x.src.toNat,by omega⟩
 refine At mix Tryz.func95 rfl rfl Tryz.ntmps95 Tryz.results95 rfl ?_;conv=>whnf
 refine Al (0,1) (x.cells) rfl fun b1 h1 n1 s1 k1=>?_;conv=>whnf
 have q:=k.sub s1
 refine Av ?_;conv=>whnf
 refine Av ?_;conv=>whnf
 refine Aa rfl q.str rfl ?_;conv=>whnf
 by_cases c1:c.state≠1
 ·refine Ac (c1) ?_;conv=>whnf
  rw [CoreM.voted_no (.inl c1)]
  exact ⟨rfl,⟨_,q⟩,s1.keeps _⟩
 refine Ad (c1) ?_;conv=>whnf
 refine Aa rfl k1 rfl ?_;conv=>whnf
 cases c2:x.ok with
 | false =>
  conv=>whnf
  rw [CoreM.voted_no (.inr c2)]
  exact ⟨rfl,⟨_,q⟩,s1.keeps _⟩
 | true =>
 conv=>whnf
 rw [CoreM.voted_yes (by show ¬(c.state≠1∨x.ok=false);rw [c2];simpa using c1)]
 obtain ⟨g,hg⟩:∃ g:CoreM,g={c with votes:=vput c.votes x.src}:=⟨_,rfl⟩
 rw [show ({c with votes:=vput c.votes x.abs.src}:CoreM)=g from hg.symm]
 refine AIf.cut (fun e h'=>∃ e0,e=updL 48 e0 [(0,Ptr p)]∧RCore h' p o oo g∧Keeps [o,o+1,oo] h h') ?_ ?_
 ·conv=>whnf
  refine Av ?_;conv=>whnf
  refine Am (h1) [] (Sub.refl _) (by decide +kernel) ?_;conv=>whnf
  refine Aa rfl q.str rfl ?_
  refine Aa rfl k1 rfl ?_;conv=>whnf
  refine ACalls.mono (refHas_any h1 c.votes x.src (by omega) (by omega)) ?_
  cases hh:hasB c.votes x.src with
  | true =>
   rintro _ _ ⟨rfl,rfl⟩
   conv=>whnf
   refine ⟨Sub.refl _,?_⟩;conv=>whnf
   rw [vput_has hh] at hg
   exact ⟨_,Au ⟨rfl,trivial⟩,by rw [hg];exact ⟨_,q⟩,s1.keeps _⟩
  | false =>
   rintro _ _ ⟨rfl,rfl⟩
   conv=>whnf
   refine ⟨Sub.refl _,?_⟩;conv=>whnf
   rw [ha,hn] at hh
   obtain ⟨v1,v2⟩:=vput_add a (by omega) n (by omega) (by omega) hh
   rw [← ha,← hn] at v1
   obtain ⟨w,hw,hsh⟩:∃ w:Nat,2^n=w∧IntKind.i64.wrap (1*2^(min ((n:Nat):Int).toNat 64))=(w:Int):=⟨_,rfl,shl_one n (by omega)⟩
   rw [hw] at v1 v2
   refine Am ((two h1 p b1)) [11] (two_sub _ _ _) (by decide +kernel) ?_;conv=>whnf
   refine Aa rfl ((two_l _ _ _).trans q.str) rfl ?_
   refine Aa rfl ((two_r _ _ _).trans k1) rfl ?_;conv=>whnf
   rw [hn]
   refine ⟨by omega,?_⟩
   refine AArith.as hsh ?_;conv=>whnf
   refine Ag (r':=vput c.votes x.src) (by omega) (by omega) (by rw [v1,ha];omega) ?_;conv=>whnf
   refine Af rfl rfl rfl (q.str) rfl (coreCells {c with votes:=vput c.votes x.src} cx) rfl fun h2 t2 k2 a2 e2=>?_;conv=>whnf
   have q2:RX h2 p o oo g cx:=by rw [hg];exact q.set' ap.a t2 k2
   exact ⟨_,Au ⟨rfl,trivial⟩,⟨_,q2⟩,(s1.keeps _).trans (t2.keep.keeps (by simp))⟩
 rintro e h2 ⟨e0,rfl,⟨cx2,q2⟩,kk2⟩
 have lk2:DLk g:=by rw [hg];exact lk.same rfl rfl rfl
 have g1:g.self=c.self:=by rw [hg]
 have g2:g.log=c.log:=by rw [hg]
 have g3:g.out=c.out:=by rw [hg]
 have g4:0≤g.votes∧g.votes<64:=by rw [hg];show 0≤vput c.votes x.src∧vput c.votes x.src<64;rw [ha,hn];exact vput_lt a (by omega) n (by omega) (by omega)
 have hnow:=lk2.nowOk
 unfold NowOk at hnow
 conv=>whnf
 refine C2 (rcrew_any q2 lk2.lk.lo lk2.sy) ?_;conv=>whnf
 refine Aa rfl q2.str rfl ?_;conv=>whnf
 refine ACalls.mono (refMost_any h2 g.crewNow.1 g.votes hnow.1 hnow.2 (by omega) (by omega)) ?_
 rw [show mostOf g.crewNow.1 (hasB g.votes)=g.elected from rfl]
 cases hel:g.elected with
 | false =>
  rintro _ _ ⟨rfl,rfl⟩
  conv=>whnf
  rw [if_neg (by simp)]
  exact ⟨rfl,⟨_,q2⟩,kk2⟩
 | true =>
  rintro _ _ ⟨rfl,rfl⟩
  conv=>whnf
  rw [if_pos rfl]
  refine ACalls.mono (rlead_any ap ⟨_,q2⟩ lk2 (by rw [g1];exact hs1) (by rw [g1];exact hs2) (by rw [g2];exact hroom) (by rw [g3];exact he) (by rw [g3];exact hp)) ?_;rintro _ h7 ⟨rfl,k7,kk7⟩;conv=>whnf
  exact ⟨rfl,k7,kk2.trans kk7⟩
theorem rheard_any {h:Heap} {p o oo:Nat} {c:CoreM} (ap:Apart o oo) (k:RCore h p o oo c) (x:PH) (draw:Int) (hd:0≤draw) :
  ACalls PR 96 #[Ptr p, .agg x.cells.toArray,I draw] h (fun v h'=>v = .tuple #[]∧RCore h' p o oo {c.follow with head:=x.src,quiet:=0,wait:=waits draw}∧Keep o h h'):=by
 obtain ⟨cx,k⟩:=k
 refine As mix Tryz.func96 rfl rfl Tryz.ntmps96 Tryz.results96 rfl ?_;conv=>whnf
 refine Al (0,1) (x.cells) rfl fun b1 h1 n1 s1 k1=>?_;conv=>whnf
 refine ACalls.mono (rfollow_any ap.a ⟨_,k.sub s1⟩) ?_;rintro _ h2 ⟨rfl,⟨cx2,q2⟩,kk2⟩;conv=>whnf
 have k12:=kk2.get (Ne.symm ap.c) k1
 refine Aa rfl k12 rfl ?_;conv=>whnf
 refine Af rfl rfl rfl (q2.str) rfl (coreCells {c.follow with head:=x.src} cx2) rfl fun h3 t3 k3 a3 e3=>?_;conv=>whnf
 refine Af rfl rfl rfl (k3) rfl (coreCells {c.follow with head:=x.src,quiet:=0} cx2) rfl fun h4 t4 k4 a4 e4=>?_;conv=>whnf
 refine ⟨by omega,?_⟩
 refine Aq (rfl) ?_;conv=>whnf
 have d1:0≤draw.tmod 10:=Int.tmod_nonneg _ (by omega)
 have d2:draw.tmod 10<10:=Int.tmod_lt_of_pos _ (by omega)
 refine Ag (by omega) (by omega) (rfl) ?_;conv=>whnf
 refine Af rfl rfl rfl (k4) rfl (coreCells {c.follow with head:=x.src,quiet:=0,wait:=waits draw} cx2) rfl fun h5 t5 k5 a5 e5=>?_;conv=>whnf
 have tt:=t3.trans (t4.trans t5)
 exact ⟨rfl,⟨_,q2.set' ap.a tt k5⟩,(s1.keep o).trans (kk2.trans tt.keep)⟩
theorem rvote_any {h:Heap} {p o oo:Nat} {c:CoreM} (ap:Apart o oo) (k:RCore h p o oo c) (lo:LOk c.log) (x:PH) (draw:Int) (hd:0≤draw) (hp:c.out.posts.length≤1000000000) :
  ACalls PR 94 #[Ptr p, .agg x.cells.toArray,I draw] h (fun v h'=>v = .tuple #[]∧RCore h' p o oo (c.asked x.abs draw)∧Keeps [o,oo] h h'):=by
 obtain ⟨cx,k⟩:=k
 rw [CoreM.asked_eq]
 have hao:c.askedOk x.abs=((decide (c.log.last.2<x.logTerm) || (decide (x.logTerm=c.log.last.2)&&decide (c.log.last.1≤x.index)))&&(decide (c.vote=0) || decide (c.vote=x.src))):=rfl
 refine At mix Tryz.func94 rfl rfl Tryz.ntmps94 Tryz.results94 rfl ?_;conv=>whnf
 refine Al (0,1) (x.cells) rfl fun b1 h1 n1 s1 k1=>?_;conv=>whnf
 have q:=k.sub s1
 refine C2 (rlast_any q lo) ?_;conv=>whnf
 obtain ⟨F,hF⟩:∃ F,F=(decide (c.log.last.2<x.logTerm) || (decide (x.logTerm=c.log.last.2)&&decide (c.log.last.1≤x.index))):=⟨_,rfl⟩
 rw [← hF] at hao
 refine AIf.cut (fun e h'=>∃ e0,e=updL 70 e0 [(0,Ptr p),(2,I draw),(4,Ptr b1),(8, .bool F)]∧h1=h') ?_ ?_
 ·conv=>whnf
  refine Aa rfl k1 rfl ?_;conv=>whnf
  by_cases f1:c.log.last.2<x.logTerm
  ·refine Ac (f1) ?_;conv=>whnf
   exact ⟨_,Au ⟨rfl,rfl,rfl,congrArg Value.bool (Eq.symm (by rw [hF,decide_eq_true f1];rfl)),trivial⟩,rfl⟩
  refine Ad (f1) ?_;conv=>whnf
  refine Aa rfl k1 rfl ?_;conv=>whnf
  by_cases f2:x.logTerm=c.log.last.2
  ·refine Ac (f2) ?_;conv=>whnf
   refine Aa rfl k1 rfl ?_;conv=>whnf
   by_cases f3:c.log.last.1≤x.index
   ·refine Ac (f3) ?_;conv=>whnf
    exact ⟨_,Au ⟨rfl,rfl,rfl,congrArg Value.bool (Eq.symm (by rw [hF,decide_eq_true f2,decide_eq_true f3];simp)),trivial⟩,rfl⟩
   ·refine Ad (f3) ?_;conv=>whnf
    exact ⟨_,Au ⟨rfl,rfl,rfl,congrArg Value.bool (Eq.symm (by rw [hF,decide_eq_false f1,decide_eq_false f3];simp)),trivial⟩,rfl⟩
  ·refine Ad (f2) ?_;conv=>whnf
   exact ⟨_,Au ⟨rfl,rfl,rfl,congrArg Value.bool (Eq.symm (by rw [hF,decide_eq_false f1,decide_eq_false f2];simp)),trivial⟩,rfl⟩
 rintro e _ ⟨e0,rfl,rfl⟩
 conv=>whnf
 refine AIf.cut (fun e h'=>∃ e0,e=updL 70 e0 [(0,Ptr p),(2,I draw),(4,Ptr b1),(9, .bool (c.askedOk x.abs))]∧h1=h') ?_ ?_
 ·conv=>whnf
  refine Am (h1) [] (Sub.refl _) (by decide +kernel) ?_;conv=>whnf
  cases F with
  | false=>exact ⟨_,Au ⟨rfl,rfl,rfl,congrArg Value.bool (Eq.symm (by rw [hao];rfl)),trivial⟩,rfl⟩
  | true =>
   conv=>whnf
   refine Aa rfl q.str rfl ?_;conv=>whnf
   by_cases v0:c.vote=0
   ·refine Ac (v0) ?_;conv=>whnf
    exact ⟨_,Au ⟨rfl,rfl,rfl,congrArg Value.bool (Eq.symm (by rw [hao,v0];simp)),trivial⟩,rfl⟩
   ·refine Ad (v0) ?_;conv=>whnf
    refine Aa rfl q.str rfl ?_
    refine Aa rfl k1 rfl ?_;conv=>whnf
    by_cases v1:c.vote=x.src
    ·refine Ac (v1) ?_;conv=>whnf
     exact ⟨_,Au ⟨rfl,rfl,rfl,congrArg Value.bool (Eq.symm (by rw [hao,decide_eq_true v1];simp)),trivial⟩,rfl⟩
    ·refine Ad (v1) ?_;conv=>whnf
     exact ⟨_,Au ⟨rfl,rfl,rfl,congrArg Value.bool (Eq.symm (by rw [hao,decide_eq_false v0,decide_eq_false v1];simp)),trivial⟩,rfl⟩
 rintro e _ ⟨e0,rfl,rfl⟩
 obtain ⟨A,hA⟩:∃ A,A=c.askedOk x.abs:=⟨_,rfl⟩
 rw [← hA]
 conv=>whnf
 refine AIf.cut (fun e h'=>∃ e0,e=updL 70 e0 [(0,Ptr p),(4,Ptr b1),(9, .bool A)]∧RCore h' p o oo (if A=true then {c with vote:=x.src,wait:=waits draw,out:={c.out with hard:=true}} else c)∧h' b1=some (row (0,1) x.cells 49)∧Keep o h1 h') ?_ ?_
 ·conv=>whnf
  cases A with
  | false=>exact ⟨_,Au ⟨rfl,rfl,rfl,trivial⟩,⟨_,q⟩,k1,Keep.refl _ _⟩
  | true =>
   conv=>whnf
   refine Aa rfl k1 rfl ?_;conv=>whnf
   refine Af rfl rfl rfl (q.str) rfl (coreCells {c with vote:=x.src} cx) rfl fun h3 t3 k3 a3 e3=>?_;conv=>whnf
   refine Af rfl rfl rfl (k3) rfl (coreCells {c with vote:=x.src,out:={c.out with hard:=true}} cx) rfl fun h4 t4 k4 a4 e4=>?_;conv=>whnf
   refine ⟨by omega,?_⟩
   refine Aq (rfl) ?_;conv=>whnf
   have d1:0≤draw.tmod 10:=Int.tmod_nonneg _ (by omega)
   have d2:draw.tmod 10<10:=Int.tmod_lt_of_pos _ (by omega)
   refine Ag (by omega) (by omega) (rfl) ?_;conv=>whnf
   refine Af rfl rfl rfl (k4) rfl (coreCells {c with vote:=x.src,wait:=waits draw,out:={c.out with hard:=true}} cx) rfl fun h5 t5 k5 a5 e5=>?_;conv=>whnf
   have tt:=t3.trans (t4.trans t5)
   exact ⟨_,Au ⟨rfl,rfl,rfl,trivial⟩,⟨_,q.set' ap.a tt k5⟩,tt.get (tag_ne ap.c) k1,tt.keep⟩
 rintro e h5 ⟨e0,rfl,q5,k15,kk5⟩
 conv=>whnf
 refine Aa rfl k15 rfl ?_;conv=>whnf
 have hp5:(if A=true then ({c with vote:=x.src,wait:=waits draw,out:={c.out with hard:=true}}:CoreM) else c).out.posts.length≤1000000000:=by split <;> exact hp
 refine ACalls.mono (rsay_any ap.a ap.b ap.c ap.d q5 x.src {post1 with kind:=2,dst:=x.src,ok:=A} rfl (made0 rfl rfl rfl rfl) hp5) ?_;rintro _ h6 ⟨rfl,k6,kk6⟩;conv=>whnf
 exact ⟨rfl,k6,(s1.keeps _).trans ((kk5.keeps (by simp)).trans kk6)⟩
theorem rtold_any {h:Heap} {p o oo:Nat} {c:CoreM} (ap:Apart o oo) (k:RCore h p o oo c) (lk:DLk c) (nk:NextOk c) (mk:MtchOk c) (hs1:1≤c.self) (hs2:c.self≤5) (x:PH) (hx1:1≤x.src) (hx2:x.src≤5)
  (hi0:0≤x.index) (hi1:x.index≤9007199254740991) (hro:c.out.reads=[]) (hrl:c.reads.length≤100000000) (hp:c.out.posts.length≤999999990) :
  ACalls PR 99 #[Ptr p, .agg x.cells.toArray] h (fun v h'=>v = .tuple #[]∧RCore h' p o oo (c.told x.abs)∧Keeps [o,o+1,oo] h h'):=by
 obtain ⟨cx,k⟩:=k
 have hlast:=lk.lk.lo.last
 have htop:=lk.lk.lo.top
 have hlo:=lk.lk.lo.lo
 obtain ⟨m,hm⟩:∃ m:Nat,x.src=m:=⟨x.src.toNat,by omega⟩
 have hHe:∀ d y,(coreCells d y)[0+14+13+m*1]? = some (I (d.heard.get x.src)):=fun d y=>by have:=heard_cell d y hx1 hx2;rw [show 0+14+13+m*1=27+x.src.toNat by omega];exact this
 have hMt:∀ d y,(coreCells d y)[0+14+7+m*1]? = some (I (d.mtch.get x.src)):=fun d y=>by have:=mtch_cell d y hx1 hx2;rw [show 0+14+7+m*1=21+x.src.toNat by omega];exact this
 have hNx:∀ d y,(coreCells d y)[0+14+1+m*1]? = some (I (d.next.get x.src)):=fun d y=>by have:=next_cell d y hx1 hx2;rw [show 0+14+1+m*1=15+x.src.toNat by omega];exact this
 have lt:∀ {l:List Value} {i:Nat} {v:Value},l[i]? = some v→Nat.ble (i+1) l.length=true:=fun h=>Nat.ble_eq_true_of_le (List.getElem?_eq_some_iff.1 h).1
 refine At mix Tryz.func99 rfl rfl Tryz.ntmps99 Tryz.results99 rfl ?_;conv=>whnf
 refine Al (0,1) (x.cells) rfl fun b3 h1 n1 s1 k1=>?_;conv=>whnf
 have q:=k.sub s1
 refine Aa rfl k1 rfl ?_;conv=>whnf
 refine Av ?_;conv=>whnf
 refine Am (h1) [14] (Sub.refl _) (by decide +kernel) ?_;conv=>whnf
 refine Aj (n:=6) (z:=1) (j:=m) (by omega) (by omega) rfl rfl ?_;conv=>whnf
 refine Aa rfl q.str (hHe _ _) ?_
 refine Aa rfl k1 rfl ?_;conv=>whnf
 refine Aq (show _=maxI (c.heard.get x.src) x.hint from rfl) ?_;conv=>whnf
 refine Aj (n:=6) (z:=1) (j:=m) (by omega) (by omega) rfl rfl ?_;conv=>whnf
 refine Af rfl rfl rfl q.str (lt (hHe _ _)) (coreCells (c.told1 x.abs) cx) (by rw [show 0+14+13+m*1=27+x.src.toNat by omega];exact heard_set c cx hx1 hx2 _) fun h2 t2 k2 a2 e2=>?_;conv=>whnf
 have q2:=q.set' (c':=c.told1 x.abs) ap.a t2 k2
 have k12:=t2.get (tag_ne ap.c) k1
 have kk2:Keeps [o,o+1,oo] h h2:=(s1.keeps _).trans (t2.keep.keeps (by simp))
 obtain ⟨c1,hc1⟩:∃ c1,c1=c.told1 x.abs:=⟨_,rfl⟩
 have f1:c1.log=c.log:=by rw [hc1];rfl
 have f2:c1.mtch=c.mtch:=by rw [hc1];rfl
 have f3:c1.next=c.next:=by rw [hc1];rfl
 rw [← hc1] at q2
 refine C2 (rlast_any q2 (by rw [f1];exact lk.lk.lo)) ?_;conv=>whnf
 rw [f1]
 have hmk:=mk x.src hx1 hx2
 have hnk:=nk x.src hx1 hx2
 refine AIf.cut (fun e h'=>∃ e0 d,e=updL 119 e0 [(0,Ptr p)]∧c.told x.abs=d.confirm∧RCore h' p o oo d∧DLk d∧d.self=c.self∧d.out.reads.length+d.reads.length≤1000000000∧Keeps [o,o+1,oo] h h') ?_ ?_
 rotate_left
 ·rintro e h6 ⟨e0,d,rfl,ed,kd,lkd,sd,hrd,kk6⟩
  conv=>whnf
  refine ACalls.mono (rconfirm_any ap kd lkd (by rw [sd];exact hs1) (by rw [sd];exact hs2) hrd) ?_;rintro _ h7 ⟨rfl,k7,kk7⟩;conv=>whnf
  exact ⟨rfl,by rw [ed];exact k7,kk6.trans (kk7.mono (by simp))⟩
 conv=>whnf
 refine AIf.cut (fun e h'=>∃ e0,e=updL 119 e0 [(0,Ptr p),(3,Ptr b3),(4,I x.src),(5,I c.log.last.1),(34, .bool (x.ok || decide (x.kind=6)))]∧h2=h') ?_ ?_
 ·conv=>whnf
  refine Aa rfl k12 rfl ?_;conv=>whnf
  cases hok:x.ok with
  | true=>exact ⟨_,Au ⟨rfl,rfl,rfl,rfl,rfl,trivial⟩,rfl⟩
  | false =>
   conv=>whnf
   refine Aa rfl k12 rfl ?_;conv=>whnf
   by_cases ck:x.kind=6
   ·refine Ac (ck) ?_;conv=>whnf
    exact ⟨_,Au ⟨rfl,rfl,rfl,rfl,congrArg Value.bool (by simp [ck]),trivial⟩,rfl⟩
   ·refine Ad (ck) ?_;conv=>whnf
    exact ⟨_,Au ⟨rfl,rfl,rfl,rfl,congrArg Value.bool (by simp [ck]),trivial⟩,rfl⟩
 rintro e _ ⟨e0,rfl,rfl⟩
 have hY:(x.ok || decide (x.kind=6))=true↔(x.abs.ok=true∨x.abs.kind=6):=by rw [Bool.or_eq_true,decide_eq_true_iff];exact Iff.rfl
 cases hy:(x.ok || decide (x.kind=6)) with
 | true =>
  rw [hy] at hY
  conv=>whnf
  refine Av ?_;conv=>whnf
  refine Am (h2) [16] (Sub.refl _) (by decide +kernel) ?_;conv=>whnf
  refine Aj (n:=6) (z:=1) (j:=m) (by omega) (by omega) rfl rfl ?_;conv=>whnf
  refine Aa rfl q2.str (hMt _ _) ?_
  refine Aa rfl k12 rfl ?_;conv=>whnf
  refine Aq (show _=minI x.index c.log.last.1 from rfl) ?_;conv=>whnf
  rw [f2]
  refine Aq (show _=maxI (c.mtch.get x.src) (minI x.index c.log.last.1) from rfl) ?_;conv=>whnf
  refine Aj (n:=6) (z:=1) (j:=m) (by omega) (by omega) rfl rfl ?_;conv=>whnf
  refine Af rfl rfl rfl q2.str (lt (hMt _ _)) (coreCells (c.told2 x.abs) cx) (by rw [show 0+14+7+m*1=21+x.src.toNat by omega];rw [mtch_set c1 cx hx1 hx2 _,hc1];rfl) fun h3 t3 k3 a3 e3=>?_;conv=>whnf
  have q3:=q2.set' (c':=c.told2 x.abs) ap.a t3 k3 (by rw [hc1];rfl) (by rw [hc1];rfl) (by rw [hc1];rfl) (by rw [hc1];rfl) (by rw [hc1];rfl) (by rw [hc1];rfl) (by rw [hc1];rfl)
  have kk3:=kk2.trans (t3.keep.keeps (by simp):Keeps [o,o+1,oo] h2 h3)
  obtain ⟨c2,hc2⟩:∃ c2,c2=c.told2 x.abs:=⟨_,rfl⟩
  have g2:c2.next=c.next:=by rw [hc2];rfl
  have g3:c2.mtch.get x.src=maxI (c.mtch.get x.src) (minI x.index c.log.last.1):=by
   rw [hc2];show (c.mtch.set x.src _).get x.src=_
   rw [Five.get_set _ _ _ _ hx1 hx2,if_pos rfl];rfl
  have g4:0≤c2.mtch.get x.src∧c2.mtch.get x.src≤9007199254740991:=by
   rw [g3];unfold maxI minI;split <;> split <;> omega
  rw [← hc2] at q3
  refine Av ?_;conv=>whnf
  refine Am (h3) [19] (Sub.refl _) (by decide +kernel) ?_;conv=>whnf
  refine Aj (n:=6) (z:=1) (j:=m) (by omega) (by omega) rfl rfl ?_;conv=>whnf
  refine Aa rfl q3.str (hNx _ _) ?_;conv=>whnf
  refine Aj (n:=6) (z:=1) (j:=m) (by omega) (by omega) rfl rfl ?_;conv=>whnf
  refine Aa rfl q3.str (hMt _ _) ?_;conv=>whnf
  refine Ag (by omega) (by omega) (rfl) ?_;conv=>whnf
  rw [g2]
  refine Aq (show _=maxI (c.next.get x.src) (c2.mtch.get x.src+1) from rfl) ?_;conv=>whnf
  refine Aj (n:=6) (z:=1) (j:=m) (by omega) (by omega) rfl rfl ?_;conv=>whnf
  refine Af rfl rfl rfl q3.str (lt (hNx _ _)) (coreCells (c.told3 x.abs) cx) (by rw [show 0+14+1+m*1=15+x.src.toNat by omega];rw [next_set c2 cx hx1 hx2 _,hc2];rfl) fun h4 t4 k4 a4 e4=>?_;conv=>whnf
  have q4:=q3.set' (c':=c.told3 x.abs) ap.a t4 k4 (by rw [hc2];rfl) (by rw [hc2];rfl) (by rw [hc2];rfl) (by rw [hc2];rfl) (by rw [hc2];rfl) (by rw [hc2];rfl) (by rw [hc2];rfl)
  have kk4:=kk3.trans (t4.keep.keeps (by simp):Keeps [o,o+1,oo] h3 h4)
  obtain ⟨c3,hc3⟩:∃ c3,c3=c.told3 x.abs:=⟨_,rfl⟩
  have lk3:DLk c3:=by rw [hc3];exact lk.same rfl rfl rfl
  have nk3:NextOk c3:=by
   intro n n1 n2
   have e:c3.next=c.next.set x.src (maxI (c.next.get x.src) (c2.mtch.get x.src+1)):=by rw [hc3,hc2];rfl
   rw [e,Five.get_set _ _ _ _ n1 n2]
   split
   ·unfold maxI;split <;> omega
   ·exact nk n n1 n2
  have p3:c3.out=c.out:=by rw [hc3];rfl
  have r3:c3.reads=c.reads:=by rw [hc3];rfl
  have s3:c3.self=c.self:=by rw [hc3];rfl
  have fi3:c3.first=c.first:=by rw [hc3];rfl
  have ty:=CoreM.told_yes (c:=c) (p:=x.abs) (hY.1 rfl)
  rw [← hc3] at ty q4
  refine ACalls.mono (rrank_any ap ⟨_,q4⟩ lk3 (by rw [s3];exact hs1) (by rw [s3];exact hs2)) ?_;rintro _ h5 ⟨rfl,⟨cx5,q5⟩,kk5⟩;conv=>whnf
  obtain ⟨rm1,rm2,rm3,rm4,rm5,rm6,rm7⟩:=rank_more c3
  have rmf:c3.rank.first=c3.first:=by
   rw [CoreM.rank_eq];unfold CoreM.ranked;split
   ·rfl
   ·split <;> rfl
  have KK5:=kk4.trans (kk5.keeps (by simp):Keeps [o,o+1,oo] h4 h5)
  obtain ⟨d,hd⟩:∃ d,d=c3.rank:=⟨_,rfl⟩
  rw [← hd] at q5 rm1 rm2 rm3 rm4 rm5 rm6 rm7 rmf ty
  have lkd:DLk d:=lk3.same rm1 rm2 rmf
  have hrd:d.out.reads.length+d.reads.length≤1000000000:=by
   rw [rm4,p3,hro]
   rcases rm7 with e | e
   ·rw [e,r3];simp;omega
   ·rw [e];simp
  have sd:d.self=c.self:=rm3.trans s3
  refine Av ?_;conv=>whnf
  refine Aa rfl q5.str rfl ?_;conv=>whnf
  by_cases c5:d.state=2
  ·refine Ac (c5) ?_;conv=>whnf
   refine Aj (n:=6) (z:=1) (j:=m) (by omega) (by omega) rfl rfl ?_;conv=>whnf
   refine Aa rfl q5.str (hNx _ _) ?_;conv=>whnf
   by_cases c6:d.next.get x.src≤c.log.last.1
   ·refine Ac (c6) ?_;conv=>whnf
    have hn5:=nk3 x.src hx1 hx2
    rw [← rm6 c5] at hn5
    refine ACalls.mono (rsend_any ap ⟨_,q5⟩ lkd.lk.lo hx1 hx2 hn5.1 hn5.2 (by rw [rm4,p3];omega) lkd.lk.snap lkd.lk.room) ?_;rintro _ h6 ⟨rfl,k6,kk6⟩;conv=>whnf
    obtain ⟨z1,z2,z3,z4⟩:=send_same d x.src
    obtain ⟨y1,y2,y3,y4,y5,y6,y7,y8⟩:=send_more d x.src
    have hrs:(d.send x.src).out.reads=d.out.reads:=by unfold CoreM.send;split <;> rfl
    exact ⟨_,d.send x.src,Au ⟨rfl,trivial⟩,by rw [ty];exact congrArg CoreM.confirm (if_pos ⟨c5,c6⟩),k6,lkd.same z1 z3 y8,y1.trans sd,by rw [hrs,y7];exact hrd,KK5.trans (kk6.mono (by simp))⟩
   ·refine Ad (c6) ?_;conv=>whnf
    exact ⟨_,d,Au ⟨rfl,trivial⟩,by rw [ty];exact congrArg CoreM.confirm (if_neg fun c=>c6 c.2),⟨_,q5⟩,lkd,sd,hrd,KK5⟩
  ·refine Ad (c5) ?_;conv=>whnf
   exact ⟨_,d,Au ⟨rfl,trivial⟩,by rw [ty];exact congrArg CoreM.confirm (if_neg fun c=>c5 c.1),⟨_,q5⟩,lkd,sd,hrd,KK5⟩
 | false =>
  rw [hy] at hY
  have tn:=CoreM.told_no (c:=c) (p:=x.abs) fun c=>by have:=hY.2 c;cases this
  conv=>whnf
  refine Av ?_;conv=>whnf
  refine Am (h2) [24] (Sub.refl _) (by decide +kernel) ?_;conv=>whnf
  refine Aj (n:=6) (z:=1) (j:=m) (by omega) (by omega) rfl rfl ?_;conv=>whnf
  refine Aa rfl q2.str (hNx _ _) ?_;conv=>whnf
  rw [f3]
  refine Ag (by omega) (by omega) (rfl) ?_;conv=>whnf
  refine Aa rfl k12 rfl ?_;conv=>whnf
  refine Ag (by omega) (by omega) (rfl) ?_;conv=>whnf
  refine Aq (show _=minI (c.next.get x.src-1) (x.index+1) from rfl) ?_;conv=>whnf
  refine Aj (n:=6) (z:=1) (j:=m) (by omega) (by omega) rfl rfl ?_;conv=>whnf
  refine Aa rfl q2.str (hMt _ _) ?_;conv=>whnf
  rw [f2]
  refine Ag (by omega) (by omega) (rfl) ?_;conv=>whnf
  refine Aq (show _=maxI (minI (c.next.get x.src-1) (x.index+1)) (c.mtch.get x.src+1) from rfl) ?_;conv=>whnf
  refine Aj (n:=6) (z:=1) (j:=m) (by omega) (by omega) rfl rfl ?_;conv=>whnf
  refine Af rfl rfl rfl q2.str (lt (hNx _ _)) (coreCells (c.told4 x.abs) cx) (by rw [show 0+14+1+m*1=15+x.src.toNat by omega];rw [next_set c1 cx hx1 hx2 _,hc1];rfl) fun h3 t3 k3 a3 e3=>?_;conv=>whnf
  have q3:=q2.set' (c':=c.told4 x.abs) ap.a t3 k3 (by rw [hc1];rfl) (by rw [hc1];rfl) (by rw [hc1];rfl) (by rw [hc1];rfl) (by rw [hc1];rfl) (by rw [hc1];rfl) (by rw [hc1];rfl)
  have kk3:=kk2.trans (t3.keep.keeps (by simp):Keeps [o,o+1,oo] h2 h3)
  obtain ⟨d,hd⟩:∃ d,d=c.told4 x.abs:=⟨_,rfl⟩
  have lkd:DLk d:=by rw [hd];exact lk.same rfl rfl rfl
  have nkd:0≤d.next.get x.src∧d.next.get x.src≤9007199254740992:=by
   rw [hd];show 0≤(c.next.set x.src _).get x.src∧(c.next.set x.src _).get x.src≤_
   rw [Five.get_set _ _ _ _ hx1 hx2,if_pos rfl]
   show 0≤maxI (minI (c.next.get x.src-1) (x.index+1)) (c.mtch.get x.src+1)∧maxI (minI (c.next.get x.src-1) (x.index+1)) (c.mtch.get x.src+1)≤_
   unfold maxI minI;split <;> split <;> omega
  have pd:d.out=c.out:=by rw [hd];rfl
  have rd:d.reads=c.reads:=by rw [hd];rfl
  have sd:d.self=c.self:=by rw [hd];rfl
  rw [← hd] at q3 tn
  refine ACalls.mono (rsend_any ap ⟨_,q3⟩ lkd.lk.lo hx1 hx2 nkd.1 nkd.2 (by rw [pd];omega) lkd.lk.snap lkd.lk.room) ?_;rintro _ h6 ⟨rfl,k6,kk6⟩;conv=>whnf
  obtain ⟨z1,z2,z3,z4⟩:=send_same d x.src
  obtain ⟨y1,y2,y3,y4,y5,y6,y7,y8⟩:=send_more d x.src
  have hrs:(d.send x.src).out.reads=d.out.reads:=by unfold CoreM.send;split <;> rfl
  exact ⟨_,d.send x.src,Au ⟨rfl,trivial⟩,tn,k6,lkd.same z1 z3 y8,y1.trans sd,by rw [hrs,y7,pd,rd,hro];simp;omega,kk3.trans (kk6.mono (by simp))⟩
theorem compact_has {c:CoreM} {i t:Int} (h:c.has i t=true) (hi:c.log.bi<i):(c.log.compact i).1=0:=by
 unfold CoreM.has LG.term at h
 rw [if_neg (by omega)] at h
 unfold LG.compact
 cases hs:c.log.spot i with
 | some e=>rfl
 | none=>rw [hs] at h;simp at h
theorem rsnap_any {h:Heap} {p o oo:Nat} {c:CoreM} (ap:Apart o oo) (k:RCore h p o oo c) (lo:LOk c.log) (hbc:c.log.bi≤c.commit) (x:PH) (g:Given h o oo x) (hb:okBase x.si x.st=true) (hdn:x.d.n≤140737488355328)
  (hroom:c.log.es.length*48≤140737488355328) (hp:c.out.posts.length≤1000000000) :
  ACalls PR 98 #[Ptr p, .agg x.cells.toArray] h (fun v h'=>v = .tuple #[]∧RCore h' p o oo (c.install x.abs)∧Keeps [o,o+1,oo] h h'):=by
 obtain ⟨cx,k⟩:=k
 refine At mix Tryz.func98 rfl rfl Tryz.ntmps98 Tryz.results98 rfl ?_;conv=>whnf
 refine Al (0,1) (x.cells) rfl fun b1 h1 n1 s1 k1=>?_;conv=>whnf
 refine Ab rfl k1 rfl rfl ?_;conv=>whnf
 refine Ak (0,1) ([I 0,I 0,I 0, .slice none 0 0]) rfl fun b4 h2 n2 s2 k2=>?_;conv=>whnf
 refine Ae rfl rfl rfl (k2) rfl ([I x.si,I x.st,I x.sc, .slice x.d.a x.d.n x.d.c]) rfl fun h3 t3 k4 a3 e3=>?_;conv=>whnf
 have b14:b1≠b4:=fun c=>by rw [c,n2] at k1;cases k1
 have k13:=e3 _ _ b14 (s2 _ _ k1)
 have hb4:h b4=none:=by
  cases e:h b4 with
  | none=>rfl
  | some y=>rw [s1 _ _ e] at n2;cases n2
 have s3:Sub h h3:=a3 h (s1.trans s2) hb4
 have q:=k.sub s3
 have g3:=g.sub s3
 clear s1 s2 k1 k2 n1 n2 t3 a3 e3
 refine Av ?_;conv=>whnf
 refine Av ?_;conv=>whnf
 refine Am (h3) [] (Sub.refl _) (by decide +kernel) ?_;conv=>whnf
 refine Aa rfl k4 rfl ?_
 refine Aa rfl q.str rfl ?_;conv=>whnf
 by_cases c1:x.si≤c.commit
 ·refine Ac (c1) ?_;conv=>whnf
  rw [CoreM.install_no (p:=x.abs) (by show ¬ c.commit<x.si;omega)]
  refine Av ?_;conv=>whnf
  refine Am (h3) [10] (Sub.refl _) (by decide +kernel) ?_;conv=>whnf
  refine Aa rfl k13 rfl ?_
  refine Aa rfl q.str rfl ?_
  refine Aa rfl k13 rfl ?_;conv=>whnf
  refine ACalls.mono (rsay_any ap.a ap.b ap.c ap.d ⟨_,q⟩ x.src {post1 with kind:=6,dst:=x.src,index:=c.commit,hint:=x.hint} rfl (made0 rfl rfl rfl rfl) hp) ?_;rintro _ hB ⟨rfl,kB,kkB⟩;conv=>whnf
  exact ⟨rfl,kB,(s3.keeps _).trans (kkB.mono (by simp))⟩
 refine Ad (c1) ?_;conv=>whnf
 rw [CoreM.install_yes (p:=x.abs) (by show c.commit<x.si;omega)]
 obtain ⟨L,hL⟩:∃ L,L=(if c.has x.abs.snap.index x.abs.snap.term=true∧(c.log.compact x.abs.snap.index).1=0 then (c.log.compact x.abs.snap.index).2 else lnew x.abs.snap.index x.abs.snap.term):=⟨_,rfl⟩
 rw [← hL]
 refine AIf.cut (fun e h'=>∃ e0 lp,e=updL 93 e0 [(0,Ptr p),(3,Ptr b1),(4,Ptr b4)]∧h' p=some (row (o,0) (coreCells {c with log:=L} {cx with log:=lp}) 98)∧RL h' lp (o+1) L∧∀ b (t:Tag) y,t≠(o,0)→t.1≠o+1→h3 b=some (t,y)→h' b=some (t,y)) ?_ ?_
 ·conv=>whnf
  refine Av ?_;conv=>whnf
  refine Am (h3) [] (Sub.refl _) (by decide +kernel) ?_;conv=>whnf
  refine Aa rfl q.str rfl ?_
  refine Aa rfl k4 rfl ?_
  refine Aa rfl k4 rfl ?_;conv=>whnf
  have hcall:ACalls PR 161 #[Ptr cx.log,I x.si,I x.st] h3 (fun v h'=>v = .bool (c.has x.si x.st)∧h3=h'):=rHas_c q.log lo x.si x.st
  cases hh:c.has x.si x.st with
  | true =>
   rw [hh] at hcall
   refine C2 (hcall) ?_;conv=>whnf
   refine ⟨Sub.refl _,?_⟩;conv=>whnf
   refine Am (h3) [6] (Sub.refl _) (by decide +kernel) ?_;conv=>whnf
   refine Aa rfl q.str rfl ?_
   refine Aa rfl k4 rfl ?_;conv=>whnf
   refine ACalls.mono (rCompact_c (by omega) q.log lo x.si hroom) ?_;rintro _ h4 ⟨rfl,l4,kk4⟩;conv=>whnf
   have hL2:L=(c.log.compact x.si).2:=hL.trans (if_pos ⟨hh,compact_has hh (by show c.log.bi<x.si;omega)⟩)
   exact ⟨_,cx.log,Au ⟨rfl,rfl,rfl,trivial⟩,kk4.get (by simp) q.str,by rw [hL2];exact l4,fun b t y _ ht e=>kk4 _ _ _ ht e⟩
  | false =>
   rw [hh] at hcall
   refine C2 (hcall) ?_;conv=>whnf
   refine ⟨Sub.refl _,?_⟩;conv=>whnf
   refine Aa rfl k4 rfl ?_
   refine Aa rfl k4 rfl ?_;conv=>whnf
   refine ACalls.mono (rNew_c h3 (o+1) (by omega) x.si x.st) ?_
   rintro v h4 (⟨_,lp,rfl,l4,s4⟩ | ⟨hb',_⟩)
   ·conv=>whnf
    refine Af rfl rfl rfl ((s4 _ _ q.str)) rfl (coreCells {c with log:=L} {cx with log:=lp}) rfl fun h5 t5 q5 a5 e5=>?_;conv=>whnf
    have hLn:L=lnew x.si x.st:=hL.trans (if_neg fun c=>by have:=hh.symm.trans c.1;cases this)
    exact ⟨_,lp,Au ⟨rfl,rfl,rfl,trivial⟩,q5,by rw [hLn];exact KeepT.log l4 t5,fun b t y ht _ e=>t5 _ _ _ ht (s4 _ _ e)⟩
   ·rw [hb] at hb';cases hb'
 rintro e h5 ⟨e0,lp,rfl,q5,l5,mv⟩
 have ne1:∀ {r s:Nat},((0,r):Tag)≠(o,s):=fun c=>ap.c (congrArg Prod.fst c).symm
 have k45:=mv _ _ _ ne1 (by simp) k4
 have k15:=mv _ _ _ ne1 (by simp) k13
 obtain ⟨⟨t1,t2,t3,ok,tn1,tn2,tn3⟩,_,_,_,_⟩:=g3
 have tn3':t3.1≠o∧t3.1≠o+1∧t3.1≠oo:=by simpa using tn3
 have ok5:Sl h5 t3 x.d.a x.d.n x.d.c 1 (bytesV x.data):=ok.sd.move fun _ _ e=>mv _ _ _ (fun c=>tn3'.1 (by rw [c])) tn3'.2.1 e
 conv=>whnf
 refine Ab rfl k45 rfl rfl ?_;conv=>whnf
 refine Ae rfl rfl rfl (q5) rfl (coreCells {c with snap:=⟨x.si,x.st,x.sc,x.data⟩,log:=L} {cx with log:=lp,sd:=x.d}) rfl fun h6 t6 k6 a6 e6=>?_;conv=>whnf
 have k46:=t6.get ne1 k45
 refine Aa rfl k46 rfl ?_;conv=>whnf
 refine ACalls.mono (copyB_any h6 (o,3) (ok5.keepT t6 (fun c=>tn3'.1 (by rw [c]))) hdn) ?_
 rintro _ h7 ⟨a7,c7,rfl,ow7,s7⟩
 conv=>whnf
 refine Af rfl rfl rfl ((s7 _ _ k6)) rfl (coreCells {c with snap:=⟨x.si,x.st,x.sc,x.data⟩,log:=L} {cx with log:=lp,sd:=⟨a7,x.d.n,c7⟩}) rfl fun h8 t8 k8 a8 e8=>?_;conv=>whnf
 have k48:=t8.get ne1 (s7 _ _ k46)
 refine Aa rfl k48 rfl ?_;conv=>whnf
 refine Af rfl rfl rfl (k8) rfl (coreCells {c with snap:=⟨x.si,x.st,x.sc,x.data⟩,log:=L,commit:=x.si} {cx with log:=lp,sd:=⟨a7,x.d.n,c7⟩}) rfl fun h9 t9 k9 a9 e9=>?_;conv=>whnf
 have k49:=t9.get ne1 k48
 refine Ab rfl k49 rfl rfl ?_;conv=>whnf
 refine Ae rfl rfl rfl (k9) rfl (coreCells (c.installed ⟨x.si,x.st,x.sc,x.data⟩ L) {cx with log:=lp,sd:=⟨a7,x.d.n,c7⟩,ox:={cx.ox with od:=x.d}}) rfl fun hA tA kA aA eA=>?_;conv=>whnf
 have k4A:=tA.get ne1 k49
 have tt:=t8.trans (t9.trans tA)
 refine Aa rfl k4A rfl ?_;conv=>whnf
 have go:∀ (t:Tag) b y,t≠(o,0)→h5 b=some (t,y)→hA b=some (t,y):=fun t b y ht e=>tt _ _ _ ht (s7 _ _ (t6 _ _ _ ht e))
 refine ACalls.mono (copyB_any hA (oo,6) (ok5.move fun _ _ e=>go _ _ _ (fun c=>tn3'.1 (by rw [c])) e) hdn) ?_
 rintro _ hB ⟨aB,cB,rfl,owB,sB⟩
 conv=>whnf
 refine Af rfl rfl rfl ((sB _ _ kA)) rfl (coreCells (c.installed ⟨x.si,x.st,x.sc,x.data⟩ L) {cx with log:=lp,sd:=⟨a7,x.d.n,c7⟩,ox:={cx.ox with od:=⟨aB,x.d.n,cB⟩}}) rfl fun hC tC kC aC eC=>?_;conv=>whnf
 have go2:∀ (t:Tag) b y,t≠(o,0)→h5 b=some (t,y)→hC b=some (t,y):=fun t b y ht e=>tC _ _ _ ht (sB _ _ (go _ _ _ ht e))
 have go3:∀ (t:Tag) b y,t≠(o,0)→t.1≠o+1→h3 b=some (t,y)→hC b=some (t,y):=fun t b y ht hn e=>go2 _ _ _ ht (mv _ _ _ ht hn e)
 have neo:∀ r s:Nat,((oo,r):Tag)≠(o,s):=fun r s c=>ap.a (congrArg Prod.fst c).symm
 have nep:∀ r:Nat,((oo,r):Tag).1≠o+1:=fun r c=>ap.b c.symm
 have o5:=q.out
 have qC:RX hC p o oo (c.installed ⟨x.si,x.st,x.sc,x.data⟩ L) {cx with log:=lp,sd:=⟨a7,x.d.n,c7⟩,ox:={cx.ox with od:=⟨aB,x.d.n,cB⟩}}:=by
  refine ⟨kC,((ow7.keepT tt (by simp)).sub sB).keepT tC (by simp),Moves.move l5 fun b t y ht e=>go2 t b y (fun c=>by rw [c] at ht;simp at ht) e,q.rd.move fun b y e=>go3 _ b y (by simp) (by simp) e,?_⟩
  refine ⟨owB.keepT tC (neo 6 0),o5.oe.move fun b y e=>go3 _ b y (neo 1 0) (nep 1) e,fun y hy=>Own.move (o5.ed y hy) fun b y e=>go3 _ b y (neo 2 0) (nep 2) e,o5.ea,o5.es,o5.op.move fun b y e=>go3 _ b y (neo 3 0) (nep 3) e,fun i y hy=>(o5.ps i y hy).move fun b t z ht hr e=>go3 t b z (fun c=>by rw [c] at ht;exact ap.a ht) (by rw [ht];exact ap.b.symm) e,o5.pa,o5.qr.move fun b y e=>go3 _ b y (neo 7 0) (nep 7) e⟩
 have kkC:Keeps [o,o+1,oo] h hC:=(s3.keeps _).trans fun b t y ht e=>go3 t b y (fun c=>ht (by rw [c];simp)) (fun c=>ht (by rw [c];simp)) e
 have k1C:=go2 _ _ _ ne1 k15
 have k4C:=go2 _ _ _ ne1 k45
 refine Aa rfl k1C rfl ?_
 refine Aa rfl k4C rfl ?_
 refine Aa rfl k1C rfl ?_;conv=>whnf
 refine ACalls.mono (rsay_any ap.a ap.b ap.c ap.d ⟨_,qC⟩ x.src {post1 with kind:=6,dst:=x.src,index:=x.si,hint:=x.hint} rfl (made0 rfl rfl rfl rfl) hp) ?_;rintro _ hD ⟨rfl,kD,kkD⟩;conv=>whnf
 exact ⟨rfl,kD,kkC.trans (kkD.mono (by simp))⟩
def CoreM.cutIf (c:CoreM) (e:Abs):CoreM:=if (c.log.term e.2.1).2=0 then {c with log:=(c.log.cut e.2.1).2,out:={c.out with cut:=e.2.1}} else c
def CoreM.push (c:CoreM) (e:Abs):CoreM:={c with log:=(c.log.append [e]).2,out:={c.out with entries:=c.out.entries++[e]}}
def CoreM.step1 (c:CoreM) (e:Abs):CoreM:=if c.has e.2.1 e.1=true then c else (c.cutIf e).push e
theorem term_out {L:LG} {i:Int} (h:L.bi+L.es.length<i):L.term i=(0,9):=by
 unfold LG.term LG.spot
 rw [if_neg (by omega),if_pos (by omega),List.getElem?_eq_none (by omega)]
theorem term_in {L:LG} {i:Int} (h0:L.bi≤i) (h:i≤L.bi+L.es.length):(L.term i).2=0:=by
 unfold LG.term LG.spot
 by_cases c:i=L.bi
 ·rw [if_pos c]
 ·rw [if_neg c,if_pos (by omega)]
  have:(i-L.bi-1).toNat<L.es.length:=by omega
  rw [List.getElem?_eq_getElem this]
theorem has_in {c:CoreM} {i t:Int} (h:c.has i t=true):c.log.bi≤i∧i≤c.log.bi+c.log.es.length:=by
 unfold CoreM.has at h
 have h:=(of_decide_eq_true h).1
 by_cases a:c.log.bi≤i
 ·refine ⟨a,?_⟩
  by_cases b:i≤c.log.bi+c.log.es.length
  ·exact b
  ·rw [term_out (by omega)] at h;cases h
 ·unfold LG.term LG.spot at h
  rw [if_neg (by omega),if_neg (by omega)] at h;cases h
theorem last_at {L:LG} (lo:LOk L) {i t:Int} (hb:L.bi≤i) (hl:(L.es.length:Int)=i-L.bi) (ht:(L.term i).1=t):L.last=(i,t):=by
 unfold LG.last
 unfold LG.term at ht
 by_cases c:i=L.bi
 ·rw [if_pos c] at ht
  have:L.es=[]:=List.eq_nil_of_length_eq_zero (by omega)
  rw [this]
  exact Prod.ext c.symm ht
 ·rw [if_neg c] at ht
  unfold LG.spot at ht
  rw [if_pos (by omega)] at ht
  rw [List.getLast?_eq_getElem?,show L.es.length-1=(i-L.bi-1).toNat by omega]
  cases hs:L.es[(i-L.bi-1).toNat]? with
  | none=>rw [List.getElem?_eq_none_iff] at hs;omega
  | some e =>
   rw [hs] at ht
   have:=lo.idx _ e hs
   exact Prod.ext (by show e.2.1=i;omega) ht
theorem aapp_cons {m:Int×Int} {e:Abs} {r:List Abs} (h:aapp m (e::r)=0):achk e m=0∧aapp (e.2.1,e.1) r=0:=by
 unfold aapp at h
 split at h
 ·exact ⟨by assumption,h⟩
 ·rename_i c;exact absurd h c
theorem achk_next {m:Int×Int} {e:Abs} (h:achk e m=0):e.2.1=m.1+1:=by
 unfold achk at h
 split at h
 ·cases h
 ·split at h
  ·cases h
  ·rename_i a b;exact Classical.not_not.1 b
theorem append_one {L:LG} {e:Abs} {m:Int×Int} (hm:L.last=m) (h:achk e m=0):L.append [e]=(0,{L with es:=L.es++[e]}):=by
 unfold LG.append aapp
 rw [hm,if_pos h];rfl
theorem steps_tail:∀ (r:List Abs) (c:CoreM) (m:Int×Int),LOk c.log→c.log.last=m→aapp m r=0 →
  r.foldl CoreM.step1 c={c with log:={c.log with es:=c.log.es++r},out:={c.out with entries:=c.out.entries++r}}
 | [],c,m,_,_,_=>by simp
 | e::r,c,m,lo,hm,ha=>by
  obtain ⟨h1,h2⟩:=aapp_cons ha
  have hx:=achk_next h1
  have hl:=lo.last
  rw [hm] at hl
  have hl1:m.1=c.log.bi+c.log.es.length:=hl
  have ht:=term_out (L:=c.log) (i:=e.2.1) (by omega)
  have lo2:=lo.append [e]
  rw [List.foldl_cons]
  have e1:c.step1 e={c with log:={c.log with es:=c.log.es++[e]},out:={c.out with entries:=c.out.entries++[e]}}:=by
   unfold CoreM.step1
   rw [if_neg (by unfold CoreM.has;rw [ht];simp)]
   unfold CoreM.cutIf
   rw [ht,if_neg (by decide)]
   unfold CoreM.push
   rw [append_one hm h1]
  rw [append_one hm h1] at lo2
  rw [e1,steps_tail r _ (e.2.1,e.1) lo2 (by unfold LG.last;simp) h2]
  simp
theorem LG.cut_of {L:LG} {i:Int} (h1:L.bi<i) (h2:i≤L.bi+L.es.length+1):(L.cut i).2={L with es:=L.es.take (i-L.bi-1).toNat}:=by
 unfold LG.cut;rw [if_pos (by unfold LG.reach;simp;omega)]
theorem steps_all:∀ (l:List Abs) (c:CoreM) (i t:Int),LOk c.log→c.has i t=true→aapp (i,t) l=0→l.foldl CoreM.step1 c=c.appendRest l
 | [],c,i,t,_,_,_=>rfl
 | e::r,c,i,t,lo,hh,ha=>by
  obtain ⟨h1,h2⟩:=aapp_cons ha
  have hx:e.2.1=i+1:=achk_next h1
  obtain ⟨b1,b2⟩:=has_in hh
  have htt:(c.log.term i).1=t:=(of_decide_eq_true hh).2
  rw [List.foldl_cons]
  by_cases c1:c.has e.2.1 e.1=true
  ·have e1:c.step1 e=c:=if_pos c1
   rw [e1,steps_all r c e.2.1 e.1 lo c1 h2]
   unfold CoreM.appendRest
   have:c.log.fresh (e::r)=c.log.fresh r:=if_pos (of_decide_eq_true c1)
   rw [this]
  ·have hf:c.log.fresh (e::r)=e::r:=if_neg fun z=>c1 (decide_eq_true z)
   rw [appendRest_cons hf]
   have hcut:c.cutIf e=c.cutAt e:=by
    unfold CoreM.cutIf CoreM.cutAt
    rw [lo.last]
    by_cases z:e.2.1≤c.log.bi+c.log.es.length
    ·rw [if_pos (term_in (by omega) z),if_pos z]
    ·rw [term_out (by omega),if_neg (by decide),if_neg z]
   have e1:c.step1 e=(c.cutAt e).push e:=by unfold CoreM.step1;rw [if_neg c1,hcut]
   obtain ⟨d,hd⟩:∃ d,d=c.cutAt e:=⟨_,rfl⟩
   rw [e1,← hd]
   have hlo:LOk d.log∧d.log.last=(i,t):=by
    unfold CoreM.cutAt at hd
    rw [lo.last] at hd
    by_cases z:e.2.1≤c.log.bi+c.log.es.length
    ·rw [if_pos z] at hd
     have ec:=LG.cut_of (L:=c.log) (i:=e.2.1) (by omega) (by omega)
     have loc:=lo.cut e.2.1
     rw [ec] at loc
     have el:d.log={c.log with es:=c.log.es.take (e.2.1-c.log.bi-1).toNat}:=by rw [hd];exact ec
     rw [el]
     refine ⟨loc,last_at loc b1 (by simp only [List.length_take];omega) ?_⟩
     rw [← htt]
     unfold LG.term
     by_cases y:i=c.log.bi
     ·rw [if_pos y,if_pos y]
     ·rw [if_neg y,if_neg y]
      unfold LG.spot
      rw [if_pos (by show c.log.bi<i;omega),if_pos (by omega),List.getElem?_take,if_pos (by show (i-c.log.bi-1).toNat<(e.2.1-c.log.bi-1).toNat;omega)]
    ·rw [if_neg z] at hd
     rw [hd]
     exact ⟨lo,last_at lo b1 (by omega) htt⟩
   obtain ⟨l1,l2⟩:=hlo
   have lp:=l1.append [e]
   rw [append_one l2 h1] at lp
   have ep:d.push e={d with log:={d.log with es:=d.log.es++[e]},out:={d.out with entries:=d.out.entries++[e]}}:=by
    unfold CoreM.push;rw [append_one l2 h1]
   rw [ep,steps_tail r _ (e.2.1,e.1) lp (by unfold LG.last;simp) h2]
   have ea:d.log.append (e::r)=(0,{d.log with es:=d.log.es++e::r}):=by
    unfold LG.append;rw [l2,if_pos ha]
   rw [ea]
   simp
theorem aapp_may:∀ (l:List Abs) (top i t:Int),entriesMay top i t l=true→(∀ e∈l,1≤e.1)→top≤9007199254740991→0≤i→aapp (i,t) l=0
 | [],_,_,_,_,_,_,_=>rfl
 | e::r,top,i,t,h,h1,ht,hi=>by
  unfold entriesMay at h
  simp only [Bool.and_eq_true,decide_eq_true_iff,numB] at h
  obtain ⟨⟨⟨⟨⟨a1,a2⟩,a3⟩,a4⟩,a5⟩,a6⟩:=h
  have e1:=h1 e (by simp)
  have hz:achk e (i,t)=0:=by
   unfold achk
   have n1:isNum e.1=true:=isNum_iff.2 ⟨e1,by omega⟩
   have n2:isNum e.2.1=true:=isNum_iff.2 ⟨by omega,a2.2⟩
   rw [if_neg (by rw [n1,n2];simp;omega),if_neg (by rw [a1];simp),if_neg (by show ¬ e.1<t;omega)]
  unfold aapp
  rw [if_pos hz]
  rw [show e.2.1=i+1 from a1]
  exact aapp_may r top (i+1) e.1 a6 (fun y hy=>h1 y (by simp [hy])) ht (by omega)
theorem aapp_low {l:List Abs} {i t t':Int} (h:aapp (i,t) l=0) (hl:headLow t' l=false):aapp (i,t') l=0:=by
 cases l with
 | nil=>rfl
 | cons e r =>
  obtain ⟨a,b⟩:=aapp_cons h
  have hl:¬ e.1<t':=by unfold headLow at hl;exact of_decide_eq_false hl
  unfold aapp
  rw [if_pos]
  ·exact b
  ·unfold achk at a ⊢
   split at a
   ·cases a
   ·rename_i c1
    rw [if_neg c1]
    split at a
    ·cases a
    ·rename_i c2
     rw [if_neg c2,if_neg hl]
theorem aapp_drop:∀ (k:Nat) (l:List Abs) (i t:Int),aapp (i,t) l=0→∃ t',aapp (i+k,t') (l.drop k)=0
 | 0,l,i,t,h=>⟨t,by simpa using h⟩
 | k+1,[],i,t,h=>⟨0,by simp [aapp]⟩
 | k+1,e::r,i,t,h=>by
  obtain ⟨a,b⟩:=aapp_cons h
  have hx:e.2.1=i+1:=achk_next a
  obtain ⟨t',h'⟩:=aapp_drop k r e.2.1 e.1 b
  exact ⟨t',by rw [List.drop_succ_cons,show i+((k+1:Nat):Int)=e.2.1+k by omega];exact h'⟩
theorem aapp_list {c:CoreM} {p:PostM} (hm:entriesMay p.term p.index p.logTerm p.entries=true) (h1:∀ e∈p.entries,1≤e.1) (ht:p.term≤9007199254740991) (hi:0≤p.index) (hl:headLow (aTerm c p) (aList c p)=false):aapp (aIndex c p,aTerm c p) (aList c p)=0:=by
 have h:=aapp_may _ _ _ _ hm h1 ht hi
 unfold aIndex aList aTerm at *
 by_cases z:p.index<c.log.bi
 ·rw [if_pos z] at hl ⊢
  rw [if_pos z] at hl ⊢
  rw [if_pos z]
  obtain ⟨t',h'⟩:=aapp_drop (c.log.bi-p.index).toNat _ _ _ h
  rw [show p.index+((c.log.bi-p.index).toNat:Int)=c.log.bi by omega] at h'
  exact aapp_low h' hl
 ·rw [if_neg z] at hl ⊢
  rw [if_neg z] at hl ⊢
  rw [if_neg z]
  exact h
theorem step1_same (c:CoreM) (e:Abs):(c.step1 e).out.posts=c.out.posts∧(c.step1 e).out.entries.length≤c.out.entries.length+1∧(c.step1 e).log.es.length≤c.log.es.length+1∧(c.step1 e).commit=c.commit∧(c.step1 e).self=c.self:=by
 unfold CoreM.step1
 split
 ·exact ⟨rfl,by omega,by omega,rfl,rfl⟩
 ·have h1:(c.cutIf e).out.posts=c.out.posts∧(c.cutIf e).out.entries=c.out.entries∧(c.cutIf e).log.es.length≤c.log.es.length∧(c.cutIf e).commit=c.commit∧(c.cutIf e).self=c.self:=by
   unfold CoreM.cutIf
   split
   ·refine ⟨rfl,rfl,?_,rfl,rfl⟩
    show (c.log.cut e.2.1).2.es.length≤_
    unfold LG.cut;split
    ·simp only [List.length_take];omega
    ·exact Nat.le_refl _
   ·exact ⟨rfl,rfl,Nat.le_refl _,rfl,rfl⟩
  obtain ⟨a,b,d,e1,e2⟩:=h1
  refine ⟨a,?_,?_,e1,e2⟩
  ·show ((c.cutIf e).out.entries++[e]).length≤_;rw [b];simp
  ·show ((c.cutIf e).log.append [e]).2.es.length≤_
   unfold LG.append;split
   ·simp only [List.length_append,List.length_cons,List.length_nil];omega
   ·show (c.cutIf e).log.es.length≤_;omega
theorem step1_lo {c:CoreM} (lo:LOk c.log) (e:Abs):LOk (c.step1 e).log:=by
 unfold CoreM.step1
 split
 ·exact lo
 ·refine LOk.append ?_ [e]
  unfold CoreM.cutIf
  split
  ·exact lo.cut _
  ·exact lo
theorem rentries_any {h:Heap} {p o oo:Nat} {c:CoreM} (ap:Apart o oo) (k:RCore h p o oo c) (lo:LOk c.log) (x:PH) (g:Given h o oo x) (hx0:0≤x.index) (hx1:x.index≤9007199254740991) (he:x.es.length≤8) (hsm:∀ e∈x.es,e.n≤1200)
  (hm:entriesMay x.term x.index x.logTerm (x.es.map EH.abs)=true) (ht1:∀ e∈x.es,1≤e.term) (htm:x.term≤9007199254740991)
  (hroom:(c.log.es.length+8)*48≤140737488355328) (hoe:c.out.entries.length≤1000000) (hp:c.out.posts.length≤1000000000) :
  ACalls PR 97 #[Ptr p, .agg x.cells.toArray] h (fun v h'=>v = .tuple #[]∧RCore h' p o oo (c.append x.abs)∧Keeps [o,o+1,oo] h h'):=by
 obtain ⟨cx,k⟩:=k
 have hlo:=lo.lo
 have htop:=lo.top
 have hlast:=lo.last
 obtain ⟨⟨t1,t2,t3,ok,tn1,tn2,tn3⟩,hby,_,_,hn1⟩:=g
 have hxl:x.es.length=x.e.n:=ok.len.1
 rw [CoreM.append_eq]
 refine At mix Tryz.func97 rfl rfl Tryz.ntmps97 Tryz.results97 rfl ?_;conv=>whnf
 refine Al (0,1) (x.cells) rfl fun b3 h2 n2 s2 k3=>?_;conv=>whnf
 have q:=k.sub s2
 have X2:=ok.es.sub s2
 clear n2
 obtain ⟨stop,hstop⟩:∃ stop:Int,stop=x.index+x.e.n:=⟨_,rfl⟩
 refine Aa rfl k3 rfl ?_
 refine Aa rfl k3 rfl ?_;conv=>whnf
 refine Ag (by omega) (by omega) (rfl) ?_;conv=>whnf
 rw [← hstop]
 refine Av ?_;conv=>whnf
 refine Am (h2) [] (Sub.refl _) (by decide +kernel) ?_;conv=>whnf
 refine Aa rfl k3 rfl ?_
 refine Aa rfl k3 rfl ?_
 refine Aa rfl k3 rfl ?_
 refine Aa rfl q.str rfl ?_;conv=>whnf
 refine C2 (rFirst_c q.log lo) ?_;conv=>whnf
 refine Ag (r':=c.log.bi) (by omega) (by omega) (by omega) ?_;conv=>whnf
 obtain ⟨li,hli⟩:∃ li,li=aIndex c x.abs:=⟨_,rfl⟩
 obtain ⟨lt,hlt⟩:∃ lt,lt=aTerm c x.abs:=⟨_,rfl⟩
 have hap:=aapp_list (c:=c) (p:=x.abs) hm (fun e he=>by obtain ⟨y,hy,rfl⟩:=List.mem_map.1 he;exact ht1 y hy) htm hx0
 rw [← hli,← hlt] at hap
 rw [← hli,← hlt]
 have hli2:0≤li∧li≤9007199254740991:=by
  rw [hli];unfold aIndex;split
  ·omega
  ·exact ⟨hx0,hx1⟩
 refine AIf.cut (fun e h'=>∃ e0 la ln lc les,e=updL 189 e0 [(0,Ptr p),(3,Ptr b3),(4,I stop),(5,I li),(6,I lt),(7, .slice la ln lc)]∧h2=h'∧Ents h2 t1 t2 la ln lc les∧les.map EH.abs=aList c x.abs∧(∀ y∈les,y.n≤1200)∧ln≤8) ?_ ?_
 ·conv=>whnf
  by_cases c1:x.index<c.log.bi
  ·refine Ac (c1) ?_;conv=>whnf
   have e1:li=c.log.bi:=by rw [hli];exact if_pos c1
   have e2:lt=c.log.bt:=by rw [hlt];exact if_pos c1
   obtain ⟨kd,hkd⟩:∃ kd:Nat,kd=if (c.log.bi-x.index).toNat<x.e.n then (c.log.bi-x.index).toNat else x.e.n:=⟨_,rfl⟩
   have hkd1:kd≤x.e.n:=by rw [hkd];split <;> omega
   have hdrop:aList c x.abs=(x.es.drop kd).map EH.abs:=by
    rw [show aList c x.abs=(x.es.map EH.abs).drop (c.log.bi-x.index).toNat from if_pos c1,← List.map_drop,hkd]
    split
    ·rfl
    ·rw [List.drop_of_length_le (by omega),List.drop_of_length_le (by omega)]
   refine Ag (by omega) (by omega) (rfl) ?_;conv=>whnf
   refine Aq (show _=(kd:Int) from ?_) ?_
   ·rw [hkd];split <;> split <;> omega
   conv=>whnf
   refine ASlc.from (z:=4) (l:=kd) rfl hkd1 X2.sl.le rfl rfl ?_;conv=>whnf
   refine Aa rfl q.str rfl ?_;conv=>whnf
   refine C2 (rTerm_c q.log lo c.log.bi) ?_;conv=>whnf
   rw [show (c.log.term c.log.bi).1=c.log.bt by unfold LG.term;rw [if_pos rfl]]
   exact ⟨_,_,_,_,x.es.drop kd,Au ⟨rfl,rfl,rfl,congrArg I e1.symm,congrArg I e2.symm,rfl,trivial⟩,rfl,X2.from hkd1,hdrop.symm,fun e he=>hsm e (List.mem_of_mem_drop he),by omega⟩
  ·refine Ad (c1) ?_;conv=>whnf
   exact ⟨_,_,_,_,x.es,Au ⟨rfl,rfl,rfl,congrArg I (by rw [hli];exact (if_neg c1).symm),congrArg I (by rw [hlt];exact (if_neg c1).symm),rfl,trivial⟩,rfl,X2,(if_neg c1).symm,hsm,by omega⟩
 rintro e _ ⟨e0,la,ln,lc,les,rfl,rfl,XL,hal,hls,hl8⟩
 have hll:les.length=ln:=XL.len
 rw [← hal] at hap ⊢
 conv=>whnf
 refine Av ?_;conv=>whnf
 refine AIf.cut (fun e h'=>∃ e0,e=updL 189 e0 [(0,Ptr p),(3,Ptr b3),(4,I stop),(5,I li),(7, .slice la ln lc),(75, .bool (!c.has li lt || headLow lt (les.map EH.abs)))]∧h2=h') ?_ ?_
 ·conv=>whnf
  refine Aa rfl q.str rfl ?_;conv=>whnf
  have hcall:ACalls PR 161 #[Ptr cx.log,I li,I lt] h2 (fun v h'=>v = .bool (c.has li lt)∧h2=h'):=rHas_c q.log lo li lt
  cases hh:c.has li lt with
  | false =>
   rw [hh] at hcall
   refine C2 (hcall) ?_;conv=>whnf
   exact ⟨_,Au ⟨rfl,rfl,rfl,rfl,rfl,rfl,trivial⟩,rfl⟩
  | true =>
   rw [hh] at hcall
   refine C2 (hcall) ?_;conv=>whnf
   by_cases hln:ln=0
   ·refine Ad ((by omega)) ?_;conv=>whnf
    exact ⟨_,Au ⟨rfl,rfl,rfl,rfl,rfl,congrArg Value.bool (by rw [List.length_eq_zero_iff.1 (by omega:les.length=0)];rfl),trivial⟩,rfl⟩
   ·refine Ac ((by omega)) ?_;conv=>whnf
    obtain ⟨y0,yr,hyr⟩:∃ y0 r,les=y0::r:=by
     cases hc:les with
     | nil=>rw [hc] at hll;simp at hll;omega
     | cons z r=>exact ⟨z,r,rfl⟩
    obtain ⟨bg,og,lg,Eg,fzg,ega,hbg,hcg⟩:=XL.sl.pos (by omega)
    have gi:lg[og+0*4]? = some (I y0.term):=by
     rw [get_of_take hcg (by omega)]
     exact encs_get (show les[0]? = some y0 by rw [hyr];rfl) (show 0<4 by omega)
    rw [ega]
    refine Ai (n:=ln) (z:=4) (j:=0) rfl (by omega) rfl rfl ?_;conv=>whnf
    refine Aa rfl hbg gi ?_;conv=>whnf
    refine ACmp.dec ?_;conv=>whnf
    exact ⟨_,Au ⟨rfl,rfl,rfl,rfl,rfl,congrArg Value.bool (by rw [hyr];rfl),trivial⟩,rfl⟩
 rintro e _ ⟨e1,rfl,rfl⟩
 cases hB:(!c.has li lt || headLow lt (les.map EH.abs)) with
 | true =>
  rw [if_pos (by
   rcases Bool.or_eq_true_iff.1 hB with z | z
   ·exact .inl (by simpa using z)
   ·exact .inr z)]
  conv=>whnf
  refine C2 (rlast_any q lo) ?_;conv=>whnf
  refine Aa rfl k3 rfl ?_;conv=>whnf
  refine Ag (by omega) (by omega) (rfl) ?_;conv=>whnf
  refine Aq (rfl) ?_;conv=>whnf
  refine Aa rfl k3 rfl ?_;conv=>whnf
  refine ACalls.mono (rsay_any ap.a ap.b ap.c ap.d ⟨_,q⟩ x.src {post1 with kind:=4,dst:=x.src,index:=(if c.log.last.1<li-1 then c.log.last.1 else li-1),hint:=x.hint} rfl (made0 rfl rfl rfl rfl) hp) ?_;rintro _ hB ⟨rfl,kB,kkB⟩;conv=>whnf
  exact ⟨rfl,kB,(s2.keeps _).trans (kkB.mono (by simp))⟩
 | false =>
 obtain ⟨hb1,hb2⟩:=Bool.or_eq_false_iff.1 hB
 have hhas:c.has li lt=true:=by simpa using hb1
 rw [if_neg (by rw [hhas,hb2];simp)]
 have hap:=hap (by rw [← hlt,hal] at *;exact hb2)
 have hall:=steps_all (les.map EH.abs) c li lt lo hhas hap
 conv=>whnf
 refine ALoop.mk (fun e h'=>∃ e0,∃ j:Nat,∃ cj:CX,∃ d:CoreM,e=updL 189 e0 [(0,Ptr p),(3,Ptr b3),(4,I stop),(7, .slice la ln lc),(12,I j)]∧j≤ln∧d=((les.take j).map EH.abs).foldl CoreM.step1 c ∧
   RX h' p o oo d cj∧Keeps [o,o+1,oo] h h'∧h' b3=some (row (0,1) x.cells 49)∧Ents h' t1 t2 la ln lc les∧LOk d.log∧d.log.es.length≤c.log.es.length+j∧d.out.entries.length≤c.out.entries.length+j∧d.out.posts=c.out.posts) (fun e=>ln-natOf (e 12))
  ⟨_,0,cx,c,Au ⟨rfl,rfl,rfl,rfl,rfl,trivial⟩,by omega,rfl,q,s2.keeps _,k3,XL,lo,by omega,by omega,rfl⟩ ?_
 clear q k3 XL
 rintro e h6 ⟨e2,j,cj,d,rfl,hj,hd,q6,KK6,k36,X6,lod,hdl,hde,hdp⟩
 conv=>whnf
 refine Av ?_;conv=>whnf
 by_cases hjn:j<ln
 ·refine Ac (by omega) ?_;conv=>whnf
  obtain ⟨y,hy⟩:∃ y,les[j]? = some y:=⟨les[j]'(by omega),by simp⟩
  have my:=List.mem_of_getElem? hy
  have hyn:y.n≤1200:=hls y my
  have hsucc:((les.take (j+1)).map EH.abs).foldl CoreM.step1 c=d.step1 y.abs:=by
   rw [List.take_succ_eq_append_getElem (show j<les.length by omega),(List.getElem?_eq_some_iff.1 hy).2,List.map_append,List.foldl_append,← hd];rfl
  obtain ⟨sp1,sp2,sp3,_,_⟩:=step1_same d y.abs
  have slo:=step1_lo lod y.abs
  obtain ⟨bf,off,lf,Ef,fzf,efa,hbf,hcf⟩:=X6.sl.pos (by omega)
  have tf:t1≠(o,0)∧t1.1≠o+1∧t1.1≠oo:=⟨fun c=>tn1 (by rw [c];simp),fun c=>tn1 (by rw [c];simp),fun c=>tn1 (by rw [c];simp)⟩
  have g0:(lf.drop (off+j*4)).take 4=y.cells:=by rw [part_of_take hcf (by omega),encs_part hy]
  have gI:lf[off+j*4+1]? = some (I y.index):=by have:=congrArg (fun q:List Value=>q[1]?) g0;simpa [List.getElem?_take,List.getElem?_drop,EH.cells] using this
  have gT:lf[off+j*4]? = some (I y.term):=by have:=congrArg (fun q:List Value=>q[0]?) g0;simpa [List.getElem?_take,List.getElem?_drop,EH.cells] using this
  subst efa
  refine Av ?_;conv=>whnf
  refine Av ?_;conv=>whnf
  refine Am (h6) [] (Sub.refl _) (by decide +kernel) ?_;conv=>whnf
  refine Aa rfl q6.str rfl ?_;conv=>whnf
  refine Ai (n:=ln) (z:=4) (j:=j) rfl hjn rfl rfl ?_;conv=>whnf
  refine Aa rfl hbf gI ?_;conv=>whnf
  refine C2 (rTerm_c q6.log lod y.index) ?_;conv=>whnf
  refine ⟨Sub.refl _,?_⟩;conv=>whnf
  refine Av ?_;conv=>whnf
  refine Av ?_;conv=>whnf
  by_cases f0:(d.log.term y.index).2=0∧(d.log.term y.index).1=y.term
  ·
   refine Ac (f0.1) ?_;conv=>whnf
   refine Ai (n:=ln) (z:=4) (j:=j) rfl hjn rfl rfl ?_;conv=>whnf
   refine Aa rfl hbf gT ?_;conv=>whnf
   refine Ac (f0.2) ?_;conv=>whnf
   have e1:d.step1 y.abs=d:=if_pos (decide_eq_true f0)
   have QN:RX h6 p o oo (d.step1 y.abs) cj:=by rw [e1];exact q6
   refine Ag (by omega) (by omega) ((by omega:(j:Int)+1=((j+1:Nat):Int))) ?_;conv=>whnf
   refine ⟨⟨_,j+1,_,d.step1 y.abs,Au ⟨rfl,rfl,rfl,rfl,rfl,trivial⟩,by omega,hsucc.symm,QN,KK6,k36,X6,slo,by omega,by omega,sp1.trans hdp⟩,?_⟩
   show ln-(j+1)<ln-j
   omega
  ·have e1:d.step1 y.abs=(d.cutIf y.abs).push y.abs:=if_neg fun z=>f0 (of_decide_eq_true z)
   by_cases z0:(d.log.term y.index).2=0
   ·refine Ac (z0) ?_;conv=>whnf
    refine Ai (n:=ln) (z:=4) (j:=j) rfl hjn rfl rfl ?_;conv=>whnf
    refine Aa rfl hbf gT ?_;conv=>whnf
    refine Ad ((fun c=>f0 ⟨z0,c⟩)) ?_;conv=>whnf
    refine AIf.cut (fun e h'=>∃ e0 g,e=updL 189 e0 [(0,Ptr p),(3,Ptr b3),(4,I stop),(7, .slice (some ⟨bf,off,none⟩) ln lc),(12,I j)]∧g=d.cutIf y.abs∧RX h' p o oo g cj∧Keeps [o,o+1,oo] h6 h') ?_ ?_
    ·conv=>whnf
     by_cases z0:(d.log.term y.index).2=0
     ·refine Ac (z0) ?_;conv=>whnf
      have eg:d.cutIf y.abs={d with log:=(d.log.cut y.index).2,out:={d.out with cut:=y.index}}:=if_pos z0
      refine Av ?_;conv=>whnf
      refine Am (h6) [9] (Sub.refl _) (by decide +kernel) ?_;conv=>whnf
      refine Aa rfl q6.str rfl ?_;conv=>whnf
      refine Ai (n:=ln) (z:=4) (j:=j) rfl hjn rfl rfl ?_;conv=>whnf
      refine Aa rfl hbf gI ?_;conv=>whnf
      refine ACalls.mono (rCut_c (by omega) q6.log lod y.index (by omega)) ?_;rintro _ h7 ⟨rfl,l7,kk7⟩;conv=>whnf
      have q7:=kk7.get (by simp) q6.str
      have hbf7:=kk7.get tf.2.1 hbf
      refine Ai (n:=ln) (z:=4) (j:=j) rfl hjn rfl rfl ?_;conv=>whnf
      refine Aa rfl hbf7 gI ?_;conv=>whnf
      refine Af rfl rfl rfl (q7) rfl (coreCells {d with log:=(d.log.cut y.index).2,out:={d.out with cut:=y.index}} cj) rfl fun h8 t8 k8 a8 e8=>?_;conv=>whnf
      refine ⟨_,_,Au ⟨rfl,rfl,rfl,rfl,rfl,trivial⟩,eg.symm,⟨k8,(q6.sd.move fun b y e=>kk7.get (by simp) e).keepT t8 (by simp),KeepT.log l7 t8,(q6.rd.move fun b y e=>kk7.get (by simp) e).keepT t8 (by simp),?_⟩,(kk7.keeps (by simp)).trans (t8.keep.keeps (by simp))⟩
      have z:=(q6.out.move fun b t y ht e=>kk7 _ _ _ (by rw [ht];exact ap.b.symm) e:OutOk h7 oo d.out cj.ox).keepT ap.a t8
      exact ⟨z.od,z.oe,z.ed,z.ea,z.es,z.op,z.ps,z.pa,z.qr⟩
     ·refine Ad (z0) ?_;conv=>whnf
      exact ⟨_,_,Au ⟨rfl,rfl,rfl,rfl,rfl,trivial⟩,(if_neg z0).symm,q6,Keeps.refl _ _⟩
    rintro e h8 ⟨e3,g,rfl,hg,q8,kk8⟩
    rw [← hg] at e1
    have hgl:LOk g.log∧g.log.es.length≤d.log.es.length∧g.out.entries=d.out.entries:=by
     rw [hg];unfold CoreM.cutIf;split
     ·refine ⟨lod.cut _,?_,rfl⟩
      show (d.log.cut y.abs.2.1).2.es.length≤_
      unfold LG.cut;split
      ·simp only [List.length_take];omega
      ·exact Nat.le_refl _
     ·exact ⟨lod,Nat.le_refl _,rfl⟩
    obtain ⟨gl1,gl2,gl3⟩:=hgl
    have X8:=X6.keeps kk8 tn1 tn2
    have hbf8:=kk8 _ _ _ tn1 hbf
    conv=>whnf
    refine Av ?_;conv=>whnf
    refine Am ((few h8 [p,bf])) [9] (few_sub _ _) (by decide +kernel) ?_;conv=>whnf
    refine Aa rfl ((few_at (by simp)).trans q8.str) rfl ?_;conv=>whnf
    refine Ai (n:=ln) (z:=4) (j:=j) rfl hjn rfl rfl ?_;conv=>whnf
    refine Ab rfl ((few_at (by simp)).trans hbf8) g0 rfl ?_;conv=>whnf
    refine Ap (0,1) y.cells rfl rfl rfl rfl rfl rfl rfl fun b9 h9 n9 s9 k9=>?_;conv=>whnf
    refine ⟨(few_sub _ _).trans s9,?_⟩;conv=>whnf
    have q9:=q8.sub s9
    refine ACalls.mono (rAppend_c (by omega:o+1≠0) q9.log gl1 (t:=(0,1)) (td:=t2) (by simp) (fun c=>tn2 (by rw [c];simp)) (ents_one k9 (Sl.sub (X8.good y my) s9) (by omega)) (by omega)) ?_;rintro _ hA ⟨rfl,lA,kkA⟩;conv=>whnf
    have qA:=kkA.get (by simp) q9.str
    obtain ⟨g2,hg2⟩:∃ g2:CoreM,g2={g with log:=(g.log.append [y.abs]).2}:=⟨_,rfl⟩
    have QA:RX hA p o oo g2 cj:=by
     rw [hg2]
     exact ⟨qA,q9.sd.move fun b y e=>kkA.get (by simp) e,lA,q9.rd.move fun b y e=>kkA.get (by simp) e,q9.out.move fun b t y ht e=>kkA _ _ _ (by rw [ht];exact ap.b.symm) e⟩
    have KA:Keeps [o,o+1,oo] h8 hA:=(s9.keeps _).trans (kkA.keeps (by simp))
    have hbfA:=KA _ _ _ tn1 hbf8
    have XA:=X8.keeps KA tn1 tn2
    have eg2:(g.push y.abs)={g2 with out:={g2.out with entries:=g2.out.entries++[y.abs]}}:=by rw [hg2];rfl
    have hel:cj.ox.es.length=cj.ox.oe.n:=by
     have:=QA.out.oe.sl.len
     rw [encs_length] at this;omega
    have hel2:cj.ox.es.length=g.out.entries.length:=by
     have e:cj.ox.es.map EH.abs=g2.out.entries:=QA.out.ea
     have e:=congrArg List.length e
     rw [List.length_map] at e;rw [e,hg2]
    rw [gl3] at hel2
    refine Am ((few hA [p,bf])) [16] (few_sub _ _) (by decide +kernel) ?_;conv=>whnf
    refine Aa rfl ((few_at (by simp)).trans QA.str) rfl ?_;conv=>whnf
    refine Ai (n:=ln) (z:=4) (j:=j) rfl hjn rfl rfl ?_;conv=>whnf
    refine Ab rfl ((few_at (by simp)).trans hbfA) g0 rfl ?_;conv=>whnf
    refine ACalls.mono (copyE_any hA (oo,2) (fun c=>ap.d (congrArg Prod.fst c)) y (XA.good y my) (by omega)) ?_
    rintro _ hB ⟨aB,cB,rfl,owB,sB⟩
    refine ⟨(few_sub _ _).trans sB,?_⟩;conv=>whnf
    obtain ⟨en,hen⟩:∃ en:EH,en=⟨y.term,y.index,y.kind,aB,y.n,cB,y.data⟩:=⟨_,rfl⟩
    rw [show #[I y.term,I y.index,I y.kind,Value.slice aB y.n cB]=en.cells.toArray by rw [hen];rfl]
    have ownB:en.Mine hB (oo,2):=by rw [hen];exact owB
    have hea:en.abs=y.abs:=by rw [hen];rfl
    have hnn:en.n≤1200:=by rw [hen];exact hyn
    refine Ap (0,1) en.cells rfl rfl rfl rfl rfl rfl (by rw [hen];rfl) fun bC hC nC sC kC=>?_;conv=>whnf
    refine ⟨(few_sub _ _).trans (sB.trans sC),?_⟩;conv=>whnf
    have QC:=(QA.sub sB).sub sC
    refine AAppend.own (t:=(oo,1)) (E:=59) (z:=4) (by_:=48) (zero:=entry0z) (tx:=(0,1)) (xs:=en.cells) rfl ⟨_,rfl⟩ rfl rfl rfl rfl (by omega) QC.out.oe
     ⟨rfl,Nat.le_refl _, .inr ⟨bC,0,_,_,_,rfl,kC,rfl⟩⟩ (by rw [hen];rfl) (by omega) (by omega) fun aD cD hD owD tD _=>?_
    conv=>whnf
    have pD:=tD.get (u:=(o,0)) (fun c=>ap.a (congrArg Prod.fst c)) QC.str
    have bD:=tD.get (fun c=>tf.2.2 (by rw [c])) (sC _ _ (sB _ _ hbfA))
    refine ⟨few_get fun z hz w hw=>?_,?_⟩
    ·simp only [List.mem_cons,List.not_mem_nil,or_false] at hz
     rcases hz with rfl | rfl
     ·rw [QA.str] at hw;cases hw;exact pD
     ·rw [hbfA] at hw;cases hw;exact bD
    conv=>whnf
    refine Af rfl rfl rfl (pD) rfl (coreCells {g2 with out:={g2.out with entries:=g2.out.entries++[en.abs]}} {cj with ox:={cj.ox with oe:=⟨aD,cj.ox.oe.n+1,cD⟩,es:=cj.ox.es++[en]}}) rfl fun hE tE kE aE eE=>?_;conv=>whnf
    have QE:=CoreX.pushE ap QC tD owD (Own.sub ownB sC) hnn tE kE
    rw [hea,← eg2,← e1] at QE
    have KE:Keeps [o,o+1,oo] h6 hE:=kk8.trans (KA.trans (((sB.trans sC).keeps _).trans ((tD.keep.keeps (by simp)).trans (tE.keep.keeps (by simp)))))
    have QN:=QE
    have KN:=KK6.trans KE
    have K3N:=KE _ _ _ (by have:=ap.c;have:=ap.d;simp;omega) k36
    have XN:=X6.keeps KE tn1 tn2
    refine Ag (by omega) (by omega) ((by omega:(j:Int)+1=((j+1:Nat):Int))) ?_;conv=>whnf
    refine ⟨⟨_,j+1,_,d.step1 y.abs,Au ⟨rfl,rfl,rfl,rfl,rfl,trivial⟩,by omega,hsucc.symm,QN,KN,K3N,XN,slo,by omega,by omega,sp1.trans hdp⟩,?_⟩
    show ln-(j+1)<ln-j
    omega
   ·refine Ad (z0) ?_;conv=>whnf
    refine AIf.cut (fun e h'=>∃ e0 g,e=updL 189 e0 [(0,Ptr p),(3,Ptr b3),(4,I stop),(7, .slice (some ⟨bf,off,none⟩) ln lc),(12,I j)]∧g=d.cutIf y.abs∧RX h' p o oo g cj∧Keeps [o,o+1,oo] h6 h') ?_ ?_
    ·conv=>whnf
     by_cases z0:(d.log.term y.index).2=0
     ·refine Ac (z0) ?_;conv=>whnf
      have eg:d.cutIf y.abs={d with log:=(d.log.cut y.index).2,out:={d.out with cut:=y.index}}:=if_pos z0
      refine Av ?_;conv=>whnf
      refine Am (h6) [9] (Sub.refl _) (by decide +kernel) ?_;conv=>whnf
      refine Aa rfl q6.str rfl ?_;conv=>whnf
      refine Ai (n:=ln) (z:=4) (j:=j) rfl hjn rfl rfl ?_;conv=>whnf
      refine Aa rfl hbf gI ?_;conv=>whnf
      refine ACalls.mono (rCut_c (by omega) q6.log lod y.index (by omega)) ?_;rintro _ h7 ⟨rfl,l7,kk7⟩;conv=>whnf
      have q7:=kk7.get (by simp) q6.str
      have hbf7:=kk7.get tf.2.1 hbf
      refine Ai (n:=ln) (z:=4) (j:=j) rfl hjn rfl rfl ?_;conv=>whnf
      refine Aa rfl hbf7 gI ?_;conv=>whnf
      refine Af rfl rfl rfl (q7) rfl (coreCells {d with log:=(d.log.cut y.index).2,out:={d.out with cut:=y.index}} cj) rfl fun h8 t8 k8 a8 e8=>?_;conv=>whnf
      refine ⟨_,_,Au ⟨rfl,rfl,rfl,rfl,rfl,trivial⟩,eg.symm,⟨k8,(q6.sd.move fun b y e=>kk7.get (by simp) e).keepT t8 (by simp),KeepT.log l7 t8,(q6.rd.move fun b y e=>kk7.get (by simp) e).keepT t8 (by simp),?_⟩,(kk7.keeps (by simp)).trans (t8.keep.keeps (by simp))⟩
      have z:=(q6.out.move fun b t y ht e=>kk7 _ _ _ (by rw [ht];exact ap.b.symm) e:OutOk h7 oo d.out cj.ox).keepT ap.a t8
      exact ⟨z.od,z.oe,z.ed,z.ea,z.es,z.op,z.ps,z.pa,z.qr⟩
     ·refine Ad (z0) ?_;conv=>whnf
      exact ⟨_,_,Au ⟨rfl,rfl,rfl,rfl,rfl,trivial⟩,(if_neg z0).symm,q6,Keeps.refl _ _⟩
    rintro e h8 ⟨e3,g,rfl,hg,q8,kk8⟩
    rw [← hg] at e1
    have hgl:LOk g.log∧g.log.es.length≤d.log.es.length∧g.out.entries=d.out.entries:=by
     rw [hg];unfold CoreM.cutIf;split
     ·refine ⟨lod.cut _,?_,rfl⟩
      show (d.log.cut y.abs.2.1).2.es.length≤_
      unfold LG.cut;split
      ·simp only [List.length_take];omega
      ·exact Nat.le_refl _
     ·exact ⟨lod,Nat.le_refl _,rfl⟩
    obtain ⟨gl1,gl2,gl3⟩:=hgl
    have X8:=X6.keeps kk8 tn1 tn2
    have hbf8:=kk8 _ _ _ tn1 hbf
    conv=>whnf
    refine Av ?_;conv=>whnf
    refine Am ((few h8 [p,bf])) [9] (few_sub _ _) (by decide +kernel) ?_;conv=>whnf
    refine Aa rfl ((few_at (by simp)).trans q8.str) rfl ?_;conv=>whnf
    refine Ai (n:=ln) (z:=4) (j:=j) rfl hjn rfl rfl ?_;conv=>whnf
    refine Ab rfl ((few_at (by simp)).trans hbf8) g0 rfl ?_;conv=>whnf
    refine Ap (0,1) y.cells rfl rfl rfl rfl rfl rfl rfl fun b9 h9 n9 s9 k9=>?_;conv=>whnf
    refine ⟨(few_sub _ _).trans s9,?_⟩;conv=>whnf
    have q9:=q8.sub s9
    refine ACalls.mono (rAppend_c (by omega:o+1≠0) q9.log gl1 (t:=(0,1)) (td:=t2) (by simp) (fun c=>tn2 (by rw [c];simp)) (ents_one k9 (Sl.sub (X8.good y my) s9) (by omega)) (by omega)) ?_;rintro _ hA ⟨rfl,lA,kkA⟩;conv=>whnf
    have qA:=kkA.get (by simp) q9.str
    obtain ⟨g2,hg2⟩:∃ g2:CoreM,g2={g with log:=(g.log.append [y.abs]).2}:=⟨_,rfl⟩
    have QA:RX hA p o oo g2 cj:=by
     rw [hg2]
     exact ⟨qA,q9.sd.move fun b y e=>kkA.get (by simp) e,lA,q9.rd.move fun b y e=>kkA.get (by simp) e,q9.out.move fun b t y ht e=>kkA _ _ _ (by rw [ht];exact ap.b.symm) e⟩
    have KA:Keeps [o,o+1,oo] h8 hA:=(s9.keeps _).trans (kkA.keeps (by simp))
    have hbfA:=KA _ _ _ tn1 hbf8
    have XA:=X8.keeps KA tn1 tn2
    have eg2:(g.push y.abs)={g2 with out:={g2.out with entries:=g2.out.entries++[y.abs]}}:=by rw [hg2];rfl
    have hel:cj.ox.es.length=cj.ox.oe.n:=by
     have:=QA.out.oe.sl.len
     rw [encs_length] at this;omega
    have hel2:cj.ox.es.length=g.out.entries.length:=by
     have e:cj.ox.es.map EH.abs=g2.out.entries:=QA.out.ea
     have e:=congrArg List.length e
     rw [List.length_map] at e;rw [e,hg2]
    rw [gl3] at hel2
    refine Am ((few hA [p,bf])) [16] (few_sub _ _) (by decide +kernel) ?_;conv=>whnf
    refine Aa rfl ((few_at (by simp)).trans QA.str) rfl ?_;conv=>whnf
    refine Ai (n:=ln) (z:=4) (j:=j) rfl hjn rfl rfl ?_;conv=>whnf
    refine Ab rfl ((few_at (by simp)).trans hbfA) g0 rfl ?_;conv=>whnf
    refine ACalls.mono (copyE_any hA (oo,2) (fun c=>ap.d (congrArg Prod.fst c)) y (XA.good y my) (by omega)) ?_
    rintro _ hB ⟨aB,cB,rfl,owB,sB⟩
    refine ⟨(few_sub _ _).trans sB,?_⟩;conv=>whnf
    obtain ⟨en,hen⟩:∃ en:EH,en=⟨y.term,y.index,y.kind,aB,y.n,cB,y.data⟩:=⟨_,rfl⟩
    rw [show #[I y.term,I y.index,I y.kind,Value.slice aB y.n cB]=en.cells.toArray by rw [hen];rfl]
    have ownB:en.Mine hB (oo,2):=by rw [hen];exact owB
    have hea:en.abs=y.abs:=by rw [hen];rfl
    have hnn:en.n≤1200:=by rw [hen];exact hyn
    refine Ap (0,1) en.cells rfl rfl rfl rfl rfl rfl (by rw [hen];rfl) fun bC hC nC sC kC=>?_;conv=>whnf
    refine ⟨(few_sub _ _).trans (sB.trans sC),?_⟩;conv=>whnf
    have QC:=(QA.sub sB).sub sC
    refine AAppend.own (t:=(oo,1)) (E:=59) (z:=4) (by_:=48) (zero:=entry0z) (tx:=(0,1)) (xs:=en.cells) rfl ⟨_,rfl⟩ rfl rfl rfl rfl (by omega) QC.out.oe
     ⟨rfl,Nat.le_refl _, .inr ⟨bC,0,_,_,_,rfl,kC,rfl⟩⟩ (by rw [hen];rfl) (by omega) (by omega) fun aD cD hD owD tD _=>?_
    conv=>whnf
    have pD:=tD.get (u:=(o,0)) (fun c=>ap.a (congrArg Prod.fst c)) QC.str
    have bD:=tD.get (fun c=>tf.2.2 (by rw [c])) (sC _ _ (sB _ _ hbfA))
    refine ⟨few_get fun z hz w hw=>?_,?_⟩
    ·simp only [List.mem_cons,List.not_mem_nil,or_false] at hz
     rcases hz with rfl | rfl
     ·rw [QA.str] at hw;cases hw;exact pD
     ·rw [hbfA] at hw;cases hw;exact bD
    conv=>whnf
    refine Af rfl rfl rfl (pD) rfl (coreCells {g2 with out:={g2.out with entries:=g2.out.entries++[en.abs]}} {cj with ox:={cj.ox with oe:=⟨aD,cj.ox.oe.n+1,cD⟩,es:=cj.ox.es++[en]}}) rfl fun hE tE kE aE eE=>?_;conv=>whnf
    have QE:=CoreX.pushE ap QC tD owD (Own.sub ownB sC) hnn tE kE
    rw [hea,← eg2,← e1] at QE
    have KE:Keeps [o,o+1,oo] h6 hE:=kk8.trans (KA.trans (((sB.trans sC).keeps _).trans ((tD.keep.keeps (by simp)).trans (tE.keep.keeps (by simp)))))
    have QN:=QE
    have KN:=KK6.trans KE
    have K3N:=KE _ _ _ (by have:=ap.c;have:=ap.d;simp;omega) k36
    have XN:=X6.keeps KE tn1 tn2
    refine Ag (by omega) (by omega) ((by omega:(j:Int)+1=((j+1:Nat):Int))) ?_;conv=>whnf
    refine ⟨⟨_,j+1,_,d.step1 y.abs,Au ⟨rfl,rfl,rfl,rfl,rfl,trivial⟩,by omega,hsucc.symm,QN,KN,K3N,XN,slo,by omega,by omega,sp1.trans hdp⟩,?_⟩
    show ln-(j+1)<ln-j
    omega
 ·refine Ad (by omega) ?_;conv=>whnf
  obtain rfl:j=ln:=by omega
  rw [List.take_of_length_le (by omega),hall] at hd
  refine Av ?_;conv=>whnf
  refine Am (h6) [12] (Sub.refl _) (by decide +kernel) ?_;conv=>whnf
  refine Aa rfl q6.str rfl ?_
  refine Aa rfl k36 rfl ?_;conv=>whnf
  refine Aq (rfl) ?_;conv=>whnf
  refine Aq (rfl) ?_;conv=>whnf
  refine Af rfl rfl rfl (q6.str) rfl (coreCells {d with commit:=if d.commit<(if stop<x.commit then stop else x.commit) then (if stop<x.commit then stop else x.commit) else d.commit} cj) rfl fun h7 t7 k7 a7 e7=>?_;conv=>whnf
  have q7:=q6.set' ap.a t7 k7
  have k37:=t7.get (tag_ne ap.c) k36
  refine Aa rfl k37 rfl ?_
  refine Aa rfl k37 rfl ?_;conv=>whnf
  refine ACalls.mono (rsay_any ap.a ap.b ap.c ap.d ⟨_,q7⟩ x.src {post1 with kind:=4,dst:=x.src,ok:=true,index:=stop,hint:=x.hint} rfl (made0 rfl rfl rfl rfl) (by show d.out.posts.length≤_;rw [hdp];exact hp)) ?_;rintro _ h8 ⟨rfl,k8,kk8⟩;conv=>whnf
  refine ⟨rfl,?_,KK6.trans ((t7.keep.keeps (by simp)).trans (kk8.mono (by simp)))⟩
  have hst:x.abs.index+(x.abs.entries.length:Int)=stop:=by rw [hstop,← hxl];simp [PH.abs]
  unfold CoreM.appendOk
  rw [← hd]
  simp only [hst]
  exact k8
end Go.Ah
