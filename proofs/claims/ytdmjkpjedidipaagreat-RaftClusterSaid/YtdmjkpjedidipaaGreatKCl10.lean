/- Texts that the law leans on, one behind the other. -/
import Derived.Test.YtdmjkpjedidipaaGreatKCl9
namespace Go.Ah
open Go.Proofs
set_option linter.unusedVariables false
set_option linter.unusedSimpArgs false
set_option maxRecDepth 20000
section
variable {h h':Heap} {N p:Nat} {x:NetM} {v:NX} {n:Int} {g:Gh}
theorem and_1023 (b:Int):IntKind.i64.wrap (BitVec.ofInt 64 b &&& BitVec.ofInt 64 1023).toNat=b % 1024:=by
 have h1:(BitVec.ofInt 64 b &&& BitVec.ofInt 64 1023).toNat=(b % 2^64).toNat % 1024:=by
  rw [BitVec.toNat_and,BitVec.toNat_ofInt,BitVec.toNat_ofInt]
  exact Nat.and_two_pow_sub_one_eq_mod _ 10
 have h2:((b % 2^64).toNat:Int)=b % 2^64:=Int.toNat_of_nonneg (Int.emod_nonneg _ (by decide))
 have h3:(((b % 2^64).toNat % 1024:Nat):Int)=b % 1024:=by
  rw [Int.natCast_emod,h2]
  omega
 rw [h1,h3]
 exact i64_wrap (by omega) (by omega)
structure StepH where
  op:Int
  a:Int
  b:Int
def StepH.cells (s:StepH):List Value:=[I s.op,I s.a,I s.b]
def StepH.m (s:StepH):StepM:=⟨s.op,s.a,s.b⟩
theorem Given.of (w:Wld g) (n1:1≤n) {y:PH} (hr:∃ r,y.Ok h (N+1,r) (N+1,5) (N+1,6)) (m:Msg g y.abs):∀ oo,Bound oo h→N+2*n.toNat+1<oo→Given h (N+2*n.toNat) oo y:=by
 intro oo bnd ho
 obtain ⟨r,hr⟩:=hr
 obtain ⟨a,b,c⟩:=m.small w
 have hl:y.es.length=y.e.n:=hr.es.len
 have c':y.es.length≤8:=by have:=c;simpa [PH.abs] using this
 have ht:∀ r:Nat,((N+1,r):Tag).1∉[N+2*n.toNat,N+2*n.toNat+1,oo]:=fun r=>by simp;omega
 have h2:y.abs.snap.crew=y.sc:=rfl
 exact ⟨⟨_,_,_,hr,ht _,ht _,ht _⟩,fun e he z hz=>a e.abs (List.mem_map.2 ⟨e,he,rfl⟩) z hz,by omega,by omega,by omega⟩
theorem dropN_map {α β:Type} (f:α→β) (l:List α) (i:Nat):(dropN l i).map f=dropN (l.map f) i:=by simp [dropN,List.map_take,List.map_drop]
def NetM.opTake (x:NetM) (i:Nat):Option PostM→NetM
  | none=>x
  | some p=>({x with mails:=dropN x.mails i}).take p x.draw
def NetM.opTwice (x:NetM):Option PostM→NetM
  | none=>x
  | some p=>if x.mails.length<300 then {x with mails:=x.mails++[p]} else x
theorem not_loc {N q:Nat} (hN:N≠0):((0,1):Tag).1∉[N+2*q,N+2*q+1]:=by simp;omega
theorem dropN_len {α:Type} (l:List α) (i:Nat):(dropN l i).length≤l.length:=by simp [dropN];omega
set_option maxHeartbeats 16000000 in
theorem step_any (k0:NetX h N p x v) (i0:NetI g x) (hdr:x.draw<100003) (hl:g.lim+60≤100000000) (s:StepH) :
  ACalls PR 16 #[Ptr p, .agg s.cells.toArray] h (fun r h'=>r = .tuple #[]∧(∃ v',NetX h' N p (x.step s.m) v')∧Low N h h'):=by
 rw [step_eq]
 have hdr0:=i0.draw
 obtain ⟨x0,hx0⟩:∃ x0:NetM,x0={x with draw:=(x.draw*7+s.b % 1024+3) % 100003}:=⟨_,rfl⟩
 have i:NetI g x0:=by rw [hx0];exact i0.withDraw (Int.emod_nonneg _ (by omega))
 rw [show ({x with draw:=(x.draw*7+s.m.b % 1024+3) % 100003}:NetM)=x0 from hx0.symm]
 have hN:=k0.n0
 have hs5:x0.size≤5:=by rw [hx0];exact k0.sz5
 have hs3:3≤x0.size:=by rw [hx0];exact k0.sz3
 have t01:((0,1):Tag)≠(N,0):=fun c=>by have:=congrArg Prod.fst c;simp only at this;omega
 refine acalls_of mix Tryz.func16 rfl rfl Tryz.ntmps16 Tryz.results16 rfl ?_;conv=>whnf
 refine ABox.mkN (0,1) (s.cells) rfl fun b3 h1 n1' s1 q1=>?_;conv=>whnf
 have k1:=k0.sub s1
 refine ADrawn.mk (h1) [13] (Sub.refl _) (by decide +kernel) ?_;conv=>whnf
 refine ALoad.one rfl k1.str rfl ?_;conv=>whnf
 refine AArith.ok (by omega) (by omega) (rfl) ?_;conv=>whnf
 refine ALoad.one rfl q1 rfl ?_;conv=>whnf
 refine AInt.as (and_1023 s.b) ?_;conv=>whnf
 refine AArith.ok (by omega) (by omega) (rfl) ?_;conv=>whnf
 refine AArith.ok (by omega) (by omega) (rfl) ?_;conv=>whnf
 refine AStore.oneN rfl rfl rfl (k1.str) rfl (netCells {x with draw:=x.draw*7+s.b % 1024+3} v) rfl fun h2 t2 q2 a2 e2=>?_;conv=>whnf
 refine ALoad.one rfl q2 rfl ?_;conv=>whnf
 refine ⟨by omega,?_⟩
 refine AInt.as (Int.tmod_eq_emod_of_nonneg (by show 0≤x.draw*7+s.b % 1024+3;omega)) ?_;conv=>whnf
 refine AStore.oneN rfl rfl rfl (q2) rfl (netCells {x with draw:=(x.draw*7+s.b % 1024+3) % 100003} v) rfl fun h3 t3 q3 a3 e3=>?_;conv=>whnf
 rw [← hx0] at q3
 have k:NetX h3 N p x0 v:=k1.move' (fun b t y _ n e=>t3 _ _ _ n (t2 _ _ _ n e)) q3 (by rw [hx0]) (by rw [hx0]) (by rw [hx0]) (by rw [hx0]) (by rw [hx0]) (by rw [hx0]) rfl
 have L3:Low N h h3:=fun b t y ht e=>t3 _ _ _ (fun c=>by rw [c] at ht;simp at ht) (t2 _ _ _ (fun c=>by rw [c] at ht;simp at ht) (s1 _ _ e))
 have r3:=t3.get t01 (t2.get t01 q1)
 have hd0:0≤x0.draw∧x0.draw<100003:=by
  rw [hx0];exact ⟨Int.emod_nonneg _ (by omega),Int.emod_lt_of_pos _ (by omega)⟩
 clear k1 q1 q2 q3 t2 a2 e2 t3 a3 e3 s1 n1' hx0 k0 i0 hdr hdr0
 obtain ⟨b1,b2⟩:=bring_in s.a x0.size (by omega)
 obtain ⟨n,hn⟩:∃ n,n=1+bring s.a x0.size:=⟨_,rfl⟩
 have n1:1≤n:=by omega
 have n2:n≤x0.size:=by omega
 have n5:n≤5:=by omega
 obtain ⟨m,hm⟩:∃ m:Nat,n=m:=⟨n.toNat,by omega⟩
 have hmn:v.ps.length=v.ml.n:=by have:=k.ml.sl.len;rw [flat_len (ph_len v.ps)] at this;simp at this;omega
 have hmo:v.ps.length=x0.mails.length:=by have:=congrArg List.length k.pa;rw [List.length_map] at this;omega
 have hmb:=k.mb
 refine ADrawn.mk (h3) [] (Sub.refl _) (by decide +kernel) ?_;conv=>whnf
 refine ALoad.one rfl r3 rfl ?_
 refine ALoad.one rfl k.str rfl ?_;conv=>whnf
 refine ACalls.mono (bring_any s.a x0.size (by omega) h3) ?_;rintro _ _ ⟨rfl,rfl⟩;conv=>whnf
 refine ⟨Sub.refl _,?_⟩;conv=>whnf
 refine AArith.ok (by omega) (by omega) (hn.symm) ?_;conv=>whnf
 refine ALoad.one rfl k.str rfl ?_;conv=>whnf
 obtain ⟨b,hb,id⟩:=k.cores n n1 n2
 by_cases cl:0<x0.mails.length
 ·refine ACmp.yes ((by omega)) ?_;conv=>whnf
  refine ADrawn.mk (h3) [] (Sub.refl _) (by decide +kernel) ?_;conv=>whnf
  refine ALoad.one rfl r3 rfl ?_
  refine ALoad.one rfl k.str rfl ?_;conv=>whnf
  obtain ⟨j1,j2⟩:=bring_in s.a x0.mails.length (by omega)
  obtain ⟨j,hj⟩:∃ j:Nat,j=(bring s.a x0.mails.length).toNat:=⟨_,rfl⟩
  refine ACalls.mono (bring_any s.a v.ml.n (by omega) h3) ?_
  rintro _ _ ⟨rfl,rfl⟩
  rw [show bring s.a (v.ml.n:Int)=(j:Int) by rw [← hmn,hmo];omega]
  conv=>whnf
  refine ⟨Sub.refl _,?_⟩;conv=>whnf
  have hjl:j<v.ml.n:=by omega
  obtain ⟨y,hy⟩:∃ y,v.ps[j]? = some y:=⟨v.ps[j]'(by omega),by simp⟩
  have hmj:x0.mails[j]? = some y.abs:=by rw [← k.pa,List.getElem?_map,hy];rfl
  have hyc:(v.ps.map PH.cells)[j]? = some y.cells:=by rw [List.getElem?_map,hy];rfl
  have hop1:=bring_in s.op 10 (by omega)
  obtain ⟨op,hop⟩:∃ op,op=bring s.op 10:=⟨_,rfl⟩
  refine ALoad.one rfl r3 rfl ?_;conv=>whnf
  refine ACalls.mono (bring_any s.op 10 (by omega) h3) ?_;rintro _ _ ⟨rfl,rfl⟩;conv=>whnf
  rw [← hop]
  have hst:x0.stepOf s.m=(if op=0 then x0.opTake (bring s.a x0.mails.length).toNat x0.mails[(bring s.a x0.mails.length).toNat]?
   else if op=1 then x0.tick n x0.draw
   else if op=2 then x0.propose n 1 [s.b % 256,x0.draw % 256]
   else if op=3 then (if x0.mails=[] then x0 else {x0 with mails:=dropN x0.mails (bring s.a x0.mails.length).toNat})
   else if op=4 then x0.opTwice x0.mails[(bring s.a x0.mails.length).toNat]?
   else if op=5 then x0.again n
   else if op=6 then x0.change n s.b
   else if op=7 then x0.read n
   else if op=8 then x0.compact n
   else x0.tickAll):=by rw [hop,hn];rfl
  rw [hst]
  clear hst
  conv=>whnf
  by_cases c0:op=0
  ·refine ACmp.yes (c0) ?_;conv=>whnf
   rw [if_pos c0]
   rw [← hj,hmj,show x0.opTake j (some y.abs)=({x0 with mails:=dropN x0.mails j}).take y.abs x0.draw from rfl]
   obtain ⟨bb,off,l,E,fz,ea,hbb,gp,_⟩:=Sl.elem k.ml.sl (ph_len v.ps) (by rw [List.length_map];omega) (by omega) hyc
   have hpm:=i.mails y.abs (List.mem_of_getElem? hmj)
   refine ALoad.one rfl k.str rfl ?_;conv=>whnf
   refine ACmp.yes ((by omega)) ?_;conv=>whnf
   refine ALoad.one rfl k.str rfl ?_;conv=>whnf
   rw [ea]
   refine AIdx.nat rfl hjl rfl rfl ?_;conv=>whnf
   refine ALoad.agg rfl hbb gp rfl ?_;conv=>whnf
   refine AAlloc.mkN (0,1) (post0z) rfl fun b6 h4 n4 s4 q4=>?_;conv=>whnf
   refine AStore.aggN rfl rfl rfl (q4) rfl (y.cells) rfl fun h5 t5 q5 a5 e5=>?_;conv=>whnf
   have s5:Sub h3 h5:=a5 h3 s4 n4
   have k5:=k.sub s5
   have L5:Low N h h5:=L3.trans s5.low
   refine ALoad.one rfl k5.str rfl ?_;conv=>whnf
   refine ACalls.mono (drop_any (tg:=(N,3)) k5.ml.sl (by omega) j hjl) ?_
   rintro _ h17 ⟨ml17,rfl,ow17,t17⟩
   conv=>whnf
   refine AStore.oneN rfl rfl rfl ((t17.get (u:=(N,0)) (by simp) k5.str)) rfl (netCells x0 {v with ml:=ml17}) rfl fun h18 t18 q18 a18 e18=>?_;conv=>whnf
   have k18:=k5.mlSet (h':=h18) (s:=ml17) (ps:=dropN v.ps j) (l:=dropN x0.mails j) (fun b t y n0 n3 e=>t18 _ _ _ n0 (t17 _ _ _ n3 e)) q18 (ow17.keepT t18 (by simp)) (by rw [dropN_map,k.pa]) (fun y hy=>k5.ps y (mem_dropN hy)) (Nat.le_trans (dropN_len _ _) hmb)
   have L18:Low N h h18:=L5.trans fun b t y ht e=>t18 _ _ _ (fun c=>by rw [c] at ht;simp at ht) (t17 _ _ _ (fun c=>by rw [c] at ht;simp at ht) e)
   have q6:=t18.get t01 (t17.get (u:=(0,1)) (fun c=>by have:=congrArg Prod.snd c;simp at this) q5)
   have hyr:∃ r,y.Ok h18 (N+1,r) (N+1,5) (N+1,6):=by
    obtain ⟨r,hr⟩:=k5.ps y (List.mem_of_getElem? hy)
    exact ⟨r,hr.move fun b t z ht e=>t18 _ _ _ (by rcases ht with rfl | rfl | rfl <;> simp) (t17 _ _ _ (by rcases ht with rfl | rfl | rfl <;> simp) e)⟩
   have i18:NetI g {x0 with mails:=dropN x0.mails j}:=i.withMails fun q hq=>i.mails q (mem_dropN hq)
   have hsz:=i.sz
   have z1:1≤y.dst:=hpm.d1
   have z2:y.dst≤x0.size:=by rw [← hsz];exact hpm.d2
   have z5:y.dst≤5:=by omega
   obtain ⟨mz,hmz⟩:∃ mz:Nat,y.dst=mz:=⟨y.dst.toNat,by omega⟩
   obtain ⟨bz,hbz,idz⟩:=k18.cores y.dst z1 z2
   obtain ⟨tk,okk⟩:=i18.keepTake hpm (d:=x0.draw) hd0.1 (by omega)
   have tk':(x0.cores.get y.dst).takes y.abs=true:=tk
   have okk':KeepOk {x0 with mails:=dropN x0.mails j,cores:=x0.cores.set y.dst ((x0.cores.get y.dst).take y.abs x0.draw).done.1} y.dst ((x0.cores.get y.dst).take y.abs x0.draw).done.2:=okk
   have ck:=i18.cok z1 z2
   have etake:({x0 with mails:=dropN x0.mails j}:NetM).take y.abs x0.draw=({x0 with mails:=dropN x0.mails j}:NetM).out y.dst ((x0.cores.get y.dst).take y.abs x0.draw):=if_pos tk'
   rw [etake]
   refine ADrawn.mkT (h18) [12] (.take 0 (.take 1 (.take 2 (.take 3 (.take 4 (.take 5 (.take 6 (.take 7 (.take 8 (.take 9 (.take 10 (.take 11 (.alt 12 (.take 13 (.take 14 (.take 15 (.take 16 (.take 17 (.take 18 (.done))))))) (.alt 16 (.take 12 (.take 13 (.take 14 (.take 15 (.take 17 (.take 18 (.done))))))) (.stop))))))))))))))) (Sub.refl _) (by decide +kernel) ?_;conv=>whnf
   refine ALoad.one rfl q6 rfl ?_;conv=>whnf
   refine AIdxA.nat (n:=6) (z:=1) (j:=mz) (by omega) (by omega) rfl rfl ?_;conv=>whnf
   refine ALoad.one (v:=Ptr bz) rfl k18.str (by have:=core_cell {x0 with mails:=dropN x0.mails j} {v with ml:=ml17,ps:=dropN v.ps j} z1 z5;rw [hbz] at this;rw [show 0+2+mz*1=2+(y.dst).toNat by omega];exact this) ?_
   refine ALoad.agg rfl q6 rfl rfl ?_
   refine ALoad.one rfl k18.str rfl ?_;conv=>whnf
   refine And.intro ?_ ?_
   ·refine ACalls.mono (take_net (N+1) (by omega) idz ck y (Given.of i.w z1 hyr hpm) tk' hd0.1) ?_
    rintro _ h7 ⟨u,rfl,ox,rfl,ok7,id7,kk7⟩
    conv=>whnf
    refine AAlloc.mkN (0,1) (outCells out0 ox0) rfl fun b8 h8 n8 s8 k8=>?_;conv=>whnf
    refine ⟨Sub.nil _,?_⟩;conv=>whnf
    refine AStore.aggN rfl rfl rfl (k8) rfl (outCells ((x0.cores.get y.dst).take y.abs x0.draw).done.2 ox) rfl fun h9 t9 k9 a9 e9=>?_;conv=>whnf
    refine ⟨Sub.nil _,?_⟩;conv=>whnf
    have s9:Sub h7 h9:=a9 h7 s8 n8
    have ke:=(k18.coreSet z1 z2 hbz kk7 id7).sub s9
    have oe:OutOk h9 (N+1) ((x0.cores.get y.dst).take y.abs x0.draw).done.2 ox:=ok7.move fun _ _ _ _ e=>s9 _ _ e
    have q69:=s9 _ _ (kk7 _ _ _ (not_loc hN) q6)
    have le:Low N h h9:=L18.trans ((keeps_low z1 kk7).trans s9.low)
    refine ALoad.one rfl ke.str rfl ?_;conv=>whnf
    refine ACmp.yes (rfl) ?_;conv=>whnf
    refine AStore.oneN rfl rfl rfl (ke.str) rfl (netCells x0 {v with ml:=ml17}) rfl fun h30 t30 q30 a30 e30=>?_;conv=>whnf
    have k30:=ke.same t30 q30
    have q6':=t30.get t01 q69
    have q7':=t30.get t01 k9
    have o30:OutOk h30 (N+1) ((x0.cores.get y.dst).take y.abs x0.draw).done.2 ox:=oe.move fun b t z ht e=>t30 _ _ _ (fun c=>by rw [c] at ht;simp only at ht;omega) e
    refine ALoad.one rfl q6' rfl ?_
    refine ALoad.agg rfl q7' rfl rfl ?_;conv=>whnf
    refine ACalls.mono (out_yes k30 z1 z2 o30 okk') ?_
    rintro _ h16 ⟨rfl,k16,L16⟩
    conv=>whnf
    exact ⟨rfl,k16,le.trans (Low.trans (fun b t z ht e=>t30 _ _ _ (fun c=>by rw [c] at ht;simp at ht) e) L16)⟩
   ·conv=>whnf
    refine And.intro ?_ trivial
    refine AAlloc.mkN (0,1) (outCells out0 ox0) rfl fun b8 h8 n8 s8 k8=>?_;conv=>whnf
    refine ⟨s8,?_⟩;conv=>whnf
    have id8:PIdle h8 bz (N+2*(y.dst).toNat) (x0.cores.get y.dst):=idz.move fun _ _ _ _ e=>s8 _ _ e
    have hyr8:∃ r,y.Ok h8 (N+1,r) (N+1,5) (N+1,6):=by
     obtain ⟨r,hr⟩:=hyr
     exact ⟨r,hr.move fun _ _ _ _ e=>s8 _ _ e⟩
    refine ACalls.mono (take_net (N+1) (by omega) id8 ck y (Given.of i.w z1 hyr8 hpm) tk' hd0.1) ?_
    rintro _ h7 ⟨u,rfl,ox,rfl,ok7,id7,kk7⟩
    conv=>whnf
    refine AStore.aggN rfl rfl rfl ((kk7 _ _ _ (not_loc hN) k8)) rfl (outCells ((x0.cores.get y.dst).take y.abs x0.draw).done.2 ox) rfl fun h9 t9 k9 a9 e9=>?_;conv=>whnf
    refine ⟨Sub.nil _,?_⟩;conv=>whnf
    have ke:=((k18.sub s8).coreSet z1 z2 hbz kk7 id7).local t9
    have oe:OutOk h9 (N+1) ((x0.cores.get y.dst).take y.abs x0.draw).done.2 ox:=ok7.local (by omega) t9
    have b68:b6≠b8:=fun c=>by rw [c,n8] at q6;cases q6
    have q69:=e9 _ _ b68 (kk7 _ _ _ (not_loc hN) (s8 _ _ q6))
    have le:Low N h h9:=L18.trans fun b t z ht e=>e9 _ _ (fun c=>by rw [c,n8] at e;cases e) (kk7 _ _ _ (by simp;omega) (s8 _ _ e))
    refine ALoad.one rfl ke.str rfl ?_;conv=>whnf
    refine ACmp.yes (rfl) ?_;conv=>whnf
    refine AStore.oneN rfl rfl rfl (ke.str) rfl (netCells x0 {v with ml:=ml17}) rfl fun h30 t30 q30 a30 e30=>?_;conv=>whnf
    have k30:=ke.same t30 q30
    have q6':=t30.get t01 q69
    have q7':=t30.get t01 k9
    have o30:OutOk h30 (N+1) ((x0.cores.get y.dst).take y.abs x0.draw).done.2 ox:=oe.move fun b t z ht e=>t30 _ _ _ (fun c=>by rw [c] at ht;simp only at ht;omega) e
    refine ALoad.one rfl q6' rfl ?_
    refine ALoad.agg rfl q7' rfl rfl ?_;conv=>whnf
    refine ACalls.mono (out_yes k30 z1 z2 o30 okk') ?_
    rintro _ h16 ⟨rfl,k16,L16⟩
    conv=>whnf
    exact ⟨rfl,k16,le.trans (Low.trans (fun b t z ht e=>t30 _ _ _ (fun c=>by rw [c] at ht;simp at ht) e) L16)⟩
  refine ACmp.no (c0) ?_;conv=>whnf
  rw [if_neg c0]
  by_cases c1:op=1
  ·refine ACmp.yes (c1) ?_;conv=>whnf
   rw [if_pos c1]
   refine ADrawn.mkT (h3) [10] (.take 0 (.take 1 (.take 2 (.take 3 (.take 4 (.take 5 (.take 6 (.take 7 (.take 8 (.take 9 (.alt 10 (.take 11 (.take 12 (.take 13 (.take 14 (.take 15 (.take 16 (.done))))))) (.alt 14 (.take 10 (.take 11 (.take 12 (.take 13 (.take 15 (.take 16 (.done))))))) (.stop))))))))))))) (Sub.refl _) (by decide +kernel) ?_;conv=>whnf
   refine AIdxA.nat (n:=6) (z:=1) (j:=m) (by omega) (by omega) rfl rfl ?_;conv=>whnf
   refine ALoad.one (v:=Ptr b) rfl k.str (by have:=core_cell x0 v n1 n5;rw [hb] at this;rw [show 0+2+m*1=2+(n).toNat by omega];exact this) ?_
   refine ALoad.one rfl k.str rfl ?_;conv=>whnf
   have okk:=i.keepTick n1 n2 hd0.1 (by omega)
   refine And.intro ?_ ?_
   ·refine ACalls.mono (tick_net (N+1) (by omega) id (i.cok n1 n2) hd0.1) ?_
    rintro _ h7 ⟨u,rfl,ox,rfl,ok7,id7,kk7⟩
    conv=>whnf
    refine AAlloc.mkN (0,1) (outCells out0 ox0) rfl fun b8 h8 n8 s8 k8=>?_;conv=>whnf
    refine ⟨Sub.nil _,?_⟩;conv=>whnf
    refine AStore.aggN rfl rfl rfl (k8) rfl (outCells ((x0.cores.get n).tick x0.draw).done.2 ox) rfl fun h9 t9 k9 a9 e9=>?_;conv=>whnf
    refine ⟨Sub.nil _,?_⟩;conv=>whnf
    have s9:Sub h7 h9:=a9 h7 s8 n8
    have ke:=(k.coreSet n1 n2 hb kk7 id7).sub s9
    have oe:OutOk h9 (N+1) ((x0.cores.get n).tick x0.draw).done.2 ox:=ok7.move fun _ _ _ _ e=>s9 _ _ e
    refine ALoad.agg rfl k9 rfl rfl ?_;conv=>whnf
    refine ACalls.mono (out_yes ke n1 n2 oe okk) ?_
    rintro _ h16 ⟨rfl,k16,L16⟩
    conv=>whnf
    exact ⟨rfl,k16,(L3.trans (keeps_low n1 kk7)).trans (s9.low.trans L16)⟩
   ·conv=>whnf
    refine And.intro ?_ trivial
    refine AAlloc.mkN (0,1) (outCells out0 ox0) rfl fun b8 h8 n8 s8 k8=>?_;conv=>whnf
    refine ⟨s8,?_⟩;conv=>whnf
    have id8:PIdle h8 b (N+2*n.toNat) (x0.cores.get n):=id.move fun _ _ _ _ e=>s8 _ _ e
    refine ACalls.mono (tick_net (N+1) (by omega) id8 (i.cok n1 n2) hd0.1) ?_
    rintro _ h7 ⟨u,rfl,ox,rfl,ok7,id7,kk7⟩
    conv=>whnf
    refine AStore.aggN rfl rfl rfl ((kk7 _ _ _ (not_loc hN) k8)) rfl (outCells ((x0.cores.get n).tick x0.draw).done.2 ox) rfl fun h9 t9 k9 a9 e9=>?_;conv=>whnf
    refine ⟨Sub.nil _,?_⟩;conv=>whnf
    have ke:=((k.sub s8).coreSet n1 n2 hb kk7 id7).local t9
    have oe:OutOk h9 (N+1) ((x0.cores.get n).tick x0.draw).done.2 ox:=ok7.local (by omega) t9
    refine ALoad.agg rfl k9 rfl rfl ?_;conv=>whnf
    refine ACalls.mono (out_yes ke n1 n2 oe okk) ?_
    rintro _ h16 ⟨rfl,k16,L16⟩
    conv=>whnf
    refine ⟨rfl,k16,L3.trans (Low.trans ?_ L16)⟩
    exact fun b t y ht e=>e9 _ _ (fun z=>by rw [z,n8] at e;cases e) (kk7 _ _ _ (by simp;omega) (s8 _ _ e))
  refine ACmp.no (c1) ?_;conv=>whnf
  rw [if_neg c1]
  by_cases c2:op=2
  ·refine ACmp.yes (c2) ?_;conv=>whnf
   rw [if_pos c2]
   obtain ⟨dl,hdl⟩:∃ dl,dl=[s.b % 256,x0.draw % 256]:=⟨_,rfl⟩
   rw [← hdl]
   have hdb:∀ z∈dl,0≤z∧z<256:=fun z hz=>by
    rw [hdl] at hz
    simp only [List.mem_cons,List.not_mem_nil,or_false] at hz
    rcases hz with rfl | rfl
    ·exact ⟨Int.emod_nonneg _ (by omega),Int.emod_lt_of_pos _ (by omega)⟩
    ·exact ⟨Int.emod_nonneg _ (by omega),Int.emod_lt_of_pos _ (by omega)⟩
   have okk:∀ ez,_:=fun ez=>i.keepPropose n1 n2 (kind:=1) (data:=dl) ez hdb (fun h=>by omega) (by omega)
   have e0:(x0.cores.get n).proposeE 1 dl≠0→x0.propose n 1 dl=x0:=fun er=>by unfold NetM.propose;rw [if_neg er]
   have e1:(x0.cores.get n).proposeE 1 dl=0→x0.propose n 1 dl=x0.out n ((x0.cores.get n).propose 1 dl):=fun ez=>by unfold NetM.propose;rw [if_pos ez]
   refine ADrawn.mkT (h3) [15] (.take 0 (.take 1 (.take 2 (.take 3 (.take 4 (.take 5 (.take 6 (.take 7 (.take 8 (.take 9 (.take 10 (.take 11 (.take 12 (.take 13 (.alt 14 (.alt 15 (.take 16 (.take 17 (.take 18 (.take 19 (.take 20 (.take 21 (.take 22 (.take 23 (.done))))))))) (.alt 20 (.take 15 (.take 16 (.take 17 (.take 18 (.take 19 (.take 21 (.take 22 (.take 23 (.done))))))))) (.stop))) (.alt 20 (.take 14 (.take 15 (.take 16 (.take 17 (.take 18 (.take 19 (.take 21 (.take 22 (.take 23 (.done)))))))))) (.stop))))))))))))))))) (Sub.refl _) (by decide +kernel) ?_;conv=>whnf
   refine AIdxA.nat (n:=6) (z:=1) (j:=m) (by omega) (by omega) rfl rfl ?_;conv=>whnf
   refine ALoad.one (v:=Ptr b) rfl k.str (by have:=core_cell x0 v n1 n5;rw [hb] at this;rw [show 0+2+m*1=2+(n).toNat by omega];exact this) ?_
   refine ALoad.one rfl r3 rfl ?_;conv=>whnf
   refine AArith.raw ?_
   rw [u8_mod]
   conv=>whnf
   refine ALoad.one rfl k.str rfl ?_;conv=>whnf
   refine AArith.raw ?_
   rw [u8_mod]
   conv=>whnf
   refine And.intro ?_ ?_
   ·refine ABuildSl.mkN (0,1) [.int .u8 (s.b % 256), .int .u8 (x0.draw % 256)] rfl rfl rfl rfl rfl rfl rfl fun b6 h5 n5' s5 k6=>?_;conv=>whnf
    refine ⟨s5,?_⟩;conv=>whnf
    refine And.intro ?_ ?_
    ·have idC:PIdle h5 b (N+2*n.toNat) (x0.cores.get n):=id.move fun _ _ _ _ e=>s5 _ _ e
     refine ACalls.mono (propose_net (N+1) (by omega) idC (i.cok n1 n2) 1 (data:=dl) (row_sl (by rw [hdl];rfl) (by rw [hdl];exact k6)) hdb) ?_
     rintro _ h7 (⟨er,rfl,s7⟩ | ⟨ez,u,rfl,ox,rfl,ok7,id7,kk7⟩)
     ·conv=>whnf
      refine AAlloc.mkN (0,1) (outCells out0 ox0) rfl fun b8 h8 n8 s8 k8=>?_;conv=>whnf
      refine ⟨Sub.nil _,?_⟩;conv=>whnf
      refine AStore.aggN rfl rfl rfl (k8) rfl (outCells out0 ox0) rfl fun h9 t9 k9 a9 e9=>?_;conv=>whnf
      refine ⟨Sub.nil _,?_⟩;conv=>whnf
      refine ALoad.agg rfl k9 rfl rfl ?_;conv=>whnf
      refine ACalls.mono (out_no h9 p n er) ?_
      rintro _ h10 ⟨rfl,s10⟩
      conv=>whnf
      rw [e0 er]
      have s9:Sub h7 h9:=a9 h7 s8 n8
      exact ⟨rfl,⟨v,(((k.sub s5).sub s7).sub s9).sub s10⟩,L3.trans ((s5.trans s7).trans (s9.trans s10)).low⟩
     ·conv=>whnf
      refine AAlloc.mkN (0,1) (outCells out0 ox0) rfl fun b8 h8 n8 s8 k8=>?_;conv=>whnf
      refine ⟨Sub.nil _,?_⟩;conv=>whnf
      refine AStore.aggN rfl rfl rfl (k8) rfl (outCells ((x0.cores.get n).propose 1 dl).done.2 ox) rfl fun h9 t9 k9 a9 e9=>?_;conv=>whnf
      refine ⟨Sub.nil _,?_⟩;conv=>whnf
      have s9:Sub h7 h9:=a9 h7 s8 n8
      have ke:=((k.sub s5).coreSet n1 n2 hb kk7 id7).sub s9
      have oe:OutOk h9 (N+1) ((x0.cores.get n).propose 1 dl).done.2 ox:=ok7.move fun _ _ _ _ e=>s9 _ _ e
      rw [e1 ez]
      have okz:=okk ez
      refine ALoad.agg rfl k9 rfl rfl ?_;conv=>whnf
      refine ACalls.mono (out_yes ke n1 n2 oe okz) ?_
      rintro _ h16 ⟨rfl,k16,L16⟩
      conv=>whnf
      exact ⟨rfl,k16,L3.trans ((s5.low.trans (keeps_low n1 kk7)).trans (s9.low.trans L16))⟩
    ·conv=>whnf
     refine And.intro ?_ trivial
     refine AAlloc.mkN (0,1) (outCells out0 ox0) rfl fun b8 h8 n8 s8 k8=>?_;conv=>whnf
     have sC:=s5.trans s8
     refine ⟨sC,?_⟩;conv=>whnf
     have k6C:=s8 _ _ k6
     have nb8:h3 b8=none:=by cases e:h3 b8 with | none=>rfl | some y=>rw [s5 _ _ e] at n8;cases n8
     have idC:PIdle h8 b (N+2*n.toNat) (x0.cores.get n):=id.move fun _ _ _ _ e=>sC _ _ e
     refine ACalls.mono (propose_net (N+1) (by omega) idC (i.cok n1 n2) 1 (data:=dl) (row_sl (by rw [hdl];rfl) (by rw [hdl];exact k6C)) hdb) ?_
     rintro _ h7 (⟨er,rfl,s7⟩ | ⟨ez,u,rfl,ox,rfl,ok7,id7,kk7⟩)
     ·conv=>whnf
      refine AStore.aggN rfl rfl rfl ((s7 _ _ k8)) rfl (outCells out0 ox0) rfl fun h9 t9 k9 a9 e9=>?_;conv=>whnf
      refine ⟨Sub.nil _,?_⟩;conv=>whnf
      refine ALoad.agg rfl k9 rfl rfl ?_;conv=>whnf
      refine ACalls.mono (out_no h9 p n er) ?_
      rintro _ h10 ⟨rfl,s10⟩
      conv=>whnf
      rw [e0 er]
      exact ⟨rfl,⟨v,(((k.sub sC).sub s7).local t9).sub s10⟩,L3.trans ((a9 h3 (sC.trans s7) nb8).trans s10).low⟩
     ·conv=>whnf
      refine AStore.aggN rfl rfl rfl ((kk7 _ _ _ (not_loc hN) k8)) rfl (outCells ((x0.cores.get n).propose 1 dl).done.2 ox) rfl fun h9 t9 k9 a9 e9=>?_;conv=>whnf
      refine ⟨Sub.nil _,?_⟩;conv=>whnf
      have ke:=((k.sub sC).coreSet n1 n2 hb kk7 id7).local t9
      have oe:OutOk h9 (N+1) ((x0.cores.get n).propose 1 dl).done.2 ox:=ok7.local (by omega) t9
      rw [e1 ez]
      have okz:=okk ez
      refine ALoad.agg rfl k9 rfl rfl ?_;conv=>whnf
      refine ACalls.mono (out_yes ke n1 n2 oe okz) ?_
      rintro _ h16 ⟨rfl,k16,L16⟩
      conv=>whnf
      refine ⟨rfl,k16,L3.trans (Low.trans ?_ L16)⟩
      exact fun b t y ht e=>e9 _ _ (fun z=>by rw [z,nb8] at e;cases e) (kk7 _ _ _ (by simp;omega) (sC _ _ e))
   ·conv=>whnf
    refine And.intro ?_ trivial
    refine AAlloc.mkN (0,1) (outCells out0 ox0) rfl fun b8 h8 n8 s8 k8=>?_;conv=>whnf
    refine ⟨s8,?_⟩;conv=>whnf
    refine ABuildSl.mkN (0,1) [.int .u8 (s.b % 256), .int .u8 (x0.draw % 256)] rfl rfl rfl rfl rfl rfl rfl fun b6 h5 n5' s5 k6=>?_;conv=>whnf
    have sC:=s8.trans s5
    refine ⟨sC,?_⟩;conv=>whnf
    have k4C:=s5 _ _ k8
    have idC:PIdle h5 b (N+2*n.toNat) (x0.cores.get n):=id.move fun _ _ _ _ e=>sC _ _ e
    refine ACalls.mono (propose_net (N+1) (by omega) idC (i.cok n1 n2) 1 (data:=dl) (row_sl (by rw [hdl];rfl) (by rw [hdl];exact k6)) hdb) ?_
    rintro _ h7 (⟨er,rfl,s7⟩ | ⟨ez,u,rfl,ox,rfl,ok7,id7,kk7⟩)
    ·conv=>whnf
     refine AStore.aggN rfl rfl rfl ((s7 _ _ k4C)) rfl (outCells out0 ox0) rfl fun h9 t9 k9 a9 e9=>?_;conv=>whnf
     refine ⟨Sub.nil _,?_⟩;conv=>whnf
     refine ALoad.agg rfl k9 rfl rfl ?_;conv=>whnf
     refine ACalls.mono (out_no h9 p n er) ?_
     rintro _ h10 ⟨rfl,s10⟩
     conv=>whnf
     rw [e0 er]
     exact ⟨rfl,⟨v,(((k.sub sC).sub s7).local t9).sub s10⟩,L3.trans ((a9 h3 (sC.trans s7) n8).trans s10).low⟩
    ·conv=>whnf
     refine AStore.aggN rfl rfl rfl ((kk7 _ _ _ (not_loc hN) k4C)) rfl (outCells ((x0.cores.get n).propose 1 dl).done.2 ox) rfl fun h9 t9 k9 a9 e9=>?_;conv=>whnf
     refine ⟨Sub.nil _,?_⟩;conv=>whnf
     have ke:=((k.sub sC).coreSet n1 n2 hb kk7 id7).local t9
     have oe:OutOk h9 (N+1) ((x0.cores.get n).propose 1 dl).done.2 ox:=ok7.local (by omega) t9
     rw [e1 ez]
     have okz:=okk ez
     refine ALoad.agg rfl k9 rfl rfl ?_;conv=>whnf
     refine ACalls.mono (out_yes ke n1 n2 oe okz) ?_
     rintro _ h16 ⟨rfl,k16,L16⟩
     conv=>whnf
     refine ⟨rfl,k16,L3.trans (Low.trans ?_ L16)⟩
     exact fun b t y ht e=>e9 _ _ (fun z=>by rw [z,n8] at e;cases e) (kk7 _ _ _ (by simp;omega) (sC _ _ e))
  refine ACmp.no (c2) ?_;conv=>whnf
  rw [if_neg c2]
  by_cases c3:op=3
  ·refine ACmp.yes (c3) ?_;conv=>whnf
   rw [if_pos c3]
   rw [if_neg (fun c=>by rw [c] at cl;simp at cl),← hj]
   refine ALoad.one rfl k.str rfl ?_;conv=>whnf
   refine ACmp.yes ((by omega)) ?_;conv=>whnf
   refine ALoad.one rfl k.str rfl ?_;conv=>whnf
   refine ACalls.mono (drop_any (tg:=(N,3)) k.ml.sl (by omega) j hjl) ?_
   rintro _ h17 ⟨ml17,rfl,ow17,t17⟩
   conv=>whnf
   refine AStore.oneN rfl rfl rfl ((t17.get (u:=(N,0)) (by simp) k.str)) rfl (netCells x0 {v with ml:=ml17}) rfl fun h18 t18 q18 a18 e18=>?_;conv=>whnf
   have k18:=k.mlSet (h':=h18) (s:=ml17) (ps:=dropN v.ps j) (l:=dropN x0.mails j) (fun b t y n0 n3 e=>t18 _ _ _ n0 (t17 _ _ _ n3 e)) q18 (ow17.keepT t18 (by simp)) (by rw [dropN_map,k.pa]) (fun y hy=>k.ps y (mem_dropN hy)) (Nat.le_trans (dropN_len _ _) hmb)
   have L18:Low N h h18:=L3.trans fun b t y ht e=>t18 _ _ _ (fun c=>by rw [c] at ht;simp at ht) (t17 _ _ _ (fun c=>by rw [c] at ht;simp at ht) e)
   exact ⟨rfl,⟨_,k18⟩,L18⟩
  refine ACmp.no (c3) ?_;conv=>whnf
  rw [if_neg c3]
  by_cases c4:op=4
  ·refine ACmp.yes (c4) ?_;conv=>whnf
   rw [if_pos c4]
   rw [← hj,hmj,show x0.opTwice (some y.abs)=if x0.mails.length<300 then {x0 with mails:=x0.mails++[y.abs]} else x0 from rfl]
   refine ALoad.one rfl k.str rfl ?_;conv=>whnf
   refine ACmp.yes ((by omega)) ?_;conv=>whnf
   refine ALoad.one rfl k.str rfl ?_;conv=>whnf
   by_cases c9:x0.mails.length<300
   ·refine ACmp.yes ((by omega)) ?_;conv=>whnf
    rw [if_pos c9]
    obtain ⟨bb,off,l,E,fz,ea,hbb,gp,_⟩:=Sl.elem k.ml.sl (ph_len v.ps) (by rw [List.length_map];omega) (by omega) hyc
    refine ADrawn.mk (h3) [13] (Sub.refl _) (by decide +kernel) ?_;conv=>whnf
    refine ALoad.one rfl k.str rfl ?_
    refine ALoad.one rfl k.str rfl ?_;conv=>whnf
    have own:=k.ml
    generalize hA:v.ml.a=A at own ⊢
    rw [hA] at ea
    subst ea
    refine AIdx.nat rfl hjl rfl rfl ?_;conv=>whnf
    refine ALoad.agg rfl hbb gp rfl ?_;conv=>whnf
    refine ABuildSl.mkN (0,1) y.cells rfl rfl rfl rfl rfl rfl rfl fun b6 h5 n5' s5 k6=>?_;conv=>whnf
    refine ⟨s5,?_⟩;conv=>whnf
    refine AAppend.own (t:=(N,3)) (E:=49) (z:=14) (by_:=144) (zero:=post0z) (tx:=(0,1)) (xs:=y.cells) rfl ⟨_,rfl⟩ rfl rfl rfl rfl (by omega) (own.move fun _ _ e=>s5 _ _ e)
     ⟨rfl,Nat.le_refl _, .inr ⟨b6,0,_,_,_,rfl,k6,rfl⟩⟩ rfl (by omega) (by omega) fun a7 c7' h7 ow7 t7 _=>?_
    conv=>whnf
    refine AStore.oneN rfl rfl rfl ((t7.get (u:=(N,0)) (by simp) (s5 _ _ k.str))) rfl (netCells x0 {v with ml:=⟨a7,v.ml.n+1,c7'⟩}) rfl fun h18 t18 q18 a18 e18=>?_;conv=>whnf
    refine ⟨Sub.nil _,?_⟩;conv=>whnf
    have k18:=k.mlSet (h':=h18) (s:=⟨a7,v.ml.n+1,c7'⟩) (ps:=v.ps++[y]) (l:=x0.mails++[y.abs]) (fun b t y n0 n3 e=>t18 _ _ _ n0 (t7 _ _ _ n3 (s5 _ _ e))) q18 (by rw [List.map_append,List.flatten_append];simpa using ow7.keepT t18 (by simp)) (by rw [List.map_append,k.pa];rfl)
     (fun z hz=>by
      rcases List.mem_append.1 hz with hz | hz
      ·exact k.ps z hz
      ·rw [List.mem_singleton.1 hz];exact k.ps y (List.mem_of_getElem? hy)) (by rw [List.length_append];simp;omega)
    exact ⟨rfl,⟨_,k18⟩,L3.trans fun b t y ht e=>t18 _ _ _ (fun c=>by rw [c] at ht;simp at ht) (t7 _ _ _ (fun c=>by rw [c] at ht;simp at ht) (s5 _ _ e))⟩
   ·refine ACmp.no ((by omega)) ?_;conv=>whnf
    rw [if_neg c9]
    exact ⟨rfl,⟨v,k⟩,L3⟩
  refine ACmp.no (c4) ?_;conv=>whnf
  rw [if_neg c4]
  by_cases c5:op=5
  ·refine ACmp.yes (c5) ?_;conv=>whnf
   rw [if_pos c5]
   refine ACalls.mono (again_any k i n1 n2) ?_
   rintro _ h16 ⟨rfl,k16,L16⟩
   conv=>whnf
   exact ⟨rfl,k16,L3.trans L16⟩
  refine ACmp.no (c5) ?_;conv=>whnf
  rw [if_neg c5]
  by_cases c6:op=6
  ·refine ACmp.yes (c6) ?_;conv=>whnf
   rw [if_pos c6]
   refine ALoad.one rfl r3 rfl ?_;conv=>whnf
   refine ACalls.mono (change_any k i n1 n2 s.b (by omega)) ?_
   rintro _ h16 ⟨rfl,k16,L16⟩
   conv=>whnf
   exact ⟨rfl,k16,L3.trans L16⟩
  refine ACmp.no (c6) ?_;conv=>whnf
  rw [if_neg c6]
  by_cases c7:op=7
  ·refine ACmp.yes (c7) ?_;conv=>whnf
   rw [if_pos c7]
   refine AIdxA.nat (n:=6) (z:=1) (j:=m) (by omega) (by omega) rfl rfl ?_;conv=>whnf
   refine ALoad.one (v:=Ptr b) rfl k.str (by have:=core_cell x0 v n1 n5;rw [hb] at this;rw [show 0+2+m*1=2+(n).toNat by omega];exact this) ?_;conv=>whnf
   refine ACalls.mono (read_net (N+1) (by omega) id (i.cok n1 n2)) ?_
   rintro _ h7 (⟨er,rfl,s7⟩ | ⟨ez,u,rfl,ox,rfl,ok7,id7,kk7⟩)
   ·conv=>whnf
    refine AAlloc.mkN (0,1) (outCells out0 ox0) rfl fun b8 h8 n8 s8 k8=>?_;conv=>whnf
    refine AStore.aggN rfl rfl rfl (k8) rfl (outCells out0 ox0) rfl fun h9 t9 k9 a9 e9=>?_;conv=>whnf
    refine ALoad.agg rfl k9 rfl rfl ?_;conv=>whnf
    refine ACalls.mono (out_no h9 p n er) ?_
    rintro _ h10 ⟨rfl,s10⟩
    conv=>whnf
    have s9:Sub h7 h9:=a9 h7 s8 n8
    have e:x0.read n=x0:=by unfold NetM.read;rw [if_neg er]
    rw [e]
    exact ⟨rfl,⟨v,(((k.sub s7).sub s9).sub s10)⟩,L3.trans (s7.trans (s9.trans s10)).low⟩
   ·conv=>whnf
    refine AAlloc.mkN (0,1) (outCells out0 ox0) rfl fun b8 h8 n8 s8 k8=>?_;conv=>whnf
    refine AStore.aggN rfl rfl rfl (k8) rfl (outCells (x0.cores.get n).read.done.2 ox) rfl fun h9 t9 k9 a9 e9=>?_;conv=>whnf
    have s9:Sub h7 h9:=a9 h7 s8 n8
    have okk:=i.keepRead n1 n2 ez (by omega)
    have ke:=(k.coreSet n1 n2 hb kk7 id7).sub s9
    have oe:OutOk h9 (N+1) (x0.cores.get n).read.done.2 ox:=ok7.move fun _ _ _ _ e=>s9 _ _ e
    have e:x0.read n=x0.out n (x0.cores.get n).read:=by unfold NetM.read;rw [if_pos ez]
    rw [e]
    refine ALoad.agg rfl k9 rfl rfl ?_;conv=>whnf
    refine ACalls.mono (out_yes ke n1 n2 oe okk) ?_
    rintro _ h16 ⟨rfl,k16,L16⟩
    conv=>whnf
    exact ⟨rfl,k16,(L3.trans (keeps_low n1 kk7)).trans (s9.low.trans L16)⟩
  refine ACmp.no (c7) ?_;conv=>whnf
  rw [if_neg c7]
  by_cases c8:op=8
  ·refine ACmp.yes (c8) ?_;conv=>whnf
   rw [if_pos c8]
   refine ACalls.mono (compact_any k i n1 n2) ?_
   rintro _ h16 ⟨rfl,k16,L16⟩
   conv=>whnf
   exact ⟨rfl,k16,L3.trans L16⟩
  refine ACmp.no (c8) ?_;conv=>whnf
  rw [if_neg c8]
  have tcut:∀ K:Nat,(List.range (K+1)).foldl (fun (y:NetM) (k:Nat)=>y.tick ((k:Int)+1) (x0.draw+(k:Int)+1)) x0=((List.range K).foldl (fun (y:NetM) (k:Nat)=>y.tick ((k:Int)+1) (x0.draw+(k:Int)+1)) x0).tick ((K:Int)+1) (x0.draw+(K:Int)+1):=fun K=>by rw [List.range_succ,List.foldl_append];rfl
  refine ALoop.mk (fun e h'=>∃ (e0:Env) (K:Nat) (xk:NetM) (vk:NX) (gk:Gh),e=updL 284 e0 [(0,Ptr p),(17,I ((K:Int)+1))]∧(K:Int)≤x0.size∧xk=(List.range K).foldl (fun (y:NetM) (k:Nat)=>y.tick ((k:Int)+1) (x0.draw+(k:Int)+1)) x0∧xk.size=x0.size∧xk.draw=x0.draw∧NetX h' N p xk vk∧NetI gk xk∧gk.lim≤g.lim+10*K∧Low N h h')
   (fun e=>7-natOf (e 17)) ⟨_,0,x0,v,g,updL_self ⟨rfl,rfl,trivial⟩,by omega,rfl,rfl,rfl,k,i,by omega,L3⟩ ?_
  rintro e h' ⟨e0,K,xk,vk,gk,rfl,hK,hxk,hxs,hxd,kk,ik,hgk,LK⟩
  conv=>whnf
  refine ALoad.one rfl kk.str rfl ?_;conv=>whnf
  by_cases cK:(K:Int)+1≤xk.size
  ·refine ACmp.yes (cK) ?_;conv=>whnf
   have m1:1≤(K:Int)+1:=by omega
   have m5:(K:Int)+1≤5:=by omega
   obtain ⟨bk,hbk,idk⟩:=kk.cores ((K:Int)+1) m1 cK
   have hd1:0≤x0.draw+(K:Int)+1:=by omega
   have okk:=ik.keepTick m1 cK hd1 (by omega)
   have gos:=ik.tick m1 cK hd1 (by omega)
   obtain ⟨⟨g2,i2,l2⟩,z2,d2⟩:=gos
   rw [← hxd] at okk hd1 i2 z2 d2
   refine ADrawn.mkT (h') [12] (.take 0 (.take 1 (.take 2 (.take 3 (.take 4 (.take 5 (.take 6 (.take 7 (.take 8 (.take 9 (.take 10 (.take 11 (.alt 12 (.take 13 (.take 14 (.take 15 (.take 16 (.take 17 (.take 18 (.done))))))) (.alt 16 (.take 12 (.take 13 (.take 14 (.take 15 (.take 17 (.take 18 (.done))))))) (.stop))))))))))))))) (Sub.refl _) (by decide +kernel) ?_;conv=>whnf
   refine AIdxA.nat (n:=6) (z:=1) (j:=K+1) (by omega) (by omega) rfl rfl ?_;conv=>whnf
   refine ALoad.one (v:=Ptr bk) rfl kk.str (by have:=core_cell xk vk m1 m5;rw [hbk] at this;rw [show 0+2+(K+1)*1=2+((K:Int)+1).toNat by omega];exact this) ?_
   refine ALoad.one rfl kk.str rfl ?_;conv=>whnf
   refine AArith.ok (by omega) (by omega) ((by omega:xk.draw+((K:Int)+1)=xk.draw+(K:Int)+1)) ?_;conv=>whnf
   refine And.intro ?_ ?_
   ·refine ACalls.mono (tick_net (N+1) (by omega) idk (ik.cok m1 cK) hd1) ?_
    rintro _ h7 ⟨u,rfl,ox,rfl,ok7,id7,kk7⟩
    conv=>whnf
    refine AAlloc.mkN (0,1) (outCells out0 ox0) rfl fun b8 h8 n8 s8 k8=>?_;conv=>whnf
    refine ⟨Sub.nil _,?_⟩;conv=>whnf
    refine AStore.aggN rfl rfl rfl (k8) rfl (outCells ((xk.cores.get ((K:Int)+1)).tick (xk.draw+(K:Int)+1)).done.2 ox) rfl fun h9 t9 k9 a9 e9=>?_;conv=>whnf
    refine ⟨Sub.nil _,?_⟩;conv=>whnf
    have s9:Sub h7 h9:=a9 h7 s8 n8
    have ke:=(kk.coreSet m1 cK hbk kk7 id7).sub s9
    have oe:OutOk h9 (N+1) ((xk.cores.get ((K:Int)+1)).tick (xk.draw+(K:Int)+1)).done.2 ox:=ok7.move fun _ _ _ _ e=>s9 _ _ e
    refine ALoad.agg rfl k9 rfl rfl ?_;conv=>whnf
    refine ACalls.mono (out_yes ke m1 cK oe okk) ?_
    rintro _ h16 ⟨rfl,k16,L16⟩
    conv=>whnf
    obtain ⟨v16,k16⟩:=k16
    refine AArith.ok (by omega) (by omega) ((by omega:(K:Int)+1+1=((K+1:Nat):Int)+1)) ?_;conv=>whnf
    refine ⟨⟨_,K+1,_,v16,g2,updL_self ⟨rfl,rfl,trivial⟩,by omega,by rw [tcut,← hxk,← hxd],z2.trans hxs,d2.trans hxd,k16,i2,by omega,(LK.trans (keeps_low m1 kk7)).trans (s9.low.trans L16)⟩,?_⟩
    show 7-(((K+1:Nat):Int)+1).toNat<7-((K:Int)+1).toNat
    omega
   ·conv=>whnf
    refine And.intro ?_ trivial
    refine AAlloc.mkN (0,1) (outCells out0 ox0) rfl fun b8 h8 n8 s8 k8=>?_;conv=>whnf
    refine ⟨s8,?_⟩;conv=>whnf
    have id8:PIdle h8 bk (N+2*((K:Int)+1).toNat) (xk.cores.get ((K:Int)+1)):=idk.move fun _ _ _ _ e=>s8 _ _ e
    refine ACalls.mono (tick_net (N+1) (by omega) id8 (ik.cok m1 cK) hd1) ?_
    rintro _ h7 ⟨u,rfl,ox,rfl,ok7,id7,kk7⟩
    conv=>whnf
    refine AStore.aggN rfl rfl rfl ((kk7 _ _ _ (not_loc hN) k8)) rfl (outCells ((xk.cores.get ((K:Int)+1)).tick (xk.draw+(K:Int)+1)).done.2 ox) rfl fun h9 t9 k9 a9 e9=>?_;conv=>whnf
    refine ⟨Sub.nil _,?_⟩;conv=>whnf
    have ke:=((kk.sub s8).coreSet m1 cK hbk kk7 id7).local t9
    have oe:OutOk h9 (N+1) ((xk.cores.get ((K:Int)+1)).tick (xk.draw+(K:Int)+1)).done.2 ox:=ok7.local (by omega) t9
    refine ALoad.agg rfl k9 rfl rfl ?_;conv=>whnf
    refine ACalls.mono (out_yes ke m1 cK oe okk) ?_
    rintro _ h16 ⟨rfl,k16,L16⟩
    conv=>whnf
    obtain ⟨v16,k16⟩:=k16
    refine AArith.ok (by omega) (by omega) ((by omega:(K:Int)+1+1=((K+1:Nat):Int)+1)) ?_;conv=>whnf
    have LL:Low N h' h9:=fun b t y ht e=>e9 _ _ (fun z=>by rw [z,n8] at e;cases e) (kk7 _ _ _ (by simp;omega) (s8 _ _ e))
    refine ⟨⟨_,K+1,_,v16,g2,updL_self ⟨rfl,rfl,trivial⟩,by omega,by rw [tcut,← hxk,← hxd],z2.trans hxs,d2.trans hxd,k16,i2,by omega,LK.trans (LL.trans L16)⟩,?_⟩
    show 7-(((K+1:Nat):Int)+1).toNat<7-((K:Int)+1).toNat
    omega
  ·refine ACmp.no (cK) ?_;conv=>whnf
   have e:x0.tickAll=xk:=by
    rw [hxk];unfold NetM.tickAll
    rw [show x0.size.toNat=K by omega]
   rw [e]
   exact ⟨rfl,⟨vk,kk⟩,LK⟩
 ·refine ACmp.no ((by omega)) ?_;conv=>whnf
  have hop1:=bring_in s.op 10 (by omega)
  obtain ⟨op,hop⟩:∃ op,op=bring s.op 10:=⟨_,rfl⟩
  refine ALoad.one rfl r3 rfl ?_;conv=>whnf
  refine ACalls.mono (bring_any s.op 10 (by omega) h3) ?_;rintro _ _ ⟨rfl,rfl⟩;conv=>whnf
  rw [← hop]
  have hst:x0.stepOf s.m=(if op=0 then x0.opTake (bring s.a x0.mails.length).toNat x0.mails[(bring s.a x0.mails.length).toNat]?
   else if op=1 then x0.tick n x0.draw
   else if op=2 then x0.propose n 1 [s.b % 256,x0.draw % 256]
   else if op=3 then (if x0.mails=[] then x0 else {x0 with mails:=dropN x0.mails (bring s.a x0.mails.length).toNat})
   else if op=4 then x0.opTwice x0.mails[(bring s.a x0.mails.length).toNat]?
   else if op=5 then x0.again n
   else if op=6 then x0.change n s.b
   else if op=7 then x0.read n
   else if op=8 then x0.compact n
   else x0.tickAll):=by rw [hop,hn];rfl
  rw [hst]
  clear hst
  conv=>whnf
  by_cases c0:op=0
  ·refine ACmp.yes (c0) ?_;conv=>whnf
   rw [if_pos c0]
   have hm0:x0.mails=[]:=List.eq_nil_of_length_eq_zero (by omega)
   have hmn:x0.mails[(bring s.a x0.mails.length).toNat]? = none:=by rw [hm0];rfl
   rw [hmn]
   refine ALoad.one rfl k.str rfl ?_;conv=>whnf
   refine ACmp.no ((by omega)) ?_;conv=>whnf
   exact ⟨rfl,⟨v,k⟩,L3⟩
  refine ACmp.no (c0) ?_;conv=>whnf
  rw [if_neg c0]
  by_cases c1:op=1
  ·refine ACmp.yes (c1) ?_;conv=>whnf
   rw [if_pos c1]
   refine ADrawn.mkT (h3) [10] (.take 0 (.take 1 (.take 2 (.take 3 (.take 4 (.take 5 (.take 6 (.take 7 (.take 8 (.take 9 (.alt 10 (.take 11 (.take 12 (.take 13 (.take 14 (.take 15 (.take 16 (.done))))))) (.alt 14 (.take 10 (.take 11 (.take 12 (.take 13 (.take 15 (.take 16 (.done))))))) (.stop))))))))))))) (Sub.refl _) (by decide +kernel) ?_;conv=>whnf
   refine AIdxA.nat (n:=6) (z:=1) (j:=m) (by omega) (by omega) rfl rfl ?_;conv=>whnf
   refine ALoad.one (v:=Ptr b) rfl k.str (by have:=core_cell x0 v n1 n5;rw [hb] at this;rw [show 0+2+m*1=2+(n).toNat by omega];exact this) ?_
   refine ALoad.one rfl k.str rfl ?_;conv=>whnf
   have okk:=i.keepTick n1 n2 hd0.1 (by omega)
   refine And.intro ?_ ?_
   ·refine ACalls.mono (tick_net (N+1) (by omega) id (i.cok n1 n2) hd0.1) ?_
    rintro _ h7 ⟨u,rfl,ox,rfl,ok7,id7,kk7⟩
    conv=>whnf
    refine AAlloc.mkN (0,1) (outCells out0 ox0) rfl fun b8 h8 n8 s8 k8=>?_;conv=>whnf
    refine ⟨Sub.nil _,?_⟩;conv=>whnf
    refine AStore.aggN rfl rfl rfl (k8) rfl (outCells ((x0.cores.get n).tick x0.draw).done.2 ox) rfl fun h9 t9 k9 a9 e9=>?_;conv=>whnf
    refine ⟨Sub.nil _,?_⟩;conv=>whnf
    have s9:Sub h7 h9:=a9 h7 s8 n8
    have ke:=(k.coreSet n1 n2 hb kk7 id7).sub s9
    have oe:OutOk h9 (N+1) ((x0.cores.get n).tick x0.draw).done.2 ox:=ok7.move fun _ _ _ _ e=>s9 _ _ e
    refine ALoad.agg rfl k9 rfl rfl ?_;conv=>whnf
    refine ACalls.mono (out_yes ke n1 n2 oe okk) ?_
    rintro _ h16 ⟨rfl,k16,L16⟩
    conv=>whnf
    exact ⟨rfl,k16,(L3.trans (keeps_low n1 kk7)).trans (s9.low.trans L16)⟩
   ·conv=>whnf
    refine And.intro ?_ trivial
    refine AAlloc.mkN (0,1) (outCells out0 ox0) rfl fun b8 h8 n8 s8 k8=>?_;conv=>whnf
    refine ⟨s8,?_⟩;conv=>whnf
    have id8:PIdle h8 b (N+2*n.toNat) (x0.cores.get n):=id.move fun _ _ _ _ e=>s8 _ _ e
    refine ACalls.mono (tick_net (N+1) (by omega) id8 (i.cok n1 n2) hd0.1) ?_
    rintro _ h7 ⟨u,rfl,ox,rfl,ok7,id7,kk7⟩
    conv=>whnf
    refine AStore.aggN rfl rfl rfl ((kk7 _ _ _ (not_loc hN) k8)) rfl (outCells ((x0.cores.get n).tick x0.draw).done.2 ox) rfl fun h9 t9 k9 a9 e9=>?_;conv=>whnf
    refine ⟨Sub.nil _,?_⟩;conv=>whnf
    have ke:=((k.sub s8).coreSet n1 n2 hb kk7 id7).local t9
    have oe:OutOk h9 (N+1) ((x0.cores.get n).tick x0.draw).done.2 ox:=ok7.local (by omega) t9
    refine ALoad.agg rfl k9 rfl rfl ?_;conv=>whnf
    refine ACalls.mono (out_yes ke n1 n2 oe okk) ?_
    rintro _ h16 ⟨rfl,k16,L16⟩
    conv=>whnf
    refine ⟨rfl,k16,L3.trans (Low.trans ?_ L16)⟩
    exact fun b t y ht e=>e9 _ _ (fun z=>by rw [z,n8] at e;cases e) (kk7 _ _ _ (by simp;omega) (s8 _ _ e))
  refine ACmp.no (c1) ?_;conv=>whnf
  rw [if_neg c1]
  by_cases c2:op=2
  ·refine ACmp.yes (c2) ?_;conv=>whnf
   rw [if_pos c2]
   obtain ⟨dl,hdl⟩:∃ dl,dl=[s.b % 256,x0.draw % 256]:=⟨_,rfl⟩
   rw [← hdl]
   have hdb:∀ z∈dl,0≤z∧z<256:=fun z hz=>by
    rw [hdl] at hz
    simp only [List.mem_cons,List.not_mem_nil,or_false] at hz
    rcases hz with rfl | rfl
    ·exact ⟨Int.emod_nonneg _ (by omega),Int.emod_lt_of_pos _ (by omega)⟩
    ·exact ⟨Int.emod_nonneg _ (by omega),Int.emod_lt_of_pos _ (by omega)⟩
   have okk:∀ ez,_:=fun ez=>i.keepPropose n1 n2 (kind:=1) (data:=dl) ez hdb (fun h=>by omega) (by omega)
   have e0:(x0.cores.get n).proposeE 1 dl≠0→x0.propose n 1 dl=x0:=fun er=>by unfold NetM.propose;rw [if_neg er]
   have e1:(x0.cores.get n).proposeE 1 dl=0→x0.propose n 1 dl=x0.out n ((x0.cores.get n).propose 1 dl):=fun ez=>by unfold NetM.propose;rw [if_pos ez]
   refine ADrawn.mkT (h3) [15] (.take 0 (.take 1 (.take 2 (.take 3 (.take 4 (.take 5 (.take 6 (.take 7 (.take 8 (.take 9 (.take 10 (.take 11 (.take 12 (.take 13 (.alt 14 (.alt 15 (.take 16 (.take 17 (.take 18 (.take 19 (.take 20 (.take 21 (.take 22 (.take 23 (.done))))))))) (.alt 20 (.take 15 (.take 16 (.take 17 (.take 18 (.take 19 (.take 21 (.take 22 (.take 23 (.done))))))))) (.stop))) (.alt 20 (.take 14 (.take 15 (.take 16 (.take 17 (.take 18 (.take 19 (.take 21 (.take 22 (.take 23 (.done)))))))))) (.stop))))))))))))))))) (Sub.refl _) (by decide +kernel) ?_;conv=>whnf
   refine AIdxA.nat (n:=6) (z:=1) (j:=m) (by omega) (by omega) rfl rfl ?_;conv=>whnf
   refine ALoad.one (v:=Ptr b) rfl k.str (by have:=core_cell x0 v n1 n5;rw [hb] at this;rw [show 0+2+m*1=2+(n).toNat by omega];exact this) ?_
   refine ALoad.one rfl r3 rfl ?_;conv=>whnf
   refine AArith.raw ?_
   rw [u8_mod]
   conv=>whnf
   refine ALoad.one rfl k.str rfl ?_;conv=>whnf
   refine AArith.raw ?_
   rw [u8_mod]
   conv=>whnf
   refine And.intro ?_ ?_
   ·refine ABuildSl.mkN (0,1) [.int .u8 (s.b % 256), .int .u8 (x0.draw % 256)] rfl rfl rfl rfl rfl rfl rfl fun b6 h5 n5' s5 k6=>?_;conv=>whnf
    refine ⟨s5,?_⟩;conv=>whnf
    refine And.intro ?_ ?_
    ·have idC:PIdle h5 b (N+2*n.toNat) (x0.cores.get n):=id.move fun _ _ _ _ e=>s5 _ _ e
     refine ACalls.mono (propose_net (N+1) (by omega) idC (i.cok n1 n2) 1 (data:=dl) (row_sl (by rw [hdl];rfl) (by rw [hdl];exact k6)) hdb) ?_
     rintro _ h7 (⟨er,rfl,s7⟩ | ⟨ez,u,rfl,ox,rfl,ok7,id7,kk7⟩)
     ·conv=>whnf
      refine AAlloc.mkN (0,1) (outCells out0 ox0) rfl fun b8 h8 n8 s8 k8=>?_;conv=>whnf
      refine ⟨Sub.nil _,?_⟩;conv=>whnf
      refine AStore.aggN rfl rfl rfl (k8) rfl (outCells out0 ox0) rfl fun h9 t9 k9 a9 e9=>?_;conv=>whnf
      refine ⟨Sub.nil _,?_⟩;conv=>whnf
      refine ALoad.agg rfl k9 rfl rfl ?_;conv=>whnf
      refine ACalls.mono (out_no h9 p n er) ?_
      rintro _ h10 ⟨rfl,s10⟩
      conv=>whnf
      rw [e0 er]
      have s9:Sub h7 h9:=a9 h7 s8 n8
      exact ⟨rfl,⟨v,(((k.sub s5).sub s7).sub s9).sub s10⟩,L3.trans ((s5.trans s7).trans (s9.trans s10)).low⟩
     ·conv=>whnf
      refine AAlloc.mkN (0,1) (outCells out0 ox0) rfl fun b8 h8 n8 s8 k8=>?_;conv=>whnf
      refine ⟨Sub.nil _,?_⟩;conv=>whnf
      refine AStore.aggN rfl rfl rfl (k8) rfl (outCells ((x0.cores.get n).propose 1 dl).done.2 ox) rfl fun h9 t9 k9 a9 e9=>?_;conv=>whnf
      refine ⟨Sub.nil _,?_⟩;conv=>whnf
      have s9:Sub h7 h9:=a9 h7 s8 n8
      have ke:=((k.sub s5).coreSet n1 n2 hb kk7 id7).sub s9
      have oe:OutOk h9 (N+1) ((x0.cores.get n).propose 1 dl).done.2 ox:=ok7.move fun _ _ _ _ e=>s9 _ _ e
      rw [e1 ez]
      have okz:=okk ez
      refine ALoad.agg rfl k9 rfl rfl ?_;conv=>whnf
      refine ACalls.mono (out_yes ke n1 n2 oe okz) ?_
      rintro _ h16 ⟨rfl,k16,L16⟩
      conv=>whnf
      exact ⟨rfl,k16,L3.trans ((s5.low.trans (keeps_low n1 kk7)).trans (s9.low.trans L16))⟩
    ·conv=>whnf
     refine And.intro ?_ trivial
     refine AAlloc.mkN (0,1) (outCells out0 ox0) rfl fun b8 h8 n8 s8 k8=>?_;conv=>whnf
     have sC:=s5.trans s8
     refine ⟨sC,?_⟩;conv=>whnf
     have k6C:=s8 _ _ k6
     have nb8:h3 b8=none:=by cases e:h3 b8 with | none=>rfl | some y=>rw [s5 _ _ e] at n8;cases n8
     have idC:PIdle h8 b (N+2*n.toNat) (x0.cores.get n):=id.move fun _ _ _ _ e=>sC _ _ e
     refine ACalls.mono (propose_net (N+1) (by omega) idC (i.cok n1 n2) 1 (data:=dl) (row_sl (by rw [hdl];rfl) (by rw [hdl];exact k6C)) hdb) ?_
     rintro _ h7 (⟨er,rfl,s7⟩ | ⟨ez,u,rfl,ox,rfl,ok7,id7,kk7⟩)
     ·conv=>whnf
      refine AStore.aggN rfl rfl rfl ((s7 _ _ k8)) rfl (outCells out0 ox0) rfl fun h9 t9 k9 a9 e9=>?_;conv=>whnf
      refine ⟨Sub.nil _,?_⟩;conv=>whnf
      refine ALoad.agg rfl k9 rfl rfl ?_;conv=>whnf
      refine ACalls.mono (out_no h9 p n er) ?_
      rintro _ h10 ⟨rfl,s10⟩
      conv=>whnf
      rw [e0 er]
      exact ⟨rfl,⟨v,(((k.sub sC).sub s7).local t9).sub s10⟩,L3.trans ((a9 h3 (sC.trans s7) nb8).trans s10).low⟩
     ·conv=>whnf
      refine AStore.aggN rfl rfl rfl ((kk7 _ _ _ (not_loc hN) k8)) rfl (outCells ((x0.cores.get n).propose 1 dl).done.2 ox) rfl fun h9 t9 k9 a9 e9=>?_;conv=>whnf
      refine ⟨Sub.nil _,?_⟩;conv=>whnf
      have ke:=((k.sub sC).coreSet n1 n2 hb kk7 id7).local t9
      have oe:OutOk h9 (N+1) ((x0.cores.get n).propose 1 dl).done.2 ox:=ok7.local (by omega) t9
      rw [e1 ez]
      have okz:=okk ez
      refine ALoad.agg rfl k9 rfl rfl ?_;conv=>whnf
      refine ACalls.mono (out_yes ke n1 n2 oe okz) ?_
      rintro _ h16 ⟨rfl,k16,L16⟩
      conv=>whnf
      refine ⟨rfl,k16,L3.trans (Low.trans ?_ L16)⟩
      exact fun b t y ht e=>e9 _ _ (fun z=>by rw [z,nb8] at e;cases e) (kk7 _ _ _ (by simp;omega) (sC _ _ e))
   ·conv=>whnf
    refine And.intro ?_ trivial
    refine AAlloc.mkN (0,1) (outCells out0 ox0) rfl fun b8 h8 n8 s8 k8=>?_;conv=>whnf
    refine ⟨s8,?_⟩;conv=>whnf
    refine ABuildSl.mkN (0,1) [.int .u8 (s.b % 256), .int .u8 (x0.draw % 256)] rfl rfl rfl rfl rfl rfl rfl fun b6 h5 n5' s5 k6=>?_;conv=>whnf
    have sC:=s8.trans s5
    refine ⟨sC,?_⟩;conv=>whnf
    have k4C:=s5 _ _ k8
    have idC:PIdle h5 b (N+2*n.toNat) (x0.cores.get n):=id.move fun _ _ _ _ e=>sC _ _ e
    refine ACalls.mono (propose_net (N+1) (by omega) idC (i.cok n1 n2) 1 (data:=dl) (row_sl (by rw [hdl];rfl) (by rw [hdl];exact k6)) hdb) ?_
    rintro _ h7 (⟨er,rfl,s7⟩ | ⟨ez,u,rfl,ox,rfl,ok7,id7,kk7⟩)
    ·conv=>whnf
     refine AStore.aggN rfl rfl rfl ((s7 _ _ k4C)) rfl (outCells out0 ox0) rfl fun h9 t9 k9 a9 e9=>?_;conv=>whnf
     refine ⟨Sub.nil _,?_⟩;conv=>whnf
     refine ALoad.agg rfl k9 rfl rfl ?_;conv=>whnf
     refine ACalls.mono (out_no h9 p n er) ?_
     rintro _ h10 ⟨rfl,s10⟩
     conv=>whnf
     rw [e0 er]
     exact ⟨rfl,⟨v,(((k.sub sC).sub s7).local t9).sub s10⟩,L3.trans ((a9 h3 (sC.trans s7) n8).trans s10).low⟩
    ·conv=>whnf
     refine AStore.aggN rfl rfl rfl ((kk7 _ _ _ (not_loc hN) k4C)) rfl (outCells ((x0.cores.get n).propose 1 dl).done.2 ox) rfl fun h9 t9 k9 a9 e9=>?_;conv=>whnf
     refine ⟨Sub.nil _,?_⟩;conv=>whnf
     have ke:=((k.sub sC).coreSet n1 n2 hb kk7 id7).local t9
     have oe:OutOk h9 (N+1) ((x0.cores.get n).propose 1 dl).done.2 ox:=ok7.local (by omega) t9
     rw [e1 ez]
     have okz:=okk ez
     refine ALoad.agg rfl k9 rfl rfl ?_;conv=>whnf
     refine ACalls.mono (out_yes ke n1 n2 oe okz) ?_
     rintro _ h16 ⟨rfl,k16,L16⟩
     conv=>whnf
     refine ⟨rfl,k16,L3.trans (Low.trans ?_ L16)⟩
     exact fun b t y ht e=>e9 _ _ (fun z=>by rw [z,n8] at e;cases e) (kk7 _ _ _ (by simp;omega) (sC _ _ e))
  refine ACmp.no (c2) ?_;conv=>whnf
  rw [if_neg c2]
  by_cases c3:op=3
  ·refine ACmp.yes (c3) ?_;conv=>whnf
   rw [if_pos c3]
   have hm0:x0.mails=[]:=List.eq_nil_of_length_eq_zero (by omega)
   rw [if_pos hm0]
   refine ALoad.one rfl k.str rfl ?_;conv=>whnf
   refine ACmp.no ((by omega)) ?_;conv=>whnf
   exact ⟨rfl,⟨v,k⟩,L3⟩
  refine ACmp.no (c3) ?_;conv=>whnf
  rw [if_neg c3]
  by_cases c4:op=4
  ·refine ACmp.yes (c4) ?_;conv=>whnf
   rw [if_pos c4]
   have hm0:x0.mails=[]:=List.eq_nil_of_length_eq_zero (by omega)
   have hmn:x0.mails[(bring s.a x0.mails.length).toNat]? = none:=by rw [hm0];rfl
   rw [hmn]
   refine ALoad.one rfl k.str rfl ?_;conv=>whnf
   refine ACmp.no ((by omega)) ?_;conv=>whnf
   exact ⟨rfl,⟨v,k⟩,L3⟩
  refine ACmp.no (c4) ?_;conv=>whnf
  rw [if_neg c4]
  by_cases c5:op=5
  ·refine ACmp.yes (c5) ?_;conv=>whnf
   rw [if_pos c5]
   refine ACalls.mono (again_any k i n1 n2) ?_
   rintro _ h16 ⟨rfl,k16,L16⟩
   conv=>whnf
   exact ⟨rfl,k16,L3.trans L16⟩
  refine ACmp.no (c5) ?_;conv=>whnf
  rw [if_neg c5]
  by_cases c6:op=6
  ·refine ACmp.yes (c6) ?_;conv=>whnf
   rw [if_pos c6]
   refine ALoad.one rfl r3 rfl ?_;conv=>whnf
   refine ACalls.mono (change_any k i n1 n2 s.b (by omega)) ?_
   rintro _ h16 ⟨rfl,k16,L16⟩
   conv=>whnf
   exact ⟨rfl,k16,L3.trans L16⟩
  refine ACmp.no (c6) ?_;conv=>whnf
  rw [if_neg c6]
  by_cases c7:op=7
  ·refine ACmp.yes (c7) ?_;conv=>whnf
   rw [if_pos c7]
   refine AIdxA.nat (n:=6) (z:=1) (j:=m) (by omega) (by omega) rfl rfl ?_;conv=>whnf
   refine ALoad.one (v:=Ptr b) rfl k.str (by have:=core_cell x0 v n1 n5;rw [hb] at this;rw [show 0+2+m*1=2+(n).toNat by omega];exact this) ?_;conv=>whnf
   refine ACalls.mono (read_net (N+1) (by omega) id (i.cok n1 n2)) ?_
   rintro _ h7 (⟨er,rfl,s7⟩ | ⟨ez,u,rfl,ox,rfl,ok7,id7,kk7⟩)
   ·conv=>whnf
    refine AAlloc.mkN (0,1) (outCells out0 ox0) rfl fun b8 h8 n8 s8 k8=>?_;conv=>whnf
    refine AStore.aggN rfl rfl rfl (k8) rfl (outCells out0 ox0) rfl fun h9 t9 k9 a9 e9=>?_;conv=>whnf
    refine ALoad.agg rfl k9 rfl rfl ?_;conv=>whnf
    refine ACalls.mono (out_no h9 p n er) ?_
    rintro _ h10 ⟨rfl,s10⟩
    conv=>whnf
    have s9:Sub h7 h9:=a9 h7 s8 n8
    have e:x0.read n=x0:=by unfold NetM.read;rw [if_neg er]
    rw [e]
    exact ⟨rfl,⟨v,(((k.sub s7).sub s9).sub s10)⟩,L3.trans (s7.trans (s9.trans s10)).low⟩
   ·conv=>whnf
    refine AAlloc.mkN (0,1) (outCells out0 ox0) rfl fun b8 h8 n8 s8 k8=>?_;conv=>whnf
    refine AStore.aggN rfl rfl rfl (k8) rfl (outCells (x0.cores.get n).read.done.2 ox) rfl fun h9 t9 k9 a9 e9=>?_;conv=>whnf
    have s9:Sub h7 h9:=a9 h7 s8 n8
    have okk:=i.keepRead n1 n2 ez (by omega)
    have ke:=(k.coreSet n1 n2 hb kk7 id7).sub s9
    have oe:OutOk h9 (N+1) (x0.cores.get n).read.done.2 ox:=ok7.move fun _ _ _ _ e=>s9 _ _ e
    have e:x0.read n=x0.out n (x0.cores.get n).read:=by unfold NetM.read;rw [if_pos ez]
    rw [e]
    refine ALoad.agg rfl k9 rfl rfl ?_;conv=>whnf
    refine ACalls.mono (out_yes ke n1 n2 oe okk) ?_
    rintro _ h16 ⟨rfl,k16,L16⟩
    conv=>whnf
    exact ⟨rfl,k16,(L3.trans (keeps_low n1 kk7)).trans (s9.low.trans L16)⟩
  refine ACmp.no (c7) ?_;conv=>whnf
  rw [if_neg c7]
  by_cases c8:op=8
  ·refine ACmp.yes (c8) ?_;conv=>whnf
   rw [if_pos c8]
   refine ACalls.mono (compact_any k i n1 n2) ?_
   rintro _ h16 ⟨rfl,k16,L16⟩
   conv=>whnf
   exact ⟨rfl,k16,L3.trans L16⟩
  refine ACmp.no (c8) ?_;conv=>whnf
  rw [if_neg c8]
  have tcut:∀ K:Nat,(List.range (K+1)).foldl (fun (y:NetM) (k:Nat)=>y.tick ((k:Int)+1) (x0.draw+(k:Int)+1)) x0=((List.range K).foldl (fun (y:NetM) (k:Nat)=>y.tick ((k:Int)+1) (x0.draw+(k:Int)+1)) x0).tick ((K:Int)+1) (x0.draw+(K:Int)+1):=fun K=>by rw [List.range_succ,List.foldl_append];rfl
  refine ALoop.mk (fun e h'=>∃ (e0:Env) (K:Nat) (xk:NetM) (vk:NX) (gk:Gh),e=updL 284 e0 [(0,Ptr p),(17,I ((K:Int)+1))]∧(K:Int)≤x0.size∧xk=(List.range K).foldl (fun (y:NetM) (k:Nat)=>y.tick ((k:Int)+1) (x0.draw+(k:Int)+1)) x0∧xk.size=x0.size∧xk.draw=x0.draw∧NetX h' N p xk vk∧NetI gk xk∧gk.lim≤g.lim+10*K∧Low N h h')
   (fun e=>7-natOf (e 17)) ⟨_,0,x0,v,g,updL_self ⟨rfl,rfl,trivial⟩,by omega,rfl,rfl,rfl,k,i,by omega,L3⟩ ?_
  rintro e h' ⟨e0,K,xk,vk,gk,rfl,hK,hxk,hxs,hxd,kk,ik,hgk,LK⟩
  conv=>whnf
  refine ALoad.one rfl kk.str rfl ?_;conv=>whnf
  by_cases cK:(K:Int)+1≤xk.size
  ·refine ACmp.yes (cK) ?_;conv=>whnf
   have m1:1≤(K:Int)+1:=by omega
   have m5:(K:Int)+1≤5:=by omega
   obtain ⟨bk,hbk,idk⟩:=kk.cores ((K:Int)+1) m1 cK
   have hd1:0≤x0.draw+(K:Int)+1:=by omega
   have okk:=ik.keepTick m1 cK hd1 (by omega)
   have gos:=ik.tick m1 cK hd1 (by omega)
   obtain ⟨⟨g2,i2,l2⟩,z2,d2⟩:=gos
   rw [← hxd] at okk hd1 i2 z2 d2
   refine ADrawn.mkT (h') [12] (.take 0 (.take 1 (.take 2 (.take 3 (.take 4 (.take 5 (.take 6 (.take 7 (.take 8 (.take 9 (.take 10 (.take 11 (.alt 12 (.take 13 (.take 14 (.take 15 (.take 16 (.take 17 (.take 18 (.done))))))) (.alt 16 (.take 12 (.take 13 (.take 14 (.take 15 (.take 17 (.take 18 (.done))))))) (.stop))))))))))))))) (Sub.refl _) (by decide +kernel) ?_;conv=>whnf
   refine AIdxA.nat (n:=6) (z:=1) (j:=K+1) (by omega) (by omega) rfl rfl ?_;conv=>whnf
   refine ALoad.one (v:=Ptr bk) rfl kk.str (by have:=core_cell xk vk m1 m5;rw [hbk] at this;rw [show 0+2+(K+1)*1=2+((K:Int)+1).toNat by omega];exact this) ?_
   refine ALoad.one rfl kk.str rfl ?_;conv=>whnf
   refine AArith.ok (by omega) (by omega) ((by omega:xk.draw+((K:Int)+1)=xk.draw+(K:Int)+1)) ?_;conv=>whnf
   refine And.intro ?_ ?_
   ·refine ACalls.mono (tick_net (N+1) (by omega) idk (ik.cok m1 cK) hd1) ?_
    rintro _ h7 ⟨u,rfl,ox,rfl,ok7,id7,kk7⟩
    conv=>whnf
    refine AAlloc.mkN (0,1) (outCells out0 ox0) rfl fun b8 h8 n8 s8 k8=>?_;conv=>whnf
    refine ⟨Sub.nil _,?_⟩;conv=>whnf
    refine AStore.aggN rfl rfl rfl (k8) rfl (outCells ((xk.cores.get ((K:Int)+1)).tick (xk.draw+(K:Int)+1)).done.2 ox) rfl fun h9 t9 k9 a9 e9=>?_;conv=>whnf
    refine ⟨Sub.nil _,?_⟩;conv=>whnf
    have s9:Sub h7 h9:=a9 h7 s8 n8
    have ke:=(kk.coreSet m1 cK hbk kk7 id7).sub s9
    have oe:OutOk h9 (N+1) ((xk.cores.get ((K:Int)+1)).tick (xk.draw+(K:Int)+1)).done.2 ox:=ok7.move fun _ _ _ _ e=>s9 _ _ e
    refine ALoad.agg rfl k9 rfl rfl ?_;conv=>whnf
    refine ACalls.mono (out_yes ke m1 cK oe okk) ?_
    rintro _ h16 ⟨rfl,k16,L16⟩
    conv=>whnf
    obtain ⟨v16,k16⟩:=k16
    refine AArith.ok (by omega) (by omega) ((by omega:(K:Int)+1+1=((K+1:Nat):Int)+1)) ?_;conv=>whnf
    refine ⟨⟨_,K+1,_,v16,g2,updL_self ⟨rfl,rfl,trivial⟩,by omega,by rw [tcut,← hxk,← hxd],z2.trans hxs,d2.trans hxd,k16,i2,by omega,(LK.trans (keeps_low m1 kk7)).trans (s9.low.trans L16)⟩,?_⟩
    show 7-(((K+1:Nat):Int)+1).toNat<7-((K:Int)+1).toNat
    omega
   ·conv=>whnf
    refine And.intro ?_ trivial
    refine AAlloc.mkN (0,1) (outCells out0 ox0) rfl fun b8 h8 n8 s8 k8=>?_;conv=>whnf
    refine ⟨s8,?_⟩;conv=>whnf
    have id8:PIdle h8 bk (N+2*((K:Int)+1).toNat) (xk.cores.get ((K:Int)+1)):=idk.move fun _ _ _ _ e=>s8 _ _ e
    refine ACalls.mono (tick_net (N+1) (by omega) id8 (ik.cok m1 cK) hd1) ?_
    rintro _ h7 ⟨u,rfl,ox,rfl,ok7,id7,kk7⟩
    conv=>whnf
    refine AStore.aggN rfl rfl rfl ((kk7 _ _ _ (not_loc hN) k8)) rfl (outCells ((xk.cores.get ((K:Int)+1)).tick (xk.draw+(K:Int)+1)).done.2 ox) rfl fun h9 t9 k9 a9 e9=>?_;conv=>whnf
    refine ⟨Sub.nil _,?_⟩;conv=>whnf
    have ke:=((kk.sub s8).coreSet m1 cK hbk kk7 id7).local t9
    have oe:OutOk h9 (N+1) ((xk.cores.get ((K:Int)+1)).tick (xk.draw+(K:Int)+1)).done.2 ox:=ok7.local (by omega) t9
    refine ALoad.agg rfl k9 rfl rfl ?_;conv=>whnf
    refine ACalls.mono (out_yes ke m1 cK oe okk) ?_
    rintro _ h16 ⟨rfl,k16,L16⟩
    conv=>whnf
    obtain ⟨v16,k16⟩:=k16
    refine AArith.ok (by omega) (by omega) ((by omega:(K:Int)+1+1=((K+1:Nat):Int)+1)) ?_;conv=>whnf
    have LL:Low N h' h9:=fun b t y ht e=>e9 _ _ (fun z=>by rw [z,n8] at e;cases e) (kk7 _ _ _ (by simp;omega) (s8 _ _ e))
    refine ⟨⟨_,K+1,_,v16,g2,updL_self ⟨rfl,rfl,trivial⟩,by omega,by rw [tcut,← hxk,← hxd],z2.trans hxs,d2.trans hxd,k16,i2,by omega,LK.trans (LL.trans L16)⟩,?_⟩
    show 7-(((K+1:Nat):Int)+1).toNat<7-((K:Int)+1).toNat
    omega
  ·refine ACmp.no (cK) ?_;conv=>whnf
   have e:x0.tickAll=xk:=by
    rw [hxk];unfold NetM.tickAll
    rw [show x0.size.toNat=K by omega]
   rw [e]
   exact ⟨rfl,⟨vk,kk⟩,LK⟩
end
section
def Few (b:Nat) (c:CoreM):Prop:=c.out.reads.length+c.reads.length≤b∧c.out.snap.data.length≤8192
variable {b:Nat} {c:CoreM}
theorem Few.of {d:CoreM} (h:Few b c) (h1:d.out.reads=c.out.reads) (h2:d.reads.length≤c.reads.length) (h3:d.out.snap=c.out.snap):Few b d:=⟨by rw [h1];have:=h.1;omega,by rw [h3];exact h.2⟩
theorem say_few (h:Few b c) (n:Int) (p:PostM):Few b (c.say n p):=h
theorem send_few (h:Few b c) (n:Int):Few b (c.send n):=by unfold CoreM.send;split <;> exact h
theorem sends_few:∀ (l:List Int) {c:CoreM},Few b c→Few b (l.foldl CoreM.send c)
 | [],c,h=>h
 | m::l,c,h=>sends_few l (send_few h m)
theorem says_few (p:PostM):∀ (l:List Int) {c:CoreM},Few b c→Few b (l.foldl (fun x m=>x.say m p) c)
 | [],c,h=>h
 | m::l,c,h=>says_few p l (say_few h m p)
theorem sendAll_few (h:Few b c):Few b c.sendAll:=sends_few _ h
theorem follow_few (h:Few b c):Few b c.follow:=⟨by have:=h.1;show c.out.reads.length+0≤b;omega,h.2⟩
theorem rank_few (h:Few b c):Few b c.rank:=by
 have er:c.rank=(let d:={c with mtch:=c.mtch.set c.self c.log.last.1};let r:=rankOf d.crewNow.1 d.mtch;if r≤d.commit∨d.has r d.term=false then d else if hasB d.crewNow.1 d.self=false∧d.crewNow.2≤r then ({d with commit:=r}:CoreM).follow else {d with commit:=r}):=rfl
 rw [er]
 simp only []
 split
 ·exact h
 ·split
  ·exact follow_few (c:={c with mtch:=c.mtch.set c.self c.log.last.1,commit:=_}) h
  ·exact h
theorem put_few (h:Few b c) (k:Int) (d:List Int):Few b (c.put k d):=by
 unfold CoreM.put;simp only [];split <;> exact h
theorem lead_few (h:Few b c):Few b c.lead:=by
 rw [CoreM.lead_eq]
 refine rank_few (sendAll_few (put_few (c:=c.office) ?_ 0 []))
 exact Few.of h rfl (Nat.zero_le _) rfl
theorem learn_few (h:Few b c) (t:Int):Few b (c.learn t):=Few.of h rfl (Nat.zero_le _) rfl
theorem stand_few (h:Few b c):Few b c.stand:=by
 rw [CoreM.stand_is]
 split
 ·exact h
 ·have e:Few b (c.stoodM.others.foldl (fun x m=>x.say m {post0 with kind:=1,index:=c.log.last.1,logTerm:=c.log.last.2}) c.stoodM):=says_few _ _ (Few.of h rfl (Nat.zero_le _) rfl)
  split
  ·exact lead_few e
  ·exact e
theorem tick_few (h:Few b c) (d:Int):Few b (c.tick d):=by
 unfold CoreM.tick
 split
 ·split
  ·exact sendAll_few (c:={c with beat:=2}) h
  ·exact h
 ·simp only []
  split
  ·refine stand_few ?_
   exact Few.of h rfl (Nat.le_refl _) rfl
  ·exact h
theorem filter_two (p:Int→Bool):∀ l:List Int,(l.filter p).length+(l.filter fun r => !p r).length=l.length
 | []=>rfl
 | r::l=>by
  have:=filter_two p l
  rw [List.filter_cons,List.filter_cons]
  cases p r <;> simp <;> omega
theorem confirm_few (h:Few b c):Few b c.confirm:=by
 unfold CoreM.confirm
 split
 ·exact h
 ·refine ⟨?_,h.2⟩
  show (c.out.reads++c.reads.filter c.roundOk).length+(c.reads.filter fun r => !c.roundOk r).length≤b
  have:=filter_two c.roundOk c.reads
  have:=h.1
  rw [List.length_append];omega
theorem appendRest_few (h:Few b c) (l:List Abs):Few b (c.appendRest l):=by
 unfold CoreM.appendRest
 split
 ·exact h
 ·simp only [];split <;> exact h
theorem append_few (h:Few b c) (p:PostM):Few b (c.append p):=by
 rw [CoreM.append_eq]
 split
 ·exact h
 ·exact appendRest_few h (aList c p)
theorem install_few (h:Few b c) {p:PostM} (hp:p.snap.data.length≤8192):Few b (c.install p):=by
 unfold CoreM.install
 simp only []
 refine say_few ?_ _ _
 split
 ·exact ⟨h.1,hp⟩
 ·exact h
theorem told_few (h:Few b c) (p:PostM):Few b (c.told p):=by
 unfold CoreM.told
 refine confirm_few ?_
 simp only []
 split
 ·split
  ·refine send_few (rank_few ?_) _
   exact Few.of h rfl (Nat.le_refl _) rfl
  ·refine rank_few ?_
   exact Few.of h rfl (Nat.le_refl _) rfl
 ·refine send_few ?_ _
  exact Few.of h rfl (Nat.le_refl _) rfl
theorem take1_few (h:Few b c) {p:PostM} (hp:p.snap.data.length≤8192) (d:Int):Few b (c.take1 p d):=by
 unfold CoreM.take1
 split
 ·rw [CoreM.asked_eq]
  refine say_few ?_ _ _
  split <;> exact h
 ·split
  ·unfold CoreM.voted
   split
   ·exact h
   ·simp only [];split
    ·refine lead_few ?_
     exact Few.of h rfl (Nat.le_refl _) rfl
    ·exact h
  ·split
   ·split
    ·exact h
    ·simp only [];split
     ·refine install_few ?_ hp
      exact Few.of h rfl (Nat.zero_le _) rfl
     ·refine append_few ?_ p
      exact Few.of h rfl (Nat.zero_le _) rfl
   ·split
    ·exact told_few h p
    ·exact h
theorem take_few (h:Few b c) {p:PostM} (hp:p.snap.data.length≤8192) (d:Int):Few b (c.take p d):=by
 unfold CoreM.take
 split
 ·exact h
 ·split
  ·unfold CoreM.refuse;split
   ·exact h
   ·split <;> exact h
  ·split
   ·exact take1_few (learn_few h _) hp d
   ·exact take1_few h hp d
theorem anews_few (index:Int) (P:Int→Bool):∀ (l:List Int) {c:CoreM},Few b c→Few b (l.foldl (fun x m=>if P m=true then x else x.anew index m) c)
 | [],c,h=>h
 | m::l,c,h=>by rw [List.foldl_cons];refine anews_few index P l ?_;split <;> exact h
theorem propose_few (h:Few b c) (k:Int) (d:List Int):Few b (c.propose k d):=by
 rw [CoreM.propose_is]
 exact rank_few (sendAll_few (anews_few _ _ _ (put_few h k d)))
theorem read_few (h:Few b c):Few (b+1) c.read:=by
 unfold CoreM.read
 refine confirm_few (sendAll_few ⟨?_,h.2⟩)
 show c.out.reads.length+(c.reads++[c.round+1]).length≤b+1
 have:=h.1
 rw [List.length_append];simp;omega
structure Small (o:OutM):Prop where
  s:o.snap.data.length≤8192
  e:o.entries.length≤100000000
  r:o.reads.length≤100000000
  n:o.posts.length≤10
  p:∀ q∈o.posts,q.entries.length≤8∧q.snap.data.length≤8192
theorem small0:Small out0:=⟨by simp [out0,snap0],by simp [out0],by simp [out0],by simp [out0],by simp [out0]⟩
variable {g:Gh} {n:Int} {x:NetM}
theorem Msg.data {p:PostM} (m:Msg g p):p.snap.data.length≤8192:=by
 have none:∀ q:PostM,p=q→q.snap=snap0→p.snap.data.length≤8192:=fun q e h=>by rw [e,h];simp [snap0]
 rcases m.body with b | b | b | b | b | b
 ·exact none _ b.2.1 rfl
 ·exact none _ b.2.1 rfl
 ·exact none _ b.2.1 rfl
 ·exact none _ b.2.1 rfl
 ·obtain ⟨_,e,b1,b2,b3,b4,b5,b6,b7⟩:=b
  exact b6
 ·exact none _ b.2.1 rfl
def NetM.both (x:NetM) (n:Int) (c:CoreM):NetM:={x.out n c with mails:=x.mails++c.done.2.posts}
theorem both_cores (x:NetM) (n:Int) (c:CoreM):(x.both n c).cores=x.cores.set n c.done.1:=by
 unfold NetM.both NetM.out NetM.keep
 simp only []
 split <;> rfl
theorem both_size (x:NetM) (n:Int) (c:CoreM):(x.both n c).size=x.size:=(out_size x n c).1
theorem out_mails (x:NetM) (n:Int) (c:CoreM):∀ p∈x.mails,p∈(x.out n c).mails:=fun p hp=>by
 unfold NetM.out NetM.keep
 simp only []
 split
 ·exact List.mem_append_left _ hp
 ·exact hp
theorem NetI.both (k:NetI g x) (n1:1≤n) (n2:n≤x.size) {c:CoreM} (hl:g.lim+10≤100000000) (hc:(x.cores.get n).commit≤c.commit) (hp:c.pn≤(x.cores.get n).pn+10) (hf:Few 100000000 c)
  (h:∀ A,Mid (g.more 10) n (x.kept.get n) (x.cores.get n) A→(A.length:Int)+1≤(g.more 10).lim→(x.cores.get n).term+1≤(g.more 10).lim→(x.cores.get n).out=out0→(x.cores.get n).round+1≤(g.more 10).lim→((x.cores.get n).reads.length:Int)+1≤(g.more 10).lim →
   ∃ g' A',Ext n (g.more 10) g'∧g'.lim=(g.more 10).lim∧Mid g' n (x.kept.get n) c A'):(∃ g',NetI g' (x.both n c)∧g'.lim≤g.lim+10)∧Small c.done.2:=by
 have k':=k.more (d:=10) (by omega) hl
 obtain ⟨A,id⟩:=k.srv n n1 n2
 obtain ⟨A2,id2⟩:=k'.srv n n1 n2
 have hal:=id2.srv.al
 have h1:=id.srv.al;have h2:=k.w.l1 n n1 (by rw [k.sz];exact n2);have h3:=id.srv.tm;have h4:=id.srv.r2;have h5:=id.srv.rl
 have m0:Mid (g.more 10) n (x.kept.get n) (x.cores.get n) A:=Idl.mid k'.w ⟨id.srv.more (by omega),id.kept,id.out⟩
 obtain ⟨g',A',e,el,m⟩:=h A m0 (by show (A.length:Int)+1≤g.lim+10;omega) (by show (x.cores.get n).term+1≤g.lim+10;omega) id.out (by show (x.cores.get n).round+1≤g.lim+10;omega) (by show ((x.cores.get n).reads.length:Int)+1≤g.lim+10;omega)
 have o:=k'.out n1 n2 e m hc
 have hp0:(x.cores.get n).pn=0:=by unfold CoreM.pn;rw [id.out];rfl
 have ko:=k'.keepOk n1 n2 e m hc (by omega)
 refine ⟨⟨g',o.withMails fun p hp=>?_,by rw [el];exact Int.le_refl _⟩,⟨hf.2,?_,?_,?_,fun q hq=>?_⟩⟩
 ·rcases List.mem_append.1 hp with hp | hp
  ·exact o.mails p (out_mails x n c p hp)
  ·exact m.out p hp
 ·have hes:c.out.entries.length≤c.log.es.length:=by
   rcases m.kp.log with ⟨_,_,_,b⟩ | ⟨_,_,_,_,_,b⟩ | ⟨_,_,_,b,_⟩
   ·rw [b,List.length_append];omega
   ·rw [b,List.length_append];omega
   ·rw [b];simp
  have hlen1:=m.srv.rep.len;have hlo1:=m.srv.rep.lo;have hle1:=m.srv.rep.le;have al1:=m.srv.al;have l3':=m.w.l3
  show c.out.entries.length≤_
  omega
 ·have:=hf.1
  show c.out.reads.length≤_
  omega
 ·show c.pn≤10;omega
 ·have mq:=m.out q hq
  exact ⟨(mq.small m.w).2.2,mq.data⟩
theorem NetI.few (k:NetI g x) (n1:1≤n) (n2:n≤x.size) (hl:g.lim+10≤100000000):Few 99999990 (x.cores.get n):=by
 obtain ⟨A,id⟩:=k.srv n n1 n2
 have:=id.srv.rl
 refine ⟨?_,?_⟩
 ·rw [id.out];simp [out0];omega
 ·rw [id.out];simp [out0,snap0]
theorem Few.up (h:Few 99999990 c):Few 100000000 c:=⟨by have:=h.1;omega,h.2⟩
theorem NetI.bothTick (k:NetI g x) (n1:1≤n) (n2:n≤x.size) {d:Int} (hd:0≤d) (hl:g.lim+10≤100000000):(∃ g',NetI g' (x.both n ((x.cores.get n).tick d))∧g'.lim≤g.lim+10)∧Small ((x.cores.get n).tick d).done.2 :=
 k.both n1 n2 hl (tick_commit _ _) (tick_pn _ _) (tick_few (k.few n1 n2 hl) _).up fun A m h1 h2 h3 _ _=>m.tick (by rw [h3];rfl) h1 h2 hd
theorem NetI.bothPropose (k:NetI g x) (n1:1≤n) (n2:n≤x.size) {kind:Int} {data:List Int} (hE:(x.cores.get n).proposeE kind data=0) (hb:∀ z∈data,0≤z∧z<256) (hk:kind≠2) (hl:g.lim+10≤100000000) :
  (∃ g',NetI g' (x.both n ((x.cores.get n).propose kind data))∧g'.lim≤g.lim+10)∧Small ((x.cores.get n).propose kind data).done.2 :=
 k.both n1 n2 hl (propose_commit _ _ _) (Nat.le_trans (propose_pn _ _ _) (by omega)) (propose_few (k.few n1 n2 hl) _ _).up fun A m h1 h2 h3 _ _=>m.propose hE hb (fun h=>absurd h hk) (by rw [h3];rfl) h1
theorem NetI.bothRead (k:NetI g x) (n1:1≤n) (n2:n≤x.size) (hE:(x.cores.get n).readE=0) (hl:g.lim+10≤100000000):(∃ g',NetI g' (x.both n (x.cores.get n).read)∧g'.lim≤g.lim+10)∧Small (x.cores.get n).read.done.2 :=
 k.both n1 n2 hl (read_commit _) (Nat.le_trans (read_pn _) (by omega)) (let h:=read_few (k.few n1 n2 hl);⟨by have:=h.1;omega,h.2⟩) fun A m h1 h2 h3 h4 h5=>⟨_,A,Ext.refl _ _,rfl,m.read hE h4 h5⟩
theorem NetI.bothTake (k:NetI g x) {p:PostM} (m:Msg g p) {d:Int} (hd:0≤d) (hl:g.lim+10≤100000000) :
  (x.cores.get p.dst).takes p=true∧(∃ g',NetI g' (x.both p.dst ((x.cores.get p.dst).take p d))∧g'.lim≤g.lim+10)∧Small ((x.cores.get p.dst).take p d).done.2:=by
 have hd2:p.dst≤x.size:=by rw [← k.sz];exact m.d2
 obtain ⟨A,id⟩:=k.srv p.dst m.d1 hd2
 refine ⟨m.takes k.w id.srv.self,k.both m.d1 hd2 hl (take_commit _ _ _) (take_pn _ _ _) (take_few (k.few m.d1 hd2 hl) m.data _).up fun A m' h1 h2 h3 _ _=>?_⟩
 exact m'.take ((ext_more (n:=0) (g:=g) (by omega:(0:Int)≤10)).msg k.w m) rfl hd (by rw [h3];rfl) (by rw [h3];rfl) (by rw [h3];rfl) h1
def NetM.cut (x:NetM) (n:Int) (data:List Int):NetM :=
  {x with cores:=x.cores.set n ((x.cores.get n).compact (x.cores.get n).commit data),kept:=x.kept.set n (snappedM (x.kept.get n) ((x.cores.get n).compact (x.cores.get n).commit data).snap)}
theorem NetI.cut (k:NetI g x) (n1:1≤n) (n2:n≤x.size) {data:List Int} (hE:(x.cores.get n).compactE (x.cores.get n).commit data=0):NetI g (x.cut n data):=by
 obtain ⟨A,id⟩:=k.srv n n1 n2
 have hs5:=k.w.sz5
 have hsz:=k.sz
 have h2:=id.compact k.w hE
 refine ⟨k.w,k.sz,fun j j1 j2=>?_,k.mails,k.fine,k.leaders,k.chosen,fun j j1 j2=>?_,fun j j1 j2=>?_,k.draw⟩
 ·have j2':j≤x.size:=j2
  show ∃ A,Idl g j ((x.kept.set n (snappedM (x.kept.get n) ((x.cores.get n).compact (x.cores.get n).commit data).snap)).get j) ((x.cores.set n ((x.cores.get n).compact (x.cores.get n).commit data)).get j) A
  rw [Fv.get_set _ _ _ _ j1 (by omega),Fv.get_set _ _ _ _ j1 (by omega)]
  split
  ·rename_i z;rw [z];exact ⟨A,h2⟩
  ·exact k.srv j j1 j2'
 ·have j2':j≤x.size:=j2
  show x.commits.get j≤((x.cores.set n ((x.cores.get n).compact (x.cores.get n).commit data)).get j).commit
  rw [Fv.get_set _ _ _ _ j1 (by omega)]
  split
  ·rename_i z;rw [z];exact k.cm n n1 n2
  ·exact k.cm j j1 j2'
 ·have j2':j≤x.size:=j2
  show x.terms.get j≤((x.cores.set n ((x.cores.get n).compact (x.cores.get n).commit data)).get j).term
  rw [Fv.get_set _ _ _ _ j1 (by omega)]
  split
  ·rename_i z;rw [z];exact k.tms n n1 n2
  ·exact k.tms j j1 j2'
end
section
def RTold2 (M p o:Nat) (d:CoreM) (h:Heap) (v:Value) (h':Heap):Prop :=
  ∃ ox,v = .agg (outCells d.done.2 ox).toArray∧OutOk h' M d.done.2 ox∧RIdle h' p o d.done.1∧Keeps [o,o+1] h h'
theorem RTold.turn {p o oo M:Nat} {d:CoreM} {h h':Heap} {v:Value} (t:RTold p o oo d h v h') (hb:Bound oo h) (h1:o≠oo) (h2:o+1≠oo):∃ h'',Turned h'' h'∧RTold2 M p o d h v h'':=by
 obtain ⟨ox,e,ok,q,kk⟩:=t
 refine ⟨h'.retag oo M,retag_turned _ _ _,ox,e,ok.retag,?_,keeps_retag hb kk⟩
 have i:RIdle h' p o d.done.1:=Idle.of q rfl
 exact i.keeps (os:=[oo]) (fun b t x ht e=>retag_out (by simpa using ht) e) (by simpa using h1) (by simpa using h2)
variable {h h':Heap} {p o:Nat} {c:CoreM}
theorem rtick_net (M:Nat) (h0:o≠0) (k:RIdle h p o c) (ok:DOk c) {d:Int} (hd:0≤d) :
  ACalls PR 39 #[Ptr p,I d] h (fun v h'=>∃ u,v = .tuple #[u,I 0]∧RTold2 M p o (c.tick d) h u h'):=by
 refine ACalls.owner ⟨_,Tryz.func39,rfl,rfl⟩ fun o0 ho0 bnd=>?_
 have ap:Apart o (o0+o+2):=⟨by omega,by omega,h0,by omega⟩
 refine (rTick_any ap (k.all _) ok d).turn fun v h' r=>?_
 rcases r with ⟨c1,_⟩ | ⟨_,u,rfl,t⟩
 ·omega
 ·obtain ⟨h'',a,b⟩:=t.turn (M:=M) (bnd.le (by omega)) ap.a ap.b
  exact ⟨h'',a,u,rfl,b⟩
theorem rtake_net (M:Nat) (h0:o≠0) (k:RIdle h p o c) (ok:DOk c) (x:PH) (g:∀ oo,Bound oo h→o+1<oo→Given h o oo x) (ht:c.takes x.abs=true) {d:Int} (hd:0≤d) (hdn:x.d.n≤4611686018427387904) :
  ACalls PR 40 #[Ptr p, .agg x.cells.toArray,I d] h (fun v h'=>∃ u,v = .tuple #[u,I 0]∧RTold2 M p o (c.take x.abs d) h u h'):=by
 refine ACalls.owner ⟨_,Tryz.func40,rfl,rfl⟩ fun o0 ho0 bnd=>?_
 have ap:Apart o (o0+o+2):=⟨by omega,by omega,h0,by omega⟩
 refine (rTake_any ap (k.all _) ok x (g _ (bnd.le (by omega)) (by omega)) d hdn).turn fun v h' r=>?_
 rcases r with ⟨c1,_⟩ | ⟨_,_,u,rfl,t⟩
 ·rcases c1 with c1 | c1
  ·rw [ht] at c1;cases c1
  ·omega
 ·obtain ⟨h'',a,b⟩:=t.turn (M:=M) (bnd.le (by omega)) ap.a ap.b
  exact ⟨h'',a,u,rfl,b⟩
theorem rread_net (M:Nat) (h0:o≠0) (k:RIdle h p o c) (ok:DOk c) :
  ACalls PR 42 #[Ptr p] h (fun v h'=>(c.readE≠0∧v = .tuple #[I 0, .agg (outCells out0 ox0).toArray,I c.readE]∧Sub h h')∨(c.readE=0∧∃ u,v = .tuple #[I (c.round+1),u,I 0]∧RTold2 M p o c.read h u h')):=by
 refine ACalls.owner ⟨_,Tryz.func42,rfl,rfl⟩ fun o0 ho0 bnd=>?_
 have ap:Apart o (o0+o+2):=⟨by omega,by omega,h0,by omega⟩
 refine (rRead_any ap (k.all _) ok).turn fun v h' r=>?_
 rcases r with r | ⟨e,u,rfl,t⟩
 ·exact ⟨h',sub_turned, .inl r⟩
 ·obtain ⟨h'',a,b⟩:=t.turn (M:=M) (bnd.le (by omega)) ap.a ap.b
  exact ⟨h'',a, .inr ⟨e,u,rfl,b⟩⟩
theorem rpropose_net (M:Nat) (h0:o≠0) (k:RIdle h p o c) (ok:DOk c) (kind:Int) {t:Tag} {a:Option Addr} {n cp:Nat} {data:List Int} (g:Sl h t a n cp 1 (bytesV data)) (ht:t.1≠o) (hb:∀ z∈data,0≤z∧z<256) :
  ACalls PR 41 #[Ptr p,I kind, .slice a n cp] h (fun v h'=>(c.proposeE kind data≠0∧v = .tuple #[I 0, .agg (outCells out0 ox0).toArray,I (c.proposeE kind data)]∧Sub h h') ∨
   (c.proposeE kind data=0∧∃ u,v = .tuple #[I (c.log.last.1+1),u,I 0]∧RTold2 M p o (c.propose kind data) h u h')):=by
 refine ACalls.owner ⟨_,Tryz.func41,rfl,rfl⟩ fun o0 ho0 bnd=>?_
 have ap:Apart o (o0+o+2):=⟨by omega,by omega,h0,by omega⟩
 refine (rPropose_any ap (k.all _) ok kind (d:=⟨a,n,cp⟩) g ht hb).turn fun v h' r=>?_
 rcases r with r | ⟨e,u,rfl,t⟩
 ·exact ⟨h',sub_turned, .inl r⟩
 ·obtain ⟨h'',a,b⟩:=t.turn (M:=M) (bnd.le (by omega)) ap.a ap.b
  exact ⟨h'',a, .inr ⟨e,u,rfl,b⟩⟩
theorem rcompact_net (M:Nat) (h0:o≠0) (k:RIdle h p o c) (ok:DOk c) (hbi:c.log.bi≤c.snap.index) (hsi:c.snap.index≤9007199254740991) (i:Int) {t:Tag} {a:Option Addr} {n cp:Nat} {data:List Int} (g:Sl h t a n cp 1 (bytesV data)) (ht:t.1≠o) (ht1:t.1≠o+1) (hdn:n≤140737488355328) :
  ACalls PR 43 #[Ptr p,I i, .slice a n cp] h (fun v h'=>(c.compactE i data≠0∧v = .tuple #[.agg #[I 0,I 0,I 0, .slice none 0 0],I (c.compactE i data)]∧Sub h h') ∨
   (c.compactE i data=0∧∃ a n cc,v = .tuple #[.agg #[I i,I (c.compact i data).snap.term,I (c.compact i data).snap.crew, .slice a n cc],I 0]∧Own h' (M,6) 5 a n cc 1 (bytesV data)∧RIdle h' p o (c.compact i data)∧Keeps [o,o+1] h h')):=by
 refine ACalls.owner ⟨_,Tryz.func43,rfl,rfl⟩ fun o0 ho0 bnd=>?_
 have ap:Apart o (o0+o+2):=⟨by omega,by omega,h0,by omega⟩
 refine (rCompact_any ap k ok hbi hsi i (d:=⟨a,n,cp⟩) g ht ht1 hdn).turn fun v h' r=>?_
 rcases r with r | ⟨e,a,n,cc,rfl,ow,q,kk⟩
 ·exact ⟨h',sub_turned, .inl r⟩
 ·refine ⟨h'.retag (o0+o+2) M,retag_turned _ _ _, .inr ⟨e,a,n,cc,rfl,ow.turn fun _ _ e=>retag_in e,?_,keeps_retag (bnd.le (by omega)) kk⟩⟩
  exact q.keeps (os:=[o0+o+2]) (fun b t x ht e=>retag_out (by simpa using ht) e) (by simp;omega) (by simp;omega)
variable {N:Nat} {x:NetM} {v:NX} {n:Int} {g:Gh}
theorem Idl.dok (w:Wld g) {s:SavedM} {A:List Abs} (k:Idl g n s c A):DOk c:=by
 have sv:=k.srv
 have hmem:∀ e∈c.log.es,e∈A:=fun e he=>by
  rw [sv.rep.es] at he
  exact List.mem_of_mem_drop he
 exact ⟨k.cok w,fun e he h2=>⟨((sv.eok e (hmem e he)).cr h2).1,(sv.eok e (hmem e he)).by_⟩,sv.c0⟩
theorem NetI.dok (k:NetI g x) (n1:1≤n) (n2:n≤x.size):DOk (x.cores.get n):=by
 obtain ⟨A,id⟩:=k.srv n n1 n2
 exact id.dok k.w
theorem Given.any (w:Wld g) {y:PH} {q:Nat} (hr:∃ r,y.Ok h (q,r) (q,5) (q,6)) (m:Msg g y.abs) (h1:q≠o) (h2:q≠o+1) (h3:q≤o):∀ oo,Bound oo h→o+1<oo→Given h o oo y:=by
 intro oo bnd ho
 obtain ⟨r,hr⟩:=hr
 obtain ⟨a,b,c⟩:=m.small w
 have hl:y.es.length=y.e.n:=hr.es.len
 have c':y.es.length≤8:=by have:=c;simpa [PH.abs] using this
 have ht:∀ r:Nat,((q,r):Tag).1∉[o,o+1,oo]:=fun r=>by simp;omega
 have h2:y.abs.snap.crew=y.sc:=rfl
 exact ⟨⟨_,_,_,hr,ht _,ht _,ht _⟩,fun e he z hz=>a e.abs (List.mem_map.2 ⟨e,he,rfl⟩) z hz,by omega,by omega,by omega⟩
end
section
variable {h h':Heap} {N p:Nat} {x0 x:NetM} {v:NX} {m:Fv (Option Nat)} {n:Int} {g:Gh}
structure CluX (h:Heap) (N p:Nat) (x0 x:NetM) (v:NX) (m:Fv (Option Nat)):Prop where
  n0:N≠0
  str:h p=some (row (N,0) (netCells x0 v) 41)
  sz:x0.size=x.size
  sz3:3≤x.size
  sz5:x.size≤5
  cores:∀ n,1≤n→n≤x.size→∃ b,v.cp.get n=some b∧PIdle h b (N+2*n.toNat) (x.cores.get n)
  refs:∀ n,1≤n→n≤x.size→∃ b,m.get n=some b∧RIdle h b (N+20+2*n.toNat) (x.cores.get n)
  ml:Own h (N,3) 49 v.ml.a v.ml.n v.ml.c 14 (v.ps.map PH.cells).flatten
  pa:v.ps.map PH.abs=x.mails
  ps:∀ y∈v.ps,∃ r,y.Ok h (N+1,r) (N+1,5) (N+1,6)
theorem CluX.move (k:CluX h N p x0 x v m) (mv:∀ b (t:Tag) y,N≤t.1→h b=some (t,y)→h' b=some (t,y)):CluX h' N p x0 x v m:=by
 refine ⟨k.n0,mv _ _ _ (Nat.le_refl _) k.str,k.sz,k.sz3,k.sz5,fun n n1 n2=>?_,fun n n1 n2=>?_,k.ml.move fun _ _ e=>mv _ _ _ (Nat.le_refl _) e,k.pa,fun y hy=>?_⟩
 ·obtain ⟨b,hb,id⟩:=k.cores n n1 n2
  exact ⟨b,hb,id.move fun _ t _ ht e=>mv _ _ _ (by omega) e⟩
 ·obtain ⟨b,hb,id⟩:=k.refs n n1 n2
  exact ⟨b,hb,id.move fun _ t _ ht e=>mv _ _ _ (by omega) e⟩
 ·obtain ⟨r,hr⟩:=k.ps y hy
  exact ⟨r,hr.move fun _ t _ ht e=>mv _ _ _ (by rcases ht with rfl | rfl | rfl <;> simp) e⟩
theorem CluX.sub (k:CluX h N p x0 x v m) (s:Sub h h'):CluX h' N p x0 x v m:=k.move fun _ _ _ _ e=>s _ _ e
def duo (N:Nat) (n:Int):List Nat:=[N+2*n.toNat,N+2*n.toNat+1,N+20+2*n.toNat,N+20+2*n.toNat+1]
theorem CluX.next (k:CluX h N p x0 x v m) (n1:1≤n) (n2:n≤x.size) {z:NetM} {C:CoreM} (hz:∀ j,1≤j→j≤x.size→z.cores.get j=if j=n then C else x.cores.get j) (hs:z.size=x.size)
  (mv:∀ b (t:Tag) y,t.1∉duo N n→t≠(N,0)→t≠(N,3)→h b=some (t,y)→h' b=some (t,y)) {bp bm:Nat} (hbp:v.cp.get n=some bp) (hbm:m.get n=some bm) (ip:PIdle h' bp (N+2*n.toNat) C) (im:RIdle h' bm (N+20+2*n.toNat) C)
  {s:SlV} {ps:List PH} (hstr:h' p=some (row (N,0) (netCells x0 {v with ml:=s,ps:=ps}) 41)) (ow:Own h' (N,3) 49 s.a s.n s.c 14 (ps.map PH.cells).flatten) (pa:ps.map PH.abs=z.mails)
  (pk:∀ y∈ps,∃ r,y.Ok h' (N+1,r) (N+1,5) (N+1,6)):CluX h' N p x0 z {v with ml:=s,ps:=ps} m:=by
 have h5:=k.sz5
 refine ⟨k.n0,hstr,k.sz.trans hs.symm,by rw [hs];exact k.sz3,by rw [hs];exact k.sz5,fun j j1 j2=>?_,fun j j1 j2=>?_,ow,pa,pk⟩
 ·rw [hs] at j2
  rw [hz j j1 j2]
  by_cases c:j=n
  ·rw [if_pos c,c];exact ⟨bp,hbp,ip⟩
  ·rw [if_neg c]
   obtain ⟨b,hb,id⟩:=k.cores j j1 j2
   exact ⟨b,hb,id.move fun _ t _ ht e=>mv _ _ _ (by unfold duo;simp;omega) (fun z=>by rw [z] at ht;simp only at ht;omega) (fun z=>by rw [z] at ht;simp only at ht;omega) e⟩
 ·rw [hs] at j2
  rw [hz j j1 j2]
  by_cases c:j=n
  ·rw [if_pos c,c];exact ⟨bm,hbm,im⟩
  ·rw [if_neg c]
   obtain ⟨b,hb,id⟩:=k.refs j j1 j2
   exact ⟨b,hb,id.move fun _ t _ ht e=>mv _ _ _ (by unfold duo;simp;omega) (fun z=>by rw [z] at ht;simp only at ht;omega) (fun z=>by rw [z] at ht;simp only at ht;omega) e⟩
theorem CluX.count (k:CluX h N p x0 x v m):v.ps.length=v.ml.n∧v.ml.n=x.mails.length:=by
 have h1:=k.ml.sl.len
 rw [flat_len (ph_len v.ps),List.length_map] at h1
 have h2:=congrArg List.length k.pa
 rw [List.length_map] at h2
 omega
def refCells (m:Fv (Option Nat)):List Value:=[.pointer none,optp m.b1,optp m.b2,optp m.b3,optp m.b4,optp m.b5]
theorem ref_cell (m:Fv (Option Nat)) {n:Int} (h1:1≤n) (h2:n≤5):(refCells m)[n.toNat]? = some (optp (m.get n)):=by
 have:n=1∨n=2∨n=3∨n=4∨n=5:=by omega
 rcases this with rfl | rfl | rfl | rfl | rfl <;> rfl
theorem ref_set (m:Fv (Option Nat)) {n:Int} (h1:1≤n) (h2:n≤5) (b:Option Nat):(refCells m).set n.toNat (optp b)=refCells (m.set n b):=by
 have:n=1∨n=2∨n=3∨n=4∨n=5:=by omega
 rcases this with rfl | rfl | rfl | rfl | rfl <;> rfl
def doCells (kind A:Int) (y:PH) (d:SlV):List Value:=[I kind,I A,I y.kind,I y.src,I y.dst,I y.term,I y.index,I y.logTerm,I y.commit, .bool y.ok,I y.hint, .slice y.e.a y.e.n y.e.c,I y.si,I y.st,I y.sc, .slice y.d.a y.d.n y.d.c, .slice d.a d.n d.c]
structure Both (h':Heap) (N p:Nat) (x0 x:NetM) (m:Fv (Option Nat)) (L:Int):Prop where
  out:∃ z v' g',CluX h' N p x0 z v' m∧NetI g' z∧g'.lim≤L∧z.size=x.size∧z.mails.length≤x.mails.length+10∧x.mails.length≤z.mails.length
structure Aft (x:NetM) (n:Int) (O:OutM) (C:CoreM) (L:Int):Prop where
  out:∃ z g',(∀ j,1≤j→j≤x.size→z.cores.get j=if j=n then C else x.cores.get j)∧z.size=x.size∧z.mails=x.mails++O.posts∧NetI g' z∧g'.lim≤L
  sm:Small O
theorem aft_of {L:Int} (h5:x.size≤5) {d:CoreM} (h:(∃ g',NetI g' (x.both n d)∧g'.lim≤L)∧Small d.done.2):Aft x n d.done.2 d.done.1 L:=by
 obtain ⟨⟨g',a,b⟩,sm⟩:=h
 exact ⟨⟨_,g',fun j j1 j2=>by rw [both_cores];exact Fv.get_set _ _ _ _ j1 (by omega),both_size x n d,rfl,a,b⟩,sm⟩
theorem aft_no {L:Int} (k:NetI g x) (hl:g.lim≤L):Aft x n out0 (x.cores.get n) L :=
 ⟨⟨x,g,fun j _ _=>by split <;> simp [*],rfl,(List.append_nil _).symm,k,hl⟩,small0⟩
def CoreM.proposed (c:CoreM) (kind:Int) (data:List Int):Int×Int×OutM×CoreM:=if c.proposeE kind data=0 then (c.log.last.1+1,0,(c.propose kind data).done.2,(c.propose kind data).done.1) else (0,c.proposeE kind data,out0,c)
def CoreM.asked1 (c:CoreM):Int×Int×OutM×CoreM:=if c.readE=0 then (c.round+1,0,c.read.done.2,c.read.done.1) else (0,c.readE,out0,c)
theorem aft_propose (k:NetI g x) (n1:1≤n) (n2:n≤x.size) (h5:x.size≤5) {kind:Int} {data:List Int} (hb:∀ z∈data,0≤z∧z<256) (hk:kind≠2) (hl:g.lim+10≤100000000) :
  Aft x n ((x.cores.get n).proposed kind data).2.2.1 ((x.cores.get n).proposed kind data).2.2.2 (g.lim+10):=by
 unfold CoreM.proposed
 split
 ·rename_i e
  exact aft_of h5 (k.bothPropose n1 n2 e hb hk hl)
 ·exact aft_no k (by omega)
theorem aft_read (k:NetI g x) (n1:1≤n) (n2:n≤x.size) (h5:x.size≤5) (hl:g.lim+10≤100000000):Aft x n (x.cores.get n).asked1.2.2.1 (x.cores.get n).asked1.2.2.2 (g.lim+10):=by
 unfold CoreM.asked1
 split
 ·rename_i e
  exact aft_of h5 (k.bothRead n1 n2 e hl)
 ·exact aft_no k (by omega)
def Ans (T:TypeId) (LP:Heap→Nat→Nat→LG→Prop) (M p o:Nat) (O:OutM) (C:CoreM) (h:Heap) (u:Value) (h':Heap):Prop :=
  ∃ ox,u = .agg (outCells O ox).toArray∧OutOk h' M O ox∧Idle T LP h' p o C∧Keeps [o,o+1] h h'
theorem Ans.no {T:TypeId} {LP:Heap→Nat→Nat→LG→Prop} [Moves LP] {M p o:Nat} {C:CoreM} (k:Idle T LP h p o C) (s:Sub h h'):Ans T LP M p o out0 C h (.agg (outCells out0 ox0).toArray) h' :=
 ⟨ox0,rfl,OutOk.zero _ _,k.move fun _ _ _ _ e=>s _ _ e,s.keeps _⟩
theorem propose_two {o:Nat} {c:CoreM} (M:Nat) (h0:o≠0) (k:PIdle h p o c) (ok:COk c) (kind:Int) {t:Tag} {a:Option Addr} {n cp:Nat} {data:List Int} (g:Sl h t a n cp 1 (bytesV data)) (hb:∀ z∈data,0≤z∧z<256) :
  ACalls PR 21 #[Ptr p,I kind, .slice a n cp] h (fun v h'=>∃ u,v = .tuple #[I (c.proposed kind data).1,u,I (c.proposed kind data).2.1]∧Ans 81 LA M p o (c.proposed kind data).2.2.1 (c.proposed kind data).2.2.2 h u h'):=by
 refine (propose_net M h0 k ok kind g hb).mono ?_
 unfold CoreM.proposed
 rintro _ h' (⟨e,rfl,s⟩ | ⟨e,u,rfl,t⟩)
 ·rw [if_neg e];exact ⟨_,rfl,Ans.no k s⟩
 ·rw [if_pos e];exact ⟨u,rfl,t⟩
theorem rpropose_two {o:Nat} {c:CoreM} (M:Nat) (h0:o≠0) (k:RIdle h p o c) (ok:DOk c) (kind:Int) {t:Tag} {a:Option Addr} {n cp:Nat} {data:List Int} (g:Sl h t a n cp 1 (bytesV data)) (ht:t.1≠o) (hb:∀ z∈data,0≤z∧z<256) :
  ACalls PR 41 #[Ptr p,I kind, .slice a n cp] h (fun v h'=>∃ u,v = .tuple #[I (c.proposed kind data).1,u,I (c.proposed kind data).2.1]∧Ans 98 RL M p o (c.proposed kind data).2.2.1 (c.proposed kind data).2.2.2 h u h'):=by
 refine (rpropose_net M h0 k ok kind g ht hb).mono ?_
 unfold CoreM.proposed
 rintro _ h' (⟨e,rfl,s⟩ | ⟨e,u,rfl,t⟩)
 ·rw [if_neg e];exact ⟨_,rfl,Ans.no k s⟩
 ·rw [if_pos e];exact ⟨u,rfl,t⟩
theorem read_two {o:Nat} {c:CoreM} (M:Nat) (h0:o≠0) (k:PIdle h p o c) (ok:COk c) :
  ACalls PR 26 #[Ptr p] h (fun v h'=>∃ u,v = .tuple #[I c.asked1.1,u,I c.asked1.2.1]∧Ans 81 LA M p o c.asked1.2.2.1 c.asked1.2.2.2 h u h'):=by
 refine (read_net M h0 k ok).mono ?_
 unfold CoreM.asked1
 rintro _ h' (⟨e,rfl,s⟩ | ⟨e,u,rfl,t⟩)
 ·rw [if_neg e];exact ⟨_,rfl,Ans.no k s⟩
 ·rw [if_pos e];exact ⟨u,rfl,t⟩
theorem rread_two {o:Nat} {c:CoreM} (M:Nat) (h0:o≠0) (k:RIdle h p o c) (ok:DOk c) :
  ACalls PR 42 #[Ptr p] h (fun v h'=>∃ u,v = .tuple #[I c.asked1.1,u,I c.asked1.2.1]∧Ans 98 RL M p o c.asked1.2.2.1 c.asked1.2.2.2 h u h'):=by
 refine (rread_net M h0 k ok).mono ?_
 unfold CoreM.asked1
 rintro _ h' (⟨e,rfl,s⟩ | ⟨e,u,rfl,t⟩)
 ·rw [if_neg e];exact ⟨_,rfl,Ans.no k s⟩
 ·rw [if_pos e];exact ⟨u,rfl,t⟩
def CoreM.compacted (c:CoreM) (i:Int) (data:List Int):Int×SnapM×CoreM:=if c.compactE i data=0 then (0,(c.compact i data).snap,c.compact i data) else (c.compactE i data,snap0,c)
def snapCells (s:SnapM) (a:Option Addr) (n cc:Nat):List Value:=[I s.index,I s.term,I s.crew, .slice a n cc]
theorem compact_two {o:Nat} {c:CoreM} (M:Nat) (h0:o≠0) (k:PIdle h p o c) (ok:COk c) (hbi:c.log.bi≤c.snap.index) (hsi:c.snap.index≤9007199254740991) (i:Int) {t:Tag} {a:Option Addr} {n cp:Nat} {data:List Int} (g:Sl h t a n cp 1 (bytesV data)) (ht:t.1≠o+1) (hdn:n≤140737488355328) :
  ACalls PR 27 #[Ptr p,I i, .slice a n cp] h (fun v h'=>∃ a n cc,v = .tuple #[.agg (snapCells (c.compacted i data).2.1 a n cc).toArray,I (c.compacted i data).1]∧Own h' (M,6) 5 a n cc 1 (bytesV (c.compacted i data).2.1.data)∧PIdle h' p o (c.compacted i data).2.2∧Keeps [o,o+1] h h'):=by
 refine (compact_net M h0 k ok hbi hsi i g ht hdn).mono ?_
 unfold CoreM.compacted
 rintro _ h' (⟨e,rfl,s⟩ | ⟨e,a,n,cc,rfl,ow,q,kk⟩)
 ·rw [if_neg e];exact ⟨none,0,0,rfl, .inl ⟨rfl,rfl,rfl⟩,k.move fun _ _ _ _ e=>s _ _ e,s.keeps _⟩
 ·rw [if_pos e];exact ⟨a,n,cc,rfl,ow,q,kk⟩
theorem rcompact_two {o:Nat} {c:CoreM} (M:Nat) (h0:o≠0) (k:RIdle h p o c) (ok:DOk c) (hbi:c.log.bi≤c.snap.index) (hsi:c.snap.index≤9007199254740991) (i:Int) {t:Tag} {a:Option Addr} {n cp:Nat} {data:List Int} (g:Sl h t a n cp 1 (bytesV data)) (ht:t.1≠o) (ht1:t.1≠o+1) (hdn:n≤140737488355328) :
  ACalls PR 43 #[Ptr p,I i, .slice a n cp] h (fun v h'=>∃ a n cc,v = .tuple #[.agg (snapCells (c.compacted i data).2.1 a n cc).toArray,I (c.compacted i data).1]∧Own h' (M,6) 5 a n cc 1 (bytesV (c.compacted i data).2.1.data)∧RIdle h' p o (c.compacted i data).2.2∧Keeps [o,o+1] h h'):=by
 refine (rcompact_net M h0 k ok hbi hsi i g ht ht1 hdn).mono ?_
 unfold CoreM.compacted
 rintro _ h' (⟨e,rfl,s⟩ | ⟨e,a,n,cc,rfl,ow,q,kk⟩)
 ·rw [if_neg e];exact ⟨none,0,0,rfl, .inl ⟨rfl,rfl,rfl⟩,k.move fun _ _ _ _ e=>s _ _ e,s.keeps _⟩
 ·rw [if_pos e];exact ⟨a,n,cc,rfl,ow,q,kk⟩
theorem cut_net {L:Int} (k:NetI g x) (hl:g.lim≤L) (n1:1≤n) (n2:n≤x.size) {data:List Int} (hd:data.length≤8192):∃ z g',(∀ j,1≤j→j≤x.size→z.cores.get j=if j=n then ((x.cores.get n).compacted (x.cores.get n).commit data).2.2 else x.cores.get j)∧z.size=x.size∧z.mails=x.mails∧NetI g' z∧g'.lim≤L∧((x.cores.get n).compacted (x.cores.get n).commit data).2.1.data.length≤8192:=by
 have h5:=k.w.sz5
 have hs:=k.sz
 unfold CoreM.compacted
 by_cases e:(x.cores.get n).compactE (x.cores.get n).commit data=0
 ·rw [if_pos e]
  exact ⟨x.cut n data,g,fun j j1 j2=>Fv.get_set _ _ _ _ j1 (by omega),rfl,rfl,k.cut n1 n2 e,hl,hd⟩
 ·rw [if_neg e]
  exact ⟨x,g,fun j _ _=>by split <;> simp [*],rfl,rfl,k,hl,by simp [snap0]⟩
set_option maxHeartbeats 8000000 in
theorem both_any (k:CluX h N p x0 x v m) (i:NetI g x) (hl:g.lim+10≤100000000) (n1:1≤n) (n2:n≤x.size) (hm:x.mails.length+10<2000) {kind A:Int} {y:PH} {d:SlV} {data:List Int} (kr:0≤kind∧kind≤4)
  (hk0:kind=0→0≤A) (hk1:kind=1→0≤A∧n=y.dst∧Msg g y.abs∧∃ r,y.Ok h (N+1,r) (N+1,5) (N+1,6)) (hk2:kind=2→A=1) (hk4:kind=4→A=(x.cores.get n).commit)
  (hd:Sl h (0,1) d.a d.n d.c 1 (bytesV data)) (hdb:∀ z∈data,0≤z∧z<256) (hdn:d.n≤8) :
  ACalls PR 12 #[Ptr p, .agg (refCells m).toArray,I n, .agg (doCells kind A y d).toArray] h (fun r h'=>r = .bool true∧Both h' N p x0 x m (g.lim+10)∧Low N h h'):=by
 have hN:=k.n0
 have h5:=k.sz5
 have n5:n≤5:=by omega
 obtain ⟨mn,hmn⟩:∃ mn:Nat,n=mn:=⟨n.toNat,by omega⟩
 obtain ⟨bp,hbp,ip⟩:=k.cores n n1 n2
 obtain ⟨bm,hbm,im⟩:=k.refs n n1 n2
 obtain ⟨c,hc⟩:∃ c,c=x.cores.get n:=⟨_,rfl⟩
 have ck:=i.cok n1 n2
 have dk:=i.dok n1 n2
 rw [← hc] at ip im ck dk hk4
 refine acalls_ofj mix Tryz.func12 rfl rfl Tryz.ntmps12 Tryz.results12 rfl ?_;conv=>whnf
 refine ABox.mkN (0,1) (refCells m) rfl fun b5 h1 e1 s1 q5=>?_;conv=>whnf
 refine ABox.mkN (0,1) (doCells kind A y d) rfl fun b7 h2 e2 s2 q7=>?_;conv=>whnf
 refine AAlloc.mkN (0,1) (outCells out0 ox0) rfl fun b9 h3 e3 s3 q9=>?_;conv=>whnf
 refine AAlloc.mkN (0,1) (outCells out0 ox0) rfl fun b10 h4 e4 s4 q10=>?_;conv=>whnf
 have s34:=s3.trans s4
 have s24:=s2.trans s34
 have s14:=s1.trans s24
 have r5:=s24 _ _ q5
 have r7:=s34 _ _ q7
 have r9:=s4 _ _ q9
 have new:∀ {a b:Nat} {y:Tag×Obj} {hh:Heap},hh a=none→hh b=some y→a≠b:=fun e1 e2 c=>by rw [c,e2] at e1;cases e1
 have b57:b7≠b5:=new e2 q5
 have b59:b9≠b5:=new e3 (s2 _ _ q5)
 have b79:b9≠b7:=new e3 q7
 have b5A:b10≠b5:=new e4 (s3 _ _ (s2 _ _ q5))
 have b7A:b10≠b7:=new e4 (s3 _ _ q7)
 have b9A:b10≠b9:=new e4 q9
 have old:∀ {b:Nat},h b=none→∀ {a:Nat} {y:Tag×Obj},h a=some y→a≠b:=fun e a y ea z=>by rw [z,e] at ea;cases ea
 have no:∀ {b:Nat} {hh:Heap},Sub h hh→hh b=none→h b=none:=fun {b hh} s e=>by
  cases eb:h b with
  | none=>rfl
  | some y=>rw [s _ _ eb] at e;cases e
 have f9:=no (s1.trans s2) e3
 have f10:=no (s1.trans (s2.trans s3)) e4
 have k4:=k.sub s14
 clear q5 q7 q9 s2 s3 s4 s24 s34 e2 e3 e4
 have hloc:((0,1):Tag).1∉duo N n:=by unfold duo;simp;omega
 have hp4:=k4.str
 have ip4:PIdle h4 bp (N+2*n.toNat) c:=ip.move fun _ _ _ _ e=>s14 _ _ e
 have im4:RIdle h4 bm (N+20+2*n.toNat) c:=im.move fun _ _ _ _ e=>s14 _ _ e
 have l1:((0,1):Tag).1∉[N+2*n.toNat,N+2*n.toNat+1]:=by simp;omega
 have l2:((0,1):Tag).1∉[N+20+2*n.toNat,N+20+2*n.toNat+1]:=by simp;omega
 refine AIf.cut (fun e h'=>∃ (e0:Env) (O:OutM) (oa ob:OX) (er:Int) (C:CoreM),e=updL 209 e0 [(0,Ptr p),(2,I n),(5,Ptr b5),(9,Ptr b9),(10,Ptr b10),(11,I er),(12,I er)]∧h' b5=some (row (0,1) (refCells m) 26)∧h' b9=some (row (0,1) (outCells O oa) 65)∧h' b10=some (row (0,1) (outCells O ob) 96) ∧
  OutOk h' (N+1) O oa∧OutOk h' (N+18) O ob∧PIdle h' bp (N+2*n.toNat) C∧RIdle h' bm (N+20+2*n.toNat) C∧(∀ b (t:Tag) y,t.1∉duo N n→h b=some (t,y)→h' b=some (t,y))∧Aft x n O C (g.lim+10)) ?_ ?_
 ·conv=>whnf
  refine ALoad.one rfl r7 rfl ?_;conv=>whnf
  conv=>whnf
  by_cases c0:kind=0
  ·refine ACmp.yes (c0) ?_;conv=>whnf
   have AF:Aft x n (c.tick A).done.2 (c.tick A).done.1 (g.lim+10):=by rw [hc];exact aft_of h5 (i.bothTick n1 n2 (hk0 c0) hl)
   refine AIf.go ?_;conv=>whnf
   refine ADrawn.mk (few h4 [p,b7]) [12] (few_sub _ _) (by decide +kernel) ?_;conv=>whnf
   refine AIdxA.nat (n:=6) (z:=1) (j:=mn) (by omega) (by omega) rfl rfl ?_;conv=>whnf
   refine ALoad.one (v:=Ptr bp) rfl ((few_at (by simp)).trans hp4) (by have:=core_cell x0 v n1 n5;rw [hbp] at this;rw [show 0+2+mn*1=2+n.toNat by omega];exact this) ?_
   refine ALoad.one rfl ((few_at (by simp)).trans r7) rfl ?_;conv=>whnf
   refine ACalls.mono (tick_net (N+1) (by omega) ip4 ck (hk0 c0)) ?_
   rintro _ h5 ⟨u,rfl,ox5,rfl,ok5,id5,kk5⟩
   conv=>whnf
   refine ⟨few_get fun b hb y e=>?_,?_⟩
   ·simp only [List.mem_cons,List.not_mem_nil,or_false] at hb
    rcases hb with rfl | rfl
    ·rw [hp4] at e;cases e;exact kk5 _ _ _ (by simp;omega) hp4
    ·rw [r7] at e;cases e;exact kk5 _ _ _ l1 r7
   conv=>whnf
   refine AStore.aggN rfl rfl rfl ((kk5 _ _ _ l1 r9)) rfl (outCells (c.tick A).done.2 ox5) rfl fun h6 t6 q6 a6 e6=>?_;conv=>whnf
   have q65:=e6 _ _ (Ne.symm b59) (kk5 _ _ _ l1 r5)
   have q67:=e6 _ _ (Ne.symm b79) (kk5 _ _ _ l1 r7)
   have q610:=e6 _ _ b9A (kk5 _ _ _ l1 q10)
   have mv6:∀ b (t:Tag) y,t.1∉[N+2*n.toNat,N+2*n.toNat+1]→h b=some (t,y)→h6 b=some (t,y):=fun b t y ht e=>e6 _ _ (old f9 e) (kk5 _ _ _ ht (s14 _ _ e))
   have im6:RIdle h6 bm (N+20+2*n.toNat) c:=im.move fun b t y ht e=>mv6 _ _ _ (by simp;omega) e
   refine ADrawn.mk (few h6 [b5,b7]) [9] (few_sub _ _) (by decide +kernel) ?_;conv=>whnf
   refine AIdxA.nat (n:=6) (z:=1) (j:=mn) (by omega) (by omega) rfl rfl ?_;conv=>whnf
   refine ALoad.one (v:=Ptr bm) rfl ((few_at (by simp)).trans q65) (by have:=ref_cell m n1 n5;rw [hbm] at this;rw [show 0+mn*1=n.toNat by omega];exact this) ?_
   refine ALoad.one rfl ((few_at (by simp)).trans q67) rfl ?_;conv=>whnf
   refine ACalls.mono (rtick_net (N+18) (by omega) im6 dk (hk0 c0)) ?_
   rintro _ h7 ⟨u,rfl,ox7,rfl,ok7,id7,kk7⟩
   conv=>whnf
   refine ⟨few_get fun b hb y e=>?_,?_⟩
   ·simp only [List.mem_cons,List.not_mem_nil,or_false] at hb
    rcases hb with rfl | rfl
    ·rw [q65] at e;cases e;exact kk7 _ _ _ l2 q65
    ·rw [q67] at e;cases e;exact kk7 _ _ _ l2 q67
   conv=>whnf
   refine AStore.aggN rfl rfl rfl ((kk7 _ _ _ l2 q610)) rfl (outCells (c.tick A).done.2 ox7) rfl fun h8 t8 q8 a8 e8=>?_;conv=>whnf
   have q85:=e8 _ _ (Ne.symm b5A) (kk7 _ _ _ l2 q65)
   have q89:=e8 _ _ (Ne.symm b9A) (kk7 _ _ _ l2 q6)
   have d12:∀ {t:Tag},t≠(0,1)→t.1∉[N+20+2*n.toNat,N+20+2*n.toNat+1]→∀ b y,h5 b=some (t,y)→h8 b=some (t,y):=fun ha hb b y e=>t8 _ _ _ ha (kk7 _ _ _ hb (t6 _ _ _ ha e))
   have oka8:=ok5.move (h':=h8) fun b t y ht e=>d12 (fun z=>by rw [z] at ht;simp at ht) (by simp;omega) _ _ e
   have okb8:=ok7.move (h':=h8) fun b t y ht e=>t8 _ _ _ (fun z=>by rw [z] at ht;simp at ht) e
   have ip8:=id5.move (h':=h8) fun b t y ht e=>d12 (fun z=>by rw [z] at ht;simp only at ht;omega) (by simp;omega) _ _ e
   have im8:=id7.move (h':=h8) fun b t y ht e=>t8 _ _ _ (fun z=>by rw [z] at ht;simp only at ht;omega) e
   have mv8:∀ b (t:Tag) y,t.1∉duo N n→h b=some (t,y)→h8 b=some (t,y):=fun b t y ht e=>by
    unfold duo at ht
    simp only [List.mem_cons,List.not_mem_nil,or_false,not_or] at ht
    exact e8 _ _ (old f10 e) (kk7 _ _ _ (by simp;omega) (mv6 _ _ _ (by simp;omega) e))
   exact ⟨_,(c.tick A).done.2,ox5,ox7,0,(c.tick A).done.1,updL_self ⟨rfl,rfl,rfl,rfl,rfl,rfl,rfl,trivial⟩,q85,q89,q8,oka8,okb8,ip8,im8,mv8,AF⟩
  refine ACmp.no (c0) ?_;conv=>whnf
  by_cases c1:kind=1
  ·refine ACmp.yes (c1) ?_;conv=>whnf
   obtain ⟨hA,hny,my,hyr⟩:=hk1 c1
   obtain ⟨tk,aft⟩:=i.bothTake my hA hl
   rw [show y.abs.dst=n from hny.symm] at tk aft
   have AF:Aft x n (c.take y.abs A).done.2 (c.take y.abs A).done.1 (g.lim+10):=by rw [hc];exact aft_of h5 aft
   have tk:c.takes y.abs=true:=by rw [hc];exact tk
   obtain ⟨r,hyr⟩:=hyr
   have hyd:y.d.n≤8192:=by
    have h1:=my.data
    have h2:y.data.length=y.d.n:=by have:=hyr.sd.len;simpa [bytesV] using this
    have h3:y.abs.snap.data.length=y.data.length:=rfl
    omega
   refine AIf.go ?_;conv=>whnf
   refine ADrawn.mk (few h4 [p,b7]) [14] (few_sub _ _) (by decide +kernel) ?_;conv=>whnf
   refine AIdxA.nat (n:=6) (z:=1) (j:=mn) (by omega) (by omega) rfl rfl ?_;conv=>whnf
   refine ALoad.one (v:=Ptr bp) rfl ((few_at (by simp)).trans hp4) (by have:=core_cell x0 v n1 n5;rw [hbp] at this;rw [show 0+2+mn*1=2+n.toNat by omega];exact this) ?_
   refine ALoad.agg rfl ((few_at (by simp)).trans r7) rfl rfl ?_
   refine ALoad.one rfl ((few_at (by simp)).trans r7) rfl ?_;conv=>whnf
   refine ACalls.mono (take_net (N+1) (by omega) ip4 ck y (Given.any i.w ⟨r,hyr.move fun _ _ _ _ e=>s14 _ _ e⟩ my (by omega) (by omega) (by omega)) tk hA) ?_
   rintro _ h5 ⟨u,rfl,ox5,rfl,ok5,id5,kk5⟩
   conv=>whnf
   refine ⟨few_get fun b hb y e=>?_,?_⟩
   ·simp only [List.mem_cons,List.not_mem_nil,or_false] at hb
    rcases hb with rfl | rfl
    ·rw [hp4] at e;cases e;exact kk5 _ _ _ (by simp;omega) hp4
    ·rw [r7] at e;cases e;exact kk5 _ _ _ l1 r7
   conv=>whnf
   refine AStore.aggN rfl rfl rfl ((kk5 _ _ _ l1 r9)) rfl (outCells (c.take y.abs A).done.2 ox5) rfl fun h6 t6 q6 a6 e6=>?_;conv=>whnf
   have q65:=e6 _ _ (Ne.symm b59) (kk5 _ _ _ l1 r5)
   have q67:=e6 _ _ (Ne.symm b79) (kk5 _ _ _ l1 r7)
   have q610:=e6 _ _ b9A (kk5 _ _ _ l1 q10)
   have mv6:∀ b (t:Tag) y,t.1∉[N+2*n.toNat,N+2*n.toNat+1]→h b=some (t,y)→h6 b=some (t,y):=fun b t y ht e=>e6 _ _ (old f9 e) (kk5 _ _ _ ht (s14 _ _ e))
   have im6:RIdle h6 bm (N+20+2*n.toNat) c:=im.move fun b t y ht e=>mv6 _ _ _ (by simp;omega) e
   refine ADrawn.mk (few h6 [b5,b7]) [11] (few_sub _ _) (by decide +kernel) ?_;conv=>whnf
   refine AIdxA.nat (n:=6) (z:=1) (j:=mn) (by omega) (by omega) rfl rfl ?_;conv=>whnf
   refine ALoad.one (v:=Ptr bm) rfl ((few_at (by simp)).trans q65) (by have:=ref_cell m n1 n5;rw [hbm] at this;rw [show 0+mn*1=n.toNat by omega];exact this) ?_
   refine ALoad.agg rfl ((few_at (by simp)).trans q67) rfl rfl ?_
   refine ALoad.one rfl ((few_at (by simp)).trans q67) rfl ?_;conv=>whnf
   refine ACalls.mono (rtake_net (N+18) (by omega) im6 dk y (Given.any i.w ⟨r,hyr.move fun b t z ht e=>mv6 _ _ _ (by rcases ht with rfl | rfl | rfl <;> (simp;omega)) e⟩ my (by omega) (by omega) (by omega)) tk hA (by omega)) ?_
   rintro _ h7 ⟨u,rfl,ox7,rfl,ok7,id7,kk7⟩
   conv=>whnf
   refine ⟨few_get fun b hb y e=>?_,?_⟩
   ·simp only [List.mem_cons,List.not_mem_nil,or_false] at hb
    rcases hb with rfl | rfl
    ·rw [q65] at e;cases e;exact kk7 _ _ _ l2 q65
    ·rw [q67] at e;cases e;exact kk7 _ _ _ l2 q67
   conv=>whnf
   refine AStore.aggN rfl rfl rfl ((kk7 _ _ _ l2 q610)) rfl (outCells (c.take y.abs A).done.2 ox7) rfl fun h8 t8 q8 a8 e8=>?_;conv=>whnf
   have q85:=e8 _ _ (Ne.symm b5A) (kk7 _ _ _ l2 q65)
   have q89:=e8 _ _ (Ne.symm b9A) (kk7 _ _ _ l2 q6)
   have d12:∀ {t:Tag},t≠(0,1)→t.1∉[N+20+2*n.toNat,N+20+2*n.toNat+1]→∀ b y,h5 b=some (t,y)→h8 b=some (t,y):=fun ha hb b y e=>t8 _ _ _ ha (kk7 _ _ _ hb (t6 _ _ _ ha e))
   have oka8:=ok5.move (h':=h8) fun b t y ht e=>d12 (fun z=>by rw [z] at ht;simp at ht) (by simp;omega) _ _ e
   have okb8:=ok7.move (h':=h8) fun b t y ht e=>t8 _ _ _ (fun z=>by rw [z] at ht;simp at ht) e
   have ip8:=id5.move (h':=h8) fun b t y ht e=>d12 (fun z=>by rw [z] at ht;simp only at ht;omega) (by simp;omega) _ _ e
   have im8:=id7.move (h':=h8) fun b t y ht e=>t8 _ _ _ (fun z=>by rw [z] at ht;simp only at ht;omega) e
   have mv8:∀ b (t:Tag) y,t.1∉duo N n→h b=some (t,y)→h8 b=some (t,y):=fun b t y ht e=>by
    unfold duo at ht
    simp only [List.mem_cons,List.not_mem_nil,or_false,not_or] at ht
    exact e8 _ _ (old f10 e) (kk7 _ _ _ (by simp;omega) (mv6 _ _ _ (by simp;omega) e))
   exact ⟨_,(c.take y.abs A).done.2,ox5,ox7,0,(c.take y.abs A).done.1,updL_self ⟨rfl,rfl,rfl,rfl,rfl,rfl,rfl,trivial⟩,q85,q89,q8,oka8,okb8,ip8,im8,mv8,AF⟩
  refine ACmp.no (c1) ?_;conv=>whnf
  by_cases c2:kind=2
  ·refine ACmp.yes (c2) ?_;conv=>whnf
   have hA:=hk2 c2
   have AF:Aft x n (c.proposed A data).2.2.1 (c.proposed A data).2.2.2 (g.lim+10):=by rw [hc];exact aft_propose i n1 n2 h5 hdb (by omega) hl
   refine AIf.go ?_;conv=>whnf
   refine ADrawn.mk (few h4 [p,b7]) [15] (few_sub _ _) (by decide +kernel) ?_;conv=>whnf
   refine AIdxA.nat (n:=6) (z:=1) (j:=mn) (by omega) (by omega) rfl rfl ?_;conv=>whnf
   refine ALoad.one (v:=Ptr bp) rfl ((few_at (by simp)).trans hp4) (by have:=core_cell x0 v n1 n5;rw [hbp] at this;rw [show 0+2+mn*1=2+n.toNat by omega];exact this) ?_
   refine ALoad.one rfl ((few_at (by simp)).trans r7) rfl ?_
   refine ALoad.one rfl ((few_at (by simp)).trans r7) rfl ?_;conv=>whnf
   refine ACalls.mono (propose_two (N+1) (by omega) ip4 ck A (hd.sub s14) hdb) ?_
   rintro _ h5 ⟨u,rfl,ox5,rfl,ok5,id5,kk5⟩
   conv=>whnf
   refine ⟨few_get fun b hb y e=>?_,?_⟩
   ·simp only [List.mem_cons,List.not_mem_nil,or_false] at hb
    rcases hb with rfl | rfl
    ·rw [hp4] at e;cases e;exact kk5 _ _ _ (by simp;omega) hp4
    ·rw [r7] at e;cases e;exact kk5 _ _ _ l1 r7
   conv=>whnf
   refine AStore.aggN rfl rfl rfl ((kk5 _ _ _ l1 r9)) rfl (outCells (c.proposed A data).2.2.1 ox5) rfl fun h6 t6 q6 a6 e6=>?_;conv=>whnf
   have q65:=e6 _ _ (Ne.symm b59) (kk5 _ _ _ l1 r5)
   have q67:=e6 _ _ (Ne.symm b79) (kk5 _ _ _ l1 r7)
   have q610:=e6 _ _ b9A (kk5 _ _ _ l1 q10)
   have mv6:∀ b (t:Tag) y,t.1∉[N+2*n.toNat,N+2*n.toNat+1]→h b=some (t,y)→h6 b=some (t,y):=fun b t y ht e=>e6 _ _ (old f9 e) (kk5 _ _ _ ht (s14 _ _ e))
   have im6:RIdle h6 bm (N+20+2*n.toNat) c:=im.move fun b t y ht e=>mv6 _ _ _ (by simp;omega) e
   refine ADrawn.mk (few h6 [b5,b7]) [12] (few_sub _ _) (by decide +kernel) ?_;conv=>whnf
   refine AIdxA.nat (n:=6) (z:=1) (j:=mn) (by omega) (by omega) rfl rfl ?_;conv=>whnf
   refine ALoad.one (v:=Ptr bm) rfl ((few_at (by simp)).trans q65) (by have:=ref_cell m n1 n5;rw [hbm] at this;rw [show 0+mn*1=n.toNat by omega];exact this) ?_
   refine ALoad.one rfl ((few_at (by simp)).trans q67) rfl ?_
   refine ALoad.one rfl ((few_at (by simp)).trans q67) rfl ?_;conv=>whnf
   refine ACalls.mono (rpropose_two (N+18) (by omega) im6 dk A (Sl.move hd fun b z e=>mv6 _ _ _ l1 e) (by show 0≠_;omega) hdb) ?_
   rintro _ h7 ⟨u,rfl,ox7,rfl,ok7,id7,kk7⟩
   conv=>whnf
   refine ⟨few_get fun b hb y e=>?_,?_⟩
   ·simp only [List.mem_cons,List.not_mem_nil,or_false] at hb
    rcases hb with rfl | rfl
    ·rw [q65] at e;cases e;exact kk7 _ _ _ l2 q65
    ·rw [q67] at e;cases e;exact kk7 _ _ _ l2 q67
   conv=>whnf
   refine AStore.aggN rfl rfl rfl ((kk7 _ _ _ l2 q610)) rfl (outCells (c.proposed A data).2.2.1 ox7) rfl fun h8 t8 q8 a8 e8=>?_;conv=>whnf
   have q85:=e8 _ _ (Ne.symm b5A) (kk7 _ _ _ l2 q65)
   have q89:=e8 _ _ (Ne.symm b9A) (kk7 _ _ _ l2 q6)
   have d12:∀ {t:Tag},t≠(0,1)→t.1∉[N+20+2*n.toNat,N+20+2*n.toNat+1]→∀ b y,h5 b=some (t,y)→h8 b=some (t,y):=fun ha hb b y e=>t8 _ _ _ ha (kk7 _ _ _ hb (t6 _ _ _ ha e))
   have oka8:=ok5.move (h':=h8) fun b t y ht e=>d12 (fun z=>by rw [z] at ht;simp at ht) (by simp;omega) _ _ e
   have okb8:=ok7.move (h':=h8) fun b t y ht e=>t8 _ _ _ (fun z=>by rw [z] at ht;simp at ht) e
   have ip8:=id5.move (h':=h8) fun b t y ht e=>d12 (fun z=>by rw [z] at ht;simp only at ht;omega) (by simp;omega) _ _ e
   have im8:=id7.move (h':=h8) fun b t y ht e=>t8 _ _ _ (fun z=>by rw [z] at ht;simp only at ht;omega) e
   have mv8:∀ b (t:Tag) y,t.1∉duo N n→h b=some (t,y)→h8 b=some (t,y):=fun b t y ht e=>by
    unfold duo at ht
    simp only [List.mem_cons,List.not_mem_nil,or_false,not_or] at ht
    exact e8 _ _ (old f10 e) (kk7 _ _ _ (by simp;omega) (mv6 _ _ _ (by simp;omega) e))
   exact ⟨_,(c.proposed A data).2.2.1,ox5,ox7,(c.proposed A data).2.1,(c.proposed A data).2.2.2,updL_self ⟨rfl,rfl,rfl,rfl,rfl,rfl,rfl,trivial⟩,q85,q89,q8,oka8,okb8,ip8,im8,mv8,AF⟩
  refine ACmp.no (c2) ?_;conv=>whnf
  by_cases c3:kind=3
  ·refine ACmp.yes (c3) ?_;conv=>whnf
   have AF:Aft x n c.asked1.2.2.1 c.asked1.2.2.2 (g.lim+10):=by rw [hc];exact aft_read i n1 n2 h5 hl
   refine AIdxA.nat (n:=6) (z:=1) (j:=mn) (by omega) (by omega) rfl rfl ?_;conv=>whnf
   refine ALoad.one (v:=Ptr bp) rfl hp4 (by have:=core_cell x0 v n1 n5;rw [hbp] at this;rw [show 0+2+mn*1=2+n.toNat by omega];exact this) ?_;conv=>whnf
   refine ACalls.mono (read_two (N+1) (by omega) ip4 ck) ?_
   rintro _ h5 ⟨u,rfl,ox5,rfl,ok5,id5,kk5⟩
   conv=>whnf
   refine AStore.aggN rfl rfl rfl ((kk5 _ _ _ l1 r9)) rfl (outCells c.asked1.2.2.1 ox5) rfl fun h6 t6 q6 a6 e6=>?_;conv=>whnf
   have q65:=e6 _ _ (Ne.symm b59) (kk5 _ _ _ l1 r5)
   have q67:=e6 _ _ (Ne.symm b79) (kk5 _ _ _ l1 r7)
   have q610:=e6 _ _ b9A (kk5 _ _ _ l1 q10)
   have mv6:∀ b (t:Tag) y,t.1∉[N+2*n.toNat,N+2*n.toNat+1]→h b=some (t,y)→h6 b=some (t,y):=fun b t y ht e=>e6 _ _ (old f9 e) (kk5 _ _ _ ht (s14 _ _ e))
   have im6:RIdle h6 bm (N+20+2*n.toNat) c:=im.move fun b t y ht e=>mv6 _ _ _ (by simp;omega) e
   refine AIdxA.nat (n:=6) (z:=1) (j:=mn) (by omega) (by omega) rfl rfl ?_;conv=>whnf
   refine ALoad.one (v:=Ptr bm) rfl q65 (by have:=ref_cell m n1 n5;rw [hbm] at this;rw [show 0+mn*1=n.toNat by omega];exact this) ?_;conv=>whnf
   refine ACalls.mono (rread_two (N+18) (by omega) im6 dk) ?_
   rintro _ h7 ⟨u,rfl,ox7,rfl,ok7,id7,kk7⟩
   conv=>whnf
   refine AStore.aggN rfl rfl rfl ((kk7 _ _ _ l2 q610)) rfl (outCells c.asked1.2.2.1 ox7) rfl fun h8 t8 q8 a8 e8=>?_;conv=>whnf
   have q85:=e8 _ _ (Ne.symm b5A) (kk7 _ _ _ l2 q65)
   have q89:=e8 _ _ (Ne.symm b9A) (kk7 _ _ _ l2 q6)
   have d12:∀ {t:Tag},t≠(0,1)→t.1∉[N+20+2*n.toNat,N+20+2*n.toNat+1]→∀ b y,h5 b=some (t,y)→h8 b=some (t,y):=fun ha hb b y e=>t8 _ _ _ ha (kk7 _ _ _ hb (t6 _ _ _ ha e))
   have oka8:=ok5.move (h':=h8) fun b t y ht e=>d12 (fun z=>by rw [z] at ht;simp at ht) (by simp;omega) _ _ e
   have okb8:=ok7.move (h':=h8) fun b t y ht e=>t8 _ _ _ (fun z=>by rw [z] at ht;simp at ht) e
   have ip8:=id5.move (h':=h8) fun b t y ht e=>d12 (fun z=>by rw [z] at ht;simp only at ht;omega) (by simp;omega) _ _ e
   have im8:=id7.move (h':=h8) fun b t y ht e=>t8 _ _ _ (fun z=>by rw [z] at ht;simp only at ht;omega) e
   have mv8:∀ b (t:Tag) y,t.1∉duo N n→h b=some (t,y)→h8 b=some (t,y):=fun b t y ht e=>by
    unfold duo at ht
    simp only [List.mem_cons,List.not_mem_nil,or_false,not_or] at ht
    exact e8 _ _ (old f10 e) (kk7 _ _ _ (by simp;omega) (mv6 _ _ _ (by simp;omega) e))
   exact ⟨_,c.asked1.2.2.1,ox5,ox7,c.asked1.2.1,c.asked1.2.2.2,updL_self ⟨rfl,rfl,rfl,rfl,rfl,rfl,rfl,trivial⟩,q85,q89,q8,oka8,okb8,ip8,im8,mv8,AF⟩
  refine ACmp.no (c3) ?_;conv=>whnf
  have c4:kind=4:=by omega
  have hA:=hk4 c4
  have hdl:data.length=d.n:=by have:=hd.len;simpa [bytesV] using this
  obtain ⟨A0,id0⟩:=i.srv n n1 n2
  rw [← hc] at id0
  have hbi:c.log.bi≤c.snap.index:=by rw [id0.srv.si];exact Int.le_refl _
  have hsi:c.snap.index≤9007199254740991:=by have:=id0.srv.si;have:=id0.srv.c0;have:=ck.m2;omega
  obtain ⟨z,g',zc,zs,zm,zi,zl,sl⟩:=cut_net (L:=g.lim+10) i (by omega) n1 n2 (data:=data) (by omega)
  rw [← hc,← hA] at zc sl
  obtain ⟨S,hS⟩:∃ S,S=(c.compacted A data).2.1:=⟨_,rfl⟩
  obtain ⟨C,hC⟩:∃ C,C=(c.compacted A data).2.2:=⟨_,rfl⟩
  obtain ⟨E,hE⟩:∃ E,E=(c.compacted A data).1:=⟨_,rfl⟩
  rw [← hS] at sl
  rw [← hC] at zc
  have pc:∀ {hh:Heap},PIdle hh bp (N+2*n.toNat) c→Sl hh (0,1) d.a d.n d.c 1 (bytesV data)→_:=fun {hh} a b=>compact_two (N+1) (by omega) a ck hbi hsi A b (by show 0≠_;omega) (by omega)
  have rc:∀ {hh:Heap},RIdle hh bm (N+20+2*n.toNat) c→Sl hh (0,1) d.a d.n d.c 1 (bytesV data)→_:=fun {hh} a b=>rcompact_two (N+18) (by omega) a dk hbi hsi A b (by show 0≠_;omega) (by show 0≠_;omega) (by omega)
  rw [← hS,← hC,← hE] at pc rc
  refine AIf.cut (fun e h'=>∃ (e0:Env) (b13:Nat) (a:Option Addr) (nn cc:Nat),e=updL 209 e0 [(0,Ptr p),(2,I n),(5,Ptr b5),(7,Ptr b7),(13,Ptr b13),(14,I E)]∧h' b5=some (row (0,1) (refCells m) 26)∧h' b7=some (row (0,1) (doCells kind A y d) 52)∧h' b13=some (row (0,1) (snapCells S a nn cc) 31) ∧
   Own h' (N+1,6) 5 a nn cc 1 (bytesV S.data)∧PIdle h' bp (N+2*n.toNat) C∧(∀ b (t:Tag) y,t.1∉[N+2*n.toNat,N+2*n.toNat+1]→h b=some (t,y)→h' b=some (t,y))) ?_ ?_
  ·conv=>whnf
   refine ADrawn.mkT (h4) [10] (.take 0 (.take 1 (.take 2 (.take 3 (.take 4 (.take 5 (.take 6 (.take 7 (.take 8 (.take 9 (.alt 10 (.take 11 (.take 12 (.take 13 (.take 14 (.take 15 (.take 16 (.done))))))) (.alt 14 (.take 10 (.take 11 (.take 12 (.take 13 (.take 15 (.take 16 (.done))))))) (.stop))))))))))))) (Sub.refl _) (by decide +kernel) ?_;conv=>whnf
   refine AIdxA.nat (n:=6) (z:=1) (j:=mn) (by omega) (by omega) rfl rfl ?_;conv=>whnf
   refine ALoad.one (v:=Ptr bp) rfl hp4 (by have:=core_cell x0 v n1 n5;rw [hbp] at this;rw [show 0+2+mn*1=2+n.toNat by omega];exact this) ?_
   refine ALoad.one rfl r7 rfl ?_
   refine ALoad.one rfl r7 rfl ?_;conv=>whnf
   refine And.intro ?_ ?_
   ·refine ACalls.mono (pc ip4 (hd.sub s14)) ?_
    rintro _ h5 ⟨a,nn,cc,rfl,ow5,id5,kk5⟩
    conv=>whnf
    refine AAlloc.mkN (0,1) ([I 0,I 0,I 0, .slice none 0 0]) rfl fun b13 h6 n6 s6 q6=>?_;conv=>whnf
    refine ⟨Sub.nil _,?_⟩;conv=>whnf
    refine AStore.aggN rfl rfl rfl (q6) rfl (snapCells S a nn cc) rfl fun h7 t7 q7 a7 e7=>?_;conv=>whnf
    refine ⟨Sub.nil _,?_⟩;conv=>whnf
    have s7:Sub h5 h7:=a7 h5 s6 n6
    exact ⟨_,b13,a,nn,cc,updL_self ⟨rfl,rfl,rfl,rfl,rfl,rfl,trivial⟩,s7 _ _ (kk5 _ _ _ l1 r5),s7 _ _ (kk5 _ _ _ l1 r7),q7,ow5.move fun _ _ e=>s7 _ _ e,id5.move fun _ _ _ _ e=>s7 _ _ e,fun b t y ht e=>s7 _ _ (kk5 _ _ _ ht (s14 _ _ e))⟩
   ·conv=>whnf
    refine And.intro ?_ trivial
    refine AAlloc.mkN (0,1) ([I 0,I 0,I 0, .slice none 0 0]) rfl fun b13 h5 n13 s5 q5=>?_;conv=>whnf
    refine ⟨s5,?_⟩;conv=>whnf
    refine ACalls.mono (pc (ip4.move fun _ _ _ _ e=>s5 _ _ e) (hd.sub (s14.trans s5))) ?_
    rintro _ h6 ⟨a,nn,cc,rfl,ow6,id6,kk6⟩
    conv=>whnf
    refine AStore.aggN rfl rfl rfl ((kk6 _ _ _ l1 q5)) rfl (snapCells S a nn cc) rfl fun h7 t7 q7 a7 e7=>?_;conv=>whnf
    refine ⟨Sub.nil _,?_⟩;conv=>whnf
    have mo:∀ b (t:Tag) y,t.1∉[N+2*n.toNat,N+2*n.toNat+1]→h4 b=some (t,y)→h7 b=some (t,y):=fun b t y ht e=>e7 _ _ (fun z=>by rw [z,n13] at e;cases e) (kk6 _ _ _ ht (s5 _ _ e))
    exact ⟨_,b13,a,nn,cc,updL_self ⟨rfl,rfl,rfl,rfl,rfl,rfl,trivial⟩,mo _ _ _ l1 r5,mo _ _ _ l1 r7,q7,ow6.keepT t7 (by simp),id6.move fun b t y ht e=>t7 _ _ _ (fun z=>by rw [z] at ht;simp only at ht;omega) e,fun b t y ht e=>mo _ _ _ ht (s14 _ _ e)⟩
  rintro e h6 ⟨e1,b13,a,nn,cc,rfl,q65,q67,q613,ow6,id6,mv6⟩
  have im6:RIdle h6 bm (N+20+2*n.toNat) c:=im.move fun b t y ht e=>mv6 _ _ _ (by simp;omega) e
  have hd6:Sl h6 (0,1) d.a d.n d.c 1 (bytesV data):=Sl.move hd fun b z e=>mv6 _ _ _ l1 e
  conv=>whnf
  refine AIf.cut (fun e h'=>∃ (e0:Env) (b15:Nat) (a':Option Addr) (nn' cc':Nat),e=updL 209 e0 [(13,Ptr b13),(14,I E),(15,Ptr b15),(16,I E)]∧h' b13=some (row (0,1) (snapCells S a nn cc) 31)∧h' b15=some (row (0,1) (snapCells S a' nn' cc') 31) ∧
   Own h' (N+1,6) 5 a nn cc 1 (bytesV S.data)∧Own h' (N+18,6) 5 a' nn' cc' 1 (bytesV S.data)∧PIdle h' bp (N+2*n.toNat) C∧RIdle h' bm (N+20+2*n.toNat) C∧(∀ b (t:Tag) y,t.1∉duo N n→h b=some (t,y)→h' b=some (t,y))) ?_ ?_
  ·conv=>whnf
   refine ADrawn.mkT (h6) [7] (.take 0 (.take 1 (.take 2 (.take 3 (.take 4 (.take 5 (.take 6 (.alt 7 (.take 8 (.take 9 (.take 10 (.take 11 (.take 12 (.take 13 (.done))))))) (.alt 11 (.take 7 (.take 8 (.take 9 (.take 10 (.take 12 (.take 13 (.done))))))) (.stop)))))))))) (Sub.refl _) (by decide +kernel) ?_;conv=>whnf
   refine AIdxA.nat (n:=6) (z:=1) (j:=mn) (by omega) (by omega) rfl rfl ?_;conv=>whnf
   refine ALoad.one (v:=Ptr bm) rfl q65 (by have:=ref_cell m n1 n5;rw [hbm] at this;rw [show 0+mn*1=n.toNat by omega];exact this) ?_
   refine ALoad.one rfl q67 rfl ?_
   refine ALoad.one rfl q67 rfl ?_;conv=>whnf
   have mvd:∀ {hh:Heap},(∀ b (t:Tag) y,t.1∉[N+20+2*n.toNat,N+20+2*n.toNat+1]→h6 b=some (t,y)→hh b=some (t,y))→∀ b (t:Tag) y,t.1∉duo N n→h b=some (t,y)→hh b=some (t,y):=fun f b t y ht e=>by
    unfold duo at ht
    simp only [List.mem_cons,List.not_mem_nil,or_false,not_or] at ht
    exact f _ _ _ (by simp;omega) (mv6 _ _ _ (by simp;omega) e)
   refine And.intro ?_ ?_
   ·refine ACalls.mono (rc im6 hd6) ?_
    rintro _ h7 ⟨a',nn',cc',rfl,ow7,id7,kk7⟩
    conv=>whnf
    refine AAlloc.mkN (0,1) ([I 0,I 0,I 0, .slice none 0 0]) rfl fun b15 h8 n8 s8 q8=>?_;conv=>whnf
    refine ⟨Sub.nil _,?_⟩;conv=>whnf
    refine AStore.aggN rfl rfl rfl (q8) rfl (snapCells S a' nn' cc') rfl fun h9 t9 q9 a9 e9=>?_;conv=>whnf
    refine ⟨Sub.nil _,?_⟩;conv=>whnf
    have s9:Sub h7 h9:=a9 h7 s8 n8
    have mo:∀ b (t:Tag) y,t.1∉[N+20+2*n.toNat,N+20+2*n.toNat+1]→h6 b=some (t,y)→h9 b=some (t,y):=fun b t y ht e=>s9 _ _ (kk7 _ _ _ ht e)
    exact ⟨_,b15,a',nn',cc',updL_self ⟨rfl,rfl,rfl,rfl,trivial⟩,mo _ _ _ l2 q613,q9,ow6.move fun _ _ e=>mo _ _ _ (by simp;omega) e,ow7.move fun _ _ e=>s9 _ _ e,id6.move fun b t y ht e=>mo _ _ _ (by simp;omega) e,id7.move fun _ _ _ _ e=>s9 _ _ e,mvd mo⟩
   ·conv=>whnf
    refine And.intro ?_ trivial
    refine AAlloc.mkN (0,1) ([I 0,I 0,I 0, .slice none 0 0]) rfl fun b15 h7 n15 s7 q7=>?_;conv=>whnf
    refine ⟨s7,?_⟩;conv=>whnf
    refine ACalls.mono (rc (im6.move fun _ _ _ _ e=>s7 _ _ e) (hd6.sub s7)) ?_
    rintro _ h8 ⟨a',nn',cc',rfl,ow8,id8,kk8⟩
    conv=>whnf
    refine AStore.aggN rfl rfl rfl ((kk8 _ _ _ l2 q7)) rfl (snapCells S a' nn' cc') rfl fun h9 t9 q9 a9 e9=>?_;conv=>whnf
    refine ⟨Sub.nil _,?_⟩;conv=>whnf
    have mo:∀ b (t:Tag) y,t.1∉[N+20+2*n.toNat,N+20+2*n.toNat+1]→h6 b=some (t,y)→h9 b=some (t,y):=fun b t y ht e=>e9 _ _ (fun z=>by rw [z,n15] at e;cases e) (kk8 _ _ _ ht (s7 _ _ e))
    exact ⟨_,b15,a',nn',cc',updL_self ⟨rfl,rfl,rfl,rfl,trivial⟩,mo _ _ _ l2 q613,q9,ow6.move fun _ _ e=>mo _ _ _ (by simp;omega) e,ow8.keepT t9 (by simp),id6.move fun b t y ht e=>mo _ _ _ (by simp;omega) e,id8.move fun b t y ht e=>t9 _ _ _ (fun z=>by rw [z] at ht;simp only at ht;omega) e,mvd mo⟩
  rintro e h8 ⟨e2,b15,a',nn',cc',rfl,q813,q815,owa,owb,ip8,im8,mv8⟩
  conv=>whnf
  refine AIf.go ?_;conv=>whnf
  refine ACmp.yes (rfl) ?_;conv=>whnf
  refine ALoad.agg rfl q813 rfl rfl ?_
  refine ALoad.agg rfl q815 rfl rfl ?_;conv=>whnf
  have hSl:S.data.length=nn:=by
   have h1:=owa.sl.len
   simpa [bytesV] using h1
  have hnn:nn≤8192:=by omega
  refine ACalls.mono (sameSnap_any (d1:=⟨a,nn,cc⟩) (d2:=⟨a',nn',cc'⟩) owa.sl owb.sl (by show nn≤_;omega)) ?_
  rw [snap_self]
  rintro _ h9 ⟨rfl,rfl⟩
  conv=>whnf
  refine ⟨rfl,⟨z,v,g',?_,zi,zl,zs,by rw [zm];omega,by rw [zm];omega⟩,fun b t y ht e=>mv8 _ _ _ (by unfold duo;simp;omega) e⟩
  exact k.next n1 n2 zc zs (fun b t y ht _ _ e=>mv8 _ _ _ ht e) hbp hbm ip8 im8 (s:=v.ml) (ps:=v.ps) (mv8 _ _ _ (by unfold duo;simp;omega) k.str) (k.ml.move fun _ _ e=>mv8 _ _ _ (by unfold duo;simp;omega) e) (by rw [zm];exact k.pa) (fun y hy=>by
   obtain ⟨r,hr⟩:=k.ps y hy
   exact ⟨r,hr.move fun b t z ht e=>mv8 _ _ _ (by unfold duo;rcases ht with rfl | rfl | rfl <;> (simp;omega)) e⟩)
 rintro e h5 ⟨e0,O,oa,ob,er,C,rfl,w5,w9,w10,oka,okb,idp,idr,mv,⟨⟨z,g',zc,zs,zm,zi,zl⟩,sm⟩⟩
 have sm1:=sm.s
 have sm2:=sm.e
 have sm3:=sm.r
 have sm4:=sm.n
 have dN:∀ r:Nat,((N,r):Tag).1∉duo N n:=fun r=>by unfold duo;simp;omega
 have dM:∀ r:Nat,((N+1,r):Tag).1∉duo N n:=fun r=>by unfold duo;simp;omega
 have ps5:=mv _ _ _ (dN _) k.str
 have ml5:=k.ml.move fun _ _ e=>mv _ _ _ (dN _) e
 obtain ⟨cxr,kxr⟩:=idr.x
 obtain ⟨ct1,ct2⟩:=k.count
 have ctO:=oka.count
 conv=>whnf
 refine AIf.go ?_;conv=>whnf
 refine AIf.go ?_;conv=>whnf
 refine ADrawn.mkO (h5) [] [0,1,2,3,4,5,6,7,8,9,10,11,12,13,14,15,17,18,19,20,21,22,16,23,24,25,26,27,28,29,30,31,33,34,35,36,37,38,32,39,40] (Sub.refl _) (by decide +kernel) ?_;conv=>whnf
 refine ACmp.no ((by simp)) ?_;conv=>whnf
 refine ALoad.agg rfl w9 rfl rfl ?_
 refine ALoad.agg rfl w10 rfl rfl ?_;conv=>whnf
 refine ACalls.mono (sameOut_any oka okb (by omega) (by omega) (by omega) (by omega) (fun q hq=>by have:=sm.p q hq;omega)) ?_
 rintro _ _ ⟨rfl,rfl⟩
 conv=>whnf
 refine ⟨Sub.refl _,?_⟩;conv=>whnf
 refine AIdxA.nat (n:=6) (z:=1) (j:=mn) (by omega) (by omega) rfl rfl ?_;conv=>whnf
 refine ALoad.one (v:=Ptr bp) rfl ps5 (by have:=core_cell x0 v n1 n5;rw [hbp] at this;rw [show 0+2+mn*1=2+n.toNat by omega];exact this) ?_;conv=>whnf
 refine AIdxA.nat (n:=6) (z:=1) (j:=mn) (by omega) (by omega) rfl rfl ?_;conv=>whnf
 refine ALoad.one (v:=Ptr bm) rfl w5 (by have:=ref_cell m n1 n5;rw [hbm] at this;rw [show 0+mn*1=n.toNat by omega];exact this) ?_
 refine ALoad.one rfl kxr.str rfl ?_;conv=>whnf
 refine ACalls.mono (state_i idp) ?_;rintro _ _ ⟨rfl,rfl⟩;conv=>whnf
 refine ⟨Sub.refl _,?_⟩;conv=>whnf
 refine ACmp.no ((by simp)) ?_;conv=>whnf
 refine AIdxA.nat (n:=6) (z:=1) (j:=mn) (by omega) (by omega) rfl rfl ?_;conv=>whnf
 refine ALoad.one (v:=Ptr bp) rfl ps5 (by have:=core_cell x0 v n1 n5;rw [hbp] at this;rw [show 0+2+mn*1=2+n.toNat by omega];exact this) ?_;conv=>whnf
 refine AIdxA.nat (n:=6) (z:=1) (j:=mn) (by omega) (by omega) rfl rfl ?_;conv=>whnf
 refine ALoad.one (v:=Ptr bm) rfl w5 (by have:=ref_cell m n1 n5;rw [hbm] at this;rw [show 0+mn*1=n.toNat by omega];exact this) ?_
 refine ALoad.one rfl kxr.str rfl ?_;conv=>whnf
 refine ACalls.mono (commit_i idp) ?_;rintro _ _ ⟨rfl,rfl⟩;conv=>whnf
 refine ⟨Sub.refl _,?_⟩;conv=>whnf
 refine ACmp.no ((by simp)) ?_;conv=>whnf
 refine AIf.go ?_;conv=>whnf
 refine ADrawn.mk (few h5 [p,b9]) [10] (few_sub _ _) (by decide +kernel) ?_;conv=>whnf
 refine ALoad.one rfl ((few_at (by simp)).trans ps5) rfl ?_
 refine ALoad.one rfl ((few_at (by simp)).trans w9) rfl ?_;conv=>whnf
 refine AAppend.own (t:=(N,3)) (E:=49) (z:=14) (by_:=144) (zero:=post0z) (tx:=(N+1,3)) rfl ⟨_,rfl⟩ rfl rfl rfl rfl (by omega) ml5 oka.op.sl (ph_one _) (by omega) (by omega) fun a11 c11 h11 ow11 t11 _=>?_
 conv=>whnf
 have p11:=t11.get (u:=(N,0)) (by simp) ps5
 have b11:=t11.get (u:=(0,1)) (fun c=>by have:=congrArg Prod.snd c;simp at this) w9
 refine ⟨few_get fun b hb y e=>?_,?_⟩
 ·simp only [List.mem_cons,List.not_mem_nil,or_false] at hb
  rcases hb with rfl | rfl
  ·rw [ps5] at e;cases e;exact p11
  ·rw [w9] at e;cases e;exact b11
 conv=>whnf
 refine AStore.oneN rfl rfl rfl (p11) rfl (netCells x0 {v with ml:=⟨a11,v.ml.n+oa.op.n,c11⟩,ps:=v.ps++oa.ps}) rfl fun h12 t12 q12 a12 e12=>?_;conv=>whnf
 refine ALoad.one rfl q12 rfl ?_;conv=>whnf
 refine ACmp.yes ((by show ((v.ml.n+oa.op.n:Nat):Int)<2000;omega)) ?_;conv=>whnf
 have mv12:∀ b (t:Tag) y,t≠(N,0)→t≠(N,3)→h5 b=some (t,y)→h12 b=some (t,y):=fun b t y n0 n3 e=>t12 _ _ _ n0 (t11 _ _ _ n3 e)
 refine ⟨rfl,⟨z,{v with ml:=⟨a11,v.ml.n+oa.op.n,c11⟩,ps:=v.ps++oa.ps},g',?_,zi,zl,zs,by rw [zm,List.length_append];omega,by rw [zm,List.length_append];omega⟩,fun b t y ht e=>mv12 _ _ _ (fun c=>by rw [c] at ht;simp at ht) (fun c=>by rw [c] at ht;simp at ht) (mv _ _ _ (by unfold duo;simp;omega) e)⟩
 refine k.next n1 n2 zc zs (fun b t y ht n0 n3 e=>mv12 _ _ _ n0 n3 (mv _ _ _ ht e)) hbp hbm (idp.move fun b t y ht e=>mv12 _ _ _ (fun c=>by rw [c] at ht;simp only at ht;omega) (fun c=>by rw [c] at ht;simp only at ht;omega) e) (idr.move fun b t y ht e=>mv12 _ _ _ (fun c=>by rw [c] at ht;simp only at ht;omega) (fun c=>by rw [c] at ht;simp only at ht;omega) e)
  q12 (by rw [List.map_append,List.flatten_append];exact ow11.keepT t12 (by simp)) (by rw [List.map_append,oka.pa,k.pa,zm]) (fun y hy=>?_)
 rcases List.mem_append.1 hy with hy | hy
 ·obtain ⟨r,hr⟩:=k.ps y hy
  exact ⟨r,hr.move fun b t z ht e=>mv12 _ _ _ (by rcases ht with rfl | rfl | rfl <;> simp) (by rcases ht with rfl | rfl | rfl <;> simp) (mv _ _ _ (by rcases ht with rfl | rfl | rfl <;> exact dM _) e)⟩
 ·obtain ⟨j,hj⟩:=List.getElem?_of_mem hy
  exact ⟨_,(Made.ok (oka.ps j y hj)).move fun b t z ht e=>mv12 _ _ _ (by rcases ht with rfl | rfl | rfl <;> simp) (by rcases ht with rfl | rfl | rfl <;> simp) e⟩
end
def hist0:Hist:={first:=14,led:=fun _=>0,ll:=fun _=>[],ini:=fun _=>[],q:=fun _ _=>false,acc:=fun _ _=>0}
def gh0 (size:Int):Gh:={size:=size,lim:=10,H:=hist0,tm:=fun _=>0,vt:=fun _ _=>0,cand:=fun _ _=>[]}
theorem new_eq (n d:Int):cnew n 14 saved0 d=⟨n,14,0,0,snap0,lnew 0 0,0,0,0,waits d,10,0,five0,five0,five0,0,0,[],out0⟩:=rfl
theorem wld0 {size:Int} (h3:3≤size) (h5:size≤5):Wld (gh0 size):=by
 refine ⟨⟨fun t h=>absurd rfl h,fun t h=>absurd rfl h,fun t _ _ h=>absurd rfl h,fun t _ _ h=>absurd rfl h,fun t _ _ h=>absurd rfl h,fun t h=>absurd rfl h,fun t _ h=>absurd rfl h,fun t _ _ h=>absurd rfl h⟩,rfl,h3,h5,fun t h=>absurd rfl h,fun _ _=>rfl,fun _ _=>Nat.le_refl _,fun _ _ h=>absurd h (Nat.lt_irrefl _),fun _ _=>rfl,fun t _ h=>absurd rfl h,fun _ _ h=>absurd rfl h,fun _ e h=>?_,fun _ k e h=>?_,fun t s h h'=>?_,fun _ _ _=>?_,fun _=>?_,?_⟩
 ·cases h
 ·cases h
 ·exact absurd h'.symm h
 ·show (0:Int)≤10;omega
 ·show (((([]:List Abs)).length:Nat):Int)≤10;simp
 ·show (10:Int)≤100000000;omega
theorem idl0 {size:Int} (h3:3≤size) (h5:size≤5) {n:Int} (n1:1≤n) (n2:n≤size):Idl (gh0 size) n saved0 (cnew n 14 saved0 n) []:=by
 obtain ⟨w1,w2⟩:=waits_in (d:=n) (by omega)
 rw [new_eq]
 have ge:∀ (k:Nat) (e:Abs),([]:List Abs)[k]? = some e→False:=fun k e h=>by cases h
 refine ⟨?_,rfl,rfl⟩
 exact {
  n1:=n1
  n2:=n2
  self:=rfl
  first:=rfl
  tm:=rfl
  t0:=Int.le_refl 0
  rep:=⟨Int.le_refl 0,Nat.le_refl 0,rfl,rfl,fun k e h=>(ge k e h).elim⟩
  si:=rfl
  s0:=fun _=>rfl
  s1:=fun h=>absurd h (Int.lt_irrefl 0)
  sd:=Nat.zero_le _
  good:=⟨fun k e h=>(ge k e h).elim,fun j k e f _ h=>(ge j e h).elim⟩
  low:=fun k e h=>(ge k e h).elim
  eok:=fun e h=>by cases h
  al:=(by decide:(0:Int)≤10)
  vl:=fun u i _ h=>absurd rfl h
  c0:=Int.le_refl 0
  c1:=Int.le_refl 0
  com := .inl rfl
  vote:=rfl
  vr0:=Int.le_refl 0
  vr1:=(by decide:(0:Int)≤5)
  st := .inl rfl
  lead:=fun h=>by cases h
  lc:=fun h=>by cases h
  cand:=fun h=>by cases h
  idle:=fun _=>⟨rfl,rfl,rfl⟩
  q1:=(by decide:(0:Int)≤10)
  q2:=Int.le_refl 10
  w1:=by show 1≤waits n;omega
  w2:=w2
  b0:=fun h=>by cases h
  b1:=Int.le_refl 0
  b2:=(by decide:(0:Int)≤2)
  v1:=Int.le_refl 0
  v2:=(by decide:(0:Int)<64)
  r1:=Int.le_refl 0
  r2:=(by decide:(0:Int)≤10)
  rl:=(by decide:(0:Int)≤10)}
theorem new_get (size:Int) {n:Int} (n1:1≤n) (n5:n≤5):(newNetM size).cores.get n=cnew n 14 saved0 n∧(newNetM size).kept.get n=saved0:=by
 have:n=1∨n=2∨n=3∨n=4∨n=5:=by omega
 rcases this with rfl | rfl | rfl | rfl | rfl <;> exact ⟨rfl,rfl⟩
theorem netI0 (size:Int):NetI (gh0 (newNetM size).size) (newNetM size):=by
 have hb:=bring_in size 3 (by omega)
 have h3:3≤(newNetM size).size:=by show 3≤3+bring size 3;omega
 have h5:(newNetM size).size≤5:=by show 3+bring size 3≤5;omega
 refine ⟨wld0 h3 h5,rfl,fun n n1 n2=>⟨[],?_⟩,fun p hp=>(by cases hp),rfl,fun t o h=>(by cases h),fun i e h=>(by cases h),fun n n1 n2=>?_,fun n n1 n2=>?_,Int.le_refl 0⟩
 ·obtain ⟨e1,e2⟩:=new_get size n1 (show n≤5 by omega)
  rw [e1,e2];exact idl0 h3 h5 n1 n2
 ·obtain ⟨e1,e2⟩:=new_get size n1 (show n≤5 by omega)
  rw [e1,new_eq]
  show five0.get n≤0
  have:n=1∨n=2∨n=3∨n=4∨n=5:=by omega
  rcases this with rfl | rfl | rfl | rfl | rfl <;> exact Int.le_refl 0
 ·obtain ⟨e1,e2⟩:=new_get size n1 (show n≤5 by omega)
  rw [e1,new_eq]
  show five0.get n≤0
  have:n=1∨n=2∨n=3∨n=4∨n=5:=by omega
  rcases this with rfl | rfl | rfl | rfl | rfl <;> exact Int.le_refl 0
theorem awakeM_true:awakeM=true:=by decide +kernel
section
variable {h h':Heap} {N p:Nat} {x:NetM} {v:NX} {n:Int} {g:Gh}
structure NetAt (h:Heap) (N p:Nat) (x:NetM) (L:Int):Prop where
  mem:∃ v,NetX h N p x v
  inv:∃ g,NetI g x∧g.lim≤L
  draw:x.draw<100003
theorem step_draw (k:NetI g x) (s:StepM) (hl:g.lim+60≤100000000):(x.step s).draw<100003:=by
 have hdr:=k.draw
 have h:=(k.withDraw (d:=(x.draw*7+s.b % 1024+3) % 100003) (Int.emod_nonneg _ (by omega))).stepOf s hl
 rw [step_eq,h.draw]
 exact Int.emod_lt_of_pos _ (by omega)
theorem step_at {L:Int} (k:NetAt h N p x L) (hL:L+60≤100000000) (s:StepH) :
  ACalls PR 16 #[Ptr p, .agg s.cells.toArray] h (fun r h'=>r = .tuple #[]∧NetAt h' N p (x.step s.m) (L+60)∧(x.step s.m).size=x.size∧Low N h h'):=by
 obtain ⟨⟨v,kv⟩,⟨g,ig,hg⟩,hd⟩:=k
 refine (step_any kv ig hd (by omega) s).mono ?_
 rintro r h' ⟨rfl,kv',L'⟩
 obtain ⟨⟨g',i',l'⟩,hs⟩:=ig.step s.m (by omega)
 exact ⟨rfl,⟨kv',⟨g',i',by omega⟩,step_draw ig s.m (by omega)⟩,hs,L'⟩
theorem drain_nil {k:Nat} {x:NetM} (h:x.mails=[]):x.drain k=x:=by
 cases k with
 | zero=>rfl
 | succ k=>unfold NetM.drain;rw [h]
theorem drain_cons {k:Nat} {x:NetM} (h:0<x.mails.length):x.drain (k+1)=(x.step ⟨0,0,0⟩).drain k:=by
 cases hm:x.mails with
 | nil=>rw [hm] at h;cases h
 | cons p l=>rw [NetM.drain,hm]
set_option maxHeartbeats 4000000 in
theorem rest_any {L:Int} (hL0:0≤L) (k:NetAt h N p x L) (ticks:Nat) (hL:L+60*2001*ticks≤100000000) :
  ACalls PR 20 #[Ptr p,I ticks] h (fun r h'=>r = .tuple #[]∧NetAt h' N p (x.rest ticks) (L+60*2001*ticks)∧(x.rest ticks).size=x.size∧Low N h h'):=by
 refine acalls_of mix Tryz.func20 rfl rfl Tryz.ntmps20 Tryz.results20 rfl ?_;conv=>whnf
 refine ALoop.mk (fun e h'=>∃ (e0:Env) (T:Nat) (y:NetM),e=updL 30 e0 [(0,Ptr p),(1,I ticks),(4,I T)]∧T≤ticks∧NetAt h' N p y (L+60*2001*T)∧y.size=x.size∧Low N h h'∧x.rest ticks=y.rests (ticks-T) T) (fun e=>ticks-natOf (e 4))
  ⟨_,0,x,updL_self ⟨rfl,rfl,rfl,trivial⟩,by omega,by simpa using k,rfl,Low.refl _ _,rfl⟩ ?_
 rintro e h1 ⟨e0,T,y,rfl,hT,ky,hys,L1,er⟩
 conv=>whnf
 by_cases c:T<ticks
 ·refine ACmp.yes ((by omega)) ?_;conv=>whnf
  obtain ⟨U,hU⟩:∃ U,ticks-T=U+1:=⟨ticks-T-1,by omega⟩
  refine ALoop.mk (fun e h'=>∃ (e0:Env) (K:Nat) (z:NetM),e=updL 30 e0 [(0,Ptr p),(1,I ticks),(4,I T),(5,I K)]∧K≤2000∧NetAt h' N p z (L+60*2001*T+60*K)∧z.size=x.size∧Low N h h'∧y.drain 2000=z.drain (2000-K)) (fun e=>2000-natOf (e 5))
   ⟨_,0,y,updL_self ⟨rfl,rfl,rfl,rfl,trivial⟩,by omega,by simpa using ky,hys,L1,rfl⟩ ?_
  rintro e h2 ⟨e1,K,z,rfl,hK,kz,hzs,L2,ez⟩
  obtain ⟨v,kv⟩:=kz.mem
  have hmn:v.ps.length=v.ml.n:=by have:=kv.ml.sl.len;rw [flat_len (ph_len v.ps)] at this;simp at this;omega
  have hmo:v.ps.length=z.mails.length:=by have:=congrArg List.length kv.pa;rw [List.length_map] at this;omega
  conv=>whnf
  by_cases cK:K<2000
  ·refine ACmp.yes ((by omega)) ?_;conv=>whnf
   refine ALoad.one rfl kv.str rfl ?_;conv=>whnf
   by_cases cm:0<z.mails.length
   ·refine ACmp.yes ((by omega)) ?_;conv=>whnf
    refine ACalls.mono (step_at kz (by omega) ⟨0,0,0⟩) ?_
    rintro _ h3 ⟨rfl,k3,s3,L3⟩
    conv=>whnf
    refine AArith.ok (by omega) (by omega) ((by omega:(K:Int)+1=((K+1:Nat):Int))) ?_;conv=>whnf
    refine ⟨⟨_,K+1,_,updL_self ⟨rfl,rfl,rfl,rfl,trivial⟩,by omega,⟨k3.mem,let ⟨g,a,b⟩:=k3.inv;⟨g,a,by omega⟩,k3.draw⟩,s3.trans hzs,L2.trans L3,?_⟩,?_⟩
    ·rw [ez,show 2000-K=(2000-(K+1))+1 by omega,drain_cons cm];rfl
    ·show 2000-(K+1)<2000-K
     omega
   ·refine ACmp.no ((by omega)) ?_;conv=>whnf
    have DR:y.drain 2000=z:=by rw [ez];exact drain_nil (List.eq_nil_of_length_eq_zero (by omega))
    refine ACalls.mono (step_at kz (by omega) ⟨9,0,T⟩) ?_
    rintro _ h3 ⟨rfl,k3,s3,L3⟩
    conv=>whnf
    refine AArith.ok (by omega) (by omega) ((by omega:(T:Int)+1=((T+1:Nat):Int))) ?_;conv=>whnf
    refine ⟨⟨_,T+1,_,updL_self ⟨rfl,rfl,rfl,trivial⟩,by omega,⟨k3.mem,let ⟨g,a,b⟩:=k3.inv;⟨g,a,by omega⟩,k3.draw⟩,s3.trans hzs,L2.trans L3,?_⟩,?_⟩
    ·rw [er,hU,NetM.rests,DR,show ticks-(T+1)=U by omega];rfl
    ·show ticks-(T+1)<ticks-T
     omega
  ·refine ACmp.no ((by omega)) ?_;conv=>whnf
   have DR:y.drain 2000=z:=by rw [ez,show 2000-K=0 by omega];rfl
   refine ACalls.mono (step_at kz (by omega) ⟨9,0,T⟩) ?_
   rintro _ h3 ⟨rfl,k3,s3,L3⟩
   conv=>whnf
   refine AArith.ok (by omega) (by omega) ((by omega:(T:Int)+1=((T+1:Nat):Int))) ?_;conv=>whnf
   refine ⟨⟨_,T+1,_,updL_self ⟨rfl,rfl,rfl,trivial⟩,by omega,⟨k3.mem,let ⟨g,a,b⟩:=k3.inv;⟨g,a,by omega⟩,k3.draw⟩,s3.trans hzs,L2.trans L3,?_⟩,?_⟩
   ·rw [er,hU,NetM.rests,DR,show ticks-(T+1)=U by omega];rfl
   ·show ticks-(T+1)<ticks-T
    omega
 ·refine ACmp.no ((by omega)) ?_;conv=>whnf
  have hTt:T=ticks:=by omega
  subst hTt
  have e:x.rest T=y:=by rw [er,Nat.sub_self];rfl
  rw [e]
  exact ⟨rfl,ky,hys,L1⟩
def sh0:SH:=⟨0,0,0,0,0,slv0,[],slv0,[]⟩
def five (a:Option Nat):Fv (Option Nat):=⟨a,a,a,a,a⟩
def nx0 (m1 m2:Nat):NX:=⟨five none,⟨sh0,sh0,sh0,sh0,sh0⟩,slv0,[],m1,[],0,m2,[],0,[]⟩
theorem sh0_ok (h:Heap) (t1 t2 t3:Tag):sh0.Ok h t1 t2 t3:=⟨⟨Sl.nil ..,by simp [sh0],by simp [sh0]⟩,Sl.nil ..⟩
theorem new_ok:([1,2,3,4,5].all fun n=>cnewOk n 14 saved0 n)=true:=by decide +kernel
structure NetB (h:Heap) (N p:Nat) (x:NetM) (m1 m2 K:Nat) (cp:Fv (Option Nat)):Prop where
  str:h p=some (row (N,0) (netCells x {nx0 m1 m2 with cp:=cp}) 41)
  c1:h m1=some ((N,1), .map #[] 0)
  c2:h m2=some ((N,2), .map #[] 0)
  cores:∀ n:Int,1≤n→n≤K→∃ b,cp.get n=some b∧PIdle h b (N+2*n.toNat) (cnew n 14 saved0 n)
  none:∀ n:Int,K<n→n≤5→cp.get n=none
set_option maxHeartbeats 4000000 in
theorem newNet_any (h:Heap) (N:Nat) (hN:N≠0) (size:Int) :
  ACalls PR 9 #[I size] h (fun r h'=>∃ p,r=Ptr p∧NetAt h' N p (newNetM size) 10∧3≤(newNetM size).size∧(newNetM size).size≤5∧Low N h h'):=by
 obtain ⟨b1,b2⟩:=bring_in size 3 (by omega)
 obtain ⟨x,hx⟩:∃ x,x=newNetM size:=⟨_,rfl⟩
 have hsz:x.size=3+bring size 3:=by rw [hx];rfl
 have t01:((0,1):Tag)≠(N,0):=fun c=>by have:=congrArg Prod.fst c;simp only at this;omega
 rw [← hx]
 refine acalls_of mix Tryz.func9 rfl rfl Tryz.ntmps9 Tryz.results9 rfl ?_;conv=>whnf
 refine ACalls.mono (bring_any size 3 (by omega) h) ?_;rintro _ _ ⟨rfl,rfl⟩;conv=>whnf
 refine AArith.ok (by omega) (by omega) (hsz.symm) ?_;conv=>whnf
 refine AMakeMap.mk (N,1) fun m1 f1=>?_;conv=>whnf
 refine AMakeMap.mk (N,2) fun m2 f2=>?_;conv=>whnf
 obtain ⟨h2,hh2⟩:∃ h2,h2=(h.set m1 ((N,1), .map #[] 0)).set m2 ((N,2), .map #[] 0):=⟨_,rfl⟩
 have g2:h2 m2=some ((N,2), .map #[] 0):=by rw [hh2];exact Heap.set_same _ _ _
 have g1:h2 m1=some ((N,1), .map #[] 0):=by rw [hh2];exact f2.sub _ _ _ (Heap.set_same _ _ _)
 have s2:Sub h h2:=by rw [hh2];exact (f1.sub _).trans (f2.sub _)
 rw [← hh2]
 refine ABox.mkN (N,0) (netCells x (nx0 m1 m2)) (by rw [hx];rfl) fun p h3 n3 s3 q3=>?_;conv=>whnf
 refine ALoop.mk (fun e h'=>∃ (e0:Env) (K:Nat) (cp:Fv (Option Nat)),e=updL 51 e0 [(3,Ptr p),(4,I ((K:Int)+1))]∧(K:Int)≤x.size∧NetB h' N p x m1 m2 K cp∧Low N h h') (fun e=>7-natOf (e 4))
  ⟨_,0,five none,updL_self ⟨rfl,rfl,trivial⟩,by omega,⟨q3,s3 _ _ g1,s3 _ _ g2,fun n n1 n2=>by omega,fun n n1 n2=>by
   have:n=1∨n=2∨n=3∨n=4∨n=5:=by omega
   rcases this with rfl | rfl | rfl | rfl | rfl <;> rfl⟩,(s2.trans s3).low⟩ ?_
 clear q3 g1 g2 s3 s2 n3
 rintro e h5 ⟨e0,K,cp,rfl,hK,B,L5⟩
 conv=>whnf
 refine ALoad.one rfl B.str rfl ?_;conv=>whnf
 by_cases c:(K:Int)+1≤x.size
 ·refine ACmp.yes (c) ?_;conv=>whnf
  refine ALoad.one rfl B.str rfl ?_;conv=>whnf
  have k5:(K:Int)+1≤5:=by omega
  have hcn:cnewOk ((K:Int)+1) 14 sh0.abs ((K:Int)+1)=true:=by
   have:K=0∨K=1∨K=2∨K=3∨K=4:=by omega
   have e:=List.all_eq_true.1 new_ok
   rcases this with rfl | rfl | rfl | rfl | rfl
   ·exact e 1 (by simp)
   ·exact e 2 (by simp)
   ·exact e 3 (by simp)
   ·exact e 4 (by simp)
   ·exact e 5 (by simp)
  refine ACalls.mono (New_any' (N+2*((K:Int)+1).toNat) (by omega) ((K:Int)+1) 14 (t1:=(0,0)) (t2:=(0,0)) (t3:=(0,0)) ((K:Int)+1) (sh0_ok h5 _ _ _) (by show 0≠_;omega) (by show 0≠_;omega) (by show 0≠_;omega) (fun e he=>(by cases he)) (by omega) (by omega) (by decide) (by decide) (by decide) (by decide)) ?_
  rintro _ h6 (⟨c1,_⟩ | ⟨_,b',rfl,id6,kk6⟩)
  ·rw [hcn] at c1;cases c1
  conv=>whnf
  have p6:=kk6.get (by simp;omega) B.str
  refine ALoad.one rfl p6 rfl ?_;conv=>whnf
  refine ACmp.yes (rfl) ?_;conv=>whnf
  refine AStore.oneN rfl rfl rfl (p6) rfl (netCells x {nx0 m1 m2 with cp:=cp}) rfl fun h7 t7 q7 a7 e7=>?_;conv=>whnf
  refine AIdxA.nat (n:=6) (z:=1) (j:=K+1) (by omega) (by omega) rfl rfl ?_;conv=>whnf
  refine AStore.oneN rfl rfl rfl q7 (by have:=core_cell x {nx0 m1 m2 with cp:=cp} (n:=(K:Int)+1) (by omega) k5;rw [show 0+2+(K+1)*1=2+((K:Int)+1).toNat by omega];exact Nat.ble_eq_true_of_le (List.getElem?_eq_some_iff.1 this).1) (netCells x {nx0 m1 m2 with cp:=cp.set ((K:Int)+1) (some b')}) (by rw [show 0+2+(K+1)*1=2+((K:Int)+1).toNat by omega];exact core_set x {nx0 m1 m2 with cp:=cp} (n:=(K:Int)+1) (by omega) k5 (some b')) fun h8 t8 q8 a8 e8=>?_;conv=>whnf
  have mv:∀ b (t:Tag) y,t≠(N,0)→h6 b=some (t,y)→h8 b=some (t,y):=fun b t y ht e=>t8 _ _ _ ht (t7 _ _ _ ht e)
  refine AArith.ok (by omega) (by omega) ((by omega:(K:Int)+1+1=((K+1:Nat):Int)+1)) ?_;conv=>whnf
  refine ⟨⟨_,K+1,cp.set ((K:Int)+1) (some b'),updL_self ⟨rfl,rfl,trivial⟩,by omega,⟨q8,mv _ _ _ (by simp) (kk6.get (by simp;omega) B.c1),mv _ _ _ (by simp) (kk6.get (by simp;omega) B.c2),fun n n1 n2=>?_,fun n n1 n2=>?_⟩,?_⟩,?_⟩
  ·rw [Fv.get_set _ _ _ _ n1 (by omega)]
   by_cases z:n=(K:Int)+1
   ·rw [if_pos z]
    refine ⟨b',rfl,?_⟩
    rw [z]
    exact id6.move fun _ t _ ht e=>mv _ _ _ (fun c=>by rw [c] at ht;simp only at ht;omega) e
   ·rw [if_neg z]
    obtain ⟨b,hb,id⟩:=B.cores n n1 (by omega)
    exact ⟨b,hb,id.move fun _ t _ ht e=>mv _ _ _ (fun c=>by rw [c] at ht;simp only at ht;omega) (kk6 _ _ _ (by omega) e)⟩
  ·rw [Fv.get_set _ _ _ _ (by omega) n2,if_neg (by omega)]
   exact B.none n (by omega) n2
  ·exact L5.trans fun b t y ht e=>mv _ _ _ (fun c=>by rw [c] at ht;simp at ht) (kk6 _ _ _ (by omega) e)
  ·show 7-(((K+1:Nat):Int)+1).toNat<7-((K:Int)+1).toNat
   omega
 ·refine ACmp.no (c) ?_;conv=>whnf
  have hKx:x.size=K:=by omega
  refine ⟨p,rfl,⟨⟨{nx0 m1 m2 with cp:=cp},?_⟩,?_,?_⟩,by omega,by omega,L5⟩
  ·refine ⟨hN,B.str,by omega,by omega,fun n n1 n2=>?_,fun n n1 n2=>B.none n (by omega) n2,fun n n1 n2=>?_, .inl ⟨rfl,rfl,rfl⟩,by rw [hx];rfl,(fun y hy=>by cases hy),by rw [hx];exact Nat.zero_le _,MapAt.empty B.c1,by rw [hx];rfl,MapAt.empty B.c2,rfl,by rw [hx];rfl,(fun y hy=>by cases hy)⟩
   ·obtain ⟨b,hb,id⟩:=B.cores n n1 (by omega)
    refine ⟨b,hb,?_⟩
    rw [hx,(new_get size n1 (by omega)).1];exact id
   ·have e:(nx0 m1 m2).ke.get n=sh0:=by
     have:n=1∨n=2∨n=3∨n=4∨n=5:=by omega
     rcases this with rfl | rfl | rfl | rfl | rfl <;> rfl
    refine ⟨?_,(N+12,0),Nat.le_refl _,?_⟩
    ·show ((nx0 m1 m2).ke.get n).abs=_
     rw [e,hx,(new_get size n1 n2).2];rfl
    ·show ((nx0 m1 m2).ke.get n).Ok _ _ _ _
     rw [e];exact sh0_ok _ _ _ _
  ·rw [hx];exact ⟨_,netI0 size,Int.le_refl _⟩
  ·rw [hx];exact (by decide:(0:Int)<100003)
end
section
variable {h h':Heap} {N p:Nat} {x:NetM} {v:NX} {n:Int} {g:Gh}
def awk:Nat→NetM×Int
  | 0=>((newNetM 0).rest 40,0)
  | k+1=>awakeM1 ((k:Int)+1) (awk k)
theorem awake_parts:(awk 3).1.fine=true∧1<(awk 3).2∧((awk 3).1.cores.get 1).commit=(awk 3).2∧((awk 3).1.cores.get 2).commit=(awk 3).2∧((awk 3).1.cores.get 3).commit=(awk 3).2:=by
 have h:=awakeM_true
 unfold awakeM at h
 have e:awakeM1 3 (awakeM1 2 (awakeM1 1 ((newNetM 0).rest 40,0)))=awk 3:=rfl
 rw [e] at h
 generalize awk 3=r at h ⊢
 simp only [Bool.and_eq_true,decide_eq_true_eq] at h
 exact ⟨h.1.1.1.1,h.1.1.1.2,h.1.1.2,h.1.2,h.2⟩
theorem awk_yes {k:Nat} (c:((awk k).1.cores.get ((k:Int)+1)).state=2):awk (k+1)=(((awk k).1.propose ((k:Int)+1) 1 [120]).rest 6,if ((awk k).1.cores.get ((k:Int)+1)).proposeE 1 [120]=0 then ((awk k).1.cores.get ((k:Int)+1)).log.last.1+1 else 0):=if_pos c
theorem awk_no {k:Nat} (c:¬ ((awk k).1.cores.get ((k:Int)+1)).state=2):awk (k+1)=awk k:=if_neg c
theorem Goes.at {y:NetM} {L d:Int} (k:NetI g x) (hg:g.lim≤L) (hd:x.draw<100003) (gs:Goes g x y d) (m:∃ v,NetX h N p y v):NetAt h N p y (L+d):=by
 obtain ⟨g',a,b⟩:=gs.out
 exact ⟨m,⟨g',a,by omega⟩,by rw [gs.draw];exact hd⟩
attribute [irreducible] awk
set_option maxHeartbeats 4000000 in
theorem awake_any (h:Heap) (N:Nat) (hN:N≠0):ACalls PR 15 #[] h (fun r h'=>r = .bool true∧Low N h h'):=by
 obtain ⟨w0,w1,w2,w3,w4⟩:=awake_parts
 have a0:awk 0=((newNetM 0).rest 40,0):=by unfold awk;rfl
 have ay := @awk_yes
 refine acalls_of mix Tryz.func15 rfl rfl Tryz.ntmps15 Tryz.results15 rfl ?_;conv=>whnf
 refine ACalls.mono (newNet_any h N hN 0) ?_;rintro _ h1 ⟨p,rfl,k1,sz3,sz5,L1⟩;conv=>whnf
 refine ACalls.mono (rest_any (by omega) k1 40 (by omega)) ?_;rintro _ h2 ⟨rfl,k2,sz,L2⟩;conv=>whnf
 have hsz:(newNetM 0).size=3:=rfl
 rw [hsz] at sz
 refine ALoop.mk (fun e h'=>∃ (e0:Env) (K:Nat),e=updL 81 e0 [(1,Ptr p),(2,I (awk K).2),(3,I ((K:Int)+1))]∧K≤3∧NetAt h' N p (awk K).1 (5000000+800000*K)∧(awk K).1.size=3∧Low N h h') (fun e=>5-natOf (e 3))
  ⟨_,0,updL_self ⟨rfl,by rw [a0];rfl,rfl,trivial⟩,by omega,by rw [a0];exact ⟨k2.mem,let ⟨g,a,b⟩:=k2.inv;⟨g,a,by omega⟩,k2.draw⟩,by rw [a0];exact sz,L1.trans L2⟩ ?_
 clear k1 k2 L1 L2
 rintro e h3 ⟨e0,K,rfl,hK,k3,s3,L3⟩
 obtain ⟨x,hx⟩:∃ x,x=(awk K).1:=⟨_,rfl⟩
 rw [← hx] at k3 s3
 obtain ⟨⟨v,kv⟩,⟨g,ig,hg⟩,hd⟩:=k3
 conv=>whnf
 by_cases c:K<3
 ·refine ACmp.yes ((by omega)) ?_;conv=>whnf
  have n1:1≤(K:Int)+1:=by omega
  have n2:(K:Int)+1≤x.size:=by omega
  have n5:(K:Int)+1≤5:=by omega
  obtain ⟨b,hb,id⟩:=kv.cores _ n1 n2
  have hcore:(netCells x v)[0+2+(K+1)*1]? = some (Ptr b):=by
   have:=core_cell x v n1 n5
   rw [hb] at this
   rw [show 0+2+(K+1)*1=2+((K:Int)+1).toNat by omega];exact this
  refine AIdxA.nat (n:=6) (z:=1) (j:=K+1) (by omega) (by omega) rfl rfl ?_;conv=>whnf
  refine ALoad.one rfl kv.str hcore ?_;conv=>whnf
  refine ACalls.mono (state_i id) ?_;rintro _ _ ⟨rfl,rfl⟩;conv=>whnf
  by_cases c2:(x.cores.get ((K:Int)+1)).state=2
  ·refine ACmp.yes (c2) ?_;conv=>whnf
   have ey:=awk_yes (k:=K) (by rw [← hx];exact c2)
   rw [← hx] at ey
   refine AIdxA.nat (n:=6) (z:=1) (j:=K+1) (by omega) (by omega) rfl rfl ?_;conv=>whnf
   refine ALoad.one rfl kv.str hcore ?_;conv=>whnf
   refine ABuildSl.mkN (0,1) [.int .u8 120] rfl rfl rfl rfl rfl rfl rfl fun b6 h5 n5' s5 k6=>?_;conv=>whnf
   refine ⟨_,_,_,_,k6,?_⟩;conv=>whnf
   refine ⟨_,_,k6,?_⟩;conv=>whnf
   have q6:∀ y,(h5.set b6 ((0,1),y)) b6=some ((0,1),y):=fun y=>Heap.set_same _ _ _
   have s6:∀ y,Sub h3 (h5.set b6 ((0,1),y)):=fun y=>s5.set n5' _
   have ig10:g.lim+10≤100000000:=by omega
   have id6:∀ y,PIdle (h5.set b6 ((0,1),y)) b (N+2*((K:Int)+1).toNat) (x.cores.get ((K:Int)+1)):=fun y=>id.move fun _ _ _ _ e=>s6 y _ _ e
   refine ACalls.mono (propose_net (N+1) (by omega) (id6 _) (ig.cok n1 n2) 1 (data:=[120]) (t:=(0,1)) ⟨rfl,Nat.le_refl 1, .inr ⟨b6,0,_,_,_,rfl,q6 _,rfl⟩⟩ (fun z hz=>by rw [List.mem_singleton.1 hz];omega)) ?_
   have hx6:∃ h6:Heap,h6=h5.set b6 ((0,1),freezeObj ⟨b6,1,none⟩ 1 (.cells #[.int .u8 120] 5 (0,0))):=⟨_,rfl⟩
   rintro _ h7 (⟨er,rfl,s7⟩ | ⟨ez,u,rfl,ox,rfl,ok7,id7,kk7⟩)
   ·conv=>whnf
    refine AAlloc.mkN (0,1) (outCells out0 ox0) rfl fun b8 h8 n8 s8 k8=>?_;conv=>whnf
    refine AStore.aggN rfl rfl rfl (k8) rfl (outCells out0 ox0) rfl fun h9 t9 k9 a9 e9=>?_;conv=>whnf
    refine ALoad.agg rfl k9 rfl rfl ?_;conv=>whnf
    refine ACalls.mono (out_no h9 p ((K:Int)+1) er) ?_
    rintro _ h10 ⟨rfl,s10⟩
    conv=>whnf
    have s9:Sub h7 h9:=a9 h7 s8 n8
    have e:x.propose ((K:Int)+1) 1 [120]=x:=by unfold NetM.propose;rw [if_neg er]
    rw [e,if_neg er] at ey
    have K10:NetAt h10 N p x (5000000+800000*K):=⟨⟨v,((kv.sub (s6 _)).sub s7).sub (s9.trans s10)⟩,⟨g,ig,hg⟩,hd⟩
    have L10:Low N h h10:=L3.trans ((s6 _).trans (s7.trans (s9.trans s10))).low
    refine ACalls.mono (rest_any (by omega) K10 6 (by omega)) ?_
    rintro _ h11 ⟨rfl,k11,s11,L11⟩
    obtain ⟨z,hz⟩:∃ z,z=x.rest 6:=⟨_,rfl⟩
    rw [← hz] at ey k11 s11
    clear hz
    have f1:(awk (K+1)).1=z:=congrArg Prod.fst ey
    have f2:(awk (K+1)).2=0:=congrArg Prod.snd ey
    have k12:NetAt h11 N p z (5000000+800000*((K+1:Nat):Int)):=⟨k11.mem,let ⟨g,a,b⟩:=k11.inv;⟨g,a,by omega⟩,k11.draw⟩
    conv=>whnf
    refine AArith.ok (by omega) (by omega) ((by omega:(K:Int)+1+1=((K+1:Nat):Int)+1)) ?_;conv=>whnf
    refine ⟨⟨_,K+1,updL_self ⟨rfl,by rw [f2];rfl,rfl,trivial⟩,by omega,by rw [f1];exact k12,by rw [f1];exact s11.trans s3,L10.trans L11⟩,?_⟩
    show 5-(((K+1:Nat):Int)+1).toNat<5-((K:Int)+1).toNat
    omega
   ·conv=>whnf
    refine AAlloc.mkN (0,1) (outCells out0 ox0) rfl fun b8 h8 n8 s8 k8=>?_;conv=>whnf
    refine AStore.aggN rfl rfl rfl (k8) rfl (outCells ((x.cores.get ((K:Int)+1)).propose 1 [120]).done.2 ox) rfl fun h9 t9 k9 a9 e9=>?_;conv=>whnf
    refine ALoad.agg rfl k9 rfl rfl ?_;conv=>whnf
    have s9:Sub h7 h9:=a9 h7 s8 n8
    have hb120:∀ z∈[(120:Int)],0≤z∧z<256:=fun z hz=>by rw [List.mem_singleton.1 hz];omega
    have kp:=ig.keepPropose n1 n2 (kind:=1) (data:=[120]) ez hb120 (fun h=>by omega) ig10
    refine ACalls.mono (out_call (kv.sub (s6 _)) n1 n2 hb kk7 id7 ok7 kp s9) ?_
    rintro _ h10 ⟨rfl,k10,L10'⟩
    conv=>whnf
    have e:x.propose ((K:Int)+1) 1 [120]=x.out ((K:Int)+1) ((x.cores.get ((K:Int)+1)).propose 1 [120]):=by unfold NetM.propose;rw [if_pos ez]
    have gs:=ig.propose n1 n2 (kind:=1) (data:=[120]) hb120 (fun h=>by omega) ig10
    rw [if_pos ez] at ey
    rw [e] at gs ey
    have K10:=Goes.at ig hg hd gs k10
    have SZ:=gs.size.trans s3
    have L10:Low N h h10:=L3.trans ((s6 _).low.trans L10')
    obtain ⟨y,hy⟩:∃ y,y=x.out ((K:Int)+1) ((x.cores.get ((K:Int)+1)).propose 1 [120]):=⟨_,rfl⟩
    rw [← hy] at ey K10 SZ
    clear hy gs k10
    refine ACalls.mono (rest_any (by omega) K10 6 (by omega)) ?_
    rintro _ h11 ⟨rfl,k11,s11,L11⟩
    obtain ⟨z,hz⟩:∃ z,z=y.rest 6:=⟨_,rfl⟩
    rw [← hz] at ey k11 s11
    clear hz
    have f1:(awk (K+1)).1=z:=congrArg Prod.fst ey
    have f2:(awk (K+1)).2=((x.cores.get ((K:Int)+1)).log.last.1+1):=congrArg Prod.snd ey
    have k12:NetAt h11 N p z (5000000+800000*((K+1:Nat):Int)):=⟨k11.mem,let ⟨g,a,b⟩:=k11.inv;⟨g,a,by omega⟩,k11.draw⟩
    conv=>whnf
    refine AArith.ok (by omega) (by omega) ((by omega:(K:Int)+1+1=((K+1:Nat):Int)+1)) ?_;conv=>whnf
    refine ⟨⟨_,K+1,updL_self ⟨rfl,by rw [f2];rfl,rfl,trivial⟩,by omega,by rw [f1];exact k12,by rw [f1];exact s11.trans SZ,L10.trans L11⟩,?_⟩
    show 5-(((K+1:Nat):Int)+1).toNat<5-((K:Int)+1).toNat
    omega
  ·refine ACmp.no (c2) ?_;conv=>whnf
   have ey:=awk_no (k:=K) (by rw [← hx];exact c2)
   refine AArith.ok (by omega) (by omega) ((by omega:(K:Int)+1+1=((K+1:Nat):Int)+1)) ?_;conv=>whnf
   refine ⟨⟨_,K+1,updL_self ⟨rfl,by rw [ey];rfl,rfl,trivial⟩,by omega,by rw [ey,← hx];exact ⟨⟨v,kv⟩,⟨g,ig,by omega⟩,hd⟩,by rw [ey,← hx];exact s3,L3⟩,?_⟩
   show 5-(((K+1:Nat):Int)+1).toNat<5-((K:Int)+1).toNat
   omega
 ·refine ACmp.no ((by omega)) ?_;conv=>whnf
  obtain rfl:K=3:=by omega
  have core:∀ (m:Nat) (n:Int),n=m→1≤n→n≤3→∃ b,(netCells x v)[0+2+m*1]? = some (Ptr b)∧PIdle h3 b (N+2*n.toNat) (x.cores.get n):=fun m n hm n1 n3=>by
   obtain ⟨b,hb,id⟩:=kv.cores n n1 (by omega)
   have:=core_cell x v n1 (show n≤5 by omega)
   rw [hb] at this
   exact ⟨b,by rw [show 0+2+m*1=2+n.toNat by omega];exact this,id⟩
  obtain ⟨b1,c1,i1⟩:=core 1 1 rfl (by omega) (by omega)
  obtain ⟨b2,c2,i2⟩:=core 2 2 rfl (by omega) (by omega)
  obtain ⟨b3,c3,i3⟩:=core 3 3 rfl (by omega) (by omega)
  rw [← hx] at w2 w3 w4
  refine ALoad.one rfl kv.str rfl ?_;conv=>whnf
  refine ACmp.yes (w1) ?_;conv=>whnf
  refine AIdxA.nat (n:=6) (z:=1) (j:=1) rfl (by omega) rfl rfl ?_;conv=>whnf
  refine ALoad.one rfl kv.str c1 ?_;conv=>whnf
  refine ACalls.mono (commit_i i1) ?_;rintro _ _ ⟨rfl,rfl⟩;conv=>whnf
  refine ACmp.yes (w2) ?_;conv=>whnf
  refine AIdxA.nat (n:=6) (z:=1) (j:=2) rfl (by omega) rfl rfl ?_;conv=>whnf
  refine ALoad.one rfl kv.str c2 ?_;conv=>whnf
  refine ACalls.mono (commit_i i2) ?_;rintro _ _ ⟨rfl,rfl⟩;conv=>whnf
  refine ACmp.yes (w3) ?_;conv=>whnf
  refine AIdxA.nat (n:=6) (z:=1) (j:=3) rfl (by omega) rfl rfl ?_;conv=>whnf
  refine ALoad.one rfl kv.str c3 ?_;conv=>whnf
  refine ACalls.mono (commit_i i3) ?_;rintro _ _ ⟨rfl,rfl⟩;conv=>whnf
  refine ACmp.yes (w4) ?_;conv=>whnf
  exact ⟨rfl,L3⟩
end
section
section
variable {H:Type} {enc:TypeId×Value→H} {w:World}
theorem steps_list:∀ {es:List (List Value)},(∀ x∈es,x.length=3∧Rd enc PR w (QW PR) 46 x)→∃ ps:List StepH,es=ps.map StepH.cells
 | [],_=>⟨[],rfl⟩
 | x::es,hx=>by
  obtain ⟨ps,e⟩:=steps_list (es:=es) fun y hy=>hx y (by simp [hy])
  obtain ⟨hx2,r⟩:=hx x (by simp)
  obtain ⟨_,hf⟩:=r.struct QW.hered Tryz.underlying46
  have f0:=hf 0 _ rfl
  have f1:=hf 1 _ rfl
  have f2:=hf 2 _ rfl
  match x,hx2 with
  | [u0,u1,u2],_ =>
   have f0:Rd enc PR w (QW PR) 3 [u0]:=f0
   have f1:Rd enc PR w (QW PR) 3 [u1]:=f1
   have f2:Rd enc PR w (QW PR) 3 [u2]:=f2
   obtain ⟨k0,e0,_⟩:=f0.int Tryz.underlying3
   obtain ⟨k1,e1,_⟩:=f1.int Tryz.underlying3
   obtain ⟨k2,e2,_⟩:=f2.int Tryz.underlying3
   cases e0;cases e1;cases e2
   exact ⟨⟨k0,k1,k2⟩::ps,by rw [e];rfl⟩
theorem steps_of {cs:List Value} (r:Rd enc PR w (QW PR) 22 cs):∃ (a:Option Addr) (n c:Nat) (ps:List StepH),cs=[.slice a n c]∧Sl (heapOf w) (0,0) a n c 3 (ps.map StepH.cells).flatten∧ps.length=n∧n≤9223372036854775807:=by
 obtain ⟨a,n,c,es,rfl,hn,hm,hl,s,hx,_⟩:=r.slice QW.hered Tryz.underlying22 (by kernel_rfl:PR.cellsOf 46=3) (Nat.succ_pos _)
 obtain ⟨ps,rfl⟩:=steps_list (enc:=enc) (w:=w) hx
 exact ⟨a,n,c,ps,rfl,s,by simpa using hl,by unfold maxLen at hm;omega⟩
end
variable {h h':Heap} {N p:Nat} {x:NetM} {v:NX} {n:Int} {g:Gh}
theorem low_stays (s:Low 1 h h'):Stays h h':=fun b x e=>s _ _ _ (by show 0<1;omega) e
theorem step_rz (ps:List StepH):∀ e∈ps.map StepH.cells,e.length=3:=by intro e he;obtain ⟨x,_,rfl⟩:=List.mem_map.1 he;rfl
end
end Go.Ah
