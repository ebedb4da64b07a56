/- Texts that the law leans on, one behind the other. -/
import Derived.Test.YtdmjkpjedidipaaGreatKNm9
namespace Go.Ah
open Go.Proofs
set_option linter.unusedVariables false
set_option linter.unusedSimpArgs false
set_option maxRecDepth 20000
set_option maxHeartbeats 16000000
section
variable {h h':Heap} {N p:Nat} {x:NetM} {v:NX} {n:Int} {g:Gh}
theorem NetI.stepMild (k:NetI g x) (s:StepM) (hm:bring s.op 10=0∨bring s.op 10=9) (hl:g.lim+60≤100000000):Goes g x (x.stepOf s) 60:=by
 have hs3:=k.w.sz3;have hs5:=k.w.sz5;have hsz:=k.sz
 have hdr:=k.draw
 unfold NetM.stepOf
 simp only []
 rcases hm with e | e
 ·rw [e,if_pos rfl]
  split
  ·exact k.goes (by omega)
  ·rename_i p hp
   have h:=(k.withMails (l:=dropN x.mails (bring s.a x.mails.length).toNat) fun q hq=>k.mails q (mem_dropN hq)).take (k.mails p (List.mem_of_getElem? hp)) (d:=x.draw) hdr (by omega)
   obtain ⟨g',a,b⟩:=h.out
   exact ⟨⟨g',a,by omega⟩,h.size,h.draw⟩
 ·rw [e]
  simp only [show ¬ (9:Int)=0 by omega,show ¬ (9:Int)=1 by omega,show ¬ (9:Int)=2 by omega,show ¬ (9:Int)=3 by omega,show ¬ (9:Int)=4 by omega,show ¬ (9:Int)=5 by omega,show ¬ (9:Int)=6 by omega,show ¬ (9:Int)=7 by omega,show ¬ (9:Int)=8 by omega,if_false]
  unfold NetM.tickAll
  have hlr:(List.range x.size.toNat).length≤5:=by rw [List.length_range];omega
  exact (tickAll_go (List.range x.size.toNat) x.draw g x hdr (fun j hj=>by have:=List.mem_range.1 hj;omega) k (by omega)).le (by omega)
theorem NetI.mild (k:NetI g x) (s:StepM) (hm:bring s.op 10=0∨bring s.op 10=9) (hl:g.lim+60≤100000000):(∃ g',NetI g' (x.step s)∧g'.lim≤g.lim+60)∧(x.step s).size=x.size∧(x.step s).draw<100003:=by
 have hdr:=k.draw
 have h:=(k.withDraw (d:=(x.draw*7+s.b % 1024+3) % 100003) (Int.emod_nonneg _ (by omega))).stepMild s hm hl
 rw [step_eq]
 refine ⟨h.out,h.size,?_⟩
 rw [h.draw]
 exact Int.emod_lt_of_pos _ (by omega)
theorem step_mild (k0:NetX h N p x v) (i0:NetI g x) (hdr:x.draw<100003) (hl:g.lim+60≤100000000) (s:StepH) (hmild:bring s.op 10=0∨bring s.op 10=9) :
  ACalls PR 16 #[Ptr p, .agg s.cells.toArray] h (fun r h'=>r = .tuple #[]∧(∃ v',NetX h' N p (x.step s.m) v')∧Low N h h'):=by
 rw [step_eq]
 have hdr0:=i0.draw
 obtain ⟨x0,hx0⟩:∃ x0:NetM,x0={x with draw:=(x.draw*7+s.b % 1024+3) % 100003}:=⟨_,rfl⟩
 have i:NetI g x0:=by rw [hx0];exact i0.withDraw (Int.emod_nonneg _ (by omega))
 rw [show ({x with draw:=(x.draw*7+s.m.b % 1024+3) % 100003}:NetM)=x0 from hx0.symm]
 have hN:=k0.n0
 have hs5:x0.size≤5:=by rw [hx0];exact k0.sz5
 have hs3:3≤x0.size:=by rw [hx0];exact k0.sz3
 have t01:((0,1):Tag)≠(N,0):=fun c=>by have:=congrArg Prod.fst c;simp only at this;omega
 refine As mix Tryz.func16 rfl rfl Tryz.ntmps16 Tryz.results16 rfl ?_;conv=>whnf
 refine Al (0,1) (s.cells) rfl fun b3 h1 n1' s1 q1=>?_;conv=>whnf
 have k1:=k0.sub s1
 refine Am (h1) [13] (Sub.refl _) (by decide +kernel) ?_;conv=>whnf
 refine Aa rfl k1.str rfl ?_;conv=>whnf
 refine Ag (by omega) (by omega) (rfl) ?_;conv=>whnf
 refine Aa rfl q1 rfl ?_;conv=>whnf
 refine Aq (and_1023 s.b) ?_;conv=>whnf
 refine Ag (by omega) (by omega) (rfl) ?_;conv=>whnf
 refine Ag (by omega) (by omega) (rfl) ?_;conv=>whnf
 refine Af rfl rfl rfl (k1.str) rfl (netCells {x with draw:=x.draw*7+s.b % 1024+3} v) rfl fun h2 t2 q2 a2 e2=>?_;conv=>whnf
 refine Aa rfl q2 rfl ?_;conv=>whnf
 refine ⟨by omega,?_⟩
 refine Aq (Int.tmod_eq_emod_of_nonneg (by show 0≤x.draw*7+s.b % 1024+3;omega)) ?_;conv=>whnf
 refine Af rfl rfl rfl (q2) rfl (netCells {x with draw:=(x.draw*7+s.b % 1024+3) % 100003} v) rfl fun h3 t3 q3 a3 e3=>?_;conv=>whnf
 rw [← hx0] at q3
 have k:NetX h3 N p x0 v:=k1.move' (fun b t y _ n e=>t3 _ _ _ n (t2 _ _ _ n e)) q3 (by rw [hx0]) (by rw [hx0]) (by rw [hx0]) (by rw [hx0]) (by rw [hx0]) (by rw [hx0]) rfl
 have L3:Low N h h3:=fun b t y ht e=>t3 _ _ _ (fun c=>by rw [c] at ht;simp at ht) (t2 _ _ _ (fun c=>by rw [c] at ht;simp at ht) (s1 _ _ e))
 have r3:=t3.get t01 (t2.get t01 q1)
 have hd0:0≤x0.draw∧x0.draw<100003:=by
  rw [hx0];exact ⟨Int.emod_nonneg _ (by omega),Int.emod_lt_of_pos _ (by omega)⟩
 clear k1 q1 q2 q3 t2 a2 e2 t3 a3 e3 s1 n1' hx0 k0 i0 hdr hdr0
 obtain ⟨b1,b2⟩:=bring_in s.a x0.size (by omega)
 obtain ⟨n,hn⟩:∃ n,n=1+bring s.a x0.size:=⟨_,rfl⟩
 have n1:1≤n:=by omega
 have n2:n≤x0.size:=by omega
 have n5:n≤5:=by omega
 obtain ⟨m,hm⟩:∃ m:Nat,n=m:=⟨n.toNat,by omega⟩
 have hmn:v.ps.length=v.ml.n:=by have:=k.ml.sl.len;rw [flat_len (ph_len v.ps)] at this;simp at this;omega
 have hmo:v.ps.length=x0.mails.length:=by have:=congrArg List.length k.pa;rw [List.length_map] at this;omega
 have hmb:=k.mb
 refine Am (h3) [] (Sub.refl _) (by decide +kernel) ?_;conv=>whnf
 refine Aa rfl r3 rfl ?_
 refine Aa rfl k.str rfl ?_;conv=>whnf
 refine C2 (bring_any s.a x0.size (by omega) h3) ?_;conv=>whnf
 refine ⟨Sub.refl _,?_⟩;conv=>whnf
 refine Ag (by omega) (by omega) (hn.symm) ?_;conv=>whnf
 refine Aa rfl k.str rfl ?_;conv=>whnf
 obtain ⟨b,hb,id⟩:=k.cores n n1 n2
 by_cases cl:0<x0.mails.length
 ·refine Ac ((by omega)) ?_;conv=>whnf
  refine Am (h3) [] (Sub.refl _) (by decide +kernel) ?_;conv=>whnf
  refine Aa rfl r3 rfl ?_
  refine Aa rfl k.str rfl ?_;conv=>whnf
  obtain ⟨j1,j2⟩:=bring_in s.a x0.mails.length (by omega)
  obtain ⟨j,hj⟩:∃ j:Nat,j=(bring s.a x0.mails.length).toNat:=⟨_,rfl⟩
  refine ACalls.mono (bring_any s.a v.ml.n (by omega) h3) ?_
  rintro _ _ ⟨rfl,rfl⟩
  rw [show bring s.a (v.ml.n:Int)=(j:Int) by rw [← hmn,hmo];omega]
  conv=>whnf
  refine ⟨Sub.refl _,?_⟩;conv=>whnf
  have hjl:j<v.ml.n:=by omega
  obtain ⟨y,hy⟩:∃ y,v.ps[j]? = some y:=⟨v.ps[j]'(by omega),by simp⟩
  have hmj:x0.mails[j]? = some y.abs:=by rw [← k.pa,List.getElem?_map,hy];rfl
  have hyc:(v.ps.map PH.cells)[j]? = some y.cells:=by rw [List.getElem?_map,hy];rfl
  have hop1:=bring_in s.op 10 (by omega)
  obtain ⟨op,hop⟩:∃ op,op=bring s.op 10:=⟨_,rfl⟩
  refine Aa rfl r3 rfl ?_;conv=>whnf
  refine C2 (bring_any s.op 10 (by omega) h3) ?_;conv=>whnf
  rw [← hop]
  have hst:x0.stepOf s.m=(if op=0 then x0.opTake (bring s.a x0.mails.length).toNat x0.mails[(bring s.a x0.mails.length).toNat]?
   else if op=1 then x0.tick n x0.draw
   else if op=2 then x0.propose n 1 [s.b % 256,x0.draw % 256]
   else if op=3 then (if x0.mails=[] then x0 else {x0 with mails:=dropN x0.mails (bring s.a x0.mails.length).toNat})
   else if op=4 then x0.opTwice x0.mails[(bring s.a x0.mails.length).toNat]?
   else if op=5 then x0.again n
   else if op=6 then x0.change n s.b
   else if op=7 then x0.read n
   else if op=8 then x0.compact n
   else x0.tickAll):=by rw [hop,hn];rfl
  rw [hst]
  clear hst
  conv=>whnf
  by_cases c0:op=0
  ·refine Ac (c0) ?_;conv=>whnf
   rw [if_pos c0]
   rw [← hj,hmj,show x0.opTake j (some y.abs)=({x0 with mails:=dropN x0.mails j}).take y.abs x0.draw from rfl]
   obtain ⟨bb,off,l,E,fz,ea,hbb,gp,_⟩:=Sl.elem k.ml.sl (ph_len v.ps) (by rw [List.length_map];omega) (by omega) hyc
   have hpm:=i.mails y.abs (List.mem_of_getElem? hmj)
   refine Aa rfl k.str rfl ?_;conv=>whnf
   refine Ac ((by omega)) ?_;conv=>whnf
   refine Aa rfl k.str rfl ?_;conv=>whnf
   rw [ea]
   refine Ai rfl hjl rfl rfl ?_;conv=>whnf
   refine Ab rfl hbb gp rfl ?_;conv=>whnf
   refine Ak (0,1) (post0z) rfl fun b6 h4 n4 s4 q4=>?_;conv=>whnf
   refine Ae rfl rfl rfl (q4) rfl (y.cells) rfl fun h5 t5 q5 a5 e5=>?_;conv=>whnf
   have s5:Sub h3 h5:=a5 h3 s4 n4
   have k5:=k.sub s5
   have L5:Low N h h5:=L3.trans s5.low
   refine Aa rfl k5.str rfl ?_;conv=>whnf
   refine ACalls.mono (drop_any (tg:=(N,3)) k5.ml.sl (by omega) j hjl) ?_
   rintro _ h17 ⟨ml17,rfl,ow17,t17⟩
   conv=>whnf
   refine Af rfl rfl rfl ((t17.get (u:=(N,0)) (by simp) k5.str)) rfl (netCells x0 {v with ml:=ml17}) rfl fun h18 t18 q18 a18 e18=>?_;conv=>whnf
   have k18:=k5.mlSet (h':=h18) (s:=ml17) (ps:=dropN v.ps j) (l:=dropN x0.mails j) (fun b t y n0 n3 e=>t18 _ _ _ n0 (t17 _ _ _ n3 e)) q18 (ow17.keepT t18 (by simp)) (by rw [dropN_map,k.pa]) (fun y hy=>k5.ps y (mem_dropN hy)) (Nat.le_trans (dropN_len _ _) hmb)
   have L18:Low N h h18:=L5.trans fun b t y ht e=>t18 _ _ _ (fun c=>by rw [c] at ht;simp at ht) (t17 _ _ _ (fun c=>by rw [c] at ht;simp at ht) e)
   have q6:=t18.get t01 (t17.get (u:=(0,1)) (fun c=>by have:=congrArg Prod.snd c;simp at this) q5)
   have hyr:∃ r,y.Ok h18 (N+1,r) (N+1,5) (N+1,6):=by
    obtain ⟨r,hr⟩:=k5.ps y (List.mem_of_getElem? hy)
    exact ⟨r,hr.move fun b t z ht e=>t18 _ _ _ (by rcases ht with rfl | rfl | rfl <;> simp) (t17 _ _ _ (by rcases ht with rfl | rfl | rfl <;> simp) e)⟩
   have i18:NetI g {x0 with mails:=dropN x0.mails j}:=i.withMails fun q hq=>i.mails q (mem_dropN hq)
   have hsz:=i.sz
   have z1:1≤y.dst:=hpm.d1
   have z2:y.dst≤x0.size:=by rw [← hsz];exact hpm.d2
   have z5:y.dst≤5:=by omega
   obtain ⟨mz,hmz⟩:∃ mz:Nat,y.dst=mz:=⟨y.dst.toNat,by omega⟩
   obtain ⟨bz,hbz,idz⟩:=k18.cores y.dst z1 z2
   obtain ⟨tk,okk⟩:=i18.keepTake hpm (d:=x0.draw) hd0.1 (by omega)
   have tk':(x0.cores.get y.dst).takes y.abs=true:=tk
   have okk':KeepOk {x0 with mails:=dropN x0.mails j,cores:=x0.cores.set y.dst ((x0.cores.get y.dst).take y.abs x0.draw).done.1} y.dst ((x0.cores.get y.dst).take y.abs x0.draw).done.2:=okk
   have ck:=i18.cok z1 z2
   have etake:({x0 with mails:=dropN x0.mails j}:NetM).take y.abs x0.draw=({x0 with mails:=dropN x0.mails j}:NetM).out y.dst ((x0.cores.get y.dst).take y.abs x0.draw):=if_pos tk'
   rw [etake]
   refine Ao (h18) [12] (.take 0 (.take 1 (.take 2 (.take 3 (.take 4 (.take 5 (.take 6 (.take 7 (.take 8 (.take 9 (.take 10 (.take 11 (.alt 12 (.take 13 (.take 14 (.take 15 (.take 16 (.take 17 (.take 18 (.done))))))) (.alt 16 (.take 12 (.take 13 (.take 14 (.take 15 (.take 17 (.take 18 (.done))))))) (.stop))))))))))))))) (Sub.refl _) (by decide +kernel) ?_;conv=>whnf
   refine Aa rfl q6 rfl ?_;conv=>whnf
   refine Aj (n:=6) (z:=1) (j:=mz) (by omega) (by omega) rfl rfl ?_;conv=>whnf
   refine Aa (v:=Ptr bz) rfl k18.str (by have:=core_cell {x0 with mails:=dropN x0.mails j} {v with ml:=ml17,ps:=dropN v.ps j} z1 z5;rw [hbz] at this;rw [show 0+2+mz*1=2+(y.dst).toNat by omega];exact this) ?_
   refine Ab rfl q6 rfl rfl ?_
   refine Aa rfl k18.str rfl ?_;conv=>whnf
   refine And.intro ?_ ?_
   ·refine ACalls.mono (take_net (N+1) (by omega) idz ck y (Given.of i.w z1 hyr hpm) tk' hd0.1) ?_
    rintro _ h7 ⟨u,rfl,ox,rfl,ok7,id7,kk7⟩
    conv=>whnf
    refine Ak (0,1) (outCells out0 ox0) rfl fun b8 h8 n8 s8 k8=>?_;conv=>whnf
    refine ⟨Sub.nil _,?_⟩;conv=>whnf
    refine Ae rfl rfl rfl (k8) rfl (outCells ((x0.cores.get y.dst).take y.abs x0.draw).done.2 ox) rfl fun h9 t9 k9 a9 e9=>?_;conv=>whnf
    refine ⟨Sub.nil _,?_⟩;conv=>whnf
    have s9:Sub h7 h9:=a9 h7 s8 n8
    have ke:=(k18.coreSet z1 z2 hbz kk7 id7).sub s9
    have oe:OutOk h9 (N+1) ((x0.cores.get y.dst).take y.abs x0.draw).done.2 ox:=ok7.move fun _ _ _ _ e=>s9 _ _ e
    have q69:=s9 _ _ (kk7 _ _ _ (not_loc hN) q6)
    have le:Low N h h9:=L18.trans ((keeps_low z1 kk7).trans s9.low)
    refine Aa rfl ke.str rfl ?_;conv=>whnf
    refine Ac (rfl) ?_;conv=>whnf
    refine Af rfl rfl rfl (ke.str) rfl (netCells x0 {v with ml:=ml17}) rfl fun h30 t30 q30 a30 e30=>?_;conv=>whnf
    have k30:=ke.same t30 q30
    have q6':=t30.get t01 q69
    have q7':=t30.get t01 k9
    have o30:OutOk h30 (N+1) ((x0.cores.get y.dst).take y.abs x0.draw).done.2 ox:=oe.move fun b t z ht e=>t30 _ _ _ (fun c=>by rw [c] at ht;simp only at ht;omega) e
    refine Aa rfl q6' rfl ?_
    refine Ab rfl q7' rfl rfl ?_;conv=>whnf
    refine ACalls.mono (out_yes k30 z1 z2 o30 okk') ?_
    rintro _ h16 ⟨rfl,k16,L16⟩
    conv=>whnf
    exact ⟨rfl,k16,le.trans (Low.trans (fun b t z ht e=>t30 _ _ _ (fun c=>by rw [c] at ht;simp at ht) e) L16)⟩
   ·conv=>whnf
    refine And.intro ?_ trivial
    refine Ak (0,1) (outCells out0 ox0) rfl fun b8 h8 n8 s8 k8=>?_;conv=>whnf
    refine ⟨s8,?_⟩;conv=>whnf
    have id8:PIdle h8 bz (N+2*(y.dst).toNat) (x0.cores.get y.dst):=idz.move fun _ _ _ _ e=>s8 _ _ e
    have hyr8:∃ r,y.Ok h8 (N+1,r) (N+1,5) (N+1,6):=by
     obtain ⟨r,hr⟩:=hyr
     exact ⟨r,hr.move fun _ _ _ _ e=>s8 _ _ e⟩
    refine ACalls.mono (take_net (N+1) (by omega) id8 ck y (Given.of i.w z1 hyr8 hpm) tk' hd0.1) ?_
    rintro _ h7 ⟨u,rfl,ox,rfl,ok7,id7,kk7⟩
    conv=>whnf
    refine Ae rfl rfl rfl ((kk7 _ _ _ (not_loc hN) k8)) rfl (outCells ((x0.cores.get y.dst).take y.abs x0.draw).done.2 ox) rfl fun h9 t9 k9 a9 e9=>?_;conv=>whnf
    refine ⟨Sub.nil _,?_⟩;conv=>whnf
    have ke:=((k18.sub s8).coreSet z1 z2 hbz kk7 id7).local t9
    have oe:OutOk h9 (N+1) ((x0.cores.get y.dst).take y.abs x0.draw).done.2 ox:=ok7.local (by omega) t9
    have b68:b6≠b8:=fun c=>by rw [c,n8] at q6;cases q6
    have q69:=e9 _ _ b68 (kk7 _ _ _ (not_loc hN) (s8 _ _ q6))
    have le:Low N h h9:=L18.trans fun b t z ht e=>e9 _ _ (fun c=>by rw [c,n8] at e;cases e) (kk7 _ _ _ (by simp;omega) (s8 _ _ e))
    refine Aa rfl ke.str rfl ?_;conv=>whnf
    refine Ac (rfl) ?_;conv=>whnf
    refine Af rfl rfl rfl (ke.str) rfl (netCells x0 {v with ml:=ml17}) rfl fun h30 t30 q30 a30 e30=>?_;conv=>whnf
    have k30:=ke.same t30 q30
    have q6':=t30.get t01 q69
    have q7':=t30.get t01 k9
    have o30:OutOk h30 (N+1) ((x0.cores.get y.dst).take y.abs x0.draw).done.2 ox:=oe.move fun b t z ht e=>t30 _ _ _ (fun c=>by rw [c] at ht;simp only at ht;omega) e
    refine Aa rfl q6' rfl ?_
    refine Ab rfl q7' rfl rfl ?_;conv=>whnf
    refine ACalls.mono (out_yes k30 z1 z2 o30 okk') ?_
    rintro _ h16 ⟨rfl,k16,L16⟩
    conv=>whnf
    exact ⟨rfl,k16,le.trans (Low.trans (fun b t z ht e=>t30 _ _ _ (fun c=>by rw [c] at ht;simp at ht) e) L16)⟩
  refine Ad (c0) ?_;conv=>whnf
  rw [if_neg c0]
  have c9:op=9:=by
   rcases hmild with q | q
   ·exact absurd (hop.trans q) c0
   ·exact hop.trans q
  have c1:¬ op=1:=by omega
  refine Ad (c1) ?_;conv=>whnf
  rw [if_neg c1]
  have c2:¬ op=2:=by omega
  refine Ad (c2) ?_;conv=>whnf
  rw [if_neg c2]
  have c3:¬ op=3:=by omega
  refine Ad (c3) ?_;conv=>whnf
  rw [if_neg c3]
  have c4:¬ op=4:=by omega
  refine Ad (c4) ?_;conv=>whnf
  rw [if_neg c4]
  have c5:¬ op=5:=by omega
  refine Ad (c5) ?_;conv=>whnf
  rw [if_neg c5]
  have c6:¬ op=6:=by omega
  refine Ad (c6) ?_;conv=>whnf
  rw [if_neg c6]
  have c7:¬ op=7:=by omega
  refine Ad (c7) ?_;conv=>whnf
  rw [if_neg c7]
  have c8:¬ op=8:=by omega
  refine Ad (c8) ?_;conv=>whnf
  rw [if_neg c8]
  have tcut:∀ K:Nat,(List.range (K+1)).foldl (fun (y:NetM) (k:Nat)=>y.tick ((k:Int)+1) (x0.draw+(k:Int)+1)) x0=((List.range K).foldl (fun (y:NetM) (k:Nat)=>y.tick ((k:Int)+1) (x0.draw+(k:Int)+1)) x0).tick ((K:Int)+1) (x0.draw+(K:Int)+1):=fun K=>by rw [List.range_succ,List.foldl_append];rfl
  refine ALoop.mk (fun e h'=>∃ (e0:Env) (K:Nat) (xk:NetM) (vk:NX) (gk:Gh),e=updL 284 e0 [(0,Ptr p),(17,I ((K:Int)+1))]∧(K:Int)≤x0.size∧xk=(List.range K).foldl (fun (y:NetM) (k:Nat)=>y.tick ((k:Int)+1) (x0.draw+(k:Int)+1)) x0∧xk.size=x0.size∧xk.draw=x0.draw∧NetX h' N p xk vk∧NetI gk xk∧gk.lim≤g.lim+10*K∧Low N h h')
   (fun e=>7-natOf (e 17)) ⟨_,0,x0,v,g,Au ⟨rfl,rfl,trivial⟩,by omega,rfl,rfl,rfl,k,i,by omega,L3⟩ ?_
  rintro e h' ⟨e0,K,xk,vk,gk,rfl,hK,hxk,hxs,hxd,kk,ik,hgk,LK⟩
  conv=>whnf
  refine Aa rfl kk.str rfl ?_;conv=>whnf
  by_cases cK:(K:Int)+1≤xk.size
  ·refine Ac (cK) ?_;conv=>whnf
   have m1:1≤(K:Int)+1:=by omega
   have m5:(K:Int)+1≤5:=by omega
   obtain ⟨bk,hbk,idk⟩:=kk.cores ((K:Int)+1) m1 cK
   have hd1:0≤x0.draw+(K:Int)+1:=by omega
   have okk:=ik.keepTick m1 cK hd1 (by omega)
   have gos:=ik.tick m1 cK hd1 (by omega)
   obtain ⟨⟨g2,i2,l2⟩,z2,d2⟩:=gos
   rw [← hxd] at okk hd1 i2 z2 d2
   refine Ao (h') [12] (.take 0 (.take 1 (.take 2 (.take 3 (.take 4 (.take 5 (.take 6 (.take 7 (.take 8 (.take 9 (.take 10 (.take 11 (.alt 12 (.take 13 (.take 14 (.take 15 (.take 16 (.take 17 (.take 18 (.done))))))) (.alt 16 (.take 12 (.take 13 (.take 14 (.take 15 (.take 17 (.take 18 (.done))))))) (.stop))))))))))))))) (Sub.refl _) (by decide +kernel) ?_;conv=>whnf
   refine Aj (n:=6) (z:=1) (j:=K+1) (by omega) (by omega) rfl rfl ?_;conv=>whnf
   refine Aa (v:=Ptr bk) rfl kk.str (by have:=core_cell xk vk m1 m5;rw [hbk] at this;rw [show 0+2+(K+1)*1=2+((K:Int)+1).toNat by omega];exact this) ?_
   refine Aa rfl kk.str rfl ?_;conv=>whnf
   refine Ag (by omega) (by omega) ((by omega:xk.draw+((K:Int)+1)=xk.draw+(K:Int)+1)) ?_;conv=>whnf
   refine And.intro ?_ ?_
   ·refine ACalls.mono (tick_net (N+1) (by omega) idk (ik.cok m1 cK) hd1) ?_
    rintro _ h7 ⟨u,rfl,ox,rfl,ok7,id7,kk7⟩
    conv=>whnf
    refine Ak (0,1) (outCells out0 ox0) rfl fun b8 h8 n8 s8 k8=>?_;conv=>whnf
    refine ⟨Sub.nil _,?_⟩;conv=>whnf
    refine Ae rfl rfl rfl (k8) rfl (outCells ((xk.cores.get ((K:Int)+1)).tick (xk.draw+(K:Int)+1)).done.2 ox) rfl fun h9 t9 k9 a9 e9=>?_;conv=>whnf
    refine ⟨Sub.nil _,?_⟩;conv=>whnf
    have s9:Sub h7 h9:=a9 h7 s8 n8
    have ke:=(kk.coreSet m1 cK hbk kk7 id7).sub s9
    have oe:OutOk h9 (N+1) ((xk.cores.get ((K:Int)+1)).tick (xk.draw+(K:Int)+1)).done.2 ox:=ok7.move fun _ _ _ _ e=>s9 _ _ e
    refine Ab rfl k9 rfl rfl ?_;conv=>whnf
    refine ACalls.mono (out_yes ke m1 cK oe okk) ?_
    rintro _ h16 ⟨rfl,k16,L16⟩
    conv=>whnf
    obtain ⟨v16,k16⟩:=k16
    refine Ag (by omega) (by omega) ((by omega:(K:Int)+1+1=((K+1:Nat):Int)+1)) ?_;conv=>whnf
    refine ⟨⟨_,K+1,_,v16,g2,Au ⟨rfl,rfl,trivial⟩,by omega,by rw [tcut,← hxk,← hxd],z2.trans hxs,d2.trans hxd,k16,i2,by omega,(LK.trans (keeps_low m1 kk7)).trans (s9.low.trans L16)⟩,?_⟩
    show 7-(((K+1:Nat):Int)+1).toNat<7-((K:Int)+1).toNat
    omega
   ·conv=>whnf
    refine And.intro ?_ trivial
    refine Ak (0,1) (outCells out0 ox0) rfl fun b8 h8 n8 s8 k8=>?_;conv=>whnf
    refine ⟨s8,?_⟩;conv=>whnf
    have id8:PIdle h8 bk (N+2*((K:Int)+1).toNat) (xk.cores.get ((K:Int)+1)):=idk.move fun _ _ _ _ e=>s8 _ _ e
    refine ACalls.mono (tick_net (N+1) (by omega) id8 (ik.cok m1 cK) hd1) ?_
    rintro _ h7 ⟨u,rfl,ox,rfl,ok7,id7,kk7⟩
    conv=>whnf
    refine Ae rfl rfl rfl ((kk7 _ _ _ (not_loc hN) k8)) rfl (outCells ((xk.cores.get ((K:Int)+1)).tick (xk.draw+(K:Int)+1)).done.2 ox) rfl fun h9 t9 k9 a9 e9=>?_;conv=>whnf
    refine ⟨Sub.nil _,?_⟩;conv=>whnf
    have ke:=((kk.sub s8).coreSet m1 cK hbk kk7 id7).local t9
    have oe:OutOk h9 (N+1) ((xk.cores.get ((K:Int)+1)).tick (xk.draw+(K:Int)+1)).done.2 ox:=ok7.local (by omega) t9
    refine Ab rfl k9 rfl rfl ?_;conv=>whnf
    refine ACalls.mono (out_yes ke m1 cK oe okk) ?_
    rintro _ h16 ⟨rfl,k16,L16⟩
    conv=>whnf
    obtain ⟨v16,k16⟩:=k16
    refine Ag (by omega) (by omega) ((by omega:(K:Int)+1+1=((K+1:Nat):Int)+1)) ?_;conv=>whnf
    have LL:Low N h' h9:=fun b t y ht e=>e9 _ _ (fun z=>by rw [z,n8] at e;cases e) (kk7 _ _ _ (by simp;omega) (s8 _ _ e))
    refine ⟨⟨_,K+1,_,v16,g2,Au ⟨rfl,rfl,trivial⟩,by omega,by rw [tcut,← hxk,← hxd],z2.trans hxs,d2.trans hxd,k16,i2,by omega,LK.trans (LL.trans L16)⟩,?_⟩
    show 7-(((K+1:Nat):Int)+1).toNat<7-((K:Int)+1).toNat
    omega
  ·refine Ad (cK) ?_;conv=>whnf
   have e:x0.tickAll=xk:=by
    rw [hxk];unfold NetM.tickAll
    rw [show x0.size.toNat=K by omega]
   rw [e]
   exact ⟨rfl,⟨vk,kk⟩,LK⟩
 ·refine Ad ((by omega)) ?_;conv=>whnf
  have hop1:=bring_in s.op 10 (by omega)
  obtain ⟨op,hop⟩:∃ op,op=bring s.op 10:=⟨_,rfl⟩
  refine Aa rfl r3 rfl ?_;conv=>whnf
  refine C2 (bring_any s.op 10 (by omega) h3) ?_;conv=>whnf
  rw [← hop]
  have hst:x0.stepOf s.m=(if op=0 then x0.opTake (bring s.a x0.mails.length).toNat x0.mails[(bring s.a x0.mails.length).toNat]?
   else if op=1 then x0.tick n x0.draw
   else if op=2 then x0.propose n 1 [s.b % 256,x0.draw % 256]
   else if op=3 then (if x0.mails=[] then x0 else {x0 with mails:=dropN x0.mails (bring s.a x0.mails.length).toNat})
   else if op=4 then x0.opTwice x0.mails[(bring s.a x0.mails.length).toNat]?
   else if op=5 then x0.again n
   else if op=6 then x0.change n s.b
   else if op=7 then x0.read n
   else if op=8 then x0.compact n
   else x0.tickAll):=by rw [hop,hn];rfl
  rw [hst]
  clear hst
  conv=>whnf
  by_cases c0:op=0
  ·refine Ac (c0) ?_;conv=>whnf
   rw [if_pos c0]
   have hm0:x0.mails=[]:=List.eq_nil_of_length_eq_zero (by omega)
   have hmn:x0.mails[(bring s.a x0.mails.length).toNat]? = none:=by rw [hm0];rfl
   rw [hmn]
   refine Aa rfl k.str rfl ?_;conv=>whnf
   refine Ad ((by omega)) ?_;conv=>whnf
   exact ⟨rfl,⟨v,k⟩,L3⟩
  refine Ad (c0) ?_;conv=>whnf
  rw [if_neg c0]
  have c9:op=9:=by
   rcases hmild with q | q
   ·exact absurd (hop.trans q) c0
   ·exact hop.trans q
  have c1:¬ op=1:=by omega
  refine Ad (c1) ?_;conv=>whnf
  rw [if_neg c1]
  have c2:¬ op=2:=by omega
  refine Ad (c2) ?_;conv=>whnf
  rw [if_neg c2]
  have c3:¬ op=3:=by omega
  refine Ad (c3) ?_;conv=>whnf
  rw [if_neg c3]
  have c4:¬ op=4:=by omega
  refine Ad (c4) ?_;conv=>whnf
  rw [if_neg c4]
  have c5:¬ op=5:=by omega
  refine Ad (c5) ?_;conv=>whnf
  rw [if_neg c5]
  have c6:¬ op=6:=by omega
  refine Ad (c6) ?_;conv=>whnf
  rw [if_neg c6]
  have c7:¬ op=7:=by omega
  refine Ad (c7) ?_;conv=>whnf
  rw [if_neg c7]
  have c8:¬ op=8:=by omega
  refine Ad (c8) ?_;conv=>whnf
  rw [if_neg c8]
  have tcut:∀ K:Nat,(List.range (K+1)).foldl (fun (y:NetM) (k:Nat)=>y.tick ((k:Int)+1) (x0.draw+(k:Int)+1)) x0=((List.range K).foldl (fun (y:NetM) (k:Nat)=>y.tick ((k:Int)+1) (x0.draw+(k:Int)+1)) x0).tick ((K:Int)+1) (x0.draw+(K:Int)+1):=fun K=>by rw [List.range_succ,List.foldl_append];rfl
  refine ALoop.mk (fun e h'=>∃ (e0:Env) (K:Nat) (xk:NetM) (vk:NX) (gk:Gh),e=updL 284 e0 [(0,Ptr p),(17,I ((K:Int)+1))]∧(K:Int)≤x0.size∧xk=(List.range K).foldl (fun (y:NetM) (k:Nat)=>y.tick ((k:Int)+1) (x0.draw+(k:Int)+1)) x0∧xk.size=x0.size∧xk.draw=x0.draw∧NetX h' N p xk vk∧NetI gk xk∧gk.lim≤g.lim+10*K∧Low N h h')
   (fun e=>7-natOf (e 17)) ⟨_,0,x0,v,g,Au ⟨rfl,rfl,trivial⟩,by omega,rfl,rfl,rfl,k,i,by omega,L3⟩ ?_
  rintro e h' ⟨e0,K,xk,vk,gk,rfl,hK,hxk,hxs,hxd,kk,ik,hgk,LK⟩
  conv=>whnf
  refine Aa rfl kk.str rfl ?_;conv=>whnf
  by_cases cK:(K:Int)+1≤xk.size
  ·refine Ac (cK) ?_;conv=>whnf
   have m1:1≤(K:Int)+1:=by omega
   have m5:(K:Int)+1≤5:=by omega
   obtain ⟨bk,hbk,idk⟩:=kk.cores ((K:Int)+1) m1 cK
   have hd1:0≤x0.draw+(K:Int)+1:=by omega
   have okk:=ik.keepTick m1 cK hd1 (by omega)
   have gos:=ik.tick m1 cK hd1 (by omega)
   obtain ⟨⟨g2,i2,l2⟩,z2,d2⟩:=gos
   rw [← hxd] at okk hd1 i2 z2 d2
   refine Ao (h') [12] (.take 0 (.take 1 (.take 2 (.take 3 (.take 4 (.take 5 (.take 6 (.take 7 (.take 8 (.take 9 (.take 10 (.take 11 (.alt 12 (.take 13 (.take 14 (.take 15 (.take 16 (.take 17 (.take 18 (.done))))))) (.alt 16 (.take 12 (.take 13 (.take 14 (.take 15 (.take 17 (.take 18 (.done))))))) (.stop))))))))))))))) (Sub.refl _) (by decide +kernel) ?_;conv=>whnf
   refine Aj (n:=6) (z:=1) (j:=K+1) (by omega) (by omega) rfl rfl ?_;conv=>whnf
   refine Aa (v:=Ptr bk) rfl kk.str (by have:=core_cell xk vk m1 m5;rw [hbk] at this;rw [show 0+2+(K+1)*1=2+((K:Int)+1).toNat by omega];exact this) ?_
   refine Aa rfl kk.str rfl ?_;conv=>whnf
   refine Ag (by omega) (by omega) ((by omega:xk.draw+((K:Int)+1)=xk.draw+(K:Int)+1)) ?_;conv=>whnf
   refine And.intro ?_ ?_
   ·refine ACalls.mono (tick_net (N+1) (by omega) idk (ik.cok m1 cK) hd1) ?_
    rintro _ h7 ⟨u,rfl,ox,rfl,ok7,id7,kk7⟩
    conv=>whnf
    refine Ak (0,1) (outCells out0 ox0) rfl fun b8 h8 n8 s8 k8=>?_;conv=>whnf
    refine ⟨Sub.nil _,?_⟩;conv=>whnf
    refine Ae rfl rfl rfl (k8) rfl (outCells ((xk.cores.get ((K:Int)+1)).tick (xk.draw+(K:Int)+1)).done.2 ox) rfl fun h9 t9 k9 a9 e9=>?_;conv=>whnf
    refine ⟨Sub.nil _,?_⟩;conv=>whnf
    have s9:Sub h7 h9:=a9 h7 s8 n8
    have ke:=(kk.coreSet m1 cK hbk kk7 id7).sub s9
    have oe:OutOk h9 (N+1) ((xk.cores.get ((K:Int)+1)).tick (xk.draw+(K:Int)+1)).done.2 ox:=ok7.move fun _ _ _ _ e=>s9 _ _ e
    refine Ab rfl k9 rfl rfl ?_;conv=>whnf
    refine ACalls.mono (out_yes ke m1 cK oe okk) ?_
    rintro _ h16 ⟨rfl,k16,L16⟩
    conv=>whnf
    obtain ⟨v16,k16⟩:=k16
    refine Ag (by omega) (by omega) ((by omega:(K:Int)+1+1=((K+1:Nat):Int)+1)) ?_;conv=>whnf
    refine ⟨⟨_,K+1,_,v16,g2,Au ⟨rfl,rfl,trivial⟩,by omega,by rw [tcut,← hxk,← hxd],z2.trans hxs,d2.trans hxd,k16,i2,by omega,(LK.trans (keeps_low m1 kk7)).trans (s9.low.trans L16)⟩,?_⟩
    show 7-(((K+1:Nat):Int)+1).toNat<7-((K:Int)+1).toNat
    omega
   ·conv=>whnf
    refine And.intro ?_ trivial
    refine Ak (0,1) (outCells out0 ox0) rfl fun b8 h8 n8 s8 k8=>?_;conv=>whnf
    refine ⟨s8,?_⟩;conv=>whnf
    have id8:PIdle h8 bk (N+2*((K:Int)+1).toNat) (xk.cores.get ((K:Int)+1)):=idk.move fun _ _ _ _ e=>s8 _ _ e
    refine ACalls.mono (tick_net (N+1) (by omega) id8 (ik.cok m1 cK) hd1) ?_
    rintro _ h7 ⟨u,rfl,ox,rfl,ok7,id7,kk7⟩
    conv=>whnf
    refine Ae rfl rfl rfl ((kk7 _ _ _ (not_loc hN) k8)) rfl (outCells ((xk.cores.get ((K:Int)+1)).tick (xk.draw+(K:Int)+1)).done.2 ox) rfl fun h9 t9 k9 a9 e9=>?_;conv=>whnf
    refine ⟨Sub.nil _,?_⟩;conv=>whnf
    have ke:=((kk.sub s8).coreSet m1 cK hbk kk7 id7).local t9
    have oe:OutOk h9 (N+1) ((xk.cores.get ((K:Int)+1)).tick (xk.draw+(K:Int)+1)).done.2 ox:=ok7.local (by omega) t9
    refine Ab rfl k9 rfl rfl ?_;conv=>whnf
    refine ACalls.mono (out_yes ke m1 cK oe okk) ?_
    rintro _ h16 ⟨rfl,k16,L16⟩
    conv=>whnf
    obtain ⟨v16,k16⟩:=k16
    refine Ag (by omega) (by omega) ((by omega:(K:Int)+1+1=((K+1:Nat):Int)+1)) ?_;conv=>whnf
    have LL:Low N h' h9:=fun b t y ht e=>e9 _ _ (fun z=>by rw [z,n8] at e;cases e) (kk7 _ _ _ (by simp;omega) (s8 _ _ e))
    refine ⟨⟨_,K+1,_,v16,g2,Au ⟨rfl,rfl,trivial⟩,by omega,by rw [tcut,← hxk,← hxd],z2.trans hxs,d2.trans hxd,k16,i2,by omega,LK.trans (LL.trans L16)⟩,?_⟩
    show 7-(((K+1:Nat):Int)+1).toNat<7-((K:Int)+1).toNat
    omega
  ·refine Ad (cK) ?_;conv=>whnf
   have e:x0.tickAll=xk:=by
    rw [hxk];unfold NetM.tickAll
    rw [show x0.size.toNat=K by omega]
   rw [e]
   exact ⟨rfl,⟨vk,kk⟩,LK⟩
theorem mild_at {L:Int} (k:NetAt h N p x L) (hL:L+60≤100000000) (s:StepH) (hm:bring s.op 10=0∨bring s.op 10=9) :
  ACalls PR 16 #[Ptr p, .agg s.cells.toArray] h (fun r h'=>r = .tuple #[]∧NetAt h' N p (x.step s.m) (L+60)∧(x.step s.m).size=x.size∧Low N h h'):=by
 obtain ⟨⟨v,kv⟩,⟨g,ig,hg⟩,hd⟩:=k
 refine (step_mild kv ig hd (by omega) s hm).mono ?_
 rintro r h' ⟨rfl,kv',L'⟩
 obtain ⟨⟨g',i',l'⟩,hs,hdd⟩:=ig.mild s.m hm (by omega)
 exact ⟨rfl,⟨kv',⟨g',i',by omega⟩,hdd⟩,hs,L'⟩
theorem rest_mild {L:Int} (hL0:0≤L) (k:NetAt h N p x L) (ticks:Nat) (hL:L+60*2001*ticks≤100000000) :
  ACalls PR 20 #[Ptr p,I ticks] h (fun r h'=>r = .tuple #[]∧NetAt h' N p (x.rest ticks) (L+60*2001*ticks)∧(x.rest ticks).size=x.size∧Low N h h'):=by
 refine As mix Tryz.func20 rfl rfl Tryz.ntmps20 Tryz.results20 rfl ?_;conv=>whnf
 refine ALoop.mk (fun e h'=>∃ (e0:Env) (T:Nat) (y:NetM),e=updL 30 e0 [(0,Ptr p),(1,I ticks),(4,I T)]∧T≤ticks∧NetAt h' N p y (L+60*2001*T)∧y.size=x.size∧Low N h h'∧x.rest ticks=y.rests (ticks-T) T) (fun e=>ticks-natOf (e 4))
  ⟨_,0,x,Au ⟨rfl,rfl,rfl,trivial⟩,by omega,by simpa using k,rfl,Low.refl _ _,rfl⟩ ?_
 rintro e h1 ⟨e0,T,y,rfl,hT,ky,hys,L1,er⟩
 conv=>whnf
 by_cases c:T<ticks
 ·refine Ac ((by omega)) ?_;conv=>whnf
  obtain ⟨U,hU⟩:∃ U,ticks-T=U+1:=⟨ticks-T-1,by omega⟩
  refine ALoop.mk (fun e h'=>∃ (e0:Env) (K:Nat) (z:NetM),e=updL 30 e0 [(0,Ptr p),(1,I ticks),(4,I T),(5,I K)]∧K≤2000∧NetAt h' N p z (L+60*2001*T+60*K)∧z.size=x.size∧Low N h h'∧y.drain 2000=z.drain (2000-K)) (fun e=>2000-natOf (e 5))
   ⟨_,0,y,Au ⟨rfl,rfl,rfl,rfl,trivial⟩,by omega,by simpa using ky,hys,L1,rfl⟩ ?_
  rintro e h2 ⟨e1,K,z,rfl,hK,kz,hzs,L2,ez⟩
  obtain ⟨v,kv⟩:=kz.mem
  have hmn:v.ps.length=v.ml.n:=by have:=kv.ml.sl.len;rw [flat_len (ph_len v.ps)] at this;simp at this;omega
  have hmo:v.ps.length=z.mails.length:=by have:=congrArg List.length kv.pa;rw [List.length_map] at this;omega
  conv=>whnf
  by_cases cK:K<2000
  ·refine Ac ((by omega)) ?_;conv=>whnf
   refine Aa rfl kv.str rfl ?_;conv=>whnf
   by_cases cm:0<z.mails.length
   ·refine Ac ((by omega)) ?_;conv=>whnf
    refine ACalls.mono (mild_at kz (by omega) ⟨0,0,0⟩ (.inl rfl)) ?_
    rintro _ h3 ⟨rfl,k3,s3,L3⟩
    conv=>whnf
    refine Ag (by omega) (by omega) ((by omega:(K:Int)+1=((K+1:Nat):Int))) ?_;conv=>whnf
    refine ⟨⟨_,K+1,_,Au ⟨rfl,rfl,rfl,rfl,trivial⟩,by omega,⟨k3.mem,let ⟨g,a,b⟩:=k3.inv;⟨g,a,by omega⟩,k3.draw⟩,s3.trans hzs,L2.trans L3,?_⟩,?_⟩
    ·rw [ez,show 2000-K=(2000-(K+1))+1 by omega,drain_cons cm];rfl
    ·show 2000-(K+1)<2000-K
     omega
   ·refine Ad ((by omega)) ?_;conv=>whnf
    have DR:y.drain 2000=z:=by rw [ez];exact drain_nil (List.eq_nil_of_length_eq_zero (by omega))
    refine ACalls.mono (mild_at kz (by omega) ⟨9,0,T⟩ (.inr rfl)) ?_
    rintro _ h3 ⟨rfl,k3,s3,L3⟩
    conv=>whnf
    refine Ag (by omega) (by omega) ((by omega:(T:Int)+1=((T+1:Nat):Int))) ?_;conv=>whnf
    refine ⟨⟨_,T+1,_,Au ⟨rfl,rfl,rfl,trivial⟩,by omega,⟨k3.mem,let ⟨g,a,b⟩:=k3.inv;⟨g,a,by omega⟩,k3.draw⟩,s3.trans hzs,L2.trans L3,?_⟩,?_⟩
    ·rw [er,hU,NetM.rests,DR,show ticks-(T+1)=U by omega];rfl
    ·show ticks-(T+1)<ticks-T
     omega
  ·refine Ad ((by omega)) ?_;conv=>whnf
   have DR:y.drain 2000=z:=by rw [ez,show 2000-K=0 by omega];rfl
   refine ACalls.mono (mild_at kz (by omega) ⟨9,0,T⟩ (.inr rfl)) ?_
   rintro _ h3 ⟨rfl,k3,s3,L3⟩
   conv=>whnf
   refine Ag (by omega) (by omega) ((by omega:(T:Int)+1=((T+1:Nat):Int))) ?_;conv=>whnf
   refine ⟨⟨_,T+1,_,Au ⟨rfl,rfl,rfl,trivial⟩,by omega,⟨k3.mem,let ⟨g,a,b⟩:=k3.inv;⟨g,a,by omega⟩,k3.draw⟩,s3.trans hzs,L2.trans L3,?_⟩,?_⟩
   ·rw [er,hU,NetM.rests,DR,show ticks-(T+1)=U by omega];rfl
   ·show ticks-(T+1)<ticks-T
    omega
 ·refine Ad ((by omega)) ?_;conv=>whnf
  have hTt:T=ticks:=by omega
  subst hTt
  have e:x.rest T=y:=by rw [er,Nat.sub_self];rfl
  rw [e]
  exact ⟨rfl,ky,hys,L1⟩
theorem awake_mild (h:Heap) (N:Nat) (hN:N≠0):ACalls PR 15 #[] h (fun r h'=>r = .bool true∧Low N h h'):=by
 obtain ⟨w0,w1,w2,w3,w4⟩:=awake_parts
 have a0:=awk_zero
 have ay := @awk_yes
 refine As mix Tryz.func15 rfl rfl Tryz.ntmps15 Tryz.results15 rfl ?_;conv=>whnf
 refine ACalls.mono (newNet_any h N hN 0) ?_;rintro _ h1 ⟨p,rfl,k1,sz3,sz5,L1⟩;conv=>whnf
 refine ACalls.mono (rest_mild (by omega) k1 40 (by omega)) ?_;rintro _ h2 ⟨rfl,k2,sz,L2⟩;conv=>whnf
 have hsz:(newNetM 0).size=3:=rfl
 rw [hsz] at sz
 refine ALoop.mk (fun e h'=>∃ (e0:Env) (K:Nat),e=updL 81 e0 [(1,Ptr p),(2,I (awk K).2),(3,I ((K:Int)+1))]∧K≤3∧NetAt h' N p (awk K).1 (5000000+800000*K)∧(awk K).1.size=3∧Low N h h') (fun e=>5-natOf (e 3))
  ⟨_,0,Au ⟨rfl,by rw [a0];rfl,rfl,trivial⟩,by omega,by rw [a0];exact ⟨k2.mem,let ⟨g,a,b⟩:=k2.inv;⟨g,a,by omega⟩,k2.draw⟩,by rw [a0];exact sz,L1.trans L2⟩ ?_
 clear k1 k2 L1 L2
 rintro e h3 ⟨e0,K,rfl,hK,k3,s3,L3⟩
 obtain ⟨x,hx⟩:∃ x,x=(awk K).1:=⟨_,rfl⟩
 rw [← hx] at k3 s3
 obtain ⟨⟨v,kv⟩,⟨g,ig,hg⟩,hd⟩:=k3
 conv=>whnf
 by_cases c:K<3
 ·refine Ac ((by omega)) ?_;conv=>whnf
  have n1:1≤(K:Int)+1:=by omega
  have n2:(K:Int)+1≤x.size:=by omega
  have n5:(K:Int)+1≤5:=by omega
  obtain ⟨b,hb,id⟩:=kv.cores _ n1 n2
  have hcore:(netCells x v)[0+2+(K+1)*1]? = some (Ptr b):=by
   have:=core_cell x v n1 n5
   rw [hb] at this
   rw [show 0+2+(K+1)*1=2+((K:Int)+1).toNat by omega];exact this
  refine Aj (n:=6) (z:=1) (j:=K+1) (by omega) (by omega) rfl rfl ?_;conv=>whnf
  refine Aa rfl kv.str hcore ?_;conv=>whnf
  refine C2 (state_i id) ?_;conv=>whnf
  by_cases c2:(x.cores.get ((K:Int)+1)).state=2
  ·refine Ac (c2) ?_;conv=>whnf
   have ey:=awk_yes (k:=K) (by rw [← hx];exact c2)
   rw [← hx] at ey
   refine Aj (n:=6) (z:=1) (j:=K+1) (by omega) (by omega) rfl rfl ?_;conv=>whnf
   refine Aa rfl kv.str hcore ?_;conv=>whnf
   refine Ap (0,1) [.int .u8 120] rfl rfl rfl rfl rfl rfl rfl fun b6 h5 n5' s5 k6=>?_;conv=>whnf
   refine ⟨_,_,_,_,k6,?_⟩;conv=>whnf
   refine ⟨_,_,k6,?_⟩;conv=>whnf
   have q6:∀ y,(h5.set b6 ((0,1),y)) b6=some ((0,1),y):=fun y=>Heap.set_same _ _ _
   have s6:∀ y,Sub h3 (h5.set b6 ((0,1),y)):=fun y=>s5.set n5' _
   have ig10:g.lim+10≤100000000:=by omega
   have id6:∀ y,PIdle (h5.set b6 ((0,1),y)) b (N+2*((K:Int)+1).toNat) (x.cores.get ((K:Int)+1)):=fun y=>id.move fun _ _ _ _ e=>s6 y _ _ e
   refine ACalls.mono (propose_net (N+1) (by omega) (id6 _) (ig.cok n1 n2) 1 (data:=[120]) (t:=(0,1)) ⟨rfl,Nat.le_refl 1, .inr ⟨b6,0,_,_,_,rfl,q6 _,rfl⟩⟩ (fun z hz=>by rw [List.mem_singleton.1 hz];omega)) ?_
   have hx6:∃ h6:Heap,h6=h5.set b6 ((0,1),freezeObj ⟨b6,1,none⟩ 1 (.cells #[.int .u8 120] 5 (0,0))):=⟨_,rfl⟩
   rintro _ h7 (⟨er,rfl,s7⟩ | ⟨ez,u,rfl,ox,rfl,ok7,id7,kk7⟩)
   ·conv=>whnf
    refine Ak (0,1) (outCells out0 ox0) rfl fun b8 h8 n8 s8 k8=>?_;conv=>whnf
    refine Ae rfl rfl rfl (k8) rfl (outCells out0 ox0) rfl fun h9 t9 k9 a9 e9=>?_;conv=>whnf
    refine Ab rfl k9 rfl rfl ?_;conv=>whnf
    refine ACalls.mono (out_no h9 p ((K:Int)+1) er) ?_
    rintro _ h10 ⟨rfl,s10⟩
    conv=>whnf
    have s9:Sub h7 h9:=a9 h7 s8 n8
    have e:x.propose ((K:Int)+1) 1 [120]=x:=by unfold NetM.propose;rw [if_neg er]
    rw [e,if_neg er] at ey
    have K10:NetAt h10 N p x (5000000+800000*K):=⟨⟨v,((kv.sub (s6 _)).sub s7).sub (s9.trans s10)⟩,⟨g,ig,hg⟩,hd⟩
    have L10:Low N h h10:=L3.trans ((s6 _).trans (s7.trans (s9.trans s10))).low
    refine ACalls.mono (rest_mild (by omega) K10 6 (by omega)) ?_
    rintro _ h11 ⟨rfl,k11,s11,L11⟩
    obtain ⟨z,hz⟩:∃ z,z=x.rest 6:=⟨_,rfl⟩
    rw [← hz] at ey k11 s11
    clear hz
    have f1:(awk (K+1)).1=z:=congrArg Prod.fst ey
    have f2:(awk (K+1)).2=0:=congrArg Prod.snd ey
    have k12:NetAt h11 N p z (5000000+800000*((K+1:Nat):Int)):=⟨k11.mem,let ⟨g,a,b⟩:=k11.inv;⟨g,a,by omega⟩,k11.draw⟩
    conv=>whnf
    refine Ag (by omega) (by omega) ((by omega:(K:Int)+1+1=((K+1:Nat):Int)+1)) ?_;conv=>whnf
    refine ⟨⟨_,K+1,Au ⟨rfl,by rw [f2];rfl,rfl,trivial⟩,by omega,by rw [f1];exact k12,by rw [f1];exact s11.trans s3,L10.trans L11⟩,?_⟩
    show 5-(((K+1:Nat):Int)+1).toNat<5-((K:Int)+1).toNat
    omega
   ·conv=>whnf
    refine Ak (0,1) (outCells out0 ox0) rfl fun b8 h8 n8 s8 k8=>?_;conv=>whnf
    refine Ae rfl rfl rfl (k8) rfl (outCells ((x.cores.get ((K:Int)+1)).propose 1 [120]).done.2 ox) rfl fun h9 t9 k9 a9 e9=>?_;conv=>whnf
    refine Ab rfl k9 rfl rfl ?_;conv=>whnf
    have s9:Sub h7 h9:=a9 h7 s8 n8
    have hb120:∀ z∈[(120:Int)],0≤z∧z<256:=fun z hz=>by rw [List.mem_singleton.1 hz];omega
    have kp:=ig.keepPropose n1 n2 (kind:=1) (data:=[120]) ez hb120 (fun h=>by omega) ig10
    refine ACalls.mono (out_call (kv.sub (s6 _)) n1 n2 hb kk7 id7 ok7 kp s9) ?_
    rintro _ h10 ⟨rfl,k10,L10'⟩
    conv=>whnf
    have e:x.propose ((K:Int)+1) 1 [120]=x.out ((K:Int)+1) ((x.cores.get ((K:Int)+1)).propose 1 [120]):=by unfold NetM.propose;rw [if_pos ez]
    have gs:=ig.propose n1 n2 (kind:=1) (data:=[120]) hb120 (fun h=>by omega) ig10
    rw [if_pos ez] at ey
    rw [e] at gs ey
    have K10:=Goes.at ig hg hd gs k10
    have SZ:=gs.size.trans s3
    have L10:Low N h h10:=L3.trans ((s6 _).low.trans L10')
    obtain ⟨y,hy⟩:∃ y,y=x.out ((K:Int)+1) ((x.cores.get ((K:Int)+1)).propose 1 [120]):=⟨_,rfl⟩
    rw [← hy] at ey K10 SZ
    clear hy gs k10
    refine ACalls.mono (rest_mild (by omega) K10 6 (by omega)) ?_
    rintro _ h11 ⟨rfl,k11,s11,L11⟩
    obtain ⟨z,hz⟩:∃ z,z=y.rest 6:=⟨_,rfl⟩
    rw [← hz] at ey k11 s11
    clear hz
    have f1:(awk (K+1)).1=z:=congrArg Prod.fst ey
    have f2:(awk (K+1)).2=((x.cores.get ((K:Int)+1)).log.last.1+1):=congrArg Prod.snd ey
    have k12:NetAt h11 N p z (5000000+800000*((K+1:Nat):Int)):=⟨k11.mem,let ⟨g,a,b⟩:=k11.inv;⟨g,a,by omega⟩,k11.draw⟩
    conv=>whnf
    refine Ag (by omega) (by omega) ((by omega:(K:Int)+1+1=((K+1:Nat):Int)+1)) ?_;conv=>whnf
    refine ⟨⟨_,K+1,Au ⟨rfl,by rw [f2];rfl,rfl,trivial⟩,by omega,by rw [f1];exact k12,by rw [f1];exact s11.trans SZ,L10.trans L11⟩,?_⟩
    show 5-(((K+1:Nat):Int)+1).toNat<5-((K:Int)+1).toNat
    omega
  ·refine Ad (c2) ?_;conv=>whnf
   have ey:=awk_no (k:=K) (by rw [← hx];exact c2)
   refine Ag (by omega) (by omega) ((by omega:(K:Int)+1+1=((K+1:Nat):Int)+1)) ?_;conv=>whnf
   refine ⟨⟨_,K+1,Au ⟨rfl,by rw [ey];rfl,rfl,trivial⟩,by omega,by rw [ey,← hx];exact ⟨⟨v,kv⟩,⟨g,ig,by omega⟩,hd⟩,by rw [ey,← hx];exact s3,L3⟩,?_⟩
   show 5-(((K+1:Nat):Int)+1).toNat<5-((K:Int)+1).toNat
   omega
 ·refine Ad ((by omega)) ?_;conv=>whnf
  obtain rfl:K=3:=by omega
  have core:∀ (m:Nat) (n:Int),n=m→1≤n→n≤3→∃ b,(netCells x v)[0+2+m*1]? = some (Ptr b)∧PIdle h3 b (N+2*n.toNat) (x.cores.get n):=fun m n hm n1 n3=>by
   obtain ⟨b,hb,id⟩:=kv.cores n n1 (by omega)
   have:=core_cell x v n1 (show n≤5 by omega)
   rw [hb] at this
   exact ⟨b,by rw [show 0+2+m*1=2+n.toNat by omega];exact this,id⟩
  obtain ⟨b1,c1,i1⟩:=core 1 1 rfl (by omega) (by omega)
  obtain ⟨b2,c2,i2⟩:=core 2 2 rfl (by omega) (by omega)
  obtain ⟨b3,c3,i3⟩:=core 3 3 rfl (by omega) (by omega)
  rw [← hx] at w2 w3 w4
  refine Aa rfl kv.str rfl ?_;conv=>whnf
  refine Ac (w1) ?_;conv=>whnf
  refine Aj (n:=6) (z:=1) (j:=1) rfl (by omega) rfl rfl ?_;conv=>whnf
  refine Aa rfl kv.str c1 ?_;conv=>whnf
  refine C2 (commit_i i1) ?_;conv=>whnf
  refine Ac (w2) ?_;conv=>whnf
  refine Aj (n:=6) (z:=1) (j:=2) rfl (by omega) rfl rfl ?_;conv=>whnf
  refine Aa rfl kv.str c2 ?_;conv=>whnf
  refine C2 (commit_i i2) ?_;conv=>whnf
  refine Ac (w3) ?_;conv=>whnf
  refine Aj (n:=6) (z:=1) (j:=3) rfl (by omega) rfl rfl ?_;conv=>whnf
  refine Aa rfl kv.str c3 ?_;conv=>whnf
  refine C2 (commit_i i3) ?_;conv=>whnf
  refine Ac (w4) ?_;conv=>whnf
  exact ⟨rfl,L3⟩
end
structure BeginH where
  self:Int
  crew:Int
  draw:Int
  s:SH
def BeginH.cells (b:BeginH):List Value:=[I b.self,I b.crew,I b.draw,I b.s.term,I b.s.vote,I b.s.si,I b.s.st,I b.s.sc, .slice b.s.d.a b.s.d.n b.s.d.c, .slice b.s.e.a b.s.e.n b.s.e.c]
def BeginH.m (b:BeginH):BeginM:=⟨b.self,b.crew,b.draw,b.s.abs⟩
def BeginH.Ok (N:Nat) (h:Heap) (b:BeginH):Prop:=∃ t1 t2 t3:Tag,b.s.Ok h t1 t2 t3∧(1≤t1.1∧t1.1<N)∧(1≤t2.1∧t2.1<N)∧1≤t3.1∧t3.1<N
theorem BeginH.Ok.move {N:Nat} {h h':Heap} {x:BeginH} (k:x.Ok N h) (m:∀ b (t:Tag) y,1≤t.1→t.1<N→h b=some (t,y)→h' b=some (t,y)):x.Ok N h':=by
 obtain ⟨t1,t2,t3,ok,a1,a2,a3⟩:=k
 exact ⟨t1,t2,t3,ok.move fun b t y ht e=>m _ _ _ (by rcases ht with rfl | rfl | rfl <;> omega) (by rcases ht with rfl | rfl | rfl <;> omega) e,a1,a2,a3⟩
def Mids (N:Nat) (h h':Heap):Prop:=∀ b (t:Tag) x,t.1<N→h b=some (t,x)→h' b=some (t,x)
theorem Mids.refl (N:Nat) (h:Heap):Mids N h h:=fun _ _ _ _ e=>e
theorem Mids.trans {N:Nat} {a b c:Heap} (x:Mids N a b) (y:Mids N b c):Mids N a c:=fun _ _ _ m e=>y _ _ _ m (x _ _ _ m e)
theorem Sub.mids {N:Nat} {h h':Heap} (s:Sub h h'):Mids N h h':=fun _ _ _ _ e=>s _ _ e
theorem ow_mids {N:Nat} {h h':Heap} (k:Keeps (ow N) h h'):Mids N h h':=fun b t x m e=>k _ _ _ (by simp [ow];omega) e
theorem do_rz (l:List DoH):∀ e∈l.map DoH.cells,e.length=17:=by intro e he;obtain ⟨x,_,rfl⟩:=List.mem_map.1 he;rfl
theorem plays_any {h:Heap} {N:Nat} (hN:0<N) (b:BeginH) (kb:b.Ok N h) {tl:Tag} {la:Option Addr} {ln lc:Nat} (l:List DoH) (sl:Sl h tl la ln lc 17 (l.map DoH.cells).flatten) (ht1:1≤tl.1) (ht2:tl.1<N) (lk:∀ x∈l,x.Ok N h) (hln:ln≤100000)
  (hr:b.m.runs (l.map DoH.m)=true):ACalls PR 30 #[.agg b.cells.toArray, .slice la ln lc] h (fun v h'=>v = .bool true∧Mids N h h'):=by
 have hpl:l.length=ln:=by have:=sl.len;rw [flat_len (do_rz l),List.length_map] at this;omega
 unfold BeginM.runs BeginM.okB at hr
 simp only [Bool.and_eq_true,decide_eq_true_eq] at hr
 obtain ⟨⟨⟨⟨⟨q1,q2⟩,q3⟩,q4⟩,q5⟩,hr⟩:=hr
 obtain ⟨t1,t2,t3,sok,u1,u2,u3⟩:=kb
 have sby:∀ e∈b.s.es,∀ z∈e.data,0≤z∧z<256:=fun e he=>byte_ok (List.all_eq_true.1 q1 e.abs (List.mem_map.2 ⟨e,he,rfl⟩))
 have q4':b.s.es.length≤1000:=by have:b.m.s.entries.length=b.s.es.length:=List.length_map _;omega
 have sl1:b.s.es.length=b.s.e.n:=sok.es.len
 have sl2:b.s.data.length=b.s.d.n:=by have:=sok.sd.len;simpa [bytesV] using this
 have q5':b.s.data.length≤8192:=q5
 have q3' : -9223372036854775808≤b.s.sc∧b.s.sc≤9223372036854775807:=q3
 refine At mix Tryz.func30 rfl rfl Tryz.ntmps30 Tryz.results30 rfl ?_;conv=>whnf
 refine Al (0,1) ([I b.self,I b.crew,I b.draw,I b.s.term,I b.s.vote,I b.s.si,I b.s.st,I b.s.sc, .slice b.s.d.a b.s.d.n b.s.d.c, .slice b.s.e.a b.s.e.n b.s.e.c]) rfl fun b2 h1 n1 s1 r2=>?_;conv=>whnf
 refine Aa rfl r2 rfl ?_
 refine Aa rfl r2 rfl ?_
 refine Ab rfl r2 rfl rfl ?_
 refine Aa rfl r2 rfl ?_;conv=>whnf
 refine ACalls.mono (New_any' (N+1) (by omega) b.self b.crew b.draw (sok.move fun _ _ _ _ e=>s1 _ _ e) (by omega) (by omega) (by omega) sby q2.1 q2.2 q3'.1 q3'.2 (by omega) (by omega)) ?_
 have l2:((0,1):Tag).1≠N+1+1:=by simp
 have l4:((0,1):Tag).1≠N+3+1:=by simp
 have CN:cnewOk b.m.self b.m.crew b.m.s b.m.draw=cnewOk b.self b.crew b.s.abs b.draw:=rfl
 rw [CN] at hr
 have CC:cnew b.m.self b.m.crew b.m.s b.m.draw=cnew b.self b.crew b.s.abs b.draw:=rfl
 rw [CC] at hr
 rintro _ h2 (⟨a,rfl,kk2⟩ | ⟨a,bp,rfl,ip2,kk2⟩)
 ·conv=>whnf
  have r22:=kk2.get l2 r2
  refine Aa rfl r22 rfl ?_
  refine Aa rfl r22 rfl ?_
  refine Ab rfl r22 rfl rfl ?_
  refine Aa rfl r22 rfl ?_;conv=>whnf
  have sok2:b.s.Ok h2 t1 t2 t3:=sok.move fun c t y ht e=>kk2 _ _ _ (by rcases ht with rfl | rfl | rfl <;> omega) (s1 _ _ e)
  refine ACalls.mono (rNew_any (N+3) (by omega) b.self b.crew b.draw sok2 (by omega) (by omega) (by omega) sby q2.1 q2.2 q3'.1 q3'.2 (by omega) (by omega)) ?_
  rintro _ h3 (⟨a',rfl,kk3⟩ | ⟨a',bm,rfl,im3,kk3⟩)
  rotate_left
  ·rw [a] at a';cases a'
  conv=>whnf
  repeat (refine Av ?_;conv=>whnf)
  refine Ad ((by simp)) ?_;conv=>whnf
  refine Ac ((by simp)) ?_;conv=>whnf
  repeat (refine Av ?_;conv=>whnf)
  refine Ac ((by simp)) ?_;conv=>whnf
  refine ACalls.mono (awake_mild h3 (N+10) (by omega)) ?_
  rintro _ h4 ⟨rfl,L4⟩
  conv=>whnf
  exact ⟨rfl,fun c t y m e=>L4 _ _ _ (by omega) (kk3 _ _ _ (by omega) (kk2 _ _ _ (by omega) (s1 _ _ e)))⟩
 ·conv=>whnf
  have r22:=kk2.get l2 r2
  refine Aa rfl r22 rfl ?_
  refine Aa rfl r22 rfl ?_
  refine Ab rfl r22 rfl rfl ?_
  refine Aa rfl r22 rfl ?_;conv=>whnf
  have sok2:b.s.Ok h2 t1 t2 t3:=sok.move fun c t y ht e=>kk2 _ _ _ (by rcases ht with rfl | rfl | rfl <;> omega) (s1 _ _ e)
  refine ACalls.mono (rNew_any (N+3) (by omega) b.self b.crew b.draw sok2 (by omega) (by omega) (by omega) sby q2.1 q2.2 q3'.1 q3'.2 (by omega) (by omega)) ?_
  rintro _ h3 (⟨a',rfl,kk3⟩ | ⟨a',bm,rfl,im3,kk3⟩)
  ·rw [a] at a';cases a'
  conv=>whnf
  rw [a] at hr
  have hr:(cnew b.self b.crew b.s.abs b.draw).runs (l.map DoH.m)=true:=by simpa using hr
  obtain ⟨c,hc⟩:∃ c,c=cnew b.self b.crew b.s.abs b.draw:=⟨_,rfl⟩
  rw [← hc] at hr ip2 im3
  have ho:c.out=out0:=by rw [hc];rfl
  clear hc
  repeat (refine Av ?_;conv=>whnf)
  refine Ad ((by simp)) ?_;conv=>whnf
  refine Ad ((by simp)) ?_;conv=>whnf
  repeat (refine Av ?_;conv=>whnf)
  refine Ad ((by simp)) ?_;conv=>whnf
  refine Ak (N+7,0) [.pointer none, .pointer none] rfl fun b9 h4 n4 s4 k4=>?_;conv=>whnf
  refine Ae rfl rfl rfl (k4) rfl ([Ptr bp,Ptr bm]) rfl fun h5 t5 r9 a5 e5=>?_;conv=>whnf
  have s5:=a5 _ s4 n4
  repeat (refine Av ?_;conv=>whnf)
  refine Ab rfl r9 rfl rfl ?_;conv=>whnf
  have ip5:PIdle h5 bp (N+1) c:=ip2.move fun c t y ht e=>s5 _ _ (kk3 _ _ _ (by omega) e)
  have im5:RIdle h5 bm (N+3) c:=im3.move fun c t y ht e=>s5 _ _ e
  refine C2 (tells_any ip5 im5 (CoreM.goodB_ok (runs_good hr) ho)) ?_;conv=>whnf
  have M5:Mids N h h5:=fun c t y m e=>s5 _ _ (kk3 _ _ _ (by omega) (kk2 _ _ _ (by omega) (s1 _ _ e)))
  refine ALoop.mk (fun e h'=>∃ (e0:Env) (i:Nat) (C:CoreM),e=updL 72 e0 [(1, .slice la ln lc),(9,Ptr b9),(10,I i)]∧i≤ln∧C.out=out0∧C.runs ((l.drop i).map DoH.m)=true∧PIdle h' bp (N+1) C∧RIdle h' bm (N+3) C∧h' b9=some (row (N+7,0) [Ptr bp,Ptr bm] 126)∧Mids N h h') (fun e=>ln-natOf (e 10))
   ⟨_,0,c,Au ⟨rfl,rfl,rfl,trivial⟩,by omega,ho,hr,ip5,im5,r9,M5⟩ ?_
  clear hr ip2 im3 ip5 im5 M5 ho r9 s5 kk2 kk3
  rintro e h6 ⟨e0,i,C,rfl,hi,ho,hr,ip,im,r9,M6⟩
  conv=>whnf
  by_cases c1:i<ln
  rotate_left
  ·repeat (refine Av ?_;conv=>whnf)
   refine Ad ((by omega)) ?_;conv=>whnf
   refine ACalls.mono (awake_mild h6 (N+10) (by omega)) ?_
   rintro _ h7 ⟨rfl,L7⟩
   conv=>whnf
   exact ⟨rfl,fun c t y m e=>L7 _ _ _ (by omega) (M6 _ _ _ m e)⟩
  repeat (refine Av ?_;conv=>whnf)
  refine Ac ((by omega)) ?_;conv=>whnf
  by_cases c2:i<60
  rotate_left
  ·refine Ad ((by omega)) ?_;conv=>whnf
   refine ACalls.mono (awake_mild h6 (N+10) (by omega)) ?_
   rintro _ h7 ⟨rfl,L7⟩
   conv=>whnf
   exact ⟨rfl,fun c t y m e=>L7 _ _ _ (by omega) (M6 _ _ _ m e)⟩
  refine Ac ((by omega)) ?_;conv=>whnf
  obtain ⟨x,hx⟩:∃ x,l[i]? = some x:=⟨l[i]'(by omega),by simp⟩
  have hxm:=List.mem_of_getElem? hx
  have hd:l.drop i=x::l.drop (i+1):=by rw [List.drop_eq_getElem_cons (by omega),(List.getElem?_eq_some_iff.1 hx).2]
  rw [hd,List.map_cons] at hr
  obtain ⟨g1,g2,g3,g4⟩:=runs_cons hr
  have sl6:Sl h6 tl la ln lc 17 (l.map DoH.cells).flatten:=sl.move fun c y e=>M6 _ _ _ ht2 e
  obtain ⟨bq,off,lq,E',fz,rfl,hb,hp,_⟩:=sl6.elem (do_rz l) (by simp [hpl]) (by omega) (i:=i) (e:=x.cells) (by rw [List.getElem?_map,hx];rfl)
  repeat (refine Av ?_;conv=>whnf)
  refine Am (h6) [5] (Sub.refl _) (by decide +kernel) ?_;conv=>whnf
  refine Ab rfl r9 rfl rfl ?_;conv=>whnf
  refine Ai (z:=17) (j:=i) rfl c1 rfl rfl ?_;conv=>whnf
  refine Ab rfl hb hp rfl ?_;conv=>whnf
  refine ACalls.mono (bstep_any hN x ((lk x hxm).move fun c t y n m e=>M6 _ _ _ m e) ip im ho g1 g2 g3 (runs_good g4)) ?_
  rintro _ h7 ⟨rfl,ip7,im7,kk7⟩
  conv=>whnf
  refine Ag (by omega) (by omega) ((by omega:(i:Int)+1=((i+1:Nat):Int))) ?_;conv=>whnf
  refine ⟨⟨_,i+1,_,Au ⟨rfl,rfl,rfl,trivial⟩,by omega,does_out ho _,g4,ip7,im7,kk7 _ _ _ (by simp [ow]) r9,M6.trans (ow_mids kk7)⟩,?_⟩
  show ln-(i+1)<ln-i
  omega
def putS (l:List Value) (off:Nat):List Value→List Value
  | [v]=>l.set off v
  | vs=>l.take off++(vs++l.drop (off+vs.length))
theorem putS_eq {l vs:List Value} {off:Nat} (h:off+vs.length≤l.length):putS l off vs=setAt l off vs:=by
 match vs with
 | []=>rw [putS,setAt_split _ _ _ h];intro v e;cases e
 | [v]=>rfl
 | v::w::r=>rw [putS,setAt_split _ _ _ h];intro u e;cases e
def fillS (place:Nat→Option (Nat×Nat)):List Value→List (Nat×Value)→Option (List Value)
  | l,[]=>some l
  | l,(i,v)::rest=>match place i with
    | none=>none
    | some (off,size)=>bif Nat.beq v.cells.toList.length size&&Nat.ble (off+size) l.length then fillS place (putS l off v.cells.toList) rest else none
theorem fillS_eq (place:Nat→Option (Nat×Nat)):∀ (ps:List (Nat×Value)) (l:List Value),fillS place l ps=fillL place l ps
 | [],l=>rfl
 | (i,v)::rest,l=>by
  unfold fillS fillL
  cases place i with
  | none=>rfl
  | some os =>
   obtain ⟨off,size⟩:=os
   simp only []
   cases hb:(Nat.beq v.cells.toList.length size&&Nat.ble (off+size) l.length) with
   | false=>rfl
   | true =>
    simp only [cond_true]
    simp only [Bool.and_eq_true] at hb
    have e1:=Nat.eq_of_beq_eq_true hb.1
    have e2:=Nat.le_of_ble_eq_true hb.2
    rw [putS_eq (by omega),fillS_eq place rest]
def buildS (P:Program) (t:TypeId) (ps:List (Nat×Value)):Option (List Value) :=
  match placeT P t,zeroT P t with
  | some pl,some z=>fillS pl z ps
  | _,_=>none
theorem buildS_eq (P:Program) (t:TypeId) (ps:List (Nat×Value)):buildS P t ps=buildT P t ps:=by
 unfold buildS buildT
 cases placeT P t with
 | none=>rfl
 | some pl=>cases zeroT P t with
  | none=>rfl
  | some z=>exact fillS_eq pl ps z
def KStep (P:Program) (o:Oper) (e:Env) (h:Heap) (K:Value→Heap→Prop):Prop :=
  match o.op with
  | .build t ps=>match buildS P t (ps.toList.map fun p=>(p.1,e.ev p.2)) with
    | some l=>forceL l fun l=>K (.agg l.toArray) h
    | none=>False
  | _=>AStep P o e h K
theorem KStep.step {P:Program} {o:Oper} {e:Env} {h:Heap} {K:Value→Heap→Prop} (k:KStep P o e h K):AStep P o e h K:=by
 unfold KStep at k
 split at k
 ·rename_i t ps ho
  have hq:isQuiet P o.op=true:=by rw [ho];rfl
  unfold AStep
  rw [hq,cond_true]
  unfold QStep
  rw [ho]
  simp only []
  rw [buildS_eq] at k
  split at k
  ·rename_i l hl
   rw [hl]
   rw [forceL_iff] at k
   first | exact k | exact (forceL_iff _ _).2 k
  ·exact k.elim
 ·exact k
def KOp1 (wanted:Bool) (P:Program) (o:Oper) (e:Env) (h:Heap) (K:Value→Heap→Prop):Prop:=bif wanted then KStep P o e h K else K undef h
def KList (P:Program) (n:Nat) (ops:Array Oper) (Q:Post):List Oper→Env→Heap→Prop
  | [],e,h=>Q .normal e h
  | o::rest,e,h=>KOp1 (wantedE o ops e) P o e h (contE n e o.dst (KList P n ops Q rest))
theorem KList_wp {P:Program} {β:Base} {n:Nat} {ops:Array Oper} {Q:Post}:∀ (l:List Oper) (e:Env) (h:Heap) (a:Act) (w:World),
  KList P n ops Q l e h→Fits n e a→RelB β h w→wpList P ops (lift β n Q) l a w
 | [],e,h,a,w,k,f,r=>⟨e,h,f,r,k⟩
 | o::rest,e,h,a,w,k,f,r=>by
  unfold wpList
  rw [wanted_eq f]
  unfold KList KOp1 at k
  cases hw:wantedE o ops e with
  | true =>
   rw [hw,cond_true] at k
   rw [if_pos rfl]
   exact .inl (AOp_wp f r k.step fun v h' w' k' r'=>KList_wp rest _ h' _ w' ((contE_iff ..).1 k') (f.updO o.dst v) r')
  | false =>
   rw [hw,cond_false] at k
   rw [if_neg (by simp)]
   exact KList_wp rest _ h _ w ((contE_iff ..).1 k) (f.updO o.dst undef) r
def AK (P:Program) (n:Nat):Code→Post→Env→Heap→Prop
  | .skip,Q,e,h=>Q .normal e h
  | .region _ ops draw,Q,e,h=>bif draw then ADrawn P n ops Q e h else KList P n ops Q ops.toList e h
  | .seq x y,Q,e,h=>AIf (AK P n x) (AK P n y Q) Q e h
  | .cond c x y,Q,e,h=>match e.ev c with
    | .bool t=>bif t then AK P n x Q e h else AK P n y Q e h
    | _=>False
  | .block id x,Q,e,h=>AK P n x (blockP id Q) e h
  | .loop x,Q,e,h=>ALoop (AK P n x) Q e h
  | .exit id,Q,e,h=>Q (.exit id) e h
  | .label _,Q,e,h=>Q .normal e h
  | .goto l,Q,e,h=>Q (.goto l) e h
  | .ret,Q,e,h=>Q .ret e h
  | _,_,_,_=>False
theorem AK_wp {P:Program} {n:Nat} {β:Base} (hm:P.follows .mixedOrders=true):∀ (c:Code) (Q:Post) (e:Env) (h:Heap) (a:Act) (w:World),
  AK P n c Q e h→Fits n e a→RelB β h w→c.wp P (lift β n Q) a w:=by
 intro c
 induction c with
 | skip=>intro Q e h a w k f r;exact wp_skip ⟨e,h,f,r,k⟩
 | region id ops draw =>
  intro Q e h a w k f r
  cases draw with
  | true=>exact ADrawn_wp hm k f r
  | false=>exact wp_region_list (KList_wp ops.toList e h a w k f r)
 | seq x y ihx ihy =>
  intro Q e h a w k f r
  unfold AK at k
  obtain ⟨⟨J,k1,k2⟩⟩:=k
  refine wp_seq (wp_mono (ihx _ e h a w k1 f r) fun z a' w' q=>?_)
  cases z with
  | panic c=>exact q.elim
  | outgrown=>exact q.elim
  | normal=>obtain ⟨e',h',f',r',k'⟩:=q;exact ihy Q e' h' a' w' (k2 _ _ k') f' r'
  | _=>exact q
 | cond c x y ihx ihy =>
  intro Q e h a w k f r
  unfold AK at k
  split at k
  ·rename_i t ht
   refine wp_cond (t:=t) (by rw [f.eval];exact ht) ?_
   cases t with
   | true=>exact ihx Q e h a w k f r
   | false=>exact ihy Q e h a w k f r
  ·exact k.elim
 | block id x ih =>
  intro Q e h a w k f r
  refine wp_block (wp_mono (ih _ e h a w k f r) fun z a' w' q=>?_)
  cases z with
  | panic c=>exact q.elim
  | outgrown=>exact q.elim
  | exit i =>
   obtain ⟨e',h',f',r',k'⟩:=q
   simp only [Exit.inBlock]
   by_cases hi:i=id
   ·subst hi
    rw [if_pos rfl]
    simp only [blockP,Nat.beq_refl,cond_true] at k'
    exact ⟨e',h',f',r',k'⟩
   ·rw [if_neg hi]
    have hb:Nat.beq i id=false:=by
     cases hh:Nat.beq i id with
     | false=>rfl
     | true=>exact absurd (Nat.eq_of_beq_eq_true hh) hi
    simp only [blockP,hb,cond_false] at k'
    exact ⟨e',h',f',r',k'⟩
  | _=>exact q
 | loop x ih =>
  intro Q e h a w k f r
  obtain ⟨⟨I,μ,h0,round⟩⟩:=k
  refine wp_loop (fun a w=>∃ e h,Fits n e a∧RelB β h w∧I e h) (fun a _=>μ (fun t=>a.tmps.getD t undef)) ⟨e,h,f,r,h0⟩ ?_
  rintro a w ⟨e,h,f,r,hI⟩
  refine wp_mono (ih _ e h a w (round e h hI) f r) fun z a' w' q=>?_
  cases z with
  | panic c=>exact q.elim
  | outgrown=>exact q.elim
  | normal =>
   obtain ⟨e',h',f',r',k',hlt⟩:=q
   refine ⟨⟨e',h',f',r',k'⟩,?_⟩
   have e1:(fun t=>a.tmps.getD t undef)=e:=funext f.getD
   have e2:(fun t=>a'.tmps.getD t undef)=e':=funext f'.getD
   simp only [e1,e2]
   exact hlt
  | _=>exact q
 | exit id=>intro Q e h a w k f r;exact wp_exit ⟨e,h,f,r,k⟩
 | label l=>intro Q e h a w k f r;exact wp_label ⟨e,h,f,r,k⟩
 | goto l=>intro Q e h a w k f r;exact wp_goto ⟨e,h,f,r,k⟩
 | ret=>intro Q e h a w k f r;exact wp_ret ⟨e,h,f,r,k⟩
 | rangeFunc=>intro Q e h a w k f r;exact k.elim
 | scope=>intro Q e h a w k f r;exact k.elim
 | refuse=>intro Q e h a w k f r;exact k.elim
theorem acalls_ofk {P:Program} {f:FuncId} {fn:Func} {c:Code} {args:Array Value} {h:Heap} {R:Value→Heap→Prop} (hm:P.follows .mixedOrders=true)
  (hf : P.funcs[f]? = some fn) (hb : fn.body = some c) (hnm : (fn.name == "runtime.NumGoroutine") = false) {n : Nat} (hn : fn.ntmps = n) {rs : List ResultVar} (hrs : fn.results = rs.toArray) (hsz : Nat.ble args.size n = true)
  (k:AK P n c (ABody P rs R) (env0 args) h):ACalls P f args h R:=by
 subst hn
 obtain rfl:fn.results.toList=rs:=by rw [hrs]
 have hsz:=Nat.le_of_ble_eq_true hsz
 refine ⟨⟨fn,hf,by rw [hb];rfl,hnm⟩,fun β w hr=>calls_of_wp hf hb ?_⟩
 have f0:Fits fn.ntmps (env0 args) {tmps:=args++Array.replicate (fn.ntmps-args.size) undef,defers:=[]}:=by
  refine ⟨by simp;omega,?_,?_,rfl⟩
  ·intro t ht
   simp only [env0]
   by_cases hlt:t<args.size
   ·rw [Array.getElem?_append_left hlt]
    simp [hlt]
   ·rw [Array.getElem?_append_right (by omega)]
    have:args.getD t undef=undef:=by simp [hlt]
    rw [this,Array.getElem?_replicate,if_pos (by omega)]
  ·intro t ht
   simp only [env0]
   have:¬ t<args.size:=by omega
   simp [this]
 refine wp_mono (AK_wp hm c _ _ h _ w k f0 hr) fun x a w' q=>?_
 cases x with
 | panic c=>exact q.elim
 | outgrown=>exact q.elim
 | exit id=>obtain ⟨e,h',f',r',k'⟩:=q;exact k'.elim
 | goto id=>obtain ⟨e,h',f',r',k'⟩:=q;exact k'.elim
 | normal =>
  obtain ⟨e,h',f',r',k'⟩:=q
  obtain ⟨v,kv,hv⟩:=ARes_sound (fn:=fn) (K:=fun v=>R v h') f' k'
  exact ⟨f'.defers,v,hv w' r'.rel,v,h',rfl,r',kv⟩
 | ret =>
  obtain ⟨e,h',f',r',k'⟩:=q
  obtain ⟨v,kv,hv⟩:=ARes_sound (fn:=fn) (K:=fun v=>R v h') f' k'
  exact ⟨f'.defers,v,hv w' r'.rel,v,h',rfl,r',kv⟩
section
section
variable {P:Program}
theorem AAppend.over {ts0 ts1 E z by_ tt:Nat} {a xa:Option Addr} {n cap m xc:Nat} {cs xs zero:List Value} {h:Heap} {t tx:Tag} {K:Value→Heap→Prop} (tg:Tag)
  (hu:P.underlying ts0=some (.slice E)) (hu1:∃ E',P.underlying ts1=some (.slice E')) (hz:sizeT P E=some z) (hby:bytesT P E=some by_) (hzero:zeroT P E=some zero) (hzl:zero.length=z) (hzp:0<z)
  (hsl:Sl h t a n cap z cs) (x:Sl h tx xa m xc z xs) (hroom:(n+m)*by_≤2^47) (hlt:cap<n+m)
  (hmax:n+m≤9223372036854775807)
  (k:∀ a' cap' h',Own h' tg E a' (n+m) cap' z (cs++xs)→Sub h h'→K (.slice a' (n+m) cap') h') :
  AAppend P #[ts0,ts1] tt #[.slice a n cap, .slice xa m xc] h K:=by
 obtain ⟨E',hu1⟩:=hu1
 obtain ⟨i,hi,hsz⟩:=size_info hz
 have hby':i.bytes=by_:=by unfold bytesT at hby;rw [hi] at hby;simpa using hby
 obtain ⟨i',zv,hi',hzv,hzl'⟩:=zero_info hzero
 have hii:i'=i:=by rw [hi] at hi';cases hi';rfl
 subst hii
 refine ⟨?_⟩
 unfold Builtin.append_
 simp only [List.getElem?_toArray,List.getElem?_cons_zero,List.getElem?_cons_succ,underlying,program,bind,Sem.bind,awp,hu,hu1,pure]
 refine awp_bind _ _ (awp_sizeOf hz ?_)
 simp only [awp,hu1,Sem.bind,Bool.false_eq_true,if_false,Bool.not_false,if_true]
 refine awp_bind _ _ (awp_lenOf ?_)
 rw [if_neg (by omega)]
 have e1:¬ (((n+m:Nat):Int) > IntKind.i64.max∧(False∨i'.bytes=0)):=by
  intro c
  have:(IntKind.i64.max:Int)=9223372036854775807:=by decide
  rw [this] at c;omega
 have hnx:=nextslicecap_le hlt
 have e2:¬ (Builtin.nextslicecap (n+m) cap*i'.bytes > 2^48):=by
  rw [hby']
  have:Builtin.nextslicecap (n+m) cap*by_≤2*(n+m)*by_:=Nat.mul_le_mul_right _ hnx
  have h3:2*(n+m)*by_≤2*2^47:=by rw [Nat.mul_assoc];exact Nat.mul_le_mul_left _ hroom
  omega
 simp only [typeInfo,program,bind,Sem.bind,awp,hi,pure,Bool.false_eq_true]
 rw [if_neg e1]
 simp only [Sem.bind,awp,hi]
 rw [if_neg e2]
 simp only [Sem.bind,awp,hi,choose,Question.forced,Bool.false_eq_true,if_false,Question.cut]
 intro tk
 have hge:n+m≤n+m+tk % (2^63-(n+m)):=Nat.le_add_right _ _
 refine awp_bind _ _ (awp_askRoom ?_)
 refine awp_bind _ _ (awp_firstCells hsl ?_)
 refine awp_bind _ _ (awp_firstCells x ?_)
 simp only [zeroValue,typeInfo,program,bind,Sem.bind,awp,hi,hzv,pure,newRow,newObj]
 refine ⟨tg,fun b hb=>?_⟩
 have hzne:zero≠[]:=by intro c;subst c;simp at hzl;omega
 have hzc:zv.cells=zero.toArray:=by rw [← hzl']
 have hcells:cs.toArray++xs.toArray++Builtin.zeroCells zv.cells (n+m+tk % (2^63-(n+m))-(n+m))=(cs++xs++(List.replicate (n+m+tk % (2^63-(n+m))-(n+m)) zero).flatten).toArray:=by
  rw [hzc,zeroCells_rep hzne];simp
 rw [hcells]
 refine k _ _ _ (.inr ⟨b,_,rfl,Heap.set_same _ _ _,?_,hge,?_⟩) (hb.sub _)
 ·refine Nat.le_of_eq (Eq.symm ?_)
  simp only [List.length_append,List.length_flatten,List.map_replicate,List.sum_replicate_nat,hzl,hsl.len,x.len]
  rw [← Nat.add_mul,← Nat.add_mul];congr 1;omega
 ·have hlen:(cs++xs).length=(n+m)*z:=by rw [List.length_append,hsl.len,x.len,Nat.add_mul]
  rw [← hlen,List.take_left']
  rfl
theorem ASlc.upto3 {t E z n cap m x:Nat} {a:Option Addr} {i y:Int} {k k':IntKind} {K:Value→Prop} (hi:i=(m:Int)) (hy:y=(x:Int)) (h1:m≤x) (h2:x≤cap) (hu:P.underlying t=some (.slice E)) (hz:sizeT P E=some z)
  (c:K (.slice a m x)):ASlc P t a n cap none (some (.int k i)) (some (.int k' y)) K:=by
 subst hi;subst hy
 refine ⟨⟨0,m,x, .inl ⟨rfl,rfl⟩, .inr ⟨k,rfl⟩, .inr ⟨k',rfl⟩,Nat.zero_le _,h1,h2,E,z,hu,hz,?_⟩⟩
 have:=slBase_zero a x z
 unfold slBase at this
 rw [this]
 exact c
def catO (z:Nat):Nat→List (Nat×Value)→Option (List (List Value))
  | _,[]=>some []
  | i,(j,v)::r=>bif Nat.beq j i&&Nat.beq v.cells.toList.length z then (match catO z (i+1) r with | some cs=>some (v.cells.toList::cs) | none=>none) else none
theorem catO_fill {z:Nat}:∀ (ps:List (Nat×Value)) (i:Nat) (cs:List (List Value)) (pre rest:List Value),catO z i ps=some cs→pre.length=i*z→rest.length=ps.length*z→fillL (fun i=>some (i*z,z)) (pre++rest) ps=some (pre++cs.flatten)
 | [],i,cs,pre,rest,h,h1,h2=>by
  simp only [catO,Option.some.injEq] at h
  subst h
  have:rest=[]:=List.eq_nil_of_length_eq_zero (by simpa using h2)
  subst this
  simp [fillL]
 | (j,v)::r,i,cs,pre,rest,h,h1,h2=>by
  unfold catO at h
  cases hb:(Nat.beq j i&&Nat.beq v.cells.toList.length z) with
  | false=>rw [hb] at h;simp at h
  | true =>
   rw [hb] at h
   simp only [cond_true] at h
   simp only [Bool.and_eq_true] at hb
   have e1:=Nat.eq_of_beq_eq_true hb.1
   have e2:=Nat.eq_of_beq_eq_true hb.2
   subst e1
   cases hc:catO z (j+1) r with
   | none=>rw [hc] at h;simp at h
   | some cs' =>
    rw [hc] at h
    simp only [Option.some.injEq] at h
    subst h
    rw [List.length_cons,Nat.add_mul,Nat.one_mul] at h2
    have hle:j*z+z≤(pre++rest).length:=by rw [List.length_append];omega
    unfold fillL
    simp only []
    rw [e2,show Nat.beq z z=true from Nat.beq_refl z,show Nat.ble (j*z+z) (pre++rest).length=true from Nat.ble_eq_true_of_le hle]
    simp only [Bool.and_true,cond_true]
    have e3:setAt (pre++rest) (j*z) v.cells.toList=(pre++v.cells.toList)++rest.drop z:=by
     rw [setAt_split _ _ _ (by rw [e2];exact hle),e2,List.take_left' h1,List.append_assoc,show j*z+z=pre.length+z by omega,List.drop_append]
     simp
    rw [e3,catO_fill r (j+1) cs' _ _ hc (by rw [List.length_append,e2,h1,Nat.add_mul,Nat.one_mul]) (by rw [List.length_drop];omega)]
    simp
theorem ABuildSl.cat {t E z:TypeId} {n:Nat} {ps:List (Nat×Value)} {h:Heap} {zero:List Value} {K:Value→Heap→Prop} (tg:Tag) (cs:List (List Value))
  (ht:P.underlying t=some (.slice E)) (hz:sizeT P E=some z) (hn:Nat.ble (n*z) 16777216=true) (h0:Nat.beq (n*z) 0=false) (hzero:zeroT P E=some zero) (hlen:Nat.beq zero.length z=true)
  (hf:catO z 0 ps=some cs) (hps:Nat.beq ps.length n=true)
  (k:∀ (b:Nat) (h2:Heap),h b=none→Sub h h2→h2 b=some (row tg cs.flatten E)→K (.slice (some ⟨b,0,none⟩) n n) h2):ABuildSl P t n ps.toArray h K:=by
 refine Ap tg cs.flatten ht hz hn h0 hzero hlen ?_ k
 have e1:=Nat.eq_of_beq_eq_true hps
 have e2:=Nat.eq_of_beq_eq_true hlen
 have:=catO_fill ps 0 cs [] (List.replicate n zero).flatten hf (by simp) (by simp [e1,e2])
 simpa using this
end
def hk (k a:Int):DoH:=⟨k,a,post1,slv0,[]⟩
def hd (k a:Int) (s:SlV) (l:List Int):DoH:=⟨k,a,post1,s,l⟩
def hp (y:PH):DoH:=⟨1,0,y,slv0,[]⟩
abbrev at1 (b n:Nat):SlV:=⟨some ⟨b,0,none⟩,n,n⟩
def AllOk (N:Nat) (h:Heap) (l:List DoH):Prop:=∀ x∈l,x.Ok N h
theorem AllOk.sub {N:Nat} {h h':Heap} {l:List DoH} (k:AllOk N h l) (s:Sub h h'):AllOk N h' l:=fun x hx=>(k x hx).move fun _ _ _ _ _ e=>s _ _ e
theorem oks_nil {N:Nat} {h:Heap}:AllOk N h []:=fun x hx=>by cases hx
theorem oks_cons {N:Nat} {h:Heap} {x:DoH} {l:List DoH} (k:x.Ok N h) (r:AllOk N h l):AllOk N h (x::l):=fun y hy=>by
 rcases List.mem_cons.1 hy with rfl | hy
 ·exact k
 ·exact r y hy
theorem oks_app {N:Nat} {h:Heap} {l l':List DoH} (k:AllOk N h l) (r:AllOk N h l'):AllOk N h (l++l'):=fun y hy=>by
 rcases List.mem_append.1 hy with hy | hy
 ·exact k y hy
 ·exact r y hy
theorem sl_zero (h:Heap) (t:Tag):Sl h t none 0 0 1 (bytesV []):=Sl.nil _ _ _ _ _
theorem ok_plain {N:Nat} {h:Heap} {x:DoH} (hN:1<N) (h1:x.y.e=slv0) (h2:x.y.es=[]) (h3:x.y.d=slv0) (h4:x.y.data=[]) (h5:x.d=slv0) (h6:x.data=[]):x.Ok N h:=by
 refine ⟨⟨(1,0),(1,0),(1,0),⟨⟨?_,?_,?_⟩,?_⟩,⟨Nat.le_refl 1,hN⟩,⟨Nat.le_refl 1,hN⟩,Nat.le_refl 1,hN⟩,(1,0),?_,Nat.le_refl 1,hN⟩
 ·rw [h1,h2];exact Sl.nil _ _ _ _ _
 ·rw [h2];simp
 ·rw [h2];simp
 ·rw [h3,h4];exact sl_zero _ _
 ·rw [h5,h6];exact sl_zero _ _
theorem ok_data {N:Nat} {h:Heap} {k a:Int} {s:SlV} {l:List Int} {t:Tag} (hN:1<N) (g:Sl h t s.a s.n s.c 1 (bytesV l)) (h1:1≤t.1) (h2:t.1<N):(hd k a s l).Ok N h :=
 ⟨⟨(1,0),(1,0),(1,0),⟨⟨Sl.nil _ _ _ _ _,by simp [hd,post1],by simp [hd,post1]⟩,sl_zero _ _⟩,⟨Nat.le_refl 1,hN⟩,⟨Nat.le_refl 1,hN⟩,Nat.le_refl 1,hN⟩,t,g,h1,h2⟩
structure LsAt (N:Nat) (h:Heap) (s:SlV) (l:List DoH):Prop where
  sl:∃ r,Sl h (N,r) s.a s.n s.c 17 (l.map DoH.cells).flatten
  ok:AllOk (N+1) h l
theorem LsAt.sub {N:Nat} {h h':Heap} {s:SlV} {l:List DoH} (k:LsAt N h s l) (u:Sub h h'):LsAt N h' s l:=⟨let ⟨r,a⟩:=k.sl;⟨r,a.sub u⟩,k.ok.sub u⟩
theorem told_one (h:Heap) (f i:Int) (ok:Bool):ACalls PR 74 #[I f, .bool ok,I i] h (fun v h'=>v = .agg (hp {post1 with kind:=4,src:=f,dst:=1,term:=2,ok:=ok,index:=i}).cells.toArray∧h=h'):=by
 refine Ar (As mix Tryz.func74 rfl rfl Tryz.ntmps74 Tryz.results74 rfl ?_);conv=>whnf
 refine Ak (0,1) ((hk 0 0).cells) rfl fun b6 h1 n1 s1 k1=>?_;conv=>whnf
 refine Ae rfl rfl rfl (k1) rfl ((hp {post1 with kind:=4,src:=f,dst:=1,term:=2,ok:=ok,index:=i}).cells) rfl fun h2 t2 k2 a2 e2=>?_;conv=>whnf
 refine Ab rfl k2 rfl rfl ?_;conv=>whnf
 exact ⟨rfl,a2 _ s1 n1⟩
end
def leadH:List DoH:=[hk 6 10,hp {post1 with kind:=2,src:=2,dst:=1,term:=2,ok:=true}]
def toldH (f:Int) (ok:Bool) (i:Int):DoH:=hp {post1 with kind:=4,src:=f,dst:=1,term:=2,ok:=ok,index:=i}
def nextH (s:SlV) (es:List EH):PH:={post1 with kind:=3,src:=3,dst:=1,term:=3,index:=1,logTerm:=1,e:=s,es:=es}
def snapH (m:Int):PH:={post1 with kind:=5,src:=3,dst:=1,term:=3,si:=2,st:=m,sc:=14}
def voteH (s i l:Int):PH:={post1 with kind:=1,src:=s,dst:=1,term:=4,index:=i,logTerm:=l}
def threeH (s:SlV) (es:List EH):PH:={post1 with kind:=3,src:=2,dst:=1,term:=1,index:=2,logTerm:=1,commit:=3,e:=s,es:=es}
def mostH:BeginH:=⟨1,2,0,⟨2,0,9007199254740991,1,2,slv0,[],slv0,[]⟩⟩
def oldH (s:SlV) (es:List EH):BeginH:=⟨1,14,0,⟨1,0,0,0,0,slv0,[],s,es⟩⟩
def zeroH:BeginH:=⟨0,0,0,⟨0,0,0,0,0,slv0,[],slv0,[]⟩⟩
theorem BeginH.Ok.sub {N:Nat} {h h':Heap} {x:BeginH} (k:x.Ok N h) (s:Sub h h'):x.Ok N h':=k.move fun _ _ _ _ _ e=>s _ _ e
theorem ok_post {N:Nat} {h:Heap} {k a:Int} {y:PH} {t1 t2:Tag} (hN:1<N) (e:Ents h t1 t2 y.e.a y.e.n y.e.c y.es) (h1:1≤t1.1∧t1.1<N) (h2:1≤t2.1∧t2.1<N) (h3:y.d=slv0) (h4:y.data=[]):(⟨k,a,y,slv0,[]⟩:DoH).Ok N h :=
 ⟨⟨t1,t2,(1,0),⟨e,by rw [h3,h4];exact sl_zero _ _⟩,h1,h2,Nat.le_refl 1,hN⟩,(1,0),sl_zero _ _,Nat.le_refl 1,hN⟩
def e0H (t i:Int):EH:=⟨t,i,0,none,0,0,[]⟩
def eH (t i k:Int) (s:SlV) (l:List Int):EH:=⟨t,i,k,s.a,s.n,s.c,l⟩
theorem byte_at {h:Heap} {t:Tag} {b:Nat} {z:Int} {fz:Nat×Nat} {E:TypeId} (k:h b=some (t, .cells #[.int .u8 z] E fz)):Sl h t (some ⟨b,0,none⟩) 1 1 1 (bytesV [z]):=⟨rfl,Nat.le_refl 1, .inr ⟨b,0,_,_,_,rfl,k,rfl⟩⟩
theorem ents_of {h:Heap} {t td:Tag} {a:Option Addr} {n c:Nat} {es:List EH} (s:Sl h t a n c 4 (encs es)) (g:∀ e∈es,e.Good h td∧e.n≤100000):Ents h t td a n c es:=⟨s,fun e he=>(g e he).1,fun e he=>by have:=(g e he).2;omega⟩
theorem e0_good (h:Heap) (t:Tag) (a b:Int):(e0H a b).Good h t∧(e0H a b).n≤100000:=⟨sl_zero _ _,by show 0≤_;omega⟩
theorem good_nil {h:Heap} {t:Tag}:∀ e∈([]:List EH),e.Good h t∧e.n≤100000:=fun e he=>by cases he
theorem good_cons {h:Heap} {t:Tag} {x:EH} {l:List EH} (k:x.Good h t∧x.n≤100000) (r:∀ e∈l,e.Good h t∧e.n≤100000):∀ e∈x::l,e.Good h t∧e.n≤100000:=fun e he=>by
 rcases List.mem_cons.1 he with rfl | he
 ·exact k
 ·exact r e he
theorem row_at {h:Heap} {t:Tag} {b n z:Nat} {l:List Value} {E:TypeId} (k:h b=some (row t l E)) (hl:l.length=n*z):Sl h t (some ⟨b,0,none⟩) n n z l:=⟨hl,Nat.le_refl n, .inr ⟨b,0,l,E,(0,0),rfl,k,by rw [List.drop_zero,← hl,List.take_length]⟩⟩
theorem row_calls {h:Heap} {t:Tag} {b n:Nat} {l:List DoH} {E:TypeId} (k:h b=some (row t (l.map DoH.cells).flatten E)) (hl:l.length=n):Sl h t (some ⟨b,0,none⟩) n n 17 (l.map DoH.cells).flatten :=
 row_at k (by rw [flat_len (do_rz l),List.length_map,hl])
theorem own_calls {h:Heap} {t:Tag} {a:Option Addr} {n c:Nat} {E:TypeId} {l l':List DoH} (o:Own h t E a n c 17 ((l.map DoH.cells).flatten++(l'.map DoH.cells).flatten)):Sl h t a n c 17 ((l++l').map DoH.cells).flatten:=by
 rw [List.map_append,List.flatten_append];exact o.sl
structure Bs (N:Nat) (h0 h:Heap) (L:List (Nat×Int)):Prop where
  s:Sub h0 h
  b:∀ p∈L,Sl h (N,1) (some ⟨p.1,0,none⟩) 1 1 1 (bytesV [p.2])
theorem Bs.push {N b:Nat} {h0 h h':Heap} {L:List (Nat×Int)} {z:Int} {E:TypeId} (k:Bs N h0 h L) (s:Sub h h') (e:h' b=some (row (N,1) [.int .u8 z] E)):Bs N h0 h' ((b,z)::L) :=
 ⟨k.s.trans s,fun p hp=>by
  rcases List.mem_cons.1 hp with rfl | hp
  ·exact byte_at e
  ·exact (k.b p hp).sub s⟩
theorem LsAt.mids {N:Nat} {h h':Heap} {s:SlV} {l:List DoH} (hN:0<N) (k:LsAt N h s l) (m:Mids (N+1) h h'):LsAt N h' s l :=
 ⟨let ⟨r,a⟩:=k.sl;⟨r,a.move fun b x e=>m _ _ _ (Nat.lt_succ_self _) e⟩,fun x hx=>(k.ok x hx).move fun b t y _ q e=>m _ _ _ q e⟩
theorem playsF_any (h:Heap) (N:Nat) (hN:0<N):ACalls PR 31 #[] h (fun v h'=>v = .bool true∧Mids N h h'):=by
 refine acalls_ofk mix Tryz.func31 rfl rfl Tryz.ntmps31 Tryz.results31 rfl ?_;conv=>whnf
 repeat (refine Av ?_;conv=>whnf)
 refine Ap (N,1) [.int .u8 97] rfl rfl rfl rfl rfl rfl rfl fun bA0 hA nA sA kA=>?_;conv=>whnf
 refine ⟨_,_,_,_,kA,?_⟩;conv=>whnf
 refine ⟨_,_,kA,?_⟩;conv=>whnf
 refine Ap (N,2) (encs [eH 1 1 1 (at1 bA0 1) [97],e0H 1 2]) rfl rfl rfl rfl rfl rfl rfl fun b2 h2 n2 s2 k2=>?_;conv=>whnf
 have sA2:Sub h h2:=(sA.set nA _).trans s2
 have gA:=byte_at (s2 _ _ (Heap.set_same _ _ _))
 clear sA nA kA s2 n2
 refine Ak (N,9) zeroH.cells rfl fun b1 h3 n3 s3 k3=>?_;conv=>whnf
 refine Ae rfl rfl rfl (k3) rfl ((oldH (at1 b2 2) [eH 1 1 1 (at1 bA0 1) [97],e0H 1 2]).cells) rfl fun h4 t4 q1 a4 e4=>?_;conv=>whnf
 have s24:=a4 _ s3 n3
 repeat (refine Av ?_;conv=>whnf)
 refine ABuildSl.cat (N,2) (leadH.map DoH.cells) rfl rfl rfl rfl rfl rfl rfl rfl fun b5 h5 n5 s5 k5=>?_;conv=>whnf
 have s25:=s24.trans s5
 have q1:=s5 _ _ q1
 have kold:(oldH (at1 b2 2) [eH 1 1 1 (at1 bA0 1) [97],e0H 1 2]).Ok (N+1) h5:=⟨(N,2),(N,1),(N,1),⟨ents_of (row_at (s25 _ _ k2) rfl) (good_cons ⟨gA.sub s25,by show 1≤_;omega⟩ (good_cons (e0_good _ _ _ _) good_nil)),sl_zero _ _⟩,⟨by show 1≤N;omega,Nat.lt_succ_self _⟩,⟨by show 1≤N;omega,Nat.lt_succ_self _⟩,by show 1≤N;omega,Nat.lt_succ_self _⟩
 have sh5:=sA2.trans s25
 clear gA k2 n3 s3 k3 t4 a4 e4 s24 n5 s5 s25 sA2
 have slead:Sl h5 (N,2) (some ⟨b5,0,none⟩) 2 2 17 (leadH.map DoH.cells).flatten:=row_calls k5 rfl
 have okl:AllOk (N+1) h5 leadH:=oks_cons (ok_plain (by omega) rfl rfl rfl rfl rfl rfl) (oks_cons (ok_plain (by omega) rfl rfl rfl rfl rfl rfl) oks_nil)
 refine Av ?_;conv=>whnf
 refine AIf.cut (fun e h'=>∃ (e0:Env) (aa:Option Addr) (ca:Nat),e=updL 161 e0 [(1,Ptr b1),(2, .slice (some ⟨b5,0,none⟩) 2 2),(3, .func (.func 74) #[] #[]),(4, .slice aa 5 ca)]∧Sub h5 h'∧LsAt N h' ⟨aa,5,ca⟩ (leadH++[toldH 2 true 2,toldH 3 true 1,toldH 2 true 3])) ?_ ?_
 ·conv=>whnf
  refine An (h5) [] [0,1,2,4,6,3,5,7,8,9,10] (Sub.refl _) (by decide +kernel) ?_;conv=>whnf
  refine ASlc.upto3 (m:=2) (x:=2) rfl rfl (by omega) (by omega) rfl rfl ?_;conv=>whnf
  refine C2 (told_one h5 2 2 true) ?_;conv=>whnf
  refine ⟨Sub.refl _,?_⟩;conv=>whnf
  refine C2 (told_one h5 3 1 true) ?_;conv=>whnf
  refine ⟨Sub.refl _,?_⟩;conv=>whnf
  refine C2 (told_one h5 2 3 true) ?_;conv=>whnf
  refine ⟨Sub.refl _,?_⟩;conv=>whnf
  refine ABuildSl.cat (N,3) ([toldH 2 true 2,toldH 3 true 1,toldH 2 true 3].map DoH.cells) rfl rfl rfl rfl rfl rfl rfl rfl fun b6 h6 n6 s6 k6=>?_;conv=>whnf
  refine ⟨s6,?_⟩;conv=>whnf
  refine AAppend.over (N,4) (t:=(N,2)) (E:=52) (z:=17) (by_:=184) (zero:=(hk 0 0).cells) (tx:=(N,3)) rfl ⟨_,rfl⟩ rfl rfl rfl rfl (by omega) (slead.sub s6) (row_calls k6 rfl) (by omega) (by omega) (by omega) fun aa ca h7 oa s7=>?_
  conv=>whnf
  refine ⟨s6.trans s7,?_⟩;conv=>whnf
  exact ⟨_,aa,ca,Au ⟨rfl,rfl,rfl,rfl,trivial⟩,s6.trans s7,⟨_,own_calls oa⟩,oks_app (okl.sub (s6.trans s7)) (oks_cons (ok_plain (by omega) rfl rfl rfl rfl rfl rfl) (oks_cons (ok_plain (by omega) rfl rfl rfl rfl rfl rfl) (oks_cons (ok_plain (by omega) rfl rfl rfl rfl rfl rfl) oks_nil)))⟩
 rintro e h7 ⟨e0,aa,ca,rfl,s67,fa⟩
 have q1:=s67 _ _ q1
 have kold:=kold.sub s67
 have slead:=slead.sub s67
 have okl:=okl.sub s67
 have sh5:=sh5.trans s67
 clear s67
 refine AIf.cut (fun e h'=>∃ (e0:Env) (ab:Option Addr) (cb:Nat),e=updL 161 e0 [(1,Ptr b1),(2, .slice (some ⟨b5,0,none⟩) 2 2),(3, .func (.func 74) #[] #[]),(4, .slice aa 5 ca),(5, .slice ab 7 cb)]∧Sub h7 h'∧LsAt N h' ⟨ab,7,cb⟩ (leadH++[toldH 3 false 0,toldH 3 false 0,toldH 2 true 99,hk 2 1,toldH 2 false 9])) ?_ ?_
 ·conv=>whnf
  refine An (h7) [] [0,1,2,4,6,8,9,3,5,7,10,11,12,13] (Sub.refl _) (by decide +kernel) ?_;conv=>whnf
  refine ASlc.upto3 (m:=2) (x:=2) rfl rfl (by omega) (by omega) rfl rfl ?_;conv=>whnf
  refine C2 (told_one h7 3 0 false) ?_;conv=>whnf
  refine ⟨Sub.refl _,?_⟩;conv=>whnf
  refine C2 (told_one h7 3 0 false) ?_;conv=>whnf
  refine ⟨Sub.refl _,?_⟩;conv=>whnf
  refine C2 (told_one h7 2 99 true) ?_;conv=>whnf
  refine ⟨Sub.refl _,?_⟩;conv=>whnf
  refine C2 (told_one h7 2 9 false) ?_;conv=>whnf
  refine ⟨Sub.refl _,?_⟩;conv=>whnf
  refine ABuildSl.cat (N,3) ([toldH 3 false 0,toldH 3 false 0,toldH 2 true 99,hk 2 1,toldH 2 false 9].map DoH.cells) rfl rfl rfl rfl rfl rfl rfl rfl fun b6 h8 n6 s6 k6=>?_;conv=>whnf
  refine ⟨s6,?_⟩;conv=>whnf
  refine AAppend.over (N,4) (t:=(N,2)) (E:=52) (z:=17) (by_:=184) (zero:=(hk 0 0).cells) (tx:=(N,3)) rfl ⟨_,rfl⟩ rfl rfl rfl rfl (by omega) (slead.sub s6) (row_calls k6 rfl) (by omega) (by omega) (by omega) fun ab cb h9 oa s7=>?_
  conv=>whnf
  refine ⟨s6.trans s7,?_⟩;conv=>whnf
  exact ⟨_,ab,cb,Au ⟨rfl,rfl,rfl,rfl,rfl,trivial⟩,s6.trans s7,⟨_,own_calls oa⟩,oks_app (okl.sub (s6.trans s7)) (oks_cons (ok_plain (by omega) rfl rfl rfl rfl rfl rfl) (oks_cons (ok_plain (by omega) rfl rfl rfl rfl rfl rfl) (oks_cons (ok_plain (by omega) rfl rfl rfl rfl rfl rfl) (oks_cons (ok_plain (by omega) rfl rfl rfl rfl rfl rfl) (oks_cons (ok_plain (by omega) rfl rfl rfl rfl rfl rfl) oks_nil)))))⟩
 rintro e h9 ⟨e0,ab,cb,rfl,s67,fb⟩
 have q1:=s67 _ _ q1
 have kold:=kold.sub s67
 have slead:=slead.sub s67
 have okl:=okl.sub s67
 have sh5:=sh5.trans s67
 have fa:=fa.sub s67
 clear s67
 conv=>whnf
 repeat (refine Av ?_;conv=>whnf)
 refine Ap (N,1) [.int .u8 30] rfl rfl rfl rfl rfl rfl rfl fun bA hA nA sA kA=>?_;conv=>whnf
 refine Ap (N,5) (encs [e0H 3 2,eH 3 3 2 (at1 bA 1) [30]]) rfl rfl rfl rfl rfl rfl rfl fun b6 h2 n2 s2 k2=>?_;conv=>whnf
 have s12:=sA.trans s2
 have q1:=s12 _ _ q1
 have kold:=kold.sub s12
 have slead:=slead.sub s12
 have okl:=okl.sub s12
 have sh5:=sh5.trans s12
 have fa:=fa.sub s12
 have fb:=fb.sub s12
 have gA:Sl h2 (N,1) (some ⟨bA,0,none⟩) 1 1 1 (bytesV [30]):=byte_at (s2 _ _ kA)
 have kn:Ents h2 (N,5) (N,1) (some ⟨b6,0,none⟩) 2 2 [e0H 3 2,eH 3 3 2 (at1 bA 1) [30]]:=ents_of (row_at k2 rfl) (good_cons (e0_good _ _ _ _) (good_cons ⟨gA,by show 1≤_;omega⟩ good_nil))
 clear s12 sA s2 nA n2 kA
 repeat (refine Av ?_;conv=>whnf)
 refine Ak (N,9) post0z rfl fun b7 h3 n3 s3 k3=>?_;conv=>whnf
 refine Ae rfl rfl rfl (k3) rfl ((nextH (at1 b6 2) []).cells) rfl fun h4 t4 q7 a4 e4=>?_;conv=>whnf
 have s4:=a4 _ s3 n3
 repeat (refine Av ?_;conv=>whnf)
 refine Ak (N,9) post0z rfl fun b8 hA nA sA kA=>?_;conv=>whnf
 refine Ae rfl rfl rfl (kA) rfl ((snapH 2).cells) rfl fun hB tB q8 aB eB=>?_;conv=>whnf
 have sB:=aB _ sA nA
 repeat (refine Av ?_;conv=>whnf)
 refine Ak (N,9) post0z rfl fun b9 hC nC sC kC=>?_;conv=>whnf
 refine Ae rfl rfl rfl (kC) rfl ((snapH 3).cells) rfl fun hD tD q9 aD eD=>?_;conv=>whnf
 have sD:=aD _ sC nC
 have q8:=sD _ _ q8
 have q7:=sD _ _ (sB _ _ q7)
 have sAll:=s4.trans (sB.trans sD)
 have q1:=sAll _ _ q1
 have kold:=kold.sub sAll
 have slead:=slead.sub sAll
 have okl:=okl.sub sAll
 have sh5:=sh5.trans sAll
 have fa:=fa.sub sAll
 have fb:=fb.sub sAll
 have kn:=kn.sub sAll
 have k2:=sAll _ _ k2
 clear sAll s4 sB sD t4 tB tD a4 aB aD e4 eB eD k3 kA kC n3 nA nC s3 sA sC
 refine AIf.cut (fun e h'=>∃ (e0:Env) (bc:Nat),e=updL 161 e0 [(1,Ptr b1),(2, .slice (some ⟨b5,0,none⟩) 2 2),(3, .func (.func 74) #[] #[]),(4, .slice aa 5 ca),(5, .slice ab 7 cb),(6, .slice (some ⟨b6,0,none⟩) 2 2),(7,Ptr b7),(9,Ptr b9),(10, .slice (some ⟨bc,0,none⟩) 4 4)]∧Sub hD h'∧LsAt N h' (at1 bc 4) [hp (nextH (at1 b6 2) [e0H 3 2,eH 3 3 2 (at1 bA 1) [30]]),hp (snapH 2),hk 5 3,hp (nextH (at1 b6 2) [e0H 3 2,eH 3 3 2 (at1 bA 1) [30]])]) ?_ ?_
 ·conv=>whnf
  refine Ab rfl q7 rfl rfl ?_
  refine Ab rfl q8 rfl rfl ?_
  refine Ab rfl q7 rfl rfl ?_;conv=>whnf
  refine ABuildSl.cat (N,3) ([hp (nextH (at1 b6 2) [e0H 3 2,eH 3 3 2 (at1 bA 1) [30]]),hp (snapH 2),hk 5 3,hp (nextH (at1 b6 2) [e0H 3 2,eH 3 3 2 (at1 bA 1) [30]])].map DoH.cells) rfl rfl rfl rfl rfl rfl rfl rfl fun bc hc nc sc kc=>?_;conv=>whnf
  have kn:=kn.sub sc
  exact ⟨_,bc,Au ⟨rfl,rfl,rfl,rfl,rfl,rfl,rfl,rfl,rfl,trivial⟩,sc,⟨_,row_calls kc rfl⟩,oks_cons (ok_post (by omega) kn ⟨hN,Nat.lt_succ_self _⟩ ⟨hN,Nat.lt_succ_self _⟩ rfl rfl) (oks_cons (ok_plain (by omega) rfl rfl rfl rfl rfl rfl) (oks_cons (ok_plain (by omega) rfl rfl rfl rfl rfl rfl) (oks_cons (ok_post (by omega) kn ⟨hN,Nat.lt_succ_self _⟩ ⟨hN,Nat.lt_succ_self _⟩ rfl rfl) oks_nil)))⟩
 rintro e hc ⟨e0,bc,rfl,sc,fbc⟩
 have q1:=sc _ _ q1
 have kold:=kold.sub sc
 have slead:=slead.sub sc
 have okl:=okl.sub sc
 have sh5:=sh5.trans sc
 have fa:=fa.sub sc
 have fb:=fb.sub sc
 have kn:=kn.sub sc
 have k2:=sc _ _ k2
 have q7:=sc _ _ q7
 have q9:=sc _ _ q9
 clear sc
 refine AIf.cut (fun e h'=>∃ (e0:Env) (bd:Nat),e=updL 161 e0 [(1,Ptr b1),(2, .slice (some ⟨b5,0,none⟩) 2 2),(3, .func (.func 74) #[] #[]),(4, .slice aa 5 ca),(5, .slice ab 7 cb),(6, .slice (some ⟨b6,0,none⟩) 2 2),(7,Ptr b7),(10, .slice (some ⟨bc,0,none⟩) 4 4),(11, .slice (some ⟨bd,0,none⟩) 4 4)]∧Sub hc h'∧LsAt N h' (at1 bd 4) [hp (nextH (at1 b6 2) [e0H 3 2,eH 3 3 2 (at1 bA 1) [30]]),hp (snapH 3),hk 5 3,hk 4 3]) ?_ ?_
 ·conv=>whnf
  refine Ab rfl q7 rfl rfl ?_
  refine Ab rfl q9 rfl rfl ?_;conv=>whnf
  refine ABuildSl.cat (N,3) ([hp (nextH (at1 b6 2) [e0H 3 2,eH 3 3 2 (at1 bA 1) [30]]),hp (snapH 3),hk 5 3,hk 4 3].map DoH.cells) rfl rfl rfl rfl rfl rfl rfl rfl fun bd hc nc sc kc=>?_;conv=>whnf
  have kn:=kn.sub sc
  exact ⟨_,bd,Au ⟨rfl,rfl,rfl,rfl,rfl,rfl,rfl,rfl,rfl,trivial⟩,sc,⟨_,row_calls kc rfl⟩,oks_cons (ok_post (by omega) kn ⟨hN,Nat.lt_succ_self _⟩ ⟨hN,Nat.lt_succ_self _⟩ rfl rfl) (oks_cons (ok_plain (by omega) rfl rfl rfl rfl rfl rfl) (oks_cons (ok_plain (by omega) rfl rfl rfl rfl rfl rfl) (oks_cons (ok_plain (by omega) rfl rfl rfl rfl rfl rfl) oks_nil)))⟩
 rintro e hdd ⟨e0,bd,rfl,sc,fbd⟩
 have q1:=sc _ _ q1
 have kold:=kold.sub sc
 have slead:=slead.sub sc
 have okl:=okl.sub sc
 have sh5:=sh5.trans sc
 have fa:=fa.sub sc
 have fb:=fb.sub sc
 have kn:=kn.sub sc
 have k2:=sc _ _ k2
 have q7:=sc _ _ q7
 have fbc:=fbc.sub sc
 clear sc
 conv=>whnf
 refine Av ?_;conv=>whnf
 refine Ak (N,9) post0z rfl fun b12 h3 n3 s3 k3=>?_;conv=>whnf
 refine Ae rfl rfl rfl (k3) rfl ((voteH 2 9 4).cells) rfl fun h4 t4 q12 a4 e4=>?_;conv=>whnf
 have sc:=a4 _ s3 n3
 have q1:=sc _ _ q1
 have kold:=kold.sub sc
 have slead:=slead.sub sc
 have okl:=okl.sub sc
 have sh5:=sh5.trans sc
 have fa:=fa.sub sc
 have fb:=fb.sub sc
 have kn:=kn.sub sc
 have k2:=sc _ _ k2
 have fbc:=fbc.sub sc
 have fbd:=fbd.sub sc
 have q7:=sc _ _ q7
 clear sc t4 a4 e4 n3 s3 k3
 refine AIf.cut (fun e h'=>∃ (e0:Env) (be:Nat),e=updL 161 e0 [(1,Ptr b1),(2, .slice (some ⟨b5,0,none⟩) 2 2),(3, .func (.func 74) #[] #[]),(4, .slice aa 5 ca),(5, .slice ab 7 cb),(6, .slice (some ⟨b6,0,none⟩) 2 2),(10, .slice (some ⟨bc,0,none⟩) 4 4),(11, .slice (some ⟨bd,0,none⟩) 4 4),(12,Ptr b12),(13, .slice (some ⟨be,0,none⟩) 5 5)]∧Sub h4 h'∧LsAt N h' (at1 be 5) [⟨1,9,nextH (at1 b6 2) [e0H 3 2,eH 3 3 2 (at1 bA 1) [30]],slv0,[]⟩,hk 6 9,hp (voteH 2 9 4),hk 6 1,hp (voteH 2 9 4)]) ?_ ?_
 ·conv=>whnf
  refine Ab rfl q7 rfl rfl ?_
  refine Ab rfl q12 rfl rfl ?_
  refine Ab rfl q12 rfl rfl ?_;conv=>whnf
  refine ABuildSl.cat (N,3) ([⟨1,9,nextH (at1 b6 2) [e0H 3 2,eH 3 3 2 (at1 bA 1) [30]],slv0,[]⟩,hk 6 9,hp (voteH 2 9 4),hk 6 1,hp (voteH 2 9 4)].map DoH.cells) rfl rfl rfl rfl rfl rfl rfl rfl fun be hc nc sc kc=>?_;conv=>whnf
  have kn:=kn.sub sc
  exact ⟨_,be,Au ⟨rfl,rfl,rfl,rfl,rfl,rfl,rfl,rfl,rfl,rfl,trivial⟩,sc,⟨_,row_calls kc rfl⟩,oks_cons (ok_post (by omega) kn ⟨hN,Nat.lt_succ_self _⟩ ⟨hN,Nat.lt_succ_self _⟩ rfl rfl) (oks_cons (ok_plain (by omega) rfl rfl rfl rfl rfl rfl) (oks_cons (ok_plain (by omega) rfl rfl rfl rfl rfl rfl) (oks_cons (ok_plain (by omega) rfl rfl rfl rfl rfl rfl) (oks_cons (ok_plain (by omega) rfl rfl rfl rfl rfl rfl) oks_nil))))⟩
 rintro e he ⟨e0,be,rfl,sc,fbe⟩
 have q1:=sc _ _ q1
 have kold:=kold.sub sc
 have slead:=slead.sub sc
 have okl:=okl.sub sc
 have sh5:=sh5.trans sc
 have fa:=fa.sub sc
 have fb:=fb.sub sc
 have kn:=kn.sub sc
 have k2:=sc _ _ k2
 have fbc:=fbc.sub sc
 have fbd:=fbd.sub sc
 have q12:=sc _ _ q12
 clear sc
 refine AIf.cut (fun e h'=>∃ (e0:Env) (bf:Nat),e=updL 161 e0 [(1,Ptr b1),(2, .slice (some ⟨b5,0,none⟩) 2 2),(3, .func (.func 74) #[] #[]),(4, .slice aa 5 ca),(5, .slice ab 7 cb),(6, .slice (some ⟨b6,0,none⟩) 2 2),(10, .slice (some ⟨bc,0,none⟩) 4 4),(11, .slice (some ⟨bd,0,none⟩) 4 4),(13, .slice (some ⟨be,0,none⟩) 5 5),(14, .slice (some ⟨bf,0,none⟩) 3 3)]∧Sub he h'∧LsAt N h' (at1 bf 3) [hp (voteH 2 1 1),hp (voteH 2 9 4),hp (voteH 3 9 4)]) ?_ ?_
 ·conv=>whnf
  refine Ab rfl q12 rfl rfl ?_;conv=>whnf
  refine ABuildSl.cat (N,3) ([hp (voteH 2 1 1),hp (voteH 2 9 4),hp (voteH 3 9 4)].map DoH.cells) rfl rfl rfl rfl rfl rfl rfl rfl fun bf hc nc sc kc=>?_;conv=>whnf
  have kn:=kn.sub sc
  exact ⟨_,bf,Au ⟨rfl,rfl,rfl,rfl,rfl,rfl,rfl,rfl,rfl,rfl,trivial⟩,sc,⟨_,row_calls kc rfl⟩,oks_cons (ok_plain (by omega) rfl rfl rfl rfl rfl rfl) (oks_cons (ok_plain (by omega) rfl rfl rfl rfl rfl rfl) (oks_cons (ok_plain (by omega) rfl rfl rfl rfl rfl rfl) oks_nil))⟩
 rintro e hf ⟨e0,bf,rfl,sc,fbf⟩
 have q1:=sc _ _ q1
 have kold:=kold.sub sc
 have slead:=slead.sub sc
 have okl:=okl.sub sc
 have sh5:=sh5.trans sc
 have fa:=fa.sub sc
 have fb:=fb.sub sc
 have kn:=kn.sub sc
 have k2:=sc _ _ k2
 have fbc:=fbc.sub sc
 have fbd:=fbd.sub sc
 have fbe:=fbe.sub sc
 clear sc
 refine AIf.cut (fun e h'=>∃ (e0:Env) (ag:Option Addr) (cg:Nat) (Lg:List DoH),e=updL 161 e0 [(1,Ptr b1),(4, .slice aa 5 ca),(5, .slice ab 7 cb),(6, .slice (some ⟨b6,0,none⟩) 2 2),(10, .slice (some ⟨bc,0,none⟩) 4 4),(11, .slice (some ⟨bd,0,none⟩) 4 4),(13, .slice (some ⟨be,0,none⟩) 5 5),(14, .slice (some ⟨bf,0,none⟩) 3 3),(15, .slice ag 8 cg)]∧Sub hf h'∧LsAt N h' ⟨ag,8,cg⟩ (leadH++Lg)∧Lg.map DoH.m=[toldM 2 true 3,dd 2 2 [30],dd 2 2 [62],toldM 2 true 4,toldM 3 true 4,dd 2 2 [62]]) ?_ ?_
 ·have G:Bs N hf hf []:=⟨Sub.refl _,fun p hp=>by cases hp⟩
  conv=>whnf
  refine Ao (hf) [] (.take 0 (.take 1 (.take 2 (.take 8 (.take 10 (.alt 4 (.take 5 (.alt 6 (.take 7 (.alt 12 (.take 13 (.take 3 (.take 9 (.take 11 (.take 14 (.take 15 (.take 16 (.done)))))))) (.alt 3 (.alt 12 (.take 13 (.take 9 (.take 11 (.take 14 (.take 15 (.take 16 (.done))))))) (.alt 9 (.alt 12 (.take 13 (.take 11 (.take 14 (.take 15 (.take 16 (.done)))))) (.alt 11 (.take 12 (.take 13 (.take 14 (.take 15 (.take 16 (.done)))))) (.stop))) (.stop))) (.stop)))) (.alt 12 (.take 13 (.alt 6 (.take 7 (.take 3 (.take 9 (.take 11 (.take 14 (.take 15 (.take 16 (.done)))))))) (.alt 3 (.alt 6 (.take 7 (.take 9 (.take 11 (.take 14 (.take 15 (.take 16 (.done))))))) (.alt 9 (.alt 6 (.take 7 (.take 11 (.take 14 (.take 15 (.take 16 (.done)))))) (.alt 11 (.take 6 (.take 7 (.take 14 (.take 15 (.take 16 (.done)))))) (.stop))) (.stop))) (.stop)))) (.alt 3 (.alt 6 (.take 7 (.alt 12 (.take 13 (.take 9 (.take 11 (.take 14 (.take 15 (.take 16 (.done))))))) (.alt 9 (.alt 12 (.take 13 (.take 11 (.take 14 (.take 15 (.take 16 (.done)))))) (.alt 11 (.take 12 (.take 13 (.take 14 (.take 15 (.take 16 (.done)))))) (.stop))) (.stop)))) (.alt 12 (.take 13 (.alt 6 (.take 7 (.take 9 (.take 11 (.take 14 (.take 15 (.take 16 (.done))))))) (.alt 9 (.alt 6 (.take 7 (.take 11 (.take 14 (.take 15 (.take 16 (.done)))))) (.alt 11 (.take 6 (.take 7 (.take 14 (.take 15 (.take 16 (.done)))))) (.stop))) (.stop)))) (.alt 9 (.alt 6 (.take 7 (.alt 12 (.take 13 (.take 11 (.take 14 (.take 15 (.take 16 (.done)))))) (.alt 11 (.take 12 (.take 13 (.take 14 (.take 15 (.take 16 (.done)))))) (.stop)))) (.alt 12 (.take 13 (.alt 6 (.take 7 (.take 11 (.take 14 (.take 15 (.take 16 (.done)))))) (.alt 11 (.take 6 (.take 7 (.take 14 (.take 15 (.take 16 (.done)))))) (.stop)))) (.alt 11 (.alt 6 (.take 7 (.take 12 (.take 13 (.take 14 (.take 15 (.take 16 (.done))))))) (.alt 12 (.take 13 (.take 6 (.take 7 (.take 14 (.take 15 (.take 16 (.done))))))) (.stop))) (.stop)))) (.stop)))) (.stop))))) (.alt 6 (.take 7 (.alt 4 (.take 5 (.alt 12 (.take 13 (.take 3 (.take 9 (.take 11 (.take 14 (.take 15 (.take 16 (.done)))))))) (.alt 3 (.alt 12 (.take 13 (.take 9 (.take 11 (.take 14 (.take 15 (.take 16 (.done))))))) (.alt 9 (.alt 12 (.take 13 (.take 11 (.take 14 (.take 15 (.take 16 (.done)))))) (.alt 11 (.take 12 (.take 13 (.take 14 (.take 15 (.take 16 (.done)))))) (.stop))) (.stop))) (.stop)))) (.alt 12 (.take 13 (.alt 4 (.take 5 (.take 3 (.take 9 (.take 11 (.take 14 (.take 15 (.take 16 (.done)))))))) (.alt 3 (.alt 4 (.take 5 (.take 9 (.take 11 (.take 14 (.take 15 (.take 16 (.done))))))) (.alt 9 (.alt 4 (.take 5 (.take 11 (.take 14 (.take 15 (.take 16 (.done)))))) (.alt 11 (.take 4 (.take 5 (.take 14 (.take 15 (.take 16 (.done)))))) (.stop))) (.stop))) (.stop)))) (.alt 3 (.alt 4 (.take 5 (.alt 12 (.take 13 (.take 9 (.take 11 (.take 14 (.take 15 (.take 16 (.done))))))) (.alt 9 (.alt 12 (.take 13 (.take 11 (.take 14 (.take 15 (.take 16 (.done)))))) (.alt 11 (.take 12 (.take 13 (.take 14 (.take 15 (.take 16 (.done)))))) (.stop))) (.stop)))) (.alt 12 (.take 13 (.alt 4 (.take 5 (.take 9 (.take 11 (.take 14 (.take 15 (.take 16 (.done))))))) (.alt 9 (.alt 4 (.take 5 (.take 11 (.take 14 (.take 15 (.take 16 (.done)))))) (.alt 11 (.take 4 (.take 5 (.take 14 (.take 15 (.take 16 (.done)))))) (.stop))) (.stop)))) (.alt 9 (.alt 4 (.take 5 (.alt 12 (.take 13 (.take 11 (.take 14 (.take 15 (.take 16 (.done)))))) (.alt 11 (.take 12 (.take 13 (.take 14 (.take 15 (.take 16 (.done)))))) (.stop)))) (.alt 12 (.take 13 (.alt 4 (.take 5 (.take 11 (.take 14 (.take 15 (.take 16 (.done)))))) (.alt 11 (.take 4 (.take 5 (.take 14 (.take 15 (.take 16 (.done)))))) (.stop)))) (.alt 11 (.alt 4 (.take 5 (.take 12 (.take 13 (.take 14 (.take 15 (.take 16 (.done))))))) (.alt 12 (.take 13 (.take 4 (.take 5 (.take 14 (.take 15 (.take 16 (.done))))))) (.stop))) (.stop)))) (.stop)))) (.stop))))) (.alt 12 (.take 13 (.alt 4 (.take 5 (.alt 6 (.take 7 (.take 3 (.take 9 (.take 11 (.take 14 (.take 15 (.take 16 (.done)))))))) (.alt 3 (.alt 6 (.take 7 (.take 9 (.take 11 (.take 14 (.take 15 (.take 16 (.done))))))) (.alt 9 (.alt 6 (.take 7 (.take 11 (.take 14 (.take 15 (.take 16 (.done)))))) (.alt 11 (.take 6 (.take 7 (.take 14 (.take 15 (.take 16 (.done)))))) (.stop))) (.stop))) (.stop)))) (.alt 6 (.take 7 (.alt 4 (.take 5 (.take 3 (.take 9 (.take 11 (.take 14 (.take 15 (.take 16 (.done)))))))) (.alt 3 (.alt 4 (.take 5 (.take 9 (.take 11 (.take 14 (.take 15 (.take 16 (.done))))))) (.alt 9 (.alt 4 (.take 5 (.take 11 (.take 14 (.take 15 (.take 16 (.done)))))) (.alt 11 (.take 4 (.take 5 (.take 14 (.take 15 (.take 16 (.done)))))) (.stop))) (.stop))) (.stop)))) (.alt 3 (.alt 4 (.take 5 (.alt 6 (.take 7 (.take 9 (.take 11 (.take 14 (.take 15 (.take 16 (.done))))))) (.alt 9 (.alt 6 (.take 7 (.take 11 (.take 14 (.take 15 (.take 16 (.done)))))) (.alt 11 (.take 6 (.take 7 (.take 14 (.take 15 (.take 16 (.done)))))) (.stop))) (.stop)))) (.alt 6 (.take 7 (.alt 4 (.take 5 (.take 9 (.take 11 (.take 14 (.take 15 (.take 16 (.done))))))) (.alt 9 (.alt 4 (.take 5 (.take 11 (.take 14 (.take 15 (.take 16 (.done)))))) (.alt 11 (.take 4 (.take 5 (.take 14 (.take 15 (.take 16 (.done)))))) (.stop))) (.stop)))) (.alt 9 (.alt 4 (.take 5 (.alt 6 (.take 7 (.take 11 (.take 14 (.take 15 (.take 16 (.done)))))) (.alt 11 (.take 6 (.take 7 (.take 14 (.take 15 (.take 16 (.done)))))) (.stop)))) (.alt 6 (.take 7 (.alt 4 (.take 5 (.take 11 (.take 14 (.take 15 (.take 16 (.done)))))) (.alt 11 (.take 4 (.take 5 (.take 14 (.take 15 (.take 16 (.done)))))) (.stop)))) (.alt 11 (.alt 4 (.take 5 (.take 6 (.take 7 (.take 14 (.take 15 (.take 16 (.done))))))) (.alt 6 (.take 7 (.take 4 (.take 5 (.take 14 (.take 15 (.take 16 (.done))))))) (.stop))) (.stop)))) (.stop)))) (.stop))))) (.alt 3 (.alt 4 (.take 5 (.alt 6 (.take 7 (.alt 12 (.take 13 (.take 9 (.take 11 (.take 14 (.take 15 (.take 16 (.done))))))) (.alt 9 (.alt 12 (.take 13 (.take 11 (.take 14 (.take 15 (.take 16 (.done)))))) (.alt 11 (.take 12 (.take 13 (.take 14 (.take 15 (.take 16 (.done)))))) (.stop))) (.stop)))) (.alt 12 (.take 13 (.alt 6 (.take 7 (.take 9 (.take 11 (.take 14 (.take 15 (.take 16 (.done))))))) (.alt 9 (.alt 6 (.take 7 (.take 11 (.take 14 (.take 15 (.take 16 (.done)))))) (.alt 11 (.take 6 (.take 7 (.take 14 (.take 15 (.take 16 (.done)))))) (.stop))) (.stop)))) (.alt 9 (.alt 6 (.take 7 (.alt 12 (.take 13 (.take 11 (.take 14 (.take 15 (.take 16 (.done)))))) (.alt 11 (.take 12 (.take 13 (.take 14 (.take 15 (.take 16 (.done)))))) (.stop)))) (.alt 12 (.take 13 (.alt 6 (.take 7 (.take 11 (.take 14 (.take 15 (.take 16 (.done)))))) (.alt 11 (.take 6 (.take 7 (.take 14 (.take 15 (.take 16 (.done)))))) (.stop)))) (.alt 11 (.alt 6 (.take 7 (.take 12 (.take 13 (.take 14 (.take 15 (.take 16 (.done))))))) (.alt 12 (.take 13 (.take 6 (.take 7 (.take 14 (.take 15 (.take 16 (.done))))))) (.stop))) (.stop)))) (.stop))))) (.alt 6 (.take 7 (.alt 4 (.take 5 (.alt 12 (.take 13 (.take 9 (.take 11 (.take 14 (.take 15 (.take 16 (.done))))))) (.alt 9 (.alt 12 (.take 13 (.take 11 (.take 14 (.take 15 (.take 16 (.done)))))) (.alt 11 (.take 12 (.take 13 (.take 14 (.take 15 (.take 16 (.done)))))) (.stop))) (.stop)))) (.alt 12 (.take 13 (.alt 4 (.take 5 (.take 9 (.take 11 (.take 14 (.take 15 (.take 16 (.done))))))) (.alt 9 (.alt 4 (.take 5 (.take 11 (.take 14 (.take 15 (.take 16 (.done)))))) (.alt 11 (.take 4 (.take 5 (.take 14 (.take 15 (.take 16 (.done)))))) (.stop))) (.stop)))) (.alt 9 (.alt 4 (.take 5 (.alt 12 (.take 13 (.take 11 (.take 14 (.take 15 (.take 16 (.done)))))) (.alt 11 (.take 12 (.take 13 (.take 14 (.take 15 (.take 16 (.done)))))) (.stop)))) (.alt 12 (.take 13 (.alt 4 (.take 5 (.take 11 (.take 14 (.take 15 (.take 16 (.done)))))) (.alt 11 (.take 4 (.take 5 (.take 14 (.take 15 (.take 16 (.done)))))) (.stop)))) (.alt 11 (.alt 4 (.take 5 (.take 12 (.take 13 (.take 14 (.take 15 (.take 16 (.done))))))) (.alt 12 (.take 13 (.take 4 (.take 5 (.take 14 (.take 15 (.take 16 (.done))))))) (.stop))) (.stop)))) (.stop))))) (.alt 12 (.take 13 (.alt 4 (.take 5 (.alt 6 (.take 7 (.take 9 (.take 11 (.take 14 (.take 15 (.take 16 (.done))))))) (.alt 9 (.alt 6 (.take 7 (.take 11 (.take 14 (.take 15 (.take 16 (.done)))))) (.alt 11 (.take 6 (.take 7 (.take 14 (.take 15 (.take 16 (.done)))))) (.stop))) (.stop)))) (.alt 6 (.take 7 (.alt 4 (.take 5 (.take 9 (.take 11 (.take 14 (.take 15 (.take 16 (.done))))))) (.alt 9 (.alt 4 (.take 5 (.take 11 (.take 14 (.take 15 (.take 16 (.done)))))) (.alt 11 (.take 4 (.take 5 (.take 14 (.take 15 (.take 16 (.done)))))) (.stop))) (.stop)))) (.alt 9 (.alt 4 (.take 5 (.alt 6 (.take 7 (.take 11 (.take 14 (.take 15 (.take 16 (.done)))))) (.alt 11 (.take 6 (.take 7 (.take 14 (.take 15 (.take 16 (.done)))))) (.stop)))) (.alt 6 (.take 7 (.alt 4 (.take 5 (.take 11 (.take 14 (.take 15 (.take 16 (.done)))))) (.alt 11 (.take 4 (.take 5 (.take 14 (.take 15 (.take 16 (.done)))))) (.stop)))) (.alt 11 (.alt 4 (.take 5 (.take 6 (.take 7 (.take 14 (.take 15 (.take 16 (.done))))))) (.alt 6 (.take 7 (.take 4 (.take 5 (.take 14 (.take 15 (.take 16 (.done))))))) (.stop))) (.stop)))) (.stop))))) (.alt 9 (.alt 4 (.take 5 (.alt 6 (.take 7 (.alt 12 (.take 13 (.take 11 (.take 14 (.take 15 (.take 16 (.done)))))) (.alt 11 (.take 12 (.take 13 (.take 14 (.take 15 (.take 16 (.done)))))) (.stop)))) (.alt 12 (.take 13 (.alt 6 (.take 7 (.take 11 (.take 14 (.take 15 (.take 16 (.done)))))) (.alt 11 (.take 6 (.take 7 (.take 14 (.take 15 (.take 16 (.done)))))) (.stop)))) (.alt 11 (.alt 6 (.take 7 (.take 12 (.take 13 (.take 14 (.take 15 (.take 16 (.done))))))) (.alt 12 (.take 13 (.take 6 (.take 7 (.take 14 (.take 15 (.take 16 (.done))))))) (.stop))) (.stop))))) (.alt 6 (.take 7 (.alt 4 (.take 5 (.alt 12 (.take 13 (.take 11 (.take 14 (.take 15 (.take 16 (.done)))))) (.alt 11 (.take 12 (.take 13 (.take 14 (.take 15 (.take 16 (.done)))))) (.stop)))) (.alt 12 (.take 13 (.alt 4 (.take 5 (.take 11 (.take 14 (.take 15 (.take 16 (.done)))))) (.alt 11 (.take 4 (.take 5 (.take 14 (.take 15 (.take 16 (.done)))))) (.stop)))) (.alt 11 (.alt 4 (.take 5 (.take 12 (.take 13 (.take 14 (.take 15 (.take 16 (.done))))))) (.alt 12 (.take 13 (.take 4 (.take 5 (.take 14 (.take 15 (.take 16 (.done))))))) (.stop))) (.stop))))) (.alt 12 (.take 13 (.alt 4 (.take 5 (.alt 6 (.take 7 (.take 11 (.take 14 (.take 15 (.take 16 (.done)))))) (.alt 11 (.take 6 (.take 7 (.take 14 (.take 15 (.take 16 (.done)))))) (.stop)))) (.alt 6 (.take 7 (.alt 4 (.take 5 (.take 11 (.take 14 (.take 15 (.take 16 (.done)))))) (.alt 11 (.take 4 (.take 5 (.take 14 (.take 15 (.take 16 (.done)))))) (.stop)))) (.alt 11 (.alt 4 (.take 5 (.take 6 (.take 7 (.take 14 (.take 15 (.take 16 (.done))))))) (.alt 6 (.take 7 (.take 4 (.take 5 (.take 14 (.take 15 (.take 16 (.done))))))) (.stop))) (.stop))))) (.alt 11 (.alt 4 (.take 5 (.alt 6 (.take 7 (.take 12 (.take 13 (.take 14 (.take 15 (.take 16 (.done))))))) (.alt 12 (.take 13 (.take 6 (.take 7 (.take 14 (.take 15 (.take 16 (.done))))))) (.stop)))) (.alt 6 (.take 7 (.alt 4 (.take 5 (.take 12 (.take 13 (.take 14 (.take 15 (.take 16 (.done))))))) (.alt 12 (.take 13 (.take 4 (.take 5 (.take 14 (.take 15 (.take 16 (.done))))))) (.stop)))) (.alt 12 (.take 13 (.alt 4 (.take 5 (.take 6 (.take 7 (.take 14 (.take 15 (.take 16 (.done))))))) (.alt 6 (.take 7 (.take 4 (.take 5 (.take 14 (.take 15 (.take 16 (.done))))))) (.stop)))) (.stop)))) (.stop))))) (.stop))))) (.stop)))))))))) (Sub.refl _) (by decide +kernel) ?_;conv=>whnf
  refine ASlc.upto3 (m:=2) (x:=2) rfl rfl (by omega) (by omega) rfl rfl ?_;conv=>whnf
  repeat' (first
   | (refine ACalls.mono (told_one _ _ _ _) ?_;rintro _ _ ⟨rfl,rfl⟩;(conv=>whnf);refine ⟨G.s,?_⟩;conv=>whnf)
   | (refine Ap (n:=1) (N,1) [.int .u8 _] rfl rfl rfl rfl rfl rfl rfl fun bx hx nx sx kx=>?_;(conv=>whnf);have G:=G.push sx kx;refine ⟨G.s,?_⟩;conv=>whnf)
   | (refine And.intro ?_ ?_ <;> conv=>whnf)
   |exact trivial)
  all_goals (
   refine ABuildSl.cat (N,3) ([toldH 2 true 3,hd 2 2 (at1 _ 1) [30],hd 2 2 (at1 _ 1) [62],toldH 2 true 4,toldH 3 true 4,hd 2 2 (at1 _ 1) [62]].map DoH.cells) rfl rfl rfl rfl rfl rfl rfl rfl fun b6 h8 n6 s6 k6=>?_;conv=>whnf
   have sG:=G.s.trans s6
   refine ⟨sG,?_⟩;conv=>whnf
   refine AAppend.over (N,4) (t:=(N,2)) (E:=52) (z:=17) (by_:=184) (zero:=(hk 0 0).cells) (tx:=(N,3)) rfl ⟨_,rfl⟩ rfl rfl rfl rfl (by omega) (slead.sub sG) (row_calls k6 rfl) (by omega) (by omega) (by omega) fun ag cg h9 oa s7=>?_
   conv=>whnf
   have s9:=sG.trans s7
   have sx:=s6.trans s7
   refine ⟨s9,?_⟩;conv=>whnf
   exact ⟨_,ag,cg,_,Au ⟨rfl,rfl,rfl,rfl,rfl,rfl,rfl,rfl,rfl,trivial⟩,s9,⟨⟨_,own_calls oa⟩,oks_app (okl.sub s9) (oks_cons (ok_plain (by omega) rfl rfl rfl rfl rfl rfl) (oks_cons (ok_data (by omega) ((G.b (_,30) (by simp)).sub sx) hN (Nat.lt_succ_self _)) (oks_cons (ok_data (by omega) ((G.b (_,62) (by simp)).sub sx) hN (Nat.lt_succ_self _)) (oks_cons (ok_plain (by omega) rfl rfl rfl rfl rfl rfl) (oks_cons (ok_plain (by omega) rfl rfl rfl rfl rfl rfl) (oks_cons (ok_data (by omega) ((G.b (_,62) (by simp)).sub sx) hN (Nat.lt_succ_self _)) oks_nil))))))⟩,rfl⟩)
 rintro e hg ⟨e0,ag,cg,Lg,rfl,sc,fg,mg⟩
 have q1:=sc _ _ q1
 have kold:=kold.sub sc
 have slead:=slead.sub sc
 have okl:=okl.sub sc
 have sh5:=sh5.trans sc
 have fa:=fa.sub sc
 have fb:=fb.sub sc
 have kn:=kn.sub sc
 have k2:=sc _ _ k2
 have fbc:=fbc.sub sc
 have fbd:=fbd.sub sc
 have fbe:=fbe.sub sc
 have fbf:=fbf.sub sc
 clear sc
 conv=>whnf
 repeat (refine Av ?_;conv=>whnf)
 refine Ap (N,5) (encs [e0H 1 3]) rfl rfl rfl rfl rfl rfl rfl fun bt ht nt st kt=>?_;conv=>whnf
 refine Ak (N,9) post0z rfl fun b16 h3 n3 s3 k3=>?_;conv=>whnf
 refine Ae rfl rfl rfl (k3) rfl ((threeH (at1 bt 1) []).cells) rfl fun h4 t4 q16 a4 e4=>?_;conv=>whnf
 have s4:=a4 _ s3 n3
 repeat (refine Av ?_;conv=>whnf)
 refine ASlc.upto (m:=1) rfl (by omega) rfl rfl ?_;conv=>whnf
 refine Ak (N,9) post0z rfl fun b17 hA nA sA kA=>?_;conv=>whnf
 refine Ae rfl rfl rfl (kA) rfl ((nextH ⟨some ⟨b6,0,none⟩,1,2⟩ []).cells) rfl fun hB tB q17 aB eB=>?_;conv=>whnf
 have sB:=aB _ sA nA
 have sc:=st.trans (s4.trans sB)
 have q16:=sB _ _ q16
 have kt:=sB _ _ (s4 _ _ kt)
 have q1:=sc _ _ q1
 have kold:=kold.sub sc
 have slead:=slead.sub sc
 have okl:=okl.sub sc
 have sh5:=sh5.trans sc
 have fa:=fa.sub sc
 have fb:=fb.sub sc
 have kn:=kn.sub sc
 have k2:=sc _ _ k2
 have fbc:=fbc.sub sc
 have fbd:=fbd.sub sc
 have fbe:=fbe.sub sc
 have fbf:=fbf.sub sc
 have fg:=fg.sub sc
 have k3e:Ents hB (N,5) (N,1) (some ⟨bt,0,none⟩) 1 1 [e0H 1 3]:=ents_of (row_at kt rfl) (good_cons (e0_good _ _ _ _) good_nil)
 have kle:Ents hB (N,5) (N,1) (some ⟨b6,0,none⟩) 1 2 [e0H 3 2]:=ents_of ⟨rfl,by omega, .inr ⟨b6,0,_,_,_,rfl,k2,rfl⟩⟩ (good_cons (e0_good _ _ _ _) good_nil)
 clear sc t4 tB a4 aB e4 eB n3 nA s3 sA k3 kA nt st s4 sB kt
 refine AIf.cut (fun e h'=>∃ (e0:Env) (bh:Nat),e=updL 161 e0 [(1,Ptr b1),(4, .slice aa 5 ca),(5, .slice ab 7 cb),(10, .slice (some ⟨bc,0,none⟩) 4 4),(11, .slice (some ⟨bd,0,none⟩) 4 4),(13, .slice (some ⟨be,0,none⟩) 5 5),(14, .slice (some ⟨bf,0,none⟩) 3 3),(15, .slice ag 8 cg),(18, .slice (some ⟨bh,0,none⟩) 5 5)]∧Sub hB h'∧LsAt N h' (at1 bh 5) [hp (threeH (at1 bt 1) [e0H 1 3]),hp (nextH ⟨some ⟨b6,0,none⟩,1,2⟩ [e0H 3 2]),hk 4 3,hk 5 3,hk 4 2]) ?_ ?_
 ·conv=>whnf
  refine Ab rfl q16 rfl rfl ?_
  refine Ab rfl q17 rfl rfl ?_;conv=>whnf
  refine ABuildSl.cat (N,3) ([hp (threeH (at1 bt 1) [e0H 1 3]),hp (nextH ⟨some ⟨b6,0,none⟩,1,2⟩ [e0H 3 2]),hk 4 3,hk 5 3,hk 4 2].map DoH.cells) rfl rfl rfl rfl rfl rfl rfl rfl fun bh hc nc sc kc=>?_;conv=>whnf
  have kn:=kn.sub sc
  exact ⟨_,bh,Au ⟨rfl,rfl,rfl,rfl,rfl,rfl,rfl,rfl,rfl,trivial⟩,sc,⟨_,row_calls kc rfl⟩,oks_cons (ok_post (by omega) (k3e.sub sc) ⟨hN,Nat.lt_succ_self _⟩ ⟨hN,Nat.lt_succ_self _⟩ rfl rfl) (oks_cons (ok_post (by omega) (kle.sub sc) ⟨hN,Nat.lt_succ_self _⟩ ⟨hN,Nat.lt_succ_self _⟩ rfl rfl) (oks_cons (ok_plain (by omega) rfl rfl rfl rfl rfl rfl) (oks_cons (ok_plain (by omega) rfl rfl rfl rfl rfl rfl) (oks_cons (ok_plain (by omega) rfl rfl rfl rfl rfl rfl) oks_nil))))⟩
 rintro e hh ⟨e0,bh,rfl,sc,fbh⟩
 have q1:=sc _ _ q1
 have kold:=kold.sub sc
 have slead:=slead.sub sc
 have okl:=okl.sub sc
 have sh5:=sh5.trans sc
 have fa:=fa.sub sc
 have fb:=fb.sub sc
 have kn:=kn.sub sc
 have k2:=sc _ _ k2
 have fbc:=fbc.sub sc
 have fbd:=fbd.sub sc
 have fbe:=fbe.sub sc
 have fbf:=fbf.sub sc
 have fg:=fg.sub sc
 clear sc
 conv=>whnf
 repeat (refine Av ?_;conv=>whnf)
 refine Ak (N,9) zeroH.cells rfl fun b19 h3 n3 s3 k3=>?_;conv=>whnf
 refine Ae rfl rfl rfl (k3) rfl (mostH.cells) rfl fun h4 t4 q19 a4 e4=>?_;conv=>whnf
 have s4:=a4 _ s3 n3
 repeat (refine Av ?_;conv=>whnf)
 refine Ab rfl q19 rfl rfl ?_;conv=>whnf
 refine ABuildSl.cat (N,3) ([hk 6 24,hk 2 1,hk 3 0,hk 0 0].map DoH.cells) rfl rfl rfl rfl rfl rfl rfl rfl fun bm hm nm sm km=>?_;conv=>whnf
 have kmost:mostH.Ok (N+1) hm:=⟨(N,1),(N,1),(N,1),⟨ents_of (Sl.nil _ _ _ _ _) good_nil,sl_zero _ _⟩,⟨hN,Nat.lt_succ_self _⟩,⟨hN,Nat.lt_succ_self _⟩,hN,Nat.lt_succ_self _⟩
 refine ACalls.mono (plays_any (N:=N+1) (by omega) mostH kmost [hk 6 24,hk 2 1,hk 3 0,hk 0 0] (row_calls km rfl) hN (Nat.lt_succ_self _) (oks_cons (ok_plain (by omega) rfl rfl rfl rfl rfl rfl) (oks_cons (ok_plain (by omega) rfl rfl rfl rfl rfl rfl) (oks_cons (ok_plain (by omega) rfl rfl rfl rfl rfl rfl) (oks_cons (ok_plain (by omega) rfl rfl rfl rfl rfl rfl) oks_nil)))) (by omega) runs3) ?_
 rintro _ hz ⟨rfl,mk⟩
 conv=>whnf
 repeat (refine Av ?_;conv=>whnf)
 have s4:=s4.trans sm
 have mz:Mids (N+1) hh hz:=fun b t x m e=>mk _ _ _ m (s4 _ _ e)
 have q1:hz b1=some (row (N,9) (oldH (at1 b2 2) [eH 1 1 1 (at1 bA0 1) [97],e0H 1 2]).cells 83):=mz _ (N,9) _ (Nat.lt_succ_self _) q1
 have kold:=kold.move fun b t y _ q e=>mz _ _ _ q e
 have fa:=fa.mids hN mz
 have fb:=fb.mids hN mz
 have fbc:=fbc.mids hN mz
 have fbd:=fbd.mids hN mz
 have fbe:=fbe.mids hN mz
 have fbf:=fbf.mids hN mz
 have fg:=fg.mids hN mz
 have fbh:=fbh.mids hN mz
 have m0:Mids N h hz:=fun b t x m e=>mz _ _ _ (by omega) (sh5 _ _ e)
 clear mk mz km kmost sm nm s4 t4 a4 e4 n3 s3 k3 q19 slead okl kn k2 sh5
 refine Ap (N,6) [.slice aa 5 ca, .slice ab 7 cb, .slice (some ⟨bc,0,none⟩) 4 4, .slice (some ⟨bd,0,none⟩) 4 4, .slice (some ⟨be,0,none⟩) 5 5, .slice (some ⟨bf,0,none⟩) 3 3, .slice ag 8 cg, .slice (some ⟨bh,0,none⟩) 5 5] rfl rfl rfl rfl rfl rfl rfl fun b20 hy ny sy ky=>?_;conv=>whnf
 obtain ⟨ls,hls⟩:∃ ls:List (SlV×List DoH),ls=[(⟨aa,5,ca⟩,leadH++[toldH 2 true 2,toldH 3 true 1,toldH 2 true 3]),(⟨ab,7,cb⟩,leadH++[toldH 3 false 0,toldH 3 false 0,toldH 2 true 99,hk 2 1,toldH 2 false 9]),(at1 bc 4,[hp (nextH (at1 b6 2) [e0H 3 2,eH 3 3 2 (at1 bA 1) [30]]),hp (snapH 2),hk 5 3,hp (nextH (at1 b6 2) [e0H 3 2,eH 3 3 2 (at1 bA 1) [30]])]),(at1 bd 4,[hp (nextH (at1 b6 2) [e0H 3 2,eH 3 3 2 (at1 bA 1) [30]]),hp (snapH 3),hk 5 3,hk 4 3]),(at1 be 5,[⟨1,9,nextH (at1 b6 2) [e0H 3 2,eH 3 3 2 (at1 bA 1) [30]],slv0,[]⟩,hk 6 9,hp (voteH 2 9 4),hk 6 1,hp (voteH 2 9 4)]),(at1 bf 3,[hp (voteH 2 1 1),hp (voteH 2 9 4),hp (voteH 3 9 4)]),(⟨ag,8,cg⟩,leadH++Lg),(at1 bh 5,[hp (threeH (at1 bt 1) [e0H 1 3]),hp (nextH ⟨some ⟨b6,0,none⟩,1,2⟩ [e0H 3 2]),hk 4 3,hk 5 3,hk 4 2])]:=⟨_,rfl⟩
 have hall:∀ q∈ls,LsAt N hy q.1 q.2∧q.1.n≤8:=by
  intro q hq
  rw [hls] at hq
  rcases List.mem_cons.1 hq with rfl | hq
  ·exact ⟨fa.sub sy,Nat.le_of_ble_eq_true rfl⟩
  rcases List.mem_cons.1 hq with rfl | hq
  ·exact ⟨fb.sub sy,Nat.le_of_ble_eq_true rfl⟩
  rcases List.mem_cons.1 hq with rfl | hq
  ·exact ⟨fbc.sub sy,Nat.le_of_ble_eq_true rfl⟩
  rcases List.mem_cons.1 hq with rfl | hq
  ·exact ⟨fbd.sub sy,Nat.le_of_ble_eq_true rfl⟩
  rcases List.mem_cons.1 hq with rfl | hq
  ·exact ⟨fbe.sub sy,Nat.le_of_ble_eq_true rfl⟩
  rcases List.mem_cons.1 hq with rfl | hq
  ·exact ⟨fbf.sub sy,Nat.le_of_ble_eq_true rfl⟩
  rcases List.mem_cons.1 hq with rfl | hq
  ·exact ⟨fg.sub sy,Nat.le_of_ble_eq_true rfl⟩
  rcases List.mem_cons.1 hq with rfl | hq
  ·exact ⟨fbh.sub sy,Nat.le_of_ble_eq_true rfl⟩
  cases hq
 have ee:(leadH++Lg).map DoH.m=leadM++[toldM 2 true 3,dd 2 2 [30],dd 2 2 [62],toldM 2 true 4,toldM 3 true 4,dd 2 2 [62]]:=by rw [List.map_append,mg];rfl
 have hruns:∀ q∈ls,oldM.runs (q.2.map DoH.m)=true:=fun q hq=>List.all_eq_true.1 runs2 _ (by
  have:ls.map (fun q=>q.2.map DoH.m)=playsM:=by
   rw [hls]
   show [_,_,_,_,_,_,(leadH++Lg).map DoH.m,_]=playsM
   rw [ee];rfl
  rw [← this];exact List.mem_map.2 ⟨q,hq,rfl⟩)
 have hlen:ls.length=8:=by rw [hls];rfl
 have ky:hy b20=some (row (N,6) (ls.map fun q=>q.1.v) 85):=by rw [hls];exact ky
 have q1:=sy _ _ q1
 have kold:=kold.sub sy
 have m0:Mids N h hy:=fun b t x m e=>sy _ _ (m0 _ _ _ m e)
 clear hls ee mg sy ny
 repeat (refine Av ?_;conv=>whnf)
 refine ALoop.mk (fun e h'=>∃ (e0:Env) (i:Nat),e=updL 161 e0 [(1,Ptr b1),(20, .slice (some ⟨b20,0,none⟩) 8 8),(21,I i)]∧i≤8∧Mids (N+1) hy h') (fun e=>8-natOf (e 21)) ⟨_,0,Au ⟨rfl,rfl,rfl,trivial⟩,by omega,Mids.refl _ _⟩ ?_
 rintro e h3 ⟨e1,i,rfl,hi,m3⟩
 conv=>whnf
 repeat (refine Av ?_;conv=>whnf)
 by_cases c:i<8
 ·refine Ac ((by omega)) ?_;conv=>whnf
  obtain ⟨q,hq⟩:∃ q,ls[i]? = some q:=⟨ls[i]'(by omega),by simp⟩
  have hqm:=List.mem_of_getElem? hq
  obtain ⟨hq1,hq2⟩:=hall q hqm
  obtain ⟨⟨r,sq⟩,oq⟩:=hq1.mids hN m3
  repeat (refine Av ?_;conv=>whnf)
  refine Am (h3) [5] (Sub.refl _) (by decide +kernel) ?_;conv=>whnf
  refine Ab rfl (m3 _ (N,9) _ (Nat.lt_succ_self _) q1) rfl rfl ?_;conv=>whnf
  refine Ai (n:=8) (z:=1) (j:=i) rfl c rfl rfl ?_;conv=>whnf
  refine Aa (v:=q.1.v) rfl (m3 _ (N,6) _ (Nat.lt_succ_self _) ky) (by rw [show 0+i*1=i by omega,List.getElem?_map,hq];rfl) ?_;conv=>whnf
  refine ACalls.mono (plays_any (N:=N+1) (by omega) (oldH (at1 b2 2) [eH 1 1 1 (at1 bA0 1) [97],e0H 1 2]) (kold.move fun b t y _ q e=>m3 _ _ _ q e) q.2 sq hN (Nat.lt_succ_self _) oq (by omega) (hruns q hqm)) ?_
  rintro _ h5 ⟨rfl,m5⟩
  conv=>whnf
  repeat (refine Av ?_;conv=>whnf)
  refine Ag (by omega) (by omega) ((by omega:(i:Int)+1=((i+1:Nat):Int))) ?_;conv=>whnf
  refine ⟨⟨_,i+1,Au ⟨rfl,rfl,rfl,trivial⟩,by omega,m3.trans m5⟩,?_⟩
  show 8-(i+1)<8-i
  omega
 ·refine Ad ((by omega)) ?_;conv=>whnf
  repeat (refine Av ?_;conv=>whnf)
  exact ⟨rfl,fun b t x m e=>m3 _ _ _ (by omega) (m0 _ _ _ m e)⟩
section
def coreZ:List Value:=[I 0,I 0,I 0,I 0,I 0,I 0,I 0, .slice none 0 0, .pointer none,I 0,I 0,I 0,I 0,I 0,I 0,I 0,I 0,I 0,I 0,I 0,I 0,I 0,I 0,I 0,I 0,I 0,I 0,I 0,I 0,I 0,I 0,I 0,I 0,I 0,I 0, .slice none 0 0,
  .bool false,I 0,I 0,I 0,I 0,I 0, .slice none 0 0,I 0, .slice none 0 0, .slice none 0 0,I 0, .slice none 0 0]
def NoneAt (h:Heap) (v:Value):Prop:=v = .pointer none∨∃ p t,v=Ptr p∧h p=some (row t coreZ 81)
theorem NoneAt.sub {h h':Heap} {v:Value} (k:NoneAt h v) (s:Sub h h'):NoneAt h' v:=k.imp id fun ⟨p,t,e,k⟩=>⟨p,t,e,s _ _ k⟩
variable {h:Heap} {v:Value}
theorem noCore_any (nn:NoneAt h v):ACalls PR 46 #[v] h (fun r h'=>r = .bool true∧h=h'):=by
 rcases nn with rfl | ⟨p,t,rfl,k⟩
 ·refine Ar (As mix Tryz.func46 rfl rfl Tryz.ntmps46 Tryz.results46 rfl ?_);conv=>whnf
  exact ⟨rfl,Sub.refl _⟩
 ·refine Ar (As mix Tryz.func46 rfl rfl Tryz.ntmps46 Tryz.results46 rfl ?_);conv=>whnf
  refine Aa rfl k rfl ?_;conv=>whnf
  exact ⟨rfl,Sub.refl _⟩
theorem nums_zero (nn:NoneAt h v) (f:FuncId) (hf:f=18∨f=17∨f=14∨f=29∨f=23) :
  ACalls PR f #[v] h (fun r h'=>r=I 0∧h=h'):=by
 have nn0:=nn
 rcases hf with rfl | rfl | rfl | rfl | rfl
 ·rcases nn with rfl | ⟨p,t,rfl,k⟩
  all_goals (
   refine Ar (As mix Tryz.func18 rfl rfl Tryz.ntmps18 Tryz.results18 rfl ?_);conv=>whnf
   refine C2 (noCore_any nn0) ?_;conv=>whnf
   exact ⟨rfl,Sub.refl _⟩)
 ·rcases nn with rfl | ⟨p,t,rfl,k⟩
  all_goals (
   refine Ar (As mix Tryz.func17 rfl rfl Tryz.ntmps17 Tryz.results17 rfl ?_);conv=>whnf
   refine C2 (noCore_any nn0) ?_;conv=>whnf
   exact ⟨rfl,Sub.refl _⟩)
 ·rcases nn with rfl | ⟨p,t,rfl,k⟩
  all_goals (
   refine Ar (As mix Tryz.func14 rfl rfl Tryz.ntmps14 Tryz.results14 rfl ?_);conv=>whnf
   refine C2 (noCore_any nn0) ?_;conv=>whnf
   exact ⟨rfl,Sub.refl _⟩)
 ·rcases nn with rfl | ⟨p,t,rfl,k⟩
  all_goals (
   refine Ar (As mix Tryz.func29 rfl rfl Tryz.ntmps29 Tryz.results29 rfl ?_);conv=>whnf
   refine C2 (noCore_any nn0) ?_;conv=>whnf
   exact ⟨rfl,Sub.refl _⟩)
 ·rcases nn with rfl | ⟨p,t,rfl,k⟩
  all_goals (
   refine Ar (As mix Tryz.func23 rfl rfl Tryz.ntmps23 Tryz.results23 rfl ?_);conv=>whnf
   refine C2 (noCore_any nn0) ?_;conv=>whnf
   exact ⟨rfl,Sub.refl _⟩)
theorem tick_zero (nn:NoneAt h v) (d:Int):ACalls PR 24 #[v,I d] h (fun r h'=>r = .tuple #[.agg (outCells out0 ox0).toArray,I 1]∧Sub h h'):=by
 have nn0:=nn
 rcases nn with rfl | ⟨p,t,rfl,k⟩
 all_goals (
  refine As mix Tryz.func24 rfl rfl Tryz.ntmps24 Tryz.results24 rfl ?_;conv=>whnf
  refine Ak (0,1) (outCells out0 ox0) rfl fun b4 h1 n1 s1 k1=>?_;conv=>whnf
  refine C2 (noCore_any (nn0.sub s1)) ?_;conv=>whnf
  refine Ae rfl rfl rfl (k1) rfl (outCells out0 ox0) rfl fun h2 t2 k2 a2 e2=>?_;conv=>whnf
  refine Ab rfl k2 rfl rfl ?_;conv=>whnf
  exact ⟨rfl,a2 _ s1 n1⟩)
theorem take_zero (nn:NoneAt h v) (d:Int):ACalls PR 25 #[v, .agg post0z.toArray,I d] h (fun r h'=>r = .tuple #[.agg (outCells out0 ox0).toArray,I 1]∧Sub h h'):=by
 have nn0:=nn
 rcases nn with rfl | ⟨p,t,rfl,k⟩
 all_goals (
  refine As mix Tryz.func25 rfl rfl Tryz.ntmps25 Tryz.results25 rfl ?_;conv=>whnf
  refine Al (0,1) (post0z) rfl fun b3 h0 n0 s0 k0=>?_;conv=>whnf
  refine Ak (0,1) (outCells out0 ox0) rfl fun b4 h1 n1 s1 k1=>?_;conv=>whnf
  refine C2 (noCore_any (nn0.sub (s0.trans s1))) ?_;conv=>whnf
  refine Ae rfl rfl rfl (k1) rfl (outCells out0 ox0) rfl fun h2 t2 k2 a2 e2=>?_;conv=>whnf
  refine Ab rfl k2 rfl rfl ?_;conv=>whnf
  exact ⟨rfl,s0.trans (a2 _ s1 n1)⟩)
theorem propose_zero (nn:NoneAt h v) (d:Int):ACalls PR 21 #[v,I d, .slice none 0 0] h (fun r h'=>r = .tuple #[I 0, .agg (outCells out0 ox0).toArray,I 1]∧Sub h h'):=by
 have nn0:=nn
 rcases nn with rfl | ⟨p,t,rfl,k⟩
 all_goals (
  refine As mix Tryz.func21 rfl rfl Tryz.ntmps21 Tryz.results21 rfl ?_;conv=>whnf
  refine Ak (0,1) (outCells out0 ox0) rfl fun b4 h1 n1 s1 k1=>?_;conv=>whnf
  refine C2 (noCore_any (nn0.sub s1)) ?_;conv=>whnf
  refine Ae rfl rfl rfl (k1) rfl (outCells out0 ox0) rfl fun h2 t2 k2 a2 e2=>?_;conv=>whnf
  refine Ab rfl k2 rfl rfl ?_;conv=>whnf
  exact ⟨rfl,a2 _ s1 n1⟩)
theorem read_zero (nn:NoneAt h v):ACalls PR 26 #[v] h (fun r h'=>r = .tuple #[I 0, .agg (outCells out0 ox0).toArray,I 1]∧Sub h h'):=by
 have nn0:=nn
 rcases nn with rfl | ⟨p,t,rfl,k⟩
 all_goals (
  refine As mix Tryz.func26 rfl rfl Tryz.ntmps26 Tryz.results26 rfl ?_;conv=>whnf
  refine Ak (0,1) (outCells out0 ox0) rfl fun b4 h1 n1 s1 k1=>?_;conv=>whnf
  refine C2 (noCore_any (nn0.sub s1)) ?_;conv=>whnf
  refine Ae rfl rfl rfl (k1) rfl (outCells out0 ox0) rfl fun h2 t2 k2 a2 e2=>?_;conv=>whnf
  refine Ab rfl k2 rfl rfl ?_;conv=>whnf
  exact ⟨rfl,a2 _ s1 n1⟩)
theorem compact_zero (nn:NoneAt h v) (d:Int):ACalls PR 27 #[v,I d, .slice none 0 0] h (fun r h'=>r = .tuple #[.agg #[I 0,I 0,I 0, .slice none 0 0],I 1]∧Sub h h'):=by
 have nn0:=nn
 rcases nn with rfl | ⟨p,t,rfl,k⟩
 all_goals (
  refine As mix Tryz.func27 rfl rfl Tryz.ntmps27 Tryz.results27 rfl ?_;conv=>whnf
  refine Ak (0,1) ([I 0,I 0,I 0, .slice none 0 0]) rfl fun b4 h1 n1 s1 k1=>?_;conv=>whnf
  refine C2 (noCore_any (nn0.sub s1)) ?_;conv=>whnf
  refine Ae rfl rfl rfl (k1) rfl ([I 0,I 0,I 0, .slice none 0 0]) rfl fun h2 t2 k2 a2 e2=>?_;conv=>whnf
  refine Ab rfl k2 rfl rfl ?_;conv=>whnf
  exact ⟨rfl,a2 _ s1 n1⟩)
theorem entry_zero (nn:NoneAt h v) (d:Int):ACalls PR 28 #[v,I d] h (fun r h'=>r = .tuple #[.agg entry0z.toArray,I 1]∧Sub h h'):=by
 have nn0:=nn
 rcases nn with rfl | ⟨p,t,rfl,k⟩
 all_goals (
  refine As mix Tryz.func28 rfl rfl Tryz.ntmps28 Tryz.results28 rfl ?_;conv=>whnf
  refine Ak (0,1) (entry0z) rfl fun b4 h1 n1 s1 k1=>?_;conv=>whnf
  refine C2 (noCore_any (nn0.sub s1)) ?_;conv=>whnf
  refine Ae rfl rfl rfl (k1) rfl (entry0z) rfl fun h2 t2 k2 a2 e2=>?_;conv=>whnf
  refine Ab rfl k2 rfl rfl ?_;conv=>whnf
  exact ⟨rfl,a2 _ s1 n1⟩)
end
end Go.Ah
