/- Texts that the law leans on, one behind the other. -/
import Derived.Test.YtdmjkpjedidipaaGreatKNm10
namespace Go.Ah
open Go.Proofs
set_option linter.unusedVariables false
set_option linter.unusedSimpArgs false
set_option maxRecDepth 20000
set_option maxHeartbeats 16000000
def vnil:Value := .pointer none
def shZ:SH:=⟨0,0,0,0,0,slv0,[],slv0,[]⟩
def pvH (k s t:Int) (ok:Bool:=false) (index:Int:=0) (hint:Int:=0) (logTerm:Int:=0) (commit:Int:=0) (e:SlV:=slv0) (es:List EH:=[]) (si:Int:=0) (st:Int:=0) (sc:Int:=0) (d:SlV:=slv0) (data:List Int:=[]):PH:=⟨k,s,1,t,index,logTerm,commit,ok,hint,e,es,si,st,sc,d,data⟩
theorem okb {h:Heap} {b:BeginH} (e:Ents h (1,5) (1,1) b.s.e.a b.s.e.n b.s.e.c b.s.es) (d:Sl h (1,1) b.s.d.a b.s.d.n b.s.d.c 1 (bytesV b.s.data)):b.Ok 2 h:=⟨(1,5),(1,1),(1,1),⟨e,d⟩,by simp,by simp,by simp⟩
theorem okb_plain {h:Heap} {b:BeginH} (h1:b.s.e=slv0) (h2:b.s.es=[]) (h3:b.s.d=slv0) (h4:b.s.data=[]):b.Ok 2 h:=okb (by rw [h1,h2];exact ents_of (Sl.nil _ _ _ _ _) good_nil) (by rw [h3,h4];exact sl_zero _ _)
def AllB (h:Heap) (l:List BeginH):Prop:=∀ b∈l,b.Ok 2 h
theorem okbs_nil {h:Heap}:AllB h []:=fun x hx=>by cases hx
theorem okbs_cons {h:Heap} {x:BeginH} {l:List BeginH} (k:x.Ok 2 h) (r:AllB h l):AllB h (x::l):=fun y hy=>by
 rcases List.mem_cons.1 hy with rfl | hy
 ·exact k
 ·exact r y hy
theorem begin_rz (l:List BeginH):∀ e∈l.map BeginH.cells,e.length=10:=by intro e he;obtain ⟨x,_,rfl⟩:=List.mem_map.1 he;rfl
theorem ok_snap {h:Heap} {k a:Int} {y:PH} (e:Ents h (1,5) (1,1) y.e.a y.e.n y.e.c y.es) (d:Sl h (1,1) y.d.a y.d.n y.d.c 1 (bytesV y.data)):(⟨k,a,y,slv0,[]⟩:DoH).Ok 2 h :=
 ⟨⟨(1,5),(1,1),(1,1),⟨e,d⟩,by simp,by simp,by simp⟩,(1,1),sl_zero _ _,by simp⟩
theorem zeros_at {h:Heap} {t:Tag} {b n:Nat} {E:TypeId} (k:h b=some (row t (List.replicate n [Value.int .u8 0]).flatten E)):Sl h t (some ⟨b,0,none⟩) n n 1 (bytesV (List.replicate n 0)):=by
 have e:(List.replicate n [Value.int .u8 0]).flatten=bytesV (List.replicate n 0):=by unfold bytesV;rw [List.map_replicate];simp
 rw [e] at k
 exact row_at k (by simp [bytesV])
def DoH.turned (x:DoH):DoH:=if x.y.dst=1 then {x with y:={x.y with dst:=2,src:=1+2*(x.y.src % 2)}} else x
def BeginH.turned (b:BeginH):BeginH:=if b.self=1 then {b with self:=2} else b
theorem DoH.turned_m (x:DoH):x.turned.m=x.m.turned:=by
 unfold DoH.turned DoM.turned
 by_cases c:x.y.dst=1
 ·rw [if_pos c,if_pos (show x.m.p.dst=1 from c)];rfl
 ·rw [if_neg c,if_neg (show ¬ x.m.p.dst=1 from c)]
theorem BeginH.turned_m (b:BeginH):b.turned.m=b.m.turned:=by
 unfold BeginH.turned BeginM.turned
 by_cases c:b.self=1
 ·rw [if_pos c,if_pos (show b.m.self=1 from c)];rfl
 ·rw [if_neg c,if_neg (show ¬ b.m.self=1 from c)]
theorem BeginH.turned_ok {N:Nat} {h:Heap} {b:BeginH} (k:b.Ok N h):b.turned.Ok N h:=by unfold BeginH.turned;split <;> exact k
theorem DoH.turned_ok {N:Nat} {h:Heap} {x:DoH} (k:x.Ok N h):x.turned.Ok N h:=by
 unfold DoH.turned
 split
 ·exact ⟨let ⟨t1,t2,t3,ok,r⟩:=k.y;⟨t1,t2,t3,⟨ok.es,ok.sd⟩,r⟩,k.d⟩
 ·exact k
def turnL (l:List DoH) (k:Nat):List DoH:=(l.take k).map DoH.turned++l.drop k
theorem turnL_get {l:List DoH} {k:Nat} {x:DoH} (h:l[k]? = some x):(turnL l k)[k]? = some x:=by
 have hk:=(List.getElem?_eq_some_iff.1 h).1
 unfold turnL
 rw [List.getElem?_append_right (by simp <;> omega),List.length_map,List.length_take,List.getElem?_drop,show k+(k-min k l.length)=k by omega];exact h
theorem turnL_set {l:List DoH} {k:Nat} {x:DoH} (h:l[k]? = some x):(turnL l k).set k x.turned=turnL l (k+1):=by
 have hk:=(List.getElem?_eq_some_iff.1 h).1
 unfold turnL
 rw [List.set_append_right _ _ (by simp <;> omega),List.length_map,List.length_take,show k-min k l.length=0 by omega,List.drop_eq_getElem_cons hk,List.set_cons_zero,List.take_succ_eq_append_getElem hk,List.map_append,List.append_assoc]
 rw [(List.getElem?_eq_some_iff.1 h).2];rfl
theorem and_1 (b:Int):IntKind.i64.wrap (BitVec.ofInt 64 b &&& BitVec.ofInt 64 1).toNat=b % 2:=by
 have h1:(BitVec.ofInt 64 b &&& BitVec.ofInt 64 1).toNat=(b % 2^64).toNat % 2:=by
  rw [BitVec.toNat_and,BitVec.toNat_ofInt,BitVec.toNat_ofInt]
  exact Nat.and_two_pow_sub_one_eq_mod _ 1
 have h2:((b % 2^64).toNat:Int)=b % 2^64:=Int.toNat_of_nonneg (Int.emod_nonneg _ (by decide))
 have h3:(((b % 2^64).toNat % 2:Nat):Int)=b % 2:=by
  rw [Int.natCast_emod,h2]
  omega
 rw [h1,h3]
 exact i64_wrap (by omega) (by omega)
theorem DoH.Ok.up {N:Nat} {h:Heap} {x:DoH} (k:x.Ok N h):x.Ok (N+1) h:=by
 obtain ⟨⟨t1,t2,t3,ok,a1,a2,a3⟩,t,s,a4⟩:=k
 exact ⟨⟨t1,t2,t3,ok,by omega,by omega,by omega⟩,t,s,by omega⟩
theorem BeginH.Ok.up {N:Nat} {h:Heap} {x:BeginH} (k:x.Ok N h):x.Ok (N+1) h:=by
 obtain ⟨t1,t2,t3,ok,a1,a2,a3⟩:=k
 exact ⟨t1,t2,t3,ok,by omega,by omega,by omega⟩
theorem Mids.less {N:Nat} {h h':Heap} (k:Mids (N+1) h h'):Mids N h h':=fun b t x m e=>k _ _ _ (by omega) e
theorem KeepT.mids {N r:Nat} {h h':Heap} (k:KeepT (N,r) h h'):Mids N h h':=fun b t x m e=>k _ _ _ (fun c=>by rw [c] at m;exact Nat.lt_irrefl _ m) e
theorem Names_law (h:Heap):ACalls PR 8 #[] h (fun v h'=>v = .bool true∧Stays h h'):=by
 refine acalls_ofk mix Tryz.func8 rfl rfl Tryz.ntmps8 Tryz.results8 rfl ?_;conv=>whnf
 refine Av ?_;conv=>whnf
 refine Av ?_;conv=>whnf
 refine AIf.cut (fun e h'=>∃ e0,e=updL 383 e0 []∧Sub h h') ?_ ?_
 ·conv=>whnf
  refine Av ?_;conv=>whnf
  refine ALoop.mk (fun e h'=>∃ (e0:Env) (i:Nat) (v:Value),e=updL 383 e0 [(1,v),(2,I i)]∧i≤2∧NoneAt h' v∧Sub h h') (fun e=>2-natOf (e 2)) ⟨_,0,vnil,Au ⟨rfl,rfl,trivial⟩,by omega, .inl rfl,Sub.refl _⟩ ?_
  rintro e h1 ⟨e0,i,v,rfl,hi,nn,s1⟩
  have nn0:=nn
  rcases nn with rfl | ⟨p,t,rfl,k⟩
  all_goals (
   conv=>whnf
   repeat (refine Av ?_;conv=>whnf)
   by_cases c:i<2
   ·refine Ac ((by omega)) ?_;conv=>whnf
    repeat (refine Av ?_;conv=>whnf)
    refine ACalls.mono (tick_zero nn0 _) ?_;rintro _ h2 ⟨rfl,s2⟩;conv=>whnf
    refine Ak (0,1) (outCells out0 ox0) rfl fun b3 h3 n3 s3 k3=>?_;conv=>whnf
    refine Ae rfl rfl rfl (k3) rfl (outCells out0 ox0) rfl fun h4 t4 k4 a4 e4=>?_;conv=>whnf
    have s14:=s2.trans (a4 _ s3 n3)
    repeat (refine Av ?_;conv=>whnf)
    refine ACalls.mono (take_zero (nn0.sub s14) _) ?_;rintro _ h2 ⟨rfl,s2⟩;conv=>whnf
    refine Ak (0,1) (outCells out0 ox0) rfl fun b3 h3 n3 s3 k3=>?_;conv=>whnf
    refine Ae rfl rfl rfl (k3) rfl (outCells out0 ox0) rfl fun h4 t4 k4 a4 e4=>?_;conv=>whnf
    have s14:=s14.trans (s2.trans (a4 _ s3 n3))
    repeat (refine Av ?_;conv=>whnf)
    refine ACalls.mono (propose_zero (nn0.sub s14) _) ?_;rintro _ h2 ⟨rfl,s2⟩;conv=>whnf
    refine Ak (0,1) (outCells out0 ox0) rfl fun b3 h3 n3 s3 k3=>?_;conv=>whnf
    refine Ae rfl rfl rfl (k3) rfl (outCells out0 ox0) rfl fun h4 t4 k4 a4 e4=>?_;conv=>whnf
    have s14:=s14.trans (s2.trans (a4 _ s3 n3))
    repeat (refine Av ?_;conv=>whnf)
    refine ACalls.mono (read_zero (nn0.sub s14)) ?_;rintro _ h2 ⟨rfl,s2⟩;conv=>whnf
    refine Ak (0,1) (outCells out0 ox0) rfl fun b3 h3 n3 s3 k3=>?_;conv=>whnf
    refine Ae rfl rfl rfl (k3) rfl (outCells out0 ox0) rfl fun h4 t4 k4 a4 e4=>?_;conv=>whnf
    have s14:=s14.trans (s2.trans (a4 _ s3 n3))
    repeat (refine Av ?_;conv=>whnf)
    refine ACalls.mono (compact_zero (nn0.sub s14) _) ?_;rintro _ h2 ⟨rfl,s2⟩;conv=>whnf
    refine Ak (0,1) ([I 0,I 0,I 0, .slice none 0 0]) rfl fun b3 h3 n3 s3 k3=>?_;conv=>whnf
    refine Ae rfl rfl rfl (k3) rfl ([I 0,I 0,I 0, .slice none 0 0]) rfl fun h4 t4 k4 a4 e4=>?_;conv=>whnf
    have s14:=s14.trans (s2.trans (a4 _ s3 n3))
    repeat (refine Av ?_;conv=>whnf)
    refine ACalls.mono (entry_zero (nn0.sub s14) _) ?_;rintro _ h2 ⟨rfl,s2⟩;conv=>whnf
    refine Ak (0,1) (entry0z) rfl fun b3 h3 n3 s3 k3=>?_;conv=>whnf
    refine Ae rfl rfl rfl (k3) rfl (entry0z) rfl fun h4 t4 k4 a4 e4=>?_;conv=>whnf
    have s14:=s14.trans (s2.trans (a4 _ s3 n3))
    repeat (refine Av ?_;conv=>whnf)
    iterate 8 (
     refine Ad ((by simp)) ?_;conv=>whnf
     skip)
    iterate 5 (
     refine C2 (nums_zero (nn0.sub s14) _ (by simp)) ?_;conv=>whnf
     refine Ad ((by simp)) ?_;conv=>whnf
     skip)
    repeat (refine Av ?_;conv=>whnf)
    refine Al (1,9) coreZ rfl fun bz h6 n6 s6 k6=>?_;conv=>whnf
    refine Ag (by omega) (by omega) ((by omega:(i:Int)+1=((i+1:Nat):Int))) ?_;conv=>whnf
    refine ⟨⟨_,i+1,_,Au ⟨rfl,rfl,trivial⟩,by omega, .inr ⟨bz,_,rfl,k6⟩,s1.trans (s14.trans s6)⟩,?_⟩
    show 2-(i+1)<2-i
    omega
   ·refine Ad ((by omega)) ?_;conv=>whnf
    exact ⟨_,rfl,s1⟩)
 rintro e h1 ⟨e0,rfl,s1⟩
 conv=>whnf
 refine AIf.cut (fun e h'=>∃ (e0:Env) (bB:Nat) (L:List BeginH),e=updL 383 e0 [(17, .slice (some ⟨bB,0,none⟩) 15 15)]∧Sub h1 h'∧h' bB=some (row (1,30) (L.map BeginH.cells).flatten 83)∧AllB h' L∧L.map BeginH.m=beginsM) ?_ ?_
 ·conv=>whnf
  refine Ap (1,1) ([.int .u8 46]) rfl rfl rfl rfl rfl rfl rfl fun bA hA nA sA kA=>?_;conv=>whnf
  refine Ap (1,5) (encs [e0H 1 1,eH 4 2 2 (at1 bA 1) [46]]) rfl rfl rfl rfl rfl rfl rfl fun bE hE nE sE kE=>?_;conv=>whnf
  refine Ap (1,5) (encs [e0H 2 1]) rfl rfl rfl rfl rfl rfl rfl fun b6 h6 n6 s6 k6=>?_;conv=>whnf
  refine Ap (1,5) (encs [e0H 2 2]) rfl rfl rfl rfl rfl rfl rfl fun b7 h7 n7 s7 k7=>?_;conv=>whnf
  refine Ap (1,5) (encs [eH 2 1 2 slv0 []]) rfl rfl rfl rfl rfl rfl rfl fun b8 h8 n8 s8 k8=>?_;conv=>whnf
  refine Ap (1,1) ([.int .u8 1]) rfl rfl rfl rfl rfl rfl rfl fun bD hD nD sD kD=>?_;conv=>whnf
  refine Ap (1,5) (encs [e0H 4 4]) rfl rfl rfl rfl rfl rfl rfl fun b9 h9 n9 s9 k9=>?_;conv=>whnf
  refine ABuildSl.cat (1,30) (([⟨1,14,0,shZ⟩,⟨1,2,9,shZ⟩,⟨0,14,0,shZ⟩,⟨1,1,0,shZ⟩,⟨1,14,(-1),shZ⟩,⟨5,14,3,⟨4,2,0,0,0,slv0,[],at1 bE 2,[e0H 1 1,eH 4 2 2 (at1 bA 1) [46]]⟩⟩,⟨1,14,0,⟨1,0,0,0,0,slv0,[],at1 b6 1,[e0H 2 1]⟩⟩,⟨1,14,0,⟨2,0,0,0,0,slv0,[],at1 b7 1,[e0H 2 2]⟩⟩,⟨1,14,0,⟨2,0,0,0,0,slv0,[],at1 b8 1,[eH 2 1 2 slv0 []]⟩⟩,⟨2,14,0,⟨5,0,3,4,6,at1 bD 1,[1],at1 b9 1,[e0H 4 4]⟩⟩,⟨2,14,0,⟨3,0,3,4,6,slv0,[],slv0,[]⟩⟩,⟨2,14,0,⟨5,0,0,0,6,slv0,[],slv0,[]⟩⟩,⟨2,14,0,⟨5,0,3,4,0,slv0,[],slv0,[]⟩⟩,⟨1,14,0,⟨9007199254740991,5,0,0,0,slv0,[],slv0,[]⟩⟩,⟨1,14,0,⟨0,6,0,0,0,slv0,[],slv0,[]⟩⟩]:List BeginH).map BeginH.cells) rfl rfl rfl rfl rfl rfl rfl rfl fun bB hB nB sB kB=>?_;conv=>whnf
  have u9:=sB
  have uD:=s9.trans u9
  have u8:=sD.trans uD
  have u7:=s8.trans u8
  have u6:=s7.trans u7
  have uE:=s6.trans u6
  have uA:=sE.trans uE
  refine ⟨_,bB,[⟨1,14,0,shZ⟩,⟨1,2,9,shZ⟩,⟨0,14,0,shZ⟩,⟨1,1,0,shZ⟩,⟨1,14,(-1),shZ⟩,⟨5,14,3,⟨4,2,0,0,0,slv0,[],at1 bE 2,[e0H 1 1,eH 4 2 2 (at1 bA 1) [46]]⟩⟩,⟨1,14,0,⟨1,0,0,0,0,slv0,[],at1 b6 1,[e0H 2 1]⟩⟩,⟨1,14,0,⟨2,0,0,0,0,slv0,[],at1 b7 1,[e0H 2 2]⟩⟩,⟨1,14,0,⟨2,0,0,0,0,slv0,[],at1 b8 1,[eH 2 1 2 slv0 []]⟩⟩,⟨2,14,0,⟨5,0,3,4,6,at1 bD 1,[1],at1 b9 1,[e0H 4 4]⟩⟩,⟨2,14,0,⟨3,0,3,4,6,slv0,[],slv0,[]⟩⟩,⟨2,14,0,⟨5,0,0,0,6,slv0,[],slv0,[]⟩⟩,⟨2,14,0,⟨5,0,3,4,0,slv0,[],slv0,[]⟩⟩,⟨1,14,0,⟨9007199254740991,5,0,0,0,slv0,[],slv0,[]⟩⟩,⟨1,14,0,⟨0,6,0,0,0,slv0,[],slv0,[]⟩⟩],Au ⟨rfl,trivial⟩,sA.trans uA,kB,?_,rfl⟩
  exact okbs_cons (okb_plain rfl rfl rfl rfl) (okbs_cons (okb_plain rfl rfl rfl rfl) (okbs_cons (okb_plain rfl rfl rfl rfl) (okbs_cons (okb_plain rfl rfl rfl rfl) (okbs_cons (okb_plain rfl rfl rfl rfl) (okbs_cons (okb (ents_of (row_at (uE _ _ kE) rfl) (good_cons (e0_good _ _ _ _) (good_cons ⟨byte_at (uA _ _ kA),by show 1≤_;omega⟩ good_nil))) (sl_zero _ _)) (okbs_cons (okb (ents_of (row_at (u6 _ _ k6) rfl) (good_cons (e0_good _ _ _ _) good_nil)) (sl_zero _ _)) (okbs_cons (okb (ents_of (row_at (u7 _ _ k7) rfl) (good_cons (e0_good _ _ _ _) good_nil)) (sl_zero _ _)) (okbs_cons (okb (ents_of (row_at (u8 _ _ k8) rfl) (good_cons ⟨sl_zero _ _,by show 0≤_;omega⟩ good_nil)) (sl_zero _ _)) (okbs_cons (okb (ents_of (row_at (u9 _ _ k9) rfl) (good_cons (e0_good _ _ _ _) good_nil)) (byte_at (uD _ _ kD))) (okbs_cons (okb_plain rfl rfl rfl rfl) (okbs_cons (okb_plain rfl rfl rfl rfl) (okbs_cons (okb_plain rfl rfl rfl rfl) (okbs_cons (okb_plain rfl rfl rfl rfl) (okbs_cons (okb_plain rfl rfl rfl rfl) okbs_nil))))))))))))))
 rintro e h2 ⟨e0,bB,L,rfl,s2,kB,okB,mB⟩
 refine AIf.cut (fun e h'=>∃ (e0:Env) (bC:Nat) (L:List DoH),e=updL 383 e0 [(17, .slice (some ⟨bB,0,none⟩) 15 15),(18, .slice (some ⟨bC,0,none⟩) 36 36)]∧Sub h2 h'∧LsAt 1 h' (at1 bC 36) L∧L.map DoH.m++[dp (pv 2 2 15 true)]=callsM) ?_ ?_
 ·conv=>whnf
  refine Ap (1,1) ([.int .u8 120]) rfl rfl rfl rfl rfl rfl rfl fun b1 hh1 n1 s1 k1=>?_;conv=>whnf
  refine ⟨_,_,_,_,k1,?_⟩;conv=>whnf
  refine ⟨_,_,k1,?_⟩;conv=>whnf
  refine Ap (1,1) ([.int .u8 30]) rfl rfl rfl rfl rfl rfl rfl fun b2 hh2 n2 s2 k2=>?_;conv=>whnf
  refine Ap (1,1) ([.int .u8 30]) rfl rfl rfl rfl rfl rfl rfl fun b3 hh3 n3 s3 k3=>?_;conv=>whnf
  refine Ap (1,1) ([.int .u8 62]) rfl rfl rfl rfl rfl rfl rfl fun b4 hh4 n4 s4 k4=>?_;conv=>whnf
  refine AMakeSl.mk (E:=5) (z:=1) (by_:=1) (zero:=[.int .u8 0]) (n:=1201) (1,1) rfl rfl rfl rfl rfl (by omega) rfl rfl (by omega) (by omega) fun b5 f5=>?_;conv=>whnf
  refine Ap (1,1) ([.int .u8 115]) rfl rfl rfl rfl rfl rfl rfl fun b6 hh6 n6 s6 k6=>?_;conv=>whnf
  refine ⟨_,_,_,_,k6,?_⟩;conv=>whnf
  refine ⟨_,_,k6,?_⟩;conv=>whnf
  refine Ap (1,5) (encs [e0H 9 2,e0H 9 3]) rfl rfl rfl rfl rfl rfl rfl fun b7 hh7 n7 s7 k7=>?_;conv=>whnf
  refine Ap (1,1) ([.int .u8 7]) rfl rfl rfl rfl rfl rfl rfl fun b8 hh8 n8 s8 k8=>?_;conv=>whnf
  refine Ap (1,5) (encs [e0H 9 6,e0H 9 7,e0H 9 8]) rfl rfl rfl rfl rfl rfl rfl fun b9 hh9 n9 s9 k9=>?_;conv=>whnf
  refine ABuildSl.cat (1,31) (([hk 0 (-1),hk 2 1,hk 3 0,hk 4 1,hk 5 1,hk 6 10,hp (pvH 2 2 1 true),hd 2 1 (at1 b1 1) [120],hk 3 0,hd 2 2 (at1 b2 1) [30],hp (pvH 4 2 1 true 1),hp (pvH 4 2 1 true 99 1),hk 3 0,hd 2 2 (at1 b3 1) [30],hd 2 2 (at1 b4 1) [62],hk 2 2,hk 2 0,hd 2 1 (at1 b5 1201) (List.replicate 1201 0),hp (pvH 4 3 1 false 0 2),hp (pvH 6 3 1 false 2 1),hd 4 1 (at1 b6 1) [115],hk 5 1,hk 5 2,hp (pvH 4 4 1),hk 4 9,hp (pvH 1 3 9 false 9 0 9),hp (pvH 3 3 9 false 1 0 1 5 (at1 b7 2) [e0H 9 2,e0H 9 3]),hp (pvH 3 3 9 false 8 0 9),hp (pvH 5 3 9 false 0 2 0 0 slv0 [] 7 9 6 (at1 b8 1) [7]),hp (pvH 3 3 9 false 5 0 9 8 (at1 b9 3) [e0H 9 6,e0H 9 7,e0H 9 8]),hp (pvH 1 2 12 false 9 0 10),hk 6 12,hp (pvH 1 2 8 false 9 0 8),hp (pvH 3 2 8 false 0 4),hp {post1 with kind:=9},hp {pvH 2 1 1 with dst:=2}]:List DoH).map DoH.cells) rfl rfl rfl rfl rfl rfl rfl rfl fun bC hC nC sC kC=>?_;conv=>whnf
  have u8:=s9.trans sC
  have u7:=s8.trans u8
  have u6:=s7.trans u7
  have u5:=(s6.set n6 _).trans u6
  have u4:=(f5.sub _).trans u5
  have u3:=s4.trans u4
  have u2:=s3.trans u3
  have u1:=s2.trans u2
  have u0:=(s1.set n1 _).trans u1
  refine ⟨_,bC,[hk 0 (-1),hk 2 1,hk 3 0,hk 4 1,hk 5 1,hk 6 10,hp (pvH 2 2 1 true),hd 2 1 (at1 b1 1) [120],hk 3 0,hd 2 2 (at1 b2 1) [30],hp (pvH 4 2 1 true 1),hp (pvH 4 2 1 true 99 1),hk 3 0,hd 2 2 (at1 b3 1) [30],hd 2 2 (at1 b4 1) [62],hk 2 2,hk 2 0,hd 2 1 (at1 b5 1201) (List.replicate 1201 0),hp (pvH 4 3 1 false 0 2),hp (pvH 6 3 1 false 2 1),hd 4 1 (at1 b6 1) [115],hk 5 1,hk 5 2,hp (pvH 4 4 1),hk 4 9,hp (pvH 1 3 9 false 9 0 9),hp (pvH 3 3 9 false 1 0 1 5 (at1 b7 2) [e0H 9 2,e0H 9 3]),hp (pvH 3 3 9 false 8 0 9),hp (pvH 5 3 9 false 0 2 0 0 slv0 [] 7 9 6 (at1 b8 1) [7]),hp (pvH 3 3 9 false 5 0 9 8 (at1 b9 3) [e0H 9 6,e0H 9 7,e0H 9 8]),hp (pvH 1 2 12 false 9 0 10),hk 6 12,hp (pvH 1 2 8 false 9 0 8),hp (pvH 3 2 8 false 0 4),hp {post1 with kind:=9},hp {pvH 2 1 1 with dst:=2}],Au ⟨rfl,rfl,trivial⟩,u0,⟨⟨_,row_calls kC rfl⟩,?_⟩,rfl⟩
  have p:∀ {x:DoH},x.y.e=slv0→x.y.es=[]→x.y.d=slv0→x.y.data=[]→x.d=slv0→x.data=[]→x.Ok 2 hC:=ok_plain (by omega)
  have q:∀ {k a:Int} {s:SlV} {l:List Int},Sl hC (1,1) s.a s.n s.c 1 (bytesV l)→(hd k a s l).Ok 2 hC:=fun g=>ok_data (by omega) g (by simp) (by simp)
  have r:∀ {k a:Int} {y:PH},Ents hC (1,5) (1,1) y.e.a y.e.n y.e.c y.es→y.d=slv0→y.data=[]→(⟨k,a,y,slv0,[]⟩:DoH).Ok 2 hC:=fun e=>ok_post (by omega) e (by simp) (by simp)
  exact oks_cons (p rfl rfl rfl rfl rfl rfl) (oks_cons (p rfl rfl rfl rfl rfl rfl) (oks_cons (p rfl rfl rfl rfl rfl rfl) (oks_cons (p rfl rfl rfl rfl rfl rfl) (oks_cons (p rfl rfl rfl rfl rfl rfl) (oks_cons (p rfl rfl rfl rfl rfl rfl) (oks_cons (p rfl rfl rfl rfl rfl rfl) (oks_cons (q (byte_at (u1 _ _ (Heap.set_same _ _ _)))) (oks_cons (p rfl rfl rfl rfl rfl rfl) (oks_cons (q (byte_at (u2 _ _ k2))) (oks_cons (p rfl rfl rfl rfl rfl rfl) (oks_cons (p rfl rfl rfl rfl rfl rfl) (oks_cons (p rfl rfl rfl rfl rfl rfl) (oks_cons (q (byte_at (u3 _ _ k3))) (oks_cons (q (byte_at (u4 _ _ k4))) (oks_cons (p rfl rfl rfl rfl rfl rfl) (oks_cons (p rfl rfl rfl rfl rfl rfl) (oks_cons (q (zeros_at (u5 _ _ (Heap.set_same _ _ _)))) (oks_cons (p rfl rfl rfl rfl rfl rfl) (oks_cons (p rfl rfl rfl rfl rfl rfl) (oks_cons (q (byte_at (u6 _ _ (Heap.set_same _ _ _)))) (oks_cons (p rfl rfl rfl rfl rfl rfl) (oks_cons (p rfl rfl rfl rfl rfl rfl) (oks_cons (p rfl rfl rfl rfl rfl rfl) (oks_cons (p rfl rfl rfl rfl rfl rfl) (oks_cons (p rfl rfl rfl rfl rfl rfl) (oks_cons (r (ents_of (row_at (u7 _ _ k7) rfl) (good_cons (e0_good _ _ _ _) (good_cons (e0_good _ _ _ _) good_nil))) rfl rfl) (oks_cons (p rfl rfl rfl rfl rfl rfl) (oks_cons (ok_snap (ents_of (Sl.nil _ _ _ _ _) good_nil) (byte_at (u8 _ _ k8))) (oks_cons (r (ents_of (row_at (sC _ _ k9) rfl) (good_cons (e0_good _ _ _ _) (good_cons (e0_good _ _ _ _) (good_cons (e0_good _ _ _ _) good_nil)))) rfl rfl) (oks_cons (p rfl rfl rfl rfl rfl rfl) (oks_cons (p rfl rfl rfl rfl rfl rfl) (oks_cons (p rfl rfl rfl rfl rfl rfl) (oks_cons (p rfl rfl rfl rfl rfl rfl) (oks_cons (p rfl rfl rfl rfl rfl rfl) (oks_cons (p rfl rfl rfl rfl rfl rfl) oks_nil)))))))))))))))))))))))))))))))))))
 rintro e h3 ⟨e0,bC,C,rfl,s3,kC,mC⟩
 refine AIf.cut (fun e h'=>∃ (e0:Env) (ac:Option Addr) (cc:Nat) (C:List DoH),e=updL 383 e0 [(17, .slice (some ⟨bB,0,none⟩) 15 15),(18, .slice ac 37 cc)]∧Sub h3 h'∧LsAt 1 h' ⟨ac,37,cc⟩ C∧C.map DoH.m=callsM) ?_ ?_
 ·conv=>whnf
  refine ABuildSl.cat (1,32) ([hp (pvH 2 2 15 true)].map DoH.cells) rfl rfl rfl rfl rfl rfl rfl rfl fun b4 h4 n4 s4 k4=>?_;conv=>whnf
  obtain ⟨⟨r,kC⟩,oC⟩:=kC
  refine AAppend.over (1,33) (t:=(1,r)) (E:=52) (z:=17) (by_:=184) (zero:=(hk 0 0).cells) (tx:=(1,32)) rfl ⟨_,rfl⟩ rfl rfl rfl rfl (by omega) (kC.sub s4) (row_calls k4 rfl) (by omega) (by omega) (by omega) fun ac cc h5 o5 s5=>?_
  conv=>whnf
  refine ⟨_,ac,cc,C++[hp (pvH 2 2 15 true)],Au ⟨rfl,rfl,trivial⟩,s4.trans s5,⟨⟨_,own_calls o5⟩,oks_app (oC.sub (s4.trans s5)) (oks_cons (ok_plain (by omega) rfl rfl rfl rfl rfl rfl) oks_nil)⟩,?_⟩
  rw [List.map_append,← mC];rfl
 rintro e h4 ⟨e0,ac,cc,C,rfl,s4,kC,mC⟩
 obtain ⟨⟨rc,kC⟩,oC⟩:=kC
 have kB:=s4 _ _ (s3 _ _ kB)
 have okB:AllB h4 L:=fun b hb=>(okB b hb).sub (s3.trans s4)
 have sh4:Sub h h4:=s1.trans (s2.trans (s3.trans s4))
 have lB:L.length=15:=by have:=congrArg List.length mB;rw [List.length_map] at this;exact this
 have lC:C.length=37:=by have:=congrArg List.length mC;rw [List.length_map] at this;exact this
 clear s1 s2 s3 s4
 conv=>whnf
 refine AIf.cut (fun e h'=>∃ (e0:Env),e=updL 383 e0 [(17, .slice (some ⟨bB,0,none⟩) 15 15)]∧Mids 2 h4 h') ?_ ?_
 ·conv=>whnf
  refine Av ?_;conv=>whnf
  refine ALoop.mk (fun e h'=>∃ (e0:Env) (i:Nat),e=updL 383 e0 [(17, .slice (some ⟨bB,0,none⟩) 15 15),(18, .slice ac 37 cc),(19,I i)]∧i≤15∧Mids 2 h4 h') (fun e=>15-natOf (e 19)) ⟨_,0,Au ⟨rfl,rfl,rfl,trivial⟩,by omega,Mids.refl _ _⟩ ?_
  rintro e h5 ⟨e1,i,rfl,hi,w5⟩
  conv=>whnf
  repeat (refine Av ?_;conv=>whnf)
  by_cases ci:i<15
  rotate_left
  ·refine Ad ((by omega)) ?_;conv=>whnf
   exact ⟨_,Au ⟨rfl,trivial⟩,w5⟩
  refine Ac ((by omega)) ?_;conv=>whnf
  repeat (refine Av ?_;conv=>whnf)
  obtain ⟨b,hb⟩:∃ b,L[i]? = some b:=⟨L[i]'(by omega),by simp⟩
  have hbm:=List.mem_of_getElem? hb
  refine ALoop.mk (fun e h'=>∃ (e0:Env) (s:Nat),e=updL 383 e0 [(17, .slice (some ⟨bB,0,none⟩) 15 15),(18, .slice ac 37 cc),(19,I i),(20,I s)]∧1≤s∧s≤3∧Mids 2 h4 h') (fun e=>3-natOf (e 20)) ⟨_,1,Au ⟨rfl,rfl,rfl,rfl,trivial⟩,by omega,by omega,w5⟩ ?_
  clear w5
  rintro e h5 ⟨e2,s,rfl,hs1,hs3,w5⟩
  conv=>whnf
  repeat (refine Av ?_;conv=>whnf)
  by_cases cs:s<3
  rotate_left
  ·refine Ad ((by omega)) ?_;conv=>whnf
   repeat (refine Av ?_;conv=>whnf)
   refine Ag (by omega) (by omega) ((by omega:(i:Int)+1=((i+1:Nat):Int))) ?_;conv=>whnf
   refine ⟨⟨_,i+1,Au ⟨rfl,rfl,rfl,trivial⟩,by omega,w5⟩,?_⟩
   show 15-(i+1)<15-i
   omega
  refine Ac ((by omega)) ?_;conv=>whnf
  refine Av ?_;conv=>whnf
  refine Av ?_;conv=>whnf
  have kB5:=w5 _ (1,30) _ (by decide) kB
  have kC5:Sl h5 (1,rc) ac 37 cc 17 (C.map DoH.cells).flatten:=Sl.move kC fun c y e=>w5 _ _ _ (by show 1<2;omega) e
  obtain ⟨bq,off,lq,E',fz,ea,hbq,hpq,_⟩:=(row_at (z:=10) (n:=15) kB5 (by rw [flat_len (begin_rz L),List.length_map,lB])).elem (begin_rz L) (by simp [lB]) (by omega) (i:=i) (e:=b.cells) (by rw [List.getElem?_map,hb];rfl)
  cases ea
  refine Ai (n:=15) (z:=10) (j:=i) rfl ci rfl rfl ?_;conv=>whnf
  refine Ab rfl hbq hpq rfl ?_;conv=>whnf
  refine Ak (2,40) zeroH.cells rfl fun b21 h6 n6 s6 k6=>?_;conv=>whnf
  refine Ae rfl rfl rfl (k6) rfl (b.cells) rfl fun h7 t7 k7 a7 e7=>?_;conv=>whnf
  have s7:=a7 _ s6 n6
  refine Av ?_;conv=>whnf
  refine AAppend.over (2,50) (t:=(1,0)) (E:=52) (z:=17) (by_:=184) (zero:=(hk 0 0).cells) (cs:=[]) (tx:=(1,rc)) rfl ⟨_,rfl⟩ rfl rfl rfl rfl (by omega) (Sl.nil _ _ _ _ _) (kC5.sub s7) (by omega) (by omega) (by omega) fun al cl h8 o8 s8=>?_
  conv=>whnf
  have k8:=s8 _ _ k7
  have w8:Mids 2 h4 h8:=w5.trans (Sub.mids (s7.trans s8))
  rw [show 0+37=37 from rfl,List.nil_append] at o8
  refine AIf.cut (fun e h'=>∃ (e0:Env) (b':BeginH) (C':List DoH),e=updL 383 e0 [(17, .slice (some ⟨bB,0,none⟩) 15 15),(18, .slice ac 37 cc),(19,I i),(20,I s),(21,Ptr b21),(22, .slice al 37 cl)]∧Mids 2 h4 h'∧h' b21=some (row (2,40) b'.cells 83)∧b'.Ok 2 h'∧Sl h' (2,50) al 37 cl 17 (C'.map DoH.cells).flatten∧AllOk 2 h' C'∧b'.m.runs (C'.map DoH.m)=true) ?_ ?_
  rotate_left
  ·rintro e h9 ⟨e3,b',C',rfl,w9,k9,ob,sc,oc,hr⟩
   conv=>whnf
   repeat (refine Av ?_;conv=>whnf)
   refine Ab rfl k9 rfl rfl ?_;conv=>whnf
   refine ACalls.mono (plays_any (N:=3) (by omega) b' ob.up C' sc (by decide) (by decide) (fun x hx=>(oc x hx).up) (by omega) hr) ?_
   rintro _ hA ⟨rfl,mA⟩
   conv=>whnf
   repeat (refine Av ?_;conv=>whnf)
   refine Ag (by omega) (by omega) ((by omega:(s:Int)+1=((s+1:Nat):Int))) ?_;conv=>whnf
   refine ⟨⟨_,s+1,Au ⟨rfl,rfl,rfl,rfl,trivial⟩,by omega,by omega,w9.trans mA.less⟩,?_⟩
   show 3-(s+1)<3-s
   omega
  have hr1:=List.all_eq_true.1 runs1 b.m (by rw [← mB];exact List.mem_map.2 ⟨b,hbm,rfl⟩)
  simp only [Bool.and_eq_true] at hr1
  have ob8:b.Ok 2 h8:=(okB b hbm).move fun c t y _ m e=>w8 _ _ _ m e
  have oc8:AllOk 2 h8 C:=fun x hx=>(oC x hx).move fun c t y _ m e=>w8 _ _ _ m e
  conv=>whnf
  refine Av ?_;conv=>whnf
  by_cases c1:s=1
  ·subst c1
   refine Ad ((by omega)) ?_;conv=>whnf
   exact ⟨_,b,C,Au ⟨rfl,rfl,rfl,rfl,rfl,rfl,trivial⟩,w8,k8,ob8,o8.sl,oc8,by rw [mC];exact hr1.1⟩
  have c2:s=2:=by omega
  subst c2
  refine Ac ((by omega)) ?_;conv=>whnf
  refine AIf.cut (fun e h'=>∃ (e0:Env),e=updL 383 e0 [(17, .slice (some ⟨bB,0,none⟩) 15 15),(18, .slice ac 37 cc),(19,I i),(20,I 2),(21,Ptr b21),(22, .slice al 37 cl)]∧KeepT (2,50) h8 h'∧Own h' (2,50) 52 al 37 cl 17 ((turnL C 37).map DoH.cells).flatten) ?_ ?_
  ·conv=>whnf
   refine Av ?_;conv=>whnf
   refine ALoop.mk (fun e h'=>∃ (e0:Env) (k:Nat),e=updL 383 e0 [(17, .slice (some ⟨bB,0,none⟩) 15 15),(18, .slice ac 37 cc),(19,I i),(20,I 2),(21,Ptr b21),(22, .slice al 37 cl),(23,I k)]∧k≤37∧KeepT (2,50) h8 h'∧Own h' (2,50) 52 al 37 cl 17 ((turnL C k).map DoH.cells).flatten) (fun e=>37-natOf (e 23))
    ⟨_,0,Au ⟨rfl,rfl,rfl,rfl,rfl,rfl,rfl,trivial⟩,by omega,KeepT.refl _ _,by unfold turnL;simpa using o8⟩ ?_
   clear o8 k8 ob8 oc8 w8 kB5 kC5 s8
   rintro e h9 ⟨e3,k,rfl,hk,t9,o9⟩
   conv=>whnf
   repeat (refine Av ?_;conv=>whnf)
   by_cases ck:k<37
   rotate_left
   ·refine Ad ((by omega)) ?_;conv=>whnf
    obtain rfl:k=37:=by omega
    exact ⟨_,Au ⟨rfl,rfl,rfl,rfl,rfl,rfl,trivial⟩,t9,o9⟩
   refine Ac ((by omega)) ?_;conv=>whnf
   obtain ⟨x,hx⟩:∃ x,C[k]? = some x:=⟨C[k]'(by omega),by simp⟩
   have lT:((turnL C k).map DoH.cells).length=37:=by unfold turnL;rw [List.length_map,List.length_append,List.length_map,List.length_take,List.length_drop];omega
   have gT:((turnL C k).map DoH.cells)[k]? = some x.cells:=by rw [List.getElem?_map,turnL_get hx];rfl
   obtain ⟨bq,l9,ea,hb9,hp9,hg9,hs9⟩:=o9.elem (do_rz _) lT (by omega) gT
   have e4:0+k*17+2+2=k*17+4:=by omega
   have e3':0+k*17+2+1=k*17+3:=by omega
   subst ea
   repeat (refine Av ?_;conv=>whnf)
   refine Ai (n:=37) (z:=17) (j:=k) rfl ck rfl rfl ?_;conv=>whnf
   refine Aa (v:=I x.y.dst) rfl hb9 (by rw [e4];exact (hg9 4 (by omega)).1) ?_;conv=>whnf
   by_cases c1:x.y.dst=1
   ·refine Ac (c1) ?_;conv=>whnf
    repeat (refine Av ?_;conv=>whnf)
    refine Ai (n:=37) (z:=17) (j:=k) rfl ck rfl rfl ?_;conv=>whnf
    refine AStore.one rfl rfl rfl hb9 (by rw [e4];exact (hg9 4 (by omega)).2) ?_;conv=>whnf
    have oA:=hs9 4 (I 2) (by omega)
    rw [← e4] at oA
    obtain ⟨x1,hx1⟩:∃ x1:DoH,x1={x with y:={x.y with dst:=2}}:=⟨_,rfl⟩
    have ex1:x.cells.set 4 (I 2)=x1.cells:=by rw [hx1];rfl
    rw [show (0+k*17+2+2)=k*17+4 by omega] at oA
    rw [ex1,← List.map_set] at oA
    rw [← e4] at oA
    have lT1:(((turnL C k).set k x1).map DoH.cells).length=37:=by rw [List.length_map,List.length_set];rw [List.length_map] at lT;exact lT
    have gT1:(((turnL C k).set k x1).map DoH.cells)[k]? = some x1.cells:=by rw [List.getElem?_map,List.getElem?_set_self (by rw [List.length_map] at lT;omega)];rfl
    obtain ⟨b2,lA,eaA,hbA,hpA,hgA,hsA⟩:=oA.elem (do_rz _) lT1 (by omega) gT1
    cases eaA
    repeat (refine Av ?_;conv=>whnf)
    refine Ai (n:=37) (z:=17) (j:=k) rfl ck rfl rfl ?_;conv=>whnf
    refine Aa (v:=I x.y.src) rfl hbA (by rw [e3',hx1] at *;rw [e3'];exact (hgA 3 (by omega)).1) ?_;conv=>whnf
    refine Aq (and_1 x.y.src) ?_;conv=>whnf
    refine Ag (by omega) (by omega) (rfl) ?_;conv=>whnf
    refine Ag (by omega) (by omega) (rfl) ?_;conv=>whnf
    refine Ai (n:=37) (z:=17) (j:=k) rfl ck rfl rfl ?_;conv=>whnf
    refine AStore.one rfl rfl rfl hbA (by rw [e3'];exact (hgA 3 (by omega)).2) ?_;conv=>whnf
    have oB:=hsA 3 (I (1+2*(x.y.src % 2))) (by omega)
    have ex2:x1.cells.set 3 (I (1+2*(x.y.src % 2)))=x.turned.cells:=by rw [hx1,show x.turned=_ from if_pos c1];rfl
    rw [ex2,← List.map_set,List.set_set,turnL_set hx,← e3'] at oB
    refine Ag (by omega) (by omega) ((by omega:(k:Int)+1=((k+1:Nat):Int))) ?_;conv=>whnf
    refine ⟨⟨_,k+1,Au ⟨rfl,rfl,rfl,rfl,rfl,rfl,rfl,trivial⟩,by omega,t9.trans ((KeepT.set hb9).trans (KeepT.set hbA)),oB⟩,?_⟩
    show 37-(k+1)<37-k
    omega
   ·refine Ad (c1) ?_;conv=>whnf
    repeat (refine Av ?_;conv=>whnf)
    refine Ag (by omega) (by omega) ((by omega:(k:Int)+1=((k+1:Nat):Int))) ?_;conv=>whnf
    have ex:x.turned=x:=if_neg c1
    have e5:turnL C (k+1)=turnL C k:=by
     rw [← turnL_set hx,ex]
     obtain ⟨hlt,e6⟩:=List.getElem?_eq_some_iff.1 (turnL_get hx)
     rw [← e6];exact List.set_getElem_self hlt
    refine ⟨⟨_,k+1,Au ⟨rfl,rfl,rfl,rfl,rfl,rfl,rfl,trivial⟩,by omega,t9,by rw [e5];exact o9⟩,?_⟩
    show 37-(k+1)<37-k
    omega
  rintro e h9 ⟨e3,rfl,t9,o9⟩
  have m9:=t9.mids
  have oc9:AllOk 2 h9 (turnL C 37):=fun x hx=>by
   unfold turnL at hx
   rw [List.drop_of_length_le (by omega),List.append_nil,List.take_of_length_le (by omega)] at hx
   obtain ⟨y,hy,rfl⟩:=List.mem_map.1 hx
   exact DoH.turned_ok ((oc8 y hy).move fun c t z _ m e=>m9 _ _ _ m e)
  have em9:(turnL C 37).map DoH.m=callsM.map DoM.turned:=by
   unfold turnL
   rw [List.drop_of_length_le (by omega),List.append_nil,List.take_of_length_le (by omega),← mC,List.map_map,List.map_map]
   exact List.map_congr_left fun x _=>DoH.turned_m x
  have ob9:b.turned.Ok 2 h9:=BeginH.turned_ok (ob8.move fun c t y _ m e=>m9 _ _ _ m e)
  have k9:=t9.get (by simp) k8
  have w9:=w8.trans m9
  have hr9:b.turned.m.runs ((turnL C 37).map DoH.m)=true:=by rw [em9,BeginH.turned_m];exact hr1.2
  conv=>whnf
  repeat (refine Av ?_;conv=>whnf)
  refine Aa rfl k9 rfl ?_;conv=>whnf
  by_cases cb:b.self=1
  ·refine Ac (cb) ?_;conv=>whnf
   repeat (refine Av ?_;conv=>whnf)
   have et:b.turned={b with self:=2}:=if_pos cb
   refine Af rfl rfl rfl (k9) rfl (({b with self:=2}:BeginH).cells) rfl fun hA tA kA aA eA=>?_;conv=>whnf
   refine ⟨_,b.turned,turnL C 37,Au ⟨rfl,rfl,rfl,rfl,rfl,rfl,trivial⟩,w9.trans tA.mids,by rw [et];exact kA,ob9.move fun c t y _ m e=>tA.mids _ _ _ m e,o9.sl.keepT tA (by simp),fun x hx=>(oc9 x hx).move fun c t y _ m e=>tA.mids _ _ _ m e,hr9⟩
  ·refine Ad (cb) ?_;conv=>whnf
   repeat (refine Av ?_;conv=>whnf)
   have et:b.turned=b:=if_neg cb
   exact ⟨_,b.turned,turnL C 37,Au ⟨rfl,rfl,rfl,rfl,rfl,rfl,trivial⟩,w9,by rw [et];exact k9,ob9,o9.sl,oc9,hr9⟩
 rintro e h5 ⟨e0,rfl,w5⟩
 have kB:=w5 _ (1,30) _ (by decide) kB
 have okB:AllB h5 L:=fun b hb=>(okB b hb).move fun c t y _ m e=>w5 _ _ _ m e
 have st5:∀ c y,h c=some ((0,0),y)→h5 c=some ((0,0),y):=fun c y e=>w5 _ _ _ (by show 0<2;omega) (sh4 _ _ e)
 clear w5 sh4 oC kC mC
 conv=>whnf
 refine Av ?_;conv=>whnf
 refine Av ?_;conv=>whnf
 refine ACalls.mono (playsF_any h5 2 (by omega)) ?_
 rintro _ h6 ⟨rfl,w6⟩
 conv=>whnf
 refine Av ?_;conv=>whnf
 have kB:=w6 _ (1,30) _ (by decide) kB
 have okB:AllB h6 L:=fun b hb=>(okB b hb).move fun c t y _ m e=>w6 _ _ _ m e
 have st6:∀ c y,h c=some ((0,0),y)→h6 c=some ((0,0),y):=fun c y e=>w6 _ _ _ (by show 0<2;omega) (st5 _ _ e)
 clear w6 st5
 refine ABuildSl.cat (2,60) ([hk 6 24,hp (pvH 2 2 1 true),hp (pvH 2 2 2 true)].map DoH.cells) rfl rfl rfl rfl rfl rfl rfl rfl fun b24 h7 n7 s7 k7=>?_;conv=>whnf
 have st7:∀ c y,h c=some ((0,0),y)→h7 c=some ((0,0),y):=fun c y e=>s7 _ _ (st6 _ _ e)
 have kB:=s7 _ _ kB
 have okB:AllB h7 L:=fun b hb=>(okB b hb).sub s7
 clear st6
 refine AIf.cut (fun e h'=>∃ (e0:Env) (ao:Option Addr) (co:Nat) (Lo:List DoH),e=updL 383 e0 [(17, .slice (some ⟨bB,0,none⟩) 15 15),(24, .slice ao 60 co)]∧(∀ b (t:Tag) x,t≠(2,60)→h7 b=some (t,x)→h' b=some (t,x))∧Sl h' (2,60) ao 60 co 17 (Lo.map DoH.cells).flatten∧AllOk 2 h' Lo∧Lo.map DoH.m=openM) ?_ ?_
 ·conv=>whnf
  refine Av ?_;conv=>whnf
  refine ALoop.mk (fun e h'=>∃ (e0:Env) (k:Nat) (ao:Option Addr) (co:Nat),e=updL 383 e0 [(17, .slice (some ⟨bB,0,none⟩) 15 15),(24, .slice ao (3+k) co),(25,I k)]∧k≤57∧(∀ b (t:Tag) x,t≠(2,60)→h7 b=some (t,x)→h' b=some (t,x))∧Own h' (2,60) 52 ao (3+k) co 17 (([hk 6 24,hp (pvH 2 2 1 true),hp (pvH 2 2 2 true)]++List.replicate k (hk 2 1)).map DoH.cells).flatten) (fun e=>57-natOf (e 25))
   ⟨_,0,some ⟨b24,0,none⟩,3,Au ⟨rfl,rfl,rfl,trivial⟩,by omega,fun _ _ _ _ e=>e, .inr ⟨b24,_,rfl,k7,Nat.le_of_ble_eq_true rfl,Nat.le_refl _,rfl⟩⟩ ?_
  rintro e h8 ⟨e1,k,ao,co,rfl,hkk,w8,o8⟩
  conv=>whnf
  repeat (refine Av ?_;conv=>whnf)
  by_cases ck:k<57
  ·refine Ac ((by omega)) ?_;conv=>whnf
   repeat (refine Av ?_;conv=>whnf)
   refine ABuildSl.cat (2,61) ([hk 2 1].map DoH.cells) rfl rfl rfl rfl rfl rfl rfl rfl fun b9 h9 n9 s9 k9=>?_;conv=>whnf
   refine AAppend.own (t:=(2,60)) (E:=52) (z:=17) (by_:=184) (zero:=(hk 0 0).cells) (tx:=(2,61)) rfl ⟨_,rfl⟩ rfl rfl rfl rfl (by omega) (o8.move fun b x e=>s9 _ _ e) (row_calls k9 rfl) rfl (by omega) (by omega) fun a9 c9 hA oA tA _=>?_
   conv=>whnf
   refine Ag (by omega) (by omega) ((by omega:(k:Int)+1=((k+1:Nat):Int))) ?_;conv=>whnf
   refine ⟨⟨_,k+1,a9,c9,Au ⟨rfl,rfl,rfl,trivial⟩,by omega,fun b t x n e=>tA _ _ _ n (s9 _ _ (w8 _ _ _ n e)),?_⟩,?_⟩
   ·rw [← List.flatten_append,← List.map_append,List.append_assoc,← List.replicate_succ'] at oA
    exact oA
   ·show 57-(k+1)<57-k
    omega
  ·refine Ad ((by omega)) ?_;conv=>whnf
   obtain rfl:k=57:=by omega
   refine ⟨_,ao,co,_,Au ⟨rfl,rfl,trivial⟩,w8,o8.sl,?_,rfl⟩
   refine oks_app (oks_cons (ok_plain (by omega) rfl rfl rfl rfl rfl rfl) (oks_cons (ok_plain (by omega) rfl rfl rfl rfl rfl rfl) (oks_cons (ok_plain (by omega) rfl rfl rfl rfl rfl rfl) oks_nil))) fun x hx=>?_
   rw [(List.mem_replicate.1 hx).2]
   exact ok_plain (by omega) rfl rfl rfl rfl rfl rfl
 rintro e h8 ⟨e0,ao,co,Lo,rfl,w8,ko,oo,mo⟩
 have kB:=w8 _ _ _ (by simp) kB
 have zB:∃ b,L[0]? = some b∧b.m=zeroM:=by
  cases L with
  | nil=>cases mB
  | cons b r=>exact ⟨b,rfl,Option.some.inj (congrArg List.head? mB)⟩
 have okB:AllB h8 L:=fun b hb=>(okB b hb).move fun c t y _ m e=>w8 _ _ _ (fun z=>by rw [z] at m;exact Nat.lt_irrefl _ m) e
 have st8:∀ c y,h c=some ((0,0),y)→h8 c=some ((0,0),y):=fun c y e=>w8 _ _ _ (by simp) (st7 _ _ e)
 obtain ⟨b0,hb0,mb0⟩:=zB
 have ob0:b0.Ok 2 h8:=okB b0 (List.mem_of_getElem? hb0)
 obtain ⟨⟨⟨⟨or1,or2⟩,or3⟩,or4⟩,or5⟩:(((cnewOk 1 14 saved0 0=true∧ticked0B 10 (cnew 1 14 saved0 0)=true)∧(ticked0 10 (cnew 1 14 saved0 0)).goodB=true)∧open0.goodB=true)∧openAll 70 open0 0=true:=by
  have:=open_runs
  simp only [Bool.and_eq_true] at this
  exact this
 clear okB w8 st7 or5
 conv=>whnf
 refine Av ?_;conv=>whnf
 refine ACalls.mono (New_any' (h:=h8) 5 (by omega) 1 14 (x:=shZ) (t1:=(1,1)) (t2:=(1,1)) (t3:=(1,1)) 0 ⟨ents_of (Sl.nil _ _ _ _ _) good_nil,sl_zero _ _⟩ (by simp) (by simp) (by simp) (by simp [shZ]) (by omega) (by omega) (by simp [shZ]) (by simp [shZ]) (by simp [shZ,slv0]) (by simp [shZ,slv0])) ?_
 rintro _ h9 (⟨a,rfl,kk⟩ | ⟨a,p,rfl,ip,kk⟩)
 ·rw [show shZ.abs=saved0 from rfl,or1] at a;cases a
 rw [show shZ.abs=saved0 from rfl] at ip
 conv=>whnf
 refine Av ?_;conv=>whnf
 refine Av ?_;conv=>whnf
 refine Ad ((by simp)) ?_;conv=>whnf
 refine AIf.cut (fun e h'=>∃ (e0:Env),e=updL 383 e0 [(17, .slice (some ⟨bB,0,none⟩) 15 15),(24, .slice ao 60 co),(26,Ptr p)]∧PIdle h' p 5 (ticked0 10 (cnew 1 14 saved0 0))∧Keeps [5,6,7] h9 h') ?_ ?_
 ·conv=>whnf
  refine Av ?_;conv=>whnf
  refine ALoop.mk (fun e h'=>∃ (e0:Env) (k j:Nat) (C:CoreM),e=updL 383 e0 [(17, .slice (some ⟨bB,0,none⟩) 15 15),(24, .slice ao 60 co),(26,Ptr p),(28,I j)]∧j+k=10∧C.out=out0∧ticked0B k C=true∧ticked0 10 (cnew 1 14 saved0 0)=ticked0 k C∧PIdle h' p 5 C∧Keeps [5,6,7] h9 h') (fun e=>10-natOf (e 28))
   ⟨_,10,0,_,Au ⟨rfl,rfl,rfl,rfl,trivial⟩,by omega,rfl,or2,rfl,ip,Keeps.refl _ _⟩ ?_
  rintro e hA ⟨e1,k,j,C,rfl,hjk,hO,hB,hT,ipA,kkA⟩
  conv=>whnf
  repeat (refine Av ?_;conv=>whnf)
  cases k with
  | zero =>
   refine Ad ((by omega)) ?_;conv=>whnf
   rw [hT]
   exact ⟨_,Au ⟨rfl,rfl,rfl,trivial⟩,ipA,kkA⟩
  | succ k =>
   unfold ticked0B at hB
   simp only [Bool.and_eq_true] at hB
   refine Ac ((by omega)) ?_;conv=>whnf
   repeat (refine Av ?_;conv=>whnf)
   refine ACalls.mono (tick_two 7 (by omega) ipA (CoreM.goodB_ok hB.1 hO).dk.ok 0) ?_
   rintro _ hC ⟨u,rfl,ox,rfl,okC,ipC,kkC⟩
   conv=>whnf
   repeat (refine Av ?_;conv=>whnf)
   refine Ag (by omega) (by omega) ((by omega:(j:Int)+1=((j+1:Nat):Int))) ?_;conv=>whnf
   refine ⟨⟨_,k,j+1,_,Au ⟨rfl,rfl,rfl,rfl,trivial⟩,by omega,ticked_out hO 0,hB.2,hT,ipC,kkA.trans fun c t y ht e=>kkC _ _ _ (fun z=>ht (by simp at z ⊢;omega)) e⟩,?_⟩
   show 10-(j+1)<10-j
   omega
 rintro e hA ⟨e1,rfl,ipA,kkA⟩
 have tout:(ticked0 10 (cnew 1 14 saved0 0)).out=out0:=by
  have:∀ (k:Nat) (C:CoreM),C.out=out0→(ticked0 k C).out=out0:=by
   intro k
   induction k with
   | zero=>intro C h;exact h
   | succ k ih=>intro C h;exact ih _ (ticked_out h 0)
  exact this 10 _ rfl
 conv=>whnf
 refine Av ?_;conv=>whnf
 refine ACalls.mono (take_two 7 (by omega) ipA (CoreM.goodB_ok or3 tout).dk.ok (pvH 2 2 1 true) (fun oo _ hoo=>doc_given (t1:=(1,0)) (t2:=(1,0)) (t3:=(1,0)) ⟨ents_of (Sl.nil _ _ _ _ _) good_nil,sl_zero _ _⟩ (by simp) (by simp) (by simp) hoo (by simp [pvH]) (by simp [pvH]) (by simp [pvH]) (by simp [pvH,slv0])) 0) ?_
 rintro _ hD ⟨u,rfl,ox,rfl,okD,ipD,kkD⟩
 conv=>whnf
 have ipD:PIdle hD p 5 (proposed0 0 open0):=ipD
 have kk9:Keeps [5,6,7] h9 hD:=kkA.trans fun c t y ht e=>kkD _ _ _ (fun z=>ht (by simp at z ⊢;omega)) e
 have oD:Sl hD (2,60) ao 60 co 17 (Lo.map DoH.cells).flatten:=ko.move fun c y e=>kk9 _ _ _ (by simp) (kk _ _ _ (by simp) e)
 have mD:Mids 2 h8 hD:=fun c t y m e=>kk9 _ _ _ (by simp;omega) (kk _ _ _ (by omega) e)
 have kBD:=mD _ (1,30) _ (by decide) kB
 have ob0D:b0.Ok 2 hD:=ob0.move fun c t y _ m e=>mD _ _ _ m e
 have ooD:AllOk 2 hD Lo:=fun x hx=>(oo x hx).move fun c t y _ m e=>mD _ _ _ m e
 have stD:∀ c y,h c=some ((0,0),y)→hD c=some ((0,0),y):=fun c y e=>mD _ _ _ (by show 0<2;omega) (st8 _ _ e)
 clear kk9 mD kkA kkD kk ob0 oo ko kB st8 ipA ip tout okD
 refine AIf.cut (fun e h'=>∃ (e0:Env),e=updL 383 e0 [(17, .slice (some ⟨bB,0,none⟩) 15 15),(24, .slice ao 60 co)]∧Keeps [5,6,7] hD h') ?_ ?_
 ·conv=>whnf
  refine Av ?_;conv=>whnf
  refine ALoop.mk (fun e h'=>∃ (e0:Env) (k:Nat),e=updL 383 e0 [(17, .slice (some ⟨bB,0,none⟩) 15 15),(24, .slice ao 60 co),(26,Ptr p),(29,I k)]∧k≤70∧PIdle h' p 5 (proposed0 k open0)∧Keeps [5,6,7] hD h') (fun e=>70-natOf (e 29)) ⟨_,0,Au ⟨rfl,rfl,rfl,rfl,trivial⟩,by omega,ipD,Keeps.refl _ _⟩ ?_
  clear ipD
  rintro e hE ⟨e2,k,rfl,hkk,ipE,kkE⟩
  conv=>whnf
  repeat (refine Av ?_;conv=>whnf)
  by_cases ck:k<70
  rotate_left
  ·refine Ad ((by omega)) ?_;conv=>whnf
   exact ⟨_,Au ⟨rfl,rfl,trivial⟩,kkE⟩
  refine Ac ((by omega)) ?_;conv=>whnf
  repeat (refine Av ?_;conv=>whnf)
  have ob:=open_at ck
  unfold openB at ob
  simp only [Bool.and_eq_true,Bool.or_eq_true,decide_eq_true_eq,beq_iff_eq] at ob
  obtain ⟨⟨⟨ob1,ob2⟩,ob3⟩,ob4⟩:=ob
  have pout:∀ k,(proposed0 k open0).out=out0:=by
   intro k
   induction k with
   | zero=>rfl
   | succ k ih=>exact proposed_out ih _ _
  refine ACalls.mono (propose_two 7 (by omega) ipE (CoreM.goodB_ok ob1 (pout k)).dk.ok 1 (t:=(1,0)) (sl_zero _ _) (by simp)) ?_
  have ep:proposed0 (k+1) open0=((proposed0 k open0).proposed 1 []).2.2.2:=rfl
  generalize (proposed0 k open0).proposed 1 []=R at *
  obtain ⟨n,er,O,C⟩:=R
  simp only at ob2 ob3 ob4 ep ⊢
  rintro _ hF ⟨u,rfl,ox,rfl,okF,ipF,kkF⟩
  conv=>whnf
  refine Ak (0,1) (outCells out0 ox0) rfl fun b31 hG nG sG kG=>?_;conv=>whnf
  refine Ae rfl rfl rfl (kG) rfl (outCells O ox) rfl fun hH tH kH aH eH=>?_;conv=>whnf
  have sH:=aH _ sG nG
  have ipH:PIdle hH p 5 (proposed0 (k+1) open0):=by rw [ep];exact ipF.move fun _ _ _ _ e=>sH _ _ e
  have kkH:Keeps [5,6,7] hD hH:=kkE.trans fun c t y ht e=>sH _ _ (kkF _ _ _ (fun z=>ht (by simp at z ⊢;omega)) e)
  repeat (refine Av ?_;conv=>whnf)
  by_cases c0:er=0
  ·have ck3:(k:Int)<63:=by
    have:decide ((k:Int)<63)=true:=by rw [← ob3];exact decide_eq_true c0
    exact of_decide_eq_true this
   have en:n=(k:Int)+2:=by
    rcases ob4 with h | h
    ·exact absurd c0 h
    ·exact h
   refine Ac (c0) ?_;conv=>whnf
   refine Ac (ck3) ?_;conv=>whnf
   refine Ac (c0) ?_;conv=>whnf
   refine Ag (by omega) (by omega) (rfl) ?_;conv=>whnf
   refine Ad ((by omega)) ?_;conv=>whnf
   refine Ad ((by simpa using c0)) ?_;conv=>whnf
   repeat (refine Av ?_;conv=>whnf)
   refine Ag (by omega) (by omega) ((by omega:(k:Int)+1=((k+1:Nat):Int))) ?_;conv=>whnf
   refine ⟨⟨_,k+1,Au ⟨rfl,rfl,rfl,rfl,trivial⟩,by omega,ipH,kkH⟩,?_⟩
   show 70-(k+1)<70-k
   omega
  ·have ck3:¬ (k:Int)<63:=by
    have:decide ((k:Int)<63)=false:=by rw [← ob3];exact decide_eq_false c0
    exact of_decide_eq_false this
   refine Ad (c0) ?_;conv=>whnf
   refine Ad (ck3) ?_;conv=>whnf
   refine Ad (c0) ?_;conv=>whnf
   refine Ac (c0) ?_;conv=>whnf
   refine Ad ((by omega)) ?_;conv=>whnf
   repeat (refine Av ?_;conv=>whnf)
   refine Ag (by omega) (by omega) ((by omega:(k:Int)+1=((k+1:Nat):Int))) ?_;conv=>whnf
   refine ⟨⟨_,k+1,Au ⟨rfl,rfl,rfl,rfl,trivial⟩,by omega,ipH,kkH⟩,?_⟩
   show 70-(k+1)<70-k
   omega
 rintro e hE ⟨e2,rfl,kkE⟩
 have m2:Mids 2 hD hE:=fun c t y m e=>kkE _ _ _ (by simp;omega) e
 have oE:Sl hE (2,60) ao 60 co 17 (Lo.map DoH.cells).flatten:=oD.move fun c y e=>kkE _ _ _ (by simp) e
 conv=>whnf
 repeat (refine Av ?_;conv=>whnf)
 refine ACalls.mono (awake_mild hE 3 (by omega)) ?_
 rintro _ hF ⟨rfl,L3⟩
 conv=>whnf
 have kBF:=L3 _ _ _ (by decide) (m2 _ (1,30) _ (by decide) kBD)
 obtain ⟨bq,off,lq,E',fz,ea,hbq,hpq,_⟩:=(row_at (z:=10) (n:=15) kBF (by rw [flat_len (begin_rz L),List.length_map,lB])).elem (begin_rz L) (by simp [lB]) (by omega) (i:=0) (e:=b0.cells) (by rw [List.getElem?_map,hb0];rfl)
 cases ea
 refine Ai (n:=15) (z:=10) (j:=0) rfl (by omega) rfl rfl ?_;conv=>whnf
 refine Ab rfl hbq hpq rfl ?_;conv=>whnf
 refine ACalls.mono (plays_any (N:=3) (by omega) b0 (BeginH.Ok.up (ob0D.move fun c t y _ m e=>L3 _ _ _ (by omega) (m2 _ _ _ m e))) Lo (oE.move fun c y e=>L3 _ _ _ (by decide) e) (by decide) (by decide) (fun x hx=>DoH.Ok.up ((ooD x hx).move fun c t y _ m e=>L3 _ _ _ (by omega) (m2 _ _ _ m e))) (by omega) (by rw [mo,mb0];exact runs4)) ?_
 rintro _ hG ⟨rfl,mG⟩
 conv=>whnf
 exact ⟨rfl,fun c y e=>mG _ _ _ (by show 0<3;omega) (L3 _ _ _ (by show 0<3;omega) (m2 _ _ _ (by show 0<2;omega) (stD _ _ e)))⟩
end Go.Ah
