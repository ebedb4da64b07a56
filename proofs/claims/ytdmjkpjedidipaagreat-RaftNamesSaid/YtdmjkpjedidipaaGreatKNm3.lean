/- Texts that the law leans on, one behind the other. -/
import Derived.Test.YtdmjkpjedidipaaGreatKNm2
namespace Go.Ah
open Go.Proofs
set_option linter.unusedVariables false
set_option linter.unusedSimpArgs false
set_option maxRecDepth 20000
set_option maxHeartbeats 16000000
theorem Sub.nil (h:Heap):Sub nilHeap h:=fun _ _ e=>by simp [nilHeap] at e
theorem Less_any (h:Heap) (x y:Int):ACalls PR 203 #[I x,I y] h (fun v h'=>v = .bool (decide (x<y))∧h=h'):=by
 have nan:∀ z:Int,ACalls PR 178 #[I z] h (fun v h'=>v = .bool false∧h=h'):=by
  intro z
  refine Ar (As mix Tryz.func178 rfl rfl Tryz.ntmps178 Tryz.results178 rfl ?_);conv=>whnf
  refine Ad (by simp) ?_;conv=>whnf
  exact ⟨rfl,Sub.refl _⟩
 refine Ar (As mix Tryz.func203 rfl rfl Tryz.ntmps203 Tryz.results203 rfl ?_);conv=>whnf
 refine C2 (nan x) ?_;conv=>whnf
 refine ACmp.dec ?_
 conv=>whnf
 exact ⟨rfl,Sub.refl _⟩
theorem cell_at {L:List Value} {n j:Nat} {ys:List Int} (hL:L.take n=ys.map I) (hy:ys.length=n) (hj:j<n):L[0+j*1]? = some (I (gd ys j)):=by
 have:(L.take n)[j]? = some (I (gd ys j)):=by rw [hL,gd_get (by omega)];simp [show j<ys.length by omega]
 rw [List.getElem?_take,if_pos hj] at this
 rw [show 0+j*1=j by omega];exact this
theorem sw_cells {L:List Value} {n j:Nat} {ys:List Int} (hL:L.take n=ys.map I) (hy:ys.length=n) (hj:j+1<n) :
  ((L.set (0+(j+1)*1) (I (gd ys j))).set (0+j*1) (I (gd ys (j+1)))).take n=(sw ys j).map I:=by
 rw [show 0+(j+1)*1=j+1 by omega,show 0+j*1=j by omega]
 unfold sw
 rw [List.map_set,List.map_set,← hL,List.take_set,List.take_set]
theorem isort_any (h:Heap) {tg:Tag} {b n cp:Nat} {L:List Value} {xs:List Int} (hb:h b=some (row tg L 3)) (hL:L.take n=xs.map I) (hx:xs.length=n) (hcp:cp≤L.length) (hn:n≤12) (hn0:0<n) (hnc:n≤cp) :
  ACalls PR 197 #[.slice (some ⟨b,0,none⟩) n cp,I 0,I n] h (fun v h'=>v = .tuple #[]∧∃ L' ys,h.set b (row tg L' 3)=h'∧cp≤L'.length∧L'.take n=ys.map I∧ys.length=n∧(∀ x∈ys,x∈xs)∧(∀ v,cnt v ys=cnt v xs)∧SortedTo ys n):=by
 refine ACalls.drop (R:=fun v h'=>v = .tuple #[]∧∃ L' ys,Sub (h.set b (row tg L' 3)) h'∧cp≤L'.length∧L'.take n=ys.map I∧ys.length=n∧(∀ x∈ys,x∈xs)∧(∀ v,cnt v ys=cnt v xs)∧SortedTo ys n) ?_ ?_
 ·refine As mix Tryz.func197 rfl rfl Tryz.ntmps197 Tryz.results197 rfl ?_;conv=>whnf
  refine Ag (by omega) (by omega) (rfl) ?_;conv=>whnf
  refine ALoop.mk (fun e h'=>∃ e0,∃ i:Nat,∃ L' ys,e=updL 49 e0 [(0, .slice (some ⟨b,0,none⟩) n cp),(1,I 0),(2,I n),(6,I i)]∧1≤i∧i≤n∧Sub (h.set b (row tg L' 3)) h'∧cp≤L'.length∧L'.take n=ys.map I∧ys.length=n∧(∀ x∈ys,x∈xs)∧(∀ v,cnt v ys=cnt v xs)∧SortedTo ys i)
   (fun e=>n-natOf (e 6)) ⟨_,1,L,xs,Au ⟨rfl,rfl,rfl,rfl,trivial⟩,by omega,by omega,by rw [Heap.set_self hb];exact Sub.refl _,hcp,hL,hx,fun _ m=>m,fun _=>rfl,fun p q h1 h2=>by omega⟩ ?_
  rintro e h2 ⟨e0,i,L2,ys,rfl,hi1,hin,sb,hc2,hL2,hy2,hm2,hcn2,hso⟩
  conv=>whnf
  by_cases hii:i<n
  ·refine Ac (by omega) ?_;conv=>whnf
   refine ALoop.mk (fun e h'=>∃ e1,∃ j:Nat,∃ L' ys,e=updL 49 e1 [(0, .slice (some ⟨b,0,none⟩) n cp),(1,I 0),(2,I n),(6,I i),(7,I j)]∧j≤i∧Sub (h.set b (row tg L' 3)) h'∧cp≤L'.length∧L'.take n=ys.map I∧ys.length=n∧(∀ x∈ys,x∈xs)∧(∀ v,cnt v ys=cnt v xs)∧Ins ys i j)
    (fun e=>natOf (e 7)) ⟨_,i,L2,ys,Au ⟨rfl,rfl,rfl,rfl,rfl,trivial⟩,by omega,sb,hc2,hL2,hy2,hm2,hcn2,hso.ins⟩ ?_
   clear hso hcn2 hm2 hy2 hL2 hc2 sb ys L2
   rintro e h3 ⟨e1,j,L3,ys,rfl,hji,sb,hc3,hL3,hy3,hm3,hcn3,hin3⟩
   have hb3:=sb _ _ (Heap.set_same _ _ _)
   conv=>whnf
   by_cases hj0:0<j
   ·refine Am (h3) [] (Sub.refl _) (by decide +kernel) ?_;conv=>whnf
    refine Ac (by omega) ?_;conv=>whnf
    obtain ⟨j,rfl⟩:∃ q,j=q+1:=⟨j-1,by omega⟩
    refine Ai (z:=1) (j:=j+1) rfl (by omega) rfl rfl ?_;conv=>whnf
    refine Aa rfl hb3 (cell_at hL3 hy3 (by omega)) ?_;conv=>whnf
    refine Ag (by omega) (by omega) (rfl) ?_;conv=>whnf
    refine Ai (z:=1) (j:=j) (by omega) (by omega) rfl rfl ?_;conv=>whnf
    refine Aa rfl hb3 (cell_at hL3 hy3 (by omega)) ?_;conv=>whnf
    refine ACalls.mono (Less_any h3 _ _) ?_
    rintro _ _ ⟨rfl,rfl⟩
    refine ⟨Sub.refl _,?_⟩
    cases hlt:decide (gd ys (j+1)<gd ys j) with
    | true =>
     conv=>whnf
     have hlt:=of_decide_eq_true hlt
     refine Am (h3) [15] (Sub.refl _) (by decide +kernel) ?_;conv=>whnf
     refine Ag (by omega) (by omega) (rfl) ?_;conv=>whnf
     refine Ag (by omega) (by omega) (rfl) ?_;conv=>whnf
     refine Ai (z:=1) (j:=j) (by omega) (by omega) rfl rfl ?_;conv=>whnf
     refine Aa rfl hb3 (cell_at hL3 hy3 (by omega)) ?_;conv=>whnf
     refine Ai (z:=1) (j:=j+1) rfl (by omega) rfl rfl ?_;conv=>whnf
     refine Aa rfl hb3 (cell_at hL3 hy3 (by omega)) ?_;conv=>whnf
     refine Ai (z:=1) (j:=j+1) rfl (by omega) rfl rfl ?_;conv=>whnf
     refine AStore.one rfl rfl rfl hb3 (by omega) ?_;conv=>whnf
     refine Ai (z:=1) (j:=j) (by omega) (by omega) rfl rfl ?_;conv=>whnf
     refine AStore.one rfl rfl rfl (Heap.set_same _ _ _) (by simp;omega) ?_
     refine ⟨Sub.nil _,?_⟩
     rw [Heap.set_set]
     conv=>whnf
     refine Ag (by omega) (by omega) ((by omega:((j+1:Nat):Int)-1=(j:Int))) ?_;conv=>whnf
     refine ⟨⟨_,j,_,sw ys j,Au ⟨rfl,rfl,rfl,rfl,rfl,trivial⟩,by omega,?_,?_,sw_cells hL3 hy3 (by omega),by rw [sw_len,hy3],fun x hx=>hm3 x (sw_mem (by omega) hx),fun v=>by rw [sw_cnt v ys j (by omega),hcn3],hin3.step (by omega) (by omega) hlt⟩,?_⟩
     ·intro c x hcx
      by_cases e:c=b
      ·subst e;rw [Heap.set_same] at hcx ⊢;exact hcx
      ·simp only [Heap.set,e,if_false] at hcx ⊢
       exact sb _ _ (by simp only [Heap.set,e,if_false];exact hcx)
     ·simp [hc3]
     ·show j<j+1
      omega
    | false =>
     conv=>whnf
     have hfin:=hin3.stop (by omega) (of_decide_eq_false hlt)
     refine Ag (by omega) (by omega) ((by omega:(i:Int)+1=((i+1:Nat):Int))) ?_;conv=>whnf
     refine ⟨⟨_,i+1,L3,ys,Au ⟨rfl,rfl,rfl,rfl,trivial⟩,by omega,by omega,sb,hc3,hL3,hy3,hm3,hcn3,hfin⟩,?_⟩
     show n-(i+1)<n-i
     omega
   ·refine Am (h3) [] (Sub.refl _) (by decide +kernel) ?_;conv=>whnf
    refine Ad (by omega) ?_;conv=>whnf
    obtain rfl:j=0:=by omega
    have hfin:=hin3.zero
    refine Ag (by omega) (by omega) ((by omega:(i:Int)+1=((i+1:Nat):Int))) ?_;conv=>whnf
    refine ⟨⟨_,i+1,L3,ys,Au ⟨rfl,rfl,rfl,rfl,trivial⟩,by omega,by omega,sb,hc3,hL3,hy3,hm3,hcn3,hfin⟩,?_⟩
    show n-(i+1)<n-i
    omega
  ·refine Ad (by omega) ?_;conv=>whnf
   obtain rfl:i=n:=by omega
   exact ⟨rfl,L2,ys,sb,hc2,hL2,hy2,hm2,hcn2,hso⟩
 ·rintro v h' ⟨hv,L',ys,s,r⟩
  exact ⟨_,s,hv,L',ys,rfl,r⟩
theorem Len_any (h:Heap) (n:Nat) (h0:0<n) (hn:n≤5):ACalls PR 193 #[.int .u64 n] h (fun v h'=>∃ r,v=I r∧h=h'):=by
 have c:ACalls PR 207 #[.int .u64 n] h (fun v h'=>∃ r,v=I r∧h=h'):=by
  refine ACalls.drop (R:=fun v h'=>∃ r,v=I r∧Sub h h') ?_ fun v h' ⟨r,e,s⟩=>⟨h,s,r,e,rfl⟩
  have:n=1∨n=2∨n=3∨n=4∨n=5:=by omega
  rcases this with rfl | rfl | rfl | rfl | rfl
  all_goals (refine As mix Tryz.func207 rfl rfl Tryz.ntmps207 Tryz.results207 rfl ?_;conv=>whnf)
  all_goals (refine Ad (by omega) ?_;conv=>whnf)
  all_goals (refine Ad (by omega) ?_;conv=>whnf)
  all_goals (refine Ad (by omega) ?_;conv=>whnf)
  all_goals (refine AArith.as (by rfl) ?_;conv=>whnf)
  all_goals (first
   |refine AStrIdx.at (j:=1) rfl (by decide) rfl ?_
   |refine AStrIdx.at (j:=2) rfl (by decide) rfl ?_
   |refine AStrIdx.at (j:=3) rfl (by decide) rfl ?_
   |refine AStrIdx.at (j:=4) rfl (by decide) rfl ?_
   |refine AStrIdx.at (j:=5) rfl (by decide) rfl ?_)
  all_goals conv=>whnf
  all_goals (refine AArith.raw ?_;conv=>whnf)
  all_goals exact ⟨_,rfl,Sub.refl _⟩
 refine ACalls.drop (R:=fun v h'=>∃ r,v=I r∧Sub h h') ?_ fun v h' ⟨r,e,s⟩=>⟨h,s,r,e,rfl⟩
 refine As mix Tryz.func193 rfl rfl Tryz.ntmps193 Tryz.results193 rfl ?_;conv=>whnf
 refine ACalls.mono (c) ?_;rintro _ _ ⟨r,rfl,rfl⟩;conv=>whnf
 exact ⟨r,rfl,Sub.refl _⟩
theorem Sort_any (h:Heap) {tg:Tag} {b n cp:Nat} {L:List Value} {xs:List Int} (hb:h b=some (row tg L 3)) (hL:L.take n=xs.map I) (hx:xs.length=n) (hcp:cp≤L.length) (hn:n≤5) (hn0:0<n) (hnc:n≤cp) :
  ACalls PR 169 #[.slice (some ⟨b,0,none⟩) n cp] h (fun v h'=>v = .tuple #[]∧∃ L' ys,h.set b (row tg L' 3)=h'∧cp≤L'.length∧L'.take n=ys.map I∧ys.length=n∧(∀ x∈ys,x∈xs)∧(∀ v,cnt v ys=cnt v xs)∧SortedTo ys n):=by
 refine As mix Tryz.func169 rfl rfl Tryz.ntmps169 Tryz.results169 rfl ?_;conv=>whnf
 refine AArith.as (u64_wrap (by omega) (by omega)) ?_;conv=>whnf
 refine ACalls.mono (Len_any h n hn0 hn) ?_;rintro _ _ ⟨r,rfl,rfl⟩;conv=>whnf
 have c42:ACalls PR 192 #[.slice (some ⟨b,0,none⟩) n cp,I 0,I n,I r] h (fun v h'=>v = .tuple #[]∧∃ L' ys,h.set b (row tg L' 3)=h'∧cp≤L'.length∧L'.take n=ys.map I∧ys.length=n∧(∀ x∈ys,x∈xs)∧(∀ v,cnt v ys=cnt v xs)∧SortedTo ys n):=by
  refine As mix Tryz.func192 rfl rfl Tryz.ntmps192 Tryz.results192 rfl ?_;conv=>whnf
  refine ALoop.mk (fun e h'=>h=h'∧∃ e0,e=updL 134 e0 [(0, .slice (some ⟨b,0,none⟩) n cp),(1,I 0),(2,I n),(3,I r)]) (fun _=>0) ⟨rfl,_,Au ⟨rfl,rfl,rfl,rfl,trivial⟩⟩ ?_
  rintro e _ ⟨rfl,e0,rfl⟩
  conv=>whnf
  refine Ag (by omega) (by omega) (rfl) ?_;conv=>whnf
  refine Ac (by omega) ?_;conv=>whnf
  refine ACalls.mono (isort_any h hb hL hx hcp (by omega) hn0 hnc) ?_;rintro _ _ ⟨rfl,p⟩;conv=>whnf
  exact ⟨rfl,p⟩
 refine ACalls.mono (c42) ?_;rintro _ _ ⟨rfl,p⟩;conv=>whnf
 exact ⟨rfl,p⟩
def six (a0 a1 a2 a3 a4 a5:Int) (n:Int):Int:=gd [a0,a1,a2,a3,a4,a5] n.toNat
theorem six_cell (a0 a1 a2 a3 a4 a5:Int) (j:Nat) (h:j<5):([I a0,I a1,I a2,I a3,I a4,I a5]:List Value)[0+(j+1)*1]? = some (I (six a0 a1 a2 a3 a4 a5 ((j:Int)+1))):=by
 have:j=0∨j=1∨j=2∨j=3∨j=4:=by omega
 rcases this with rfl | rfl | rfl | rfl | rfl <;> rfl
theorem ls_get {k i:Nat} (hk:k<32) (hi:i<(ls k).length):∃ j:Nat,j<5∧(ls k)[i]=(j:Int)+1 :=
 ok1_pos (List.all_eq_true.1 (ls_ok k hk) _ (List.getElem_mem hi))
theorem NoOwner.set {o:Nat} {h:Heap} (n:NoOwner o h) (b:Nat) {t:Tag} (x:Obj) (ht:t.1≠o):NoOwner o (h.set b (t,x)):=fun c u y e=>by
 unfold Heap.set at e
 by_cases hc:c=b
 ·rw [if_pos hc] at e;cases e;exact ht
 ·rw [if_neg hc] at e;exact n _ _ _ e
theorem Rank_any (h:Heap) (c a0 a1 a2 a3 a4 a5:Int) :
  ACalls PR 121 #[I c, .agg #[I a0,I a1,I a2,I a3,I a4,I a5]] h (fun v h'=>(∃ r,v=I r∧RankOf ((ls (m5 c)).map (six a0 a1 a2 a3 a4 a5)) r)∧h=h'):=by
 refine ACalls.owner ⟨_,Tryz.func121,rfl,rfl⟩ fun o ho hbd=>?_
 refine Ar ?_
 refine As mix Tryz.func121 rfl rfl Tryz.ntmps121 Tryz.results121 rfl ?_;conv=>whnf
 refine ABox.mk (0,1) rfl fun b1 f1=>?_;conv=>whnf
 have s1:=f1.sub (row (0,1) [I a0,I a1,I a2,I a3,I a4,I a5] 39)
 have k1:=Heap.set_same h b1 (row (0,1) [I a0,I a1,I a2,I a3,I a4,I a5] 39)
 refine ACalls.mono (List_own _ c o ((hbd.no (Nat.le_refl _)).set _ _ (by simp;omega))) ?_;rintro _ h2 ⟨al,cl,rfl,slo,s2⟩;conv=>whnf
 have sl:=slo.sl
 have hnl5:(ls (m5 c)).length≤5:=by rw [ls_len _ (m5_lt c)];exact pop_le _
 have hm:=m5_lt c
 generalize hM:m5 c=M at *
 clear hM
 generalize hnl:(ls M).length=nl at *
 refine ALoop.mk (fun e h'=>∃ e0,∃ k:Nat,∃ a cp,e=updL 35 e0 [(3, .pointer (some ⟨b1,0,none⟩)),(5, .slice a k cp),(9, .slice al nl cl),(10,I nl),(11,I k)]∧k≤nl ∧
   Own h' (o+1,0) 3 a k cp 1 ((((ls M).take k).map (six a0 a1 a2 a3 a4 a5)).map I)∧Keep (o+1) h2 h')
  (fun e=>nl-natOf (e 11)) ⟨_,0,none,0,Au ⟨rfl,rfl,rfl,rfl,rfl,trivial⟩,by omega, .inl ⟨rfl,rfl,rfl⟩,Keep.refl _ _⟩ ?_
 rintro e h3 ⟨e0,k,a,cp,rfl,hk,hown,hkeep⟩
 conv=>whnf
 by_cases hkn:k<nl
 ·refine Ac (by omega) ?_;conv=>whnf
  have sl3:=sl.keep hkeep (by simp)
  have kb3:=hkeep.get (by simp) (s2 _ _ k1)
  obtain ⟨b,off,L,E,fz,rfl,hb,hc⟩:=sl3.pos (by omega)
  obtain ⟨j,hj,hjv⟩:=ls_get hm (show k<(ls M).length by omega)
  have g1:L[off+k*1]? = some (I ((j:Int)+1)):=by rw [get_of_take hc (by omega)];simp [show k<(ls M).length by omega,hjv]
  refine Ai (z:=1) (j:=k) rfl hkn rfl rfl ?_;conv=>whnf
  refine Aa rfl hb g1 ?_;conv=>whnf
  refine Aj (n:=6) (z:=1) (j:=j+1) (by omega) (by omega) rfl rfl ?_;conv=>whnf
  refine Aa rfl kb3 (six_cell a0 a1 a2 a3 a4 a5 j hj) ?_;conv=>whnf
  refine ABuildSl.mk (0,1) rfl rfl rfl rfl rfl rfl rfl fun b4 f4=>?_;conv=>whnf
  have s4:=f4.sub (row (0,1) [I (six a0 a1 a2 a3 a4 a5 ((j:Int)+1))] 3)
  refine AAppend.own (t:=(o+1,0)) (E:=3) (z:=1) (by_:=8) (zero:=[I 0]) (tx:=(0,1)) (xs:=[I (six a0 a1 a2 a3 a4 a5 ((j:Int)+1))]) rfl ⟨_,rfl⟩ rfl rfl rfl rfl (by omega) (hown.move fun _ _ z=>s4 _ _ z)
   ⟨rfl,Nat.le_refl _, .inr ⟨b4,0,_,_,_,rfl,Heap.set_same _ _ _,rfl⟩⟩ rfl (by omega) (by omega) fun a5' cap5 h5 hown5 hk5 _=>?_
  conv=>whnf
  refine Ag (by omega) (by omega) ((by omega:(k:Int)+1=((k+1:Nat):Int))) ?_;conv=>whnf
  refine ⟨⟨_,k+1,a5',cap5,Au ⟨rfl,rfl,rfl,rfl,rfl,trivial⟩,by omega,?_,hkeep.trans ((s4.keep (o+1)).trans hk5.keep)⟩,?_⟩
  ·rw [List.take_succ_eq_append_getElem (by omega),List.map_append,List.map_append,hjv];exact hown5
  show nl-(k+1)<nl-k
  omega
 ·refine Ad (by omega) ?_;conv=>whnf
  obtain rfl:k=nl:=by omega
  rw [List.take_of_length_le (by omega)] at hown
  by_cases h0:k=0
  ·refine Ac (by omega) ?_;conv=>whnf
   refine ⟨⟨0,rfl, .inl ⟨?_,rfl⟩⟩,Keep.toSub (o:=o+1) ?_ (hbd.no (by omega))⟩
   ·have:ls M=[]:=List.eq_nil_of_length_eq_zero (by omega)
    rw [this];rfl
   ·exact (s1.keep _).trans ((s2.keep _).trans hkeep)
  ·refine Ad (by omega) ?_;conv=>whnf
   rcases hown with ⟨e,_⟩ | ⟨b,L,rfl,hb,hLl,hncp,hL⟩
   ·exact absurd e h0
   rw [Nat.mul_one] at hL hLl
   have hxl:((ls M).map (six a0 a1 a2 a3 a4 a5)).length=k:=by rw [List.length_map];exact hnl
   refine ACalls.mono (Sort_any h3 hb hL hxl hLl (by omega) (by omega) hncp) ?_;rintro _ _ ⟨rfl,L',ys,rfl,hL'l,hL',hyl,hmem,hcnt,hso⟩;conv=>whnf
   refine Ag (by omega) (by omega) (rfl) ?_;conv=>whnf
   refine ⟨by decide,?_⟩
   conv=>whnf
   refine Ag (r':=(((k-1) / 2:Nat):Int)) (by rw [Int.tdiv_eq_ediv_of_nonneg (by omega)];omega) (by rw [Int.tdiv_eq_ediv_of_nonneg (by omega)];omega) (by rw [Int.tdiv_eq_ediv_of_nonneg (by omega)];omega) ?_;conv=>whnf
   refine Ai (z:=1) (j:=(k-1) / 2) rfl (by omega) rfl rfl ?_;conv=>whnf
   refine Aa rfl (Heap.set_same _ _ _) (cell_at hL' hyl (by omega)) ?_;conv=>whnf
   refine AInt.raw ?_;conv=>whnf
   refine ⟨⟨_,rfl,?_⟩,Keep.toSub (o:=o+1) ?_ (hbd.no (by omega))⟩
   ·have:=rank_of_sorted (xs:=(ls M).map (six a0 a1 a2 a3 a4 a5)) (ys:=ys) (by rw [hyl,hxl]) hmem hcnt (by rw [hyl];exact hso) (by intro e;rw [e] at hxl;simp at hxl;omega)
    rw [hyl] at this
    exact this
   ·exact (s1.keep _).trans ((s2.keep _).trans (hkeep.trans (KeepT.set hb).keep))
theorem cnt_take {v:Int} {xs:List Int} {j:Nat} (h:j<xs.length):cnt v (xs.take (j+1))=cnt v (xs.take j)+(decide (v≤xs[j])).toNat:=by
 rw [List.take_succ_eq_append_getElem h,cnt_snoc]
theorem cnt_le (v:Int) (xs:List Int):cnt v xs≤xs.length:=List.countP_le_length
theorem refRank_any (h:Heap) (c a0 a1 a2 a3 a4 a5:Int) (hc : -9223372036854775808≤c) (hc':c≤9223372036854775807) (r:Int) (hr:RankOf ((ls (m5 c)).map (six a0 a1 a2 a3 a4 a5)) r) :
  ACalls PR 163 #[I c, .agg #[I a0,I a1,I a2,I a3,I a4,I a5]] h (fun v h'=>v=I r∧h=h'):=by
 refine Ar (As mix Tryz.func163 rfl rfl Tryz.ntmps163 Tryz.results163 rfl ?_);conv=>whnf
 refine ABox.mk (0,1) rfl fun b1 f1=>?_;conv=>whnf
 have s1:=f1.sub (row (0,1) [I a0,I a1,I a2,I a3,I a4,I a5] 39)
 have k1:=Heap.set_same h b1 (row (0,1) [I a0,I a1,I a2,I a3,I a4,I a5] 39)
 refine ACalls.mono (refList_any _ c hc hc') ?_;rintro _ h2 ⟨al,cl,tl,rfl,sl,s2⟩;conv=>whnf
 have kb2:=s2 _ _ k1
 have s12:=s1.trans s2
 have hnl5:(ls (m5 c)).length≤5:=by rw [ls_len _ (m5_lt c)];exact pop_le _
 have hm:=m5_lt c
 generalize hM:m5 c=M at *
 clear hM
 generalize hxs:(ls M).map (six a0 a1 a2 a3 a4 a5)=xs at *
 have hxl:xs.length=(ls M).length:=by rw [← hxs,List.length_map]
 generalize hnl:(ls M).length=nl at *
 have hr0:0≤r:=by
  rcases hr with ⟨_,e⟩ | ⟨_,s,e,_⟩
  ·omega
  ·rw [e];split <;> omega
 have hrq:∀ x,nl<2*cnt x xs→x≤r:=by
  intro x hx
  rcases hr with ⟨e,_⟩ | ⟨_,s,e,_,k⟩
  ·rw [e] at hx;simp [cnt] at hx
  ·have:=(k x).2 (by omega)
   rw [e];split <;> omega
 have place:∀ k,k<nl→∃ b off L E fz,∃ j:Nat,al=some ⟨b,off,none⟩∧h2 b=some (tl, .cells (List.toArray L) E fz)∧L[off+k*1]? = some (I ((j:Int)+1))∧j<5∧∃ hk:k<xs.length,six a0 a1 a2 a3 a4 a5 ((j:Int)+1)=xs[k]:=by
  intro k hk
  obtain ⟨b,off,L,E,fz,e,hb,hcl⟩:=sl.pos (by omega)
  obtain ⟨j,hj,hjv⟩:=ls_get hm (show k<(ls M).length by omega)
  refine ⟨b,off,L,E,fz,j,e,hb,?_,hj,by omega,?_⟩
  ·rw [get_of_take hcl (by omega)];simp [show k<(ls M).length by omega,hjv]
  ·subst hxs;rw [List.getElem_map,hjv]
 refine ALoop.mk (fun e h'=>h'=h2∧∃ e0,∃ k:Nat,∃ best:Int,e=updL 53 e0 [(3, .pointer (some ⟨b1,0,none⟩)),(5, .slice al nl cl),(6,I best),(7,I k)]∧k≤nl∧0≤best∧best≤r∧∀ i,(hi:i<xs.length)→i<k→nl<2*cnt xs[i] xs→xs[i]≤best)
  (fun e=>nl-natOf (e 7)) ⟨rfl,_,0,0,Au ⟨rfl,rfl,rfl,rfl,trivial⟩,by omega,by omega,hr0,fun i hi h0=>by omega⟩ ?_
 rintro e h3 ⟨rfl,e0,k,best,rfl,hk,hb0,hbr,hbq⟩
 conv=>whnf
 by_cases hkn:k<nl
 ·refine Ac (by omega) ?_;conv=>whnf
  obtain ⟨b,off,L,E,fz,jk,rfl,hb,gk,hjk,hkx,hsk⟩:=place k hkn
  refine ALoop.mk (fun e h'=>h'=h3∧∃ e1,∃ j:Nat,e=updL 53 e1 [(3, .pointer (some ⟨b1,0,none⟩)),(5, .slice (some ⟨b,off,none⟩) nl cl),(6,I best),(7,I k),(8,I (cnt xs[k] (xs.take j))),(9,I j)]∧j≤nl)
   (fun e=>nl-natOf (e 9)) ⟨rfl,_,0,Au ⟨rfl,rfl,rfl,rfl,rfl,rfl,trivial⟩,by omega⟩ ?_
  rintro e h4 ⟨rfl,e1,j,rfl,hj⟩
  conv=>whnf
  by_cases hjn:j<nl
  ·refine Ac (by omega) ?_;conv=>whnf
   obtain ⟨b',off',L',E',fz',jj,e',hb',gj,hjj,hjx,hsj⟩:=place j hjn
   obtain ⟨rfl,rfl⟩:b'=b∧off'=off:=by cases e';exact ⟨rfl,rfl⟩
   obtain ⟨rfl,rfl,rfl⟩:L'=L∧E'=E∧fz'=fz:=by
    rw [hb] at hb'
    simp only [Option.some.injEq,Prod.mk.injEq,Obj.cells.injEq,true_and] at hb'
    exact ⟨(List.toArray_inj hb'.1).symm,hb'.2.1.symm,hb'.2.2.symm⟩
   have hcj:=cnt_take (v:=xs[k]) hjx
   have hcl:=cnt_le xs[k] (xs.take j)
   rw [List.length_take] at hcl
   refine Am (h4) [] (Sub.refl _) (by decide +kernel) ?_;conv=>whnf
   refine Ai (z:=1) (j:=j) rfl hjn rfl rfl ?_;conv=>whnf
   refine Aa rfl hb gj ?_;conv=>whnf
   refine Aj (n:=6) (z:=1) (j:=jj+1) (by omega) (by omega) rfl rfl ?_;conv=>whnf
   refine Aa rfl kb2 (six_cell a0 a1 a2 a3 a4 a5 jj hjj) ?_;conv=>whnf
   refine Ai (z:=1) (j:=k) rfl hkn rfl rfl ?_;conv=>whnf
   refine Aa rfl hb gk ?_;conv=>whnf
   refine Aj (n:=6) (z:=1) (j:=jk+1) (by omega) (by omega) rfl rfl ?_;conv=>whnf
   refine Aa rfl kb2 (six_cell a0 a1 a2 a3 a4 a5 jk hjk) ?_;conv=>whnf
   rw [hsk,hsj]
   refine ACmp.split (fun hge=>?_) (fun hge=>?_)
   ·conv=>whnf
    refine Ag (by omega) (by omega) (rfl) ?_;conv=>whnf
    refine Ag (by omega) (by omega) ((by omega:(j:Int)+1=((j+1:Nat):Int))) ?_;conv=>whnf
    refine ⟨⟨rfl,_,j+1,Au ⟨rfl,rfl,rfl,rfl,by rw [hcj,decide_eq_true hge];rfl,rfl,trivial⟩,by omega⟩,?_⟩
    show nl-(j+1)<nl-j
    omega
   ·conv=>whnf
    refine Ag (by omega) (by omega) ((by omega:(j:Int)+1=((j+1:Nat):Int))) ?_;conv=>whnf
    refine ⟨⟨rfl,_,j+1,Au ⟨rfl,rfl,rfl,rfl,by rw [hcj,decide_eq_false hge];rfl,rfl,trivial⟩,by omega⟩,?_⟩
    show nl-(j+1)<nl-j
    omega
  ·refine Ad (by omega) ?_;conv=>whnf
   obtain rfl:j=nl:=by omega
   rw [List.take_of_length_le (by omega)]
   have hcl:=cnt_le xs[k] xs
   refine Ag (by omega) (by omega) rfl ?_;conv=>whnf
   refine ACmp.split (fun hq=>?_) (fun hq=>?_)
   ·conv=>whnf
    refine Ai (z:=1) (j:=k) rfl hkn rfl rfl ?_;conv=>whnf
    refine Aa rfl hb gk ?_;conv=>whnf
    refine Aj (n:=6) (z:=1) (j:=jk+1) (by omega) (by omega) rfl rfl ?_;conv=>whnf
    refine Aa rfl kb2 (six_cell a0 a1 a2 a3 a4 a5 jk hjk) ?_;conv=>whnf
    rw [hsk]
    have hxr:=hrq xs[k] (by omega)
    refine AInt.raw ?_;conv=>whnf
    refine Ag (by omega) (by omega) ((by omega:(k:Int)+1=((k+1:Nat):Int))) ?_;conv=>whnf
    refine ⟨⟨rfl,_,k+1,_,Au ⟨rfl,rfl,rfl,rfl,trivial⟩,by omega,?_,?_,?_⟩,?_⟩
    ·split <;> omega
    ·split <;> omega
    ·intro i hi hik hqi
     by_cases e:i=k
     ·subst e;split <;> omega
     ·have:=hbq i hi (by omega) hqi
      split <;> omega
    show j-(k+1)<j-k
    omega
   ·conv=>whnf
    refine Ag (by omega) (by omega) ((by omega:(k:Int)+1=((k+1:Nat):Int))) ?_;conv=>whnf
    refine ⟨⟨rfl,_,k+1,best,Au ⟨rfl,rfl,rfl,rfl,trivial⟩,by omega,hb0,hbr,?_⟩,?_⟩
    ·intro i hi hik hqi
     by_cases e:i=k
     ·subst e;omega
     ·exact hbq i hi (by omega) hqi
    show j-(k+1)<j-k
    omega
 ·refine Ad (by omega) ?_;conv=>whnf
  refine ⟨?_,s12⟩
  refine congrArg (Value.int .i64) ?_
  rcases hr with ⟨_,e⟩ | ⟨_,s,e,hs,kq⟩
  ·omega
  ·obtain ⟨i,hi,rfl⟩:=List.mem_iff_getElem.1 hs
   have:=hbq i hi (by omega) (by have:=(kq xs[i]).1 (Int.le_refl _);omega)
   rw [e] at hbr ⊢
   split at hbr <;> split <;> omega
structure SnapM where
  index:Int
  term:Int
  crew:Int
  data:List Int
def snap0:SnapM:=⟨0,0,0,[]⟩
structure PostM where
  kind:Int
  src:Int
  dst:Int
  term:Int
  index:Int
  logTerm:Int
  commit:Int
  ok:Bool
  hint:Int
  entries:List Abs
  snap:SnapM
def post0:PostM:=⟨0,0,0,0,0,0,0,false,0,[],snap0⟩
structure OutM where
  hard:Bool
  term:Int
  vote:Int
  snap:SnapM
  cut:Int
  entries:List Abs
  posts:List PostM
  commit:Int
  reads:List Int
def out0:OutM:=⟨false,0,0,snap0,0,[],[],0,[]⟩
structure Five where
  a1:Int
  a2:Int
  a3:Int
  a4:Int
  a5:Int
def five0:Five:=⟨0,0,0,0,0⟩
def Five.all (x:Int):Five:=⟨x,x,x,x,x⟩
def Five.get (f:Five) (n:Int):Int:=if n=1 then f.a1 else if n=2 then f.a2 else if n=3 then f.a3 else if n=4 then f.a4 else if n=5 then f.a5 else 0
def Five.set (f:Five) (n x:Int):Five :=
  ⟨if n=1 then x else f.a1,if n=2 then x else f.a2,if n=3 then x else f.a3,if n=4 then x else f.a4,if n=5 then x else f.a5⟩
structure CoreM where
  self:Int
  first:Int
  term:Int
  vote:Int
  snap:SnapM
  log:LG
  state:Int
  head:Int
  commit:Int
  wait:Int
  quiet:Int
  votes:Int
  next:Five
  mtch:Five
  heard:Five
  beat:Int
  round:Int
  reads:List Int
  out:OutM
def crewNum (e:Abs):Int:=match e.2.2.2 with
  | [x]=>x
  | _=>0
def crewOk (e:Abs):Bool:=match e.2.2.2 with
  | [x]=>decide (cchk x=0)
  | _=>false
def crewsMay (l:List Abs):Bool:=l.all fun e=>decide (e.2.2.1≠2) || crewOk e
def crewIn (L:LG):Nat→Option (Int×Int)
  | 0=>none
  | k+1=>match L.es[k]? with
    | some e=>if e.2.2.1=2 then some (crewNum e,L.bi+1+k) else crewIn L k
    | none=>crewIn L k
def CoreM.crewUpTo (c:CoreM) (i:Int):Int×Int:=match crewIn c.log (i-c.log.bi).toNat with
  | some r=>r
  | none=>if 0<c.snap.index then (c.snap.crew,0) else (c.first,0)
def CoreM.crewNow (c:CoreM):Int×Int:=c.crewUpTo c.log.last.1
def CoreM.others (c:CoreM):List Int:=(ls (m5 c.crewNow.1)).filter fun n=>decide (n≠c.self)
def mostOf (now:Int) (p:Int→Bool):Bool:=decide ((ls (m5 now)).length<2*((ls (m5 now)).filter p).length)
def rankOf (now:Int) (f:Five):Int :=
  let l:=(ls (m5 now)).map f.get
  (l.filter fun v=>decide (l.length<2*cnt v l)).foldl (fun a b=>if a<b then b else a) 0
def CoreM.say (c:CoreM) (n:Int) (p:PostM):CoreM:={c with out:={c.out with posts:=c.out.posts++[{p with src:=c.self,dst:=n,term:=c.term}]}}
def CoreM.send (c:CoreM) (n:Int):CoreM :=
  if c.next.get n<c.log.bi+1 then c.say n {post0 with kind:=5,hint:=c.round,snap:=c.snap}
  else c.say n {post0 with kind:=3,index:=c.next.get n-1,logTerm:=(c.log.term (c.next.get n-1)).1,commit:=c.commit,hint:=c.round,entries:=(c.log.slice (c.next.get n) 8).1}
def CoreM.sendAll (c:CoreM):CoreM:=c.others.foldl CoreM.send c
def CoreM.follow (c:CoreM):CoreM:={c with state:=0,votes:=0,next:=five0,mtch:=five0,heard:=five0,beat:=0,round:=0,reads:=[]}
def CoreM.learn (c:CoreM) (t:Int):CoreM:={{c with term:=t,vote:=0,head:=0,out:={c.out with hard:=true}}.follow with state:=0}
def CoreM.put (c:CoreM) (kind:Int) (data:List Int):CoreM :=
  let e:Abs:=(c.term,c.log.last.1+1,kind,data)
  if (c.log.append [e]).1=0 then {c with log:=(c.log.append [e]).2,out:={c.out with entries:=c.out.entries++[e]}} else c
def CoreM.has (c:CoreM) (i t:Int):Bool:=decide ((c.log.term i).2=0∧(c.log.term i).1=t)
def CoreM.rank (c:CoreM):CoreM :=
  let d:={c with mtch:=c.mtch.set c.self c.log.last.1}
  let now:=d.crewNow
  let n:=rankOf now.1 d.mtch
  if n≤d.commit∨d.has n d.term=false then d
  else
    let e:={d with commit:=n}
    if hasB now.1 e.self=false∧now.2≤n then e.follow else e
def CoreM.lead (c:CoreM):CoreM :=
  ((({c.follow with state:=2,head:=c.self,beat:=2,next:=Five.all (c.log.last.1+1)}).put 0 []).sendAll).rank
def CoreM.roundOk (c:CoreM) (r:Int):Bool:=mostOf c.crewNow.1 fun n=>decide (n=c.self) || decide (r≤c.heard.get n)
def CoreM.confirm (c:CoreM):CoreM :=
  if c.state≠2 then c
  else {c with reads:=c.reads.filter (fun r => !c.roundOk r),out:={c.out with reads:=c.out.reads++c.reads.filter c.roundOk}}
def vput (v n:Int):Int:=if hasB v n=true then v else v+2^n.toNat
def CoreM.elected (c:CoreM):Bool:=mostOf c.crewNow.1 (hasB c.votes)
def CoreM.stand (c:CoreM):CoreM :=
  if hasB c.crewNow.1 c.self=false∨c.term=9007199254740991 then c
  else
    let d:={c.learn (c.term+1) with vote:=c.self,state:=1,votes:=2^c.self.toNat}
    let e:=d.others.foldl (fun x n=>x.say n {post0 with kind:=1,index:=d.log.last.1,logTerm:=d.log.last.2}) d
    if e.elected=true then e.lead else e
def CoreM.done (c:CoreM):CoreM×OutM:=({c with out:=out0},{c.out with term:=c.term,vote:=c.vote,commit:=c.commit})
def waits (draw:Int):Int:=10+draw.tmod 10
def CoreM.tick (c:CoreM) (draw:Int):CoreM :=
  if c.state=2 then
    (if c.beat-1=0 then {c with beat:=2}.sendAll else {c with beat:=c.beat-1})
  else
    let d:={c with quiet:=if 10<c.quiet+1 then 10 else c.quiet+1,wait:=c.wait-1}
    if d.wait=0 then {d with wait:=waits draw}.stand else d
def numB (n:Int):Bool:=decide (0≤n∧n≤9007199254740991)
def PostM.bare (p:PostM):PostM :=
  let o:={post0 with kind:=p.kind,src:=p.src,dst:=p.dst,term:=p.term}
  if p.kind=1 then {o with index:=p.index,logTerm:=p.logTerm}
  else if p.kind=2 then {o with ok:=p.ok}
  else if p.kind=3 then {o with index:=p.index,logTerm:=p.logTerm,commit:=p.commit,hint:=p.hint,entries:=p.entries}
  else if p.kind=4 then {o with ok:=p.ok,index:=p.index,hint:=p.hint}
  else if p.kind=5 then {o with hint:=p.hint,snap:=p.snap}
  else if p.kind=6 then {o with index:=p.index,hint:=p.hint}
  else o
def entriesMay (top:Int):Int→Int→List Abs→Bool
  | _,_,[]=>true
  | i,t,e::r=>decide (e.2.1=i+1)&&numB e.2.1&&decide (t≤e.1∧e.1≤top)&&decide (0≤e.2.2.1∧e.2.2.1≤2)&&decide (e.2.2.2.length≤1200)&&entriesMay top (i+1) e.1 r
def PostM.snapMay (p:PostM):Bool :=
  decide (1≤p.snap.index∧p.snap.index≤9007199254740991)&&decide (0≤p.snap.term∧p.snap.term≤p.term)&&decide (p.snap.crew % 2=0∧1≤p.snap.crew∧p.snap.crew≤63)&&decide (p.snap.data.length≤8192)
def SnapM.same (a b:SnapM):Bool:=decide (a.index=b.index∧a.term=b.term∧a.crew=b.crew∧a.data=b.data)
def PostM.same (a b:PostM):Bool :=
  decide (a.kind=b.kind∧a.src=b.src∧a.dst=b.dst∧a.term=b.term∧a.index=b.index∧a.logTerm=b.logTerm∧a.commit=b.commit∧a.ok=b.ok∧a.hint=b.hint∧a.entries=b.entries)&&a.snap.same b.snap
def PostM.check (p:PostM):Bool :=
  decide (1≤p.kind∧p.kind≤6)&&decide (1≤p.src∧p.src≤5∧1≤p.dst∧p.dst≤5∧p.src≠p.dst) &&
  (numB p.term&&numB p.index&&numB p.commit&&numB p.hint&&decide (0≤p.logTerm∧p.logTerm≤p.term)) &&
  p.same p.bare&&(decide (p.entries.length≤8)&&entriesMay p.term p.index p.logTerm p.entries)&&(decide (p.kind≠5) || p.snapMay)
def CoreM.takes (c:CoreM) (p:PostM):Bool :=
  p.check&&decide (p.dst=c.self)&&decide (0<p.term)&&p.entries.all (fun e=>decide (1≤e.1))&&(decide (p.kind≠5) || decide (1≤p.snap.term))&&crewsMay p.entries
def CoreM.asked (c:CoreM) (p:PostM) (draw:Int):CoreM :=
  let fresh:=decide (c.log.last.2<p.logTerm) || (decide (p.logTerm=c.log.last.2)&&decide (c.log.last.1≤p.index))
  let ok:=fresh&&(decide (c.vote=0) || decide (c.vote=p.src))
  let d:=if ok=true then {c with vote:=p.src,wait:=waits draw,out:={c.out with hard:=true}} else c
  d.say p.src {post0 with kind:=2,ok:=ok}
def CoreM.voted (c:CoreM) (p:PostM):CoreM :=
  if c.state≠1∨p.ok=false then c
  else
    let d:={c with votes:=vput c.votes p.src}
    if d.elected=true then d.lead else d
def LG.fresh (L:LG):List Abs→List Abs
  | []=>[]
  | e::r=>if (L.term e.2.1).2=0∧(L.term e.2.1).1=e.1 then L.fresh r else e::r
def CoreM.appendRest (c:CoreM) (l:List Abs):CoreM:=match c.log.fresh l with
  | []=>c
  | e::r =>
    let d:=if e.2.1≤c.log.last.1 then {c with log:=(c.log.cut e.2.1).2,out:={c.out with cut:=e.2.1}} else c
    {d with log:=(d.log.append (e::r)).2,out:={d.out with entries:=d.out.entries++e::r}}
def headLow (t:Int):List Abs→Bool
  | []=>false
  | e::_=>decide (e.1<t)
def CoreM.append (c:CoreM) (p:PostM):CoreM :=
  let stop:=p.index+p.entries.length
  let low:=decide (p.index<c.log.bi)
  let list:=if low=true then p.entries.drop (c.log.bi-p.index).toNat else p.entries
  let index:=if low=true then c.log.bi else p.index
  let term:=if low=true then c.log.bt else p.logTerm
  if c.has index term=false∨headLow term list=true then
    c.say p.src {post0 with kind:=4,index:=if c.log.last.1<index-1 then c.log.last.1 else index-1,hint:=p.hint}
  else
    let d:=c.appendRest list
    let m:=if stop<p.commit then stop else p.commit
    ({d with commit:=if d.commit<m then m else d.commit}).say p.src {post0 with kind:=4,ok:=true,index:=stop,hint:=p.hint}
def CoreM.install (c:CoreM) (p:PostM):CoreM :=
  let d:=if c.commit<p.snap.index then
      {c with log:=if c.has p.snap.index p.snap.term=true∧(c.log.compact p.snap.index).1=0 then (c.log.compact p.snap.index).2 else lnew p.snap.index p.snap.term,
               snap:=p.snap,commit:=p.snap.index,out:={c.out with snap:=p.snap}}
    else c
  d.say p.src {post0 with kind:=6,index:=d.commit,hint:=p.hint}
def maxI (a b:Int):Int:=if a<b then b else a
def minI (a b:Int):Int:=if b<a then b else a
def CoreM.told (c:CoreM) (p:PostM):CoreM :=
  let n:=p.src
  let last:=c.log.last.1
  let c:={c with heard:=c.heard.set n (maxI (c.heard.get n) p.hint)}
  let c:=if p.ok=true∨p.kind=6 then
      let c:={c with mtch:=c.mtch.set n (maxI (c.mtch.get n) (minI p.index last))}
      let c:={c with next:=c.next.set n (maxI (c.next.get n) (c.mtch.get n+1))}
      let c:=c.rank
      if c.state=2∧c.next.get n≤last then c.send n else c
    else
      let c:={c with next:=c.next.set n (maxI (minI (c.next.get n-1) (p.index+1)) (c.mtch.get n+1))}
      c.send n
  c.confirm
def CoreM.refuse (c:CoreM) (p:PostM):CoreM :=
  if p.kind=1 then c.say p.src {post0 with kind:=2} else if p.kind=3 then c.say p.src {post0 with kind:=4} else c
def CoreM.take1 (c:CoreM) (p:PostM) (draw:Int):CoreM :=
  if p.kind=1 then c.asked p draw
  else if p.kind=2 then c.voted p
  else if p.kind=3∨p.kind=5 then
    (if c.state=2 then c
     else
      let d:={c.follow with head:=p.src,quiet:=0,wait:=waits draw}
      if p.kind=5 then d.install p else d.append p)
  else if c.state=2 then c.told p else c
def CoreM.led (c:CoreM):Bool:=decide (c.state=2) || (decide (c.quiet<10)&&decide (c.head≠0))
def CoreM.take (c:CoreM) (p:PostM) (draw:Int):CoreM :=
  if p.kind=1∧c.led=true then c
  else if p.term<c.term then c.refuse p
  else if c.term<p.term then (c.learn p.term).take1 p draw
  else c.take1 p draw
def CoreM.settled (c:CoreM):Bool:=c.has c.commit c.term
def CoreM.changes (c:CoreM) (data:List Int):Bool :=
  crewOk (0,0,0,data)&&decide (chg c.crewNow.1 (crewNum (0,0,0,data))=0)&&decide (c.crewNow.2≤c.commit)&&c.settled
def CoreM.proposeE (c:CoreM) (kind:Int) (data:List Int):Int :=
  if c.state≠2 then 200
  else if kind≠1∧kind≠2 then 2
  else if 1200<data.length∨c.log.last.1=9007199254740991 then 5
  else if 64≤c.log.last.1-c.commit then 7
  else if kind=2∧c.changes data=false then 180
  else 0
def CoreM.propose (c:CoreM) (kind:Int) (data:List Int):CoreM :=
  let was:=c.crewNow.1
  let index:=c.log.last.1+1
  let d:=c.put kind data
  let now:=d.crewNow.1
  let e:=(ls (m5 now)).foldl (fun x n=>if hasB was n=true then x else {x with next:=x.next.set n index,mtch:=x.mtch.set n 0,heard:=x.heard.set n 0}) d
  (e.sendAll).rank
def CoreM.readE (c:CoreM):Int:=if c.state≠2 then 200 else if c.settled=false then 202 else 0
def CoreM.read (c:CoreM):CoreM:=({c with round:=c.round+1,reads:=c.reads++[c.round+1]}.sendAll).confirm
def CoreM.compactE (c:CoreM) (i:Int) (data:List Int):Int :=
  if ¬(c.snap.index+1≤i∧i≤minI c.commit c.log.last.1) then 9 else if 8192<data.length then 5 else (c.log.compact i).1
def CoreM.compact (c:CoreM) (i:Int) (data:List Int):CoreM :=
  {c with log:=(c.log.compact i).2,snap:=⟨i,(c.log.term i).1,(c.crewUpTo i).1,data⟩}
structure SavedM where
  term:Int
  vote:Int
  snap:SnapM
  entries:List Abs
def saved0:SavedM:=⟨0,0,snap0,[]⟩
def SavedM.may (s:SavedM):Bool :=
  let x:=s.snap
  let none:=decide (x.index=0∧x.term=0∧x.crew=0∧x.data=[])
  let snap:=none || (decide (0<x.index)&&decide (1≤x.term∧x.term≤s.term)&&decide (cchk x.crew=0))
  numB s.term&&decide (0≤s.vote∧s.vote≤5)&&snap&&s.entries.all (fun e=>decide (e.1≤s.term))&&crewsMay s.entries
def cnewOk (self first:Int) (s:SavedM) (draw:Int):Bool :=
  decide (1≤self∧self≤5)&&decide (cchk first=0)&&decide (0≤draw)&&s.may&&okBase s.snap.index s.snap.term&&decide (((lnew s.snap.index s.snap.term).append s.entries).1=0)
def cnew (self first:Int) (s:SavedM) (draw:Int):CoreM :=
  ⟨self,first,s.term,s.vote,s.snap,((lnew s.snap.index s.snap.term).append s.entries).2,0,0,s.snap.index,waits draw,10,0,five0,five0,five0,0,0,[],out0⟩
theorem flat_len {z:Nat}:∀ {es:List (List Value)},(∀ e∈es,e.length=z)→es.flatten.length=es.length*z
 | [],_=>by simp
 | e::es,h=>by
  rw [List.flatten_cons,List.length_append,h e (by simp),flat_len fun x hx=>h x (by simp [hx]),List.length_cons,Nat.add_mul,Nat.one_mul,Nat.add_comm]
theorem flat_drop {z:Nat}:∀ {es:List (List Value)},(∀ e∈es,e.length=z)→∀ i,es.flatten.drop (i*z)=(es.drop i).flatten
 | es,_,0=>by simp
 | [],_,i+1=>by simp
 | e::es,h,i+1=>by
  have he:=h e (by simp)
  rw [List.flatten_cons,Nat.add_mul,Nat.one_mul,Nat.add_comm,← List.drop_drop,← he,List.drop_left,he,flat_drop (fun x hx=>h x (by simp [hx])) i]
  rfl
theorem flat_take {z:Nat}:∀ {es:List (List Value)},(∀ e∈es,e.length=z)→∀ i,es.flatten.take (i*z)=(es.take i).flatten
 | es,_,0=>by simp
 | [],_,i+1=>by simp
 | e::es,h,i+1=>by
  have he:=h e (by simp)
  rw [List.flatten_cons,Nat.add_mul,Nat.one_mul,Nat.add_comm,List.take_add,← he,List.take_left,List.drop_left,he,flat_take (fun x hx=>h x (by simp [hx])) i]
  rfl
theorem flat_part {z:Nat} {es:List (List Value)} (h:∀ e∈es,e.length=z) {i:Nat} {e:List Value} (hi:es[i]? = some e):(es.flatten.drop (i*z)).take z=e:=by
 have hlt:=(List.getElem?_eq_some_iff.1 hi).1
 have he:=h e (List.mem_of_getElem? hi)
 rw [flat_drop h,← List.getElem_cons_drop hlt,List.flatten_cons,(List.getElem?_eq_some_iff.1 hi).2,← he,List.take_left]
theorem flat_get {z:Nat} {es:List (List Value)} (h:∀ e∈es,e.length=z) {i k:Nat} {e:List Value} (hi:es[i]? = some e) (hk:k<z):es.flatten[i*z+k]? = e[k]? := by
 have:=congrArg (·[k]?) (flat_part h hi)
 simp only [List.getElem?_take,List.getElem?_drop] at this
 rw [if_pos hk] at this;exact this
theorem flat_set {z:Nat}:∀ {es:List (List Value)},(∀ e∈es,e.length=z)→∀ {i k:Nat} {e:List Value} (v:Value),es[i]? = some e→k<z→es.flatten.set (i*z+k) v=(es.set i (e.set k v)).flatten
 | [],_,i,k,e,v,hi,_=>by simp at hi
 | x::es,h,0,k,e,v,hi,hk=>by
  simp at hi;subst hi
  have he:=h x (by simp)
  simp only [Nat.zero_mul,Nat.zero_add,List.flatten_cons,List.set_cons_zero]
  rw [List.set_append_left _ _ (by omega)]
 | x::es,h,i+1,k,e,v,hi,hk=>by
  have he:=h x (by simp)
  have ih:=flat_set (es:=es) (fun y hy=>h y (by simp [hy])) (i:=i) (k:=k) (e:=e) v (by simpa using hi) hk
  simp only [List.flatten_cons,List.set_cons_succ]
  rw [List.set_append_right _ _ (by rw [he,Nat.add_mul];omega),he,show (i+1)*z+k-z=i*z+k by rw [Nat.add_mul];omega,ih]
theorem Own.elem {h:Heap} {t:Tag} {E:TypeId} {a:Option Addr} {n cap z:Nat} {es:List (List Value)} (s:Own h t E a n cap z es.flatten) (hz:∀ e∈es,e.length=z) (hn:es.length=n) (hz0:0<z)
  {i:Nat} {e:List Value} (hi:es[i]? = some e) :
  ∃ b,∃ l:List Value,a=some ⟨b,0,none⟩∧h b=some (row t l E)∧(l.drop (i*z)).take z=e∧(∀ k,k<z→l[i*z+k]? = e[k]? ∧ i*z+k<l.length) ∧
   ∀ k v,k<z→Own (h.set b (row t (l.set (i*z+k) v) E)) t E a n cap z (es.set i (e.set k v)).flatten:=by
 have hlt:=(List.getElem?_eq_some_iff.1 hi).1
 have hfl:=flat_len hz
 rcases s with ⟨rfl,rfl,h0⟩ | ⟨b,l,rfl,hb,hl,hnc,hc⟩
 ·omega
 ·have hle:n*z≤l.length:=Nat.le_trans (Nat.mul_le_mul_right _ hnc) hl
  have hin:(i+1)*z≤n*z:=Nat.mul_le_mul_right _ (by omega)
  rw [Nat.add_mul,Nat.one_mul] at hin
  have hg:∀ k,k<z→l[i*z+k]? = e[k]? := by
   intro k hk
   rw [← flat_get hz hi hk,← hc,List.getElem?_take,if_pos (by omega)]
  refine ⟨b,l,rfl,hb,?_,fun k hk=>⟨hg k hk,by omega⟩,fun k v hk => .inr ⟨b,_,rfl,Heap.set_same _ _ _,by rw [List.length_set];exact hl,hnc,?_⟩⟩
  ·have:=part_of_take (l:=l) (off:=0) (m:=n*z) (i:=i*z) (z:=z) (cs:=es.flatten) hc (by omega)
   rw [Nat.zero_add] at this
   rw [this];exact flat_part hz hi
  ·rw [← flat_set hz v hi hk,← hc,List.take_set]
theorem Sl.elem {h:Heap} {t:Tag} {a:Option Addr} {n cap z:Nat} {es:List (List Value)} (s:Sl h t a n cap z es.flatten) (hz:∀ e∈es,e.length=z) (hn:es.length=n) (hz0:0<z)
  {i:Nat} {e:List Value} (hi:es[i]? = some e) :
  ∃ b off,∃ l:List Value,∃ E fz,a=some ⟨b,off,none⟩∧h b=some (t, .cells l.toArray E fz)∧(l.drop (off+i*z)).take z=e∧∀ k,k<z→l[off+i*z+k]? = e[k]? := by
 have hlt:=(List.getElem?_eq_some_iff.1 hi).1
 obtain ⟨b,off,l,E,fz,rfl,hb,hc⟩:=s.pos (by omega)
 have hin:(i+1)*z≤n*z:=Nat.mul_le_mul_right _ (by omega)
 rw [Nat.add_mul,Nat.one_mul] at hin
 refine ⟨b,off,l,E,fz,rfl,hb,?_,fun k hk=>?_⟩
 ·rw [part_of_take hc (by omega)];exact flat_part hz hi
 ·rw [Nat.add_assoc,get_of_take hc (by omega)];exact flat_get hz hi hk
abbrev Ptr (p:Nat):Value := .pointer (some ⟨p,0,none⟩)
structure SlV where
  a:Option Addr
  n:Nat
  c:Nat
abbrev SlV.v (s:SlV):Value := .slice s.a s.n s.c
def slv0:SlV:=⟨none,0,0⟩
structure PH where
  kind:Int
  src:Int
  dst:Int
  term:Int
  index:Int
  logTerm:Int
  commit:Int
  ok:Bool
  hint:Int
  e:SlV
  es:List EH
  si:Int
  st:Int
  sc:Int
  d:SlV
  data:List Int
def PH.cells (x:PH):List Value:=[I x.kind,I x.src,I x.dst,I x.term,I x.index,I x.logTerm,I x.commit, .bool x.ok,I x.hint, .slice x.e.a x.e.n x.e.c,I x.si,I x.st,I x.sc, .slice x.d.a x.d.n x.d.c]
def PH.abs (x:PH):PostM:=⟨x.kind,x.src,x.dst,x.term,x.index,x.logTerm,x.commit,x.ok,x.hint,x.es.map EH.abs,⟨x.si,x.st,x.sc,x.data⟩⟩
structure PH.Ok (h:Heap) (t1 t2 t3:Tag) (x:PH):Prop where
  es:Ents h t1 t2 x.e.a x.e.n x.e.c x.es
  sd:Sl h t3 x.d.a x.d.n x.d.c 1 (bytesV x.data)
structure PH.Made (h:Heap) (oo r:Nat) (x:PH):Prop where
  es:Own h (oo,r) 59 x.e.a x.e.n x.e.c 4 (encs x.es)
  ed:∀ y∈x.es,y.Mine h (oo,5)
  sm:∀ y∈x.es,y.n≤1200
  sd:Own h (oo,6) 5 x.d.a x.d.n x.d.c 1 (bytesV x.data)
theorem PH.Made.move {h h':Heap} {oo r:Nat} {x:PH} (m:x.Made h oo r) (k:∀ b (t:Tag) y,t.1=oo→(t.2=r∨t.2=5∨t.2=6)→h b=some (t,y)→h' b=some (t,y)):x.Made h' oo r :=
 ⟨m.es.move fun _ _ e=>k _ _ _ rfl (.inl rfl) e,fun y hy=>Own.move (m.ed y hy) fun _ _ e=>k _ _ _ rfl (.inr (.inl rfl)) e,m.sm,m.sd.move fun _ _ e=>k _ _ _ rfl (.inr (.inr rfl)) e⟩
structure OX where
  od:SlV
  oe:SlV
  op:SlV
  qr:SlV
  es:List EH
  ps:List PH
def ox0:OX:=⟨slv0,slv0,slv0,slv0,[],[]⟩
structure CX where
  sd:SlV
  log:Nat
  z1:Int
  z2:Int
  z3:Int
  rd:SlV
  ox:OX
def outCells (o:OutM) (x:OX):List Value:=[.bool o.hard,I o.term,I o.vote,I o.snap.index,I o.snap.term,I o.snap.crew, .slice x.od.a x.od.n x.od.c,I o.cut, .slice x.oe.a x.oe.n x.oe.c, .slice x.op.a x.op.n x.op.c,I o.commit, .slice x.qr.a x.qr.n x.qr.c]
def coreCells (c:CoreM) (x:CX):List Value :=
  [I c.self,I c.first,I c.term,I c.vote,I c.snap.index,I c.snap.term,I c.snap.crew, .slice x.sd.a x.sd.n x.sd.c,Ptr x.log,I c.state,I c.head,I c.commit,I c.wait,I c.quiet,I c.votes,
   I x.z1,I c.next.a1,I c.next.a2,I c.next.a3,I c.next.a4,I c.next.a5,I x.z2,I c.mtch.a1,I c.mtch.a2,I c.mtch.a3,I c.mtch.a4,I c.mtch.a5,I x.z3,I c.heard.a1,I c.heard.a2,I c.heard.a3,I c.heard.a4,I c.heard.a5,
   I c.beat,I c.round, .slice x.rd.a x.rd.n x.rd.c, .bool c.out.hard,I c.out.term,I c.out.vote,I c.out.snap.index,I c.out.snap.term,I c.out.snap.crew, .slice x.ox.od.a x.ox.od.n x.ox.od.c,I c.out.cut, .slice x.ox.oe.a x.ox.oe.n x.ox.oe.c, .slice x.ox.op.a x.ox.op.n x.ox.op.c,I c.out.commit, .slice x.ox.qr.a x.ox.qr.n x.ox.qr.c]
structure OutOk (h:Heap) (oo:Nat) (o:OutM) (x:OX):Prop where
  od:Own h (oo,6) 5 x.od.a x.od.n x.od.c 1 (bytesV o.snap.data)
  oe:Own h (oo,1) 59 x.oe.a x.oe.n x.oe.c 4 (encs x.es)
  ed:∀ y∈x.es,y.Mine h (oo,2)
  ea:x.es.map EH.abs=o.entries
  es:∀ y∈x.es,y.n≤1200
  op:Own h (oo,3) 49 x.op.a x.op.n x.op.c 14 (x.ps.map PH.cells).flatten
  ps:∀ (i:Nat) y,x.ps[i]? = some y→y.Made h oo (10+i)
  pa:x.ps.map PH.abs=o.posts
  qr:Own h (oo,7) 3 x.qr.a x.qr.n x.qr.c 1 (o.reads.map I)
theorem OutOk.move {h h':Heap} {oo:Nat} {o:OutM} {x:OX} (k:OutOk h oo o x) (m:∀ b (t:Tag) y,t.1=oo→h b=some (t,y)→h' b=some (t,y)):OutOk h' oo o x :=
 ⟨k.od.move fun _ _ e=>m _ _ _ rfl e,k.oe.move fun _ _ e=>m _ _ _ rfl e,fun y hy=>Own.move (k.ed y hy) fun _ _ e=>m _ _ _ rfl e,k.ea,k.es,k.op.move fun _ _ e=>m _ _ _ rfl e,fun i y hy=>(k.ps i y hy).move fun _ _ _ ht _ e=>m _ _ _ ht e,k.pa,k.qr.move fun _ _ e=>m _ _ _ rfl e⟩
structure CoreX (T:TypeId) (LP:Heap→Nat→Nat→LG→Prop) (h:Heap) (p o oo:Nat) (c:CoreM) (x:CX):Prop where
  str:h p=some (row (o,0) (coreCells c x) T)
  sd:Own h (o,3) 5 x.sd.a x.sd.n x.sd.c 1 (bytesV c.snap.data)
  log:LP h x.log (o+1) c.log
  rd:Own h (o,4) 3 x.rd.a x.rd.n x.rd.c 1 (c.reads.map I)
  out:OutOk h oo c.out x.ox
def CoreAt (T:TypeId) (LP:Heap→Nat→Nat→LG→Prop) (h:Heap) (p o oo:Nat) (c:CoreM):Prop:=∃ x,CoreX T LP h p o oo c x
abbrev PCore:=CoreAt 81 LA
abbrev RCore:=CoreAt 98 RL
class Moves (LP:Heap→Nat→Nat→LG→Prop):Prop where
  move:∀ {h h':Heap} {p o:Nat} {L:LG},LP h p o L→(∀ b (t:Tag) y,t.1=o→h b=some (t,y)→h' b=some (t,y))→LP h' p o L
theorem LA.move {h h':Heap} {p o:Nat} {L:LG} (l:LA h p o L) (k:∀ b (t:Tag) x,t.1=o→h b=some (t,x)→h' b=some (t,x)):LA h' p o L:=by
 obtain ⟨es,a,cap,x,y⟩:=l
 exact ⟨es,a,cap,⟨k _ _ _ rfl x.str,x.own.move fun _ _ e=>k _ _ _ rfl e,fun z hz=>Sl.move (x.good z hz) fun _ _ e=>k _ _ _ rfl e,x.small⟩,y⟩
instance:Moves LA:=⟨LA.move⟩
instance:Moves RL:=⟨RL.move⟩
theorem CoreX.move {T:TypeId} {LP:Heap→Nat→Nat→LG→Prop} [Moves LP] {h h':Heap} {p o oo:Nat} {c:CoreM} {x:CX} (k:CoreX T LP h p o oo c x) (m:∀ b (t:Tag) y,(t.1=o∨t.1=o+1∨t.1=oo)→h b=some (t,y)→h' b=some (t,y)):CoreX T LP h' p o oo c x :=
 ⟨m _ _ _ (.inl rfl) k.str,k.sd.move fun _ _ e=>m _ _ _ (.inl rfl) e,Moves.move k.log fun _ _ _ ht e=>m _ _ _ (.inr (.inl ht)) e,k.rd.move fun _ _ e=>m _ _ _ (.inl rfl) e,k.out.move fun _ _ _ ht e=>m _ _ _ (.inr (.inr ht)) e⟩
theorem CoreX.keeps {T:TypeId} {LP:Heap→Nat→Nat→LG→Prop} [Moves LP] {h h':Heap} {p o oo:Nat} {c:CoreM} {x:CX} {os:List Nat} (k:CoreX T LP h p o oo c x) (m:Keeps os h h') (h1:o∉os) (h2:o+1∉os) (h3:oo∉os):CoreX T LP h' p o oo c x :=
 k.move fun _ t _ ht e=>m _ _ _ (by rcases ht with r | r | r <;> rw [r] <;> assumption) e
theorem CoreX.sub {T:TypeId} {LP:Heap→Nat→Nat→LG→Prop} [Moves LP] {h h':Heap} {p o oo:Nat} {c:CoreM} {x:CX} (k:CoreX T LP h p o oo c x) (m:Sub h h'):CoreX T LP h' p o oo c x :=
 k.move fun _ _ _ _ e=>m _ _ e
theorem CoreAt.keeps {T:TypeId} {LP:Heap→Nat→Nat→LG→Prop} [Moves LP] {h h':Heap} {p o oo:Nat} {c:CoreM} {os:List Nat} (k:CoreAt T LP h p o oo c) (m:Keeps os h h') (h1:o∉os) (h2:o+1∉os) (h3:oo∉os):CoreAt T LP h' p o oo c:=by
 obtain ⟨x,k⟩:=k;exact ⟨x,k.keeps m h1 h2 h3⟩
theorem CoreAt.sub {T:TypeId} {LP:Heap→Nat→Nat→LG→Prop} [Moves LP] {h h':Heap} {p o oo:Nat} {c:CoreM} (k:CoreAt T LP h p o oo c) (m:Sub h h'):CoreAt T LP h' p o oo c:=by
 obtain ⟨x,k⟩:=k;exact ⟨x,k.sub m⟩
theorem follow_any {h:Heap} {p o oo:Nat} {c:CoreM} (ho:o≠oo) (k:PCore h p o oo c):ACalls PR 123 #[Ptr p] h (fun v h'=>v = .tuple #[]∧PCore h' p o oo c.follow∧Keep o h h'):=by
 obtain ⟨x,k⟩:=k
 refine As mix Tryz.func123 rfl rfl Tryz.ntmps123 Tryz.results123 rfl ?_;conv=>whnf
 refine AStore.oneTo rfl rfl rfl (k.str) rfl (coreCells {c with state:=0} x) rfl ?_;conv=>whnf
 refine AStore.aggTo rfl rfl rfl (Heap.set_same _ _ _) rfl (coreCells c.follow {x with z1:=0,z2:=0,z3:=0,rd:=slv0}) rfl ?_;conv=>whnf
 rw [Heap.set_set]
 have kt:KeepT (o,0) h (h.set p (row (o,0) (coreCells c.follow {x with z1:=0,z2:=0,z3:=0,rd:=slv0}) 81)):=KeepT.set k.str
 refine ⟨rfl,⟨{x with z1:=0,z2:=0,z3:=0,rd:=slv0},Heap.set_same _ _ _,k.sd.keepT kt (by simp),Moves.move k.log fun _ t _ ht e=>kt _ _ _ (fun c=>by rw [c] at ht;simp at ht) e, .inl ⟨rfl,rfl,rfl⟩,?_⟩,kt.keep⟩
 exact k.out.move fun _ t _ ht e=>kt _ _ _ (fun c=>ho (by rw [c] at ht;exact ht)) e
theorem KeepT.log {LP:Heap→Nat→Nat→LG→Prop} [Moves LP] {h h':Heap} {q o:Nat} {L:LG} {r:Nat} (l:LP h q (o+1) L) (kt:KeepT (o,r) h h'):LP h' q (o+1) L :=
 Moves.move l fun _ t _ ht e=>kt _ _ _ (fun c=>by rw [c] at ht;simp at ht) e
theorem OutOk.keepT {h h':Heap} {o oo r:Nat} {u:OutM} {x:OX} (k:OutOk h oo u x) (ho:o≠oo) (kt:KeepT (o,r) h h'):OutOk h' oo u x :=
 k.move fun _ t _ ht e=>kt _ _ _ (fun c=>ho (by rw [c] at ht;exact ht)) e
theorem CoreX.set {T:TypeId} {LP:Heap→Nat→Nat→LG→Prop} [Moves LP] {h:Heap} {p o oo:Nat} {c:CoreM} {x:CX} (k:CoreX T LP h p o oo c x) (ho:o≠oo) (c':CoreM) (x':CX)
  (h1:x'.sd=x.sd:=by rfl) (h2:c'.snap.data=c.snap.data:=by rfl) (h3:x'.log=x.log:=by rfl) (h4:c'.log=c.log:=by rfl) (h5:x'.rd=x.rd:=by rfl) (h6:c'.reads=c.reads:=by rfl) (h7:x'.ox=x.ox:=by rfl)
  (h8:c'.out.snap.data=c.out.snap.data:=by rfl) (h9:c'.out.entries=c.out.entries:=by rfl) (h10:c'.out.posts=c.out.posts:=by rfl) (h11:c'.out.reads=c.out.reads:=by rfl) :
  CoreX T LP (h.set p (row (o,0) (coreCells c' x') T)) p o oo c' x':=by
 have kt:KeepT (o,0) h (h.set p (row (o,0) (coreCells c' x') T)):=KeepT.set k.str
 have q:=k.out.keepT ho kt
 refine ⟨Heap.set_same _ _ _,by rw [h1,h2];exact k.sd.keepT kt (by simp),by rw [h3,h4];exact KeepT.log k.log kt,by rw [h5,h6];exact k.rd.keepT kt (by simp),?_⟩
 rw [h7]
 exact ⟨by rw [h8];exact q.od,q.oe,q.ed,by rw [h9];exact q.ea,q.es,q.op,q.ps,by rw [h10];exact q.pa,by rw [h11];exact q.qr⟩
theorem CoreX.setKeep {T:TypeId} {LP:Heap→Nat→Nat→LG→Prop} {h:Heap} {p o oo:Nat} {c:CoreM} {x:CX} (k:CoreX T LP h p o oo c x) (l:List Value):Keep o h (h.set p (row (o,0) l T)):=(KeepT.set k.str).keep
theorem none_core {h:Heap} {p o oo:Nat} {c:CoreM} {x:CX} (k:CoreX 81 LA h p o oo c x):ACalls PR 46 #[Ptr p] h (fun v h'=>v = .bool false∧h=h'):=by
 refine Ar (As mix Tryz.func46 rfl rfl Tryz.ntmps46 Tryz.results46 rfl ?_);conv=>whnf
 refine Aa rfl k.str rfl ?_;conv=>whnf
 exact ⟨rfl,Sub.refl _⟩
theorem State_any {h:Heap} {p o oo:Nat} {c:CoreM} {x:CX} (k:CoreX 81 LA h p o oo c x):ACalls PR 18 #[Ptr p] h (fun v h'=>v=I c.state∧h=h'):=by
 refine Ar (As mix Tryz.func18 rfl rfl Tryz.ntmps18 Tryz.results18 rfl ?_);conv=>whnf
 refine C2 (none_core k) ?_;conv=>whnf
 refine Aa rfl k.str rfl ?_;conv=>whnf
 exact ⟨rfl,Sub.refl _⟩
theorem CTerm_any {h:Heap} {p o oo:Nat} {c:CoreM} {x:CX} (k:CoreX 81 LA h p o oo c x):ACalls PR 17 #[Ptr p] h (fun v h'=>v=I c.term∧h=h'):=by
 refine Ar (As mix Tryz.func17 rfl rfl Tryz.ntmps17 Tryz.results17 rfl ?_);conv=>whnf
 refine C2 (none_core k) ?_;conv=>whnf
 refine Aa rfl k.str rfl ?_;conv=>whnf
 exact ⟨rfl,Sub.refl _⟩
theorem Commit_any {h:Heap} {p o oo:Nat} {c:CoreM} {x:CX} (k:CoreX 81 LA h p o oo c x):ACalls PR 14 #[Ptr p] h (fun v h'=>v=I c.commit∧h=h'):=by
 refine Ar (As mix Tryz.func14 rfl rfl Tryz.ntmps14 Tryz.results14 rfl ?_);conv=>whnf
 refine C2 (none_core k) ?_;conv=>whnf
 refine Aa rfl k.str rfl ?_;conv=>whnf
 exact ⟨rfl,Sub.refl _⟩
theorem learn_any {h:Heap} {p o oo:Nat} {c:CoreM} (ho:o≠oo) (k:PCore h p o oo c) (t:Int):ACalls PR 125 #[Ptr p,I t] h (fun v h'=>v = .tuple #[]∧PCore h' p o oo (c.learn t)∧Keep o h h'):=by
 obtain ⟨x,k⟩:=k
 refine As mix Tryz.func125 rfl rfl Tryz.ntmps125 Tryz.results125 rfl ?_;conv=>whnf
 refine AStore.oneTo rfl rfl rfl (k.str) rfl (coreCells {c with term:=t} x) rfl ?_;conv=>whnf
 refine AStore.oneTo rfl rfl rfl (Heap.set_same _ _ _) rfl (coreCells {c with term:=t,vote:=0} x) rfl ?_;conv=>whnf
 rw [Heap.set_set]
 refine AStore.oneTo rfl rfl rfl (Heap.set_same _ _ _) rfl (coreCells {c with term:=t,vote:=0,head:=0} x) rfl ?_;conv=>whnf
 rw [Heap.set_set]
 refine AStore.oneTo rfl rfl rfl (Heap.set_same _ _ _) rfl (coreCells {c with term:=t,vote:=0,head:=0,out:={c.out with hard:=true}} x) rfl ?_;conv=>whnf
 rw [Heap.set_set]
 have k2:=k.set ho {c with term:=t,vote:=0,head:=0,out:={c.out with hard:=true}} x
 have kk:=k.setKeep (coreCells {c with term:=t,vote:=0,head:=0,out:={c.out with hard:=true}} x)
 refine ACalls.mono (follow_any ho ⟨x,k2⟩) ?_;rintro _ h3 ⟨rfl,k3,kk3⟩;conv=>whnf
 exact ⟨rfl,k3,kk.trans kk3⟩
def one (h:Heap) (p:Nat):Heap:=fun c=>if c=p then h c else none
theorem one_sub (h:Heap) (p:Nat):Sub (one h p) h:=fun b x e=>by
 unfold one at e;split at e
 ·exact e
 ·cases e
theorem one_get {h h':Heap} {p:Nat} (k:∀ x,h p=some x→h' p=some x):Sub (one h p) h':=fun b x e=>by
 unfold one at e;split at e
 ·rename_i c;subst c;exact k _ e
 ·cases e
theorem one_at (h:Heap) (p:Nat):one h p p=h p:=by simp [one]
theorem OutOk.zero (h:Heap) (oo:Nat):OutOk h oo out0 ox0 :=
 ⟨.inl ⟨rfl,rfl,rfl⟩, .inl ⟨rfl,rfl,rfl⟩,by simp [ox0],rfl,by simp [ox0], .inl ⟨rfl,rfl,rfl⟩,by simp [ox0],rfl, .inl ⟨rfl,rfl,rfl⟩⟩
theorem ne_of_tag {h:Heap} {b p:Nat} {t u:Tag} {x y:Obj} (hb:h b=some (t,x)) (hp:h p=some (u,y)) (n:t≠u):b≠p:=fun c=>by
 rw [c,hp] at hb;exact n (by cases hb;rfl)
theorem tag_ne {o r:Nat} (ho:o≠0):((0,1):Tag)≠(o,r):=fun c=>ho (by cases c;rfl)
theorem done_any {h:Heap} {p o oo:Nat} {c:CoreM} (ho:o≠oo) (ho0:o≠0) (hoo:oo≠0) (k:PCore h p o oo c) :
  ACalls PR 58 #[Ptr p] h (fun v h'=>∃ ox,v = .agg (outCells c.done.2 ox).toArray∧OutOk h' oo c.done.2 ox∧(∀ oo2,PCore h' p o oo2 c.done.1)∧Keep o h h'):=by
 obtain ⟨x,k⟩:=k
 refine As mix Tryz.func58 rfl rfl Tryz.ntmps58 Tryz.results58 rfl ?_;conv=>whnf
 refine Ak (0,1) (outCells out0 ox0) rfl fun b2 h2 n2 s2 k2=>?_;conv=>whnf
 have q2:=k.sub s2
 refine Ab rfl q2.str rfl rfl ?_;conv=>whnf
 refine Ak (0,1) (outCells out0 ox0) rfl fun b3 h3 n3 s3 k3'=>?_;conv=>whnf
 refine Ae rfl rfl rfl (k3') rfl (outCells c.out x.ox) rfl fun h4 t4 k3 a4 e4=>?_;conv=>whnf
 have b23:b2≠b3:=fun c=>by rw [c,n3] at k2;cases k2
 have n3:h b3=none:=by
  cases e:h b3 with
  | none=>rfl
  | some y=>rw [s2 _ _ e] at n3;cases n3
 have s4:Sub h h4:=a4 h (s2.trans s3) n3
 have q4:=k.sub s4
 have k24:=e4 _ _ b23 (s3 _ _ k2)
 refine Ae rfl rfl rfl (q4.str) rfl (coreCells {c with out:=out0} {x with ox:=ox0}) rfl fun h5 t5 p5 _ e5=>?_;conv=>whnf
 have k35:=e5 _ _ (ne_of_tag k3 q4.str (tag_ne ho0)) k3
 have k25:=e5 _ _ (ne_of_tag k24 q4.str (tag_ne ho0)) k24
 have o5:=q4.out.keepT ho t5
 have c5:∀ oo2,CoreX 81 LA h5 p o oo2 {c with out:=out0} {x with ox:=ox0}:=fun oo2 =>
  ⟨p5,q4.sd.keepT t5 (by simp),KeepT.log q4.log t5,q4.rd.keepT t5 (by simp),OutOk.zero _ _⟩
 have kk5:Keep o h h5:=(s4.keep o).trans t5.keep
 have b3p:b3≠p:=ne_of_tag k35 p5 (tag_ne ho0)
 have b2p:b2≠p:=ne_of_tag k25 p5 (tag_ne ho0)
 refine Am (one h5 p) [17] (one_sub _ _) (by decide +kernel) ?_;conv=>whnf
 refine Aa rfl ((one_at _ _).trans p5) rfl ?_
 refine Aa rfl ((one_at _ _).trans p5) rfl ?_
 refine Aa rfl ((one_at _ _).trans p5) rfl ?_;conv=>whnf
 refine Af rfl rfl rfl (k35) rfl (outCells {c.out with term:=c.term} x.ox) rfl fun h6 t6 k6 a6 e6=>?_;conv=>whnf
 refine ⟨one_get fun y hy=>e6 _ _ (Ne.symm b3p) hy,?_⟩;conv=>whnf
 refine Af rfl rfl rfl (k6) rfl (outCells {c.out with term:=c.term,vote:=c.vote} x.ox) rfl fun h7 t7 k7 a7 e7=>?_;conv=>whnf
 refine ⟨one_get fun y hy=>e7 _ _ (Ne.symm b3p) (e6 _ _ (Ne.symm b3p) hy),?_⟩;conv=>whnf
 refine Af rfl rfl rfl (k7) rfl (outCells c.done.2 x.ox) rfl fun h8 t8 k8 a8 e8=>?_;conv=>whnf
 refine Ab rfl k8 rfl rfl ?_;conv=>whnf
 refine Ae rfl rfl rfl ((e8 _ _ b23 (e7 _ _ b23 (e6 _ _ b23 k25)))) rfl (outCells c.done.2 x.ox) rfl fun h9 t9 k9 a9 e9=>?_;conv=>whnf
 refine Ab rfl k9 rfl rfl ?_;conv=>whnf
 have tt:KeepT (0,1) h5 h9:=t6.trans (t7.trans (t8.trans t9))
 have kk:Keep o h h9:=fun b t y ht e=>by
  have e5':=kk5 _ _ _ ht e
  exact e9 _ _ (fun c=>by rw [c,n2] at e;cases e) (e8 _ _ (fun c=>by rw [c,n3] at e;cases e) (e7 _ _ (fun c=>by rw [c,n3] at e;cases e) (e6 _ _ (fun c=>by rw [c,n3] at e;cases e) e5')))
 have c9:∀ oo2,CoreX 81 LA h9 p o oo2 {c with out:=out0} {x with ox:=ox0}:=fun oo2 =>
  ⟨tt.get (Ne.symm (tag_ne ho0)) p5,(c5 oo2).sd.keepT tt (Ne.symm (tag_ne ho0)),Moves.move (c5 oo2).log fun _ t _ ht e=>tt _ _ _ (fun c=>by rw [c] at ht;simp at ht) e,(c5 oo2).rd.keepT tt (Ne.symm (tag_ne ho0)),OutOk.zero _ _⟩
 have o9:=o5.keepT (Ne.symm hoo) tt
 exact ⟨x.ox,rfl,⟨o9.od,o9.oe,o9.ed,o9.ea,o9.es,o9.op,o9.ps,o9.pa,o9.qr⟩,fun oo2=>⟨_,c9 oo2⟩,kk⟩
theorem crew_none {e:Abs} (h:e.2.2.2.length≠1):crewNum e=0∧crewOk e=false:=by
 obtain ⟨a,b,c,d⟩:=e
 match d,h with
 | [],_=>exact ⟨rfl,rfl⟩
 | [x],h=>exact absurd rfl h
 | x::y::r,_=>exact ⟨rfl,rfl⟩
theorem crewOf_any (h:Heap) {t:Tag} (e:EH) (g:e.Good h t) (hb:∀ x∈e.data,0≤x∧x<256) :
  ACalls PR 115 #[e.val] h (fun v h'=>v = .tuple #[I (crewNum e.abs), .bool (crewOk e.abs)]∧h=h'):=by
 have hl:e.data.length=e.n:=g.len
 refine Ar (As mix Tryz.func115 rfl rfl Tryz.ntmps115 Tryz.results115 rfl ?_);conv=>whnf
 refine Al (0,1) (e.cells) rfl fun b1 h1 n1 s1 k1=>?_;conv=>whnf
 have g1:=Sl.sub g s1
 refine Aa rfl k1 rfl ?_;conv=>whnf
 by_cases c1:e.n=1
 ·refine Ad (by omega) ?_;conv=>whnf
  refine Aa rfl k1 rfl ?_;conv=>whnf
  obtain ⟨x,hx⟩:∃ x,e.data=[x]:=by
   match hd:e.data,(show e.data.length=1 by omega) with
   | [x],_=>exact ⟨x,rfl⟩
  have hbx:=hb x (by rw [hx];simp)
  obtain ⟨b,off,l,E,fz,ea,hbk,hc⟩:=g1.pos (by omega)
  have g0:l[off+0*1]? = some (.int .u8 x):=by rw [get_of_take hc (by omega),hx];rfl
  rw [ea]
  refine Ai (z:=1) (j:=0) rfl (by omega) rfl rfl ?_;conv=>whnf
  refine Aa rfl hbk g0 ?_;conv=>whnf
  refine AArith.as (i64_wrap (by omega) (by omega)) ?_;conv=>whnf
  refine C2 (Check_any _ x (by omega) (by omega)) ?_;conv=>whnf
  refine ACmp.dec ?_;conv=>whnf
  exact ⟨by simp [crewNum,crewOk,EH.abs,hx],s1⟩
 ·refine Ac (by omega) ?_;conv=>whnf
  refine ⟨?_,s1⟩
  have:=crew_none (e:=e.abs) (by show e.data.length≠1;omega)
  rw [this.1,this.2]
theorem crewUpTo_any {h:Heap} {p o oo:Nat} {c:CoreM} {x:CX} (k:CoreX 81 LA h p o oo c x) (lo:LOk c.log) (by_:∀ e∈c.log.es,e.2.2.1=2→∀ x∈e.2.2.2,0≤x∧x<256) (i:Int) (hi:i≤c.log.bi+c.log.es.length) :
  ACalls PR 67 #[Ptr p,I i] h (fun v h'=>v = .tuple #[I (c.crewUpTo i).1,I (c.crewUpTo i).2]∧h=h'):=by
 have htop:=lo.top
 have hlo:=lo.lo
 refine Ar (As mix Tryz.func67 rfl rfl Tryz.ntmps67 Tryz.results67 rfl ?_);conv=>whnf
 refine ALoop.mk (fun e h'=>Sub h h'∧∃ e0,∃ j:Int,e=updL 57 e0 [(0,Ptr p),(6,I j)]∧j≤c.log.bi+c.log.es.length∧crewIn c.log (j-c.log.bi).toNat=crewIn c.log (i-c.log.bi).toNat) (fun e=>natOf (e 6))
  ⟨Sub.refl _,_,i,Au ⟨rfl,rfl,trivial⟩,hi,rfl⟩ ?_
 rintro e h2 ⟨s2,e0,j,rfl,hj,hin⟩
 have k2:=k.sub s2
 conv=>whnf
 refine Aa rfl k2.str rfl ?_;conv=>whnf
 refine C2 (First_c k2.log lo) ?_;conv=>whnf
 by_cases c1:c.log.bi+1≤j
 ·refine Ac (c1) ?_;conv=>whnf
  obtain ⟨ab,hab⟩:=spot_some_of (L:=c.log) (i:=j) (by omega) hj
  obtain ⟨q1,q2,q3⟩:=LG.spot_some hab
  obtain ⟨m,hm⟩:∃ m:Nat,(j-c.log.bi).toNat=m+1:=⟨(j-c.log.bi).toNat-1,by omega⟩
  have hm1:(j-c.log.bi-1).toNat=m:=by omega
  have hjm:j=c.log.bi+1+m:=by omega
  rw [hm1] at q3
  rw [hm,crewIn,q3] at hin
  simp only [] at hin
  refine Aa rfl k2.str rfl ?_;conv=>whnf
  refine ACalls.mono (Get_c k2.log lo (0,2) (by decide) j) ?_;rintro _ h3 ⟨ge,rfl,gm,gabs,gn,s3⟩;conv=>whnf
  rw [LG.get,hab] at gabs ⊢
  simp only [] at gabs
  refine Ak (0,1) ([I 0,I 0,I 0, .slice none 0 0]) rfl fun b7 h4 n4 s4 k4=>?_;conv=>whnf
  refine Ae rfl rfl rfl (k4) rfl (ge.cells) rfl fun h5 t5 k5 a5 e5=>?_;conv=>whnf
  have n2:h b7=none:=by
   cases e:h b7 with
   | none=>rfl
   | some y=>rw [s3 _ _ (s2 _ _ e)] at n4;cases n4
  have n3:h3 b7=none:=n4
  have s5:Sub h h5:=a5 h ((s2.trans s3).trans s4) n2
  have gm5:=Own.sub gm (a5 h3 s4 n3)
  refine Ac (rfl) ?_;conv=>whnf
  refine Aa rfl k5 rfl ?_;conv=>whnf
  have gk:ge.kind=ab.2.2.1:=by rw [← gabs];rfl
  by_cases c2:ab.2.2.1=2
  ·refine Ac (by rw [gk];exact c2) ?_;conv=>whnf
   rw [if_pos c2] at hin
   refine Ab rfl k5 rfl rfl ?_;conv=>whnf
   have hby:=by_ ab (List.mem_of_getElem? q3) c2
   rw [← gabs] at hby
   refine C2 (crewOf_any _ ge gm5.sl hby) ?_;conv=>whnf
   refine ⟨?_,s5⟩
   unfold CoreM.crewUpTo
   rw [← hin,gabs,← hjm]
  ·refine Ad (by rw [gk];exact c2) ?_;conv=>whnf
   rw [if_neg c2] at hin
   refine Ag (by omega) (by omega) (rfl) ?_;conv=>whnf
   refine ⟨⟨s5,_,j-1,Au ⟨rfl,rfl,trivial⟩,by omega,by rw [← hin];congr 1;omega⟩,?_⟩
   show (j-1).toNat<j.toNat
   omega
 ·refine Ad (c1) ?_;conv=>whnf
  have hin0:crewIn c.log (i-c.log.bi).toNat=none:=by rw [← hin,show (j-c.log.bi).toNat=0 by omega];rfl
  refine Aa rfl k2.str rfl ?_;conv=>whnf
  unfold CoreM.crewUpTo
  rw [hin0]
  by_cases c3:0<c.snap.index
  ·refine Ac (c3) ?_;conv=>whnf
   refine Aa rfl k2.str rfl ?_;conv=>whnf
   exact ⟨by simp [c3],s2⟩
  ·refine Ad (c3) ?_;conv=>whnf
   refine Aa rfl k2.str rfl ?_;conv=>whnf
   exact ⟨by simp [c3],s2⟩
theorem crewNow_any {h:Heap} {p o oo:Nat} {c:CoreM} {x:CX} (k:CoreX 81 LA h p o oo c x) (lo:LOk c.log) (by_:∀ e∈c.log.es,e.2.2.1=2→∀ x∈e.2.2.2,0≤x∧x<256) :
  ACalls PR 53 #[Ptr p] h (fun v h'=>v = .tuple #[I c.crewNow.1,I c.crewNow.2]∧h=h'):=by
 refine Ar (As mix Tryz.func53 rfl rfl Tryz.ntmps53 Tryz.results53 rfl ?_);conv=>whnf
 refine Aa rfl k.str rfl ?_;conv=>whnf
 refine C2 (Last_c k.log lo) ?_;conv=>whnf
 refine C2 (crewUpTo_any k lo by_ c.log.last.1 (by rw [lo.last];exact Int.le_refl _)) ?_;conv=>whnf
 exact ⟨rfl,Sub.refl _⟩
structure Asks (t:Tag) (g:FuncId) (caps:List Value) (xs:List Int) (P:Int→Bool) (Inv:Nat→Heap→Prop):Prop where
  call:∀ (k:Nat) (x:Int) (h:Heap),xs[k]? = some x→Inv k h→ACalls PR g ((I x::caps).toArray) h (fun v h'=>v = .bool (P x)∧Inv (k+1) h'∧∀ b y,h b=some (t,y)→h' b=some (t,y))
  stay:∀ (k:Nat) (h h':Heap),Inv k h→KeepT t h h'→Inv k h'
theorem IndexFunc_any {h:Heap} {t:Tag} {E:TypeId} {a:Option Addr} {n cp:Nat} {xs:List Int} {g:FuncId} {caps:List Value} {P:Int→Bool} {Inv:Nat→Heap→Prop} (A:Asks t g caps xs P Inv)
  (s:Own h t E a n cp 1 (xs.map I)) (hn:n≤4611686018427387904) (i0:Inv 0 h) :
  ACalls PR 182 #[.slice a n cp, .func (.func g) #[] caps.toArray] h (fun v h'=>∃ k:Nat,k≤n∧(∀ j x,j<k→xs[j]? = some x→P x=false)∧Own h' t E a n cp 1 (xs.map I) ∧
   ((k<n∧v=I k∧Inv (k+1) h'∧∃ x,xs[k]? = some x∧P x=true)∨(k=n∧v=I (-1)∧Inv n h'))):=by
 have hxl:xs.length=n:=by have:=s.sl.len;simpa using this
 refine As mix Tryz.func182 rfl rfl Tryz.ntmps182 Tryz.results182 rfl ?_;conv=>whnf
 refine ALoop.mk (fun e h'=>∃ e0,∃ k:Nat,e=updL 19 e0 [(0, .slice a n cp),(1, .func (.func g) #[] caps.toArray),(7,I n),(8,I k)]∧k≤n∧(∀ j x,j<k→xs[j]? = some x→P x=false)∧Own h' t E a n cp 1 (xs.map I)∧Inv k h') (fun e=>n-natOf (e 8))
  ⟨_,0,Au ⟨rfl,rfl,rfl,rfl,trivial⟩,by omega,fun j x hj=>absurd hj (by omega),s,i0⟩ ?_
 rintro e h2 ⟨e0,k,rfl,hk,hp,s2,i2⟩
 conv=>whnf
 by_cases hkn:k<n
 ·refine Ac (by omega) ?_;conv=>whnf
  obtain ⟨y,hy⟩:∃ y,xs[k]? = some y:=⟨xs[k]'(by omega),by simp⟩
  rcases s2 with ⟨e1,_,_⟩ | ⟨b,l,rfl,hb,hl,hnc,hc⟩
  ·exact absurd hkn (by omega)
  have g0:l[0+k*1]? = some (I y):=by
   have:(l.take (n*1))[k]? = l[k]? := by rw [List.getElem?_take,if_pos (by omega)]
   rw [Nat.zero_add,Nat.mul_one,← this,hc];simp [hy]
  refine Ai (z:=1) (j:=k) rfl hkn rfl rfl ?_;conv=>whnf
  refine Aa rfl hb g0 ?_;conv=>whnf
  have O2:Own h2 t E (some ⟨b,0,none⟩) n cp 1 (xs.map I) := .inr ⟨b,l,rfl,hb,hl,hnc,hc⟩
  have hcall:=A.call k y h2 hy i2
  cases hP:P y with
  | true =>
   rw [hP] at hcall
   refine ACalls.mono (hcall) ?_;rintro _ h3 ⟨rfl,i3,s3⟩;conv=>whnf
   exact ⟨k,hk,hp,O2.move s3, .inl ⟨hkn,rfl,i3,y,hy,hP⟩⟩
  | false =>
   rw [hP] at hcall
   refine ACalls.mono (hcall) ?_;rintro _ h3 ⟨rfl,i3,s3⟩;conv=>whnf
   refine Ag (by omega) (by omega) ((by omega:(k:Int)+1=((k+1:Nat):Int))) ?_;conv=>whnf
   refine ⟨⟨_,k+1,Au ⟨rfl,rfl,rfl,rfl,trivial⟩,by omega,fun j x hj hx=>?_,O2.move s3,i3⟩,?_⟩
   ·by_cases hjk:j=k
    ·subst hjk;rw [hy] at hx;cases hx;exact hP
    ·exact hp j x (by omega) hx
   ·show n-(k+1)<n-k
    omega
 ·refine Ad (by omega) ?_;conv=>whnf
  obtain rfl:k=n:=by omega
  exact ⟨k,Nat.le_refl _,hp,s2, .inr ⟨rfl,rfl,i2⟩⟩
theorem filter_none {P:Int→Bool}:∀ (xs:List Int),(∀ (j:Nat) x,xs[j]? = some x→P x=false)→xs.filter (fun x => !P x)=xs
 | [],_=>rfl
 | x::r,h=>by
  have h0:=h 0 x rfl
  rw [List.filter_cons,h0]
  simp only [Bool.not_false,if_true]
  rw [filter_none r fun j y hy=>h (j+1) y hy]
theorem DeleteFunc_any {h:Heap} {t:Tag} {a:Option Addr} {n cp:Nat} {xs:List Int} {g:FuncId} {caps:List Value} {P:Int→Bool} {Inv:Nat→Heap→Prop} (A:Asks t g caps xs P Inv)
  (s:Own h t 3 a n cp 1 (xs.map I)) (hn:n≤4611686018427387904) (i0:Inv 0 h) :
  ACalls PR 140 #[.slice a n cp, .func (.func g) #[] caps.toArray] h (fun v h'=>v = .slice a (xs.filter fun x => !P x).length cp∧Own h' t 3 a (xs.filter fun x => !P x).length cp 1 ((xs.filter fun x => !P x).map I)∧Inv n h'):=by
 have hxl:xs.length=n:=by have:=s.sl.len;simpa using this
 refine As mix Tryz.func140 rfl rfl Tryz.ntmps140 Tryz.results140 rfl ?_;conv=>whnf
 refine ACalls.mono (IndexFunc_any A s hn i0) ?_
 rintro _ h2 ⟨k,hk,hp,s2,⟨hkn,rfl,i2,y,hy,hP⟩ | ⟨rfl,rfl,i2⟩⟩
 ·conv=>whnf
  refine Ad (by omega) ?_;conv=>whnf
  refine Ag (by omega) (by omega) ((by omega:(k:Int)+1=((k+1:Nat):Int))) ?_;conv=>whnf
  have hpre:(xs.take (k+1)).filter (fun x => !P x)=xs.take k:=by
   rw [List.take_succ_eq_append_getElem (by omega),List.filter_append,(List.getElem?_eq_some_iff.1 hy).2]
   rw [filter_none (xs.take k) fun j x hx=>by
    rw [List.getElem?_take] at hx
    split at hx
    ·exact hp j x (by assumption) hx
    ·cases hx]
   simp [hP]
  refine ALoop.mk (fun e h'=>∃ e0,∃ i j:Nat,∃ ys,e=updL 42 e0 [(0, .slice a n cp),(1, .func (.func g) #[] caps.toArray),(5,I i),(6,I j)]∧i<j∧j≤n∧ys.length=n∧ys.take i=(xs.take j).filter (fun x => !P x)∧i=((xs.take j).filter (fun x => !P x)).length∧ys.drop j=xs.drop j ∧
    Own h' t 3 a n cp 1 (ys.map I)∧Inv j h') (fun e=>n-natOf (e 6))
   ⟨_,k,k+1,xs,Au ⟨rfl,rfl,rfl,rfl,trivial⟩,by omega,by omega,hxl,by rw [hpre],by rw [hpre,List.length_take];omega,rfl,s2,i2⟩ ?_
  rintro e h3 ⟨e0,i,j,ys,rfl,hij,hj,hyl,ht,hi,hd,s3,i3⟩
  conv=>whnf
  by_cases hjn:j<n
  ·refine Ac (by omega) ?_;conv=>whnf
   obtain ⟨z,hz⟩:∃ z,xs[j]? = some z:=⟨xs[j]'(by omega),by simp⟩
   have hzy:ys[j]? = some z:=by
    have:=congrArg (fun l=>l[0]?) hd
    simpa [List.getElem?_drop,hz] using this
   rcases s3 with ⟨e1,_,_⟩ | ⟨b,l,rfl,hb,hl,hnc,hc⟩
   ·exact absurd hjn (by omega)
   have g0:l[0+j*1]? = some (I z):=by
    have:(l.take (n*1))[j]? = l[j]? := by rw [List.getElem?_take,if_pos (by omega)]
    rw [Nat.zero_add,Nat.mul_one,← this,hc];simp [hzy]
   have O3:Own h3 t 3 (some ⟨b,0,none⟩) n cp 1 (ys.map I) := .inr ⟨b,l,rfl,hb,hl,hnc,hc⟩
   refine Ai (z:=1) (j:=j) rfl hjn rfl rfl ?_;conv=>whnf
   refine Aa rfl hb g0 ?_;conv=>whnf
   have hcall:=A.call j z h3 hz i3
   have hdrop:ys.drop (j+1)=xs.drop (j+1):=by
    have:=congrArg (List.drop 1) hd
    simpa [List.drop_drop] using this
   have htk:xs.take (j+1)=xs.take j++[z]:=by
    rw [List.take_succ_eq_append_getElem (by omega),(List.getElem?_eq_some_iff.1 hz).2]
   cases hPz:P z with
   | true =>
    rw [hPz] at hcall
    refine ACalls.mono (hcall) ?_;rintro _ h4 ⟨rfl,i4,s4⟩;conv=>whnf
    refine Ag (by omega) (by omega) ((by omega:(j:Int)+1=((j+1:Nat):Int))) ?_;conv=>whnf
    have hf:(xs.take (j+1)).filter (fun x => !P x)=(xs.take j).filter (fun x => !P x):=by rw [htk,List.filter_append];simp [hPz]
    refine ⟨⟨_,i,j+1,ys,Au ⟨rfl,rfl,rfl,rfl,trivial⟩,by omega,by omega,hyl,by rw [hf];exact ht,by rw [hf];exact hi,hdrop,O3.move s4,i4⟩,?_⟩
    show n-(j+1)<n-j
    omega
   | false =>
    rw [hPz] at hcall
    refine ACalls.mono (hcall) ?_;rintro _ h4 ⟨rfl,i4,s4⟩;conv=>whnf
    have hb4:=s4 _ _ hb
    refine Ai (z:=1) (j:=i) rfl (by omega) rfl rfl ?_;conv=>whnf
    refine AStore.one rfl rfl rfl hb4 (by omega) ?_;conv=>whnf
    refine Ag (by omega) (by omega) ((by omega:(i:Int)+1=((i+1:Nat):Int))) ?_;conv=>whnf
    refine Ag (by omega) (by omega) ((by omega:(j:Int)+1=((j+1:Nat):Int))) ?_;conv=>whnf
    have hf:(xs.take (j+1)).filter (fun x => !P x)=(xs.take j).filter (fun x => !P x)++[z]:=by rw [htk,List.filter_append];simp [hPz]
    have kt:KeepT t h4 (h4.set b (row t (l.set (0+i*1) (I z)) 3)):=KeepT.set hb4
    refine ⟨⟨_,i+1,j+1,ys.set i z,Au ⟨rfl,rfl,rfl,rfl,trivial⟩,by omega,by omega,by rw [List.length_set];exact hyl,?_,by rw [hf,List.length_append,← hi];rfl,?_,?_,A.stay _ _ _ i4 kt⟩,?_⟩
    ·rw [hf,← ht,List.take_succ_eq_append_getElem (by rw [List.length_set];omega),List.take_set_of_le (Nat.le_refl _)]
     simp
    ·rw [List.drop_set_of_lt (by omega)];exact hdrop
    ·refine .inr ⟨b,_,rfl,Heap.set_same _ _ _,by rw [List.length_set];exact hl,hnc,?_⟩
     rw [List.take_set,hc,Nat.zero_add,Nat.mul_one,List.map_set]
    ·show n-(j+1)<n-j
     omega
  ·refine Ad (by omega) ?_;conv=>whnf
   obtain rfl:j=n:=by omega
   have hxj:xs.take j=xs:=List.take_of_length_le (by omega)
   rw [hxj] at ht hi
   have hcap:=s3.sl.le
   refine ASlc.from (z:=1) rfl (by omega) hcap rfl rfl ?_;conv=>whnf
   refine AClear.own (t:=t) (E:=3) (z:=1) (zero:=[I 0]) rfl rfl rfl (by omega) rfl s3 (by omega:i≤j) fun h4 hown hk4=>?_
   conv=>whnf
   refine ASlc.upto (z:=1) rfl (by omega) rfl rfl ?_;conv=>whnf
   rw [← List.map_take,Nat.mul_one,ht] at hown
   rw [← hi]
   exact ⟨rfl,hown,A.stay _ _ _ i3 hk4⟩
 ·conv=>whnf
  refine Ac (rfl) ?_;conv=>whnf
  rw [filter_none xs fun j x hx=>hp j x (by have:=(List.getElem?_eq_some_iff.1 hx).1;omega) hx,hxl]
  exact ⟨rfl,s2,i2⟩
theorem others_any {h:Heap} {p o oo:Nat} {c:CoreM} {x:CX} (k:CoreX 81 LA h p o oo c x) (lo:LOk c.log) (by_:∀ e∈c.log.es,e.2.2.1=2→∀ x∈e.2.2.2,0≤x∧x<256) :
  ACalls PR 119 #[Ptr p] h (fun v h'=>∃ a cp f,v = .slice a c.others.length cp∧Sl h' (f,0) a c.others.length cp 1 (c.others.map I)∧o+1<f∧oo<f∧Sub h h'):=by
 refine ACalls.owner ⟨_,Tryz.func119,rfl,rfl⟩ fun o0 ho0 bnd=>?_
 obtain ⟨f,hf⟩:∃ f,f=o0+o+oo+3:=⟨_,rfl⟩
 have nof:NoOwner f h:=bnd.no (by omega)
 refine (?_:ACalls PR 119 _ h (fun v h'=>(∃ a cp,v = .slice a c.others.length cp∧Sl h' (f,0) a c.others.length cp 1 (c.others.map I))∧Keep f h h')).mono fun v h' ⟨⟨a,cp,e,s⟩,kk⟩=>⟨a,cp,f,e,s,by omega,by omega,kk.toSub nof⟩
 refine As mix Tryz.func119 rfl rfl Tryz.ntmps119 Tryz.results119 rfl ?_;conv=>whnf
 refine ABox.mk (0,1) rfl fun b1 f1=>?_;conv=>whnf
 have s1:=f1.sub (row (0,1) [Ptr p] 27)
 have k1:=Heap.set_same h b1 (row (0,1) [Ptr p] 27)
 have nof1:NoOwner f (h.set b1 (row (0,1) [Ptr p] 27)):=nof.set _ _ (by simp;omega)
 generalize h.set b1 (row (0,1) [Ptr p] 27)=h1 at s1 k1 nof1 ⊢
 have q1:=k.sub s1
 refine Aa rfl k1 rfl ?_;conv=>whnf
 refine C2 (crewNow_any q1 lo by_) ?_;conv=>whnf
 refine ACalls.mono (List_own _ c.crewNow.1 f nof1) ?_;rintro _ h2 ⟨al,cl,rfl,ow,s2⟩;conv=>whnf
 have q2:=q1.sub s2
 have k2:=s2 _ _ k1
 have A:Asks (f,0) 167 [Ptr b1] (ls (m5 c.crewNow.1)) (fun n=>decide (n=c.self)) (fun _ h'=>h' b1=some (row (0,1) [Ptr p] 27)∧h' p=some (row (o,0) (coreCells c x) 81)∧Keep f h h'):=by
  refine ⟨fun j n h' hn ⟨i1,i2,i3⟩=>?_,fun j h' h'' ⟨i1,i2,i3⟩ kt=>⟨kt.get (fun c=>by have:=congrArg Prod.fst c;simp at this;omega) i1,kt.get (fun c=>by have:=congrArg Prod.fst c;simp at this;omega) i2,i3.trans kt.keep⟩⟩
  refine (?_:ACalls PR 167 _ h' (fun v h''=>v = .bool (decide (n=c.self))∧h'=h'')).mono fun v h'' ⟨e,e2⟩=>⟨e,by subst e2;exact ⟨i1,i2,i3⟩,by subst e2;exact fun _ _ y=>y⟩
  refine Ar (As mix Tryz.func167 rfl rfl Tryz.ntmps167 Tryz.results167 rfl ?_);conv=>whnf
  refine Aa rfl i1 rfl ?_
  refine Aa rfl i2 rfl ?_;conv=>whnf
  refine ACmp.dec ?_;conv=>whnf
  exact ⟨rfl,Sub.refl _⟩
 have hl5:(ls (m5 c.crewNow.1)).length≤5:=lsTo_len _ 5
 refine ACalls.mono (DeleteFunc_any A ow (by omega) ⟨k2,q2.str,(s1.trans s2).keep f⟩) ?_;rintro _ h3 ⟨rfl,ow3,i1,i2,i3⟩;conv=>whnf
 have e:(ls (m5 c.crewNow.1)).filter (fun n => !decide (n=c.self))=c.others:=by
  unfold CoreM.others;congr 1;funext n;simp
 rw [e] at ow3 ⊢
 exact ⟨⟨al,cl,rfl,ow3.sl⟩,i3⟩
theorem Keep.keeps2 {o a b:Nat} {h h':Heap} (k:Keep o h h') (m:o=a∨o=b):Keeps [a,b] h h':=k.keeps (by rcases m with rfl | rfl <;> simp)
theorem PH.Made.sub {h h':Heap} {oo r:Nat} {x:PH} (m:x.Made h oo r) (s:Sub h h'):x.Made h' oo r:=m.move fun _ _ _ _ _ e=>s _ _ e
def post0z:List Value:=[I 0,I 0,I 0,I 0,I 0,I 0,I 0, .bool false,I 0, .slice none 0 0,I 0,I 0,I 0, .slice none 0 0]
theorem say_any {h:Heap} {p o oo:Nat} {c:CoreM} (ho:o≠oo) (ho1:o+1≠oo) (ho0:o≠0) (hoo:oo≠0) (k:PCore h p o oo c) (n:Int) (ph:PH) (m:ph.Made h oo (10+c.out.posts.length)) (hroom:c.out.posts.length≤1000000000) :
  ACalls PR 126 #[Ptr p,I n, .agg ph.cells.toArray] h (fun v h'=>v = .tuple #[]∧PCore h' p o oo (c.say n ph.abs)∧Keeps [o,oo] h h'):=by
 obtain ⟨x,k⟩:=k
 have hpl:x.ox.ps.length=x.ox.op.n:=by
  have:=k.out.op.sl.len
  rw [flat_len (z:=14) (by intro e he;obtain ⟨y,_,rfl⟩:=List.mem_map.1 he;rfl)] at this
  simp at this;omega
 have hpl2:x.ox.ps.length=c.out.posts.length:=by rw [← k.out.pa];simp
 refine As mix Tryz.func126 rfl rfl Tryz.ntmps126 Tryz.results126 rfl ?_;conv=>whnf
 refine Al (0,1) (ph.cells) rfl fun b5 h1 n1 s1 k1=>?_;conv=>whnf
 have q1:=k.sub s1
 have b5p:b5≠p:=ne_of_tag k1 q1.str (tag_ne ho0)
 refine Am (one h1 p) [14] (one_sub _ _) (by decide +kernel) ?_;conv=>whnf
 refine Aa rfl ((one_at _ _).trans q1.str) rfl ?_
 refine Aa rfl ((one_at _ _).trans q1.str) rfl ?_;conv=>whnf
 refine Af rfl rfl rfl (k1) rfl (({ph with src:=c.self}:PH).cells) rfl fun h2 t2 k2 a2 e2=>?_;conv=>whnf
 refine ⟨one_get fun y hy=>e2 _ _ (Ne.symm b5p) hy,?_⟩;conv=>whnf
 refine Af rfl rfl rfl (k2) rfl (({ph with src:=c.self,dst:=n}:PH).cells) rfl fun h3 t3 k3 a3 e3=>?_;conv=>whnf
 refine ⟨one_get fun y hy=>e3 _ _ (Ne.symm b5p) (e2 _ _ (Ne.symm b5p) hy),?_⟩;conv=>whnf
 refine Af rfl rfl rfl (k3) rfl (({ph with src:=c.self,dst:=n,term:=c.term}:PH).cells) rfl fun h4 t4 k4 a4 e4=>?_;conv=>whnf
 obtain ⟨pm,hpm⟩:∃ pm:PH,pm={ph with src:=c.self,dst:=n,term:=c.term}:=⟨_,rfl⟩
 rw [← hpm] at k4
 have s4:Sub h h4:=a4 h (a3 h (a2 h s1 n1) n1) n1
 have q4:=k.sub s4
 have m4:=m.sub s4
 clear t2 t3 t4 a2 a3 a4 e2 e3 e4 k2 k3 q1 k1 s1 n1
 refine Am (two h4 p b5) [12] (two_sub _ _ _) (by decide +kernel) ?_;conv=>whnf
 refine Aa rfl ((two_l _ _ _).trans q4.str) rfl ?_
 refine Ab rfl ((two_r _ _ _).trans k4) rfl rfl ?_;conv=>whnf
 refine Ap (0,1) pm.cells rfl rfl rfl rfl rfl rfl rfl fun b6 h5 n5 s5 k6=>?_;conv=>whnf
 refine ⟨(two_sub _ _ _).trans s5,?_⟩;conv=>whnf
 have q5:=q4.sub s5
 have m5:=m4.sub s5
 refine AAppend.own (t:=(oo,3)) (E:=49) (z:=14) (by_:=144) (zero:=post0z) (tx:=(0,1)) (xs:=pm.cells) rfl ⟨_,rfl⟩ rfl rfl rfl rfl (by omega) q5.out.op
  ⟨rfl,Nat.le_refl _, .inr ⟨b6,0,_,_,_,rfl,k6,rfl⟩⟩ rfl (by omega) (by omega) fun a7 c7 h7 ow7 t7 _=>?_
 conv=>whnf
 have p7:=t7.get (u:=(o,0)) (fun c=>ho (congrArg Prod.fst c)) q5.str
 have b7:=t7.get (u:=(0,1)) (fun c=>hoo (congrArg Prod.fst c).symm) (s5 _ _ k4)
 refine ⟨two_get (fun y hy=>?_) (fun y hy=>?_),?_⟩
 ·rw [q4.str] at hy;cases hy;exact p7
 ·rw [k4] at hy;cases hy;exact b7
 conv=>whnf
 refine Af rfl rfl rfl (p7) rfl (coreCells (c.say n ph.abs) {x with ox:={x.ox with op:=⟨a7,x.ox.op.n+1,c7⟩,ps:=x.ox.ps++[pm]}}) rfl fun h8 t8 k8 a8 e8=>?_;conv=>whnf
 have nt:∀ r:Nat,((oo,r):Tag)≠(o,0):=fun r c=>ho (congrArg Prod.fst c).symm
 have go:∀ r:Nat,r≠3→∀ b y,h5 b=some ((oo,r),y)→h8 b=some ((oo,r),y):=fun r hr b y e=>t8.get (nt r) (t7.get (fun c=>hr (congrArg Prod.snd c)) e)
 have gc:∀ (t:Tag),t.1=o∨t.1=o+1→t≠(o,0)→∀ b y,h5 b=some (t,y)→h8 b=some (t,y):=fun t ht hn b y e=>t8.get hn (t7.get (fun c=>by rw [c] at ht;simp at ht;omega) e)
 refine ⟨rfl,⟨_,k8,?_,?_,?_,?_⟩,?_⟩
 ·exact q5.sd.move fun _ _ e=>gc _ (.inl rfl) (by simp) _ _ e
 ·exact Moves.move q5.log fun _ t _ ht e=>gc t (.inr ht) (fun c=>by rw [c] at ht;simp at ht) _ _ e
 ·exact q5.rd.move fun _ _ e=>gc _ (.inl rfl) (by simp) _ _ e
 ·have mv:∀ (y:PH) (r:Nat),y.Made h5 oo (10+r)→y.Made h8 oo (10+r):=fun y r hy=>hy.move fun b t z ht hr e=>by
   obtain ⟨t1,t2⟩:=t
   simp only at ht hr;subst ht
   exact go t2 (by omega) b z e
  have mp:pm.Made h8 oo (10+x.ox.ps.length):=by
   have:=mv ph _ m5
   rw [hpm,hpl2]
   exact ⟨this.es,this.ed,this.sm,this.sd⟩
  refine ⟨q5.out.od.move fun _ _ e=>go 6 (by decide) _ _ e,q5.out.oe.move fun _ _ e=>go 1 (by decide) _ _ e,fun y hy=>Own.move (q5.out.ed y hy) fun _ _ e=>go 2 (by decide) _ _ e,q5.out.ea,q5.out.es,?_,?_,?_,q5.out.qr.move fun _ _ e=>go 7 (by decide) _ _ e⟩
  ·have:=ow7.keepT t8 (nt 3)
   simp only [List.map_append,List.map_cons,List.map_nil,List.flatten_append,List.flatten_cons,List.flatten_nil,List.append_nil]
   exact this
  ·intro i y hy
   rw [List.getElem?_append] at hy
   split at hy
   ·exact mv y i (q5.out.ps i y hy)
   ·rename_i hge
    have:i-x.ox.ps.length=0:=by
     have:=(List.getElem?_eq_some_iff.1 hy).1
     simp at this;omega
    rw [this] at hy
    simp only [List.getElem?_cons_zero,Option.some.injEq] at hy
    subst hy
    rw [show i=x.ox.ps.length by omega]
    exact mp
  ·rw [List.map_append,q5.out.pa,hpm];rfl
 ·exact ((s4.trans s5).keeps _).trans ((t7.keep.keeps2 (.inr rfl)).trans (t8.keep.keeps2 (.inl rfl)))
theorem cloned_any (h:Heap) (tg:Tag) (ht:tg≠(0,1)) {t:Tag} {i tm cr:Int} {d:SlV} {data:List Int} (g:Sl h t d.a d.n d.c 1 (bytesV data)) (hn:d.n≤140737488355328) :
  ACalls PR 70 #[.agg #[I i,I tm,I cr, .slice d.a d.n d.c]] h (fun v h'=>∃ a' c',v = .agg #[I i,I tm,I cr, .slice a' d.n c']∧Own h' tg 5 a' d.n c' 1 (bytesV data)∧Sub h h'):=by
 refine As mix Tryz.func70 rfl rfl Tryz.ntmps70 Tryz.results70 rfl ?_;conv=>whnf
 refine Al (0,1) ([I i,I tm,I cr, .slice d.a d.n d.c]) rfl fun b1 h1 n1 s1 k1=>?_;conv=>whnf
 refine Ak (0,1) ([I 0,I 0,I 0, .slice none 0 0]) rfl fun b2 h2 n2 s2 k2=>?_;conv=>whnf
 have b12:b1≠b2:=fun c=>by rw [c,n2] at k1;cases k1
 have n2:h b2=none:=by
  cases e:h b2 with
  | none=>rfl
  | some y=>rw [s1 _ _ e] at n2;cases n2
 refine Aa rfl (s2 _ _ k1) rfl ?_;conv=>whnf
 refine ACalls.mono (cloneB_any _ tg (Sl.sub g (s1.trans s2)) hn) ?_
 rintro v h3 ⟨a',c',rfl,hsl,hsub⟩
 conv=>whnf
 refine Af rfl rfl rfl ((hsub _ _ (s2 _ _ k1))) rfl ([I i,I tm,I cr, .slice a' d.n c']) rfl fun h4 t4 k4 a4 e4=>?_;conv=>whnf
 refine Ab rfl k4 rfl rfl ?_;conv=>whnf
 refine Ae rfl rfl rfl ((e4 _ _ (Ne.symm b12) (hsub _ _ k2))) rfl ([I i,I tm,I cr, .slice a' d.n c']) rfl fun h5 t5 k5 a5 e5=>?_;conv=>whnf
 refine Ab rfl k5 rfl rfl ?_;conv=>whnf
 exact ⟨a',c',rfl,(hsl.keepT t4 ht).keepT t5 ht,a5 h (a4 h ((s1.trans s2).trans hsub) n1) n2⟩
theorem next_cell (c:CoreM) (x:CX) {n:Int} (h1:1≤n) (h2:n≤5):(coreCells c x)[15+n.toNat]? = some (I (c.next.get n)):=by
 have:n=1∨n=2∨n=3∨n=4∨n=5:=by omega
 rcases this with rfl | rfl | rfl | rfl | rfl <;> rfl
theorem mtch_cell (c:CoreM) (x:CX) {n:Int} (h1:1≤n) (h2:n≤5):(coreCells c x)[21+n.toNat]? = some (I (c.mtch.get n)):=by
 have:n=1∨n=2∨n=3∨n=4∨n=5:=by omega
 rcases this with rfl | rfl | rfl | rfl | rfl <;> rfl
theorem heard_cell (c:CoreM) (x:CX) {n:Int} (h1:1≤n) (h2:n≤5):(coreCells c x)[27+n.toNat]? = some (I (c.heard.get n)):=by
 have:n=1∨n=2∨n=3∨n=4∨n=5:=by omega
 rcases this with rfl | rfl | rfl | rfl | rfl <;> rfl
theorem next_set (c:CoreM) (x:CX) {n:Int} (h1:1≤n) (h2:n≤5) (v:Int):(coreCells c x).set (15+n.toNat) (I v)=coreCells {c with next:=c.next.set n v} x:=by
 have:n=1∨n=2∨n=3∨n=4∨n=5:=by omega
 rcases this with rfl | rfl | rfl | rfl | rfl <;> rfl
theorem mtch_set (c:CoreM) (x:CX) {n:Int} (h1:1≤n) (h2:n≤5) (v:Int):(coreCells c x).set (21+n.toNat) (I v)=coreCells {c with mtch:=c.mtch.set n v} x:=by
 have:n=1∨n=2∨n=3∨n=4∨n=5:=by omega
 rcases this with rfl | rfl | rfl | rfl | rfl <;> rfl
theorem heard_set (c:CoreM) (x:CX) {n:Int} (h1:1≤n) (h2:n≤5) (v:Int):(coreCells c x).set (27+n.toNat) (I v)=coreCells {c with heard:=c.heard.set n v} x:=by
 have:n=1∨n=2∨n=3∨n=4∨n=5:=by omega
 rcases this with rfl | rfl | rfl | rfl | rfl <;> rfl
structure Apart (o oo:Nat):Prop where
  a:o≠oo
  b:o+1≠oo
  c:o≠0
  d:oo≠0
theorem CoreX.snapLen {T:TypeId} {LP:Heap→Nat→Nat→LG→Prop} {h:Heap} {p o oo:Nat} {c:CoreM} {x:CX} (k:CoreX T LP h p o oo c x):x.sd.n=c.snap.data.length:=by
 have:=k.sd.sl.len
 simpa [bytesV] using this.symm
theorem CoreAt.keeps' {h h':Heap} {p o oo:Nat} {c:CoreM} {f r:Nat} (k:PCore h p o oo c) (kt:KeepT (f,r) h h') (h1:o≠f) (h2:o+1≠f) (h3:oo≠f):PCore h' p o oo c :=
 k.keeps (os:=[f]) (kt.keep.keeps (by simp)) (by simpa using h1) (by simpa using h2) (by simpa using h3)
theorem OutOk.role {h h':Heap} {oo r:Nat} {u:OutM} {x:OX} (k:OutOk h oo u x) (kt:KeepT (oo,r) h h') (hr:10+x.ps.length≤r):OutOk h' oo u x:=by
 have go:∀ q,q≠r→∀ b y,h b=some ((oo,q),y)→h' b=some ((oo,q),y):=fun q hq b y e=>kt.get (fun c=>hq (congrArg Prod.snd c)) e
 refine ⟨k.od.move fun _ _ e=>go 6 (by omega) _ _ e,k.oe.move fun _ _ e=>go 1 (by omega) _ _ e,fun y hy=>Own.move (k.ed y hy) fun _ _ e=>go 2 (by omega) _ _ e,k.ea,k.es,k.op.move fun _ _ e=>go 3 (by omega) _ _ e,fun i y hy=>?_,k.pa,k.qr.move fun _ _ e=>go 7 (by omega) _ _ e⟩
 have:=(List.getElem?_eq_some_iff.1 hy).1
 exact (k.ps i y hy).move fun b t z ht hq e=>by
  obtain ⟨t1,t2⟩:=t
  simp only at ht hq;subst ht
  exact go t2 (by omega) b z e
theorem send_any {h:Heap} {p o oo:Nat} {c:CoreM} (ap:Apart o oo) (k:PCore h p o oo c) (lo:LOk c.log) {n:Int} (h1:1≤n) (h2:n≤5) (hx0:0≤c.next.get n) (hx1:c.next.get n≤9007199254740992)
  (hroom:c.out.posts.length≤1000000000) (hsd:c.snap.data.length≤8192) (hes:c.log.es.length*48≤140737488355328) :
  ACalls PR 120 #[Ptr p,I n] h (fun v h'=>v = .tuple #[]∧PCore h' p o oo (c.send n)∧Keeps [o,oo] h h'):=by
 obtain ⟨x,k⟩:=k
 have hpl2:x.ox.ps.length=c.out.posts.length:=by rw [← k.out.pa];simp
 obtain ⟨m,hm⟩:∃ m:Nat,n=m:=⟨n.toNat,by omega⟩
 refine As mix Tryz.func120 rfl rfl Tryz.ntmps120 Tryz.results120 rfl ?_;conv=>whnf
 refine Aj (n:=6) (z:=1) (j:=m) (by omega) (by omega) rfl rfl ?_;conv=>whnf
 refine Aa rfl k.str (by have:=next_cell c x h1 h2;rw [show 0+14+1+m*1=15+n.toNat by omega];exact this) ?_
 refine Aa rfl k.str rfl ?_;conv=>whnf
 refine C2 (First_c k.log lo) ?_;conv=>whnf
 unfold CoreM.send
 by_cases c1:c.next.get n<c.log.bi+1
 ·refine Ac (c1) ?_;conv=>whnf
  rw [if_pos c1]
  refine Am (h) [13] (Sub.refl _) (by decide +kernel) ?_;conv=>whnf
  refine Aa rfl k.str rfl ?_
  refine Ab rfl k.str rfl rfl ?_;conv=>whnf
  refine ACalls.mono (cloned_any h (oo,6) (fun c=>ap.d (congrArg Prod.fst c)) (d:=x.sd) k.sd.sl (by rw [k.snapLen];omega)) ?_
  rintro v h3 ⟨a',c',rfl,ow,s3⟩
  refine ⟨s3,?_⟩;conv=>whnf
  have ph:PH.Made h3 oo (10+c.out.posts.length) ⟨5,0,0,0,0,0,0,false,c.round,slv0,[],c.snap.index,c.snap.term,c.snap.crew,⟨a',x.sd.n,c'⟩,c.snap.data⟩:=⟨.inl ⟨rfl,rfl,rfl⟩,by simp,by simp,ow⟩
  refine ACalls.mono (say_any ap.a ap.b ap.c ap.d ⟨x,k.sub s3⟩ n _ ph hroom) ?_;rintro _ h4 ⟨rfl,k4,kk4⟩;conv=>whnf
  exact ⟨rfl,k4,(s3.keeps _).trans kk4⟩
 ·refine Ad (c1) ?_;conv=>whnf
  rw [if_neg c1]
  refine Aa rfl k.str rfl ?_;conv=>whnf
  refine Ag (by omega) (by omega) (rfl) ?_;conv=>whnf
  refine C2 (Term_c k.log lo (c.next.get n-1)) ?_;conv=>whnf
  refine Aa rfl k.str rfl ?_;conv=>whnf
  refine ACalls.mono (Slice_c k.log lo (oo,10+c.out.posts.length) (oo,5) (fun c=>ap.d (congrArg Prod.fst c)) (fun c=>ap.d (congrArg Prod.fst c)) (fun c=>ap.b c.symm) (fun d=>by have:=congrArg Prod.snd d;simp at this;omega) (c.next.get n) 8 hes) ?_;rintro _ h3 ⟨a3,n3,c3,zs,rfl,E3,abs3,sm3,kt3,ow3,m3⟩;conv=>whnf
  have kx:∀ t:Tag,(t.1=o∨t.1=o+1)→t≠(oo,10+c.out.posts.length):=fun t ht d=>by rw [d] at ht;have:=ap.a;have:=ap.b;simp at ht;omega
  have k3:CoreX 81 LA h3 p o oo c x:=⟨kt3.get (kx _ (.inl rfl)) k.str,k.sd.keepT kt3 (kx _ (.inl rfl)),Moves.move k.log fun _ t _ ht e=>kt3 _ _ _ (kx t (.inr ht)) e,k.rd.keepT kt3 (kx _ (.inl rfl)),k.out.role kt3 (by omega)⟩
  refine Am (h3) [16] (Sub.refl _) (by decide +kernel) ?_;conv=>whnf
  refine Ag (by omega) (by omega) (rfl) ?_;conv=>whnf
  refine Aa rfl k3.str rfl ?_
  refine Aa rfl k3.str rfl ?_;conv=>whnf
  have ph:PH.Made h3 oo (10+c.out.posts.length) ⟨3,0,0,0,c.next.get n-1,(c.log.term (c.next.get n-1)).1,c.commit,false,c.round,⟨a3,n3,c3⟩,zs,0,0,0,slv0,[]⟩:=⟨ow3,m3,sm3, .inl ⟨rfl,rfl,rfl⟩⟩
  refine ACalls.mono (say_any ap.a ap.b ap.c ap.d ⟨x,k3⟩ n _ ph hroom) ?_;rintro _ h4 ⟨rfl,k4,kk4⟩;conv=>whnf
  refine ⟨rfl,?_,(kt3.keep.keeps2 (.inr rfl)).trans kk4⟩
  unfold PH.abs at k4
  simp only [abs3] at k4
  exact k4
structure LogOk (c:CoreM):Prop where
  lo:LOk c.log
  by_:∀ e∈c.log.es,e.2.2.1=2→∀ x∈e.2.2.2,0≤x∧x<256
  room:c.log.es.length*48≤140737488355328
  snap:c.snap.data.length≤8192
def NextOk (c:CoreM):Prop:=∀ n:Int,1≤n→n≤5→0≤c.next.get n∧c.next.get n≤9007199254740992
def MtchOk (c:CoreM):Prop:=∀ n:Int,1≤n→n≤5→0≤c.mtch.get n∧c.mtch.get n≤9007199254740991
theorem say_same (c:CoreM) (n:Int) (p:PostM):(c.say n p).log=c.log∧(c.say n p).next=c.next∧(c.say n p).snap=c.snap∧(c.say n p).out.posts.length=c.out.posts.length+1:=⟨rfl,rfl,rfl,by simp [CoreM.say]⟩
theorem send_same (c:CoreM) (n:Int):(c.send n).log=c.log∧(c.send n).next=c.next∧(c.send n).snap=c.snap∧(c.send n).out.posts.length=c.out.posts.length+1:=by
 unfold CoreM.send;split <;> exact say_same _ _ _
theorem sends_same:∀ (l:List Int) (c:CoreM),(l.foldl CoreM.send c).log=c.log∧(l.foldl CoreM.send c).next=c.next∧(l.foldl CoreM.send c).snap=c.snap∧(l.foldl CoreM.send c).out.posts.length=c.out.posts.length+l.length
 | [],c=>⟨rfl,rfl,rfl,rfl⟩
 | n::l,c=>by
  obtain ⟨a,b,d,e⟩:=send_same c n
  obtain ⟨a',b',d',e'⟩:=sends_same l (c.send n)
  refine ⟨by rw [List.foldl_cons,a',a],by rw [List.foldl_cons,b',b],by rw [List.foldl_cons,d',d],?_⟩
  rw [List.foldl_cons,e',e,List.length_cons];omega
theorem others_in (c:CoreM):∀ n∈c.others,1≤n∧n≤5:=fun n hn=>by
 have:=List.all_eq_true.1 (ls_ok (m5 c.crewNow.1) (m5_lt _)) n (List.mem_filter.1 hn).1
 simpa [ok1] using this
theorem others_len (c:CoreM):c.others.length≤5:=Nat.le_trans (List.length_filter_le _ _) (lsTo_len _ 5)
theorem sendAll_any {h:Heap} {p o oo:Nat} {c:CoreM} (ap:Apart o oo) (k:PCore h p o oo c) (lk:LogOk c) (nk:NextOk c) (hroom:c.out.posts.length≤999999990) :
  ACalls PR 56 #[Ptr p] h (fun v h'=>v = .tuple #[]∧PCore h' p o oo c.sendAll∧Keeps [o,oo] h h'):=by
 obtain ⟨x,k⟩:=k
 have hl5:=others_len c
 refine As mix Tryz.func56 rfl rfl Tryz.ntmps56 Tryz.results56 rfl ?_;conv=>whnf
 refine ACalls.mono (others_any k lk.lo lk.by_) ?_;rintro _ h1 ⟨al,cp,f,rfl,sl,hf1,hf2,s1⟩;conv=>whnf
 refine ALoop.mk (fun e h'=>∃ e0,∃ j:Nat,e=updL 15 e0 [(0,Ptr p),(5, .slice al c.others.length cp),(6,I c.others.length),(7,I j)]∧j≤c.others.length∧PCore h' p o oo ((c.others.take j).foldl CoreM.send c)∧Keeps [o,oo] h h'∧Sl h' (f,0) al c.others.length cp 1 (c.others.map I)) (fun e=>c.others.length-natOf (e 7))
  ⟨_,0,Au ⟨rfl,rfl,rfl,rfl,trivial⟩,by omega,⟨x,k.sub s1⟩,s1.keeps _,sl⟩ ?_
 rintro e h2 ⟨e0,j,rfl,hj,k2,kk2,s2⟩
 conv=>whnf
 by_cases hjn:j<c.others.length
 ·refine Ac (by omega) ?_;conv=>whnf
  obtain ⟨n,hn⟩:∃ n,c.others[j]? = some n:=⟨c.others[j]'hjn,by simp⟩
  obtain ⟨hn1,hn2⟩:=others_in c n (List.mem_of_getElem? hn)
  obtain ⟨b,off,l,E,fz,rfl,hb,hc⟩:=s2.pos (by omega)
  have g0:l[off+j*1]? = some (I n):=by rw [get_of_take hc (by omega),Nat.mul_one];simp [hn]
  refine Ai (z:=1) (j:=j) rfl hjn rfl rfl ?_;conv=>whnf
  refine Aa rfl hb g0 ?_;conv=>whnf
  obtain ⟨e1,e2,e3,e4⟩:=sends_same (c.others.take j) c
  have htl:(c.others.take j).length≤5:=by simp;omega
  refine ACalls.mono (send_any ap k2 (by rw [e1];exact lk.lo) hn1 hn2 (by rw [e2];exact (nk n hn1 hn2).1) (by rw [e2];exact (nk n hn1 hn2).2) (by omega) (by rw [e3];exact lk.snap) (by rw [e1];exact lk.room)) ?_;rintro _ h3 ⟨rfl,k3,kk3⟩;conv=>whnf
  refine Ag (by omega) (by omega) ((by omega:(j:Int)+1=((j+1:Nat):Int))) ?_;conv=>whnf
  refine ⟨⟨_,j+1,Au ⟨rfl,rfl,rfl,rfl,trivial⟩,by omega,?_,kk2.trans kk3,s2.keeps kk3 (by simp;omega)⟩,?_⟩
  ·rw [List.take_succ_eq_append_getElem hjn,(List.getElem?_eq_some_iff.1 hn).2,List.foldl_append]
   exact k3
  ·show c.others.length-(j+1)<c.others.length-j
   omega
 ·refine Ad (by omega) ?_;conv=>whnf
  rw [List.take_of_length_le (by omega)] at k2
  exact ⟨rfl,k2,kk2⟩
theorem Keeps.mono {os ps:List Nat} {h h':Heap} (k:Keeps os h h') (m:∀ x∈os,x∈ps):Keeps ps h h':=fun b t x n e=>k b t x (fun c=>n (m _ c)) e
theorem ents_one {h:Heap} {t td:Tag} {b:Nat} {E:TypeId} {e:EH} (hb:h b=some (row t e.cells E)) (g:e.Good h td) (hn:e.n≤4611686018427387904):Ents h t td (some ⟨b,0,none⟩) 1 1 [e] :=
 ⟨⟨rfl,Nat.le_refl _, .inr ⟨b,0,_,_,_,rfl,hb,rfl⟩⟩,fun y hy=>by rw [List.mem_singleton.1 hy];exact g,fun y hy=>by rw [List.mem_singleton.1 hy];exact hn⟩
def entry0z:List Value:=[I 0,I 0,I 0, .slice none 0 0]
theorem put_any {h:Heap} {p o oo:Nat} {c:CoreM} (ap:Apart o oo) (k:PCore h p o oo c) (lo:LOk c.log) (hes:(c.log.es.length+1)*48≤140737488355328) (hlast:c.log.last.1≤9007199254740991)
  (kind:Int) {t:Tag} {d:SlV} {data:List Int} (g:Sl h t d.a d.n d.c 1 (bytesV data)) (hd:d.n≤1200) (hroom:c.out.entries.length≤1000000000) :
  ACalls PR 54 #[Ptr p,I kind, .slice d.a d.n d.c] h (fun v h'=>v=I (c.log.last.1+1)∧PCore h' p o oo (c.put kind data)∧Keeps [o,o+1,oo] h h'):=by
 obtain ⟨x,k⟩:=k
 have hl0:0≤c.log.last.1:=by rw [lo.last];have:=lo.lo;omega
 have hel2:x.ox.es.length=c.out.entries.length:=by rw [← k.out.ea];simp
 have hel:x.ox.es.length=x.ox.oe.n:=by
  have:=k.out.oe.sl.len
  rw [encs_length] at this;omega
 refine As mix Tryz.func54 rfl rfl Tryz.ntmps54 Tryz.results54 rfl ?_;conv=>whnf
 refine Aa rfl k.str rfl ?_;conv=>whnf
 refine C2 (Last_c k.log lo) ?_;conv=>whnf
 refine Ao (h) [11] (.take 0 (.take 1 (.take 2 (.take 3 (.take 4 (.take 5 (.take 6 (.take 7 (.alt 8 (.take 9 (.take 10 (.take 11 (.done)))) (.alt 10 (.take 8 (.take 9 (.take 11 (.done)))) (.stop))))))))))) (Sub.refl _) (by decide +kernel) ?_;conv=>whnf
 refine Aa rfl k.str rfl ?_;conv=>whnf
 refine Ag (by omega) (by omega) (rfl) ?_;conv=>whnf
 refine And.intro ?_ ?_
 ·conv=>whnf
  refine ACalls.mono (cloneB_any h (oo,2) g (by omega)) ?_
  rintro v h1 ⟨a',c',rfl,ow1,s1⟩
  refine ⟨s1,?_⟩;conv=>whnf
  refine Ak (0,1) (entry0z) rfl fun b9 h2 n2 s2 k2=>?_;conv=>whnf
  refine ⟨s1.trans s2,?_⟩;conv=>whnf
  refine Ae rfl rfl rfl (k2) rfl ([I c.term,I (c.log.last.1+1),I kind, .slice a' d.n c']) rfl fun h5 t5 k9 a5 e5=>?_;conv=>whnf
  have n2:h b9=none:=by
   cases e:h b9 with
   | none=>rfl
   | some y=>rw [s1 _ _ e] at n2;cases n2
  have s5:Sub h h5:=a5 h (s1.trans s2) n2
  have ow5:=(Own.sub ow1 s2).keepT t5 (fun c=>ap.d (congrArg Prod.fst c))
  have kk5:Sub h h5:=s5
  obtain ⟨en,hen⟩:∃ en:EH,en=⟨c.term,c.log.last.1+1,kind,a',d.n,c',data⟩:=⟨_,rfl⟩
  have hex:en.abs=(c.term,c.log.last.1+1,kind,data):=by rw [hen];rfl
  have hn5:en.n≤1200:=by rw [hen];exact hd
  rw [show [I c.term,I (c.log.last.1+1),I kind,Value.slice a' d.n c']=en.cells by rw [hen];rfl] at k9
  have own5:en.Mine h5 (oo,2):=by rw [hen];exact ow5
  clear ow5
  have q5:=k.sub s5
  refine Am (two h5 p b9) [] (two_sub _ _ _) (by decide +kernel) ?_;conv=>whnf
  refine Aa rfl ((two_l _ _ _).trans q5.str) rfl ?_
  refine Ab rfl ((two_r _ _ _).trans k9) rfl rfl ?_;conv=>whnf
  refine Ap (0,1) en.cells rfl rfl rfl rfl rfl rfl (by rw [hen];rfl) fun b6 h6 n6 s6 k6=>?_;conv=>whnf
  refine ⟨(two_sub _ _ _).trans s6,?_⟩;conv=>whnf
  have q6:=q5.sub s6
  have own6:en.Mine h6 (oo,2):=Own.sub own5 s6
  have k69:=s6 _ _ k9
  refine ACalls.mono (Append_c (by omega:o+1≠0) q6.log lo (t:=(0,1)) (td:=(oo,2)) (by simp) (by have:=ap.b;simp;omega) (ents_one k6 own6.sl (by omega)) hes) ?_;rintro _ h7 ⟨rfl,l7,kk7⟩;conv=>whnf
  have b6':=kk7.get (by simp) k6
  have k79:=kk7.get (by simp) k69
  have p7:=kk7.get (by simp) q6.str
  refine ⟨two_get (fun y hy=>?_) (fun y hy=>?_),?_⟩
  ·rw [q5.str] at hy;cases hy;exact p7
  ·rw [k9] at hy;cases hy;exact k79
  conv=>whnf
  have own7:en.Mine h7 (oo,2):=Own.move own6 fun b y e=>kk7.get (by have:=ap.b;simp;omega) e
  have out7:OutOk h7 oo c.out x.ox:=q6.out.move fun b t y ht e=>kk7 _ _ _ (by rw [ht];exact ap.b.symm) e
  have sd7:=q6.sd.move fun b y e=>kk7 _ _ _ (by simp:((o,3):Tag).1≠o+1) e
  have rd7:=q6.rd.move fun b y e=>kk7 _ _ _ (by simp:((o,4):Tag).1≠o+1) e
  simp only [List.map_cons,List.map_nil,hex] at l7 ⊢
  have kh7:Keeps [o,o+1,oo] h h7:=((s5.trans s6).keeps _).trans (kk7.keeps (by simp))
  refine ACmp.dec ?_;conv=>whnf
  by_cases c1:(c.log.append [(c.term,c.log.last.1+1,kind,data)]).1=0
  ·simp only [c1,decide_true]
   conv=>whnf
   refine Am (two h7 p b9) [12] (two_sub _ _ _) (by decide +kernel) ?_;conv=>whnf
   refine Aa rfl ((two_l _ _ _).trans p7) rfl ?_
   refine Ab rfl ((two_r _ _ _).trans k79) rfl rfl ?_;conv=>whnf
   refine Ap (0,1) en.cells rfl rfl rfl rfl rfl rfl (by rw [hen];rfl) fun b8 h8 n8 s8 k8=>?_;conv=>whnf
   refine ⟨(two_sub _ _ _).trans s8,?_⟩;conv=>whnf
   refine AAppend.own (t:=(oo,1)) (E:=59) (z:=4) (by_:=48) (zero:=entry0z) (tx:=(0,1)) (xs:=en.cells) rfl ⟨_,rfl⟩ rfl rfl rfl rfl (by omega) (out7.oe.move fun _ _ e=>s8 _ _ e)
    ⟨rfl,Nat.le_refl _, .inr ⟨b8,0,_,_,_,rfl,k8,rfl⟩⟩ (by rw [hen];rfl) (by omega) (by omega) fun a11 c11 h11 ow11 t11 _=>?_
   conv=>whnf
   have p11:=t11.get (u:=(o,0)) (fun c=>ap.a (congrArg Prod.fst c)) (s8 _ _ p7)
   have e11:=t11.get (u:=(0,1)) (fun c=>ap.d (congrArg Prod.fst c).symm) (s8 _ _ k79)
   refine ⟨two_get (fun y hy=>?_) (fun y hy=>?_),?_⟩
   ·rw [p7] at hy;cases hy;exact p11
   ·rw [k79] at hy;cases hy;exact e11
   conv=>whnf
   have eq:c.put kind data={c with log:=(c.log.append [(c.term,c.log.last.1+1,kind,data)]).2,out:={c.out with entries:=c.out.entries++[(c.term,c.log.last.1+1,kind,data)]}}:=by
    unfold CoreM.put;rw [if_pos c1]
   refine Af rfl rfl rfl (p11) rfl (coreCells {c with log:=(c.log.append [(c.term,c.log.last.1+1,kind,data)]).2,out:={c.out with entries:=c.out.entries++[(c.term,c.log.last.1+1,kind,data)]}} {x with ox:={x.ox with oe:=⟨a11,x.ox.oe.n+1,c11⟩,es:=x.ox.es++[en]}}) rfl fun h12 t12 k12 a12 e12=>?_;conv=>whnf
   have b9p:b9≠p:=ne_of_tag e11 p11 (tag_ne ap.c)
   have k13:=e12 _ _ b9p e11
   rw [hen] at k13
   refine Aa rfl k13 rfl ?_;conv=>whnf
   rw [eq]
   refine ⟨rfl,⟨_,k12,?_,?_,?_,?_⟩,?_⟩
   ·exact ((sd7.move fun _ _ e=>s8 _ _ e).keepT t11 (fun c=>ap.a (congrArg Prod.fst c))).keepT t12 (by simp)
   ·exact KeepT.log (Moves.move (Moves.move l7 fun _ _ _ _ e=>s8 _ _ e) fun _ t _ ht e=>t11 _ _ _ (fun c=>by rw [c] at ht;exact ap.b ht.symm) e) t12
   ·exact ((rd7.move fun _ _ e=>s8 _ _ e).keepT t11 (fun c=>ap.a (congrArg Prod.fst c))).keepT t12 (by simp)
   ·have o8:=out7.move fun _ _ _ _ e=>s8 _ _ e
    have go:∀ r:Nat,r≠1→∀ b y,h8 b=some ((oo,r),y)→h12 b=some ((oo,r),y):=fun r hr b y e=>t12.get (fun c=>ap.a (congrArg Prod.fst c).symm) (t11.get (fun c=>hr (congrArg Prod.snd c)) e)
    refine ⟨o8.od.move fun _ _ e=>go 6 (by decide) _ _ e,?_,?_,?_,?_,o8.op.move fun _ _ e=>go 3 (by decide) _ _ e,fun i y hy=>(o8.ps i y hy).move fun b t z ht hr e=>?_,o8.pa,o8.qr.move fun _ _ e=>go 7 (by decide) _ _ e⟩
    ·have:=ow11.keepT t12 (fun c=>ap.a (congrArg Prod.fst c).symm)
     rw [show encs (x.ox.es++[en])=encs x.ox.es++en.cells by simp [encs]]
     exact this
    ·intro y hy
     rcases List.mem_append.1 hy with hy | hy
     ·exact Own.move (o8.ed y hy) fun _ _ e=>go 2 (by decide) _ _ e
     ·rw [List.mem_singleton.1 hy]
      exact Own.move (Own.sub own7 s8) fun _ _ e=>go 2 (by decide) _ _ e
    ·simp only [List.map_append,List.map_cons,List.map_nil,o8.ea,hex]
    ·intro y hy
     rcases List.mem_append.1 hy with hy | hy
     ·exact o8.es y hy
     ·rw [List.mem_singleton.1 hy];exact hn5
    ·obtain ⟨t1,t2⟩:=t
     simp only at ht hr;subst ht
     exact go t2 (by omega) b z e
   ·exact kh7.trans ((s8.keeps _).trans ((t11.keep.keeps (by simp)).trans (t12.keep.keeps (by simp))))
  ·simp only [c1,decide_false]
   conv=>whnf
   rw [hen] at k79
   refine Aa rfl k79 rfl ?_;conv=>whnf
   have eq:c.put kind data=c:=by unfold CoreM.put;rw [if_neg c1]
   have eq2:(c.log.append [(c.term,c.log.last.1+1,kind,data)]).2=c.log:=by unfold LG.append at c1 ⊢;split <;> simp_all
   rw [eq2] at l7
   rw [eq]
   exact ⟨rfl,⟨_,p7,sd7,l7,rd7,out7⟩,kh7⟩
 ·conv=>whnf
  refine And.intro ?_ trivial
  conv=>whnf
  refine Ak (0,1) (entry0z) rfl fun b9 h2 n2 s2 k2=>?_;conv=>whnf
  refine ⟨s2,?_⟩;conv=>whnf
  refine ACalls.mono (cloneB_any h2 (oo,2) (Sl.sub g s2) (by omega)) ?_
  rintro v h1 ⟨a',c',rfl,ow1,s1⟩
  refine ⟨s2.trans s1,?_⟩;conv=>whnf
  refine Ae rfl rfl rfl ((s1 _ _ k2)) rfl ([I c.term,I (c.log.last.1+1),I kind, .slice a' d.n c']) rfl fun h5 t5 k9 a5 e5=>?_;conv=>whnf
  have s5:Sub h h5:=a5 h (s2.trans s1) n2
  have ow5:=ow1.keepT t5 (fun c=>ap.d (congrArg Prod.fst c))
  have kk5:Sub h h5:=s5
  obtain ⟨en,hen⟩:∃ en:EH,en=⟨c.term,c.log.last.1+1,kind,a',d.n,c',data⟩:=⟨_,rfl⟩
  have hex:en.abs=(c.term,c.log.last.1+1,kind,data):=by rw [hen];rfl
  have hn5:en.n≤1200:=by rw [hen];exact hd
  rw [show [I c.term,I (c.log.last.1+1),I kind,Value.slice a' d.n c']=en.cells by rw [hen];rfl] at k9
  have own5:en.Mine h5 (oo,2):=by rw [hen];exact ow5
  clear ow5
  have q5:=k.sub s5
  refine Am (two h5 p b9) [] (two_sub _ _ _) (by decide +kernel) ?_;conv=>whnf
  refine Aa rfl ((two_l _ _ _).trans q5.str) rfl ?_
  refine Ab rfl ((two_r _ _ _).trans k9) rfl rfl ?_;conv=>whnf
  refine Ap (0,1) en.cells rfl rfl rfl rfl rfl rfl (by rw [hen];rfl) fun b6 h6 n6 s6 k6=>?_;conv=>whnf
  refine ⟨(two_sub _ _ _).trans s6,?_⟩;conv=>whnf
  have q6:=q5.sub s6
  have own6:en.Mine h6 (oo,2):=Own.sub own5 s6
  have k69:=s6 _ _ k9
  refine ACalls.mono (Append_c (by omega:o+1≠0) q6.log lo (t:=(0,1)) (td:=(oo,2)) (by simp) (by have:=ap.b;simp;omega) (ents_one k6 own6.sl (by omega)) hes) ?_;rintro _ h7 ⟨rfl,l7,kk7⟩;conv=>whnf
  have b6':=kk7.get (by simp) k6
  have k79:=kk7.get (by simp) k69
  have p7:=kk7.get (by simp) q6.str
  refine ⟨two_get (fun y hy=>?_) (fun y hy=>?_),?_⟩
  ·rw [q5.str] at hy;cases hy;exact p7
  ·rw [k9] at hy;cases hy;exact k79
  conv=>whnf
  have own7:en.Mine h7 (oo,2):=Own.move own6 fun b y e=>kk7.get (by have:=ap.b;simp;omega) e
  have out7:OutOk h7 oo c.out x.ox:=q6.out.move fun b t y ht e=>kk7 _ _ _ (by rw [ht];exact ap.b.symm) e
  have sd7:=q6.sd.move fun b y e=>kk7 _ _ _ (by simp:((o,3):Tag).1≠o+1) e
  have rd7:=q6.rd.move fun b y e=>kk7 _ _ _ (by simp:((o,4):Tag).1≠o+1) e
  simp only [List.map_cons,List.map_nil,hex] at l7 ⊢
  have kh7:Keeps [o,o+1,oo] h h7:=((s5.trans s6).keeps _).trans (kk7.keeps (by simp))
  refine ACmp.dec ?_;conv=>whnf
  by_cases c1:(c.log.append [(c.term,c.log.last.1+1,kind,data)]).1=0
  ·simp only [c1,decide_true]
   conv=>whnf
   refine Am (two h7 p b9) [12] (two_sub _ _ _) (by decide +kernel) ?_;conv=>whnf
   refine Aa rfl ((two_l _ _ _).trans p7) rfl ?_
   refine Ab rfl ((two_r _ _ _).trans k79) rfl rfl ?_;conv=>whnf
   refine Ap (0,1) en.cells rfl rfl rfl rfl rfl rfl (by rw [hen];rfl) fun b8 h8 n8 s8 k8=>?_;conv=>whnf
   refine ⟨(two_sub _ _ _).trans s8,?_⟩;conv=>whnf
   refine AAppend.own (t:=(oo,1)) (E:=59) (z:=4) (by_:=48) (zero:=entry0z) (tx:=(0,1)) (xs:=en.cells) rfl ⟨_,rfl⟩ rfl rfl rfl rfl (by omega) (out7.oe.move fun _ _ e=>s8 _ _ e)
    ⟨rfl,Nat.le_refl _, .inr ⟨b8,0,_,_,_,rfl,k8,rfl⟩⟩ (by rw [hen];rfl) (by omega) (by omega) fun a11 c11 h11 ow11 t11 _=>?_
   conv=>whnf
   have p11:=t11.get (u:=(o,0)) (fun c=>ap.a (congrArg Prod.fst c)) (s8 _ _ p7)
   have e11:=t11.get (u:=(0,1)) (fun c=>ap.d (congrArg Prod.fst c).symm) (s8 _ _ k79)
   refine ⟨two_get (fun y hy=>?_) (fun y hy=>?_),?_⟩
   ·rw [p7] at hy;cases hy;exact p11
   ·rw [k79] at hy;cases hy;exact e11
   conv=>whnf
   have eq:c.put kind data={c with log:=(c.log.append [(c.term,c.log.last.1+1,kind,data)]).2,out:={c.out with entries:=c.out.entries++[(c.term,c.log.last.1+1,kind,data)]}}:=by
    unfold CoreM.put;rw [if_pos c1]
   refine Af rfl rfl rfl (p11) rfl (coreCells {c with log:=(c.log.append [(c.term,c.log.last.1+1,kind,data)]).2,out:={c.out with entries:=c.out.entries++[(c.term,c.log.last.1+1,kind,data)]}} {x with ox:={x.ox with oe:=⟨a11,x.ox.oe.n+1,c11⟩,es:=x.ox.es++[en]}}) rfl fun h12 t12 k12 a12 e12=>?_;conv=>whnf
   have b9p:b9≠p:=ne_of_tag e11 p11 (tag_ne ap.c)
   have k13:=e12 _ _ b9p e11
   rw [hen] at k13
   refine Aa rfl k13 rfl ?_;conv=>whnf
   rw [eq]
   refine ⟨rfl,⟨_,k12,?_,?_,?_,?_⟩,?_⟩
   ·exact ((sd7.move fun _ _ e=>s8 _ _ e).keepT t11 (fun c=>ap.a (congrArg Prod.fst c))).keepT t12 (by simp)
   ·exact KeepT.log (Moves.move (Moves.move l7 fun _ _ _ _ e=>s8 _ _ e) fun _ t _ ht e=>t11 _ _ _ (fun c=>by rw [c] at ht;exact ap.b ht.symm) e) t12
   ·exact ((rd7.move fun _ _ e=>s8 _ _ e).keepT t11 (fun c=>ap.a (congrArg Prod.fst c))).keepT t12 (by simp)
   ·have o8:=out7.move fun _ _ _ _ e=>s8 _ _ e
    have go:∀ r:Nat,r≠1→∀ b y,h8 b=some ((oo,r),y)→h12 b=some ((oo,r),y):=fun r hr b y e=>t12.get (fun c=>ap.a (congrArg Prod.fst c).symm) (t11.get (fun c=>hr (congrArg Prod.snd c)) e)
    refine ⟨o8.od.move fun _ _ e=>go 6 (by decide) _ _ e,?_,?_,?_,?_,o8.op.move fun _ _ e=>go 3 (by decide) _ _ e,fun i y hy=>(o8.ps i y hy).move fun b t z ht hr e=>?_,o8.pa,o8.qr.move fun _ _ e=>go 7 (by decide) _ _ e⟩
    ·have:=ow11.keepT t12 (fun c=>ap.a (congrArg Prod.fst c).symm)
     rw [show encs (x.ox.es++[en])=encs x.ox.es++en.cells by simp [encs]]
     exact this
    ·intro y hy
     rcases List.mem_append.1 hy with hy | hy
     ·exact Own.move (o8.ed y hy) fun _ _ e=>go 2 (by decide) _ _ e
     ·rw [List.mem_singleton.1 hy]
      exact Own.move (Own.sub own7 s8) fun _ _ e=>go 2 (by decide) _ _ e
    ·simp only [List.map_append,List.map_cons,List.map_nil,o8.ea,hex]
    ·intro y hy
     rcases List.mem_append.1 hy with hy | hy
     ·exact o8.es y hy
     ·rw [List.mem_singleton.1 hy];exact hn5
    ·obtain ⟨t1,t2⟩:=t
     simp only at ht hr;subst ht
     exact go t2 (by omega) b z e
   ·exact kh7.trans ((s8.keeps _).trans ((t11.keep.keeps (by simp)).trans (t12.keep.keeps (by simp))))
  ·simp only [c1,decide_false]
   conv=>whnf
   rw [hen] at k79
   refine Aa rfl k79 rfl ?_;conv=>whnf
   have eq:c.put kind data=c:=by unfold CoreM.put;rw [if_neg c1]
   have eq2:(c.log.append [(c.term,c.log.last.1+1,kind,data)]).2=c.log:=by unfold LG.append at c1 ⊢;split <;> simp_all
   rw [eq2] at l7
   rw [eq]
   exact ⟨rfl,⟨_,p7,sd7,l7,rd7,out7⟩,kh7⟩
theorem foldMax:∀ (l:List Int) (a:Int),a≤l.foldl (fun a b=>if a<b then b else a) a∧(∀ x∈l,x≤l.foldl (fun a b=>if a<b then b else a) a)∧(l.foldl (fun a b=>if a<b then b else a) a=a∨l.foldl (fun a b=>if a<b then b else a) a∈l)
 | [],a=>⟨Int.le_refl _,by simp, .inl rfl⟩
 | y::l,a=>by
  obtain ⟨h1,h2,h3⟩:=foldMax l (if a<y then y else a)
  rw [List.foldl_cons]
  have h1':a≤(if a<y then y else a)∧y≤(if a<y then y else a):=by split <;> omega
  refine ⟨Int.le_trans h1'.1 h1,fun x hx=>?_,?_⟩
  ·rcases List.mem_cons.1 hx with rfl | hx
   ·exact Int.le_trans h1'.2 h1
   ·exact h2 x hx
  ·rcases h3 with h3 | h3
   ·split at h3
    ·rename_i c;rw [if_pos c,h3];exact .inr (by simp)
    ·rename_i c;rw [if_neg c,h3];exact .inl rfl
   ·exact .inr (List.mem_cons_of_mem _ h3)
theorem rankOf_eq {now:Int} {f:Five} {z r:Int} (h:RankOf ((ls (m5 now)).map (six z f.a1 f.a2 f.a3 f.a4 f.a5)) r):r=rankOf now f:=by
 have e:(ls (m5 now)).map (six z f.a1 f.a2 f.a3 f.a4 f.a5)=(ls (m5 now)).map f.get:=by
  refine List.map_congr_left fun n hn=>?_
  have:=List.all_eq_true.1 (ls_ok (m5 now) (m5_lt _)) n hn
  simp [ok1] at this
  have:n=1∨n=2∨n=3∨n=4∨n=5:=by omega
  rcases this with rfl | rfl | rfl | rfl | rfl <;> rfl
 rw [e] at h
 unfold rankOf
 simp only []
 generalize (ls (m5 now)).map f.get=l at *
 obtain ⟨h1,h2,h3⟩:=foldMax (l.filter fun v=>decide (l.length<2*cnt v l)) 0
 rcases h with ⟨rfl,rfl⟩ | ⟨_,s,hs,hm,hv⟩
 ·simp
 ·have hs2:=h2 s (List.mem_filter.2 ⟨hm,by simpa using (hv s).1 (Int.le_refl _)⟩)
  have hs3:∀ x∈l.filter (fun v=>decide (l.length<2*cnt v l)),x≤s:=fun x hx=>(hv x).2 (by simpa using (List.mem_filter.1 hx).2)
  rw [hs]
  rcases h3 with h3 | h3
  ·split <;> omega
  ·have:=hs3 _ h3
   split <;> omega
theorem most_bits:∀ k,k<32→∀ j,j<32→((ls k).filter fun n=>bt j (n-1).toNat).length=pop (k &&& j):=by decide +kernel
theorem mostOf_set {now s:Int} {p:Int→Bool} (h:∀ n,1≤n→n≤5→p n=hasB s n):decide (pop (m5 now)<2*pop (m5 now &&& m5 s))=mostOf now p:=by
 unfold mostOf
 rw [ls_len _ (m5_lt _),← most_bits _ (m5_lt _) _ (m5_lt _)]
 have:(ls (m5 now)).filter p=(ls (m5 now)).filter fun n=>bt (m5 s) (n-1).toNat:=by
  refine List.filter_congr fun n hn=>?_
  have:=List.all_eq_true.1 (ls_ok (m5 now) (m5_lt _)) n hn
  simp [ok1] at this
  rw [h n (by omega) (by omega)]
  unfold hasB
  rw [decide_eq_true (by omega),Bool.true_and]
 rw [this]
def CoreM.ranked (d:CoreM) (n:Int):CoreM :=
  if n≤d.commit∨d.has n d.term=false then d else if hasB d.crewNow.1 d.self=false∧d.crewNow.2≤n then {d with commit:=n}.follow else {d with commit:=n}
def CoreM.matched (c:CoreM):CoreM:={c with mtch:=c.mtch.set c.self c.log.last.1}
theorem CoreM.rank_eq (c:CoreM):c.rank=c.matched.ranked (rankOf c.matched.crewNow.1 c.matched.mtch):=rfl
theorem rank_any {h:Heap} {p o oo:Nat} {c:CoreM} (ap:Apart o oo) (k:PCore h p o oo c) (lk:LogOk c) (hs1:1≤c.self) (hs2:c.self≤5) :
  ACalls PR 57 #[Ptr p] h (fun v h'=>v = .tuple #[]∧PCore h' p o oo c.rank∧Keep o h h'):=by
 obtain ⟨x,k⟩:=k
 rw [CoreM.rank_eq]
 refine As mix Tryz.func57 rfl rfl Tryz.ntmps57 Tryz.results57 rfl ?_;conv=>whnf
 refine An (h) [17] [0,1,2,3,4,5,6,7,8,13,14,15,9,10,11,12,16,17] (Sub.refl _) (by decide +kernel) ?_;conv=>whnf
 refine Aa rfl k.str rfl ?_
 refine Aa rfl k.str rfl ?_;conv=>whnf
 refine C2 (Last_c k.log lk.lo) ?_;conv=>whnf
 refine ⟨Sub.refl _,?_⟩;conv=>whnf
 obtain ⟨m,hm⟩:∃ m:Nat,c.self=m:=⟨c.self.toNat,by omega⟩
 refine Aj (n:=6) (z:=1) (j:=m) (by omega) (by omega) rfl rfl ?_;conv=>whnf
 refine AStore.oneTo rfl rfl rfl k.str (by have:=mtch_cell c x hs1 hs2;rw [show 0+14+7+m*1=21+c.self.toNat by omega];exact Nat.ble_eq_true_of_le (List.getElem?_eq_some_iff.1 this).1) (coreCells {c with mtch:=c.mtch.set c.self c.log.last.1} x) (by rw [show 0+14+7+m*1=21+c.self.toNat by omega];exact mtch_set c x hs1 hs2 _) ?_;conv=>whnf
 obtain ⟨d,hd⟩:∃ d:CoreM,d=c.matched:=⟨_,rfl⟩
 unfold CoreM.matched at hd
 have k2:=k.set ap.a d x (by rfl) (by rw [hd]) (by rfl) (by rw [hd]) (by rfl) (by rw [hd]) (by rfl) (by rw [hd]) (by rw [hd]) (by rw [hd]) (by rw [hd])
 have kk2:=k.setKeep (coreCells d x)
 rw [show c.matched=d from hd.symm,← hd]
 generalize h.set p (row (o,0) (coreCells d x) 81)=h2 at k2 kk2 ⊢
 have e1:d.log=c.log:=by rw [hd]
 have e2:d.crewNow=c.crewNow:=by rw [hd];rfl
 have e3:d.self=c.self:=by rw [hd]
 have lo2:LOk d.log:=by rw [e1];exact lk.lo
 refine C2 (crewNow_any k2 lo2 (by rw [e1];exact lk.by_)) ?_;conv=>whnf
 refine Ab rfl k2.str rfl rfl ?_;conv=>whnf
 refine ACalls.mono (Rank_any h2 d.crewNow.1 x.z2 d.mtch.a1 d.mtch.a2 d.mtch.a3 d.mtch.a4 d.mtch.a5) ?_
 rintro v _ ⟨⟨r,rfl,hr⟩,rfl⟩
 obtain rfl:=rankOf_eq hr
 conv=>whnf
 generalize rankOf d.crewNow.1 d.mtch=n
 unfold CoreM.ranked
 refine Am (h2) [] (Sub.refl _) (by decide +kernel) ?_;conv=>whnf
 refine Aa rfl k2.str rfl ?_;conv=>whnf
 by_cases c1:n≤d.commit
 ·refine Ac (c1) ?_;conv=>whnf
  rw [if_pos (.inl c1)]
  exact ⟨rfl,⟨_,k2⟩,kk2⟩
 ·refine Ad (c1) ?_;conv=>whnf
  refine Aa rfl k2.str rfl ?_
  refine Aa rfl k2.str rfl ?_;conv=>whnf
  refine ACalls.mono (Has_c k2.log lo2 n d.term) ?_
  have hh:decide ((d.log.term n).2=0∧(d.log.term n).1=d.term)=d.has n d.term:=rfl
  rw [hh]
  cases hb:d.has n d.term with
  | false =>
   rintro _ _ ⟨rfl,rfl⟩
   conv=>whnf
   refine ⟨Sub.refl _,?_⟩;conv=>whnf
   rw [if_pos (.inr rfl)]
   exact ⟨rfl,⟨_,k2⟩,kk2⟩
  | true =>
   rintro _ _ ⟨rfl,rfl⟩
   conv=>whnf
   refine ⟨Sub.refl _,?_⟩;conv=>whnf
   rw [if_neg (by simp [c1,hb])]
   refine AStore.oneTo rfl rfl rfl (k2.str) rfl (coreCells {d with commit:=n} x) rfl ?_;conv=>whnf
   have k3:=k2.set ap.a {d with commit:=n} x
   have kk3:=k2.setKeep (coreCells {d with commit:=n} x)
   generalize h2.set p (row (o,0) (coreCells {d with commit:=n} x) 81)=h3 at k3 kk3 ⊢
   refine Aa rfl k3.str rfl ?_;conv=>whnf
   refine ACalls.mono (CHas_any _ d.crewNow.1 d.self) ?_
   cases hb2:hasB d.crewNow.1 d.self with
   | true =>
    rintro _ _ ⟨rfl,rfl⟩
    conv=>whnf
    rw [if_neg (by simp [hb2])]
    exact ⟨rfl,⟨_,k3⟩,kk2.trans kk3⟩
   | false =>
    rintro _ _ ⟨rfl,rfl⟩
    conv=>whnf
    by_cases c2:d.crewNow.2≤n
    ·refine Ac (c2) ?_;conv=>whnf
     rw [if_pos ⟨rfl,c2⟩]
     refine ACalls.mono (follow_any ap.a ⟨_,k3⟩) ?_;rintro _ h4 ⟨rfl,k4,kk4⟩;conv=>whnf
     exact ⟨rfl,k4,kk2.trans (kk3.trans kk4)⟩
    ·refine Ad (c2) ?_;conv=>whnf
     rw [if_neg (by simp [c2])]
     exact ⟨rfl,⟨_,k3⟩,kk2.trans kk3⟩
theorem LogOk.same {c d:CoreM} (k:LogOk c) (h1:d.log=c.log) (h2:d.snap=c.snap):LogOk d :=
 ⟨by rw [h1];exact k.lo,by rw [h1];exact k.by_,by rw [h1];exact k.room,by rw [h2];exact k.snap⟩
theorem put_cases (c:CoreM) (kind:Int) (data:List Int) :
  ((c.log.append [(c.term,c.log.last.1+1,kind,data)]).1=0∧c.put kind data={c with log:={c.log with es:=c.log.es++[(c.term,c.log.last.1+1,kind,data)]},out:={c.out with entries:=c.out.entries++[(c.term,c.log.last.1+1,kind,data)]}}) ∨
  ((c.log.append [(c.term,c.log.last.1+1,kind,data)]).1≠0∧c.put kind data=c):=by
 by_cases h:(c.log.append [(c.term,c.log.last.1+1,kind,data)]).1=0
 ·refine .inl ⟨h,?_⟩
  have:c.put kind data={c with log:=(c.log.append [(c.term,c.log.last.1+1,kind,data)]).2,out:={c.out with entries:=c.out.entries++[(c.term,c.log.last.1+1,kind,data)]}}:=if_pos h
  rw [this]
  unfold LG.append at h ⊢
  split
  ·rfl
  ·rename_i hn;rw [if_neg hn] at h;exact absurd h hn
 ·exact .inr ⟨h,if_neg h⟩
theorem put_same (c:CoreM) (kind:Int) (data:List Int):(c.put kind data).next=c.next∧(c.put kind data).snap=c.snap∧(c.put kind data).self=c.self∧(c.put kind data).out.posts=c.out.posts∧(c.put kind data).log.bi=c.log.bi∧(c.put kind data).log.es.length≤c.log.es.length+1∧(c.put kind data).term=c.term∧(c.put kind data).out.entries.length≤c.out.entries.length+1:=by
 rcases put_cases c kind data with ⟨_,e⟩ | ⟨_,e⟩ <;> rw [e]
 ·exact ⟨rfl,rfl,rfl,rfl,rfl,by simp,rfl,by simp⟩
 ·exact ⟨rfl,rfl,rfl,rfl,rfl,by omega,rfl,by omega⟩
theorem LogOk.put {c:CoreM} (k:LogOk c) {kind:Int} {data:List Int} (hroom:(c.log.es.length+1)*48≤140737488355328) (hb:kind=2→∀ x∈data,0≤x∧x<256):LogOk (c.put kind data):=by
 have lo2:=k.lo.append [(c.term,c.log.last.1+1,kind,data)]
 rcases put_cases c kind data with ⟨h,e⟩ | ⟨_,e⟩ <;> rw [e]
 ·refine ⟨?_,fun e he h2 x hx=>?_,by simpa using hroom,k.snap⟩
  ·unfold LG.append at h lo2
   split at lo2
   ·exact lo2
   ·rename_i hn;rw [if_neg hn] at h;exact absurd h hn
  ·rcases List.mem_append.1 he with he | he
   ·exact k.by_ e he h2 x hx
   ·rw [List.mem_singleton.1 he] at h2 hx
    exact hb h2 x hx
 ·exact k
theorem send_more (c:CoreM) (n:Int):(c.send n).self=c.self∧(c.send n).term=c.term∧(c.send n).state=c.state∧(c.send n).commit=c.commit∧(c.send n).mtch=c.mtch∧(c.send n).heard=c.heard∧(c.send n).reads=c.reads∧(c.send n).first=c.first:=by
 unfold CoreM.send;split <;> exact ⟨rfl,rfl,rfl,rfl,rfl,rfl,rfl,rfl⟩
theorem sends_more:∀ (l:List Int) (c:CoreM),(l.foldl CoreM.send c).self=c.self∧(l.foldl CoreM.send c).term=c.term∧(l.foldl CoreM.send c).state=c.state∧(l.foldl CoreM.send c).commit=c.commit∧(l.foldl CoreM.send c).mtch=c.mtch∧(l.foldl CoreM.send c).heard=c.heard∧(l.foldl CoreM.send c).reads=c.reads∧(l.foldl CoreM.send c).first=c.first
 | [],c=>⟨rfl,rfl,rfl,rfl,rfl,rfl,rfl,rfl⟩
 | n::l,c=>by
  obtain ⟨a1,a2,a3,a4,a5,a6,a7,a8⟩:=send_more c n
  obtain ⟨b1,b2,b3,b4,b5,b6,b7,b8⟩:=sends_more l (c.send n)
  exact ⟨by rw [List.foldl_cons,b1,a1],by rw [List.foldl_cons,b2,a2],by rw [List.foldl_cons,b3,a3],by rw [List.foldl_cons,b4,a4],by rw [List.foldl_cons,b5,a5],by rw [List.foldl_cons,b6,a6],by rw [List.foldl_cons,b7,a7],by rw [List.foldl_cons,b8,a8]⟩
theorem LogOk.sendAll {c:CoreM} (k:LogOk c):LogOk c.sendAll:=by
 obtain ⟨a,_,b,_⟩:=sends_same c.others c
 exact k.same a b
theorem Five.get_all (x:Int) {n:Int} (h1:1≤n) (h2:n≤5):(Five.all x).get n=x:=by
 have:n=1∨n=2∨n=3∨n=4∨n=5:=by omega
 rcases this with rfl | rfl | rfl | rfl | rfl <;> rfl
def setTo (l:List Value) (v:Value) (j:Nat):List Value:=(List.range j).foldl (fun l i=>l.set (15+i) v) l
theorem setTo_len (l:List Value) (v:Value) (j:Nat):(setTo l v j).length=l.length:=by
 unfold setTo
 induction j with
 | zero=>rfl
 | succ j ih=>rw [List.range_succ,List.foldl_append];simpa using ih
theorem setTo_succ (l:List Value) (v:Value) (j:Nat):(setTo l v j).set (15+j) v=setTo l v (j+1):=by
 unfold setTo;rw [List.range_succ,List.foldl_append];rfl
theorem lead_any {h:Heap} {p o oo:Nat} {c:CoreM} (ap:Apart o oo) (k:PCore h p o oo c) (lk:LogOk c) (hs1:1≤c.self) (hs2:c.self≤5)
  (hroom:(c.log.es.length+1)*48≤140737488355328) (he:c.out.entries.length≤1000000000) (hp:c.out.posts.length≤999999990) :
  ACalls PR 128 #[Ptr p] h (fun v h'=>v = .tuple #[]∧PCore h' p o oo c.lead∧Keeps [o,o+1,oo] h h'):=by
 obtain ⟨x0,k0⟩:=k
 have hl:=lk.lo.last
 have ht:=lk.lo.top
 have hl0:=lk.lo.lo
 refine As mix Tryz.func128 rfl rfl Tryz.ntmps128 Tryz.results128 rfl ?_;conv=>whnf
 refine Aa rfl k0.str rfl ?_;conv=>whnf
 refine C2 (Last_c k0.log lk.lo) ?_;conv=>whnf
 refine ACalls.mono (follow_any ap.a ⟨x0,k0⟩) ?_;rintro _ h1 ⟨rfl,⟨x,k⟩,kk1⟩;conv=>whnf
 refine Aa rfl k.str rfl ?_;conv=>whnf
 refine AStore.oneTo rfl rfl rfl (k.str) rfl (coreCells {c.follow with state:=2} x) rfl ?_;conv=>whnf
 refine AStore.oneTo rfl rfl rfl (Heap.set_same _ _ _) rfl (coreCells {c.follow with state:=2,head:=c.self} x) rfl ?_;conv=>whnf
 rw [Heap.set_set]
 refine AStore.oneTo rfl rfl rfl (Heap.set_same _ _ _) rfl (coreCells {c.follow with state:=2,head:=c.self,beat:=2} x) rfl ?_;conv=>whnf
 rw [Heap.set_set]
 have k2:=k.set ap.a {c.follow with state:=2,head:=c.self,beat:=2} x
 have kk2:=kk1.trans (k.setKeep (coreCells {c.follow with state:=2,head:=c.self,beat:=2} x))
 generalize h1.set p (row (o,0) (coreCells {c.follow with state:=2,head:=c.self,beat:=2} x) 81)=h2 at k2 kk2 ⊢
 obtain ⟨l,hlc⟩:∃ l,l=coreCells {c.follow with state:=2,head:=c.self,beat:=2} x:=⟨_,rfl⟩
 have hll:l.length=48:=by rw [hlc];rfl
 refine ALoop.mk (fun e h'=>∃ e0,∃ j:Nat,e=updL 47 e0 [(0,Ptr p),(2,I c.log.last.1),(29,I j)]∧j≤6∧h2.set p (row (o,0) (setTo l (I (c.log.last.1+1)) j) 81)=h') (fun e=>6-natOf (e 29))
  ⟨_,0,Au ⟨rfl,rfl,rfl,trivial⟩,by omega,by rw [show setTo l (I (c.log.last.1+1)) 0=l from rfl,hlc];exact (Heap.set_self k2.str)⟩ ?_
 rintro e h3 ⟨e0,j,rfl,hj,rfl⟩
 conv=>whnf
 by_cases hj6:j<6
 ·refine Ac (by omega) ?_;conv=>whnf
  refine Ag (by omega) (by omega) (rfl) ?_;conv=>whnf
  refine Aj (n:=6) (z:=1) (j:=j) rfl (by omega) rfl rfl ?_;conv=>whnf
  refine AStore.oneTo rfl rfl rfl (Heap.set_same _ _ _) (by exact Nat.ble_eq_true_of_le (by rw [setTo_len];omega)) (setTo l (I (c.log.last.1+1)) (j+1)) (by rw [show 0+14+1+j*1=15+j by omega];exact setTo_succ _ _ _) ?_;conv=>whnf
  refine Ag (by omega) (by omega) ((by omega:(j:Int)+1=((j+1:Nat):Int))) ?_;conv=>whnf
  rw [Heap.set_set]
  refine ⟨⟨_,j+1,Au ⟨rfl,rfl,rfl,trivial⟩,by omega,rfl⟩,?_⟩
  show 6-(j+1)<6-j
  omega
 ·refine Ad (by omega) ?_;conv=>whnf
  obtain rfl:j=6:=by omega
  obtain ⟨d,hd⟩:∃ d:CoreM,d={c.follow with state:=2,head:=c.self,beat:=2,next:=Five.all (c.log.last.1+1)}:=⟨_,rfl⟩
  have e6:setTo l (I (c.log.last.1+1)) 6=coreCells d {x with z1:=c.log.last.1+1}:=by rw [hlc,hd];rfl
  rw [e6]
  have k3:=k2.set ap.a d {x with z1:=c.log.last.1+1} (by rfl) (by rw [hd]) (by rfl) (by rw [hd]) (by rfl) (by rw [hd]) (by rfl) (by rw [hd]) (by rw [hd]) (by rw [hd]) (by rw [hd])
  have kk3:=kk2.trans (k2.setKeep (coreCells d {x with z1:=c.log.last.1+1}))
  generalize h2.set p (row (o,0) (coreCells d {x with z1:=c.log.last.1+1}) 81)=h4 at k3 kk3 ⊢
  have el:d.log=c.log:=by rw [hd];rfl
  have es:d.snap=c.snap:=by rw [hd];rfl
  have ef:d.self=c.self:=by rw [hd];rfl
  have eo:d.out=c.out:=by rw [hd];rfl
  have en:d.next=Five.all (c.log.last.1+1):=by rw [hd]
  have lk3:LogOk d:=lk.same el es
  have lk4:=lk3.put (kind:=0) (data:=[]) (by rw [el];exact hroom) (by simp)
  obtain ⟨p1,p2,p3,p4,p5,p6,p7,p8⟩:=put_same d 0 []
  refine ACalls.mono (put_any ap ⟨_,k3⟩ lk3.lo (by rw [el];exact hroom) (by rw [el];omega) 0 (t:=(0,0)) (d:=slv0) (data:=[]) (Sl.nil ..) (by simp [slv0]) (by rw [eo];exact he)) ?_;rintro _ h5 ⟨rfl,k5,kk5⟩;conv=>whnf
  refine ACalls.mono (sendAll_any ap k5 lk4 (fun n h1 h2=>by rw [p1,en,Five.get_all _ h1 h2];omega) (by rw [p4,eo];exact hp)) ?_;rintro _ h6 ⟨rfl,k6,kk6⟩;conv=>whnf
  obtain ⟨m1,_⟩:=sends_more (d.put 0 []).others (d.put 0 [])
  refine ACalls.mono (rank_any ap k6 lk4.sendAll (by unfold CoreM.sendAll;rw [m1,p3,ef];exact hs1) (by unfold CoreM.sendAll;rw [m1,p3,ef];exact hs2)) ?_;rintro _ h7 ⟨rfl,k7,kk7⟩;conv=>whnf
  refine ⟨rfl,?_,(kk3.keeps (by simp)).trans (kk5.trans ((kk6.mono (by simp)).trans (kk7.keeps (by simp))))⟩
  rw [hd] at k7
  exact k7
theorem or_bits:∀ a:Nat,a<64→∀ n:Nat,n<6→(IntKind.i64.wrap (((BitVec.ofInt 64 (a:Int)) ||| (BitVec.ofInt 64 ((2^n:Nat):Int))).toNat:Int)=((a ||| 2^n:Nat):Int)∧a ||| 2^n<64):=by decide +kernel
theorem or_has:∀ a:Nat,a<64→∀ n:Nat,n<6→∀ j:Nat,j<5→hasB ((a ||| 2^n:Nat):Int) ((j:Int)+1)=(hasB (a:Int) ((j:Int)+1) || decide (j+1=n)):=by decide +kernel
theorem one_has:∀ n:Nat,n<6→∀ j:Nat,j<5→hasB ((2^n:Nat):Int) ((j:Int)+1)=decide (j+1=n):=by decide +kernel
theorem shl_one:∀ n:Nat,n<6→IntKind.i64.wrap (1*2^(min ((n:Nat):Int).toNat 64))=((2^n:Nat):Int):=by decide +kernel
theorem conf1_any {h:Heap} {p o oo b1 b2:Nat} {c:CoreM} {x:CX} (ap:Apart o oo) (k:h p=some (row (o,0) (coreCells c x) 81)) (k1:h b1=some (row (0,1) [Ptr p] 27)) (k2:h b2=some (row (0,1) [I c.crewNow.1] 3))
  (hs1:1≤c.self) (hs2:c.self≤5) (r:Int) (hq:Own h (oo,7) 3 x.ox.qr.a x.ox.qr.n x.ox.qr.c 1 (c.out.reads.map I)) (hroom:c.out.reads.length≤1000000000) :
  ACalls PR 141 #[I r,Ptr b1,Ptr b2] h (fun v h'=>v = .bool (c.roundOk r)∧((c.roundOk r=false∧h=h')∨(c.roundOk r=true∧∃ q:SlV,h' p=some (row (o,0) (coreCells {c with out:={c.out with reads:=c.out.reads++[r]}} {x with ox:={x.ox with qr:=q}}) 81) ∧
    Own h' (oo,7) 3 q.a q.n q.c 1 ((c.out.reads++[r]).map I)∧∀ b (t:Tag) y,t≠(o,0)→t≠(oo,7)→h b=some (t,y)→h' b=some (t,y)))):=by
 obtain ⟨m,hm⟩:∃ m:Nat,c.self=m:=⟨c.self.toNat,by omega⟩
 have hql:x.ox.qr.n=c.out.reads.length:=by have:=hq.sl.len;simpa using this.symm
 refine As mix Tryz.func141 rfl rfl Tryz.ntmps141 Tryz.results141 rfl ?_;conv=>whnf
 refine Aa rfl k1 rfl ?_
 refine Aa rfl k rfl ?_;conv=>whnf
 rw [hm]
 refine ⟨by omega,?_⟩
 refine AArith.as (shl_one m (by omega)) ?_;conv=>whnf
 refine Aa rfl k1 rfl ?_
 refine Ab rfl k rfl rfl ?_;conv=>whnf
 refine ALoop.mk (fun e h'=>h=h'∧∃ e0,∃ j a:Nat,e=updL 48 e0 [(0,I r),(1,Ptr b1),(2,Ptr b2),(5,I a),(18, .agg #[I x.z3,I c.heard.a1,I c.heard.a2,I c.heard.a3,I c.heard.a4,I c.heard.a5]),(19,I j)]∧j≤6∧a<64 ∧
   ∀ i:Nat,i<5→hasB a ((i:Int)+1)=(decide (i+1=m) || (decide (i+1<j)&&decide (r≤c.heard.get ((i:Int)+1))))) (fun e=>6-natOf (e 19))
  ⟨rfl,_,0,2^m,Au ⟨rfl,rfl,rfl,rfl,rfl,rfl,trivial⟩,by omega,by have:2^m≤2^5:=Nat.pow_le_pow_right (by omega) (by omega);omega,fun i hi=>by rw [one_has m (by omega) i hi];simp⟩ ?_
 rintro e _ ⟨rfl,e0,j,a,rfl,hj,ha,hb⟩
 conv=>whnf
 by_cases hj6:j<6
 ·refine Ac (by omega) ?_;conv=>whnf
  obtain ⟨v,hv,hv2⟩:∃ v:Int,[I x.z3,I c.heard.a1,I c.heard.a2,I c.heard.a3,I c.heard.a4,I c.heard.a5][j]? = some (I v)∧(1≤j→v=c.heard.get (j:Int)):=by
   have:j=0∨j=1∨j=2∨j=3∨j=4∨j=5:=by omega
   rcases this with rfl | rfl | rfl | rfl | rfl | rfl
   ·exact ⟨_,rfl,fun h=>absurd h (by omega)⟩
   all_goals exact ⟨_,rfl,fun _=>rfl⟩
  refine AIdxV.one (n:=6) (j:=j) rfl hj6 rfl rfl rfl hv ?_;conv=>whnf
  by_cases c1:r≤v
  ·refine Ac (c1) ?_;conv=>whnf
   refine ⟨by omega,?_⟩
   refine AArith.as (shl_one j hj6) ?_;conv=>whnf
   refine Aq (or_bits a ha j hj6).1 ?_;conv=>whnf
   refine Ag (by omega) (by omega) ((by omega:(j:Int)+1=((j+1:Nat):Int))) ?_;conv=>whnf
   refine ⟨⟨rfl,_,j+1,a ||| 2^j,Au ⟨rfl,rfl,rfl,rfl,rfl,rfl,trivial⟩,by omega,(or_bits a ha j hj6).2,fun i hi=>?_⟩,?_⟩
   ·rw [or_has a ha j hj6 i hi,hb i hi]
    by_cases ci:i+1=j
    ·have hvv:=hv2 (by omega)
     rw [show ((i:Int)+1)=(j:Int) by omega,← hvv]
     simp [ci,c1]
    ·by_cases cj:i+1<j
     ·simp [ci,cj,show i+1<j+1 by omega]
     ·simp [ci,cj,show ¬ i+1<j+1 by omega]
   ·show 6-(j+1)<6-j
    omega
  ·refine Ad (c1) ?_;conv=>whnf
   refine Ag (by omega) (by omega) ((by omega:(j:Int)+1=((j+1:Nat):Int))) ?_;conv=>whnf
   refine ⟨⟨rfl,_,j+1,a,Au ⟨rfl,rfl,rfl,rfl,rfl,rfl,trivial⟩,by omega,ha,fun i hi=>?_⟩,?_⟩
   ·rw [hb i hi]
    by_cases ci:i+1=j
    ·have hvv:=hv2 (by omega)
     rw [show ((i:Int)+1)=(j:Int) by omega,← hvv]
     simp [ci,c1]
    ·by_cases cj:i+1<j
     ·simp [cj,show i+1<j+1 by omega]
     ·simp [cj,show ¬ i+1<j+1 by omega]
   ·show 6-(j+1)<6-j
    omega
 ·refine Ad (by omega) ?_;conv=>whnf
  obtain rfl:j=6:=by omega
  refine Aa rfl k2 rfl ?_;conv=>whnf
  refine ACalls.mono (Most_any h c.crewNow.1 a) ?_
  have hro:decide (pop (m5 c.crewNow.1)<2*pop (m5 c.crewNow.1 &&& m5 a))=c.roundOk r:=by
   refine mostOf_set fun n h1 h2=>?_
   obtain ⟨i,rfl⟩:∃ i:Nat,n=(i:Int)+1:=⟨(n-1).toNat,by omega⟩
   rw [hb i (by omega),hm]
   rw [decide_eq_true (show i+1<6 by omega),Bool.true_and]
   congr 1
   rw [decide_eq_decide];omega
  rw [hro]
  clear hro hb
  cases hr:c.roundOk r with
  | false =>
   rintro _ _ ⟨rfl,rfl⟩
   conv=>whnf
   exact ⟨rfl, .inl ⟨rfl,rfl⟩⟩
  | true =>
   rintro _ _ ⟨rfl,rfl⟩
   conv=>whnf
   obtain ⟨g,hg⟩:∃ g:Heap,g=fun b=>if b=p∨b=b1 then h b else none:=⟨_,rfl⟩
   refine Am (two h b1 p) [12] (two_sub _ _ _) (by decide +kernel) ?_;conv=>whnf
   refine Aa rfl ((two_l _ _ _).trans k1) rfl ?_
   refine Aa rfl ((two_l _ _ _).trans k1) rfl ?_
   refine Aa rfl ((two_r _ _ _).trans k) rfl ?_;conv=>whnf
   refine Ap (0,1) [I r] rfl rfl rfl rfl rfl rfl rfl fun b6 h5 n5 s5 k6=>?_;conv=>whnf
   refine ⟨(two_sub _ _ _).trans s5,?_⟩;conv=>whnf
   refine AAppend.own (t:=(oo,7)) (E:=3) (z:=1) (by_:=8) (zero:=[I 0]) (tx:=(0,1)) (xs:=[I r]) rfl ⟨_,rfl⟩ rfl rfl rfl rfl (by omega) (hq.move fun _ _ e=>s5 _ _ e)
    ⟨rfl,Nat.le_refl _, .inr ⟨b6,0,_,_,_,rfl,k6,rfl⟩⟩ rfl (by omega) (by omega) fun a7 c7 h7 ow7 t7 _=>?_
   conv=>whnf
   have p7:=t7.get (u:=(o,0)) (fun c=>ap.a (congrArg Prod.fst c)) (s5 _ _ k)
   have b7:=t7.get (u:=(0,1)) (fun c=>ap.d (congrArg Prod.fst c).symm) (s5 _ _ k1)
   refine ⟨two_get (fun y hy=>?_) (fun y hy=>?_),?_⟩
   ·rw [k1] at hy;cases hy;exact b7
   ·rw [k] at hy;cases hy;exact p7
   conv=>whnf
   refine Af rfl rfl rfl (p7) rfl (coreCells {c with out:={c.out with reads:=c.out.reads++[r]}} {x with ox:={x.ox with qr:=⟨a7,x.ox.qr.n+1,c7⟩}}) rfl fun h8 t8 k8 a8 e8=>?_;conv=>whnf
   rw [← hm]
   refine ⟨rfl, .inr ⟨rfl,⟨a7,x.ox.qr.n+1,c7⟩,k8,?_,fun b t y h1 h2 e=>t8 _ _ _ h1 (t7 _ _ _ h2 (s5 _ _ e))⟩⟩
   have:=ow7.keepT t8 (fun c=>ap.a (congrArg Prod.fst c).symm)
   rw [List.map_append]
   exact this
theorem filter_take_succ {P:Int→Bool} {l:List Int} {k:Nat} {x:Int} (h:l[k]? = some x):(l.take (k+1)).filter P=(l.take k).filter P++(if P x=true then [x] else []):=by
 obtain ⟨h1,h2⟩:=List.getElem?_eq_some_iff.1 h
 rw [List.take_succ_eq_append_getElem h1,List.filter_append,h2]
 cases hp:P x <;> simp [hp]
theorem confirm_any {h:Heap} {p o oo:Nat} {c:CoreM} (ap:Apart o oo) (k:PCore h p o oo c) (lk:LogOk c) (hs1:1≤c.self) (hs2:c.self≤5) (hroom:c.out.reads.length+c.reads.length≤1000000000) :
  ACalls PR 65 #[Ptr p] h (fun v h'=>v = .tuple #[]∧PCore h' p o oo c.confirm∧Keeps [o,oo] h h'):=by
 obtain ⟨x,k0⟩:=k
 refine As mix Tryz.func65 rfl rfl Tryz.ntmps65 Tryz.results65 rfl ?_;conv=>whnf
 refine Al (0,1) ([Ptr p]) rfl fun b1 h1 n1 s1 k1=>?_;conv=>whnf
 have k:=k0.sub s1
 refine Aa rfl k1 rfl ?_
 refine Aa rfl k.str rfl ?_;conv=>whnf
 by_cases c1:c.state≠2
 ·refine Ac (c1) ?_;conv=>whnf
  refine ⟨rfl,?_,s1.keeps _⟩
  unfold CoreM.confirm;rw [if_pos c1];exact ⟨_,k⟩
 refine Ad (c1) ?_;conv=>whnf
 refine Aa rfl k1 rfl ?_;conv=>whnf
 refine C2 (crewNow_any k lk.lo lk.by_) ?_;conv=>whnf
 refine Ak (0,1) ([I 0]) rfl fun b2 h2 n2 s2 k2=>?_;conv=>whnf
 refine Af rfl rfl rfl (k2) rfl ([I c.crewNow.1]) rfl fun h3 t3 k3 a3 e3=>?_;conv=>whnf
 have b12:b1≠b2:=fun c=>by rw [c,n2] at k1;cases k1
 have m1:=e3 _ _ b12 (s2 _ _ k1)
 have s3:Sub h1 h3:=a3 h1 s2 n2
 have q:=k.sub s3
 have b1p:b1≠p:=ne_of_tag m1 q.str (tag_ne ap.c)
 have b2p:b2≠p:=ne_of_tag k3 q.str (tag_ne ap.c)
 have kh3:Keeps [o,oo] h h3:=(s1.trans s3).keeps _
 have hrl:x.rd.n=c.reads.length:=by have:=q.rd.sl.len;simpa using this.symm
 let ck:Nat→CoreM:=fun j=>{c with out:={c.out with reads:=c.out.reads++(c.reads.take j).filter c.roundOk}}
 let Inv:Nat→Heap→Prop:=fun j h'=>h' b1=some (row (0,1) [Ptr p] 27)∧h' b2=some (row (0,1) [I c.crewNow.1] 3)∧(∃ qr:SlV,h' p=some (row (o,0) (coreCells (ck j) {x with ox:={x.ox with qr:=qr}}) 81)∧Own h' (oo,7) 3 qr.a qr.n qr.c 1 ((ck j).out.reads.map I)) ∧
  ∀ b (t:Tag) y,t≠(o,0)→t≠(oo,7)→t≠(o,4)→h3 b=some (t,y)→h' b=some (t,y)
 have A:Asks (o,4) 141 [Ptr b1,Ptr b2] c.reads c.roundOk Inv:=by
  refine ⟨fun j r h' hr ⟨i1,i2,⟨qr,i3,i4⟩,i5⟩=>?_,fun j h' h'' ⟨i1,i2,⟨qr,i3,i4⟩,i5⟩ kt=>⟨kt.get (fun c=>ap.c (congrArg Prod.fst c).symm) i1,kt.get (fun c=>ap.c (congrArg Prod.fst c).symm) i2,⟨qr,kt.get (fun c=>by simp at c) i3,i4.keepT kt (fun c=>ap.a (congrArg Prod.fst c).symm)⟩,fun b t y t1 t2 t3 e=>kt _ _ _ t3 (i5 b t y t1 t2 t3 e)⟩⟩
  have hrl2:((ck j).out.reads).length≤1000000000:=by
   show (c.out.reads++(c.reads.take j).filter c.roundOk).length≤_
   have:=List.length_filter_le c.roundOk (c.reads.take j)
   rw [List.length_append];simp only [List.length_take] at this;omega
  have hsucc:=filter_take_succ (P:=c.roundOk) hr
  refine (conf1_any (c:=ck j) (x:={x with ox:={x.ox with qr:=qr}}) ap i3 i1 i2 hs1 hs2 r i4 hrl2).mono fun v h'' ⟨hv,hh⟩=>?_
  have hro:(ck j).roundOk r=c.roundOk r:=rfl
  rw [hro] at hv hh
  refine ⟨hv,?_⟩
  rcases hh with ⟨hf,rfl⟩ | ⟨hf,q2,j1,j2,j3⟩
  ·have e:ck (j+1)=ck j:=by
    show ({c with out:={c.out with reads:=c.out.reads++(c.reads.take (j+1)).filter c.roundOk}}:CoreM)=_
    rw [hsucc,hf];simp [ck]
   refine ⟨⟨i1,i2,⟨qr,by rw [e];exact i3,by rw [e];exact i4⟩,i5⟩,fun _ _ y=>y⟩
  ·have e:ck (j+1)={ck j with out:={(ck j).out with reads:=(ck j).out.reads++[r]}}:=by
    show ({c with out:={c.out with reads:=c.out.reads++(c.reads.take (j+1)).filter c.roundOk}}:CoreM)=_
    rw [hsucc,hf];simp [ck]
   refine ⟨⟨j3 _ _ _ (tag_ne ap.c) (tag_ne ap.d) i1,j3 _ _ _ (tag_ne ap.c) (tag_ne ap.d) i2,⟨q2,by rw [e];exact j1,by rw [e];exact j2⟩,fun b t y t1 t2 t3 e=>j3 _ _ _ t1 t2 (i5 b t y t1 t2 t3 e)⟩,fun b y e=>j3 _ _ _ (by simp) (fun c=>ap.a (congrArg Prod.fst c)) e⟩
 have i0:Inv 0 h3:=⟨m1,k3,⟨x.ox.qr,by
  show h3 p=some (row (o,0) (coreCells {c with out:={c.out with reads:=c.out.reads++[]}} x) 81)
  rw [List.append_nil];exact q.str,by
  show Own h3 (oo,7) 3 _ _ _ 1 ((c.out.reads++[]).map I)
  rw [List.append_nil];exact q.out.qr⟩,fun _ _ _ _ _ _ e=>e⟩
 have hx:x.rd.n≤4611686018427387904:=by omega
 have eq:c.confirm={c with reads:=c.reads.filter (fun r => !c.roundOk r),out:={c.out with reads:=c.out.reads++c.reads.filter c.roundOk}}:=by
  unfold CoreM.confirm;rw [if_neg c1]
 refine Ao (two h3 b1 p) [7] (.take 1 (.take 2 (.take 3 (.take 4 (.take 5 (.take 6 (.alt 0 (.take 7 (.take 8 (.take 9 (.take 10 (.take 11 (.done)))))) (.alt 7 (.again (.take 0 (.take 8 (.take 9 (.take 10 (.take 11 (.done))))))) (.stop))))))))) (two_sub _ _ _) (by decide +kernel) ?_;conv=>whnf
 refine Aa rfl ((two_l _ _ _).trans m1) rfl ?_
 refine Aa rfl ((two_r _ _ _).trans q.str) rfl ?_;conv=>whnf
 refine And.intro ?_ ?_
 ·conv=>whnf
  refine Aa rfl ((two_l _ _ _).trans m1) rfl ?_;conv=>whnf
  refine ACalls.mono (DeleteFunc_any A q.rd hx i0) ?_;rintro _ h4 ⟨rfl,ow4,i4⟩;conv=>whnf
  rw [show Inv x.rd.n h4↔Inv c.reads.length h4 by rw [hrl]] at i4
  obtain ⟨i1,i2,⟨qr,i3,i4⟩,i5⟩:=i4
  have ec:ck c.reads.length={c with out:={c.out with reads:=c.out.reads++c.reads.filter c.roundOk}}:=by
   show ({c with out:={c.out with reads:=c.out.reads++(c.reads.take c.reads.length).filter c.roundOk}}:CoreM)=_
   rw [List.take_length]
  rw [ec] at i3 i4
  refine Af rfl rfl rfl (i3) rfl (coreCells {c with reads:=c.reads.filter (fun r => !c.roundOk r),out:={c.out with reads:=c.out.reads++c.reads.filter c.roundOk}} {x with rd:=⟨x.rd.a,(c.reads.filter (fun r => !c.roundOk r)).length,x.rd.c⟩,ox:={x.ox with qr:=qr}}) rfl fun h5 t5 k5 a5 e5=>?_;conv=>whnf
  have done:PCore h5 p o oo c.confirm∧Keeps [o,oo] h h5:=by
   rw [eq]
   have go:∀ b (t:Tag) y,t≠(o,0)→t≠(oo,7)→t≠(o,4)→h3 b=some (t,y)→h5 b=some (t,y):=fun b t y t1 t2 t3 e=>t5 _ _ _ t1 (i5 b t y t1 t2 t3 e)
   have ne7:∀ r:Nat,((o,r):Tag)≠(oo,7):=fun r c=>ap.a (congrArg Prod.fst c)
   have neo:∀ r s:Nat,((oo,r):Tag)≠(o,s):=fun r s c=>ap.a (congrArg Prod.fst c).symm
   refine ⟨⟨_,k5,q.sd.move fun _ _ e=>go _ _ _ (by simp) (ne7 3) (by simp) e,Moves.move q.log fun _ t _ ht e=>go _ t _ (fun c=>by rw [c] at ht;simp at ht) (fun c=>by rw [c] at ht;exact ap.b ht.symm) (fun c=>by rw [c] at ht;simp at ht) e,ow4.keepT t5 (by simp),?_⟩,kh3.trans fun b t y ht e=>go _ _ _ (fun c=>by rw [c] at ht;simp at ht) (fun c=>by rw [c] at ht;simp at ht) (fun c=>by rw [c] at ht;simp at ht) e⟩
   have qo:=q.out
   have g2:∀ r:Nat,r≠7→∀ b y,h3 b=some ((oo,r),y)→h5 b=some ((oo,r),y):=fun r hr b y e=>go _ _ _ (neo r 0) (fun c=>hr (congrArg Prod.snd c)) (neo r 4) e
   refine ⟨qo.od.move fun _ _ e=>g2 6 (by decide) _ _ e,qo.oe.move fun _ _ e=>g2 1 (by decide) _ _ e,fun y hy=>Own.move (qo.ed y hy) fun _ _ e=>g2 2 (by decide) _ _ e,qo.ea,qo.es,qo.op.move fun _ _ e=>g2 3 (by decide) _ _ e,fun i y hy=>(qo.ps i y hy).move fun b t z ht hr e=>?_,qo.pa,i4.keepT t5 (neo 7 0)⟩
   obtain ⟨t1,t2⟩:=t
   simp only at ht hr;subst ht
   exact g2 t2 (by omega) b z e
  refine ⟨(fun b x e=>by cases e),?_⟩;conv=>whnf
  exact ⟨rfl,done.1,done.2⟩
 ·conv=>whnf
  refine And.intro ?_ trivial
  conv=>whnf
  refine ACalls.mono (DeleteFunc_any A q.rd hx i0) ?_;rintro _ h4 ⟨rfl,ow4,i4⟩;conv=>whnf
  rw [show Inv x.rd.n h4↔Inv c.reads.length h4 by rw [hrl]] at i4
  obtain ⟨i1,i2,⟨qr,i3,i4⟩,i5⟩:=i4
  have ec:ck c.reads.length={c with out:={c.out with reads:=c.out.reads++c.reads.filter c.roundOk}}:=by
   show ({c with out:={c.out with reads:=c.out.reads++(c.reads.take c.reads.length).filter c.roundOk}}:CoreM)=_
   rw [List.take_length]
  rw [ec] at i3 i4
  refine ⟨rfl,rfl,one h4 b1,one_sub _ _,?_⟩;conv=>whnf
  refine Aa rfl ((one_at _ _).trans i1) rfl ?_;conv=>whnf
  refine Af rfl rfl rfl (i3) rfl (coreCells {c with reads:=c.reads.filter (fun r => !c.roundOk r),out:={c.out with reads:=c.out.reads++c.reads.filter c.roundOk}} {x with rd:=⟨x.rd.a,(c.reads.filter (fun r => !c.roundOk r)).length,x.rd.c⟩,ox:={x.ox with qr:=qr}}) rfl fun h5 t5 k5 a5 e5=>?_;conv=>whnf
  have done:PCore h5 p o oo c.confirm∧Keeps [o,oo] h h5:=by
   rw [eq]
   have go:∀ b (t:Tag) y,t≠(o,0)→t≠(oo,7)→t≠(o,4)→h3 b=some (t,y)→h5 b=some (t,y):=fun b t y t1 t2 t3 e=>t5 _ _ _ t1 (i5 b t y t1 t2 t3 e)
   have ne7:∀ r:Nat,((o,r):Tag)≠(oo,7):=fun r c=>ap.a (congrArg Prod.fst c)
   have neo:∀ r s:Nat,((oo,r):Tag)≠(o,s):=fun r s c=>ap.a (congrArg Prod.fst c).symm
   refine ⟨⟨_,k5,q.sd.move fun _ _ e=>go _ _ _ (by simp) (ne7 3) (by simp) e,Moves.move q.log fun _ t _ ht e=>go _ t _ (fun c=>by rw [c] at ht;simp at ht) (fun c=>by rw [c] at ht;exact ap.b ht.symm) (fun c=>by rw [c] at ht;simp at ht) e,ow4.keepT t5 (by simp),?_⟩,kh3.trans fun b t y ht e=>go _ _ _ (fun c=>by rw [c] at ht;simp at ht) (fun c=>by rw [c] at ht;simp at ht) (fun c=>by rw [c] at ht;simp at ht) e⟩
   have qo:=q.out
   have g2:∀ r:Nat,r≠7→∀ b y,h3 b=some ((oo,r),y)→h5 b=some ((oo,r),y):=fun r hr b y e=>go _ _ _ (neo r 0) (fun c=>hr (congrArg Prod.snd c)) (neo r 4) e
   refine ⟨qo.od.move fun _ _ e=>g2 6 (by decide) _ _ e,qo.oe.move fun _ _ e=>g2 1 (by decide) _ _ e,fun y hy=>Own.move (qo.ed y hy) fun _ _ e=>g2 2 (by decide) _ _ e,qo.ea,qo.es,qo.op.move fun _ _ e=>g2 3 (by decide) _ _ e,fun i y hy=>(qo.ps i y hy).move fun b t z ht hr e=>?_,qo.pa,i4.keepT t5 (neo 7 0)⟩
   obtain ⟨t1,t2⟩:=t
   simp only at ht hr;subst ht
   exact g2 t2 (by omega) b z e
  refine ⟨one_get fun y hy=>e5 _ _ b1p hy,?_⟩;conv=>whnf
  exact ⟨rfl,done.1,done.2⟩
theorem says_same (p:PostM):∀ (l:List Int) (c:CoreM),∃ q,l.foldl (fun x n=>x.say n p) c={c with out:={c.out with posts:=c.out.posts++q}}∧q.length=l.length
 | [],c=>⟨[],by simp,rfl⟩
 | n::l,c=>by
  obtain ⟨q,e,hq⟩:=says_same p l (c.say n p)
  refine ⟨{p with src:=c.self,dst:=n,term:=c.term}::q,?_,by simp [hq]⟩
  rw [List.foldl_cons,e]
  simp [CoreM.say]
def standP (c:CoreM):PostM:={post0 with kind:=1,index:=c.log.last.1,logTerm:=c.log.last.2}
def CoreM.stood (c:CoreM):CoreM:={c.learn (c.term+1) with vote:=c.self,state:=1,votes:=2^c.self.toNat}
theorem CoreM.stand_eq (c:CoreM):c.stand=if hasB c.crewNow.1 c.self=false∨c.term=9007199254740991 then c
 else if (c.stood.others.foldl (fun x n=>x.say n (standP c)) c.stood).elected=true then (c.stood.others.foldl (fun x n=>x.say n (standP c)) c.stood).lead else c.stood.others.foldl (fun x n=>x.say n (standP c)) c.stood:=rfl
theorem stand_any {h:Heap} {p o oo:Nat} {c:CoreM} (ap:Apart o oo) (k:PCore h p o oo c) (lk:LogOk c) (hs1:1≤c.self) (hs2:c.self≤5) (ht1:0≤c.term) (ht2:c.term≤9007199254740991)
  (hroom:(c.log.es.length+1)*48≤140737488355328) (he:c.out.entries.length≤1000000000) (hp:c.out.posts.length≤999999980) :
  ACalls PR 61 #[Ptr p] h (fun v h'=>v = .tuple #[]∧PCore h' p o oo c.stand∧Keeps [o,o+1,oo] h h'):=by
 obtain ⟨x0,k0⟩:=k
 obtain ⟨m,hm⟩:∃ m:Nat,c.self=m:=⟨c.self.toNat,by omega⟩
 rw [CoreM.stand_eq]
 refine As mix Tryz.func61 rfl rfl Tryz.ntmps61 Tryz.results61 rfl ?_;conv=>whnf
 refine C2 (crewNow_any k0 lk.lo lk.by_) ?_;conv=>whnf
 refine Aa rfl k0.str rfl ?_;conv=>whnf
 refine ACalls.mono (CHas_any _ c.crewNow.1 c.self) ?_
 cases hb:hasB c.crewNow.1 c.self with
 | false =>
  rintro _ _ ⟨rfl,rfl⟩
  conv=>whnf
  rw [if_pos (.inl rfl)]
  exact ⟨rfl,⟨_,k0⟩,Keeps.refl _ _⟩
 | true =>
 rintro _ _ ⟨rfl,rfl⟩
 conv=>whnf
 refine Aa rfl k0.str rfl ?_;conv=>whnf
 by_cases c1:c.term=9007199254740991
 ·refine Ac (c1) ?_;conv=>whnf
  rw [if_pos (.inr c1)]
  exact ⟨rfl,⟨_,k0⟩,Keeps.refl _ _⟩
 refine Ad (c1) ?_;conv=>whnf
 rw [if_neg (by simp [c1])]
 refine Aa rfl k0.str rfl ?_;conv=>whnf
 refine Ag (by omega) (by omega) (rfl) ?_;conv=>whnf
 refine ACalls.mono (learn_any ap.a ⟨_,k0⟩ (c.term+1)) ?_;rintro _ h1 ⟨rfl,⟨x,k⟩,kk1⟩;conv=>whnf
 refine Am (h1) [14] (Sub.refl _) (by decide +kernel) ?_;conv=>whnf
 refine Aa rfl k.str rfl ?_
 refine Aa rfl k.str rfl ?_;conv=>whnf
 rw [show (c.learn (c.term+1)).self=(m:Int) from hm]
 refine ⟨by omega,?_⟩
 refine AArith.as (shl_one m (by omega)) ?_;conv=>whnf
 refine Af rfl rfl rfl (k.str) rfl (coreCells {c.learn (c.term+1) with vote:=(m:Int)} x) rfl fun h2 t2 k2 a2 e2=>?_;conv=>whnf
 refine Af rfl rfl rfl (k2) rfl (coreCells {c.learn (c.term+1) with vote:=(m:Int),state:=1} x) rfl fun h3 t3 k3 a3 e3=>?_;conv=>whnf
 refine ⟨(fun b y e=>by cases e),?_⟩;conv=>whnf
 refine Af rfl rfl rfl (k3) rfl (coreCells {c.learn (c.term+1) with vote:=(m:Int),state:=1,votes:=((2^m:Nat):Int)} x) rfl fun h4 t4 k4 a4 e4=>?_;conv=>whnf
 refine ⟨(fun b y e=>by cases e),?_⟩;conv=>whnf
 have es:({c.learn (c.term+1) with vote:=(m:Int),state:=1,votes:=((2^m:Nat):Int)}:CoreM)=c.stood:=by
  unfold CoreM.stood;rw [hm];simp
 rw [es] at k4
 clear es
 have tt:=t2.trans (t3.trans t4)
 have q4:CoreX 81 LA h4 p o oo c.stood x:=⟨k4,k.sd.keepT tt (by simp),KeepT.log k.log tt,k.rd.keepT tt (by simp),by
  have:=k.out.keepT ap.a tt
  exact this⟩
 have kk4:Keeps [o,o+1,oo] h h4:=(kk1.trans tt.keep).keeps (by simp)
 have lk4:LogOk c.stood:=lk.same rfl rfl
 obtain ⟨d,hd⟩:∃ d,d=c.stood:=⟨_,rfl⟩
 have f1:d.log=c.log:=by rw [hd];rfl
 have f2:d.self=c.self:=by rw [hd];rfl
 have f3:d.crewNow=c.crewNow:=by rw [hd];rfl
 have f4:d.out.posts=c.out.posts:=by rw [hd];rfl
 have f5:d.out.entries=c.out.entries:=by rw [hd];rfl
 have f6:d.log.last=c.log.last:=by rw [f1]
 rw [← hd] at q4 lk4 ⊢
 clear k4 k3 k2
 refine Aa rfl q4.str rfl ?_;conv=>whnf
 refine C2 (Last_c q4.log lk4.lo) ?_;conv=>whnf
 rw [f6]
 refine ACalls.mono (others_any q4 lk4.lo lk4.by_) ?_;rintro _ h5 ⟨al,cp,f,rfl,sl,hf1,hf2,s5⟩;conv=>whnf
 have hl5:=others_len d
 refine ALoop.mk (fun e h'=>∃ e0,∃ j:Nat,e=updL 84 e0 [(0,Ptr p),(2,I c.crewNow.1),(4,I c.log.last.1),(5,I c.log.last.2),(62, .slice al d.others.length cp),(63,I d.others.length),(64,I j)]∧j≤d.others.length∧PCore h' p o oo ((d.others.take j).foldl (fun x n=>x.say n (standP c)) d)∧Keeps [o,o+1,oo] h h'∧Sl h' (f,0) al d.others.length cp 1 (d.others.map I)) (fun e=>d.others.length-natOf (e 64))
  ⟨_,0,Au ⟨rfl,rfl,rfl,rfl,rfl,rfl,rfl,trivial⟩,by omega,⟨x,q4.sub s5⟩,kk4.trans (s5.keeps _),sl⟩ ?_
 rintro e h6 ⟨e0,j,rfl,hj,k6,kk6,s6⟩
 conv=>whnf
 by_cases hjn:j<d.others.length
 ·refine Ac (by omega) ?_;conv=>whnf
  obtain ⟨n,hn⟩:∃ n,d.others[j]? = some n:=⟨d.others[j]'hjn,by simp⟩
  obtain ⟨b,off,l,E,fz,rfl,hb6,hc⟩:=s6.pos (by omega)
  have g0:l[off+j*1]? = some (I n):=by rw [get_of_take hc (by omega),Nat.mul_one];simp [hn]
  refine Ai (z:=1) (j:=j) rfl hjn rfl rfl ?_;conv=>whnf
  refine Aa rfl hb6 g0 ?_;conv=>whnf
  obtain ⟨q,eq,hq⟩:=says_same (standP c) (d.others.take j) d
  have htl:(d.others.take j).length≤5:=by simp;omega
  have ph:PH.Made h6 oo (10+((d.others.take j).foldl (fun x n=>x.say n (standP c)) d).out.posts.length) ⟨1,0,0,0,c.log.last.1,c.log.last.2,0,false,0,slv0,[],0,0,0,slv0,[]⟩:=⟨.inl ⟨rfl,rfl,rfl⟩,by simp,by simp, .inl ⟨rfl,rfl,rfl⟩⟩
  refine ACalls.mono (say_any ap.a ap.b ap.c ap.d k6 n _ ph (by rw [eq];simp only [List.length_append];rw [f4];omega)) ?_;rintro _ h7 ⟨rfl,k7,kk7⟩;conv=>whnf
  refine Ag (by omega) (by omega) ((by omega:(j:Int)+1=((j+1:Nat):Int))) ?_;conv=>whnf
  refine ⟨⟨_,j+1,Au ⟨rfl,rfl,rfl,rfl,rfl,rfl,rfl,trivial⟩,by omega,?_,kk6.trans (kk7.mono (by simp)),s6.keeps kk7 (by simp;omega)⟩,?_⟩
  ·rw [List.take_succ_eq_append_getElem hjn,(List.getElem?_eq_some_iff.1 hn).2,List.foldl_append]
   exact k7
  ·show d.others.length-(j+1)<d.others.length-j
   omega
 ·refine Ad (by omega) ?_;conv=>whnf
  rw [List.take_of_length_le (by omega)] at k6
  obtain ⟨q,eq,hq⟩:=says_same (standP c) d.others d
  obtain ⟨g,hg⟩:∃ g,g=d.others.foldl (fun x n=>x.say n (standP c)) d:=⟨_,rfl⟩
  have g1:g.log=c.log:=by rw [hg,eq];exact f1
  have g2:g.self=c.self:=by rw [hg,eq];exact f2
  have g3:g.crewNow=c.crewNow:=by rw [hg,eq];exact f3
  have g4:g.out.posts.length≤999999990:=by rw [hg,eq];simp only [List.length_append];rw [f4];omega
  have g5:g.out.entries=c.out.entries:=by rw [hg,eq];exact f5
  have g6:LogOk g:=by rw [hg,eq];exact lk4.same rfl rfl
  rw [← hg] at k6 ⊢
  obtain ⟨x6,k6⟩:=k6
  refine Aa rfl k6.str rfl ?_;conv=>whnf
  refine ACalls.mono (Most_any h6 c.crewNow.1 g.votes) ?_
  rw [mostOf_set (p:=hasB g.votes) (fun n _ _=>rfl),← g3,show mostOf g.crewNow.1 (hasB g.votes)=g.elected from rfl]
  cases hel:g.elected with
  | false =>
   rintro _ _ ⟨rfl,rfl⟩
   conv=>whnf
   rw [if_neg (by simp)]
   exact ⟨rfl,⟨_,k6⟩,kk6⟩
  | true =>
   rintro _ _ ⟨rfl,rfl⟩
   conv=>whnf
   rw [if_pos rfl]
   refine ACalls.mono (lead_any ap ⟨_,k6⟩ g6 (by rw [g2];exact hs1) (by rw [g2];exact hs2) (by rw [g1];exact hroom) (by rw [g5];exact he) g4) ?_;rintro _ h7 ⟨rfl,k7,kk7⟩;conv=>whnf
   exact ⟨rfl,k7,kk6.trans kk7⟩
structure COk (c:CoreM):Prop where
  lk:LogOk c
  nk:NextOk c
  mt:MtchOk c
  s1:1≤c.self
  s2:c.self≤5
  t1:0≤c.term
  t2:c.term≤9007199254740991
  out:c.out=out0
  es:c.log.es.length≤1000000000
  rd:c.reads.length≤100000000
  q1:0≤c.quiet
  q2:c.quiet≤10
  v1:0≤c.votes
  v2:c.votes<64
  w1:1≤c.wait
  w2:c.wait≤19
  b1:0≤c.beat
  b2:c.beat≤2
  r1:0≤c.round
  r2:c.round≤9007199254740991
  fc:0≤c.first∧c.first≤255
  sc:0≤c.snap.crew∧c.snap.crew≤255
  m1:0≤c.commit
  m2:c.commit≤9007199254740991
theorem waits_any (h:Heap) (d:Int) (h0:0≤d):ACalls PR 60 #[I d] h (fun v h'=>v=I (waits d)∧h=h'):=by
 refine Ar (As mix Tryz.func60 rfl rfl Tryz.ntmps60 Tryz.results60 rfl ?_);conv=>whnf
 refine ⟨by omega,?_⟩
 refine Aq (rfl) ?_;conv=>whnf
 have h1:0≤d.tmod 10:=Int.tmod_nonneg _ h0
 have h2:d.tmod 10<10:=Int.tmod_lt_of_pos _ (by omega)
 refine Ag (by omega) (by omega) (rfl) ?_;conv=>whnf
 exact ⟨rfl,Sub.refl _⟩
def Told (p o oo:Nat) (d:CoreM) (h:Heap) (v:Value) (h':Heap):Prop :=
  ∃ ox,v = .agg (outCells d.done.2 ox).toArray∧OutOk h' oo d.done.2 ox∧(∀ oo2,oo2≠0→PCore h' p o oo2 d.done.1)∧Keeps [o,o+1,oo] h h'
theorem told_end {h h1 h3 h4:Heap} {p o oo b:Nat} {d:CoreM} {ox:OX} (ap:Apart o oo) (n:h b=none) (k1:Keeps [o,o+1,oo] h h1) (k3:Keep o h1 h3)
  (ok:OutOk h3 oo d.done.2 ox) (q:∀ oo2,PCore h3 p o oo2 d.done.1) (t4:KeepT (0,1) h3 h4) (e4:∀ c y,c≠b→h3 c=some y→h4 c=some y) :
  Told p o oo d h (.agg (outCells d.done.2 ox).toArray) h4 :=
 ⟨ox,rfl,ok.keepT (Ne.symm ap.d) t4,fun oo2 h2=>(q oo2).keeps' t4 ap.c (by omega) h2,fun c t y ht e=>e4 _ _ (fun hc=>by rw [hc,n] at e;cases e) (k3 _ _ _ (fun hc=>ht (by simp [hc])) (k1 _ _ _ ht e))⟩
theorem Tick_any {h:Heap} {p o oo:Nat} {c:CoreM} (ap:Apart o oo) (k:PCore h p o oo c) (ok:COk c) (draw:Int) :
  ACalls PR 24 #[Ptr p,I draw] h (fun v h'=>(draw<0∧v = .tuple #[.agg (outCells out0 ox0).toArray,I 2]∧Sub h h')∨(0≤draw∧∃ u,v = .tuple #[u,I 0]∧Told p o oo (c.tick draw) h u h')):=by
 have hout:=ok.out
 have hes:=ok.es
 have hb1:=ok.b1
 have hb2:=ok.b2
 obtain ⟨x,k0⟩:=k
 refine As mix Tryz.func24 rfl rfl Tryz.ntmps24 Tryz.results24 rfl ?_;conv=>whnf
 refine Ak (0,1) (outCells out0 ox0) rfl fun b4 h1 n1 s1 k1=>?_;conv=>whnf
 have k:=k0.sub s1
 refine C2 (none_core k) ?_;conv=>whnf
 by_cases c0:draw<0
 ·refine Ac (c0) ?_;conv=>whnf
  refine Ae rfl rfl rfl (k1) rfl (outCells out0 ox0) rfl fun h2 t2 k2 a2 e2=>?_;conv=>whnf
  refine Ab rfl k2 rfl rfl ?_;conv=>whnf
  exact .inl ⟨c0,rfl,a2 h s1 n1⟩
 refine Ad (c0) ?_;conv=>whnf
 have kb:∀ {h':Heap},Keeps [o,o+1,oo] h1 h'→h' b4=some (row (0,1) (outCells out0 ox0) 65):=fun kk=>kk _ _ _ (by have:=ap.c;have:=ap.d;simp;omega) k1
 refine Aa rfl k.str rfl ?_;conv=>whnf
 unfold CoreM.tick
 by_cases c1:c.state=2
 ·refine Ac (c1) ?_;conv=>whnf
  rw [if_pos c1]
  refine Aa rfl k.str rfl ?_;conv=>whnf
  refine Ag (by omega) (by omega) (rfl) ?_;conv=>whnf
  refine AStore.oneTo rfl rfl rfl (k.str) rfl (coreCells {c with beat:=c.beat-1} x) rfl ?_;conv=>whnf
  have k2:=k.set ap.a {c with beat:=c.beat-1} x
  have kk2:=k.setKeep (coreCells {c with beat:=c.beat-1} x)
  generalize h1.set p (row (o,0) (coreCells {c with beat:=c.beat-1} x) 81)=h2 at k2 kk2 ⊢
  refine Aa rfl k2.str rfl ?_;conv=>whnf
  by_cases c2:c.beat-1=0
  ·refine Ac (c2) ?_;conv=>whnf
   rw [if_pos c2]
   refine AStore.oneTo rfl rfl rfl (k2.str) rfl (coreCells {c with beat:=2} x) rfl ?_;conv=>whnf
   have k3:=k2.set ap.a {c with beat:=2} x
   have kk3:=k2.setKeep (coreCells {c with beat:=2} x)
   generalize h2.set p (row (o,0) (coreCells {c with beat:=2} x) 81)=h3 at k3 kk3 ⊢
   refine ACalls.mono (sendAll_any ap ⟨_,k3⟩ (ok.lk.same rfl rfl) ok.nk (by rw [show ({c with beat:=2}:CoreM).out=c.out from rfl,hout];simp [out0])) ?_;rintro _ h4 ⟨rfl,k4,kk4⟩;conv=>whnf
   have KK:Keeps [o,o+1,oo] h1 h4:=((kk2.trans kk3).keeps (by simp)).trans (kk4.mono (by simp))
   refine ACalls.mono (done_any ap.a ap.c ap.d k4) ?_;rintro _ h5 ⟨ox,rfl,o5,q5,kk5⟩;conv=>whnf
   refine Ae rfl rfl rfl ((kk5.get (Ne.symm ap.c) (kb KK))) rfl (outCells _ ox) rfl fun h6 t6 k6 a6 e6=>?_;conv=>whnf
   refine Ab rfl k6 rfl rfl ?_;conv=>whnf
   exact .inr ⟨by omega,_,rfl,told_end ap n1 ((s1.keeps _).trans KK) kk5 o5 q5 t6 e6⟩
  ·refine Ad (c2) ?_;conv=>whnf
   rw [if_neg c2]
   have KK:Keeps [o,o+1,oo] h1 h2:=kk2.keeps (by simp)
   refine ACalls.mono (done_any ap.a ap.c ap.d ⟨_,k2⟩) ?_;rintro _ h5 ⟨ox,rfl,o5,q5,kk5⟩;conv=>whnf
   refine Ae rfl rfl rfl ((kk5.get (Ne.symm ap.c) (kb KK))) rfl (outCells _ ox) rfl fun h6 t6 k6 a6 e6=>?_;conv=>whnf
   refine Ab rfl k6 rfl rfl ?_;conv=>whnf
   exact .inr ⟨by omega,_,rfl,told_end ap n1 ((s1.keeps _).trans KK) kk5 o5 q5 t6 e6⟩
 ·refine Ad (c1) ?_;conv=>whnf
  rw [if_neg c1]
  have hq1:=ok.q1
  have hq2:=ok.q2
  have hw1:=ok.w1
  have hw2:=ok.w2
  refine Aa rfl k.str rfl ?_;conv=>whnf
  refine Ag (by omega) (by omega) (rfl) ?_;conv=>whnf
  refine Aq (rfl) ?_;conv=>whnf
  obtain ⟨q,hq⟩:∃ q,q=if 10<c.quiet+1 then 10 else c.quiet+1:=⟨_,rfl⟩
  rw [← hq]
  simp only []
  refine AStore.oneTo rfl rfl rfl (k.str) rfl (coreCells {c with quiet:=q} x) rfl ?_;conv=>whnf
  refine Aa rfl (Heap.set_same _ _ _) rfl ?_;conv=>whnf
  refine Ag (r':=c.wait-1) (by simp only [];omega) (by simp only [];omega) rfl ?_;conv=>whnf
  refine AStore.oneTo rfl rfl rfl ((Heap.set_same _ _ _)) rfl (coreCells {c with quiet:=q,wait:=c.wait-1} x) rfl ?_;conv=>whnf
  rw [Heap.set_set]
  have k2:=k.set ap.a {c with quiet:=q,wait:=c.wait-1} x
  have kk2:=k.setKeep (coreCells {c with quiet:=q,wait:=c.wait-1} x)
  generalize h1.set p (row (o,0) (coreCells {c with quiet:=q,wait:=c.wait-1} x) 81)=h2 at k2 kk2 ⊢
  refine Aa rfl k2.str rfl ?_;conv=>whnf
  by_cases c2:c.wait-1=0
  ·refine Ac (c2) ?_;conv=>whnf
   rw [if_pos c2]
   refine C2 (waits_any _ draw (by omega)) ?_;conv=>whnf
   refine AStore.oneTo rfl rfl rfl (k2.str) rfl (coreCells {c with quiet:=q,wait:=waits draw} x) rfl ?_;conv=>whnf
   have k3:=k2.set ap.a {c with quiet:=q,wait:=waits draw} x
   have kk3:=k2.setKeep (coreCells {c with quiet:=q,wait:=waits draw} x)
   generalize h2.set p (row (o,0) (coreCells {c with quiet:=q,wait:=waits draw} x) 81)=h3 at k3 kk3 ⊢
   refine ACalls.mono (stand_any ap ⟨_,k3⟩ (ok.lk.same rfl rfl) ok.s1 ok.s2 ok.t1 ok.t2 (by simp only [];omega) (by simp only [];rw [hout];simp [out0]) (by simp only [];rw [hout];simp [out0])) ?_;rintro _ h4 ⟨rfl,k4,kk4⟩;conv=>whnf
   have KK:Keeps [o,o+1,oo] h1 h4:=((kk2.trans kk3).keeps (by simp)).trans kk4
   refine ACalls.mono (done_any ap.a ap.c ap.d k4) ?_;rintro _ h5 ⟨ox,rfl,o5,q5,kk5⟩;conv=>whnf
   refine Ae rfl rfl rfl ((kk5.get (Ne.symm ap.c) (kb KK))) rfl (outCells _ ox) rfl fun h6 t6 k6 a6 e6=>?_;conv=>whnf
   refine Ab rfl k6 rfl rfl ?_;conv=>whnf
   exact .inr ⟨by omega,_,rfl,told_end ap n1 ((s1.keeps _).trans KK) kk5 o5 q5 t6 e6⟩
  ·refine Ad (c2) ?_;conv=>whnf
   rw [if_neg c2]
   have KK:Keeps [o,o+1,oo] h1 h2:=kk2.keeps (by simp)
   refine ACalls.mono (done_any ap.a ap.c ap.d ⟨_,k2⟩) ?_;rintro _ h5 ⟨ox,rfl,o5,q5,kk5⟩;conv=>whnf
   refine Ae rfl rfl rfl ((kk5.get (Ne.symm ap.c) (kb KK))) rfl (outCells _ ox) rfl fun h6 t6 k6 a6 e6=>?_;conv=>whnf
   refine Ab rfl k6 rfl rfl ?_;conv=>whnf
   exact .inr ⟨by omega,_,rfl,told_end ap n1 ((s1.keeps _).trans KK) kk5 o5 q5 t6 e6⟩
end Go.Ah
