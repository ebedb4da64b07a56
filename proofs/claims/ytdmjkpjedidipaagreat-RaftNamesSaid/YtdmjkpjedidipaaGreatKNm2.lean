/- Texts that the law leans on, one behind the other. -/
import Derived.Test.YtdmjkpjedidipaaGreatKNm1
namespace Go.Ah
open Go.Proofs
set_option linter.unusedVariables false
set_option linter.unusedSimpArgs false
set_option maxRecDepth 20000
set_option maxHeartbeats 16000000
def isNum (n:Int):Bool:=decide (1≤n∧n≤9007199254740991)
theorem number_any (n:Int) (h:Heap):ACalls PR 152 #[I n] h (fun v h'=>v = .bool (isNum n)∧h=h'):=by
 refine Ar (As mix Tryz.func152 rfl rfl Tryz.ntmps152 Tryz.results152 rfl ?_);conv=>whnf
 refine ACmp.split (fun h1=>?_) (fun h1=>?_)
 ·conv=>whnf
  refine ACmp.dec ?_
  conv=>whnf
  exact ⟨by simp [isNum,h1],Sub.refl _⟩
 ·conv=>whnf
  exact ⟨by simp [isNum,h1],Sub.refl _⟩
theorem none_any (h:Heap) (p:Nat) (tg:Tag) (b:Bool) (r:List Value) (hp:h p=some (row tg (.bool b::r) 158)):ACalls PR 113 #[.pointer (some ⟨p,0,none⟩)] h (fun v h'=>v = .bool (!b)∧h=h'):=by
 refine Ar (As mix Tryz.func113 rfl rfl Tryz.ntmps113 Tryz.results113 rfl ?_);conv=>whnf
 refine Aa rfl hp rfl ?_;conv=>whnf
 exact ⟨rfl,Sub.refl _⟩
theorem Own.sub {h h':Heap} {t:Tag} {E:TypeId} {a:Option Addr} {n cap z:Nat} {cs:List Value} (s:Own h t E a n cap z cs) (k:Sub h h'):Own h' t E a n cap z cs:=s.move fun _ _ e=>k _ _ e
structure EH where
  term:Int
  index:Int
  kind:Int
  a:Option Addr
  n:Nat
  c:Nat
  data:List Int
def EH.cells (e:EH):List Value:=[I e.term,I e.index,I e.kind, .slice e.a e.n e.c]
def bytesV (l:List Int):List Value:=l.map (.int .u8)
def EH.Good (h:Heap) (t:Tag) (e:EH):Prop:=Sl h t e.a e.n e.c 1 (bytesV e.data)
def EH.Mine (h:Heap) (t:Tag) (e:EH):Prop:=Own h t 5 e.a e.n e.c 1 (bytesV e.data)
def EH.abs (e:EH):Int×Int×Int×List Int:=(e.term,e.index,e.kind,e.data)
def encs (es:List EH):List Value:=es.flatMap EH.cells
theorem EH.Good.len {h:Heap} {t:Tag} {e:EH} (g:e.Good h t):e.data.length=e.n:=by
 have:=Sl.len g
 simpa [bytesV] using this
theorem encs_length:∀ es:List EH,(encs es).length=es.length*4
 | []=>rfl
 | e::es=>by
  have:=encs_length es
  simp only [encs,List.flatMap_cons,List.length_append,List.length_cons] at this ⊢
  rw [this];simp [EH.cells];omega
theorem encs_drop:∀ (es:List EH) (k:Nat),(encs es).drop (k*4)=encs (es.drop k)
 | es,0=>by simp
 | [],k+1=>by simp [encs]
 | e::es,k+1=>by
  have:=encs_drop es k
  rw [List.drop_succ_cons,← this,Nat.add_mul,Nat.add_comm,← List.drop_drop]
  rfl
theorem encs_take:∀ (es:List EH) (k:Nat),(encs es).take (k*4)=encs (es.take k)
 | es,0=>by simp [encs]
 | [],k+1=>by simp [encs]
 | e::es,k+1=>by
  have:=encs_take es k
  rw [List.take_succ_cons]
  simp only [encs,List.flatMap_cons] at this ⊢
  rw [show (k+1)*4=e.cells.length+k*4 by simp [EH.cells];omega,List.take_length_add_append,this]
theorem encs_append (x y:List EH):encs (x++y)=encs x++encs y:=by simp [encs]
theorem encs_part {es:List EH} {k:Nat} {e:EH} (h:es[k]? = some e):((encs es).drop (k*4)).take 4=e.cells:=by
 rw [encs_drop]
 have hd:es.drop k=e::es.drop (k+1):=by
  have hk:=(List.getElem?_eq_some_iff.1 h)
  obtain ⟨hk,rfl⟩:=hk
  exact List.drop_eq_getElem_cons hk
 rw [hd]
 rfl
theorem encs_get {es:List EH} {k j:Nat} {e:EH} (h:es[k]? = some e) (hj:j<4):(encs es)[k*4+j]? = e.cells[j]? := by
 have:=encs_part h
 rw [← this,List.getElem?_take,if_pos hj,List.getElem?_drop]
def lastM (bi bt:Int) (es:List EH):Int×Int:=match es.getLast? with
  | some e=>(e.index,e.term)
  | none=>(bi,bt)
structure LedAt (h:Heap) (p o:Nat) (bi bt:Int) (es:List EH) (a:Option Addr) (cap:Nat):Prop where
  str:h p=some (row (o,0) [.bool true,I bi,I bt, .slice a es.length cap] 158)
  own:Own h (o,1) 59 a es.length cap 4 (encs es)
  good:∀ e∈es,e.Good h (o,2)
  small:∀ e∈es,e.n≤1200
theorem last_any (h:Heap) (p o:Nat) (bi bt:Int) (es:List EH) (a:Option Addr) (cap:Nat) (L:LedAt h p o bi bt es a cap) (hlen:es.length≤9007199254740992) :
  ACalls PR 114 #[.pointer (some ⟨p,0,none⟩)] h (fun v h'=>v = .agg #[I (lastM bi bt es).1,I (lastM bi bt es).2]∧h=h'):=by
 have hp:=L.str
 refine Ar (As mix Tryz.func114 rfl rfl Tryz.ntmps114 Tryz.results114 rfl ?_);conv=>whnf
 refine AAlloc.mk (0,1) rfl fun r hr=>?_;conv=>whnf
 refine Aa rfl (hr.sub _ _ _ hp) rfl ?_;conv=>whnf
 by_cases hn:es.length=0
 ·have h0:es=[]:=List.eq_nil_of_length_eq_zero hn
  subst h0
  refine Ad (by simp) ?_;conv=>whnf
  refine Ab rfl (hr.sub _ _ _ hp) rfl rfl ?_;conv=>whnf
  refine AStore.agg' rfl rfl rfl (Heap.set_same _ _ _) rfl ?_;conv=>whnf
  refine Ab rfl (Heap.set_same _ _ _) rfl rfl ?_;conv=>whnf
  refine ⟨rfl,?_⟩
  rw [Heap.set_set]
  exact hr.sub _
 ·refine Ac (by omega) ?_;conv=>whnf
  obtain ⟨k,hk⟩:∃ k,es.length=k+1:=⟨es.length-1,by omega⟩
  obtain ⟨e,he⟩:∃ e,es[k]? = some e:=⟨es[k],by simp [hk]⟩
  have hlast:es.getLast? = some e:=by rw [List.getLast?_eq_getElem?,hk];exact he
  obtain ⟨b,off,l,E,fz,rfl,hb,hc⟩:=L.own.sl.pos (by omega)
  have g0:l[off+k*4+0]? = some (I e.term):=by
   rw [Nat.add_assoc,get_of_take hc (by omega),encs_get he (by omega)];rfl
  have g1:l[off+k*4+1]? = some (I e.index):=by
   rw [Nat.add_assoc,get_of_take hc (by omega),encs_get he (by omega)];rfl
  refine Am (h.set r (row (0,1) [I 0,I 0] 146)) [19] (Sub.refl _) (by decide +kernel) ?_;conv=>whnf
  refine Aa rfl (hr.sub _ _ _ hp) rfl ?_;conv=>whnf
  refine Ag (by omega) (by omega) (rfl) ?_;conv=>whnf
  refine Ai (j:=k) (by omega) (by omega) rfl rfl ?_;conv=>whnf
  refine Aa rfl (hr.sub _ _ _ hb) g1 ?_
  refine Aa rfl (hr.sub _ _ _ hp) rfl ?_;conv=>whnf
  refine Ag (by omega) (by omega) (rfl) ?_;conv=>whnf
  refine Ai (j:=k) (by omega) (by omega) rfl rfl ?_;conv=>whnf
  refine Aa rfl (hr.sub _ _ _ hb) g0 ?_;conv=>whnf
  refine AStore.agg' rfl rfl rfl (Heap.set_same _ _ _) rfl ?_;conv=>whnf
  refine Ab rfl (Heap.set_same _ _ _) rfl rfl ?_;conv=>whnf
  refine ⟨by simp [lastM,hlast],?_⟩
  rw [Heap.set_set]
  exact hr.sub _
def bring (i n:Int):Int:=if n≤0 then 0 else if i.tmod n<0 then i.tmod n+n else i.tmod n
theorem bring_lo (i n:Int):0≤bring i n:=by
 unfold bring
 split
 ·omega
 ·rename_i h
  have:=Int.lt_tmod_of_pos i (show 0<n by omega)
  split <;> omega
theorem bring_hi {i n:Int} (h:0<n):bring i n<n:=by
 unfold bring
 have h1:=Int.tmod_lt_of_pos i h
 split
 ·omega
 ·split <;> omega
theorem bring_any (i n:Int) (hn:n≤9223372036854775807) (h:Heap):ACalls PR 11 #[I i,I n] h (fun v h'=>v=I (bring i n)∧h=h'):=by
 refine Ar (As mix Tryz.func11 rfl rfl Tryz.ntmps11 Tryz.results11 rfl ?_);conv=>whnf
 by_cases h0:n≤0
 ·refine Ac (h0) ?_;conv=>whnf
  exact ⟨by simp [bring,h0],Sub.refl _⟩
 ·refine Ad (h0) ?_;conv=>whnf
  have h1:=Int.tmod_lt_of_pos i (show 0<n by omega)
  have h2:=Int.lt_tmod_of_pos i (show 0<n by omega)
  refine ⟨by omega,?_⟩
  refine Aq (rfl) ?_;conv=>whnf
  by_cases hneg:i.tmod n<0
  ·refine Ac (hneg) ?_;conv=>whnf
   refine Ag (by omega) (by omega) (rfl) ?_;conv=>whnf
   exact ⟨by simp [bring,h0,hneg],Sub.refl _⟩
  ·refine Ad (hneg) ?_;conv=>whnf
   exact ⟨by simp [bring,h0,hneg],Sub.refl _⟩
theorem bytesV_get {xs:List Int} {k:Nat} (hk:k<xs.length):(bytesV xs)[k]? = some (.int .u8 xs[k]):=by simp [bytesV,hk]
theorem eqBytes_any (h:Heap) {t1 t2:Tag} {a1 a2:Option Addr} {n1 n2 c1 c2:Nat} {xs ys:List Int} (s1:Sl h t1 a1 n1 c1 1 (bytesV xs)) (s2:Sl h t2 a2 n2 c2 1 (bytesV ys)) (hn:n1≤4611686018427387904) :
  ACalls PR 50 #[.slice a1 n1 c1, .slice a2 n2 c2] h (fun v h'=>v = .bool (decide (xs=ys))∧h=h'):=by
 have l1:xs.length=n1:=by have:=s1.len;simpa [bytesV] using this
 have l2:ys.length=n2:=by have:=s2.len;simpa [bytesV] using this
 refine Ar (As mix Tryz.func50 rfl rfl Tryz.ntmps50 Tryz.results50 rfl ?_);conv=>whnf
 by_cases hl:n1=n2
 ·refine Ad (by omega) ?_;conv=>whnf
  refine ALoop.mk (fun e h'=>h=h'∧∃ e0,∃ k:Nat,e=updL 26 e0 [(0, .slice a1 n1 c1),(1, .slice a2 n2 c2),(5,I k)]∧k≤n1∧xs.take k=ys.take k)
   (fun e=>n1-natOf (e 5)) ⟨rfl,_,0,Au ⟨rfl,rfl,rfl,trivial⟩,by omega,by simp⟩ ?_
  rintro e h' ⟨rfl,e0,k,rfl,hk,he⟩
  conv=>whnf
  by_cases hkn:k<n1
  ·refine Ac (by omega) ?_;conv=>whnf
   obtain ⟨b,off,l,E,fz,rfl,hb,hc⟩:=s1.pos (by omega)
   obtain ⟨b',off',l',E',fz',rfl,hb',hc'⟩:=s2.pos (by omega)
   have g:l[off+k*1]? = some (.int .u8 (xs[k]'(by omega))):=by rw [get_of_take hc (by omega),Nat.mul_one,bytesV_get (by omega)]
   have g':l'[off'+k*1]? = some (.int .u8 (ys[k]'(by omega))):=by rw [get_of_take hc' (by omega),Nat.mul_one,bytesV_get (by omega)]
   refine Am (_) [] (Sub.refl _) (by decide +kernel) ?_;conv=>whnf
   refine Ai rfl hkn rfl rfl ?_;conv=>whnf
   refine Aa rfl hb g ?_;conv=>whnf
   refine Ai rfl (by omega) rfl rfl ?_;conv=>whnf
   refine Aa rfl hb' g' ?_;conv=>whnf
   by_cases hx:xs[k]'(by omega)=ys[k]'(by omega)
   ·refine Ad (by simpa using hx) ?_;conv=>whnf
    refine Ag (by omega) (by omega) ((by omega:(k:Int)+1=((k+1:Nat):Int))) ?_;conv=>whnf
    refine ⟨⟨rfl,_,k+1,Au ⟨rfl,rfl,rfl,trivial⟩,by omega,?_⟩,?_⟩
    ·rw [List.take_succ_eq_append_getElem (by omega),List.take_succ_eq_append_getElem (by omega),he,hx]
    ·show n1-(k+1)<n1-k
     omega
   ·refine Ac (by simpa using hx) ?_;conv=>whnf
    refine ⟨?_,Sub.refl _⟩
    have:xs≠ys:=by rintro rfl;exact hx rfl
    simp [this]
  ·refine Ad (by omega) ?_;conv=>whnf
   obtain rfl:k=n1:=by omega
   refine ⟨?_,Sub.refl _⟩
   have:xs=ys:=by
    have e1:xs.take k=xs:=List.take_of_length_le (by omega)
    have e2:ys.take k=ys:=List.take_of_length_le (by omega)
    rw [← e1,← e2,he]
   simp [this]
 ·refine Ac (by omega) ?_;conv=>whnf
  refine ⟨?_,Sub.refl _⟩
  have:xs≠ys:=by rintro rfl;exact hl (by omega)
  simp [this]
abbrev EH.val (e:EH):Value := .agg #[I e.term,I e.index,I e.kind, .slice e.a e.n e.c]
structure Ents (h:Heap) (t td:Tag) (a:Option Addr) (n c:Nat) (es:List EH):Prop where
  sl:Sl h t a n c 4 (encs es)
  good:∀ e∈es,e.Good h td
  small:∀ e∈es,e.n≤4611686018427387904
theorem Ents.len {h:Heap} {t td:Tag} {a:Option Addr} {n c:Nat} {es:List EH} (s:Ents h t td a n c es):es.length=n:=by
 have:=s.sl.len
 rw [encs_length] at this;omega
theorem Ents.sub {h h':Heap} {t td:Tag} {a:Option Addr} {n c:Nat} {es:List EH} (s:Ents h t td a n c es) (k:Sub h h'):Ents h' t td a n c es :=
 ⟨s.sl.sub k,fun e he=>Sl.sub (s.good e he) k,s.small⟩
theorem oneCell_bytes (xs:List Int):(bytesV xs).all oneCell=true:=by
 simp [bytesV,oneCell]
theorem cloneB_any (h:Heap) (tg:Tag) {t:Tag} {a:Option Addr} {n c:Nat} {xs:List Int} (s:Sl h t a n c 1 (bytesV xs)) (hn:n≤140737488355328) :
  ACalls PR 117 #[.slice a n c] h (fun v h'=>∃ a' c',v = .slice a' n c'∧Own h' tg 5 a' n c' 1 (bytesV xs)∧Sub h h'):=by
 refine As mix Tryz.func117 rfl rfl Tryz.ntmps117 Tryz.results117 rfl ?_;conv=>whnf
 cases a with
 | none =>
  have hn0:n=0:=by
   rcases Nat.eq_zero_or_pos n with h0 | h0
   ·exact h0
   ·obtain ⟨b,off,l,E,fz,e,_⟩:=s.pos h0
    cases e
  subst hn0
  have:bytesV xs=[]:=List.eq_nil_of_length_eq_zero (by rw [s.len])
  conv=>whnf
  exact ⟨none,0,rfl,by rw [this];exact .inl ⟨rfl,rfl,rfl⟩,Sub.refl _⟩
 | some ad =>
  conv=>whnf
  refine ABuildSl.empty tg rfl rfl fun b fb=>?_;conv=>whnf
  refine AAppend.own (t:=tg) (E:=5) (z:=1) (by_:=1) (zero:=[.int .u8 0]) (cs:=[]) rfl ⟨_,rfl⟩ rfl rfl rfl rfl (by omega) (.inl ⟨rfl,rfl,rfl⟩) (s.sub (fb.sub _)) (oneCell_bytes _) (by omega) (by omega) fun a' c' h' ho hk hsub=>?_
  conv=>whnf
  refine ⟨a',c',?_,?_,(fb.sub _).trans (hsub rfl)⟩
  ·show Value.slice a' (0+n) c'=_
   rw [Nat.zero_add]
  ·rw [Nat.zero_add] at ho
   exact ho
theorem own_any (h:Heap) (tg:Tag) (ht:tg≠(0,1)) {t:Tag} (e:EH) (g:e.Good h t) (hn:e.n≤140737488355328) :
  ACalls PR 145 #[e.val] h (fun v h'=>∃ a' c',v = .agg #[I e.term,I e.index,I e.kind, .slice a' e.n c']∧Own h' tg 5 a' e.n c' 1 (bytesV e.data)∧Sub h h'):=by
 refine As mix Tryz.func145 rfl rfl Tryz.ntmps145 Tryz.results145 rfl ?_;conv=>whnf
 refine ABox.mk (0,1) rfl fun b1 f1=>?_;conv=>whnf
 refine AAlloc.mk (0,1) rfl fun b2 f2=>?_;conv=>whnf
 have s1:=f1.sub (row (0,1) [I e.term,I e.index,I e.kind, .slice e.a e.n e.c] 59)
 have s2:=s1.trans (f2.sub (row (0,1) [I 0,I 0,I 0, .slice none 0 0] 59))
 have k1:=f2.sub (row (0,1) [I 0,I 0,I 0, .slice none 0 0] 59) _ _ (Heap.set_same h b1 (row (0,1) [I e.term,I e.index,I e.kind, .slice e.a e.n e.c] 59))
 have k2:=Heap.set_same (h.set b1 (row (0,1) [I e.term,I e.index,I e.kind, .slice e.a e.n e.c] 59)) b2 (row (0,1) [I 0,I 0,I 0, .slice none 0 0] 59)
 have h12:b1≠b2:=f2.ne (Heap.set_same h b1 (row (0,1) [I e.term,I e.index,I e.kind, .slice e.a e.n e.c] 59))
 refine Aa rfl k1 rfl ?_;conv=>whnf
 refine ACalls.mono (cloneB_any _ tg (Sl.sub g s2) hn) ?_
 rintro v h' ⟨a',c',rfl,hsl,hsub⟩
 conv=>whnf
 have k1':=hsub _ _ k1
 have k2':=hsub _ _ k2
 refine AStore.one' rfl rfl rfl k1' rfl ?_;conv=>whnf
 refine Ab rfl (Heap.set_same _ _ _) rfl rfl ?_;conv=>whnf
 refine AStore.agg' rfl rfl rfl (Heap.set_ne (Ne.symm h12) k2') rfl ?_;conv=>whnf
 refine Ab rfl (Heap.set_same _ _ _) rfl rfl ?_;conv=>whnf
 refine ⟨a',c',rfl,?_,((s2.trans hsub).set f1.none _).set (f2.none' s1) _⟩
 exact (hsl.keepT (KeepT.set k1') ht).keepT (KeepT.set (Heap.set_ne (Ne.symm h12) k2')) ht
def b8 (x:Int):Int:=IntKind.u8.wrap x
structure Seq (bi:Int) (es:List EH):Prop where
  idx:∀ (k:Nat) (e:EH),es[k]? = some e→e.index=bi+1+k
  lo:0≤bi
  top:bi+es.length≤9007199254740991
theorem Seq.last {bi bt:Int} {es:List EH} (s:Seq bi es):(lastM bi bt es).1=bi+es.length:=by
 unfold lastM
 cases hn:es.length with
 | zero=>have:es=[]:=List.eq_nil_of_length_eq_zero hn;subst this;simp
 | succ n =>
  obtain ⟨e,he⟩:∃ e,es[n]? = some e:=⟨es[n]'(by omega),by simp [hn]⟩
  have hl:es.getLast? = some e:=by rw [List.getLast?_eq_getElem?,hn];exact he
  rw [hl]
  have:=s.idx n _ he
  simp only [this];omega
theorem Last_any {h:Heap} {p o:Nat} {bi bt:Int} {es:List EH} {a:Option Addr} {cap:Nat} (L:LedAt h p o bi bt es a cap) (hlen:es.length≤9007199254740992) :
  ACalls PR 51 #[.pointer (some ⟨p,0,none⟩)] h (fun v h'=>v = .tuple #[I (lastM bi bt es).1,I (lastM bi bt es).2]∧h=h'):=by
 refine Ar (As mix Tryz.func51 rfl rfl Tryz.ntmps51 Tryz.results51 rfl ?_);conv=>whnf
 refine C2 (none_any _ p _ _ _ L.str) ?_;conv=>whnf
 refine C2 (last_any _ p o bi bt es a cap L hlen) ?_;conv=>whnf
 refine AAlloc.mk (0,1) rfl fun b1 f1=>?_;conv=>whnf
 refine AStore.agg' rfl rfl rfl (Heap.set_same _ _ _) rfl ?_;conv=>whnf
 refine Am (_) [] (Sub.refl _) (by decide +kernel) ?_;conv=>whnf
 refine Aa rfl (Heap.set_same _ _ _) rfl ?_
 refine Aa rfl (Heap.set_same _ _ _) rfl ?_;conv=>whnf
 refine ⟨rfl,?_⟩
 exact (f1.sub _).set f1.none _
theorem First_any {h:Heap} {p o:Nat} {bi bt:Int} {es:List EH} {a:Option Addr} {cap:Nat} (L:LedAt h p o bi bt es a cap) (h0:0≤bi) (h1:bi≤9007199254740991) :
  ACalls PR 142 #[.pointer (some ⟨p,0,none⟩)] h (fun v h'=>v=I (bi+1)∧h=h'):=by
 refine Ar (As mix Tryz.func142 rfl rfl Tryz.ntmps142 Tryz.results142 rfl ?_);conv=>whnf
 refine C2 (none_any _ p _ _ _ L.str) ?_;conv=>whnf
 refine Aa rfl L.str rfl ?_;conv=>whnf
 refine Ag (by omega) (by omega) (rfl) ?_;conv=>whnf
 exact ⟨rfl,Sub.refl _⟩
def atR (bi:Int) (len:Nat) (i:Int) (fin:Bool):Int×Int :=
  if bi<i∧i≤bi+len+(if fin=true then 1 else 0) then (i-bi-1,0) else (0,9)
theorem at_any {h:Heap} {p o:Nat} {bi bt:Int} {es:List EH} {a:Option Addr} {cap:Nat} (L:LedAt h p o bi bt es a cap) (S:Seq bi es) (i:Int) (fin:Bool) :
  ACalls PR 143 #[.pointer (some ⟨p,0,none⟩),I i, .bool fin] h (fun v h'=>v = .tuple #[I (atR bi es.length i fin).1,I (atR bi es.length i fin).2]∧h=h'):=by
 have hlast:=S.last (bt:=bt)
 have h0:=S.lo
 have h1:=S.top
 refine Ar (As mix Tryz.func143 rfl rfl Tryz.ntmps143 Tryz.results143 rfl ?_);conv=>whnf
 refine C2 (none_any _ p _ _ _ L.str) ?_;conv=>whnf
 refine C2 (last_any _ p o bi bt es a cap L (by omega)) ?_;conv=>whnf
 cases fin with
 | false =>
  conv=>whnf
  refine Aa rfl L.str rfl ?_;conv=>whnf
  by_cases c1:i≤bi
  ·refine Ac (c1) ?_;conv=>whnf
   exact ⟨by rw [atR,if_neg (by omega)],Sub.refl _⟩
  ·refine Ad (c1) ?_;conv=>whnf
   by_cases c2:bi+es.length<i
   ·refine Ac (by rw [hlast];exact c2) ?_;conv=>whnf
    exact ⟨by rw [atR,if_neg (by simp;omega)],Sub.refl _⟩
   ·refine Ad (by rw [hlast];exact c2) ?_;conv=>whnf
    refine Aa rfl L.str rfl ?_;conv=>whnf
    refine Ag (by omega) (by omega) (rfl) ?_;conv=>whnf
    refine Ag (by omega) (by omega) (rfl) ?_;conv=>whnf
    exact ⟨by rw [atR,if_pos (by simp;omega)],Sub.refl _⟩
 | true =>
  conv=>whnf
  refine Ag (by omega) (by omega) (rfl) ?_;conv=>whnf
  refine Aa rfl L.str rfl ?_;conv=>whnf
  by_cases c1:i≤bi
  ·refine Ac (c1) ?_;conv=>whnf
   exact ⟨by rw [atR,if_neg (by omega)],Sub.refl _⟩
  ·refine Ad (c1) ?_;conv=>whnf
   by_cases c2:bi+es.length+1<i
   ·refine Ac (by rw [hlast];exact c2) ?_;conv=>whnf
    exact ⟨by rw [atR,if_neg (by simp;omega)],Sub.refl _⟩
   ·refine Ad (by rw [hlast];exact c2) ?_;conv=>whnf
    refine Aa rfl L.str rfl ?_;conv=>whnf
    refine Ag (by omega) (by omega) (rfl) ?_;conv=>whnf
    refine Ag (by omega) (by omega) (rfl) ?_;conv=>whnf
    exact ⟨by rw [atR,if_pos (by simp;omega)],Sub.refl _⟩
def chk (e:EH) (m:Int×Int):Int :=
  if isNum e.term=false∨isNum e.index=false∨e.kind<0∨2<e.kind∨1200<e.n then 2 else if e.index≠m.1+1 then 170 else if e.term<m.2 then 2 else 0
theorem check_any (h:Heap) (e:EH) (m:Int×Int) (h0:0≤m.1) (h1:m.1≤9007199254740992) :
  ACalls PR 153 #[e.val, .agg #[I m.1,I m.2]] h (fun v h'=>v=I (chk e m)∧h=h'):=by
 refine Ar (As mix Tryz.func153 rfl rfl Tryz.ntmps153 Tryz.results153 rfl ?_);conv=>whnf
 refine ABox.mk (0,1) rfl fun b1 f1=>?_;conv=>whnf
 refine ABox.mk (0,1) rfl fun b2 f2=>?_;conv=>whnf
 have s1:=f1.sub (row (0,1) [I e.term,I e.index,I e.kind, .slice e.a e.n e.c] 59)
 have s2:=s1.trans (f2.sub (row (0,1) [I m.1,I m.2] 146))
 have k1:=f2.sub (row (0,1) [I m.1,I m.2] 146) _ _ (Heap.set_same h b1 (row (0,1) [I e.term,I e.index,I e.kind, .slice e.a e.n e.c] 59))
 have k2:=Heap.set_same (h.set b1 (row (0,1) [I e.term,I e.index,I e.kind, .slice e.a e.n e.c] 59)) b2 (row (0,1) [I m.1,I m.2] 146)
 refine Aa rfl k1 rfl ?_;conv=>whnf
 refine C2 (number_any e.term _) ?_;conv=>whnf
 have wrong:∀ (c:isNum e.term=false∨isNum e.index=false∨e.kind<0∨2<e.kind∨1200<e.n),I 2=I (chk e m)∧Sub h ((h.set b1 (row (0,1) [I e.term,I e.index,I e.kind, .slice e.a e.n e.c] 59)).set b2 (row (0,1) [I m.1,I m.2] 146)) :=
  fun c=>⟨by rw [chk,if_pos c],s2⟩
 cases c1:isNum e.term with
 | false =>
  conv=>whnf
  exact wrong (.inl c1)
 | true =>
  conv=>whnf
  refine Aa rfl k1 rfl ?_;conv=>whnf
  refine C2 (number_any e.index _) ?_;conv=>whnf
  cases c2:isNum e.index with
  | false =>
   conv=>whnf
   exact wrong (.inr (.inl c2))
  | true =>
   conv=>whnf
   refine Aa rfl k1 rfl ?_;conv=>whnf
   by_cases c3:e.kind<0
   ·refine Ac (c3) ?_;conv=>whnf
    exact wrong (.inr (.inr (.inl c3)))
   ·refine Ad (c3) ?_;conv=>whnf
    refine Aa rfl k1 rfl ?_;conv=>whnf
    by_cases c4:2<e.kind
    ·refine Ac (c4) ?_;conv=>whnf
     exact wrong (.inr (.inr (.inr (.inl c4))))
    ·refine Ad (c4) ?_;conv=>whnf
     refine Aa rfl k1 rfl ?_;conv=>whnf
     by_cases c5:1200<e.n
     ·refine Ac (by omega) ?_;conv=>whnf
      exact wrong (.inr (.inr (.inr (.inr c5))))
     ·refine Ad (by omega) ?_;conv=>whnf
      have hno:¬ (isNum e.term=false∨isNum e.index=false∨e.kind<0∨2<e.kind∨1200<e.n):=by
       rintro (c | c | c | c | c)
       ·rw [c1] at c;cases c
       ·rw [c2] at c;cases c
       ·exact c3 c
       ·exact c4 c
       ·exact c5 c
      refine Aa rfl k1 rfl ?_
      refine Aa rfl k2 rfl ?_;conv=>whnf
      refine Ag (by omega) (by omega) (rfl) ?_;conv=>whnf
      by_cases c6:e.index=m.1+1
      ·refine Ad (by simpa using c6) ?_;conv=>whnf
       refine Aa rfl k1 rfl ?_
       refine Aa rfl k2 rfl ?_;conv=>whnf
       by_cases c7:e.term<m.2
       ·refine Ac (c7) ?_;conv=>whnf
        exact ⟨by rw [chk,if_neg hno,if_neg (by simpa using c6),if_pos c7],s2⟩
       ·refine Ad (c7) ?_;conv=>whnf
        exact ⟨by rw [chk,if_neg hno,if_neg (by simpa using c6),if_neg c7],s2⟩
      ·refine Ac (c6) ?_;conv=>whnf
       exact ⟨by rw [chk,if_neg hno,if_pos c6],s2⟩
theorem AEqAgg.mark {o:Oper} {e:Env} {h:Heap} {x y:Operand} {T':TypeId} {a b c d:Int} {K:Value→Prop} (ho:o.op = .binOp .neq 146 x y T') (hx:e.ev x = .agg #[I a,I b]) (hy:e.ev y = .agg #[I c,I d])
  (k:K (.bool (!(decide (a=c)&&decide (b=d))))):AEqAgg PR o e h K:=by
 refine ⟨⟨_,fun w=>?_,k⟩⟩
 have hf : (PR.fieldsOf 146).toList = [{ name := "index", type := 3, offset := 0, embedded := false, tag := "", pkgPath := "causeway/ledger", byteOffset := 0 }, { name := "term", type := 3, offset := 1, embedded := false, tag := "", pkgPath := "causeway/ledger", byteOffset := 8 }] := by rfl
 have hpa:∀ (x y:Int) (w:World),(part 3 #[I x,I y] 0).run PR w = .ok (I x) w:=fun x y w=>by
  simp [part,isAgg,underlying,Tryz.underlying3]
 have hpb:∀ (x y:Int) (w:World),(part 3 #[I x,I y] 1).run PR w = .ok (I y) w:=fun x y w=>by
  simp [part,isAgg,underlying,Tryz.underlying3]
 simp only [execOp,ho,hx,hy,Sem.run_bind,run_eqGuard_agg w .neq 146 x y _ _ Tryz.eqGuardType146,Result.andThen_ok,run_neq_struct]
 rw [run_equalIn_struct w 9999 146 _ _ (by rfl) Tryz.stoodInHeld146,hf]
 simp only [Op.eqFields,ne_eq,String.reduceEq,not_false_eq_true,if_true,Sem.run_bind,hpa,hpb,Result.andThen_ok]
 rw [run_equalIn_int w 9998 3 .i64 .i64 a c Tryz.underlying3]
 by_cases h1:a=c
 ·subst h1
  simp [hpb,run_equalIn_int w 9998 3 .i64 .i64 b d Tryz.underlying3]
  by_cases h2:b=d <;> simp [h2]
 ·have:(a == c)=false:=by simpa using h1
  simp [this,h1]
def okBase (i t:Int):Bool:=(decide (i=0)&&decide (t=0)) || (isNum i&&isNum t)
theorem New_any (h:Heap) (o:Nat) (ho:o≠0) (i t:Int) :
  ACalls PR 77 #[I i,I t] h (fun v h'=>(okBase i t=true∧∃ p,v = .tuple #[.pointer (some ⟨p,0,none⟩),I 0]∧LedAt h' p o i t [] none 0∧Sub h h')∨(okBase i t=false∧v = .tuple #[.pointer none,I 2]∧Sub h h')):=by
 refine As mix Tryz.func77 rfl rfl Tryz.ntmps77 Tryz.results77 rfl ?_;conv=>whnf
 refine AAlloc.mk (0,1) rfl fun b1 f1=>?_;conv=>whnf
 refine AStore.agg' rfl rfl rfl (Heap.set_same _ _ _) rfl ?_;conv=>whnf
 rw [Heap.set_set]
 have s1:=f1.sub (row (0,1) [I i,I t] 146)
 refine Ab rfl (Heap.set_same _ _ _) rfl rfl ?_;conv=>whnf
 refine AEqAgg.mark rfl rfl rfl ?_;conv=>whnf
 have made:∀ (e:Env) (K:okBase i t=true),True:=fun _ _=>trivial
 have hled:∀ b2,Fresh (h.set b1 (row (0,1) [I i,I t] 146)) b2→LedAt ((h.set b1 (row (0,1) [I i,I t] 146)).set b2 (row (o,0) [.bool true,I i,I t, .slice none 0 0] 158)) b2 o i t [] none 0 :=
  fun b2 f2=>⟨Heap.set_same _ _ _, .inl ⟨rfl,rfl,rfl⟩,by simp,by simp⟩
 by_cases hz:i=0∧t=0
 ·have e1:(!(decide (i=0)&&decide (t=0)))=false:=by simp [hz.1,hz.2]
  rw [e1]
  conv=>whnf
  refine Ab rfl (Heap.set_same _ _ _) rfl rfl ?_;conv=>whnf
  refine ABox.mk (o,0) rfl fun b2 f2=>?_;conv=>whnf
  exact .inl ⟨by simp [okBase,hz.1,hz.2],b2,rfl,hled b2 f2,s1.trans (f2.sub _)⟩
 ·have e1:(!(decide (i=0)&&decide (t=0)))=true:=by
   by_cases c:i=0
   ·have:¬ t=0:=fun d=>hz ⟨c,d⟩
    simp [this]
   ·simp [c]
  have e2:(decide (i=0)&&decide (t=0))=false:=by cases hh:(decide (i=0)&&decide (t=0)) <;> simp_all
  rw [e1]
  conv=>whnf
  refine C2 (number_any i _) ?_;conv=>whnf
  cases c1:isNum i with
  | false =>
   conv=>whnf
   exact .inr ⟨by simp [okBase,e2,c1],rfl,s1⟩
  | true =>
   conv=>whnf
   refine C2 (number_any t _) ?_;conv=>whnf
   cases c2:isNum t with
   | false =>
    conv=>whnf
    exact .inr ⟨by simp [okBase,e2,c1,c2],rfl,s1⟩
   | true =>
    conv=>whnf
    refine Ab rfl (Heap.set_same _ _ _) rfl rfl ?_;conv=>whnf
    refine ABox.mk (o,0) rfl fun b2 f2=>?_;conv=>whnf
    exact .inl ⟨by simp [okBase,c1,c2],b2,rfl,hled b2 f2,s1.trans (f2.sub _)⟩
def termR (bi bt:Int) (es:List EH) (i:Int):Int×Int :=
  if i=bi then (bt,0) else match es[(i-bi-1).toNat]? with
    | some e=>if bi<i then (e.term,0) else (0,9)
    | none=>(0,9)
theorem at_some {bi:Int} {es:List EH} {i:Int} (h1:bi<i) (h2:i≤bi+es.length):∃ (k:Nat) (e:EH),i-bi-1=k∧es[k]? = some e∧k<es.length :=
 ⟨(i-bi-1).toNat,es[(i-bi-1).toNat]'(by omega),by omega,by simp,by omega⟩
theorem Term_any {h:Heap} {p o:Nat} {bi bt:Int} {es:List EH} {a:Option Addr} {cap:Nat} (L:LedAt h p o bi bt es a cap) (S:Seq bi es) (i:Int) :
  ACalls PR 68 #[.pointer (some ⟨p,0,none⟩),I i] h (fun v h'=>v = .tuple #[I (termR bi bt es i).1,I (termR bi bt es i).2]∧h=h'):=by
 refine Ar (As mix Tryz.func68 rfl rfl Tryz.ntmps68 Tryz.results68 rfl ?_);conv=>whnf
 refine C2 (none_any _ p _ _ _ L.str) ?_;conv=>whnf
 refine Aa rfl L.str rfl ?_;conv=>whnf
 by_cases c0:i=bi
 ·refine Ac (c0) ?_;conv=>whnf
  refine Aa rfl L.str rfl ?_;conv=>whnf
  exact ⟨by simp [termR,c0],Sub.refl _⟩
 ·refine Ad (c0) ?_;conv=>whnf
  refine C2 (at_any L S i false) ?_;conv=>whnf
  by_cases c1:bi<i∧i≤bi+es.length
  ·obtain ⟨k,e,hk,he,hlt⟩:=at_some c1.1 c1.2
   have hr:atR bi es.length i false=((k:Int),0):=by rw [atR,if_pos (by simp;omega),hk]
   rw [hr]
   conv=>whnf
   refine Ad (by simp) ?_;conv=>whnf
   obtain ⟨b,off,l,E,fz,rfl,hb,hc⟩:=L.own.sl.pos (by omega)
   refine Aa rfl L.str rfl ?_;conv=>whnf
   refine Ai rfl hlt rfl rfl ?_;conv=>whnf
   have g0:l[off+k*4]? = some (I e.term):=by rw [get_of_take hc (by omega)];exact (encs_get (j:=0) he (by omega))
   refine Aa rfl hb g0 ?_;conv=>whnf
   refine ⟨?_,Sub.refl _⟩
   rw [termR,if_neg c0,hk,Int.toNat_natCast,he]
   simp only []
   rw [if_pos c1.1]
  ·have hr:atR bi es.length i false=(0,9):=by rw [atR,if_neg (by simp;omega)]
   rw [hr]
   conv=>whnf
   refine Ac (by simp) ?_;conv=>whnf
   refine ⟨?_,Sub.refl _⟩
   rw [termR,if_neg c0]
   by_cases c2:bi<i
   ·have:es[(i-bi-1).toNat]? = none:=by rw [List.getElem?_eq_none];omega
    rw [this]
   ·cases es[(i-bi-1).toNat]? with
    | none=>rfl
    | some e=>simp only [];rw [if_neg c2]
theorem Has_any {h:Heap} {p o:Nat} {bi bt:Int} {es:List EH} {a:Option Addr} {cap:Nat} (L:LedAt h p o bi bt es a cap) (S:Seq bi es) (i t:Int) :
  ACalls PR 122 #[.pointer (some ⟨p,0,none⟩),I i,I t] h (fun v h'=>v = .bool (decide ((termR bi bt es i).2=0∧(termR bi bt es i).1=t))∧h=h'):=by
 refine Ar (As mix Tryz.func122 rfl rfl Tryz.ntmps122 Tryz.results122 rfl ?_);conv=>whnf
 refine C2 (Term_any L S i) ?_;conv=>whnf
 refine ACmp.split (fun c1=>?_) (fun c1=>?_)
 ·conv=>whnf
  refine ACmp.dec ?_;conv=>whnf
  exact ⟨by simp [c1],Sub.refl _⟩
 ·conv=>whnf
  exact ⟨by simp [c1],Sub.refl _⟩
theorem Get_some {h:Heap} {p o:Nat} {bi bt:Int} {es:List EH} {a:Option Addr} {cap:Nat} (L:LedAt h p o bi bt es a cap) (S:Seq bi es) (tg:Tag) (ht:tg≠(0,1)) (i:Int) (k:Nat) (e:EH)
  (hk:i-bi-1=k) (he:es[k]? = some e) :
  ACalls PR 71 #[.pointer (some ⟨p,0,none⟩),I i] h (fun v h'=>∃ a' c',v = .tuple #[.agg #[I e.term,I e.index,I e.kind, .slice a' e.n c'],I 0]∧Own h' tg 5 a' e.n c' 1 (bytesV e.data)∧Sub h h'):=by
 have hlt:k<es.length:=(List.getElem?_eq_some_iff.1 he).1
 have hn:e.n≤140737488355328:=by have:=L.small e (List.mem_of_getElem? he);omega
 refine As mix Tryz.func71 rfl rfl Tryz.ntmps71 Tryz.results71 rfl ?_;conv=>whnf
 refine AAlloc.mk (0,1) rfl fun b1 f1=>?_;conv=>whnf
 have s1:=f1.sub (row (0,1) [I 0,I 0,I 0, .slice none 0 0] 59)
 have k1:=Heap.set_same h b1 (row (0,1) [I 0,I 0,I 0, .slice none 0 0] 59)
 have L':LedAt (h.set b1 (row (0,1) [I 0,I 0,I 0, .slice none 0 0] 59)) p o bi bt es a cap:=⟨s1 _ _ L.str,L.own.move fun _ _ x=>s1 _ _ x,fun x hx=>Sl.sub (L.good x hx) s1,L.small⟩
 refine C2 (at_any L' S i false) ?_;conv=>whnf
 have hr:atR bi es.length i false=((k:Int),0):=by rw [atR,if_pos (by simp;omega),hk]
 rw [hr]
 conv=>whnf
 refine Ad (by simp) ?_;conv=>whnf
 obtain ⟨b,off,l,E,fz,rfl,hb,hc⟩:=L'.own.sl.pos (by omega)
 refine Aa rfl L'.str rfl ?_;conv=>whnf
 refine Ai rfl hlt rfl rfl ?_;conv=>whnf
 have g:(l.drop (off+k*4)).take 4=e.cells:=by rw [part_of_take hc (by omega),encs_part he]
 refine Ab rfl hb g rfl ?_;conv=>whnf
 refine ACalls.mono (own_any _ tg ht e (L'.good e (List.mem_of_getElem? he)) hn) ?_
 rintro v h' ⟨a',c',rfl,hsl,hsub⟩
 conv=>whnf
 refine AStore.agg' rfl rfl rfl (hsub _ _ k1) rfl ?_;conv=>whnf
 refine Ab rfl (Heap.set_same _ _ _) rfl rfl ?_;conv=>whnf
 exact ⟨a',c',rfl,hsl.keepT (KeepT.set (hsub _ _ k1)) ht,(s1.trans hsub).set f1.none _⟩
theorem Get_none {h:Heap} {p o:Nat} {bi bt:Int} {es:List EH} {a:Option Addr} {cap:Nat} (L:LedAt h p o bi bt es a cap) (S:Seq bi es) (i:Int) (hi:¬ (bi<i∧i≤bi+es.length)) :
  ACalls PR 71 #[.pointer (some ⟨p,0,none⟩),I i] h (fun v h'=>v = .tuple #[.agg #[I 0,I 0,I 0, .slice none 0 0],I 9]∧h=h'):=by
 refine Ar (As mix Tryz.func71 rfl rfl Tryz.ntmps71 Tryz.results71 rfl ?_);conv=>whnf
 refine AAlloc.mk (0,1) rfl fun b1 f1=>?_;conv=>whnf
 have s1:=f1.sub (row (0,1) [I 0,I 0,I 0, .slice none 0 0] 59)
 have k1:=Heap.set_same h b1 (row (0,1) [I 0,I 0,I 0, .slice none 0 0] 59)
 have L':LedAt (h.set b1 (row (0,1) [I 0,I 0,I 0, .slice none 0 0] 59)) p o bi bt es a cap:=⟨s1 _ _ L.str,L.own.move fun _ _ x=>s1 _ _ x,fun x hx=>Sl.sub (L.good x hx) s1,L.small⟩
 refine C2 (at_any L' S i false) ?_;conv=>whnf
 have hr:atR bi es.length i false=(0,9):=by rw [atR,if_neg (by simp;omega)]
 rw [hr]
 conv=>whnf
 refine Ac (by simp) ?_;conv=>whnf
 refine AStore.agg' rfl rfl rfl k1 rfl ?_;conv=>whnf
 refine Ab rfl (Heap.set_same _ _ _) rfl rfl ?_;conv=>whnf
 exact ⟨rfl,s1.set f1.none _⟩
theorem LedAt.sub {h h':Heap} {p o:Nat} {bi bt:Int} {es:List EH} {a:Option Addr} {cap:Nat} (L:LedAt h p o bi bt es a cap) (k:Sub h h'):LedAt h' p o bi bt es a cap :=
 ⟨k _ _ L.str,L.own.move fun _ _ x=>k _ _ x,fun e he=>Sl.sub (L.good e he) k,L.small⟩
theorem Ents.keep {h h':Heap} {q:Nat} {t td:Tag} {a:Option Addr} {n c:Nat} {es:List EH} (s:Ents h t td a n c es) (k:Keep q h h') (n1:t.1≠q) (n2:td.1≠q):Ents h' t td a n c es :=
 ⟨s.sl.keep k n1,fun e he=>Sl.keep (s.good e he) k n2,s.small⟩
def app (m:Int×Int):List EH→Int
  | []=>0
  | x::r=>if chk x m=0 then app (x.index,x.term) r else chk x m
theorem chk_zero {e:EH} {m:Int×Int} (h:chk e m=0):isNum e.term=true∧isNum e.index=true∧0≤e.kind∧e.kind≤2∧e.n≤1200∧e.index=m.1+1∧m.2≤e.term:=by
 unfold chk at h
 split at h
 ·cases h
 ·rename_i c
  split at h
  ·cases h
  ·split at h
   ·cases h
   ·refine ⟨?_,?_,?_,?_,?_,?_,?_⟩
    ·cases hh:isNum e.term with
     | true=>rfl
     | false=>exact absurd (.inl hh) c
    ·cases hh:isNum e.index with
     | true=>rfl
     | false=>exact absurd (.inr (.inl hh)) c
    ·exact Int.not_lt.1 fun hh=>c (.inr (.inr (.inl hh)))
    ·exact Int.not_lt.1 fun hh=>c (.inr (.inr (.inr (.inl hh))))
    ·exact Nat.not_lt.1 fun hh=>c (.inr (.inr (.inr (.inr hh))))
    ·omega
    ·omega
theorem isNum_iff {n:Int}:isNum n=true↔1≤n∧n≤9007199254740991:=by simp [isNum]
theorem encs_one (e:EH):encs [e]=e.cells:=by simp [encs]
def two (h:Heap) (p q:Nat):Heap:=fun c=>if c=p∨c=q then h c else none
theorem two_sub (h:Heap) (p q:Nat):Sub (two h p q) h:=by
 intro c x e;unfold two at e;split at e
 ·exact e
 ·cases e
theorem two_get {h h':Heap} {p q:Nat} (k:∀ x,h p=some x→h' p=some x) (k':∀ x,h q=some x→h' q=some x):Sub (two h p q) h':=by
 intro c x e;unfold two at e;split at e
 ·rename_i hc;rcases hc with rfl | rfl
  ·exact k _ e
  ·exact k' _ e
 ·cases e
theorem two_l (h:Heap) (p q:Nat):two h p q p=h p:=by simp [two]
theorem two_r (h:Heap) (p q:Nat):two h p q q=h q:=by simp [two]
theorem app_small:∀ (xs:List EH) (m:Int×Int),app m xs=0→∀ x∈xs,x.n≤1200
 | [],_,_,x,hx=>by cases hx
 | y::r,m,h,x,hx=>by
  unfold app at h
  split at h
  ·rename_i hz
   rcases List.mem_cons.1 hx with rfl | hx
   ·exact (chk_zero hz).2.2.2.2.1
   ·exact app_small r _ h x hx
  ·rename_i hz;exact absurd h hz
theorem Append_any {h:Heap} {p o:Nat} (ho:o≠0) {bi bt:Int} {es:List EH} {a:Option Addr} {cap:Nat} (L:LedAt h p o bi bt es a cap) (S:Seq bi es)
  {t td:Tag} (ht:t.1≠o) (htd:td.1≠o) {xa:Option Addr} {m xc:Nat} {xs:List EH} (X:Ents h t td xa m xc xs) (hroom:(es.length+m)*48≤140737488355328) :
  ACalls PR 78 #[.pointer (some ⟨p,0,none⟩), .slice xa m xc] h (fun v h'=>(app (lastM bi bt es) xs≠0∧v=I (app (lastM bi bt es) xs)∧Sub h h') ∨
   (app (lastM bi bt es) xs=0∧v=I 0∧∃ es' a' cap',LedAt h' p o bi bt es' a' cap'∧es'.map EH.abs=(es++xs).map EH.abs∧Keep o h h')):=by
 have hlast:=S.last (bt:=bt)
 have hlo:=S.lo
 have htop:=S.top
 have hxl:=X.len
 refine As mix Tryz.func78 rfl rfl Tryz.ntmps78 Tryz.results78 rfl ?_;conv=>whnf
 refine C2 (none_any _ p _ _ _ L.str) ?_;conv=>whnf
 refine C2 (last_any _ p o bi bt es a cap L (by omega)) ?_;conv=>whnf
 refine AAlloc.mk (0,1) rfl fun b5 f5=>?_;conv=>whnf
 refine AStore.agg' rfl rfl rfl (Heap.set_same _ _ _) rfl ?_;conv=>whnf
 rw [Heap.set_set]
 have s5:=f5.sub (row (0,1) [I (lastM bi bt es).1,I (lastM bi bt es).2] 146)
 have hp5:h b5=none:=f5.none
 refine ALoop.mk (fun e h'=>Sub h h'∧∃ e0,∃ k:Nat,∃ mk:Int×Int,e=updL 51 e0 [(0, .pointer (some ⟨p,0,none⟩)),(1, .slice xa m xc),(5, .pointer (some ⟨b5,0,none⟩)),(15, .slice xa m xc),(16,I m),(17,I k)]∧k≤m ∧
   h' b5=some (row (0,1) [I mk.1,I mk.2] 146)∧app (lastM bi bt es) xs=app mk (xs.drop k)∧0≤mk.1∧mk.1≤9007199254740991)
   (fun e=>m-natOf (e 17)) ⟨s5,_,0,lastM bi bt es,Au ⟨rfl,rfl,rfl,rfl,rfl,rfl,trivial⟩,by omega,Heap.set_same _ _ _,by simp,by omega,by omega⟩ ?_
 rintro e h1 ⟨sh,e0,k,mk,rfl,hk,hb5,happ,hm0,hm1⟩
 conv=>whnf
 by_cases hkm:k<m
 ·refine Ac (by omega) ?_;conv=>whnf
  obtain ⟨bx,off,l,E,fz,rfl,hb,hc⟩:=X.sl.pos (by omega)
  obtain ⟨x,hx⟩:∃ x,xs[k]? = some x:=⟨xs[k]'(by omega),by simp⟩
  have mx:x∈xs:=List.mem_of_getElem? hx
  have g:(l.drop (off+k*4)).take 4=x.cells:=by rw [part_of_take hc (by omega),encs_part hx]
  have hdrop:xs.drop k=x::xs.drop (k+1):=by
   have:=List.drop_eq_getElem_cons (show k<xs.length by omega)
   rw [this,(List.getElem?_eq_some_iff.1 hx).2]
  refine Ai rfl hkm rfl rfl ?_;conv=>whnf
  refine Ab rfl (sh _ _ hb) g rfl ?_;conv=>whnf
  refine AAlloc.mk (0,1) rfl fun b7 f7=>?_;conv=>whnf
  refine AStore.agg' rfl rfl rfl (Heap.set_same _ _ _) rfl ?_;conv=>whnf
  rw [Heap.set_set]
  refine Ab rfl (Heap.set_same _ _ _) rfl rfl ?_;conv=>whnf
  have hb5':=f7.sub (row (0,1) [I x.term,I x.index,I x.kind, .slice x.a x.n x.c] 59) _ _ hb5
  refine Ab rfl hb5' rfl rfl ?_;conv=>whnf
  refine C2 (check_any _ x mk hm0 (by omega)) ?_;conv=>whnf
  by_cases hz:chk x mk=0
  ·rw [hz]
   conv=>whnf
   refine Ad (by simp) ?_;conv=>whnf
   refine Aa rfl (Heap.set_same _ _ _) rfl ?_
   refine Aa rfl (Heap.set_same _ _ _) rfl ?_;conv=>whnf
   refine AStore.agg' rfl rfl rfl hb5' rfl ?_;conv=>whnf
   refine Ag (by omega) (by omega) ((by omega:(k:Int)+1=((k+1:Nat):Int))) ?_;conv=>whnf
   obtain ⟨z1,z2,z3,z4,z5,z6,z7⟩:=chk_zero hz
   have z2:=isNum_iff.1 z2
   refine ⟨⟨((sh.trans (f7.sub _)).set hp5 _),_,k+1,(x.index,x.term),Au ⟨rfl,rfl,rfl,rfl,rfl,rfl,trivial⟩,by omega,Heap.set_same _ _ _,?_,by omega,by omega⟩,?_⟩
   ·rw [happ,hdrop,app,if_pos hz]
   ·show m-(k+1)<m-k
    omega
  ·refine Ac (hz) ?_;conv=>whnf
   have:app (lastM bi bt es) xs=chk x mk:=by rw [happ,hdrop,app,if_neg hz]
   exact .inl ⟨by rw [this];exact hz,by rw [this],sh.trans (f7.sub _)⟩
 ·refine Ad (by omega) ?_;conv=>whnf
  obtain rfl:k=m:=by omega
  have hall:app (lastM bi bt es) xs=0:=by rw [happ,List.drop_of_length_le (by omega)];rfl
  have hsmall:=app_small xs _ hall
  refine ALoop.mk (fun e h'=>∃ e0,∃ k2:Nat,∃ es2 a2 cap2,e=updL 51 e0 [(0, .pointer (some ⟨p,0,none⟩)),(33, .slice xa k xc),(34,I k),(35,I k2)]∧k2≤k ∧
   LedAt h' p o bi bt es2 a2 cap2∧es2.map EH.abs=(es++xs.take k2).map EH.abs∧Keep o h h')
   (fun e=>k-natOf (e 35)) ⟨_,0,es,a,cap,Au ⟨rfl,rfl,rfl,rfl,trivial⟩,by omega,L.sub sh,by simp,sh.keep o⟩ ?_
  rintro e h2 ⟨e0,k2,es2,a2,cap2,rfl,hk2,L2,habs,hkeep⟩
  conv=>whnf
  have hlen2:es2.length=es.length+k2:=by
   have:=congrArg List.length habs
   simp at this;omega
  by_cases hkm2:k2<k
  ·refine Ac (by omega) ?_;conv=>whnf
   have X2:=X.keep hkeep ht htd
   obtain ⟨bx,off,l,E,fz,rfl,hb,hc⟩:=X2.sl.pos (by omega)
   obtain ⟨x,hx⟩:∃ x,xs[k2]? = some x:=⟨xs[k2]'(by omega),by simp⟩
   have mx:x∈xs:=List.mem_of_getElem? hx
   have g:(l.drop (off+k2*4)).take 4=x.cells:=by rw [part_of_take hc (by omega),encs_part hx]
   refine Ai rfl hkm2 rfl rfl ?_;conv=>whnf
   refine Ab rfl hb g rfl ?_;conv=>whnf
   refine AAlloc.mk (0,1) rfl fun b10 f10=>?_;conv=>whnf
   refine AStore.agg' rfl rfl rfl (Heap.set_same _ _ _) rfl ?_;conv=>whnf
   rw [Heap.set_set]
   have s10:=f10.sub (row (0,1) [I x.term,I x.index,I x.kind, .slice x.a x.n x.c] 59)
   have k10:=Heap.set_same h2 b10 (row (0,1) [I x.term,I x.index,I x.kind, .slice x.a x.n x.c] 59)
   refine Am (two _ p b10) [11] (two_sub _ _ _) (by decide +kernel) ?_;conv=>whnf
   refine Aa rfl ((two_l _ _ _).trans (s10 _ _ L2.str)) rfl ?_
   refine Ab rfl ((two_r _ _ _).trans k10) rfl rfl ?_;conv=>whnf
   refine ACalls.mono (own_any _ (o,2) (by simp [ho]) x (Sl.sub (X2.good x mx) s10) (by have:=hsmall x mx;omega)) ?_
   rintro v h3 ⟨ax,cx,rfl,hslx,hsub3⟩
   refine ⟨(two_sub _ _ _).trans hsub3,?_⟩
   conv=>whnf
   refine ABuildSl.mk (0,1) rfl rfl rfl rfl rfl rfl rfl fun b11 f11=>?_;conv=>whnf
   have s4:=s10.trans (hsub3.trans (f11.sub (row (0,1) [I x.term,I x.index,I x.kind, .slice ax x.n cx] 59)))
   refine ⟨(two_sub _ _ _).trans (hsub3.trans (f11.sub _)),?_⟩
   conv=>whnf
   refine AAppend.own (t:=(o,1)) (E:=59) (z:=4) (by_:=48) (zero:=[I 0,I 0,I 0, .slice none 0 0]) (tx:=(0,1)) (xs:=[I x.term,I x.index,I x.kind, .slice ax x.n cx]) rfl ⟨_,rfl⟩ rfl rfl rfl rfl (by omega) (L2.own.move fun _ _ y=>s4 _ _ y)
    ⟨rfl,Nat.le_refl _, .inr ⟨b11,0,_,_,_,rfl,Heap.set_same _ _ _,rfl⟩⟩ rfl (by omega) (by omega) fun a5 cap5 h5 hown5 hk5 _=>?_
   have hp5:=hk5.get (u:=(o,0)) (by simp) (s4 _ _ L2.str)
   have hb10:=hk5.get (u:=(0,1)) (by simp;omega) ((hsub3.trans (f11.sub (row (0,1) [I x.term,I x.index,I x.kind, .slice ax x.n cx] 59))) _ _ k10)
   conv=>whnf
   refine ⟨two_get (fun y hy=>?_) (fun y hy=>?_),?_⟩
   ·have:=s10 _ _ L2.str
    rw [this] at hy;cases hy;exact hp5
   ·rw [k10] at hy;cases hy;exact hb10
   conv=>whnf
   refine AStore.one' rfl rfl rfl hp5 rfl ?_;conv=>whnf
   refine Ag (by omega) (by omega) ((by omega:(k2:Int)+1=((k2+1:Nat):Int))) ?_;conv=>whnf
   refine ⟨⟨_,k2+1,es2++[⟨x.term,x.index,x.kind,ax,x.n,cx,x.data⟩],a5,cap5,Au ⟨rfl,rfl,rfl,rfl,trivial⟩,by omega,⟨?_,?_,?_,?_⟩,?_,?_⟩,?_⟩
   ·rw [List.length_append];exact Heap.set_same _ _ _
   ·rw [List.length_append,encs_append,encs_one]
    exact hown5.keepT (KeepT.set hp5) (by simp)
   ·intro y hy
    rcases List.mem_append.1 hy with hy | hy
    ·exact Sl.keepT (Sl.keepT (Sl.sub (L2.good y hy) s4) hk5 (by simp)) (KeepT.set hp5) (by simp)
    ·obtain rfl:=List.mem_singleton.1 hy
     exact Sl.keepT (Sl.keepT (Sl.sub hslx.sl (f11.sub _)) hk5 (by simp)) (KeepT.set hp5) (by simp)
   ·intro y hy
    rcases List.mem_append.1 hy with hy | hy
    ·exact L2.small y hy
    ·obtain rfl:=List.mem_singleton.1 hy
     exact hsmall x mx
   ·rw [List.map_append,habs,List.take_succ_eq_append_getElem (by omega),(List.getElem?_eq_some_iff.1 hx).2]
    simp [EH.abs]
   ·exact (hkeep.trans (s4.keep o)).trans (hk5.keep.trans (KeepT.set hp5).keep)
   ·show k-(k2+1)<k-k2
    omega
  ·refine Ad (by omega) ?_;conv=>whnf
   obtain rfl:k2=k:=by omega
   refine .inr ⟨hall,rfl,es2,a2,cap2,L2,?_,hkeep⟩
   rw [habs,List.take_of_length_le (by omega)]
theorem Cut_ok {h:Heap} {p o:Nat} {bi bt:Int} {es:List EH} {a:Option Addr} {cap:Nat} (L:LedAt h p o bi bt es a cap) (S:Seq bi es) (i:Int) (k:Nat) (hk:i-bi-1=k) (hle:k≤es.length) :
  ACalls PR 181 #[.pointer (some ⟨p,0,none⟩),I i] h (fun v h'=>v=I 0∧LedAt h' p o bi bt (es.take k) a cap∧Keep o h h'):=by
 refine As mix Tryz.func181 rfl rfl Tryz.ntmps181 Tryz.results181 rfl ?_;conv=>whnf
 refine C2 (at_any L S i true) ?_;conv=>whnf
 have hr:atR bi es.length i true=((k:Int),0):=by rw [atR,if_pos (by simp;omega),hk]
 have hcap:es.length≤cap:=L.own.sl.le
 rw [hr]
 conv=>whnf
 refine Ad (by simp) ?_;conv=>whnf
 refine Aa rfl L.str rfl ?_;conv=>whnf
 refine ASlc.from (z:=4) rfl hle hcap rfl rfl ?_;conv=>whnf
 refine AClear.own (t:=(o,1)) (E:=59) (z:=4) (zero:=[I 0,I 0,I 0, .slice none 0 0]) rfl rfl rfl (by omega) rfl L.own hle fun h2 hown hk2=>?_
 conv=>whnf
 have hp2:=hk2.get (u:=(o,0)) (by simp) L.str
 refine Aa rfl hp2 rfl ?_;conv=>whnf
 refine ASlc.upto (z:=4) rfl (Nat.le_trans hle hcap) rfl rfl ?_;conv=>whnf
 refine AStore.one' rfl rfl rfl hp2 rfl ?_;conv=>whnf
 have hlen:(es.take k).length=k:=by simp;omega
 refine ⟨rfl,⟨?_,?_,?_,?_⟩,hk2.keep.trans (KeepT.set hp2).keep⟩
 ·rw [hlen];exact Heap.set_same _ _ _
 ·rw [hlen,← encs_take];exact hown.keepT (KeepT.set hp2) (by simp)
 ·intro e he
  exact Sl.keepT (Sl.keepT (L.good e (List.mem_of_mem_take he)) hk2 (by simp)) (KeepT.set hp2) (by simp)
 ·intro e he;exact L.small e (List.mem_of_mem_take he)
theorem Cut_no {h:Heap} {p o:Nat} {bi bt:Int} {es:List EH} {a:Option Addr} {cap:Nat} (L:LedAt h p o bi bt es a cap) (S:Seq bi es) (i:Int) (hi:¬ (bi<i∧i≤bi+es.length+1)) :
  ACalls PR 181 #[.pointer (some ⟨p,0,none⟩),I i] h (fun v h'=>v=I 9∧h=h'):=by
 refine Ar (As mix Tryz.func181 rfl rfl Tryz.ntmps181 Tryz.results181 rfl ?_);conv=>whnf
 refine C2 (at_any L S i true) ?_;conv=>whnf
 have hr:atR bi es.length i true=(0,9):=by rw [atR,if_neg (by simp;omega)]
 rw [hr]
 conv=>whnf
 refine Ac (by simp) ?_;conv=>whnf
 exact ⟨rfl,Sub.refl _⟩
theorem cloneE_any (h:Heap) (tg:Tag) {t:Tag} {a:Option Addr} {n c:Nat} {es:List EH} (s:Sl h t a n c 4 (encs es)) (hn:n*48≤140737488355328) :
  ACalls PR 144 #[.slice a n c] h (fun v h'=>∃ a' c',v = .slice a' n c'∧Own h' tg 59 a' n c' 4 (encs es)∧Sub h h'):=by
 have hone:(encs es).all oneCell=true:=by
  rw [List.all_eq_true];intro x hx
  obtain ⟨e,_,hx⟩:=List.mem_flatMap.1 hx
  simp only [EH.cells,List.mem_cons,List.not_mem_nil,or_false] at hx
  rcases hx with rfl | rfl | rfl | rfl <;> rfl
 refine As mix Tryz.func144 rfl rfl Tryz.ntmps144 Tryz.results144 rfl ?_;conv=>whnf
 cases a with
 | none =>
  have hn0:n=0:=by
   rcases Nat.eq_zero_or_pos n with h0 | h0
   ·exact h0
   ·obtain ⟨b,off,l,E,fz,e,_⟩:=s.pos h0
    cases e
  subst hn0
  have:encs es=[]:=List.eq_nil_of_length_eq_zero (by rw [s.len])
  conv=>whnf
  exact ⟨none,0,rfl, .inl ⟨rfl,rfl,this⟩,Sub.refl _⟩
 | some ad =>
  conv=>whnf
  refine ABuildSl.empty tg rfl rfl fun b fb=>?_;conv=>whnf
  refine AAppend.own (t:=tg) (E:=59) (z:=4) (by_:=48) (zero:=[I 0,I 0,I 0, .slice none 0 0]) (cs:=[]) rfl ⟨_,rfl⟩ rfl rfl rfl rfl (by omega) (.inl ⟨rfl,rfl,rfl⟩) (s.sub (fb.sub _)) hone (by omega) (by omega) fun a' c' h' ho hk hsub=>?_
  conv=>whnf
  refine ⟨a',c',?_,?_,(fb.sub _).trans (hsub rfl)⟩
  ·show Value.slice a' (0+n) c'=_
   rw [Nat.zero_add]
  ·rw [Nat.zero_add] at ho
   exact ho
theorem Compact_ok {h:Heap} {p o:Nat} (ho:o≠0) {bi bt:Int} {es:List EH} {a:Option Addr} {cap:Nat} (L:LedAt h p o bi bt es a cap) (S:Seq bi es) (i:Int) (k:Nat) (e:EH) (hk:i-bi-1=k) (he:es[k]? = some e)
  (hroom:es.length*48≤140737488355328) :
  ACalls PR 69 #[.pointer (some ⟨p,0,none⟩),I i] h (fun v h'=>v=I 0∧∃ a' cap',LedAt h' p o e.index e.term (es.drop (k+1)) a' cap'∧Keep o h h'):=by
 have hlt:k<es.length:=(List.getElem?_eq_some_iff.1 he).1
 refine As mix Tryz.func69 rfl rfl Tryz.ntmps69 Tryz.results69 rfl ?_;conv=>whnf
 refine C2 (at_any L S i false) ?_;conv=>whnf
 have hr:atR bi es.length i false=((k:Int),0):=by rw [atR,if_pos (by simp;omega),hk]
 have hcap:es.length≤cap:=L.own.sl.le
 rw [hr]
 conv=>whnf
 refine Ad (by simp) ?_;conv=>whnf
 obtain ⟨b,off,l,E,fz,rfl,hb,hc⟩:=L.own.sl.pos (by omega)
 have g0:l[off+k*4]? = some (I e.term):=by rw [get_of_take hc (by omega)];exact (encs_get (j:=0) he (by omega))
 have g1:l[off+k*4+1]? = some (I e.index):=by rw [Nat.add_assoc,get_of_take hc (by omega)];exact (encs_get (j:=1) he (by omega))
 refine Am (_) [20] (Sub.refl _) (by decide +kernel) ?_;conv=>whnf
 refine Aa rfl L.str rfl ?_;conv=>whnf
 refine Ai rfl hlt rfl rfl ?_;conv=>whnf
 refine Aa rfl hb g1 ?_
 refine Aa rfl L.str rfl ?_;conv=>whnf
 refine Ai rfl hlt rfl rfl ?_;conv=>whnf
 refine Aa rfl hb g0 ?_;conv=>whnf
 refine AStore.agg' rfl rfl rfl L.str rfl ?_;conv=>whnf
 have hp2:=Heap.set_same h p (row (o,0) [.bool true,I e.index,I e.term, .slice (some ⟨b,off,none⟩) es.length cap] 158)
 have hown2:=L.own.keepT (KeepT.set (y := .cells [.bool true,I e.index,I e.term, .slice (some ⟨b,off,none⟩) es.length cap].toArray 158 (0,0)) L.str) (by simp)
 refine Aa rfl hp2 rfl ?_;conv=>whnf
 refine Ag (by omega) (by omega) ((by omega:(k:Int)+1=((k+1:Nat):Int))) ?_;conv=>whnf
 refine ASlc.from (z:=4) rfl (by omega) hcap rfl rfl ?_;conv=>whnf
 have hs:=hown2.sl.slice (l:=k+1) (m:=es.length) (x:=cap) (by omega) (Nat.le_refl _) hcap
 have hcs:((encs es).drop ((k+1)*4)).take ((es.length-(k+1))*4)=encs (es.drop (k+1)):=by
  rw [encs_drop,List.take_of_length_le]
  rw [encs_length];simp
 rw [hcs] at hs
 refine ACalls.mono (cloneE_any _ (o,1) hs (by omega)) ?_
 rintro v h3 ⟨a',c',rfl,hown3,hsub3⟩
 conv=>whnf
 have hp3:=hsub3 _ _ hp2
 refine AStore.one' rfl rfl rfl hp3 rfl ?_;conv=>whnf
 have hlen:(es.drop (k+1)).length=es.length-(k+1):=by simp
 refine ⟨rfl,a',c',⟨?_,?_,?_,?_⟩,((KeepT.set L.str).keep.trans (hsub3.keep o)).trans (KeepT.set hp3).keep⟩
 ·rw [hlen];exact Heap.set_same _ _ _
 ·rw [hlen];exact hown3.keepT (KeepT.set hp3) (by simp)
 ·intro y hy
  exact Sl.keepT (Sl.sub (Sl.keepT (L.good y (List.mem_of_mem_drop hy)) (KeepT.set L.str) (by simp)) hsub3) (KeepT.set hp3) (by simp)
 ·intro y hy;exact L.small y (List.mem_of_mem_drop hy)
theorem Compact_no {h:Heap} {p o:Nat} {bi bt:Int} {es:List EH} {a:Option Addr} {cap:Nat} (L:LedAt h p o bi bt es a cap) (S:Seq bi es) (i:Int) (hi:¬ (bi<i∧i≤bi+es.length)) :
  ACalls PR 69 #[.pointer (some ⟨p,0,none⟩),I i] h (fun v h'=>v=I 9∧h=h'):=by
 refine Ar (As mix Tryz.func69 rfl rfl Tryz.ntmps69 Tryz.results69 rfl ?_);conv=>whnf
 refine C2 (at_any L S i false) ?_;conv=>whnf
 have hr:atR bi es.length i false=(0,9):=by rw [atR,if_neg (by simp;omega)]
 rw [hr]
 conv=>whnf
 refine Ac (by simp) ?_;conv=>whnf
 exact ⟨rfl,Sub.refl _⟩
theorem Slice_no {h:Heap} {p o:Nat} {bi bt:Int} {es:List EH} {a:Option Addr} {cap:Nat} (L:LedAt h p o bi bt es a cap) (S:Seq bi es) (i most:Int) (hi:¬ (bi<i∧i≤bi+es.length+1)) :
  ACalls PR 168 #[.pointer (some ⟨p,0,none⟩),I i,I most] h (fun v h'=>v = .tuple #[.slice none 0 0,I 9]∧h=h'):=by
 refine Ar (As mix Tryz.func168 rfl rfl Tryz.ntmps168 Tryz.results168 rfl ?_);conv=>whnf
 refine C2 (at_any L S i true) ?_;conv=>whnf
 have hr:atR bi es.length i true=(0,9):=by rw [atR,if_neg (by simp;omega)]
 rw [hr]
 conv=>whnf
 refine Ac (by simp) ?_;conv=>whnf
 exact ⟨rfl,Sub.refl _⟩
theorem Slice_neg {h:Heap} {p o:Nat} {bi bt:Int} {es:List EH} {a:Option Addr} {cap:Nat} (L:LedAt h p o bi bt es a cap) (S:Seq bi es) (i most:Int) (hi:bi<i∧i≤bi+es.length+1) (hm:most<0) :
  ACalls PR 168 #[.pointer (some ⟨p,0,none⟩),I i,I most] h (fun v h'=>v = .tuple #[.slice none 0 0,I 2]∧h=h'):=by
 refine Ar (As mix Tryz.func168 rfl rfl Tryz.ntmps168 Tryz.results168 rfl ?_);conv=>whnf
 refine C2 (at_any L S i true) ?_;conv=>whnf
 have hr:atR bi es.length i true=(i-bi-1,0):=by rw [atR,if_pos (by simp;omega)]
 rw [hr]
 conv=>whnf
 refine Ad (by simp) ?_;conv=>whnf
 refine Ac (hm) ?_;conv=>whnf
 exact ⟨rfl,Sub.refl _⟩
theorem Slice_ok {h:Heap} {p o:Nat} {bi bt:Int} {es:List EH} {a:Option Addr} {cap:Nat} (L:LedAt h p o bi bt es a cap) (S:Seq bi es) (tg td:Tag) (ht:tg≠(0,1)) (hd:td≠(0,1)) (hto:tg.1≠o) (htd:td≠tg)
  (i most:Int) (k:Nat) (hk:i-bi-1=k) (hle:k≤es.length) (hm:0≤most) (hroom:es.length*48≤140737488355328) :
  ACalls PR 168 #[.pointer (some ⟨p,0,none⟩),I i,I most] h (fun v h'=>∃ a' n' c' zs,v = .tuple #[.slice a' n' c',I 0]∧Ents h' tg td a' n' c' zs∧zs.map EH.abs=((es.drop k).take most.toNat).map EH.abs∧(∀ z∈zs,z.n≤1200)∧KeepT tg h h'∧Own h' tg 59 a' n' c' 4 (encs zs)∧∀ z∈zs,z.Mine h' td):=by
 have hcap:es.length≤cap:=L.own.sl.le
 obtain ⟨q,hq⟩:∃ q:Nat,(if ((es.length:Int)-k)<most then ((es.length:Int)-k) else most)=q:=⟨(if ((es.length:Int)-k)<most then ((es.length:Int)-k) else most).toNat,by split <;> omega⟩
 have hqle:k+q≤es.length:=by split at hq <;> omega
 have htop:=S.top
 have hlo:=S.lo
 refine As mix Tryz.func168 rfl rfl Tryz.ntmps168 Tryz.results168 rfl ?_;conv=>whnf
 refine C2 (at_any L S i true) ?_;conv=>whnf
 have hr:atR bi es.length i true=((k:Int),0):=by rw [atR,if_pos (by simp;omega),hk]
 rw [hr]
 conv=>whnf
 refine Ad (by simp) ?_;conv=>whnf
 refine Ad (by omega) ?_;conv=>whnf
 refine Aa rfl L.str rfl ?_;conv=>whnf
 refine Ag (by omega) (by omega) (rfl) ?_;conv=>whnf
 refine Aq (hq) ?_;conv=>whnf
 refine Ag (by omega) (by omega) ((by omega:(k:Int)+q=((k+q:Nat):Int))) ?_;conv=>whnf
 refine Aa rfl L.str rfl ?_;conv=>whnf
 refine ASlc.full (z:=4) rfl rfl rfl (by omega) (Nat.le_refl _) (by omega) rfl rfl ?_;conv=>whnf
 have hs:=L.own.sl.slice (l:=k) (m:=k+q) (x:=k+q) (by omega) hqle (Nat.le_refl _)
 have hcs:((encs es).drop (k*4)).take ((k+q-k)*4)=encs ((es.drop k).take q):=by
  rw [encs_drop,encs_take,Nat.add_sub_cancel_left]
 rw [hcs,Nat.add_sub_cancel_left] at hs
 rw [Nat.add_sub_cancel_left]
 generalize hys:(es.drop k).take q=ys at hs
 have hyl:ys.length=q:=by rw [← hys];simp;omega
 have hmem:∀ y∈ys,y∈es:=fun y hy=>by rw [← hys] at hy;exact List.mem_of_mem_drop (List.mem_of_mem_take hy)
 have hfin:((es.drop k).take most.toNat)=ys:=by
  rw [← hys]
  by_cases hc:((es.length:Int)-k)<most
  ·rw [if_pos hc] at hq
   rw [List.take_of_length_le (by simp;omega),List.take_of_length_le (by simp;omega)]
  ·rw [if_neg hc] at hq
   rw [show most.toNat=q by omega]
 generalize hbase:slBase a k (k+q) 4=sb at hs ⊢
 refine ALoop.mk (fun e h'=>∃ e0,∃ j:Nat,∃ zs a2 c2,e=updL 58 e0 [(45, .slice sb q q),(46,I q),(47,I j),(11, .slice a2 j c2)]∧j≤q∧Own h' tg 59 a2 j c2 4 (encs zs)∧zs.map EH.abs=(ys.take j).map EH.abs∧(∀ z∈zs,z.Mine h' td)∧(∀ z∈zs,z.n≤1200)∧KeepT tg h h')
  (fun e=>q-natOf (e 47)) ⟨_,0,[],none,0,Au ⟨rfl,rfl,rfl,rfl,trivial⟩,by omega, .inl ⟨rfl,rfl,rfl⟩,by simp,by simp,by simp,KeepT.refl _ _⟩ ?_
 rintro e h2 ⟨e0,j,zs,a2,c2,rfl,hj,hown,habs,hgood,hsml,hkeep⟩
 conv=>whnf
 have hzl:zs.length=j:=by
  have:=congrArg List.length habs
  simp at this;omega
 by_cases hjq:j<q
 ·refine Ac (by omega) ?_;conv=>whnf
  have hs2:=hs.keepT hkeep (fun c=>hto (by rw [← c]))
  obtain ⟨b,off,l,E,fz,rfl,hb,hc⟩:=hs2.pos (by omega)
  obtain ⟨y,hy⟩:∃ y,ys[j]? = some y:=⟨ys[j]'(by omega),by simp⟩
  have my:y∈ys:=List.mem_of_getElem? hy
  have g:(l.drop (off+j*4)).take 4=y.cells:=by rw [part_of_take hc (by omega),encs_part hy]
  have gy:y.Good h2 (o,2):=Sl.keepT (L.good y (hmem y my)) hkeep (fun c=>hto (by rw [← c]))
  have sy:=L.small y (hmem y my)
  refine Ai rfl hjq rfl rfl ?_;conv=>whnf
  refine Ab rfl hb g rfl ?_;conv=>whnf
  refine AAlloc.mk (0,1) rfl fun b10 f10=>?_;conv=>whnf
  refine AStore.agg' rfl rfl rfl (Heap.set_same _ _ _) rfl ?_;conv=>whnf
  rw [Heap.set_set]
  have s10:=f10.sub (row (0,1) [I y.term,I y.index,I y.kind, .slice y.a y.n y.c] 59)
  refine Ab rfl (Heap.set_same _ _ _) rfl rfl ?_;conv=>whnf
  refine ACalls.mono (own_any _ td hd y (Sl.sub gy s10) (by omega)) ?_
  rintro v h3 ⟨ax,cx,rfl,hslx,hsub3⟩
  conv=>whnf
  refine ABuildSl.mk (0,1) rfl rfl rfl rfl rfl rfl rfl fun b11 f11=>?_;conv=>whnf
  have s4:=s10.trans (hsub3.trans (f11.sub (row (0,1) [I y.term,I y.index,I y.kind, .slice ax y.n cx] 59)))
  refine AAppend.own (t:=tg) (E:=59) (z:=4) (by_:=48) (zero:=[I 0,I 0,I 0, .slice none 0 0]) (tx:=(0,1)) (xs:=[I y.term,I y.index,I y.kind, .slice ax y.n cx]) rfl ⟨_,rfl⟩ rfl rfl rfl rfl (by omega) (hown.move fun _ _ z=>s4 _ _ z)
   ⟨rfl,Nat.le_refl _, .inr ⟨b11,0,_,_,_,rfl,Heap.set_same _ _ _,rfl⟩⟩ rfl (by omega) (by omega) fun a5 cap5 h5 hown5 hk5 _=>?_
  conv=>whnf
  refine Ag (by omega) (by omega) ((by omega:(j:Int)+1=((j+1:Nat):Int))) ?_;conv=>whnf
  refine ⟨⟨_,j+1,zs++[⟨y.term,y.index,y.kind,ax,y.n,cx,y.data⟩],a5,cap5,Au ⟨rfl,rfl,rfl,rfl,trivial⟩,by omega,?_,?_,?_,?_,?_⟩,?_⟩
  ·rw [encs_append,encs_one];exact hown5
  ·rw [List.map_append,habs,List.take_succ_eq_append_getElem (by omega),(List.getElem?_eq_some_iff.1 hy).2]
   simp [EH.abs]
  ·intro z hz
   rcases List.mem_append.1 hz with hz | hz
   ·exact Own.keepT (Own.sub (hgood z hz) s4) hk5 htd
   ·obtain rfl:=List.mem_singleton.1 hz
    exact Own.keepT (Own.sub hslx (f11.sub _)) hk5 htd
  ·intro z hz
   rcases List.mem_append.1 hz with hz | hz
   ·exact hsml z hz
   ·obtain rfl:=List.mem_singleton.1 hz
    exact sy
  ·exact hkeep.trans ((s4.keepT tg).trans hk5)
  ·show q-(j+1)<q-j
   omega
 ·refine Ad (by omega) ?_;conv=>whnf
  obtain rfl:j=q:=by omega
  refine ⟨a2,j,c2,zs,rfl,⟨hown.sl,fun z hz=>(hgood z hz).sl,fun z hz=>by have:=hsml z hz;omega⟩,?_,hsml,hkeep,hown,hgood⟩
  rw [habs,hfin,List.take_of_length_le (by omega)]
abbrev Abs:=Int×Int×Int×List Int
structure LG where
  bi:Int
  bt:Int
  es:List Abs
def lnew (i t:Int):LG:=⟨i,t,[]⟩
def LG.last (L:LG):Int×Int:=match L.es.getLast? with
  | some e=>(e.2.1,e.1)
  | none=>(L.bi,L.bt)
def achk (e:Abs) (m:Int×Int):Int :=
  if isNum e.1=false∨isNum e.2.1=false∨e.2.2.1<0∨2<e.2.2.1∨1200<e.2.2.2.length then 2 else if e.2.1≠m.1+1 then 170 else if e.1<m.2 then 2 else 0
def aapp (m:Int×Int):List Abs→Int
  | []=>0
  | x::r=>if achk x m=0 then aapp (x.2.1,x.1) r else achk x m
def LG.append (L:LG) (xs:List Abs):Int×LG:=if aapp L.last xs=0 then (0,{L with es:=L.es++xs}) else (aapp L.last xs,L)
def LG.spot (L:LG) (i:Int):Option Abs:=if L.bi<i then L.es[(i-L.bi-1).toNat]? else none
def LG.reach (L:LG) (i:Int):Bool:=decide (L.bi<i∧i≤L.bi+L.es.length+1)
def LG.cut (L:LG) (i:Int):Int×LG:=if L.reach i=true then (0,{L with es:=L.es.take (i-L.bi-1).toNat}) else (9,L)
def LG.compact (L:LG) (i:Int):Int×LG:=match L.spot i with
  | some e=>(0,⟨e.2.1,e.1,L.es.drop ((i-L.bi-1).toNat+1)⟩)
  | none=>(9,L)
def LG.term (L:LG) (i:Int):Int×Int:=if i=L.bi then (L.bt,0) else match L.spot i with
  | some e=>(e.1,0)
  | none=>(0,9)
def LG.get (L:LG) (i:Int):Abs×Int:=match L.spot i with
  | some e=>(e,0)
  | none=>((0,0,0,[]),9)
def LG.slice (L:LG) (i most:Int):List Abs×Int :=
  if L.reach i=false then ([],9) else if most<0 then ([],2) else ((L.es.drop (i-L.bi-1).toNat).take most.toNat,0)
structure LOk (L:LG):Prop where
  idx:∀ (k:Nat) e,L.es[k]? = some e→e.2.1=L.bi+1+k
  lo:0≤L.bi
  top:L.bi+L.es.length≤9007199254740991
  small:∀ e∈L.es,e.2.2.2.length≤1200
theorem LOk.new {i t:Int} (h0:0≤i) (h1:i≤9007199254740991):LOk (lnew i t):=⟨fun k e he=>by simp [lnew] at he,h0,by simpa [lnew] using h1,by simp [lnew]⟩
theorem okBase_bd {i t:Int} (h:okBase i t=true):0≤i∧i≤9007199254740991:=by
 simp [okBase,isNum] at h;omega
theorem LOk.last {L:LG} (k:LOk L):L.last.1=L.bi+L.es.length:=by
 unfold LG.last
 cases h:L.es.getLast? with
 | none=>rw [List.getLast?_eq_none_iff.1 h];simp
 | some e =>
  rw [List.getLast?_eq_getElem?] at h
  have h1:=k.idx _ _ h
  have:L.es.length-1<L.es.length:=(List.getElem?_eq_some_iff.1 h).1
  simp only [h1];omega
theorem achk_zero {e:Abs} {m:Int×Int} (h:achk e m=0):isNum e.1=true∧isNum e.2.1=true∧0≤e.2.2.1∧e.2.2.1≤2∧e.2.2.2.length≤1200∧e.2.1=m.1+1∧m.2≤e.1:=by
 unfold achk at h
 split at h
 ·cases h
 ·rename_i c
  split at h
  ·cases h
  ·rename_i c1
   split at h
   ·cases h
   ·rename_i c2
    simp only [not_or,Bool.not_eq_false] at c
    exact ⟨c.1,c.2.1,by omega,by omega,by omega,by omega,by omega⟩
theorem aapp_ok:∀ (xs:List Abs) (m:Int×Int),0≤m.1→aapp m xs=0→(∀ (k:Nat) e,xs[k]? = some e→e.2.1=m.1+1+k)∧(xs≠[]→m.1+xs.length≤9007199254740991)∧∀ e∈xs,e.2.2.2.length≤1200
 | [],m,h0,h=>⟨fun k e he=>by simp at he,by simp,by simp⟩
 | x::r,m,h0,h=>by
  unfold aapp at h
  split at h
  ·rename_i hz
   obtain ⟨z1,z2,z3,z4,z5,z6,z7⟩:=achk_zero hz
   have zn:=isNum_iff.1 z2
   obtain ⟨i1,i2,i3⟩:=aapp_ok r (x.2.1,x.1) (by simp only [];omega) h
   refine ⟨fun k e he=>?_,fun _=>?_,fun e he=>?_⟩
   ·cases k with
    | zero=>simp at he;subst he;rw [z6];simp
    | succ k =>
     simp only [List.getElem?_cons_succ] at he
     have:=i1 k e he
     simp only [] at this
     rw [this,z6];omega
   ·cases r with
    | nil=>simp only [List.length_singleton];omega
    | cons y r =>
     have:=i2 (by simp)
     simp only [List.length_cons] at this ⊢;omega
   ·rcases List.mem_cons.1 he with rfl | he
    ·exact z5
    ·exact i3 e he
  ·rename_i hz;exact absurd h hz
theorem LOk.append {L:LG} (k:LOk L) (xs:List Abs):LOk (L.append xs).2:=by
 unfold LG.append
 split
 ·rename_i hz
  have hl:=k.last
  have h0:=k.lo
  have h1:=k.top
  obtain ⟨i1,i2,i3⟩:=aapp_ok xs L.last (by omega) hz
  refine ⟨fun j e he=>?_,k.lo,?_,fun e he=>?_⟩
  ·simp only [] at he ⊢
   rw [List.getElem?_append] at he
   split at he
   ·exact k.idx j e he
   ·have:=i1 _ e he
    rw [hl] at this;omega
  ·simp only [List.length_append]
   by_cases hx:xs=[]
   ·subst hx;simpa using k.top
   ·have:=i2 hx
    omega
  ·rcases List.mem_append.1 he with he | he
   ·exact k.small e he
   ·exact i3 e he
 ·exact k
theorem LOk.cut {L:LG} (k:LOk L) (i:Int):LOk (L.cut i).2:=by
 unfold LG.cut
 split
 ·refine ⟨fun j e he=>?_,k.lo,?_,fun e he=>k.small e (List.mem_of_mem_take he)⟩
  ·simp only [List.getElem?_take] at he
   split at he
   ·exact k.idx j e he
   ·cases he
  ·have:=k.top
   simp only [List.length_take];omega
 ·exact k
theorem LG.spot_some {L:LG} {i:Int} {e:Abs} (h:L.spot i=some e):L.bi<i∧i≤L.bi+L.es.length∧L.es[(i-L.bi-1).toNat]? = some e:=by
 unfold LG.spot at h
 split at h
 ·have:=(List.getElem?_eq_some_iff.1 h).1
  exact ⟨by assumption,by omega,h⟩
 ·cases h
theorem LG.spot_none {L:LG} {i:Int} (h:L.spot i=none):¬ (L.bi<i∧i≤L.bi+L.es.length):=by
 unfold LG.spot at h
 split at h
 ·rw [List.getElem?_eq_none_iff] at h;omega
 ·omega
theorem lastM_abs (L:LG) {es:List EH} (h:es.map EH.abs=L.es):lastM L.bi L.bt es=L.last:=by
 unfold lastM LG.last
 rw [← h,List.getLast?_map]
 cases es.getLast? with
 | none=>rfl
 | some e=>rfl
theorem chk_abs {e:EH} (m:Int×Int) (hn:e.data.length=e.n):chk e m=achk e.abs m:=by
 unfold chk achk
 rw [show e.abs.2.2.2.length=e.n from hn]
 rfl
theorem app_abs:∀ (xs:List EH) (m:Int×Int),(∀ e∈xs,e.data.length=e.n)→app m xs=aapp m (xs.map EH.abs)
 | [],m,_=>rfl
 | x::r,m,h=>by
  rw [List.map_cons,app,aapp,chk_abs m (h x (by simp)),app_abs r _ fun e he=>h e (List.mem_cons_of_mem _ he)]
  rfl
theorem seq_abs {L:LG} (k:LOk L) {es:List EH} (h:es.map EH.abs=L.es):Seq L.bi es:=by
 have hl:es.length=L.es.length:=by rw [← h];simp
 refine ⟨fun j e he=>?_,k.lo,by rw [hl];exact k.top⟩
 have:=k.idx j e.abs (by rw [← h];simp [he])
 exact this
theorem spot_abs {L:LG} {es:List EH} (h:es.map EH.abs=L.es) {i:Int} {e:Abs} (hs:L.spot i=some e):∃ (k:Nat) (y:EH),i-L.bi-1=k∧es[k]? = some y∧y.abs=e:=by
 obtain ⟨h1,h2,h3⟩:=LG.spot_some hs
 rw [← h,List.getElem?_map] at h3
 cases hy:es[(i-L.bi-1).toNat]? with
 | none=>rw [hy] at h3;cases h3
 | some y =>
  rw [hy] at h3
  exact ⟨_,y,by omega,hy,by simpa using h3⟩
def LA (h:Heap) (p o:Nat) (L:LG):Prop:=∃ es a cap,LedAt h p o L.bi L.bt es a cap∧es.map EH.abs=L.es
theorem New_c (h:Heap) (o:Nat) (ho:o≠0) (i t:Int) :
  ACalls PR 77 #[I i,I t] h (fun v h'=>(okBase i t=true∧∃ p,v = .tuple #[.pointer (some ⟨p,0,none⟩),I 0]∧LA h' p o (lnew i t)∧Sub h h')∨(okBase i t=false∧v = .tuple #[.pointer none,I 2]∧Sub h h')):=by
 refine (New_any h o ho i t).mono fun v h' q=>?_
 rcases q with ⟨a,p,b,c,d⟩ | ⟨a,b,c⟩
 ·exact .inl ⟨a,p,b,⟨[],none,0,c,rfl⟩,d⟩
 ·exact .inr ⟨a,b,c⟩
theorem Append_c {h:Heap} {p o:Nat} (ho:o≠0) {L:LG} (l:LA h p o L) (k:LOk L) {t td:Tag} (ht:t.1≠o) (htd:td.1≠o) {xa:Option Addr} {m xc:Nat} {xs:List EH} (X:Ents h t td xa m xc xs)
  (hroom:(L.es.length+m)*48≤140737488355328) :
  ACalls PR 78 #[.pointer (some ⟨p,0,none⟩), .slice xa m xc] h (fun v h'=>v=I (L.append (xs.map EH.abs)).1∧LA h' p o (L.append (xs.map EH.abs)).2∧Keep o h h'):=by
 obtain ⟨es,a,cap,A,hes⟩:=l
 have hl:es.length=L.es.length:=by rw [← hes];simp
 have hap:app (lastM L.bi L.bt es) xs=aapp L.last (xs.map EH.abs):=by rw [lastM_abs L hes];exact app_abs xs _ fun e he=>(X.good e he).len
 refine (Append_any ho A (seq_abs k hes) ht htd X (by rw [hl];exact hroom)).mono fun v h' q=>?_
 rw [hap] at q
 unfold LG.append
 rcases q with ⟨q1,q2,q3⟩ | ⟨q1,q2,es',a',cap',q3,q4,q5⟩
 ·rw [if_neg q1];exact ⟨q2,⟨es,a,cap,A.sub q3,hes⟩,q3.keep o⟩
 ·rw [if_pos q1];exact ⟨q2,⟨es',a',cap',q3,by rw [q4,List.map_append,hes]⟩,q5⟩
theorem Cut_c {h:Heap} {p o:Nat} {L:LG} (l:LA h p o L) (k:LOk L) (i:Int) :
  ACalls PR 181 #[.pointer (some ⟨p,0,none⟩),I i] h (fun v h'=>v=I (L.cut i).1∧LA h' p o (L.cut i).2∧Keep o h h'):=by
 obtain ⟨es,a,cap,A,hes⟩:=l
 have hl:es.length=L.es.length:=by rw [← hes];simp
 by_cases c:L.bi<i∧i≤L.bi+L.es.length+1
 ·have hr:L.reach i=true:=by rw [LG.reach,decide_eq_true c]
  refine (Cut_ok A (seq_abs k hes) i (i-L.bi-1).toNat (by omega) (by omega)).mono fun v h' q=>?_
  unfold LG.cut;rw [if_pos hr]
  obtain ⟨q1,q2,q3⟩:=q
  exact ⟨q1,⟨_,a,cap,q2,by rw [List.map_take,hes]⟩,q3⟩
 ·have hr:¬ L.reach i=true:=by rw [LG.reach];simp;omega
  refine (Cut_no A (seq_abs k hes) i (by rw [hl];exact c)).mono fun v h' q=>?_
  obtain ⟨q1,rfl⟩:=q
  unfold LG.cut;rw [if_neg hr]
  exact ⟨q1,⟨es,a,cap,A,hes⟩,Keep.refl _ _⟩
theorem Compact_c {h:Heap} {p o:Nat} (ho:o≠0) {L:LG} (l:LA h p o L) (k:LOk L) (i:Int) (hroom:L.es.length*48≤140737488355328) :
  ACalls PR 69 #[.pointer (some ⟨p,0,none⟩),I i] h (fun v h'=>v=I (L.compact i).1∧LA h' p o (L.compact i).2∧Keep o h h'):=by
 obtain ⟨es,a,cap,A,hes⟩:=l
 have hl:es.length=L.es.length:=by rw [← hes];simp
 cases hs:L.spot i with
 | none =>
  refine (Compact_no A (seq_abs k hes) i (by rw [hl];exact LG.spot_none hs)).mono fun v h' q=>?_
  obtain ⟨q1,rfl⟩:=q
  unfold LG.compact;rw [hs]
  exact ⟨q1,⟨es,a,cap,A,hes⟩,Keep.refl _ _⟩
 | some e =>
  obtain ⟨j,y,hj,hy,hab⟩:=spot_abs hes hs
  refine (Compact_ok ho A (seq_abs k hes) i j y hj hy (by rw [hl];exact hroom)).mono fun v h' q=>?_
  obtain ⟨q1,a',cap',q2,q3⟩:=q
  unfold LG.compact;rw [hs,← hab]
  refine ⟨q1,⟨_,a',cap',q2,?_⟩,q3⟩
  simp only [hj,Int.toNat_natCast]
  rw [List.map_drop,hes]
theorem term_abs {L:LG} {es:List EH} (h:es.map EH.abs=L.es) (i:Int):termR L.bi L.bt es i=L.term i:=by
 unfold termR LG.term LG.spot
 by_cases c:i=L.bi
 ·rw [if_pos c,if_pos c]
 ·rw [if_neg c,if_neg c,← h,List.getElem?_map]
  by_cases c1:L.bi<i
  ·rw [if_pos c1]
   cases es[(i-L.bi-1).toNat]? with
   | none=>rfl
   | some e=>simp only [Option.map_some];rw [if_pos c1];rfl
  ·rw [if_neg c1]
   cases es[(i-L.bi-1).toNat]? with
   | none=>rfl
   | some e=>simp only [];rw [if_neg c1]
theorem Term_c {h:Heap} {p o:Nat} {L:LG} (l:LA h p o L) (k:LOk L) (i:Int) :
  ACalls PR 68 #[.pointer (some ⟨p,0,none⟩),I i] h (fun v h'=>v = .tuple #[I (L.term i).1,I (L.term i).2]∧h=h'):=by
 obtain ⟨es,a,cap,A,hes⟩:=l
 have:=Term_any A (seq_abs k hes) i
 rw [term_abs hes] at this
 exact this
theorem Has_c {h:Heap} {p o:Nat} {L:LG} (l:LA h p o L) (k:LOk L) (i t:Int) :
  ACalls PR 122 #[.pointer (some ⟨p,0,none⟩),I i,I t] h (fun v h'=>v = .bool (decide ((L.term i).2=0∧(L.term i).1=t))∧h=h'):=by
 obtain ⟨es,a,cap,A,hes⟩:=l
 have:=Has_any A (seq_abs k hes) i t
 rw [term_abs hes] at this
 exact this
theorem First_c {h:Heap} {p o:Nat} {L:LG} (l:LA h p o L) (k:LOk L) :
  ACalls PR 142 #[.pointer (some ⟨p,0,none⟩)] h (fun v h'=>v=I (L.bi+1)∧h=h'):=by
 obtain ⟨es,a,cap,A,hes⟩:=l
 exact First_any A k.lo (by have:=k.top;omega)
theorem Last_c {h:Heap} {p o:Nat} {L:LG} (l:LA h p o L) (k:LOk L) :
  ACalls PR 51 #[.pointer (some ⟨p,0,none⟩)] h (fun v h'=>v = .tuple #[I L.last.1,I L.last.2]∧h=h'):=by
 obtain ⟨es,a,cap,A,hes⟩:=l
 have hl:es.length=L.es.length:=by rw [← hes];simp
 have:=Last_any A (by have:=k.top;have:=k.lo;omega)
 rw [lastM_abs L hes] at this
 exact this
theorem Get_c {h:Heap} {p o:Nat} {L:LG} (l:LA h p o L) (k:LOk L) (tg:Tag) (ht:tg≠(0,1)) (i:Int) :
  ACalls PR 71 #[.pointer (some ⟨p,0,none⟩),I i] h (fun v h'=>∃ e:EH,v = .tuple #[.agg e.cells.toArray,I (L.get i).2]∧e.Mine h' tg∧e.abs=(L.get i).1∧e.n≤1200∧Sub h h'):=by
 obtain ⟨es,a,cap,A,hes⟩:=l
 have hl:es.length=L.es.length:=by rw [← hes];simp
 cases hs:L.spot i with
 | none =>
  refine (Get_none A (seq_abs k hes) i (by rw [hl];exact LG.spot_none hs)).mono fun v h' q=>?_
  obtain ⟨q1,rfl⟩:=q
  unfold LG.get;rw [hs]
  exact ⟨⟨0,0,0,none,0,0,[]⟩,q1, .inl ⟨rfl,rfl,rfl⟩,rfl,by simp,Sub.refl _⟩
 | some e =>
  obtain ⟨j,y,hj,hy,hab⟩:=spot_abs hes hs
  have sm:=A.small y (List.mem_of_getElem? hy)
  refine (Get_some A (seq_abs k hes) tg ht i j y hj hy).mono fun v h' q=>?_
  obtain ⟨a',c',q1,q2,q3⟩:=q
  unfold LG.get;rw [hs,← hab]
  exact ⟨⟨y.term,y.index,y.kind,a',y.n,c',y.data⟩,q1,q2,rfl,sm,q3⟩
theorem Slice_c {h:Heap} {p o:Nat} {L:LG} (l:LA h p o L) (k:LOk L) (tg td:Tag) (ht:tg≠(0,1)) (hd:td≠(0,1)) (hto:tg.1≠o) (htd:td≠tg) (i most:Int) (hroom:L.es.length*48≤140737488355328) :
  ACalls PR 168 #[.pointer (some ⟨p,0,none⟩),I i,I most] h (fun v h'=>∃ a n c zs,v = .tuple #[.slice a n c,I (L.slice i most).2]∧Ents h' tg td a n c zs∧zs.map EH.abs=(L.slice i most).1∧(∀ z∈zs,z.n≤1200)∧KeepT tg h h'∧Own h' tg 59 a n c 4 (encs zs)∧∀ z∈zs,z.Mine h' td):=by
 obtain ⟨es,a,cap,A,hes⟩:=l
 have hl:es.length=L.es.length:=by rw [← hes];simp
 have nil:∀ h':Heap,Ents h' tg td none 0 0 []:=fun h'=>⟨Sl.nil ..,by simp,by simp⟩
 by_cases c:L.bi<i∧i≤L.bi+L.es.length+1
 ·have hr:L.reach i=true:=by rw [LG.reach,decide_eq_true c]
  by_cases c1:most<0
  ·refine (Slice_neg A (seq_abs k hes) i most (by rw [hl];exact c) c1).mono fun v h' q=>?_
   obtain ⟨q1,rfl⟩:=q
   unfold LG.slice;rw [if_neg (by rw [hr];decide),if_pos c1]
   exact ⟨none,0,0,[],q1,nil _,rfl,by simp,KeepT.refl _ _, .inl ⟨rfl,rfl,rfl⟩,by simp⟩
  ·refine (Slice_ok A (seq_abs k hes) tg td ht hd hto htd i most (i-L.bi-1).toNat (by omega) (by omega) (by omega) (by rw [hl];exact hroom)).mono fun v h' q=>?_
   obtain ⟨a',n',c',zs,q1,q2,q3,q4,q5,q6,q7⟩:=q
   unfold LG.slice;rw [if_neg (by rw [hr];decide),if_neg c1]
   exact ⟨a',n',c',zs,q1,q2,by rw [q3,List.map_take,List.map_drop,hes],q4,q5,q6,q7⟩
 ·have hr:L.reach i=false:=by rw [LG.reach];simp;omega
  refine (Slice_no A (seq_abs k hes) i most (by rw [hl];exact c)).mono fun v h' q=>?_
  obtain ⟨q1,rfl⟩:=q
  unfold LG.slice;rw [if_pos hr]
  exact ⟨none,0,0,[],q1,nil _,rfl,by simp,KeepT.refl _ _, .inl ⟨rfl,rfl,rfl⟩,by simp⟩
structure RLedAt (h:Heap) (p o:Nat) (bi bt:Int) (es:List EH) (a:Option Addr) (cap:Nat):Prop where
  str:h p=some (row (o,0) [I bi,I bt, .slice a es.length cap] 135)
  own:Own h (o,1) 59 a es.length cap 4 (encs es)
  good:∀ e∈es,e.Good h (o,2)
theorem RLedAt.move {h h':Heap} {p o:Nat} {bi bt:Int} {es:List EH} {a:Option Addr} {cap:Nat} (L:RLedAt h p o bi bt es a cap) (k:∀ b (t:Tag) x,t.1=o→h b=some (t,x)→h' b=some (t,x)):RLedAt h' p o bi bt es a cap :=
 ⟨k _ _ _ rfl L.str,L.own.move fun _ _ e=>k _ _ _ rfl e,fun x hx=>Sl.move (L.good x hx) fun _ _ e=>k _ _ _ rfl e⟩
theorem RLedAt.sub {h h':Heap} {p o:Nat} {bi bt:Int} {es:List EH} {a:Option Addr} {cap:Nat} (L:RLedAt h p o bi bt es a cap) (k:Sub h h'):RLedAt h' p o bi bt es a cap :=
 L.move fun _ _ _ _ e=>k _ _ e
def RL (h:Heap) (p o:Nat) (L:LG):Prop:=∃ es a cap,RLedAt h p o L.bi L.bt es a cap∧es.map EH.abs=L.es
theorem RL.move {h h':Heap} {p o:Nat} {L:LG} (l:RL h p o L) (k:∀ b (t:Tag) x,t.1=o→h b=some (t,x)→h' b=some (t,x)):RL h' p o L:=by
 obtain ⟨es,a,cap,x,y⟩:=l;exact ⟨es,a,cap,x.move k,y⟩
theorem RL.sub {h h':Heap} {p o:Nat} {L:LG} (l:RL h p o L) (k:Sub h h'):RL h' p o L:=l.move fun _ _ _ _ e=>k _ _ e
theorem small_abs {L:LG} (k:LOk L) {h:Heap} {t:Tag} {es:List EH} (hes:es.map EH.abs=L.es) (g:∀ e∈es,e.Good h t):∀ e∈es,e.n≤1200:=fun e he=>by
 have:=k.small e.abs (by rw [← hes];exact List.mem_map_of_mem he)
 rw [← (g e he).len];exact this
theorem rnumber_any (n:Int) (h:Heap):ACalls PR 81 #[I n] h (fun v h'=>v = .bool (isNum n)∧h=h'):=by
 refine Ar (As mix Tryz.func81 rfl rfl Tryz.ntmps81 Tryz.results81 rfl ?_);conv=>whnf
 by_cases h1:1≤n
 ·refine Ac (h1) ?_;conv=>whnf
  by_cases h2:n≤9007199254740991
  ·refine Ac (h2) ?_;conv=>whnf
   exact ⟨by simp [isNum,h1,h2],Sub.refl _⟩
  ·refine Ad (h2) ?_;conv=>whnf
   exact ⟨by simp [isNum,h2],Sub.refl _⟩
 ·refine Ad (h1) ?_;conv=>whnf
  exact ⟨by simp [isNum,h1],Sub.refl _⟩
theorem copyB_any (h:Heap) (tg:Tag) {t:Tag} {a:Option Addr} {n c:Nat} {xs:List Int} (s:Sl h t a n c 1 (bytesV xs)) (hn:n≤140737488355328) :
  ACalls PR 38 #[.slice a n c] h (fun v h'=>∃ a' c',v = .slice a' n c'∧Own h' tg 5 a' n c' 1 (bytesV xs)∧Sub h h'):=by
 refine As mix Tryz.func38 rfl rfl Tryz.ntmps38 Tryz.results38 rfl ?_;conv=>whnf
 refine AAppend.own (t:=tg) (E:=5) (z:=1) (by_:=1) (zero:=[.int .u8 0]) (cs:=[]) rfl ⟨_,rfl⟩ rfl rfl rfl rfl (by omega) (.inl ⟨rfl,rfl,rfl⟩) s (oneCell_bytes _) (by omega) (by omega) fun a' c' h' ho hk hsub=>?_
 conv=>whnf
 refine ⟨a',c',?_,?_,hsub rfl⟩
 ·show Value.slice a' (0+n) c'=_
  rw [Nat.zero_add]
 ·rw [Nat.zero_add] at ho
  exact ho
theorem copyE_any (h:Heap) (tg:Tag) (ht:tg≠(0,1)) {t:Tag} (e:EH) (g:e.Good h t) (hn:e.n≤140737488355328) :
  ACalls PR 84 #[e.val] h (fun v h'=>∃ a' c',v = .agg #[I e.term,I e.index,I e.kind, .slice a' e.n c']∧Own h' tg 5 a' e.n c' 1 (bytesV e.data)∧Sub h h'):=by
 refine As mix Tryz.func84 rfl rfl Tryz.ntmps84 Tryz.results84 rfl ?_;conv=>whnf
 refine ABox.mk (0,1) rfl fun b1 f1=>?_;conv=>whnf
 refine AAlloc.mk (0,1) rfl fun b2 f2=>?_;conv=>whnf
 have s1:=f1.sub (row (0,1) [I e.term,I e.index,I e.kind, .slice e.a e.n e.c] 59)
 have s2:=s1.trans (f2.sub (row (0,1) [I 0,I 0,I 0, .slice none 0 0] 59))
 have k1:=f2.sub (row (0,1) [I 0,I 0,I 0, .slice none 0 0] 59) _ _ (Heap.set_same h b1 (row (0,1) [I e.term,I e.index,I e.kind, .slice e.a e.n e.c] 59))
 have k2:=Heap.set_same (h.set b1 (row (0,1) [I e.term,I e.index,I e.kind, .slice e.a e.n e.c] 59)) b2 (row (0,1) [I 0,I 0,I 0, .slice none 0 0] 59)
 have h12:b1≠b2:=f2.ne (Heap.set_same h b1 (row (0,1) [I e.term,I e.index,I e.kind, .slice e.a e.n e.c] 59))
 refine Aa rfl k1 rfl ?_;conv=>whnf
 refine ACalls.mono (copyB_any _ tg (Sl.sub g s2) hn) ?_
 rintro v h' ⟨a',c',rfl,hsl,hsub⟩
 conv=>whnf
 have k1':=hsub _ _ k1
 have k2':=hsub _ _ k2
 refine AStore.one' rfl rfl rfl k1' rfl ?_;conv=>whnf
 refine Ab rfl (Heap.set_same _ _ _) rfl rfl ?_;conv=>whnf
 refine AStore.agg' rfl rfl rfl (Heap.set_ne (Ne.symm h12) k2') rfl ?_;conv=>whnf
 refine Ab rfl (Heap.set_same _ _ _) rfl rfl ?_;conv=>whnf
 refine ⟨a',c',rfl,?_,((s2.trans hsub).set f1.none _).set (f2.none' s1) _⟩
 exact (hsl.keepT (KeepT.set k1') ht).keepT (KeepT.set (Heap.set_ne (Ne.symm h12) k2')) ht
def may (e:EH):Bool:=isNum e.term&&isNum e.index&&decide (0≤e.kind)&&decide (e.kind≤2)&&decide (e.n≤1200)
theorem May_any (h:Heap) (e:EH):ACalls PR 83 #[e.val] h (fun v h'=>v = .bool (may e)∧h=h'):=by
 refine Ar (As mix Tryz.func83 rfl rfl Tryz.ntmps83 Tryz.results83 rfl ?_);conv=>whnf
 refine ABox.mk (0,1) rfl fun b1 f1=>?_;conv=>whnf
 have s1:=f1.sub (row (0,1) [I e.term,I e.index,I e.kind, .slice e.a e.n e.c] 59)
 have k1:=Heap.set_same h b1 (row (0,1) [I e.term,I e.index,I e.kind, .slice e.a e.n e.c] 59)
 refine Aa rfl k1 rfl ?_;conv=>whnf
 refine C2 (rnumber_any e.term _) ?_;conv=>whnf
 cases c1:isNum e.term with
 | false =>
  conv=>whnf
  exact ⟨by simp [may,c1],s1⟩
 | true =>
  conv=>whnf
  refine Aa rfl k1 rfl ?_;conv=>whnf
  refine C2 (rnumber_any e.index _) ?_;conv=>whnf
  cases c2:isNum e.index with
  | false =>
   conv=>whnf
   exact ⟨by simp [may,c2],s1⟩
  | true =>
   conv=>whnf
   refine Aa rfl k1 rfl ?_;conv=>whnf
   by_cases c3:0≤e.kind
   ·refine Ac (c3) ?_;conv=>whnf
    refine Aa rfl k1 rfl ?_;conv=>whnf
    by_cases c4:e.kind≤2
    ·refine Ac (c4) ?_;conv=>whnf
     refine Aa rfl k1 rfl ?_;conv=>whnf
     by_cases c5:e.n≤1200
     ·refine Ac (by omega) ?_;conv=>whnf
      exact ⟨by simp [may,c1,c2,c3,c4,c5],s1⟩
     ·refine Ad (by omega) ?_;conv=>whnf
      exact ⟨by simp [may,c5],s1⟩
    ·refine Ad (c4) ?_;conv=>whnf
     exact ⟨by simp [may,c4],s1⟩
   ·refine Ad (c3) ?_;conv=>whnf
    exact ⟨by simp [may,c3],s1⟩
theorem rLast_c {h:Heap} {p o:Nat} {L:LG} (l:RL h p o L) (k:LOk L) :
  ACalls PR 82 #[.pointer (some ⟨p,0,none⟩)] h (fun v h'=>v = .tuple #[I L.last.1,I L.last.2]∧h=h'):=by
 obtain ⟨es,a,cap,A,hes⟩:=l
 have hl:es.length=L.es.length:=by rw [← hes];simp
 have htop:=k.top
 have hlo:=k.lo
 have hp:=A.str
 rw [← lastM_abs L hes]
 refine Ar (As mix Tryz.func82 rfl rfl Tryz.ntmps82 Tryz.results82 rfl ?_);conv=>whnf
 refine Aa rfl hp rfl ?_;conv=>whnf
 by_cases hn:es.length=0
 ·refine Ac (by omega) ?_;conv=>whnf
  have h0:es=[]:=List.eq_nil_of_length_eq_zero hn
  refine Am (h) [] (Sub.refl _) (by decide +kernel) ?_;conv=>whnf
  refine Aa rfl hp rfl ?_
  refine Aa rfl hp rfl ?_;conv=>whnf
  exact ⟨by subst h0;rfl,Sub.refl _⟩
 ·refine Ad (by omega) ?_;conv=>whnf
  obtain ⟨j,hj⟩:∃ j,es.length=j+1:=⟨es.length-1,by omega⟩
  obtain ⟨e,he⟩:∃ e,es[j]? = some e:=⟨es[j],by simp [hj]⟩
  have hlast:es.getLast? = some e:=by rw [List.getLast?_eq_getElem?,hj];exact he
  obtain ⟨b,off,m,E,fz,rfl,hb,hc⟩:=A.own.sl.pos (by omega)
  have g:(m.drop (off+j*4)).take 4=e.cells:=by rw [part_of_take hc (by omega),encs_part he]
  refine Am (h) [13] (Sub.refl _) (by decide +kernel) ?_;conv=>whnf
  refine Aa rfl hp rfl ?_
  refine Aa rfl hp rfl ?_;conv=>whnf
  refine Ag (by omega) (by omega) (rfl) ?_;conv=>whnf
  refine Ai (j:=j) (by omega) (by omega) rfl rfl ?_;conv=>whnf
  refine Ab rfl hb g rfl ?_;conv=>whnf
  refine AAlloc.mk (0,1) rfl fun b4 f4=>?_;conv=>whnf
  refine ⟨f4.sub _,?_⟩;conv=>whnf
  refine AStore.agg' rfl rfl rfl (Heap.set_same _ _ _) rfl ?_;conv=>whnf
  rw [Heap.set_set]
  have k4:=Heap.set_same h b4 (row (0,1) [I e.term,I e.index,I e.kind, .slice e.a e.n e.c] 59)
  have s4:=f4.sub (row (0,1) [I e.term,I e.index,I e.kind, .slice e.a e.n e.c] 59)
  refine Am (_) [] (Sub.refl _) (by decide +kernel) ?_;conv=>whnf
  refine Aa rfl k4 rfl ?_
  refine Aa rfl k4 rfl ?_;conv=>whnf
  exact ⟨by simp [lastM,hlast],s4⟩
theorem rFirst_c {h:Heap} {p o:Nat} {L:LG} (l:RL h p o L) (k:LOk L) :
  ACalls PR 160 #[.pointer (some ⟨p,0,none⟩)] h (fun v h'=>v=I (L.bi+1)∧h=h'):=by
 obtain ⟨es,a,cap,A,hes⟩:=l
 have htop:=k.top
 have hlo:=k.lo
 refine Ar (As mix Tryz.func160 rfl rfl Tryz.ntmps160 Tryz.results160 rfl ?_);conv=>whnf
 refine Aa rfl A.str rfl ?_;conv=>whnf
 refine Ag (by omega) (by omega) (rfl) ?_;conv=>whnf
 exact ⟨rfl,Sub.refl _⟩
theorem rReach_c {h:Heap} {p o:Nat} {L:LG} (l:RL h p o L) (k:LOk L) (i:Int) :
  ACalls PR 190 #[.pointer (some ⟨p,0,none⟩),I i] h (fun v h'=>v = .bool (L.reach i)∧h=h'):=by
 have htop:=k.top
 have hlo:=k.lo
 have hlast:=k.last
 refine Ar (As mix Tryz.func190 rfl rfl Tryz.ntmps190 Tryz.results190 rfl ?_);conv=>whnf
 refine C2 (rLast_c l k) ?_;conv=>whnf
 refine C2 (rFirst_c l k) ?_;conv=>whnf
 unfold LG.reach
 by_cases c1:L.bi+1≤i
 ·refine Ac (c1) ?_;conv=>whnf
  refine Ag (by omega) (by omega) (rfl) ?_;conv=>whnf
  by_cases c2:i≤L.last.1+1
  ·refine Ac (c2) ?_;conv=>whnf
   exact ⟨by rw [decide_eq_true (by omega)],Sub.refl _⟩
  ·refine Ad (c2) ?_;conv=>whnf
   exact ⟨by rw [decide_eq_false (by omega)],Sub.refl _⟩
 ·refine Ad (c1) ?_;conv=>whnf
  exact ⟨by rw [decide_eq_false (by omega)],Sub.refl _⟩
theorem spot_some_of {L:LG} {i:Int} (h1:L.bi<i) (h2:i≤L.bi+L.es.length):∃ e,L.spot i=some e:=by
 unfold LG.spot
 rw [if_pos h1]
 exact ⟨_,List.getElem?_eq_getElem (by omega)⟩
theorem rThere_c {h:Heap} {p o:Nat} {L:LG} (l:RL h p o L) (k:LOk L) (i:Int) :
  ACalls PR 164 #[.pointer (some ⟨p,0,none⟩),I i] h (fun v h'=>v = .bool (L.spot i).isSome∧h=h'):=by
 have htop:=k.top
 have hlo:=k.lo
 have hlast:=k.last
 have no:∀ (c:¬ (L.bi<i∧i≤L.bi+L.es.length)),(L.spot i).isSome=false:=fun c=>by
  cases hs:L.spot i with
  | none=>rfl
  | some e=>obtain ⟨a,b,_⟩:=LG.spot_some hs;omega
 refine Ar (As mix Tryz.func164 rfl rfl Tryz.ntmps164 Tryz.results164 rfl ?_);conv=>whnf
 refine C2 (rLast_c l k) ?_;conv=>whnf
 refine C2 (rFirst_c l k) ?_;conv=>whnf
 by_cases c1:L.bi+1≤i
 ·refine Ac (c1) ?_;conv=>whnf
  by_cases c2:i≤L.last.1
  ·refine Ac (c2) ?_;conv=>whnf
   obtain ⟨e,he⟩:=spot_some_of (L:=L) (i:=i) (by omega) (by omega)
   exact ⟨by rw [he];rfl,Sub.refl _⟩
  ·refine Ad (c2) ?_;conv=>whnf
   exact ⟨by rw [no (by omega)],Sub.refl _⟩
 ·refine Ad (c1) ?_;conv=>whnf
  exact ⟨by rw [no (by omega)],Sub.refl _⟩
theorem rTerm_c {h:Heap} {p o:Nat} {L:LG} (l:RL h p o L) (k:LOk L) (i:Int) :
  ACalls PR 106 #[.pointer (some ⟨p,0,none⟩),I i] h (fun v h'=>v = .tuple #[I (L.term i).1,I (L.term i).2]∧h=h'):=by
 have l':=l
 obtain ⟨es,a,cap,A,hes⟩:=l
 have htop:=k.top
 have hlo:=k.lo
 have hl:es.length=L.es.length:=by rw [← hes];simp
 refine Ar (As mix Tryz.func106 rfl rfl Tryz.ntmps106 Tryz.results106 rfl ?_);conv=>whnf
 refine Aa rfl A.str rfl ?_;conv=>whnf
 unfold LG.term
 by_cases c0:i=L.bi
 ·refine Ac (c0) ?_;conv=>whnf
  refine Aa rfl A.str rfl ?_;conv=>whnf
  exact ⟨by simp [c0],Sub.refl _⟩
 ·refine Ad (c0) ?_;conv=>whnf
  refine C2 (rThere_c l' k i) ?_;conv=>whnf
  cases hs:L.spot i with
  | none =>
   conv=>whnf
   exact ⟨by simp [c0],Sub.refl _⟩
  | some x =>
   conv=>whnf
   obtain ⟨h1,h2,h3⟩:=LG.spot_some hs
   obtain ⟨j,e,hj,he,hab⟩:=spot_abs hes hs
   have hlt:j<es.length:=(List.getElem?_eq_some_iff.1 he).1
   obtain ⟨b,off,m,E,fz,rfl,hb,hc⟩:=A.own.sl.pos (by omega)
   have g0:m[off+j*4]? = some (I e.term):=by rw [get_of_take hc (by omega)];exact (encs_get (j:=0) he (by omega))
   refine Am (h) [] (Sub.refl _) (by decide +kernel) ?_;conv=>whnf
   refine Aa rfl A.str rfl ?_;conv=>whnf
   refine C2 (rFirst_c l' k) ?_;conv=>whnf
   refine ⟨Sub.refl _,?_⟩;conv=>whnf
   refine Ag (by omega) (by omega) ((by omega:i-(L.bi+1)=(j:Int))) ?_;conv=>whnf
   refine Ai rfl hlt rfl rfl ?_;conv=>whnf
   refine Aa rfl hb g0 ?_;conv=>whnf
   refine ⟨?_,Sub.refl _⟩
   rw [← hab];simp [c0,EH.abs]
theorem rHas_c {h:Heap} {p o:Nat} {L:LG} (l:RL h p o L) (k:LOk L) (i t:Int) :
  ACalls PR 161 #[.pointer (some ⟨p,0,none⟩),I i,I t] h (fun v h'=>v = .bool (decide ((L.term i).2=0∧(L.term i).1=t))∧h=h'):=by
 refine Ar (As mix Tryz.func161 rfl rfl Tryz.ntmps161 Tryz.results161 rfl ?_);conv=>whnf
 refine C2 (rTerm_c l k i) ?_;conv=>whnf
 refine ACmp.split (fun c1=>?_) (fun c1=>?_)
 ·conv=>whnf
  refine ACmp.dec ?_;conv=>whnf
  exact ⟨by simp [c1],Sub.refl _⟩
 ·conv=>whnf
  exact ⟨by simp [c1],Sub.refl _⟩
theorem rGet_c {h:Heap} {p o:Nat} {L:LG} (l:RL h p o L) (k:LOk L) (tg:Tag) (ht:tg≠(0,1)) (i:Int) :
  ACalls PR 165 #[.pointer (some ⟨p,0,none⟩),I i] h (fun v h'=>∃ e:EH,v = .tuple #[.agg e.cells.toArray,I (L.get i).2]∧e.Mine h' tg∧e.abs=(L.get i).1∧e.n≤1200∧Sub h h'):=by
 have l':=l
 obtain ⟨es,a,cap,A,hes⟩:=l
 have htop:=k.top
 have hlo:=k.lo
 have hl:es.length=L.es.length:=by rw [← hes];simp
 refine As mix Tryz.func165 rfl rfl Tryz.ntmps165 Tryz.results165 rfl ?_;conv=>whnf
 refine AAlloc.mk (0,1) rfl fun b1 f1=>?_;conv=>whnf
 have s1:=f1.sub (row (0,1) [I 0,I 0,I 0, .slice none 0 0] 59)
 have k1:=Heap.set_same h b1 (row (0,1) [I 0,I 0,I 0, .slice none 0 0] 59)
 have A1:=A.sub s1
 have l1:=l'.sub s1
 refine C2 (rThere_c l1 k i) ?_;conv=>whnf
 unfold LG.get
 cases hs:L.spot i with
 | none =>
  conv=>whnf
  refine AStore.agg' rfl rfl rfl k1 rfl ?_;conv=>whnf
  refine Ab rfl (Heap.set_same _ _ _) rfl rfl ?_;conv=>whnf
  exact ⟨⟨0,0,0,none,0,0,[]⟩,rfl, .inl ⟨rfl,rfl,rfl⟩,rfl,by simp,s1.set f1.none _⟩
 | some x =>
  conv=>whnf
  obtain ⟨h1,h2,h3⟩:=LG.spot_some hs
  obtain ⟨j,e,hj,he,hab⟩:=spot_abs hes hs
  have hlt:j<es.length:=(List.getElem?_eq_some_iff.1 he).1
  have sm:=small_abs k hes A.good e (List.mem_of_getElem? he)
  obtain ⟨b,off,m,E,fz,rfl,hb,hc⟩:=A1.own.sl.pos (by omega)
  have g:(m.drop (off+j*4)).take 4=e.cells:=by rw [part_of_take hc (by omega),encs_part he]
  refine Am ((h.set b1 (row (0,1) [I 0,I 0,I 0, .slice none 0 0] 59))) [11] (Sub.refl _) (by decide +kernel) ?_;conv=>whnf
  refine Aa rfl A1.str rfl ?_;conv=>whnf
  refine C2 (rFirst_c l1 k) ?_;conv=>whnf
  refine ⟨Sub.refl _,?_⟩;conv=>whnf
  refine Ag (by omega) (by omega) ((by omega:i-(L.bi+1)=(j:Int))) ?_;conv=>whnf
  refine Ai rfl hlt rfl rfl ?_;conv=>whnf
  refine Ab rfl hb g rfl ?_;conv=>whnf
  refine ACalls.mono (copyE_any _ tg ht e (A1.good e (List.mem_of_getElem? he)) (by omega)) ?_;rintro _ h2 ⟨a2,c2,rfl,own2,s2⟩;conv=>whnf
  refine ⟨s2,?_⟩;conv=>whnf
  refine AStore.agg' rfl rfl rfl (s2 _ _ k1) rfl ?_;conv=>whnf
  refine Ab rfl (Heap.set_same _ _ _) rfl rfl ?_;conv=>whnf
  refine ⟨⟨e.term,e.index,e.kind,a2,e.n,c2,e.data⟩,rfl,own2.keepT (KeepT.set (s2 _ _ k1)) ht,hab,sm,(s1.trans s2).set f1.none _⟩
theorem encs_one_cell (es:List EH):(encs es).all oneCell=true:=by
 rw [List.all_eq_true];intro x hx
 obtain ⟨e,_,hx⟩:=List.mem_flatMap.1 hx
 simp only [EH.cells,List.mem_cons,List.not_mem_nil,or_false] at hx
 rcases hx with rfl | rfl | rfl | rfl <;> rfl
theorem rNew_c (h:Heap) (o:Nat) (ho:o≠0) (i t:Int) :
  ACalls PR 35 #[I i,I t] h (fun v h'=>(okBase i t=true∧∃ p,v = .tuple #[.pointer (some ⟨p,0,none⟩),I 0]∧RL h' p o (lnew i t)∧Sub h h')∨(okBase i t=false∧v = .tuple #[.pointer none,I 2]∧Sub h h')):=by
 refine As mix Tryz.func35 rfl rfl Tryz.ntmps35 Tryz.results35 rfl ?_;conv=>whnf
 by_cases c1:i=0
 ·refine Ac (c1) ?_;conv=>whnf
  by_cases c2:t=0
  ·refine Ac (c2) ?_;conv=>whnf
   refine ABox.mk (o,0) rfl fun b2 f2=>?_;conv=>whnf
   exact .inl ⟨by simp_all [okBase],b2,rfl,⟨[],none,0,⟨Heap.set_same _ _ _, .inl ⟨rfl,rfl,rfl⟩,by simp⟩,rfl⟩,f2.sub _⟩
  ·refine Ad (c2) ?_;conv=>whnf
   refine C2 (rnumber_any i _) ?_;conv=>whnf
   cases c3:isNum i with
   | false =>
    conv=>whnf
    exact .inr ⟨by simp_all [okBase],rfl,Sub.refl _⟩
   | true =>
    conv=>whnf
    refine C2 (rnumber_any t _) ?_;conv=>whnf
    cases c4:isNum t with
    | false =>
     conv=>whnf
     exact .inr ⟨by simp_all [okBase],rfl,Sub.refl _⟩
    | true =>
     conv=>whnf
     refine ABox.mk (o,0) rfl fun b2 f2=>?_;conv=>whnf
     exact .inl ⟨by simp_all [okBase],b2,rfl,⟨[],none,0,⟨Heap.set_same _ _ _, .inl ⟨rfl,rfl,rfl⟩,by simp⟩,rfl⟩,f2.sub _⟩
 ·refine Ad (c1) ?_;conv=>whnf
  refine C2 (rnumber_any i _) ?_;conv=>whnf
  cases c3:isNum i with
  | false =>
   conv=>whnf
   exact .inr ⟨by simp_all [okBase],rfl,Sub.refl _⟩
  | true =>
   conv=>whnf
   refine C2 (rnumber_any t _) ?_;conv=>whnf
   cases c4:isNum t with
   | false =>
    conv=>whnf
    exact .inr ⟨by simp_all [okBase],rfl,Sub.refl _⟩
   | true =>
    conv=>whnf
    refine ABox.mk (o,0) rfl fun b2 f2=>?_;conv=>whnf
    exact .inl ⟨by simp_all [okBase],b2,rfl,⟨[],none,0,⟨Heap.set_same _ _ _, .inl ⟨rfl,rfl,rfl⟩,by simp⟩,rfl⟩,f2.sub _⟩
theorem rCut_c {h:Heap} {p o:Nat} (ho:o≠0) {L:LG} (l:RL h p o L) (k:LOk L) (i:Int) (hroom:L.es.length*48≤140737488355328) :
  ACalls PR 162 #[.pointer (some ⟨p,0,none⟩),I i] h (fun v h'=>v=I (L.cut i).1∧RL h' p o (L.cut i).2∧Keep o h h'):=by
 have l':=l
 obtain ⟨es,a,cap,A,hes⟩:=l
 have htop:=k.top
 have hlo:=k.lo
 have hl:es.length=L.es.length:=by rw [← hes];simp
 refine As mix Tryz.func162 rfl rfl Tryz.ntmps162 Tryz.results162 rfl ?_;conv=>whnf
 refine C2 (rReach_c l' k i) ?_;conv=>whnf
 unfold LG.cut
 cases hr:L.reach i with
 | false =>
  conv=>whnf
  rw [if_neg (by decide)]
  exact ⟨rfl,l',Keep.refl _ _⟩
 | true =>
  conv=>whnf
  rw [if_pos rfl]
  obtain ⟨j,hj,hjl⟩:∃ j:Nat,i-L.bi-1=j∧j≤es.length:=by
   rw [LG.reach,decide_eq_true_eq] at hr
   exact ⟨(i-L.bi-1).toNat,by omega,by omega⟩
  have hcap:es.length≤cap:=A.own.sl.le
  refine Am (h) [14] (Sub.refl _) (by decide +kernel) ?_;conv=>whnf
  refine Aa rfl A.str rfl ?_;conv=>whnf
  refine C2 (rFirst_c l' k) ?_;conv=>whnf
  refine ⟨Sub.refl _,?_⟩;conv=>whnf
  refine Ag (by omega) (by omega) ((by omega:i-(L.bi+1)=(j:Int))) ?_;conv=>whnf
  refine ASlc.upto (z:=4) rfl (by omega) rfl rfl ?_;conv=>whnf
  have hs:Sl h (o,1) a j cap 4 (encs (es.take j)):=by
   exact ⟨by rw [encs_length,List.length_take,Nat.min_eq_left hjl],by omega,by
    rcases A.own.sl.at_ with h0 | ⟨b,off,m,E,fz,ea,hb,hc⟩
    ·exact .inl (by omega)
    ·refine .inr ⟨b,off,m,E,fz,ea,hb,?_⟩
     rw [← encs_take,← hc,List.take_take,Nat.min_eq_left (Nat.mul_le_mul_right _ hjl)]⟩
  refine AAppend.own (t:=(o,1)) (E:=59) (z:=4) (by_:=48) (zero:=[I 0,I 0,I 0, .slice none 0 0]) (cs:=[]) rfl ⟨_,rfl⟩ rfl rfl rfl rfl (by omega) (.inl ⟨rfl,rfl,rfl⟩) hs (encs_one_cell _) (by omega) (by omega) fun a' c' h' ow hk hsub=>?_
  conv=>whnf
  have s1:=hsub rfl
  refine ⟨s1,?_⟩;conv=>whnf
  refine AStore.one' rfl rfl rfl (s1 _ _ A.str) rfl ?_;conv=>whnf
  rw [Nat.zero_add,List.nil_append] at ow
  have kk:Keep o h' _:=(KeepT.set (y := .cells [I L.bi,I L.bt, .slice a' (0+j) c'].toArray 135 (0,0)) (s1 _ _ A.str)).keep
  refine ⟨rfl,⟨es.take j,a',c',⟨?_,?_,fun e he=>?_⟩,by rw [List.map_take,hes,hj];rfl⟩,(s1.keep o).trans kk⟩
  ·rw [List.length_take,Nat.min_eq_left hjl]
   rw [Nat.zero_add]
   exact Heap.set_same _ _ _
  ·rw [List.length_take,Nat.min_eq_left hjl]
   exact ow.keepT (KeepT.set (s1 _ _ A.str)) (by simp)
  ·exact Sl.keepT (Sl.sub (A.good e (List.mem_of_mem_take he)) s1) (KeepT.set (s1 _ _ A.str)) (by simp)
theorem rCompact_c {h:Heap} {p o:Nat} (ho:o≠0) {L:LG} (l:RL h p o L) (k:LOk L) (i:Int) (hroom:L.es.length*48≤140737488355328) :
  ACalls PR 108 #[.pointer (some ⟨p,0,none⟩),I i] h (fun v h'=>v=I (L.compact i).1∧RL h' p o (L.compact i).2∧Keep o h h'):=by
 have l':=l
 obtain ⟨es,a,cap,A,hes⟩:=l
 have htop:=k.top
 have hlo:=k.lo
 have hl:es.length=L.es.length:=by rw [← hes];simp
 refine As mix Tryz.func108 rfl rfl Tryz.ntmps108 Tryz.results108 rfl ?_;conv=>whnf
 refine C2 (rThere_c l' k i) ?_;conv=>whnf
 unfold LG.compact
 cases hs:L.spot i with
 | none =>
  conv=>whnf
  exact ⟨rfl,l',Keep.refl _ _⟩
 | some x =>
  conv=>whnf
  obtain ⟨h1,h2,h3⟩:=LG.spot_some hs
  obtain ⟨j,e,hj,he,hab⟩:=spot_abs hes hs
  have hlt:j<es.length:=(List.getElem?_eq_some_iff.1 he).1
  have hcap:es.length≤cap:=A.own.sl.le
  obtain ⟨b,off,m,E,fz,rfl,hb,hc⟩:=A.own.sl.pos (by omega)
  have g:(m.drop (off+j*4)).take 4=e.cells:=by rw [part_of_take hc (by omega),encs_part he]
  refine Ao (h) [11] (.take 0 (.take 1 (.take 2 (.take 3 (.take 4 (.take 5 (.alt 6 (.take 7 (.take 8 (.take 9 (.take 10 (.take 11 (.done)))))) (.alt 10 (.take 6 (.take 7 (.take 8 (.take 9 (.take 11 (.done)))))) (.stop))))))))) (Sub.refl _) (by decide +kernel) ?_;conv=>whnf
  refine Aa rfl A.str rfl ?_;conv=>whnf
  refine And.intro ?_ ?_
  ·conv=>whnf
   refine C2 (rFirst_c l' k) ?_;conv=>whnf
   refine ⟨Sub.refl _,?_⟩;conv=>whnf
   refine Ag (by omega) (by omega) ((by omega:i-(L.bi+1)=(j:Int))) ?_;conv=>whnf
   refine Ai rfl hlt rfl rfl ?_;conv=>whnf
   refine Ab rfl hb g rfl ?_;conv=>whnf
   refine AAlloc.mk (0,1) rfl fun b4 f4=>?_;conv=>whnf
   refine ⟨f4.sub _,?_⟩;conv=>whnf
   refine AStore.agg' rfl rfl rfl (Heap.set_same _ _ _) rfl ?_;conv=>whnf
   rw [Heap.set_set]
   have s4:=f4.sub (row (0,1) [I e.term,I e.index,I e.kind, .slice e.a e.n e.c] 59)
   have k4:=Heap.set_same h b4 (row (0,1) [I e.term,I e.index,I e.kind, .slice e.a e.n e.c] 59)
   have A4:=A.sub s4
   have l4:=l'.sub s4
   generalize h.set b4 (row (0,1) [I e.term,I e.index,I e.kind, .slice e.a e.n e.c] 59)=h4 at s4 k4 A4 l4 ⊢
   refine Am (h4) [15] (Sub.refl _) (by decide +kernel) ?_;conv=>whnf
   refine Aa rfl A4.str rfl ?_;conv=>whnf
   refine C2 (rFirst_c l4 k) ?_;conv=>whnf
   refine ⟨Sub.refl _,?_⟩;conv=>whnf
   refine Ag (by omega) (by omega) ((by omega:i-(L.bi+1)=(j:Int))) ?_;conv=>whnf
   refine Ag (by omega) (by omega) ((by omega:(j:Int)+1=((j+1:Nat):Int))) ?_;conv=>whnf
   refine ASlc.from (z:=4) rfl (by omega) hcap rfl rfl ?_;conv=>whnf
   have hsl:=A4.own.sl.slice (l:=j+1) (m:=es.length) (x:=cap) (by omega) (Nat.le_refl _) hcap
   have hcs:((encs es).drop ((j+1)*4)).take ((es.length-(j+1))*4)=encs (es.drop (j+1)):=by
    rw [encs_drop,List.take_of_length_le]
    rw [encs_length];simp
   rw [hcs] at hsl
   refine AAppend.own (t:=(o,1)) (E:=59) (z:=4) (by_:=48) (zero:=[I 0,I 0,I 0, .slice none 0 0]) (cs:=[]) rfl ⟨_,rfl⟩ rfl rfl rfl rfl (by omega) (.inl ⟨rfl,rfl,rfl⟩) hsl (encs_one_cell _) (by omega) (by omega) fun a' c' h5 ow hk hsub=>?_
   conv=>whnf
   have s5:=hsub rfl
   refine ⟨s5,?_⟩;conv=>whnf
   refine AStore.one' rfl rfl rfl (s5 _ _ A4.str) rfl ?_;conv=>whnf
   rw [Nat.zero_add,List.nil_append] at ow
   have k5:=Heap.set_ne (h:=h5) (b:=p) (c:=b4) (x:=row (o,0) [I L.bi,I L.bt, .slice a' (0+(es.length-(j+1))) c'] 135) (fun c=>by have:=s5 _ _ k4;rw [c,s5 _ _ A4.str] at this;simp [row] at this) (s5 _ _ k4)
   refine Aa rfl k5 rfl ?_;conv=>whnf
   refine AStore.one' rfl rfl rfl (Heap.set_same _ _ _) rfl ?_;conv=>whnf
   rw [Heap.set_set]
   have k6:=Heap.set_ne (h:=h5) (b:=p) (c:=b4) (x:=row (o,0) [I e.index,I L.bt, .slice a' (0+(es.length-(j+1))) c'] 135) (fun c=>by have:=s5 _ _ k4;rw [c,s5 _ _ A4.str] at this;simp [row] at this) (s5 _ _ k4)
   refine Aa rfl k6 rfl ?_;conv=>whnf
   refine AStore.one' rfl rfl rfl (Heap.set_same _ _ _) rfl ?_;conv=>whnf
   rw [Heap.set_set]
   have kk:Keep o h5 _:=(KeepT.set (y := .cells [I e.index,I e.term, .slice a' (0+(es.length-(j+1))) c'].toArray 135 (0,0)) (s5 _ _ A4.str)).keep
   rw [← hab]
   have hlen:(es.drop (j+1)).length=es.length-(j+1):=by simp
   refine ⟨rfl,⟨es.drop (j+1),a',c',⟨?_,?_,fun y hy=>?_⟩,by rw [List.map_drop,hes,hj];rfl⟩,((s4.trans s5).keep o).trans kk⟩
   ·rw [hlen,Nat.zero_add]
    exact Heap.set_same _ _ _
   ·rw [hlen]
    exact ow.keepT (KeepT.set (s5 _ _ A4.str)) (by simp)
   ·exact Sl.keepT (Sl.sub (A4.good y (List.mem_of_mem_drop hy)) s5) (KeepT.set (s5 _ _ A4.str)) (by simp)
  ·conv=>whnf
   refine And.intro ?_ trivial
   conv=>whnf
   refine AAlloc.mk (0,1) rfl fun b4 f4=>?_;conv=>whnf
   refine ⟨f4.sub _,?_⟩;conv=>whnf
   refine C2 (rFirst_c (l'.sub (f4.sub _)) k) ?_;conv=>whnf
   refine ⟨f4.sub _,?_⟩;conv=>whnf
   refine Ag (by omega) (by omega) ((by omega:i-(L.bi+1)=(j:Int))) ?_;conv=>whnf
   refine Ai rfl hlt rfl rfl ?_;conv=>whnf
   refine Ab rfl hb g rfl ?_;conv=>whnf
   refine AStore.agg' rfl rfl rfl (Heap.set_same _ _ _) rfl ?_;conv=>whnf
   rw [Heap.set_set]
   have s4:=f4.sub (row (0,1) [I e.term,I e.index,I e.kind, .slice e.a e.n e.c] 59)
   have k4:=Heap.set_same h b4 (row (0,1) [I e.term,I e.index,I e.kind, .slice e.a e.n e.c] 59)
   have A4:=A.sub s4
   have l4:=l'.sub s4
   generalize h.set b4 (row (0,1) [I e.term,I e.index,I e.kind, .slice e.a e.n e.c] 59)=h4 at s4 k4 A4 l4 ⊢
   refine Am (h4) [15] (Sub.refl _) (by decide +kernel) ?_;conv=>whnf
   refine Aa rfl A4.str rfl ?_;conv=>whnf
   refine C2 (rFirst_c l4 k) ?_;conv=>whnf
   refine ⟨Sub.refl _,?_⟩;conv=>whnf
   refine Ag (by omega) (by omega) ((by omega:i-(L.bi+1)=(j:Int))) ?_;conv=>whnf
   refine Ag (by omega) (by omega) ((by omega:(j:Int)+1=((j+1:Nat):Int))) ?_;conv=>whnf
   refine ASlc.from (z:=4) rfl (by omega) hcap rfl rfl ?_;conv=>whnf
   have hsl:=A4.own.sl.slice (l:=j+1) (m:=es.length) (x:=cap) (by omega) (Nat.le_refl _) hcap
   have hcs:((encs es).drop ((j+1)*4)).take ((es.length-(j+1))*4)=encs (es.drop (j+1)):=by
    rw [encs_drop,List.take_of_length_le]
    rw [encs_length];simp
   rw [hcs] at hsl
   refine AAppend.own (t:=(o,1)) (E:=59) (z:=4) (by_:=48) (zero:=[I 0,I 0,I 0, .slice none 0 0]) (cs:=[]) rfl ⟨_,rfl⟩ rfl rfl rfl rfl (by omega) (.inl ⟨rfl,rfl,rfl⟩) hsl (encs_one_cell _) (by omega) (by omega) fun a' c' h5 ow hk hsub=>?_
   conv=>whnf
   have s5:=hsub rfl
   refine ⟨s5,?_⟩;conv=>whnf
   refine AStore.one' rfl rfl rfl (s5 _ _ A4.str) rfl ?_;conv=>whnf
   rw [Nat.zero_add,List.nil_append] at ow
   have k5:=Heap.set_ne (h:=h5) (b:=p) (c:=b4) (x:=row (o,0) [I L.bi,I L.bt, .slice a' (0+(es.length-(j+1))) c'] 135) (fun c=>by have:=s5 _ _ k4;rw [c,s5 _ _ A4.str] at this;simp [row] at this) (s5 _ _ k4)
   refine Aa rfl k5 rfl ?_;conv=>whnf
   refine AStore.one' rfl rfl rfl (Heap.set_same _ _ _) rfl ?_;conv=>whnf
   rw [Heap.set_set]
   have k6:=Heap.set_ne (h:=h5) (b:=p) (c:=b4) (x:=row (o,0) [I e.index,I L.bt, .slice a' (0+(es.length-(j+1))) c'] 135) (fun c=>by have:=s5 _ _ k4;rw [c,s5 _ _ A4.str] at this;simp [row] at this) (s5 _ _ k4)
   refine Aa rfl k6 rfl ?_;conv=>whnf
   refine AStore.one' rfl rfl rfl (Heap.set_same _ _ _) rfl ?_;conv=>whnf
   rw [Heap.set_set]
   have kk:Keep o h5 _:=(KeepT.set (y := .cells [I e.index,I e.term, .slice a' (0+(es.length-(j+1))) c'].toArray 135 (0,0)) (s5 _ _ A4.str)).keep
   rw [← hab]
   have hlen:(es.drop (j+1)).length=es.length-(j+1):=by simp
   refine ⟨rfl,⟨es.drop (j+1),a',c',⟨?_,?_,fun y hy=>?_⟩,by rw [List.map_drop,hes,hj];rfl⟩,((s4.trans s5).keep o).trans kk⟩
   ·rw [hlen,Nat.zero_add]
    exact Heap.set_same _ _ _
   ·rw [hlen]
    exact ow.keepT (KeepT.set (s5 _ _ A4.str)) (by simp)
   ·exact Sl.keepT (Sl.sub (A4.good y (List.mem_of_mem_drop hy)) s5) (KeepT.set (s5 _ _ A4.str)) (by simp)
theorem rSlice_c {h:Heap} {p o:Nat} {L:LG} (l:RL h p o L) (k:LOk L) (tg td:Tag) (ht:tg≠(0,1)) (hd:td≠(0,1)) (hto:tg.1≠o) (htd:td≠tg) (i most:Int) (hroom:L.es.length*48≤140737488355328) :
  ACalls PR 185 #[.pointer (some ⟨p,0,none⟩),I i,I most] h (fun v h'=>∃ a n c zs,v = .tuple #[.slice a n c,I (L.slice i most).2]∧Ents h' tg td a n c zs∧zs.map EH.abs=(L.slice i most).1∧(∀ z∈zs,z.n≤1200)∧KeepT tg h h'∧Own h' tg 59 a n c 4 (encs zs)∧∀ z∈zs,z.Mine h' td):=by
 have l':=l
 obtain ⟨es,a,cap,A,hes⟩:=l
 have htop:=k.top
 have hlo:=k.lo
 have hl:es.length=L.es.length:=by rw [← hes];simp
 have nil:∀ h':Heap,Ents h' tg td none 0 0 []:=fun h'=>⟨Sl.nil ..,by simp,by simp⟩
 refine As mix Tryz.func185 rfl rfl Tryz.ntmps185 Tryz.results185 rfl ?_;conv=>whnf
 refine C2 (rReach_c l' k i) ?_;conv=>whnf
 unfold LG.slice
 cases hr:L.reach i with
 | false =>
  conv=>whnf
  exact ⟨none,0,0,[],rfl,nil _,rfl,by simp,KeepT.refl _ _, .inl ⟨rfl,rfl,rfl⟩,by simp⟩
 | true =>
  conv=>whnf
  by_cases c1:most<0
  ·refine Ac (c1) ?_;conv=>whnf
   refine ⟨none,0,0,[],?_,nil _,?_,by simp,KeepT.refl _ _, .inl ⟨rfl,rfl,rfl⟩,by simp⟩
   ·simp [c1]
   ·simp [c1]
  ·refine Ad (c1) ?_;conv=>whnf
   obtain ⟨j0,hj0,hjl⟩:∃ j:Nat,i-L.bi-1=j∧j≤es.length:=by
    rw [LG.reach,decide_eq_true_eq] at hr
    exact ⟨(i-L.bi-1).toNat,by omega,by omega⟩
   refine C2 (rFirst_c l' k) ?_;conv=>whnf
   refine Ag (by omega) (by omega) ((by omega:i-(L.bi+1)=(j0:Int))) ?_;conv=>whnf
   obtain ⟨q,hq⟩:∃ q:Nat,most=q:=⟨most.toNat,by omega⟩
   subst hq
   generalize hys:es.drop j0=ys
   have hyl:ys.length=es.length-j0:=by rw [← hys];simp
   refine ALoop.mk (fun e h'=>∃ e0,∃ j:Nat,∃ zs a2 c2,e=updL 47 e0 [(0, .pointer (some ⟨p,0,none⟩)),(2,I q),(8, .slice a2 j c2),(9,I (j0+j:Nat))]∧j≤ys.length∧j≤q∧Own h' tg 59 a2 j c2 4 (encs zs)∧zs.map EH.abs=(ys.take j).map EH.abs∧(∀ z∈zs,z.Mine h' td)∧(∀ z∈zs,z.n≤1200)∧KeepT tg h h')
    (fun e=>j0+ys.length-natOf (e 9)) ⟨_,0,[],none,0,Au ⟨rfl,rfl,rfl,rfl,trivial⟩,by omega,by omega, .inl ⟨rfl,rfl,rfl⟩,by simp,by simp,by simp,KeepT.refl _ _⟩ ?_
   rintro e h2 ⟨e0,j,zs,a2,c2,rfl,hj,hjq,hown,habs,hgood,hsml,hkeep⟩
   conv=>whnf
   have hzl:zs.length=j:=by
    have:=congrArg List.length habs
    simp at this;omega
   have A2:=A.str
   have str2:=hkeep.get (u:=(o,0)) (fun c=>hto (by rw [← c])) A.str
   refine Aa rfl str2 rfl ?_;conv=>whnf
   by_cases hjy:j<ys.length
   ·refine Ac (by omega) ?_;conv=>whnf
    by_cases hjq2:j<q
    ·refine Ac (by omega) ?_;conv=>whnf
     obtain ⟨y,hy⟩:∃ y,ys[j]? = some y:=⟨ys[j]'(by omega),by simp⟩
     have hye:es[j0+j]? = some y:=by rw [← hys,List.getElem?_drop] at hy;exact hy
     have my:y∈es:=List.mem_of_getElem? hye
     have sl2:=A.own.sl.keepT hkeep (fun c=>hto (by rw [← c]))
     obtain ⟨b,off,m,E,fz,rfl,hb,hc⟩:=sl2.pos (by omega)
     have g:(m.drop (off+(j0+j)*4)).take 4=y.cells:=by rw [part_of_take hc (by omega),encs_part hye]
     have gy:y.Good h2 (o,2):=Sl.keepT (A.good y my) hkeep (fun c=>hto (by rw [← c]))
     have sy:=small_abs k hes A.good y my
     refine Aa rfl str2 rfl ?_;conv=>whnf
     refine Ai (j:=j0+j) rfl (by omega) rfl rfl ?_;conv=>whnf
     refine Ab rfl hb g rfl ?_;conv=>whnf
     refine ACalls.mono (copyE_any _ td hd y gy (by omega)) ?_
     rintro v h3 ⟨ax,cx,rfl,hslx,hsub3⟩
     conv=>whnf
     refine ABuildSl.mk (0,1) rfl rfl rfl rfl rfl rfl rfl fun b11 f11=>?_;conv=>whnf
     have s4:=hsub3.trans (f11.sub (row (0,1) [I y.term,I y.index,I y.kind, .slice ax y.n cx] 59))
     refine AAppend.own (t:=tg) (E:=59) (z:=4) (by_:=48) (zero:=[I 0,I 0,I 0, .slice none 0 0]) (tx:=(0,1)) (xs:=[I y.term,I y.index,I y.kind, .slice ax y.n cx]) rfl ⟨_,rfl⟩ rfl rfl rfl rfl (by omega) (hown.move fun _ _ z=>s4 _ _ z)
      ⟨rfl,Nat.le_refl _, .inr ⟨b11,0,_,_,_,rfl,Heap.set_same _ _ _,rfl⟩⟩ rfl (by omega) (by omega) fun a5 cap5 h5 hown5 hk5 _=>?_
     conv=>whnf
     refine Ag (by omega) (by omega) ((by omega:((j0+j:Nat):Int)+1=((j0+(j+1):Nat):Int))) ?_;conv=>whnf
     refine ⟨⟨_,j+1,zs++[⟨y.term,y.index,y.kind,ax,y.n,cx,y.data⟩],a5,cap5,Au ⟨rfl,rfl,rfl,rfl,trivial⟩,by omega,by omega,?_,?_,?_,?_,?_⟩,?_⟩
     ·rw [encs_append,encs_one];exact hown5
     ·rw [List.map_append,habs,List.take_succ_eq_append_getElem (by omega),(List.getElem?_eq_some_iff.1 hy).2]
      simp [EH.abs]
     ·intro z hz
      rcases List.mem_append.1 hz with hz | hz
      ·exact Own.keepT (Own.sub (hgood z hz) s4) hk5 htd
      ·obtain rfl:=List.mem_singleton.1 hz
       exact Own.keepT (Own.sub hslx (f11.sub _)) hk5 htd
     ·intro z hz
      rcases List.mem_append.1 hz with hz | hz
      ·exact hsml z hz
      ·obtain rfl:=List.mem_singleton.1 hz
       exact sy
     ·exact hkeep.trans ((s4.keepT tg).trans hk5)
     ·show j0+ys.length-(j0+(j+1))<j0+ys.length-(j0+j)
      omega
    ·refine Ad (by omega) ?_;conv=>whnf
     refine ⟨a2,j,c2,zs,?_,⟨hown.sl,fun z hz=>(hgood z hz).sl,fun z hz=>by have:=hsml z hz;omega⟩,?_,hsml,hkeep,hown,hgood⟩
     ·simp [c1]
     ·rw [habs]
      simp only [Bool.true_eq_false,if_false,c1]
      rw [hj0,Int.toNat_natCast,Int.toNat_natCast,← hes,← List.map_drop,← List.map_take,hys]
      congr 1
      rcases Nat.lt_or_ge q ys.length with hlt | hge
      ·rw [show j=q by omega]
      ·rw [List.take_of_length_le (by omega),List.take_of_length_le (by omega)]
   ·refine Ad (by omega) ?_;conv=>whnf
    refine ⟨a2,j,c2,zs,?_,⟨hown.sl,fun z hz=>(hgood z hz).sl,fun z hz=>by have:=hsml z hz;omega⟩,?_,hsml,hkeep,hown,hgood⟩
    ·simp [c1]
    ·rw [habs]
     simp only [Bool.true_eq_false,if_false,c1]
     rw [hj0,Int.toNat_natCast,Int.toNat_natCast,← hes,← List.map_drop,← List.map_take,hys]
     congr 1
     rcases Nat.lt_or_ge q ys.length with hlt | hge
     ·rw [show j=q by omega]
     ·rw [List.take_of_length_le (by omega),List.take_of_length_le (by omega)]
theorem rAppend_c {h:Heap} {p o:Nat} (ho:o≠0) {L:LG} (l:RL h p o L) (k:LOk L) {t td:Tag} (ht:t.1≠o) (htd:td.1≠o) {xa:Option Addr} {m xc:Nat} {xs:List EH} (X:Ents h t td xa m xc xs)
  (hroom:(L.es.length+m)*48≤140737488355328) :
  ACalls PR 36 #[.pointer (some ⟨p,0,none⟩), .slice xa m xc] h (fun v h'=>v=I (L.append (xs.map EH.abs)).1∧RL h' p o (L.append (xs.map EH.abs)).2∧Keep o h h'):=by
 have l':=l
 obtain ⟨es,a,cap,A,hes⟩:=l
 have htop:=k.top
 have hlo:=k.lo
 have hlast:=k.last
 have hl:es.length=L.es.length:=by rw [← hes];simp
 have hxl:=X.len
 refine As mix Tryz.func36 rfl rfl Tryz.ntmps36 Tryz.results36 rfl ?_;conv=>whnf
 refine C2 (rLast_c l' k) ?_;conv=>whnf
 refine ALoop.mk (fun e h'=>h=h'∧∃ e0,∃ j:Nat,∃ mk:Int×Int,e=updL 71 e0 [(0, .pointer (some ⟨p,0,none⟩)),(1, .slice xa m xc),(5,I mk.1),(6,I mk.2),(7,I j)]∧j≤m ∧
   aapp L.last (xs.map EH.abs)=aapp mk ((xs.drop j).map EH.abs)∧0≤mk.1∧mk.1≤9007199254740991)
   (fun e=>m-natOf (e 7)) ⟨rfl,_,0,L.last,Au ⟨rfl,rfl,rfl,rfl,rfl,trivial⟩,by omega,by simp,by omega,by omega⟩ ?_
 rintro e h1 ⟨rfl,e0,j,mk,rfl,hj,happ,hm0,hm1⟩
 conv=>whnf
 by_cases hjm:j<m
 ·refine Ac (by omega) ?_;conv=>whnf
  obtain ⟨bx,off,ml,E,fz,rfl,hb,hc⟩:=X.sl.pos (by omega)
  obtain ⟨x,hx⟩:∃ x,xs[j]? = some x:=⟨xs[j]'(by omega),by simp⟩
  have mx:x∈xs:=List.mem_of_getElem? hx
  have hn:x.data.length=x.n:=(X.good x mx).len
  have g:(ml.drop (off+j*4)).take 4=x.cells:=by rw [part_of_take hc (by omega),encs_part hx]
  have g0:ml[off+j*4]? = some (I x.term):=by rw [get_of_take hc (by omega)];exact (encs_get (j:=0) hx (by omega))
  have g1:ml[off+j*4+1]? = some (I x.index):=by rw [Nat.add_assoc,get_of_take hc (by omega)];exact (encs_get (j:=1) hx (by omega))
  have hdrop:xs.drop j=x::xs.drop (j+1):=by
   have:=List.drop_eq_getElem_cons (show j<xs.length by omega)
   rw [this,(List.getElem?_eq_some_iff.1 hx).2]
  rw [hdrop,List.map_cons,aapp] at happ
  have hck:achk x.abs mk=if may x=false then 2 else if x.index≠mk.1+1 then 170 else if x.term<mk.2 then 2 else 0:=by
   unfold achk
   rw [show x.abs.2.2.2.length=x.n from hn]
   have:(isNum x.abs.1=false∨isNum x.abs.2.1=false∨x.abs.2.2.1<0∨2<x.abs.2.2.1∨1200<x.n)↔may x=false:=by
    simp only [may,EH.abs,Bool.and_eq_false_iff,decide_eq_false_iff_not,Int.not_le,Nat.not_le]
    constructor <;> intro hh <;> simp only [or_assoc] at hh ⊢ <;> exact hh
   by_cases hm:may x=false
   ·rw [if_pos hm,if_pos (this.2 hm)]
   ·rw [if_neg hm,if_neg (fun hc=>hm (this.1 hc))];rfl
  refine Ai rfl hjm rfl rfl ?_;conv=>whnf
  refine Ab rfl hb g rfl ?_;conv=>whnf
  refine C2 (May_any _ x) ?_;conv=>whnf
  cases hmy:may x with
  | false =>
   have hcv:achk x.abs mk=2:=by rw [hck,if_pos hmy]
   conv=>whnf
   have hbad:¬ aapp L.last (xs.map EH.abs)=0:=by rw [happ,if_neg (by rw [hcv];decide),hcv];decide
   unfold LG.append
   rw [if_neg hbad]
   refine ⟨?_,l',Keep.refl _ _⟩
   rw [happ,if_neg (by rw [hcv];decide),hcv]
  | true =>
   conv=>whnf
   refine Ai rfl hjm rfl rfl ?_;conv=>whnf
   refine Aa rfl hb g1 ?_;conv=>whnf
   refine Ag (by omega) (by omega) (rfl) ?_;conv=>whnf
   by_cases c2:x.index=mk.1+1
   ·refine Ad (by omega) ?_;conv=>whnf
    refine Ai rfl hjm rfl rfl ?_;conv=>whnf
    refine Aa rfl hb g0 ?_;conv=>whnf
    by_cases c3:x.term<mk.2
    ·refine Ac (c3) ?_;conv=>whnf
     have hcv:achk x.abs mk=2:=by rw [hck,if_neg (by rw [hmy];decide),if_neg (by omega),if_pos c3]
     have hbad:¬ aapp L.last (xs.map EH.abs)=0:=by rw [happ,if_neg (by rw [hcv];decide),hcv];decide
     unfold LG.append
     rw [if_neg hbad]
     refine ⟨?_,l',Keep.refl _ _⟩
     rw [happ,if_neg (by rw [hcv];decide),hcv]
    ·refine Ad (c3) ?_;conv=>whnf
     have hcv:achk x.abs mk=0:=by rw [hck,if_neg (by rw [hmy];decide),if_neg (by omega),if_neg c3]
     rw [if_pos hcv] at happ
     refine Ai rfl hjm rfl rfl ?_;conv=>whnf
     refine Aa rfl hb g1 ?_;conv=>whnf
     refine Ai rfl hjm rfl rfl ?_;conv=>whnf
     refine Aa rfl hb g0 ?_;conv=>whnf
     refine Ag (by omega) (by omega) ((by omega:(j:Int)+1=((j+1:Nat):Int))) ?_;conv=>whnf
     have hz:=achk_zero hcv
     have z2:=isNum_iff.1 hz.2.1
     simp only [EH.abs] at z2
     refine ⟨⟨rfl,_,j+1,(x.index,x.term),Au ⟨rfl,rfl,rfl,rfl,rfl,trivial⟩,by omega,happ,by simp only [];omega,by simp only [];omega⟩,?_⟩
     show m-(j+1)<m-j
     omega
   ·refine Ac (by omega) ?_;conv=>whnf
    have hcv:achk x.abs mk=170:=by rw [hck,if_neg (by rw [hmy];decide),if_pos c2]
    have hbad:¬ aapp L.last (xs.map EH.abs)=0:=by rw [happ,if_neg (by rw [hcv];decide),hcv];decide
    unfold LG.append
    rw [if_neg hbad]
    refine ⟨?_,l',Keep.refl _ _⟩
    rw [happ,if_neg (by rw [hcv];decide),hcv]
 ·refine Ad (by omega) ?_;conv=>whnf
  obtain rfl:j=m:=by omega
  have hall:aapp L.last (xs.map EH.abs)=0:=by rw [happ,List.drop_of_length_le (by omega)];rfl
  have hok:=aapp_ok (xs.map EH.abs) L.last (by omega) hall
  have hsmall:∀ x∈xs,x.n≤1200:=fun x hx=>by
   have:=hok.2.2 x.abs (List.mem_map_of_mem hx)
   rw [← (X.good x hx).len];exact this
  unfold LG.append
  rw [if_pos hall]
  refine ALoop.mk (fun e h'=>∃ e0,∃ k2:Nat,∃ es2 a2 cap2,e=updL 71 e0 [(0, .pointer (some ⟨p,0,none⟩)),(1, .slice xa j xc),(8,I k2)]∧k2≤j ∧
   RLedAt h' p o L.bi L.bt es2 a2 cap2∧es2.map EH.abs=(es++xs.take k2).map EH.abs∧Keep o h h')
   (fun e=>j-natOf (e 8)) ⟨_,0,es,a,cap,Au ⟨rfl,rfl,rfl,trivial⟩,by omega,A,by simp,Keep.refl _ _⟩ ?_
  rintro e h2 ⟨e0,k2,es2,a2,cap2,rfl,hk2,L2,habs,hkeep⟩
  conv=>whnf
  have hlen2:es2.length=es.length+k2:=by
   have:=congrArg List.length habs
   simp at this;omega
  by_cases hkm2:k2<j
  ·refine Ac (by omega) ?_;conv=>whnf
   have X2:=X.keep hkeep ht htd
   obtain ⟨bx,off,ml,E,fz,rfl,hb,hc⟩:=X2.sl.pos (by omega)
   obtain ⟨x,hx⟩:∃ x,xs[k2]? = some x:=⟨xs[k2]'(by omega),by simp⟩
   have mx:x∈xs:=List.mem_of_getElem? hx
   have g:(ml.drop (off+k2*4)).take 4=x.cells:=by rw [part_of_take hc (by omega),encs_part hx]
   refine Am (two h2 p bx) [14] (two_sub _ _ _) (by decide +kernel) ?_;conv=>whnf
   refine Aa rfl ((two_l _ _ _).trans L2.str) rfl ?_;conv=>whnf
   refine Ai rfl hkm2 rfl rfl ?_;conv=>whnf
   refine Ab rfl ((two_r _ _ _).trans hb) g rfl ?_;conv=>whnf
   refine ACalls.mono (copyE_any _ (o,2) (by simp [ho]) x (X2.good x mx) (by have:=hsmall x mx;omega)) ?_
   rintro v h3 ⟨ax,cx,rfl,hslx,hsub3⟩
   refine ⟨(two_sub _ _ _).trans hsub3,?_⟩
   conv=>whnf
   refine ABuildSl.mk (0,1) rfl rfl rfl rfl rfl rfl rfl fun b11 f11=>?_;conv=>whnf
   have s4:=hsub3.trans (f11.sub (row (0,1) [I x.term,I x.index,I x.kind, .slice ax x.n cx] 59))
   refine ⟨(two_sub _ _ _).trans s4,?_⟩
   conv=>whnf
   refine AAppend.own (t:=(o,1)) (E:=59) (z:=4) (by_:=48) (zero:=[I 0,I 0,I 0, .slice none 0 0]) (tx:=(0,1)) (xs:=[I x.term,I x.index,I x.kind, .slice ax x.n cx]) rfl ⟨_,rfl⟩ rfl rfl rfl rfl (by omega) (L2.own.move fun _ _ y=>s4 _ _ y)
    ⟨rfl,Nat.le_refl _, .inr ⟨b11,0,_,_,_,rfl,Heap.set_same _ _ _,rfl⟩⟩ rfl (by omega) (by omega) fun a5 cap5 h5 hown5 hk5 _=>?_
   have hp5:=hk5.get (u:=(o,0)) (by simp) (s4 _ _ L2.str)
   have hb5:=hk5.get (u:=t) (fun c=>ht (by rw [c])) (s4 _ _ hb)
   conv=>whnf
   refine ⟨two_get (fun y hy=>?_) (fun y hy=>?_),?_⟩
   ·rw [L2.str] at hy;cases hy;exact hp5
   ·rw [hb] at hy;cases hy;exact hb5
   conv=>whnf
   refine AStore.one' rfl rfl rfl hp5 rfl ?_;conv=>whnf
   refine Ag (by omega) (by omega) ((by omega:(k2:Int)+1=((k2+1:Nat):Int))) ?_;conv=>whnf
   refine ⟨⟨_,k2+1,es2++[⟨x.term,x.index,x.kind,ax,x.n,cx,x.data⟩],a5,cap5,Au ⟨rfl,rfl,rfl,trivial⟩,by omega,⟨?_,?_,?_⟩,?_,?_⟩,?_⟩
   ·rw [List.length_append];exact Heap.set_same _ _ _
   ·rw [List.length_append,encs_append,encs_one]
    exact hown5.keepT (KeepT.set hp5) (by simp)
   ·intro y hy
    rcases List.mem_append.1 hy with hy | hy
    ·exact Sl.keepT (Sl.keepT (Sl.sub (L2.good y hy) s4) hk5 (by simp)) (KeepT.set hp5) (by simp)
    ·obtain rfl:=List.mem_singleton.1 hy
     exact Sl.keepT (Sl.keepT (Sl.sub hslx.sl (f11.sub _)) hk5 (by simp)) (KeepT.set hp5) (by simp)
   ·rw [List.map_append,habs,List.take_succ_eq_append_getElem (by omega),(List.getElem?_eq_some_iff.1 hx).2]
    simp [EH.abs]
   ·exact (hkeep.trans (s4.keep o)).trans (hk5.keep.trans (KeepT.set hp5).keep)
   ·show j-(k2+1)<j-k2
    omega
  ·refine Ad (by omega) ?_;conv=>whnf
   obtain rfl:k2=j:=by omega
   refine ⟨rfl,⟨es2,a2,cap2,L2,?_⟩,hkeep⟩
   rw [habs,List.take_of_length_le (by omega),List.map_append,hes]
def m5 (c:Int):Nat:=((c / 2) % 32).toNat
def bt (k j:Nat):Bool:=decide (k / 2^j % 2=1)
def pop (k:Nat):Nat:=(bt k 0).toNat+(bt k 1).toNat+(bt k 2).toNat+(bt k 3).toNat+(bt k 4).toNat
def lsTo (k:Nat):Nat→List Int
  | 0=>[]
  | j+1=>if bt k j=true then lsTo k j++[(j:Int)+1] else lsTo k j
def ls (k:Nat):List Int:=lsTo k 5
theorem m5_lt (c:Int):m5 c<32:=by unfold m5;omega
theorem bt_test (k j:Nat):bt k j=k.testBit j:=by rw [Nat.testBit_eq_decide_div_mod_eq];rfl
theorem bt_xor (a b j:Nat):bt (a ^^^ b) j=(bt a j ^^ bt b j):=by simp [bt_test]
theorem wrap_cases (r:Int):IntKind.i64.wrap r=r % 18446744073709551616∨IntKind.i64.wrap r=r % 18446744073709551616-18446744073709551616:=by
 show (if (true&&decide (r % 18446744073709551616≥9223372036854775808))=true then r % 18446744073709551616-18446744073709551616 else r % 18446744073709551616)=_∨(if (true&&decide (r % 18446744073709551616≥9223372036854775808))=true then r % 18446744073709551616-18446744073709551616 else r % 18446744073709551616)=_
 split
 ·exact .inr rfl
 ·exact .inl rfl
theorem m5_wrap (r:Int):m5 (IntKind.i64.wrap r)=m5 r:=by
 unfold m5
 rcases wrap_cases r with e | e <;> rw [e] <;> omega
theorem toNat_of (c:Int):(BitVec.ofInt 64 c).toNat=(c % 18446744073709551616).toNat:=by rw [BitVec.toNat_ofInt];rfl
theorem m5_toNat (c:Int):m5 ((BitVec.ofInt 64 c).toNat:Int)=m5 c:=by
 rw [toNat_of];unfold m5;omega
theorem m5_nat (x:Nat):m5 (x:Int)=x / 2 % 2^5:=by unfold m5;omega
theorem half_and (x y:Nat):(x &&& y) / 2 % 2^5=(x / 2 % 2^5) &&& (y / 2 % 2^5):=by
 apply Nat.eq_of_testBit_eq;intro i
 simp only [Nat.testBit_mod_two_pow,Nat.testBit_and,Nat.testBit_div_two]
 cases decide (i<5) <;> simp
theorem half_xor (x y:Nat):(x ^^^ y) / 2 % 2^5=(x / 2 % 2^5) ^^^ (y / 2 % 2^5):=by
 apply Nat.eq_of_testBit_eq;intro i
 simp only [Nat.testBit_mod_two_pow,Nat.testBit_xor,Nat.testBit_div_two]
 cases decide (i<5) <;> simp
theorem m5_and (a b:Int):m5 (IntKind.i64.wrap ((BitVec.ofInt 64 a &&& BitVec.ofInt 64 b).toNat:Int))=m5 a &&& m5 b:=by
 rw [m5_wrap,m5_nat,BitVec.toNat_and,half_and,← m5_nat,← m5_nat,m5_toNat,m5_toNat]
theorem m5_xor (a b:Int):m5 (IntKind.i64.wrap ((BitVec.ofInt 64 a ^^^ BitVec.ofInt 64 b).toNat:Int))=m5 a ^^^ m5 b:=by
 rw [m5_wrap,m5_nat,BitVec.toNat_xor,half_xor,← m5_nat,← m5_nat,m5_toNat,m5_toNat]
theorem nat_and62 (N:Nat):N &&& 62=2*(N / 2 % 32):=by
 have h1:N &&& 62=(N % 64) &&& 62:=by
  have:=Nat.and_two_pow_sub_one_eq_mod N 6
  rw [show (64:Nat)=2^6 from rfl,← this,Nat.and_assoc]
  rfl
 have h2:∀ x,x<64→x &&& 62=2*(x / 2 % 32):=by decide
 rw [h1,h2 _ (Nat.mod_lt _ (by omega))]
 omega
theorem nat_and1 (N:Nat):N &&& 1=N % 2:=Nat.and_two_pow_sub_one_eq_mod N 1
theorem wrap_small {x:Nat} (h:x≤9223372036854775807):IntKind.i64.wrap (x:Int)=x:=i64_wrap (by omega) (by omega)
theorem and62 (c:Int):IntKind.i64.wrap ((BitVec.ofInt 64 c &&& BitVec.ofInt 64 62).toNat:Int)=((2*m5 c:Nat):Int):=by
 have e:(BitVec.ofInt 64 62).toNat=62:=by decide
 rw [BitVec.toNat_and,e,nat_and62,wrap_small (by omega),toNat_of]
 unfold m5
 omega
theorem and1 (c:Int):IntKind.i64.wrap ((BitVec.ofInt 64 c &&& BitVec.ofInt 64 1).toNat:Int)=c % 2:=by
 have e:(BitVec.ofInt 64 1).toNat=1:=by decide
 rw [BitVec.toNat_and,e,nat_and1,wrap_small (by omega),toNat_of]
 omega
theorem wrap_zero {x:Nat} (h:x<18446744073709551616):IntKind.i64.wrap (x:Int)=0↔x=0:=by
 constructor
 ·intro z;rcases wrap_cases (x:Int) with e | e <;> omega
 ·rintro rfl;rfl
theorem andnot62 {c:Int} (h : -9223372036854775808≤c) (h':c≤9223372036854775807) :
  IntKind.i64.wrap ((BitVec.ofInt 64 c &&& ~~~(BitVec.ofInt 64 62)).toNat:Int)=0↔c=((2*m5 c:Nat):Int):=by
 rw [wrap_zero (BitVec.isLt _)]
 have e:(BitVec.ofInt 64 62).toNat=62:=by decide
 have k1:(BitVec.ofInt 64 c &&& ~~~(BitVec.ofInt 64 62)).toNat=0↔BitVec.ofInt 64 c &&& BitVec.ofInt 64 62=BitVec.ofInt 64 c:=by
  generalize BitVec.ofInt 64 c=x
  generalize BitVec.ofInt 64 62=y
  constructor
  ·intro hz
   have hz':x &&& ~~~y=0#64:=BitVec.eq_of_toNat_eq (by simpa using hz)
   apply BitVec.eq_of_getLsbD_eq
   intro i hi
   have:=congrArg (fun b=>b.getLsbD i) hz'
   simp [hi] at this ⊢
   exact this
  ·intro hz
   have:x &&& ~~~y=0#64:=by
    apply BitVec.eq_of_getLsbD_eq
    intro i hi
    have:=congrArg (fun b=>b.getLsbD i) hz
    simp [hi] at this ⊢
    exact this
   rw [this];rfl
 rw [k1]
 constructor
 ·intro hz
  have:=congrArg BitVec.toNat hz
  rw [BitVec.toNat_and,e,nat_and62,toNat_of] at this
  unfold m5
  omega
 ·intro hz
  apply BitVec.eq_of_toNat_eq
  rw [BitVec.toNat_and,e,nat_and62,toNat_of]
  have:=m5_lt c
  unfold m5 at hz this
  omega
theorem fdiv_pow (c:Int) (j:Nat) (h:j<64):c.fdiv (2^(min ((j:Int)).toNat 64))=c / 2^j:=by
 rw [Int.toNat_natCast,Nat.min_eq_left (show j≤64 by omega)]
 exact Int.fdiv_eq_ediv_of_nonneg _ (Int.le_of_lt (Int.pow_pos (by decide)))
def hasB (c n:Int):Bool:=decide (1≤n∧n≤5)&&bt (m5 c) (n-1).toNat
theorem hasB_pow (c:Int) (j:Nat) (h:j<5):decide (c / 2^(j+1) % 2=1)=bt (m5 c) j:=by
 have:j=0∨j=1∨j=2∨j=3∨j=4:=by omega
 unfold bt m5
 rcases this with rfl | rfl | rfl | rfl | rfl <;> (congr 1;apply propext;omega)
theorem hasB_in (c:Int) (j:Nat) (h:j<5):hasB c ((j:Int)+1)=bt (m5 c) j:=by
 unfold hasB
 rw [decide_eq_true (by omega),Bool.true_and]
 congr 1
 omega
theorem hasB_out (c n:Int) (h:¬(1≤n∧n≤5)):hasB c n=false:=by unfold hasB;rw [decide_eq_false h];rfl
def mk (l:List Int):Nat:=l.foldl (fun k n=>k ||| 2^(n-1).toNat) 0
def ok1 (n:Int):Bool:=decide (1≤n∧n≤5)
theorem ok1_pos {n:Int} (h:ok1 n=true):∃ j:Nat,j<5∧n=(j:Int)+1:=by
 have:=of_decide_eq_true h
 exact ⟨(n-1).toNat,by omega,by omega⟩
theorem or_step:∀ k,k<32→∀ j,j<5→k ||| 2^j<32∧IntKind.i64.wrap ((BitVec.ofInt 64 ((2*k:Nat):Int) ||| BitVec.ofInt 64 ((2^(j+1):Nat):Int)).toNat:Int)=((2*(k ||| 2^j):Nat):Int):=by decide +kernel
theorem bt_or:∀ k,k<32→∀ j,j<5→∀ i,i<5→bt (k ||| 2^j) i=(bt k i || decide (i=j)):=by decide +kernel
theorem mk_lt:∀ (l:List Int),l.all ok1=true→∀ k,k<32→l.foldl (fun k n=>k ||| 2^(n-1).toNat) k<32
 | [],_,k,hk=>hk
 | n::l,h,k,hk=>by
  simp only [List.all_cons,Bool.and_eq_true] at h
  obtain ⟨j,hj,rfl⟩:=ok1_pos h.1
  refine mk_lt l h.2 _ ?_
  have:=(or_step k hk j hj).1
  show k ||| 2^((j:Int)+1-1).toNat<32
  rwa [show ((j:Int)+1-1).toNat=j by omega]
theorem mk_bt:∀ (l:List Int),l.all ok1=true→∀ k,k<32→∀ i,i<5→bt (l.foldl (fun k n=>k ||| 2^(n-1).toNat) k) i=(bt k i || decide (((i:Int)+1)∈l))
 | [],_,k,hk,i,hi=>by simp
 | n::l,h,k,hk,i,hi=>by
  simp only [List.all_cons,Bool.and_eq_true] at h
  obtain ⟨j,hj,rfl⟩:=ok1_pos h.1
  have h1:=(or_step k hk j hj).1
  rw [List.foldl_cons,show ((j:Int)+1-1).toNat=j by omega,mk_bt l h.2 _ h1 i hi,bt_or k hk j hj i hi,Bool.or_assoc]
  congr 1
  by_cases e:i=j
  ·subst e;simp
  ·have:¬ ((i:Int)+1=(j:Int)+1):=by omega
   simp [e,this]
theorem mk_bt' {l:List Int} (h:l.all ok1=true) {i:Nat} (hi:i<5):bt (mk l) i=decide (((i:Int)+1)∈l):=by
 unfold mk;rw [mk_bt l h 0 (by omega) i hi]
 have:∀ i,i<5→bt 0 i=false:=by decide
 rw [this i hi,Bool.false_or]
theorem bits_sum:∀ k,k<32→k=(bt k 0).toNat+2*(bt k 1).toNat+4*(bt k 2).toNat+8*(bt k 3).toNat+16*(bt k 4).toNat:=by decide +kernel
theorem bits_ext {a b:Nat} (ha:a<32) (hb:b<32) (h:∀ i,i<5→bt a i=bt b i):a=b:=by
 rw [bits_sum a ha,bits_sum b hb,h 0 (by omega),h 1 (by omega),h 2 (by omega),h 3 (by omega),h 4 (by omega)]
theorem mk_ls:∀ k,k<32→mk (ls k)=k:=by decide +kernel
theorem ls_ok:∀ k,k<32→(ls k).all ok1=true:=by decide +kernel
theorem ls_len:∀ k,k<32→(ls k).length=pop k:=by decide +kernel
theorem lsTo_len (k:Nat):∀ j,(lsTo k j).length≤j
 | 0=>Nat.le_refl _
 | j+1=>by
  unfold lsTo
  have:=lsTo_len k j
  split
  ·simp;omega
  ·omega
theorem pop_le (k:Nat):pop k≤5:=by
 unfold pop
 have:∀ b:Bool,b.toNat≤1:=by decide
 have h0:=this (bt k 0);have h1:=this (bt k 1);have h2:=this (bt k 2);have h3:=this (bt k 3);have h4:=this (bt k 4)
 omega
theorem CHas_any (h:Heap) (c n:Int):ACalls PR 118 #[I c,I n] h (fun v h'=>v = .bool (hasB c n)∧h=h'):=by
 refine Ar (As mix Tryz.func118 rfl rfl Tryz.ntmps118 Tryz.results118 rfl ?_);conv=>whnf
 refine ACmp.split (fun h1=>?_) (fun h1=>?_)
 ·conv=>whnf
  refine ACmp.split (fun h2=>?_) (fun h2=>?_)
  ·conv=>whnf
   obtain ⟨j,hj,rfl⟩:∃ j:Nat,j<5∧n=(j:Int)+1:=⟨(n-1).toNat,by omega,by omega⟩
   refine ⟨by omega,?_⟩
   conv=>whnf
   refine Aq ((fdiv_pow c (j+1) (by omega))) ?_;conv=>whnf
   refine Aq (and1 _) ?_;conv=>whnf
   refine ACmp.dec ?_
   conv=>whnf
   refine ⟨?_,Sub.refl _⟩
   rw [hasB_in c j hj,← hasB_pow c j hj]
  ·conv=>whnf
   exact ⟨by rw [hasB_out c n (by omega)],Sub.refl _⟩
 ·conv=>whnf
  exact ⟨by rw [hasB_out c n (by omega)],Sub.refl _⟩
theorem refHas_any (h:Heap) (c n:Int) (hc : -9223372036854775808≤c) (hc':c≤9223372036854775807):ACalls PR 89 #[I c,I n] h (fun v h'=>v = .bool (hasB c n)∧h=h'):=by
 refine Ar (As mix Tryz.func89 rfl rfl Tryz.ntmps89 Tryz.results89 rfl ?_);conv=>whnf
 by_cases hin:1≤n∧n≤5
 ·refine Ad (by omega) ?_;conv=>whnf
  refine Ad (by omega) ?_;conv=>whnf
  obtain ⟨j,hj,rfl⟩:∃ j:Nat,j<5∧n=(j:Int)+1:=⟨(n-1).toNat,by omega,by omega⟩
  refine ACmp.split (fun hneg=>?_) (fun hneg=>?_)
  ·conv=>whnf
   refine Aq (and62 c) ?_;conv=>whnf
   generalize hc0:((2*m5 c:Nat):Int)=c0
   have hl:=m5_lt c
   have h0:0≤c0:=by omega
   have h1:c0≤9223372036854775807:=by omega
   have hm:m5 c0=m5 c:=by
    subst hc0;show ((((2*m5 c:Nat):Int) / 2) % 32).toNat=m5 c;omega
   conv=>whnf
   refine ALoop.mk (fun e h'=>Sub h h'∧∃ e0,∃ k:Nat,e=updL 26 e0 [(0,I (c0 / 2^k)),(1,I ((j:Int)+1)),(5,I k)]∧k≤j+1) (fun e=>(j+1)-natOf (e 5))
    ⟨Sub.refl _,_,0,Au ⟨by rw [Int.pow_zero,Int.ediv_one];rfl,rfl,rfl,trivial⟩,by omega⟩ ?_
   rintro e h2 ⟨s2,e0,k,rfl,hk⟩
   conv=>whnf
   by_cases hkn:k<j+1
   ·refine Ac (by omega) ?_;conv=>whnf
    refine ⟨by decide,?_⟩
    conv=>whnf
    have hq:(c0 / 2^k).tdiv 2=c0 / 2^(k+1):=by
     rw [Int.tdiv_eq_ediv_of_nonneg (Int.ediv_nonneg h0 (Int.le_of_lt (Int.pow_pos (by decide)))),Int.pow_succ,Int.ediv_ediv_of_nonneg (Int.le_of_lt (Int.pow_pos (by decide)))]
    have hq0:0≤c0 / 2^(k+1):=Int.ediv_nonneg h0 (Int.le_of_lt (Int.pow_pos (by decide)))
    have hq1:c0 / 2^(k+1)≤c0:=Int.ediv_le_self _ h0
    refine Ag (by omega) (by omega) hq ?_;conv=>whnf
    refine Ag (by omega) (by omega) ((by omega:(k:Int)+1=((k+1:Nat):Int))) ?_;conv=>whnf
    refine ⟨⟨s2,_,k+1,Au ⟨rfl,rfl,rfl,trivial⟩,by omega⟩,?_⟩
    show (j+1)-(k+1)<(j+1)-k
    omega
   ·refine Ad (by omega) ?_;conv=>whnf
    obtain rfl:k=j+1:=by omega
    refine ⟨by decide,?_⟩
    conv=>whnf
    have hq0:0≤c0 / 2^(j+1):=Int.ediv_nonneg h0 (Int.le_of_lt (Int.pow_pos (by decide)))
    refine Aq (Int.tmod_eq_emod_of_nonneg hq0) ?_;conv=>whnf
    refine ACmp.dec ?_
    conv=>whnf
    refine ⟨?_,s2⟩
    first
     |rw [hasB_in c0 j hj,← hasB_pow c0 j hj]
     |rw [hasB_in c j hj,← hm,← hasB_pow c0 j hj]
  ·conv=>whnf
   have h0:0≤c:=by omega
   have h1:=hc'
   clear hc hc' hneg
   generalize c=c0 at h0 h1 ⊢
   refine ALoop.mk (fun e h'=>Sub h h'∧∃ e0,∃ k:Nat,e=updL 26 e0 [(0,I (c0 / 2^k)),(1,I ((j:Int)+1)),(5,I k)]∧k≤j+1) (fun e=>(j+1)-natOf (e 5))
    ⟨Sub.refl _,_,0,Au ⟨by rw [Int.pow_zero,Int.ediv_one];rfl,rfl,rfl,trivial⟩,by omega⟩ ?_
   rintro e h2 ⟨s2,e0,k,rfl,hk⟩
   conv=>whnf
   by_cases hkn:k<j+1
   ·refine Ac (by omega) ?_;conv=>whnf
    refine ⟨by decide,?_⟩
    conv=>whnf
    have hq:(c0 / 2^k).tdiv 2=c0 / 2^(k+1):=by
     rw [Int.tdiv_eq_ediv_of_nonneg (Int.ediv_nonneg h0 (Int.le_of_lt (Int.pow_pos (by decide)))),Int.pow_succ,Int.ediv_ediv_of_nonneg (Int.le_of_lt (Int.pow_pos (by decide)))]
    have hq0:0≤c0 / 2^(k+1):=Int.ediv_nonneg h0 (Int.le_of_lt (Int.pow_pos (by decide)))
    have hq1:c0 / 2^(k+1)≤c0:=Int.ediv_le_self _ h0
    refine Ag (by omega) (by omega) hq ?_;conv=>whnf
    refine Ag (by omega) (by omega) ((by omega:(k:Int)+1=((k+1:Nat):Int))) ?_;conv=>whnf
    refine ⟨⟨s2,_,k+1,Au ⟨rfl,rfl,rfl,trivial⟩,by omega⟩,?_⟩
    show (j+1)-(k+1)<(j+1)-k
    omega
   ·refine Ad (by omega) ?_;conv=>whnf
    obtain rfl:k=j+1:=by omega
    refine ⟨by decide,?_⟩
    conv=>whnf
    have hq0:0≤c0 / 2^(j+1):=Int.ediv_nonneg h0 (Int.le_of_lt (Int.pow_pos (by decide)))
    refine Aq (Int.tmod_eq_emod_of_nonneg hq0) ?_;conv=>whnf
    refine ACmp.dec ?_
    conv=>whnf
    refine ⟨?_,s2⟩
    first
     |rw [hasB_in c0 j hj,← hasB_pow c0 j hj]
     |rw [hasB_in c j hj,← hm,← hasB_pow c0 j hj]
 ·rw [hasB_out c n hin]
  by_cases h1:n<1
  ·refine Ac (by omega) ?_;conv=>whnf
   exact ⟨rfl,Sub.refl _⟩
  ·refine Ad (by omega) ?_;conv=>whnf
   refine Ac (by omega) ?_;conv=>whnf
   exact ⟨rfl,Sub.refl _⟩
theorem AArith.as {kd:IntKind} {r r':Int} {K:Int→Prop} (e:kd.wrap r=r') (k:K r'):AArith kd r K:=⟨by rw [e];exact k⟩
theorem AInt.raw {r:Int} {K:Int→Prop} (k:K r):AInt r K:=⟨k⟩
theorem u64_wrap {r:Int} (h:0≤r) (h':r<18446744073709551616):IntKind.u64.wrap r=r:=by
 show (if (false&&decide (r % 18446744073709551616≥9223372036854775808))=true then r % 18446744073709551616-18446744073709551616 else r % 18446744073709551616)=r
 rw [Bool.false_and,if_neg (by simp)];omega
theorem List_own (h:Heap) (c:Int) (o:Nat) (hn:NoOwner o h):ACalls PR 55 #[I c] h (fun v h'=>∃ a cp,v = .slice a (ls (m5 c)).length cp∧Own h' (o,0) 3 a (ls (m5 c)).length cp 1 ((ls (m5 c)).map I)∧Sub h h'):=by
 refine As mix Tryz.func55 rfl rfl Tryz.ntmps55 Tryz.results55 rfl ?_;conv=>whnf
 refine ALoop.mk (fun e h'=>∃ e0,∃ k:Nat,∃ a cp,e=updL 19 e0 [(0,I c),(3, .slice a (lsTo (m5 c) k).length cp),(5,I k)]∧k≤5∧Own h' (o,0) 3 a (lsTo (m5 c) k).length cp 1 ((lsTo (m5 c) k).map I)∧Keep o h h')
  (fun e=>5-natOf (e 5)) ⟨_,0,none,0,Au ⟨rfl,rfl,rfl,trivial⟩,by omega, .inl ⟨rfl,rfl,rfl⟩,Keep.refl _ _⟩ ?_
 rintro e h2 ⟨e0,k,a,cp,rfl,hk,hown,hkeep⟩
 conv=>whnf
 by_cases hk5:k<5
 ·refine Ac (by omega) ?_;conv=>whnf
  refine Ag (by omega) (by omega) (rfl) ?_;conv=>whnf
  refine ACalls.mono (CHas_any h2 c _) ?_
  rw [hasB_in c k hk5]
  rintro _ _ ⟨rfl,rfl⟩
  have hln:=lsTo_len (m5 c) k
  cases hb:bt (m5 c) k
  ·conv=>whnf
   have e1:lsTo (m5 c) (k+1)=lsTo (m5 c) k:=by rw [lsTo,hb];rfl
   refine Ag (by omega) (by omega) ((by omega:(k:Int)+1=((k+1:Nat):Int))) ?_;conv=>whnf
   refine ⟨⟨_,k+1,a,cp,Au ⟨rfl,by rw [e1];rfl,rfl,trivial⟩,by omega,by rw [e1];exact hown,hkeep⟩,?_⟩
   show 5-(k+1)<5-k
   omega
  ·conv=>whnf
   have e1:lsTo (m5 c) (k+1)=lsTo (m5 c) k++[(k:Int)+1]:=by rw [lsTo,hb];rfl
   refine Ag (by omega) (by omega) (rfl) ?_;conv=>whnf
   refine ABuildSl.mk (0,1) rfl rfl rfl rfl rfl rfl rfl fun b3 f3=>?_;conv=>whnf
   have s3:=f3.sub (row (0,1) [I ((k:Int)+1)] 3)
   refine AAppend.own (t:=(o,0)) (E:=3) (z:=1) (by_:=8) (zero:=[I 0]) (tx:=(0,1)) (xs:=[I ((k:Int)+1)]) rfl ⟨_,rfl⟩ rfl rfl rfl rfl (by omega) (hown.move fun _ _ z=>s3 _ _ z)
    ⟨rfl,Nat.le_refl _, .inr ⟨b3,0,_,_,_,rfl,Heap.set_same _ _ _,rfl⟩⟩ rfl (by omega) (by omega) fun a5 cap5 h5 hown5 hk5 _=>?_
   conv=>whnf
   refine Ag (by omega) (by omega) ((by omega:(k:Int)+1=((k+1:Nat):Int))) ?_;conv=>whnf
   have e2:(lsTo (m5 c) (k+1)).length=(lsTo (m5 c) k).length+1:=by rw [e1,List.length_append];rfl
   refine ⟨⟨_,k+1,a5,cap5,Au ⟨rfl,by rw [e2];rfl,rfl,trivial⟩,by omega,?_,hkeep.trans ((s3.keep o).trans hk5.keep)⟩,?_⟩
   ·rw [e2,e1,List.map_append];exact hown5
   show 5-(k+1)<5-k
   omega
 ·refine Ad (by omega) ?_;conv=>whnf
  obtain rfl:k=5:=by omega
  exact ⟨a,cp,rfl,hown,hkeep.toSub hn⟩
theorem refList_own (h:Heap) (c:Int) (hc : -9223372036854775808≤c) (hc':c≤9223372036854775807) (o:Nat) (hn:NoOwner o h):ACalls PR 80 #[I c] h (fun v h'=>∃ a cp,v = .slice a (ls (m5 c)).length cp∧Own h' (o,0) 3 a (ls (m5 c)).length cp 1 ((ls (m5 c)).map I)∧Sub h h'):=by
 refine As mix Tryz.func80 rfl rfl Tryz.ntmps80 Tryz.results80 rfl ?_;conv=>whnf
 refine ALoop.mk (fun e h'=>∃ e0,∃ k:Nat,∃ a cp,e=updL 17 e0 [(0,I c),(3, .slice a (lsTo (m5 c) k).length cp),(4,I ((k:Int)+1))]∧k≤5∧Own h' (o,0) 3 a (lsTo (m5 c) k).length cp 1 ((lsTo (m5 c) k).map I)∧Keep o h h')
  (fun e=>6-natOf (e 4)) ⟨_,0,none,0,Au ⟨rfl,rfl,rfl,trivial⟩,by omega, .inl ⟨rfl,rfl,rfl⟩,Keep.refl _ _⟩ ?_
 rintro e h2 ⟨e0,k,a,cp,rfl,hk,hown,hkeep⟩
 conv=>whnf
 by_cases hk5:k<5
 ·refine Ac (by omega) ?_;conv=>whnf
  refine ACalls.mono (refHas_any h2 c _ hc hc') ?_
  rw [hasB_in c k hk5]
  rintro _ _ ⟨rfl,rfl⟩
  have hln:=lsTo_len (m5 c) k
  cases hb:bt (m5 c) k
  ·conv=>whnf
   have e1:lsTo (m5 c) (k+1)=lsTo (m5 c) k:=by rw [lsTo,hb];rfl
   refine Ag (by omega) (by omega) ((by omega:(k:Int)+1+1=((k+1:Nat):Int)+1)) ?_;conv=>whnf
   refine ⟨⟨_,k+1,a,cp,Au ⟨rfl,by rw [e1];rfl,rfl,trivial⟩,by omega,by rw [e1];exact hown,hkeep⟩,?_⟩
   show 6-(((k+1:Nat):Int)+1).toNat<6-((k:Int)+1).toNat
   omega
  ·conv=>whnf
   have e1:lsTo (m5 c) (k+1)=lsTo (m5 c) k++[(k:Int)+1]:=by rw [lsTo,hb];rfl
   refine ABuildSl.mk (0,1) rfl rfl rfl rfl rfl rfl rfl fun b3 f3=>?_;conv=>whnf
   have s3:=f3.sub (row (0,1) [I ((k:Int)+1)] 3)
   refine AAppend.own (t:=(o,0)) (E:=3) (z:=1) (by_:=8) (zero:=[I 0]) (tx:=(0,1)) (xs:=[I ((k:Int)+1)]) rfl ⟨_,rfl⟩ rfl rfl rfl rfl (by omega) (hown.move fun _ _ z=>s3 _ _ z)
    ⟨rfl,Nat.le_refl _, .inr ⟨b3,0,_,_,_,rfl,Heap.set_same _ _ _,rfl⟩⟩ rfl (by omega) (by omega) fun a5 cap5 h5 hown5 hk5 _=>?_
   conv=>whnf
   refine Ag (by omega) (by omega) ((by omega:(k:Int)+1+1=((k+1:Nat):Int)+1)) ?_;conv=>whnf
   have e2:(lsTo (m5 c) (k+1)).length=(lsTo (m5 c) k).length+1:=by rw [e1,List.length_append];rfl
   refine ⟨⟨_,k+1,a5,cap5,Au ⟨rfl,by rw [e2];rfl,rfl,trivial⟩,by omega,?_,hkeep.trans ((s3.keep o).trans hk5.keep)⟩,?_⟩
   ·rw [e2,e1,List.map_append];exact hown5
   show 6-(((k+1:Nat):Int)+1).toNat<6-((k:Int)+1).toNat
   omega
 ·refine Ad (by omega) ?_;conv=>whnf
  obtain rfl:k=5:=by omega
  exact ⟨a,cp,rfl,hown,hkeep.toSub hn⟩
theorem refList_any (h:Heap) (c:Int) (hc : -9223372036854775808≤c) (hc':c≤9223372036854775807):ACalls PR 80 #[I c] h (fun v h'=>∃ a cp t,v = .slice a (ls (m5 c)).length cp∧Sl h' t a (ls (m5 c)).length cp 1 ((ls (m5 c)).map I)∧Sub h h') :=
 ACalls.owner ⟨_,Tryz.func80,rfl,rfl⟩ fun o ho hb=>(refList_own h c hc hc' o (hb.no (Nat.le_refl _))).mono fun _ _ ⟨a,cp,e,s,k⟩=>⟨a,cp,_,e,s.sl,k⟩
theorem ones_any (h:Heap) (k:Nat) (hk:k<32):ACalls PR 196 #[.int .u64 ((2*k:Nat):Int)] h (fun v h'=>v=I (pop k)∧h=h'):=by
 refine Ar (As mix Tryz.func196 rfl rfl Tryz.ntmps196 Tryz.results196 rfl ?_);conv=>whnf
 repeat ((first | refine AInt.raw ?_ | refine AArith.raw ?_ | refine ⟨by decide,?_⟩);conv=>whnf)
 refine ⟨congrArg (Value.int .i64) ?_,Sub.refl _⟩
 revert k
 decide +kernel
theorem Count_any (h:Heap) (c:Int):ACalls PR 166 #[I c] h (fun v h'=>v=I (pop (m5 c))∧h=h'):=by
 refine Ar (As mix Tryz.func166 rfl rfl Tryz.ntmps166 Tryz.results166 rfl ?_);conv=>whnf
 refine Aq (and62 c) ?_;conv=>whnf
 have:=m5_lt c
 refine AArith.as (u64_wrap (by omega) (by omega)) ?_;conv=>whnf
 have c38:ACalls PR 191 #[.int .u64 ((2*m5 c:Nat):Int)] h (fun v h'=>v=I (pop (m5 c))∧h=h'):=by
  refine Ar (As mix Tryz.func191 rfl rfl Tryz.ntmps191 Tryz.results191 rfl ?_);conv=>whnf
  refine C2 (ones_any h (m5 c) (m5_lt c)) ?_;conv=>whnf
  exact ⟨rfl,Sub.refl _⟩
 refine C2 (c38) ?_;conv=>whnf
 exact ⟨rfl,Sub.refl _⟩
theorem EqInts_any (h:Heap) {t1 t2:Tag} {a1 a2:Option Addr} {n1 n2 c1 c2:Nat} {xs ys:List Int} (s1:Sl h t1 a1 n1 c1 1 (xs.map I)) (s2:Sl h t2 a2 n2 c2 1 (ys.map I)) (hn:n1≤4611686018427387904) :
  ACalls PR 109 #[.slice a1 n1 c1, .slice a2 n2 c2] h (fun v h'=>v = .bool (decide (xs=ys))∧h=h'):=by
 have l1:xs.length=n1:=by simpa using s1.len
 have l2:ys.length=n2:=by simpa using s2.len
 refine Ar (As mix Tryz.func109 rfl rfl Tryz.ntmps109 Tryz.results109 rfl ?_);conv=>whnf
 refine ACmp.split (fun hne=>?_) (fun heq=>?_)
 ·conv=>whnf
  refine ⟨?_,Sub.refl _⟩
  rw [decide_eq_false]
  rintro rfl
  omega
 ·conv=>whnf
  obtain rfl:n1=n2:=by omega
  refine ALoop.mk (fun e h'=>Sub h h'∧∃ e0,∃ k:Nat,e=updL 26 e0 [(0, .slice a1 n1 c1),(1, .slice a2 n1 c2),(5,I k)]∧k≤n1∧xs.take k=ys.take k) (fun e=>n1-natOf (e 5))
   ⟨Sub.refl _,_,0,Au ⟨rfl,rfl,rfl,trivial⟩,by omega,rfl⟩ ?_
  rintro e h2 ⟨sb,e0,k,rfl,hk,htk⟩
  conv=>whnf
  by_cases hkn:k<n1
  ·refine Ac (by omega) ?_;conv=>whnf
   obtain ⟨b,off,l,E,fz,rfl,hb,hc⟩:=(s1.sub sb).pos (by omega)
   obtain ⟨b',off',l',E',fz',rfl,hb',hc'⟩:=(s2.sub sb).pos (by omega)
   have g1:l[off+k*1]? = some (I xs[k]):=by rw [get_of_take hc (by omega)];simp
   have g2:l'[off'+k*1]? = some (I ys[k]):=by rw [get_of_take hc' (by omega)];simp
   refine Am (h2) [] (Sub.refl _) (by decide +kernel) ?_;conv=>whnf
   refine Ai (z:=1) (j:=k) rfl hkn rfl rfl ?_;conv=>whnf
   refine Aa rfl hb g1 ?_;conv=>whnf
   refine Ai (z:=1) (j:=k) rfl hkn rfl rfl ?_;conv=>whnf
   refine Aa rfl hb' g2 ?_;conv=>whnf
   refine ACmp.split (fun hne=>?_) (fun heq=>?_)
   ·conv=>whnf
    refine ⟨?_,sb⟩
    rw [decide_eq_false]
    rintro rfl
    exact hne rfl
   ·conv=>whnf
    have hxy:xs[k]=ys[k]:=Classical.not_not.1 heq
    refine Ag (by omega) (by omega) ((by omega:(k:Int)+1=((k+1:Nat):Int))) ?_;conv=>whnf
    refine ⟨⟨sb,_,k+1,Au ⟨rfl,rfl,rfl,trivial⟩,by omega,?_⟩,?_⟩
    ·rw [List.take_succ_eq_append_getElem (by omega),List.take_succ_eq_append_getElem (by omega),htk,hxy]
    show n1-(k+1)<n1-k
    omega
  ·refine Ad (by omega) ?_;conv=>whnf
   refine ⟨?_,sb⟩
   obtain rfl:k=n1:=by omega
   rw [List.take_of_length_le (by omega),List.take_of_length_le (by omega)] at htk
   rw [decide_eq_true htk]
def cchk (c:Int):Int:=if m5 c≠0∧c=((2*m5 c:Nat):Int) then 0 else 180
theorem Check_any (h:Heap) (c:Int) (hc : -9223372036854775808≤c) (hc':c≤9223372036854775807):ACalls PR 75 #[I c] h (fun v h'=>v=I (cchk c)∧h=h'):=by
 refine Ar (As mix Tryz.func75 rfl rfl Tryz.ntmps75 Tryz.results75 rfl ?_);conv=>whnf
 refine Aq (and62 c) ?_;conv=>whnf
 refine ACmp.split (fun h1=>?_) (fun h1=>?_)
 ·conv=>whnf
  exact ⟨by rw [cchk,if_neg (by omega)],Sub.refl _⟩
 ·conv=>whnf
  refine AInt.raw ?_;conv=>whnf
  refine ACmp.split (fun h2=>?_) (fun h2=>?_)
  ·conv=>whnf
   refine ⟨?_,Sub.refl _⟩
   rw [cchk,if_neg]
   rintro ⟨_,e⟩
   exact h2 ((andnot62 hc hc').2 e)
  ·conv=>whnf
   refine ⟨?_,Sub.refl _⟩
   rw [cchk,if_pos ⟨by omega,(andnot62 hc hc').1 (Classical.not_not.1 h2)⟩]
def smTo (l:List Int):Nat→Nat
  | 0=>0
  | j+1=>if ((j:Int)+1)∈l then smTo l j+2^j else smTo l j
def sm (l:List Int):Nat:=smTo l 5
theorem smTo_lt (l:List Int):∀ j,smTo l j<2^j
 | 0=>by simp [smTo]
 | j+1=>by
  have:=smTo_lt l j
  unfold smTo
  rw [Nat.pow_succ]
  split <;> omega
theorem bt_add:∀ j,j<5→∀ k,k<2^j→∀ i,i<5→bt (k+2^j) i=(bt k i || decide (i=j)):=by decide +kernel
theorem smTo_bt (l:List Int):∀ j,j≤5→∀ i,i<5→bt (smTo l j) i=(decide (i<j)&&decide (((i:Int)+1)∈l))
 | 0,_,i,hi=>by
  have:∀ i,i<5→bt 0 i=false:=by decide
  simp [smTo,this i hi]
 | j+1,hj,i,hi=>by
  have ih:=smTo_bt l j (by omega) i hi
  have hlt:=smTo_lt l j
  unfold smTo
  by_cases hm:((j:Int)+1)∈l
  ·rw [if_pos hm,bt_add j (by omega) _ hlt i hi,ih]
   by_cases e:i=j
   ·subst e;simp [hm]
   ·have:decide (i<j+1)=decide (i<j):=by rw [decide_eq_decide];omega
    simp [e,this]
  ·rw [if_neg hm,ih]
   by_cases e:i=j
   ·subst e;simp [hm]
   ·have:decide (i<j+1)=decide (i<j):=by rw [decide_eq_decide];omega
    rw [this]
theorem sm_lt (l:List Int):sm l<32:=smTo_lt l 5
theorem sm_bt (l:List Int) {i:Nat} (hi:i<5):bt (sm l) i=decide (((i:Int)+1)∈l):=by
 unfold sm;rw [smTo_bt l 5 (by omega) i hi,decide_eq_true hi,Bool.true_and]
theorem sm_mk {l:List Int} (h:l.all ok1=true):sm l=mk l :=
 bits_ext (sm_lt l) (mk_lt l h 0 (by omega)) fun i hi=>by rw [sm_bt l hi,mk_bt' h hi]
theorem sm_ls (k:Nat) (h:k<32):sm (ls k)=k:=by rw [sm_mk (ls_ok k h),mk_ls k h]
theorem shl_pow:∀ k:Nat,k<5→IntKind.i64.wrap (1*2^(min ((k:Int)+1).toNat 64))=((2^(k+1):Nat):Int):=by decide +kernel
theorem mem_take_succ {l:List Int} {i:Nat} (h:i<l.length) (x:Int):x∈l.take (i+1)↔x∈l.take i∨l[i]=x:=by
 rw [List.take_succ_eq_append_getElem h,List.mem_append,List.mem_singleton]
 exact or_congr Iff.rfl eq_comm
theorem sum_any (h:Heap) {t:Tag} {a:Option Addr} {n cp:Nat} {l:List Int} (s:Sl h t a n cp 1 (l.map I)) (hn:n≤4611686018427387904) :
  ACalls PR 79 #[.slice a n cp] h (fun v h'=>v=I ((2*sm l:Nat):Int)∧h=h'):=by
 have hl:l.length=n:=by simpa using s.len
 refine Ar (As mix Tryz.func79 rfl rfl Tryz.ntmps79 Tryz.results79 rfl ?_);conv=>whnf
 refine ALoop.mk (fun e h'=>Sub h h'∧∃ e0,∃ k:Nat,e=updL 32 e0 [(0, .slice a n cp),(3,I ((2*smTo l k:Nat):Int)),(4,I ((k:Int)+1))]∧k≤5) (fun e=>6-natOf (e 4))
  ⟨Sub.refl _,_,0,Au ⟨rfl,rfl,rfl,trivial⟩,by omega⟩ ?_
 rintro e h2 ⟨s2,e0,k,rfl,hk⟩
 conv=>whnf
 by_cases hk5:k<5
 ·refine Ac (by omega) ?_;conv=>whnf
  refine ALoop.mk (fun e h'=>Sub h h'∧∃ e0,∃ i:Nat,e=updL 32 e0 [(0, .slice a n cp),(3,I ((2*smTo l k:Nat):Int)),(4,I ((k:Int)+1)),(5, .bool (decide (((k:Int)+1)∈l.take i))),(6,I i)]∧i≤n) (fun e=>n-natOf (e 6))
   ⟨s2,_,0,Au ⟨rfl,rfl,rfl,show Value.bool false=Value.bool (decide _) by simp,rfl,trivial⟩,by omega⟩ ?_
  rintro e h3 ⟨s3,e1,i,rfl,hi⟩
  cases hd:decide (((k:Int)+1)∈l.take i) with
  | true =>
   conv=>whnf
   have hm:=of_decide_eq_true hd
   by_cases hin:i<n
   ·refine Ac (by omega) ?_;conv=>whnf
    refine Ag (by omega) (by omega) ((by omega:(i:Int)+1=((i+1:Nat):Int))) ?_;conv=>whnf
    refine ⟨⟨s3,_,i+1,Au ⟨rfl,rfl,rfl,by rw [decide_eq_true ((mem_take_succ (by omega) _).2 (.inl hm))];rfl,rfl,trivial⟩,by omega⟩,?_⟩
    show n-(i+1)<n-i
    omega
   ·refine Ad (by omega) ?_;conv=>whnf
    have hml:((k:Int)+1)∈l:=List.mem_of_mem_take hm
    refine ⟨by omega,?_⟩
    conv=>whnf
    refine AArith.as (shl_pow k hk5) ?_;conv=>whnf
    have h1:=smTo_lt l k
    have e2:smTo l (k+1)=smTo l k+2^k:=by rw [smTo,if_pos hml]
    have h5:2^k≤16:=Nat.pow_le_pow_right (by omega) (show k≤4 by omega)
    have e3:((2*smTo l k:Nat):Int)+((2^(k+1):Nat):Int)=((2*smTo l (k+1):Nat):Int):=by rw [e2,Nat.pow_succ];omega
    refine Ag (by rw [e3];omega) (by rw [e3,e2];omega) e3 ?_;conv=>whnf
    refine Ag (by omega) (by omega) ((by omega:(k:Int)+1+1=((k+1:Nat):Int)+1)) ?_;conv=>whnf
    refine ⟨⟨s3,_,k+1,Au ⟨rfl,rfl,rfl,trivial⟩,by omega⟩,?_⟩
    show 6-(((k+1:Nat):Int)+1).toNat<6-((k:Int)+1).toNat
    omega
  | false =>
   conv=>whnf
   have hm:=of_decide_eq_false hd
   by_cases hin:i<n
   ·refine Ac (by omega) ?_;conv=>whnf
    obtain ⟨b,off,L,E,fz,rfl,hb,hc⟩:=(s.sub s3).pos (by omega)
    have g1:L[off+i*1]? = some (I l[i]):=by rw [get_of_take hc (by omega)];simp
    refine Ai (z:=1) (j:=i) rfl hin rfl rfl ?_;conv=>whnf
    refine Aa rfl hb g1 ?_;conv=>whnf
    refine ACmp.dec ?_
    conv=>whnf
    refine Ag (by omega) (by omega) ((by omega:(i:Int)+1=((i+1:Nat):Int))) ?_;conv=>whnf
    refine ⟨⟨s3,_,i+1,Au ⟨rfl,rfl,rfl,?_,rfl,trivial⟩,by omega⟩,?_⟩
    ·refine congrArg Value.bool ?_
     rw [decide_eq_decide,mem_take_succ (by omega)]
     exact ⟨.inr,fun x=>x.resolve_left hm⟩
    show n-(i+1)<n-i
    omega
   ·refine Ad (by omega) ?_;conv=>whnf
    have hml:¬ ((k:Int)+1)∈l:=by rwa [List.take_of_length_le (by omega)] at hm
    have e2:smTo l (k+1)=smTo l k:=by rw [smTo,if_neg hml]
    refine Ag (by omega) (by omega) ((by omega:(k:Int)+1+1=((k+1:Nat):Int)+1)) ?_;conv=>whnf
    refine ⟨⟨s3,_,k+1,Au ⟨rfl,by rw [e2];rfl,rfl,trivial⟩,by omega⟩,?_⟩
    show 6-(((k+1:Nat):Int)+1).toNat<6-((k:Int)+1).toNat
    omega
 ·refine Ad (by omega) ?_;conv=>whnf
  obtain rfl:k=5:=by omega
  exact ⟨rfl,s2⟩
theorem refCheck_any (h:Heap) (c:Int) (hc : -9223372036854775808≤c) (hc':c≤9223372036854775807):ACalls PR 33 #[I c] h (fun v h'=>v=I (cchk c)∧h=h'):=by
 refine Ar (As mix Tryz.func33 rfl rfl Tryz.ntmps33 Tryz.results33 rfl ?_);conv=>whnf
 refine ACmp.split (fun h1=>?_) (fun h1=>?_)
 ·conv=>whnf
  exact ⟨by rw [cchk,if_neg (by omega)],Sub.refl _⟩
 ·conv=>whnf
  refine ACalls.mono (refList_any h c hc hc') ?_;rintro _ h2 ⟨a,cp,t,rfl,s,s2⟩;conv=>whnf
  have hp:=pop_le (m5 c)
  have hln:=ls_len _ (m5_lt c)
  refine C2 (sum_any h2 s (by omega)) ?_;conv=>whnf
  rw [sm_ls _ (m5_lt c)]
  refine ACmp.split (fun h2=>?_) (fun h2=>?_)
  ·conv=>whnf
   exact ⟨by rw [cchk,if_neg (by omega)],s2⟩
  ·conv=>whnf
   exact ⟨by rw [cchk,if_pos (by omega)],s2⟩
theorem Most_any (h:Heap) (a b:Int):ACalls PR 127 #[I a,I b] h (fun v h'=>v = .bool (decide (pop (m5 a)<2*pop (m5 a &&& m5 b)))∧h=h'):=by
 refine Ar (As mix Tryz.func127 rfl rfl Tryz.ntmps127 Tryz.results127 rfl ?_);conv=>whnf
 refine Aq (r':=IntKind.i64.wrap ((BitVec.ofInt 64 a &&& BitVec.ofInt 64 b).toNat:Int)) rfl ?_;conv=>whnf
 refine ACalls.mono (Count_any h _) ?_
 rw [m5_and]
 rintro _ _ ⟨rfl,rfl⟩
 conv=>whnf
 have h1:=pop_le (m5 a &&& m5 b)
 have h2:=pop_le (m5 a)
 refine Ag (by omega) (by omega) rfl ?_;conv=>whnf
 refine C2 (Count_any h _) ?_;conv=>whnf
 refine ACmp.dec ?_
 conv=>whnf
 refine ⟨?_,Sub.refl _⟩
 refine congrArg Value.bool ?_
 rw [decide_eq_decide];omega
def chg (a b:Int):Int:=if cchk a=0∧cchk b=0∧pop (m5 a ^^^ m5 b)=1 then 0 else 180
theorem Change_any (h:Heap) (a b:Int) (ha : -9223372036854775808≤a) (ha':a≤9223372036854775807) (hb : -9223372036854775808≤b) (hb':b≤9223372036854775807):ACalls PR 116 #[I a,I b] h (fun v h'=>v=I (chg a b)∧h=h'):=by
 refine Ar (As mix Tryz.func116 rfl rfl Tryz.ntmps116 Tryz.results116 rfl ?_);conv=>whnf
 refine C2 (Check_any h a ha ha') ?_;conv=>whnf
 refine ACmp.split (fun h1=>?_) (fun h1=>?_)
 ·conv=>whnf
  exact ⟨by rw [chg,if_neg (fun c=>h1 c.1)],Sub.refl _⟩
 ·conv=>whnf
  refine C2 (Check_any h b hb hb') ?_;conv=>whnf
  refine ACmp.split (fun h2=>?_) (fun h2=>?_)
  ·conv=>whnf
   exact ⟨by rw [chg,if_neg (fun c=>h2 c.2.1)],Sub.refl _⟩
  ·conv=>whnf
   refine Aq (r':=IntKind.i64.wrap ((BitVec.ofInt 64 a ^^^ BitVec.ofInt 64 b).toNat:Int)) rfl ?_;conv=>whnf
   refine ACalls.mono (Count_any h _) ?_
   rw [m5_xor]
   rintro _ _ ⟨rfl,rfl⟩
   conv=>whnf
   refine ACmp.split (fun h3=>?_) (fun h3=>?_)
   ·conv=>whnf
    exact ⟨by rw [chg,if_neg (fun c=>h3 (by rw [c.2.2];rfl))],Sub.refl _⟩
   ·conv=>whnf
    exact ⟨by rw [chg,if_pos ⟨Classical.not_not.1 h1,Classical.not_not.1 h2,by have:=Classical.not_not.1 h3;omega⟩],Sub.refl _⟩
def dfTo (x:Nat):Nat→Nat
  | 0=>0
  | j+1=>dfTo x j+(bt x j).toNat
theorem dfTo_le (x:Nat):∀ j,dfTo x j≤j
 | 0=>Nat.le_refl _
 | j+1=>by
  have:=dfTo_le x j
  have h:(bt x j).toNat≤1:=Bool.toNat_le _
  unfold dfTo;omega
theorem dfTo_pop (x:Nat):dfTo x 5=pop x:=by simp only [dfTo,pop];omega
theorem refChange_any (h:Heap) (a b:Int) (ha : -9223372036854775808≤a) (ha':a≤9223372036854775807) (hb : -9223372036854775808≤b) (hb':b≤9223372036854775807):ACalls PR 101 #[I a,I b] h (fun v h'=>v=I (chg a b)∧h=h'):=by
 refine Ar (As mix Tryz.func101 rfl rfl Tryz.ntmps101 Tryz.results101 rfl ?_);conv=>whnf
 refine ALoop.mk (fun e h'=>Sub h h'∧∃ e0,∃ k:Nat,e=updL 32 e0 [(0,I a),(1,I b),(5,I (dfTo (m5 a ^^^ m5 b) k)),(6,I ((k:Int)+1))]∧k≤5) (fun e=>6-natOf (e 6))
  ⟨Sub.refl _,_,0,Au ⟨rfl,rfl,rfl,rfl,trivial⟩,by omega⟩ ?_
 rintro e h2 ⟨s2,e0,k,rfl,hk⟩
 conv=>whnf
 by_cases hk5:k<5
 ·refine Ac (by omega) ?_;conv=>whnf
  refine ACalls.mono (refHas_any h2 a _ ha ha') ?_
  rw [hasB_in a k hk5]
  rintro _ _ ⟨rfl,rfl⟩
  cases e1:bt (m5 a) k <;> conv=>whnf
  all_goals refine ACalls.mono (refHas_any h2 b _ hb hb') ?_
  all_goals rw [hasB_in b k hk5]
  all_goals rintro _ _ ⟨rfl,rfl⟩
  all_goals cases e2:bt (m5 b) k <;> conv=>whnf
  all_goals have e3:=bt_xor (m5 a) (m5 b) k
  all_goals rw [e1,e2] at e3
  all_goals have hd:=dfTo_le (m5 a ^^^ m5 b) k
  all_goals have e4:dfTo (m5 a ^^^ m5 b) (k+1)=dfTo (m5 a ^^^ m5 b) k+(bt (m5 a ^^^ m5 b) k).toNat:=rfl
  all_goals rw [e3] at e4
  ·refine Ag (by omega) (by omega) ((by omega:(k:Int)+1+1=((k+1:Nat):Int)+1)) ?_;conv=>whnf
   refine ⟨⟨s2,_,k+1,Au ⟨rfl,rfl,by rw [e4];rfl,rfl,trivial⟩,by omega⟩,?_⟩
   show 6-(((k+1:Nat):Int)+1).toNat<6-((k:Int)+1).toNat
   omega
  ·refine Ag (by omega) (by omega) (rfl) ?_;conv=>whnf
   refine Ag (by omega) (by omega) ((by omega:(k:Int)+1+1=((k+1:Nat):Int)+1)) ?_;conv=>whnf
   refine ⟨⟨s2,_,k+1,Au ⟨rfl,rfl,by rw [e4];rfl,rfl,trivial⟩,by omega⟩,?_⟩
   show 6-(((k+1:Nat):Int)+1).toNat<6-((k:Int)+1).toNat
   omega
  ·refine Ag (by omega) (by omega) (rfl) ?_;conv=>whnf
   refine Ag (by omega) (by omega) ((by omega:(k:Int)+1+1=((k+1:Nat):Int)+1)) ?_;conv=>whnf
   refine ⟨⟨s2,_,k+1,Au ⟨rfl,rfl,by rw [e4];rfl,rfl,trivial⟩,by omega⟩,?_⟩
   show 6-(((k+1:Nat):Int)+1).toNat<6-((k:Int)+1).toNat
   omega
  ·refine Ag (by omega) (by omega) ((by omega:(k:Int)+1+1=((k+1:Nat):Int)+1)) ?_;conv=>whnf
   refine ⟨⟨s2,_,k+1,Au ⟨rfl,rfl,by rw [e4];rfl,rfl,trivial⟩,by omega⟩,?_⟩
   show 6-(((k+1:Nat):Int)+1).toNat<6-((k:Int)+1).toNat
   omega
 ·refine Ad (by omega) ?_;conv=>whnf
  obtain rfl:k=5:=by omega
  rw [dfTo_pop]
  refine C2 (refCheck_any h2 a ha ha') ?_;conv=>whnf
  refine ACmp.split (fun h1=>?_) (fun h1=>?_)
  ·conv=>whnf
   exact ⟨by rw [chg,if_neg (fun c=>h1 c.1)],s2⟩
  ·conv=>whnf
   refine C2 (refCheck_any h2 b hb hb') ?_;conv=>whnf
   refine ACmp.split (fun h2=>?_) (fun h2=>?_)
   ·conv=>whnf
    exact ⟨by rw [chg,if_neg (fun c=>h2 c.2.1)],s2⟩
   ·conv=>whnf
    refine ACmp.split (fun h3=>?_) (fun h3=>?_)
    ·conv=>whnf
     exact ⟨by rw [chg,if_neg (fun c=>h3 (by rw [c.2.2];rfl))],s2⟩
    ·conv=>whnf
     exact ⟨by rw [chg,if_pos ⟨Classical.not_not.1 h1,Classical.not_not.1 h2,by have:=Classical.not_not.1 h3;omega⟩],s2⟩
def cnt (v:Int) (l:List Int):Nat:=l.countP (fun x=>decide (v≤x))
abbrev gd (l:List Int) (p:Nat):Int:=l.getD p 0
theorem gd_get {l:List Int} {p:Nat} (h:p<l.length):gd l p=l[p]:=by simp [gd,h]
def sw (l:List Int) (j:Nat):List Int:=(l.set (j+1) (gd l j)).set j (gd l (j+1))
theorem sw_len (l:List Int) (j:Nat):(sw l j).length=l.length:=by simp [sw]
theorem sw_get (l:List Int) (j p:Nat) (h:j+1<l.length):gd (sw l j) p=if p=j then gd l (j+1) else if p=j+1 then gd l j else gd l p:=by
 unfold sw gd
 simp only [List.getD_eq_getElem?_getD,List.getElem?_set,List.length_set]
 by_cases e1:j=p
 ·subst e1
  rw [if_pos rfl,if_pos (by omega),if_pos rfl];rfl
 ·rw [if_neg e1,if_neg (Ne.symm e1)]
  by_cases e2:j+1=p
  ·subst e2
   rw [if_pos rfl,if_pos (by omega),if_pos rfl];rfl
  ·rw [if_neg e2,if_neg (Ne.symm e2)]
theorem sw_mem {l:List Int} {j:Nat} (h:j+1<l.length) {x:Int} (hx:x∈sw l j):x∈l:=by
 unfold sw at hx
 rcases List.mem_or_eq_of_mem_set hx with hx | hx
 ·rcases List.mem_or_eq_of_mem_set hx with hx | hx
  ·exact hx
  ·rw [hx,gd_get (by omega)];exact List.getElem_mem _
 ·rw [hx,gd_get (by omega)];exact List.getElem_mem _
theorem countP_pos_get {p:Int→Bool} {l:List Int} {i:Nat} (h:i<l.length) (hp:p l[i]=true):0<l.countP p :=
 List.countP_pos_iff.2 ⟨_,List.getElem_mem h,hp⟩
theorem sw_cnt (v:Int) (l:List Int) (j:Nat) (h:j+1<l.length):cnt v (sw l j)=cnt v l:=by
 unfold cnt sw
 have h1:j<(l.set (j+1) (gd l j)).length:=by simp;omega
 rw [List.countP_set h1,List.countP_set h]
 have e1:(l.set (j+1) (gd l j))[j]=l[j]:=by simp
 rw [e1,gd_get (show j<l.length by omega),gd_get h]
 have p1 := @countP_pos_get (fun x=>decide (v≤x)) l (j+1) h
 have p2 := @countP_pos_get (fun x=>decide (v≤x)) l j (by omega)
 have q1:v≤l[j+1]→0<l.countP (fun x=>decide (v≤x)):=fun y=>p1 (decide_eq_true y)
 have q2:v≤l[j]→0<l.countP (fun x=>decide (v≤x)):=fun y=>p2 (decide_eq_true y)
 clear p1 p2
 generalize l.countP (fun x=>decide (v≤x))=C at q1 q2 ⊢
 by_cases a:v≤l[j] <;> by_cases b:v≤l[j+1] <;> simp only [a,b,decide_true,decide_false,if_true,if_false,Bool.false_eq_true,true_implies,false_implies] at q1 q2 ⊢ <;> omega
def SortedTo (l:List Int) (i:Nat):Prop:=∀ p q,p<q→q<i→gd l p≤gd l q
def Ins (l:List Int) (i j:Nat):Prop:=∀ p q,p<q→q≤i→q≠j→gd l p≤gd l q
theorem SortedTo.ins {l:List Int} {i:Nat} (s:SortedTo l i):Ins l i i:=fun p q h1 h2 h3=>s p q h1 (by omega)
theorem Ins.zero {l:List Int} {i:Nat} (s:Ins l i 0):SortedTo l (i+1):=fun p q h1 h2=>s p q h1 (by omega) (by omega)
theorem Ins.stop {l:List Int} {i j:Nat} (s:Ins l i (j+1)) (h:j+1≤i) (k:¬ gd l (j+1)<gd l j):SortedTo l (i+1):=fun p q h1 h2=>by
 by_cases e:q=j+1
 ·subst e
  by_cases e2:p=j
  ·subst e2;omega
  ·have:=s p j (by omega) (by omega) (by omega);omega
 ·exact s p q h1 (by omega) e
theorem Ins.step {l:List Int} {i j:Nat} (s:Ins l i (j+1)) (hi:i<l.length) (h:j+1≤i) (k:gd l (j+1)<gd l j):Ins (sw l j) i j:=fun p q h1 h2 h3=>by
 rw [sw_get l j p (by omega),sw_get l j q (by omega),if_neg h3]
 by_cases e1:q=j+1
 ·rw [if_pos e1]
  by_cases e2:p=j
  ·rw [if_pos e2];omega
  ·rw [if_neg e2,if_neg (by omega)];exact s p j (by omega) (by omega) (by omega)
 ·rw [if_neg e1]
  by_cases e2:p=j
  ·rw [if_pos e2];exact s (j+1) q (by omega) h2 e1
  ·rw [if_neg e2]
   by_cases e3:p=j+1
   ·rw [if_pos e3];exact s j q (by omega) h2 e1
   ·rw [if_neg e3];exact s p q h1 h2 e1
def RankOf (xs:List Int) (r:Int):Prop :=
  (xs=[]∧r=0)∨(xs≠[]∧∃ s,r=(if 0 > s then 0 else s)∧s∈xs∧∀ v,v≤s↔xs.length<2*cnt v xs)
theorem sorted_rank {l:List Int} (h0:l≠[]) (s:SortedTo l l.length):∀ v,v≤gd l ((l.length-1) / 2)↔l.length<2*cnt v l:=by
 intro v
 have hn:0<l.length:=List.length_pos_iff.2 h0
 generalize hk:(l.length-1) / 2=k
 have hkn:k<l.length:=by omega
 constructor
 ·intro hv
  have h1:cnt v l=(l.take k).countP (fun x=>decide (v≤x))+(l.drop k).countP (fun x=>decide (v≤x)):=by
   unfold cnt;rw [← List.countP_append,List.take_append_drop]
  have h2:(l.drop k).countP (fun x=>decide (v≤x))=(l.drop k).length:=by
   rw [List.countP_eq_length]
   intro x hx
   obtain ⟨i,hi,rfl⟩:=List.mem_iff_getElem.1 hx
   rw [List.length_drop] at hi
   rw [List.getElem_drop,← gd_get (show k+i<l.length by omega)]
   refine decide_eq_true ?_
   by_cases e:i=0
   ·subst e;exact hv
   ·have:=s k (k+i) (by omega) (by omega);omega
  rw [List.length_drop] at h2
  omega
 ·intro hc
  refine Classical.byContradiction fun hv=>?_
  have h1:cnt v l=(l.take (k+1)).countP (fun x=>decide (v≤x))+(l.drop (k+1)).countP (fun x=>decide (v≤x)):=by
   unfold cnt;rw [← List.countP_append,List.take_append_drop]
  have h2:(l.take (k+1)).countP (fun x=>decide (v≤x))=0:=by
   rw [List.countP_eq_zero]
   intro x hx
   obtain ⟨i,hi,rfl⟩:=List.mem_iff_getElem.1 hx
   rw [List.length_take] at hi
   rw [List.getElem_take,← gd_get (show i<l.length by omega)]
   intro c
   have c:=of_decide_eq_true c
   by_cases e:i=k
   ·subst e;exact hv c
   ·have:=s i k (by omega) (by omega);omega
  have h3:=List.countP_le_length (p:=fun x=>decide (v≤x)) (l:=l.drop (k+1))
  rw [List.length_drop] at h3
  omega
theorem rank_of_sorted {xs ys:List Int} (hl:ys.length=xs.length) (hm:∀ x∈ys,x∈xs) (hc:∀ v,cnt v ys=cnt v xs) (s:SortedTo ys ys.length) (h0:xs≠[]) :
  RankOf xs (if 0 > gd ys ((ys.length-1) / 2) then 0 else gd ys ((ys.length-1) / 2)):=by
 have hn:0<xs.length:=List.length_pos_iff.2 h0
 refine .inr ⟨h0,_,rfl,hm _ ?_,fun v=>?_⟩
 ·rw [gd_get (by omega)];exact List.getElem_mem _
 ·rw [sorted_rank (by intro c;rw [c] at hl;simp at hl;omega) s v,hl,hc]
theorem cnt_snoc (v:Int) (l:List Int) (x:Int):cnt v (l++[x])=cnt v l+(decide (v≤x)).toNat:=by
 unfold cnt;rw [List.countP_append,List.countP_singleton];cases decide (v≤x) <;> rfl
end Go.Ah
