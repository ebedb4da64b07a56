/- Texts that the law leans on, one behind the other. -/
import Derived.Calls
import Derived.Orders
import Derived.Tactics
import Derived.Laws.World
import Derived.Laws.Sem
import Derived.OrdersHeld
import Derived.Laws.Append
import Derived.MapKept
import Derived.Laws.Strings
import Derived.Laws.Cover1
import Derived.Below
import Derived.ChangeArms
import Derived.DataReads
import Derived.SizedLaws
import Derived.Test.YtdmjkpjedidipaaGreatProg
import Derived.Laws.StructEq
import Derived.ChangeKeysEq
namespace Go.Ah
open Go.Proofs
set_option linter.unusedVariables false
set_option linter.unusedSimpArgs false
set_option maxRecDepth 20000
set_option maxHeartbeats 16000000
abbrev Tag:=Nat×Nat
abbrev Heap:=Nat→Option (Tag×Obj)
def Heap.set (h:Heap) (b:Nat) (x:Tag×Obj):Heap:=fun c=>if c=b then some x else h c
theorem Heap.set_same (h:Heap) (b:Nat) (x:Tag×Obj):(h.set b x) b=some x:=by simp [Heap.set]
theorem Heap.set_ne {h:Heap} {b c:Nat} {x:Tag×Obj} {r} (hne:c≠b) (hc:h c=r):(h.set b x) c=r:=by simp [Heap.set,hne,hc]
def Rel (h:Heap) (w:World):Prop:=∀ b t o,h b=some (t,o)→w.heap[b]? = some o
def Sub (h h':Heap):Prop:=∀ b x,h b=some x→h' b=some x
theorem Sub.refl (h:Heap):Sub h h:=fun _ _ x=>x
theorem Sub.trans {a b c:Heap} (x:Sub a b) (y:Sub b c):Sub a c:=fun _ _ z=>y _ _ (x _ _ z)
theorem Rel.sub {h h':Heap} {w:World} (hr:Rel h' w) (hs:Sub h h'):Rel h w:=fun b t o x=>hr b t o (hs _ _ x)
def Keep (o:Nat) (h h':Heap):Prop:=∀ b (t:Tag) x,t.1≠o→h b=some (t,x)→h' b=some (t,x)
theorem Keep.refl (o:Nat) (h:Heap):Keep o h h:=fun _ _ _ _ x=>x
theorem Keep.trans {o:Nat} {a b c:Heap} (x:Keep o a b) (y:Keep o b c):Keep o a c:=fun _ _ _ n z=>y _ _ _ n (x _ _ _ n z)
theorem Sub.keep {h h':Heap} (s:Sub h h') (o:Nat):Keep o h h':=fun _ _ _ _ x=>s _ _ x
theorem Keep.get {o:Nat} {h h':Heap} (k:Keep o h h') {b:Nat} {t:Tag} {x:Obj} (n:t.1≠o) (e:h b=some (t,x)):h' b=some (t,x):=k _ _ _ n e
def KeepT (t:Tag) (h h':Heap):Prop:=∀ b (u:Tag) x,u≠t→h b=some (u,x)→h' b=some (u,x)
theorem KeepT.refl (t:Tag) (h:Heap):KeepT t h h:=fun _ _ _ _ x=>x
theorem KeepT.trans {t:Tag} {a b c:Heap} (x:KeepT t a b) (y:KeepT t b c):KeepT t a c:=fun _ _ _ n z=>y _ _ _ n (x _ _ _ n z)
theorem Sub.keepT {h h':Heap} (s:Sub h h') (t:Tag):KeepT t h h':=fun _ _ _ _ x=>s _ _ x
theorem KeepT.keep {t:Tag} {h h':Heap} (k:KeepT t h h'):Keep t.1 h h':=fun _ _ _ n e=>k _ _ _ (fun c=>n (by rw [c])) e
theorem KeepT.get {t:Tag} {h h':Heap} (k:KeepT t h h') {b:Nat} {u:Tag} {x:Obj} (n:u≠t) (e:h b=some (u,x)):h' b=some (u,x):=k _ _ _ n e
theorem KeepT.set {h:Heap} {b:Nat} {t:Tag} {x y:Obj} (e:h b=some (t,x)):KeepT t h (h.set b (t,y)):=fun c u z n hc=>by
 refine Heap.set_ne ?_ hc
 intro hcb;subst hcb;rw [e] at hc;cases hc;exact n rfl
def Fresh (h:Heap) (b:Nat):Prop:=∀ c x,h c=some x→c<b
theorem Fresh.none {h:Heap} {b:Nat} (f:Fresh h b):h b=none:=by
 cases e:h b with
 | none=>rfl
 | some x=>exact absurd (f _ _ e) (Nat.lt_irrefl _)
theorem Fresh.ne {h:Heap} {b c:Nat} (f:Fresh h b) {x} (e:h c=some x):c≠b:=Nat.ne_of_lt (f _ _ e)
theorem Fresh.sub {h:Heap} {b:Nat} (f:Fresh h b) (x:Tag×Obj):Sub h (h.set b x):=fun c y e=>Heap.set_ne (f.ne e) e
theorem Fresh.none' {h h1:Heap} {b:Nat} (f:Fresh h1 b) (s:Sub h h1):h b=Option.none:=by
 cases e:h b with
 | none=>rfl
 | some x=>have:=s _ _ e;rw [f.none] at this;cases this
theorem Sub.set {h c:Heap} {b:Nat} (s:Sub h c) (hb:h b=none) (y:Tag×Obj):Sub h (c.set b y):=by
 intro d x e
 refine Heap.set_ne ?_ (s _ _ e)
 intro hdb;subst hdb;rw [hb] at e;cases e
theorem Rel.fresh {h:Heap} {w:World} (hr:Rel h w):Fresh h w.heap.size:=by
 intro c ⟨t,o⟩ e
 have:=hr c t o e
 exact (Array.getElem?_eq_some_iff.1 this).1
structure Base where
  os:Os
  tape:Nat→Question→Nat
  out:Array (Nat×ByteArray)
  n:Nat
structure RelB (β:Base) (h:Heap) (w:World):Prop where
  rel:Rel h w
  os:w.os=β.os
  tape:w.tape=β.tape
  out:w.output=β.out
  size:β.n≤w.heap.size
theorem RelB.sub {β:Base} {h h':Heap} {w:World} (hr:RelB β h' w) (hs:Sub h h'):RelB β h w:=⟨hr.rel.sub hs,hr.os,hr.tape,hr.out,hr.size⟩
theorem RelB.drew {β:Base} {h:Heap} {w:World} (hr:RelB β h w):RelB β h {w with drawn:=w.drawn+1}:=⟨hr.rel,hr.os,hr.tape,hr.out,hr.size⟩
def Heap.cell? (h:Heap) (a:Addr):Option Value :=
  match h a.block with
  | some (_, .cells c _ _)=>if a.spot.isSome then none else c[a.off]?
  | _=>none
theorem Rel.cell {h:Heap} {w:World} {a:Addr} {v:Value} (hr:Rel h w) (hc:h.cell? a=some v):w.cell? a=some v:=by
 unfold Heap.cell? at hc
 split at hc
 ·rename_i t c e fz hb
  rw [World.cell?,hr _ _ _ hb]
  exact hc
 ·cases hc
def oneCell:Value→Bool
  | .agg _ | .tuple _=>false
  | _=>true
def Heap.open? (h:Heap) (a:Addr):Option (Tag×Array Value×TypeId×(Nat×Nat)) :=
  match h a.block with
  | some (t, .cells c e (lo,hi))=>if a.spot.isSome then none else if a.off<c.size then if lo≤a.off&&a.off<hi then none else some (t,c,e,(lo,hi)) else none
  | _=>none
def freezeObj (a:Addr) (n:Nat):Obj→Obj
  | .cells c elem (lo,hi) => .cells c elem (if lo == hi then (a.off,a.off+n) else (min lo a.off,max hi (a.off+n)))
  | o=>o
def isCells:Obj→Bool
  | .cells .. => true
  | _=>false
def awp {α:Type} (P:Program):Sem α→Heap→(α→Heap→Prop)→Prop
  | .pure a,h,K=>K a h
  | .load _ a k,h,K=>∃ v,h.cell? a=some v∧awp P (k v) h K
  | .store _ a v k,h,K=>oneCell v=true∧∃ t c e fz,h.open? a=some (t,c,e,fz)∧awp P k (h.set a.block (t, .cells (c.setIfInBounds a.off v) e fz)) K
  | .new o k,h,K=>∃ tag,∀ b,Fresh h b→awp P (k b) (h.set b (tag,o)) K
  | .shape r k,h,K=>∃ t c e fz,h r=some (t, .cells c e fz)∧awp P (k (some (e,c.size))) h K
  | .freeze a n k,h,K=>if n=0 then awp P k h K else ∃ t o,h a.block=some (t,o)∧awp P k (h.set a.block (t,freezeObj a n o)) K
  | .frozen a k,h,K=>∃ t c e lo hi,h a.block=some (t, .cells c e (lo,hi))∧awp P (k (lo≤a.off&&a.off<hi)) h K
  | .getObj r k,h,K=>∃ t o,h r=some (t,o)∧isCells o=false∧awp P (k o) h K
  | .setObj r o k,h,K=>∃ t o',h r=some (t,o')∧isCells o'=false∧awp P k (h.set r (t,o)) K
  | .choose q k,h,K=>if q.forced then awp P (k 0) h K else ∀ n,awp P (k (q.cut n)) h K
  | .program k,h,K=>awp P (k P) h K
  | .mark _ k,h,K=>awp P k h K
  | .sys _ _,_,_=>False
  | .halt _,_,_=>False
theorem Rel.set {h:Heap} {w w':World} {b:Nat} {t:Tag} {o:Obj} (hr:Rel h w) (hb:w'.heap[b]? = some o)
  (ho:∀ c,c≠b→w'.heap[c]? = w.heap[c]?):Rel (h.set b (t,o)) w':=by
 intro c t' o' e
 unfold Heap.set at e
 split at e
 ·rename_i hcb;subst hcb;cases e;exact hb
 ·rename_i hcb;rw [ho c hcb];exact hr c t' o' e
theorem RelB.set {β:Base} {h:Heap} {w w':World} {b:Nat} {t:Tag} {o:Obj} (hr:RelB β h w) (hb:w'.heap[b]? = some o)
  (ho:∀ c,c≠b→w'.heap[c]? = w.heap[c]?) (h1:w'.os=w.os) (h2:w'.tape=w.tape) (h3:w'.output=w.output) (h4:w.heap.size≤w'.heap.size):RelB β (h.set b (t,o)) w' :=
 ⟨hr.rel.set hb ho,h1.trans hr.os,h2.trans hr.tape,h3.trans hr.out,Nat.le_trans hr.size h4⟩
theorem awp_sound {α:Type} {P:Program} (s:Sem α):∀ {β:Base} {h:Heap} {K:α→Heap→Prop} {w:World},awp P s h K→RelB β h w →
  ∃ a w' h',s.run P w = .ok a w'∧RelB β h' w'∧K a h':=by
 induction s with
 | pure a=>intro β h K w hk hr;exact ⟨a,w,h,rfl,hr,hk⟩
 | load m a k ih =>
  intro β h K w ⟨v,hc,hk⟩ hr
  obtain ⟨a',w',h',e,r,q⟩:=ih v hk hr
  exact ⟨a',w',h',by simp only [Sem.run,hr.rel.cell hc];exact e,r,q⟩
 | store m a v k ih =>
  intro β h K w ⟨hv,t,c,e,fz,ho,hk⟩ hr
  obtain ⟨lo,hi⟩:=fz
  unfold Heap.open? at ho
  split at ho
  ·rename_i t' c' e' lo' hi' hb
   split at ho
   ·cases ho
   ·rename_i hspot
    split at ho
    ·rename_i hlt
     split at ho
     ·cases ho
     ·rename_i hfz
      simp only [Option.some.injEq,Prod.mk.injEq] at ho
      obtain ⟨rfl,rfl,rfl,rfl,rfl⟩:=ho
      have hw:=hr.rel _ _ _ hb
      have hcell:w.cell? a=some (c'[a.off]):=by
       unfold World.cell?;rw [hw];simp [hspot,hlt]
      have hfrz:w.frozen? a=false:=by
       unfold World.frozen?;rw [hw];simpa using hfz
      have hset:(w.setCell a v).heap[a.block]? = some (.cells (c'.setIfInBounds a.off v) e' (lo',hi')):=by
       have hsz:=(Array.getElem?_eq_some_iff.1 hw).1
       simp only [World.setCell,Array.getElem?_modify,hw]
       simp [hspot]
      have hoth:∀ b,b≠a.block→(w.setCell a v).heap[b]? = w.heap[b]? := by
       intro b hne
       simp only [World.setCell,Array.getElem?_modify]
       rw [if_neg (fun h=>hne h.symm)]
      obtain ⟨a',w',h',e,r,q⟩:=ih hk (hr.set hset hoth rfl rfl rfl (by simp [World.setCell]))
      refine ⟨a',w',h',?_,r,q⟩
      cases v <;> first | (simp [oneCell] at hv;done) | (simp only [Sem.run,hcell,hfrz];exact e)
    ·cases ho
  ·cases ho
 | new o k ih =>
  intro β h K w ⟨tag,hk⟩ hr
  have hf:=hr.rel.fresh
  have hset:({w with heap:=w.heap.push o}:World).heap[w.heap.size]? = some o:=by simp
  have hoth:∀ c,c≠w.heap.size→({w with heap:=w.heap.push o}:World).heap[c]? = w.heap[c]? := by
   intro c hne
   simp only [Array.getElem?_push]
   rw [if_neg hne]
  obtain ⟨a',w',h',e,r,q⟩:=ih w.heap.size (hk _ hf) (hr.set hset hoth rfl rfl rfl (by simp))
  exact ⟨a',w',h',by simp only [Sem.run];exact e,r,q⟩
 | shape r k ih =>
  intro β h K w ⟨t,c,e,fz,hb,hk⟩ hr
  obtain ⟨a',w',h',e',r',q⟩:=ih _ hk hr
  refine ⟨a',w',h',?_,r',q⟩
  simp only [Sem.run,World.shape?,hr.rel _ _ _ hb];exact e'
 | freeze a n k ih =>
  intro β h K w hk hr
  simp only [awp] at hk
  by_cases hn:n=0
  ·rw [if_pos hn] at hk
   obtain ⟨a',w',h',e',r',q⟩:=ih hk hr
   exact ⟨a',w',h',by simp only [Sem.run,World.freeze,if_pos hn];exact e',r',q⟩
  ·rw [if_neg hn] at hk
   obtain ⟨t,o,hb,hk⟩:=hk
   have hw:=hr.rel _ _ _ hb
   have hset:(w.freeze a n).heap[a.block]? = some (freezeObj a n o):=by
    simp only [World.freeze,if_neg hn,Array.getElem?_modify,hw]
    cases o <;> simp [freezeObj]
   have hoth:∀ c,c≠a.block→(w.freeze a n).heap[c]? = w.heap[c]? := by
    intro c hne
    simp only [World.freeze,if_neg hn,Array.getElem?_modify]
    rw [if_neg (fun h=>hne h.symm)]
   obtain ⟨a',w',h',e',r',q⟩:=ih hk (hr.set hset hoth (by simp only [World.freeze,if_neg hn]) (by simp only [World.freeze,if_neg hn]) (by simp only [World.freeze,if_neg hn]) (by simp [World.freeze,if_neg hn]))
   exact ⟨a',w',h',by simp only [Sem.run];exact e',r',q⟩
 | frozen a k ih =>
  intro β h K w ⟨t,c,e,lo,hi,hb,hk⟩ hr
  obtain ⟨a',w',h',e',r',q⟩:=ih _ hk hr
  refine ⟨a',w',h',?_,r',q⟩
  simp only [Sem.run,World.frozen?,hr.rel _ _ _ hb];exact e'
 | getObj r k ih =>
  intro β h K w ⟨t,o,hb,hc,hk⟩ hr
  obtain ⟨a',w',h',e',r',q⟩:=ih _ hk hr
  refine ⟨a',w',h',?_,r',q⟩
  simp only [Sem.run,hr.rel _ _ _ hb]
  cases o <;> first | (simp [isCells] at hc;done) | exact e'
 | setObj r o k ih =>
  intro β h K w ⟨t,o',hb,hc,hk⟩ hr
  have hw:=hr.rel _ _ _ hb
  have hsz:=(Array.getElem?_eq_some_iff.1 hw).1
  have hset:({w with heap:=w.heap.setIfInBounds r o}:World).heap[r]? = some o:=by simp [hsz]
  have hoth:∀ c,c≠r→({w with heap:=w.heap.setIfInBounds r o}:World).heap[c]? = w.heap[c]? := by
   intro c hne
   simp [Array.getElem?_setIfInBounds_ne (Ne.symm hne)]
  obtain ⟨a',w',h',e',r',q⟩:=ih hk (hr.set hset hoth rfl rfl rfl (by simp))
  refine ⟨a',w',h',?_,r',q⟩
  simp only [Sem.run,hw]
  cases o' <;> first | (simp [isCells] at hc;done) | exact e'
 | choose q k ih =>
  intro β h K w hk hr
  simp only [awp] at hk
  by_cases hq:q.forced=true
  ·rw [if_pos hq] at hk
   obtain ⟨a',w',h',e',r',q'⟩:=ih _ hk hr
   exact ⟨a',w',h',by simp only [Sem.run,hq,if_true];exact e',r',q'⟩
  ·rw [if_neg hq] at hk
   obtain ⟨a',w',h',e',r',q'⟩:=ih _ (hk (w.tape w.drawn q)) (hr.drew (w:=w))
   exact ⟨a',w',h',by simp only [Sem.run,hq,if_false];exact e',r',q'⟩
 | sys c k ih=>intro β h K w hk hr;exact hk.elim
 | program k ih =>
  intro β h K w hk hr
  obtain ⟨a',w',h',e',r',q⟩:=ih _ hk hr
  exact ⟨a',w',h',by simp only [Sem.run];exact e',r',q⟩
 | mark m k ih =>
  intro β h K w hk hr
  obtain ⟨a',w',h',e',r',q⟩:=ih hk hr
  exact ⟨a',w',h',by simp only [Sem.run];exact e',r',q⟩
 | halt x=>intro β h K w hk hr;exact hk.elim
def rwp {α:Type} (P:Program):Sem α→Heap→(α→Prop)→Prop
  | .pure a,_,K=>K a
  | .load _ a k,h,K=>∃ v,h.cell? a=some v∧rwp P (k v) h K
  | .shape r k,h,K=>∃ t c e fz,h r=some (t, .cells c e fz)∧rwp P (k (some (e,c.size))) h K
  | .frozen a k,h,K=>∃ t c e lo hi,h a.block=some (t, .cells c e (lo,hi))∧rwp P (k (lo≤a.off&&a.off<hi)) h K
  | .getObj r k,h,K=>∃ t o,h r=some (t,o)∧isCells o=false∧rwp P (k o) h K
  | .program k,h,K=>rwp P (k P) h K
  | .mark _ k,h,K=>rwp P k h K
  | _,_,_=>False
theorem rwp_sound {α:Type} {P:Program} (s:Sem α):∀ {h:Heap} {K:α→Prop},rwp P s h K →
  ∃ a,K a∧∀ w,Rel h w→s.run P w = .ok a w:=by
 induction s with
 | pure a=>intro h K hk;exact ⟨a,hk,fun w hr=>rfl⟩
 | load m a k ih =>
  intro h K ⟨v,hc,hk⟩
  obtain ⟨x,q,e⟩:=ih v hk
  exact ⟨x,q,fun w hr=>by simp only [Sem.run,hr.cell hc];exact e w hr⟩
 | shape r k ih =>
  intro h K ⟨t,c,e,fz,hb,hk⟩
  obtain ⟨x,q,e'⟩:=ih _ hk
  exact ⟨x,q,fun w hr=>by simp only [Sem.run,World.shape?,hr _ _ _ hb];exact e' w hr⟩
 | frozen a k ih =>
  intro h K ⟨t,c,e,lo,hi,hb,hk⟩
  obtain ⟨x,q,e'⟩:=ih _ hk
  exact ⟨x,q,fun w hr=>by simp only [Sem.run,World.frozen?,hr _ _ _ hb];exact e' w hr⟩
 | getObj r k ih =>
  intro h K ⟨t,o,hb,hc,hk⟩
  obtain ⟨x,q,e'⟩:=ih _ hk
  refine ⟨x,q,fun w hr=>?_⟩
  simp only [Sem.run,hr _ _ _ hb]
  cases o <;> first | (simp [isCells] at hc;done) | exact e' w hr
 | program k ih =>
  intro h K hk
  obtain ⟨x,q,e'⟩:=ih _ hk
  exact ⟨x,q,fun w hr=>by simp only [Sem.run];exact e' w hr⟩
 | mark m k ih =>
  intro h K hk
  obtain ⟨x,q,e'⟩:=ih hk
  exact ⟨x,q,fun w hr=>by simp only [Sem.run];exact e' w hr⟩
 | store m a v k ih=>intro h K hk;exact hk.elim
 | new o k ih=>intro h K hk;exact hk.elim
 | freeze a n k ih=>intro h K hk;exact hk.elim
 | setObj r o k ih=>intro h K hk;exact hk.elim
 | choose q k ih=>intro h K hk;exact hk.elim
 | sys c k ih=>intro h K hk;exact hk.elim
 | halt x=>intro h K hk;exact hk.elim
abbrev Env:=Nat→Value
structure Fits (n:Nat) (e:Env) (a:Act):Prop where
  size:a.tmps.size=n
  get:∀ t,t<n→a.tmps[t]? = some (e t)
  out:∀ t,n≤t→e t=undef
  defers:a.defers=[]
def upd (n:Nat) (e:Env) (d:Nat) (v:Value):Env:=bif Nat.blt d n then (fun t=>bif Nat.beq t d then v else e t) else e
def updO (n:Nat) (e:Env):Option Tmp→Value→Env
  | none,_=>e
  | some d,v=>upd n e d v
def Env.ev (e:Env):Operand→Value
  | .tmp t=>e t
  | .const v=>v
  | .global g => .pointer (some ⟨g,0,none⟩)
  | .func f => .func (.func f) #[] #[]
theorem Fits.getD {n:Nat} {e:Env} {a:Act} (f:Fits n e a) (t:Nat):a.tmps.getD t undef=e t:=by
 by_cases h:t<n
 ·rw [Array.getD_eq_getD_getElem?,f.get t h];rfl
 ·rw [Array.getD_eq_getD_getElem?,Array.getElem?_eq_none (by rw [f.size];omega),f.out t (by omega)];rfl
theorem Fits.eval {n:Nat} {e:Env} {a:Act} (f:Fits n e a):a.eval=e.ev:=by
 funext x
 cases x with
 | tmp t=>exact f.getD t
 | _=>rfl
theorem Fits.upd {n:Nat} {e:Env} {a:Act} (f:Fits n e a) (d:Nat) (v:Value):Fits n (upd n e d v) (a.put (some d) v):=by
 unfold Ah.upd
 by_cases h:d<n
 ·have hb:Nat.blt d n=true:=by simpa [Nat.blt_eq] using h
  rw [hb]
  refine ⟨by simp [Act.put,f.size],?_,?_,f.defers⟩
  ·intro t ht
   by_cases htd:t=d
   ·subst htd
    have hbt:Nat.beq t t=true:=Nat.beq_refl t
    simp only [cond_true,hbt,Act.put]
    rw [Array.getElem?_setIfInBounds_self_of_lt (by rw [f.size];exact ht)]
   ·have hb':Nat.beq t d=false:=by
     cases hh:Nat.beq t d with
     | false=>rfl
     | true=>exact absurd (Nat.eq_of_beq_eq_true hh) htd
    simp only [cond_true,hb',cond_false,Act.put]
    rw [Array.getElem?_setIfInBounds_ne (Ne.symm htd)]
    exact f.get t ht
  ·intro t ht
   have htd:t≠d:=by omega
   have hb':Nat.beq t d=false:=by
    cases hh:Nat.beq t d with
    | false=>rfl
    | true=>exact absurd (Nat.eq_of_beq_eq_true hh) htd
   simp only [cond_true,hb',cond_false]
   exact f.out t ht
 ·have hb:Nat.blt d n=false:=by
   cases hh:Nat.blt d n with
   | false=>rfl
   | true=>exact absurd (by simpa [Nat.blt_eq] using hh) h
  rw [hb]
  refine ⟨by simp [Act.put,f.size],?_,f.out,f.defers⟩
  intro t ht
  have htd:d≠t:=by omega
  simp only [cond_false,Act.put]
  rw [Array.getElem?_setIfInBounds_ne htd]
  exact f.get t ht
theorem Fits.updO {n:Nat} {e:Env} {a:Act} (f:Fits n e a) (d:Option Tmp) (v:Value):Fits n (updO n e d v) (a.put d v):=by
 cases d with
 | none=>exact f
 | some d=>exact f.upd d v
def yieldedE (ops:Array Oper) (e:Env) (j:Nat):Option Bool :=
  match (ops[j]?).bind (·.dst) with
  | some d=>match e d with
    | .bool b=>some b
    | _=>none
  | none=>none
theorem Fits.yielded {n:Nat} {e:Env} {a:Act} (f:Fits n e a) (ops:Array Oper):yielded ops a.tmps=yieldedE ops e:=by
 funext j
 unfold Go.yielded yieldedE
 cases (ops[j]?).bind (·.dst) with
 | none=>rfl
 | some d =>
  simp only [Option.bind_some]
  by_cases h:(d:Nat)<n
  ·rw [f.get d h]
   cases e d <;> rfl
  ·have hle:n≤(d:Nat):=Nat.le_of_not_lt h
   rw [Array.getElem?_eq_none (by rw [f.size];exact hle),f.out d hle];rfl
def Plain (P : Program) (f : FuncId) : Prop := ∃ fn, P.funcs[f]? = some fn ∧ fn.body.isSome = true ∧ (fn.name == "runtime.NumGoroutine") = false
structure ACalls (P:Program) (f:FuncId) (args:Array Value) (h:Heap) (R:Value→Heap→Prop):Prop where
  of ::
  plain:Plain P f
  out:∀ β w,RelB β h w→Calls P f args w fun e w'=>∃ v h',e = .returned v∧RelB β h' w'∧R v h'
theorem ACalls.mono {P:Program} {f:FuncId} {args:Array Value} {h:Heap} {R R':Value→Heap→Prop} (c:ACalls P f args h R)
  (k:∀ v h',R v h'→R' v h'):ACalls P f args h R' :=
 ⟨c.1,fun β w hr=>(c.2 β w hr).mono fun _ _ ⟨v,h',e,r,q⟩=>⟨v,h',e,r,k _ _ q⟩⟩
theorem C2 {P : Program} {f : FuncId} {args : Array Value} {h : Heap} {w : Value} {R : Value → Heap → Prop} (c : ACalls P f args h (fun v h' => v = w ∧ h = h')) (k : R w h) : ACalls P f args h R := c.mono fun v h' q => by obtain ⟨rfl, rfl⟩ := q; exact k
theorem ACalls.drop {P:Program} {f:FuncId} {args:Array Value} {h:Heap} {R R':Value→Heap→Prop} (c:ACalls P f args h R)
  (k:∀ v h',R v h'→∃ h'',Sub h'' h'∧R' v h''):ACalls P f args h R' :=
 ⟨c.1,fun β w hr=>(c.2 β w hr).mono fun _ _ ⟨v,h',e,r,q⟩=>let ⟨h'',s,q'⟩:=k _ _ q;⟨v,h'',e,r.sub s,q'⟩⟩
def Nxt (P:Program) (K:Value→Heap→Prop):Next→Heap→Prop
  | .value v,h=>K v h
  | .skip,h=>K undef h
  | .enter f args,h=>ACalls P f args h K
  | _,_=>False
def ARaw (P:Program) (o:Oper) (e:Env) (h:Heap) (K:Value→Heap→Prop):Prop:=awp P (execOp e.ev o) h (Nxt P K)
def QRaw (P:Program) (o:Oper) (e:Env) (h:Heap) (K:Value→Prop):Prop:=rwp P (execOp e.ev o) h (fun x=>match x with | .value v=>K v | _=>False)
structure ACmp (p:Prop) (K:Bool→Prop):Prop where
  of ::
  y:p→K true
  n:¬p→K false
theorem Ac {p:Prop} {K:Bool→Prop} (h:p) (k:K true):ACmp p K:=⟨fun _=>k,fun n=>absurd h n⟩
theorem Ad {p:Prop} {K:Bool→Prop} (h:¬p) (k:K false):ACmp p K:=⟨fun y=>absurd y h,fun _=>k⟩
theorem ACmp.split {p:Prop} {K:Bool→Prop} (k:p→K true) (k':¬p→K false):ACmp p K:=⟨k,k'⟩
theorem ACmp.dec {p:Prop} [d:Decidable p] {K:Bool→Prop} (k:K (decide p)):ACmp p K :=
 ⟨fun y=>by rw [decide_eq_true y] at k;exact k,fun n=>by rw [decide_eq_false n] at k;exact k⟩
structure AArith (k:IntKind) (r:Int) (K:Int→Prop):Prop where
  of ::
  out:K (k.wrap r)
theorem i64_wrap {r:Int} (h : -9223372036854775808≤r) (h':r≤9223372036854775807):IntKind.i64.wrap r=r:=by
 show (if (true&&decide (r % 18446744073709551616≥9223372036854775808))=true then r % 18446744073709551616-18446744073709551616 else r % 18446744073709551616)=r
 rw [Bool.true_and]
 by_cases c:r % 18446744073709551616≥9223372036854775808
 ·rw [if_pos (decide_eq_true c)];omega
 ·rw [if_neg (by rw [decide_eq_false c];simp)];omega
theorem Ag {r r':Int} {K:Int→Prop} (h : -9223372036854775808≤r) (h':r≤9223372036854775807) (e:r=r') (k:K r'):AArith .i64 r K:=by
 refine ⟨?_⟩;rw [i64_wrap h h',e];exact k
theorem AArith.raw {kd:IntKind} {r:Int} {K:Int→Prop} (k:K (kd.wrap r)):AArith kd r K:=⟨k⟩
structure AIdx (P:Program) (t:TypeId) (base:Option Addr) (len:Nat) (i:Int) (K:Value→Prop):Prop where
  of ::
  out:(0≤i∧i<len)∧∃ b off E z,base=some ⟨b,off,none⟩∧P.underlying t=some (.slice E)∧(P.info? E).map (·.size)=some z∧K (.pointer (some ⟨b,off+i.toNat*z,none⟩))
structure AIdxA (P:Program) (t:TypeId) (b off:Nat) (i:Int) (K:Value→Prop):Prop where
  of ::
  out:∃ n E z:Nat,P.underlying t=some (.array n E)∧(P.info? E).map (·.size)=some z∧(0≤i∧i<n)∧K (.pointer (some ⟨b,off+i.toNat*z,none⟩))
structure AIdxV (P:Program) (t:TypeId) (cs:Array Value) (k:IntKind) (i:Int) (K:Value→Prop):Prop where
  of ::
  out:∃ v,K v∧∀ w,(Instr.index t (.agg cs) (.int k i)).run P w = .ok v w
structure ASlc (P:Program) (t:TypeId) (base:Option Addr) (len cap:Nat) (lo hi mx:Option Value) (K:Value→Prop):Prop where
  of ::
  out:∃ l h m:Nat,(lo=none∧l=0∨∃ k,lo=some (.int k l))∧(hi=none∧h=len∧mx=none∨∃ k,hi=some (.int k h))∧(mx=none∧m=cap∨∃ k,mx=some (.int k m)) ∧
    l≤h∧h≤m∧m≤cap∧∃ E z,P.underlying t=some (.slice E)∧(P.info? E).map (·.size)=some z ∧
    K (.slice (if m=l then base else base.map (·.add (l*z))) (h-l) (m-l))
structure ALoad (P:Program) (t:TypeId) (a:Addr) (h:Heap) (K:Value→Prop):Prop where
  of ::
  out:rwp P (loadVar t a) h K
structure AStore (P:Program) (t:TypeId) (a:Addr) (v:Value) (h:Heap) (K:Heap→Prop):Prop where
  of ::
  out:awp P (storeVar t a v) h (fun _ h'=>K h')
structure AAlloc (P:Program) (t:TypeId) (h:Heap) (K:Value→Heap→Prop):Prop where
  of ::
  out:awp P (Instr.alloc t true (.tuple #[])) h K
structure ABox (P:Program) (t:TypeId) (v:Value) (h:Heap) (K:Value→Heap→Prop):Prop where
  of ::
  out:awp P (Instr.box t v) h K
structure ABuildSl (P:Program) (t:TypeId) (n:Nat) (parts:Array (Nat×Value)) (h:Heap) (K:Value→Heap→Prop):Prop where
  of ::
  out:awp P (Instr.buildSlice t n parts) h K
structure AMakeSl (P:Program) (t:TypeId) (l c:Value) (h:Heap) (K:Value→Heap→Prop):Prop where
  of ::
  out:awp P (Instr.makeSlice t l c) h K
structure AAppend (P:Program) (ts:Array TypeId) (t:TypeId) (args:Array Value) (h:Heap) (K:Value→Heap→Prop):Prop where
  of ::
  out:awp P (Builtin.append_ ts t args) h K
structure AClear (P:Program) (ts:Array TypeId) (t:TypeId) (args:Array Value) (h:Heap) (K:Value→Heap→Prop):Prop where
  of ::
  out:awp P (Builtin.clear_ ts t args) h K
structure ACopy (P:Program) (ts:Array TypeId) (t:TypeId) (args:Array Value) (h:Heap) (K:Value→Heap→Prop):Prop where
  of ::
  out:awp P (Builtin.copy_ ts t args) h K
structure AStrOp (op:BinOp) (t:TypeId) (a b:ByteArray) (K:Value→Prop):Prop where
  of ::
  out:∃ v,binOp op t (.string a) (.string b)=pure v∧K v
structure AStrIdx (P:Program) (t:TypeId) (s:ByteArray) (i:Int) (K:Value→Prop):Prop where
  of ::
  out:P.underlying t=some .string∧0≤i∧∃ b,s[i.toNat]? = some b∧K (.int .u8 b.toNat)
structure ALookup (P:Program) (t:TypeId) (r:Nat) (k:Value) (ok:Bool) (h:Heap) (K:Value→Prop):Prop where
  of ::
  out:rwp P (Instr.lookup t (.map (some r)) k ok) h K
structure ALenMap (r:Nat) (h:Heap) (K:Value→Prop):Prop where
  of ::
  out:∃ tg es clock,h r=some (tg, .map es clock)∧K (.int .i64 es.size)
structure AMakeMap (h:Heap) (K:Value→Heap→Prop):Prop where
  of ::
  out:∃ tg,∀ b,Fresh h b→K (.map (some b)) (h.set b (tg, .map #[] 0))
structure AMapUpd (P:Program) (t:TypeId) (r:Nat) (k x:Value) (h:Heap) (K:Heap→Prop):Prop where
  of ::
  out:awp P (Instr.mapUpdate t (.map (some r)) k x) h (fun _ h'=>K h')
structure ADelete (P:Program) (ts:Array TypeId) (t:TypeId) (args:Array Value) (h:Heap) (K:Value→Heap→Prop):Prop where
  of ::
  out:awp P (Builtin.delete_ ts t args) h K
structure AInt (r:Int) (K:Int→Prop):Prop where
  of ::
  out:K r
theorem Aq {r r':Int} {K:Int→Prop} (e:r=r') (k:K r'):AInt r K:=by refine ⟨?_⟩;rw [e];exact k
structure AEqAgg (P:Program) (o:Oper) (e:Env) (h:Heap) (K:Value→Prop):Prop where
  of ::
  out:∃ v,(∀ w,(execOp e.ev o).run P w = .ok (.value v) w)∧K v
def setAt (l:List Value) (off:Nat):List Value→List Value
  | []=>l
  | v::vs=>setAt (l.set off v) (off+1) vs
def fillL (place:Nat→Option (Nat×Nat)):List Value→List (Nat×Value)→Option (List Value)
  | l,[]=>some l
  | l,(i,v)::rest=>match place i with
    | none=>none
    | some (off,size)=>bif Nat.beq v.cells.toList.length size&&Nat.ble (off+size) l.length then fillL place (setAt l off v.cells.toList) rest else none
def sizeT (P:Program) (t:TypeId):Option Nat:=(P.info? t).map (·.size)
def zeroT (P:Program) (t:TypeId):Option (List Value):=((P.info? t).bind (·.zero)).map (·.cells.toList)
def placeT (P:Program) (t:TypeId):Option (Nat→Option (Nat×Nat)) :=
  match P.underlying t with
  | some (.struct fs)=>bif fs.toList.all (fun f=>(sizeT P f.type).isSome) then some fun i=>(fs.toList[i]?).bind fun f=>(sizeT P f.type).map fun s=>(f.offset,s) else none
  | some (.array _ E)=>(sizeT P E).map fun z i=>some (i*z,z)
  | _=>none
def force (v:Value) (k:Value→Prop):Prop :=
  match v with
  | .int a b=>k (.int a b)
  | .bool b=>k (.bool b)
  | .pointer none=>k (.pointer none)
  | .pointer (some ⟨b,o,s⟩)=>k (.pointer (some ⟨b,o,s⟩))
  | .slice a n c=>k (.slice a n c)
  | .agg c=>k (.agg c)
  | .tuple c=>k (.tuple c)
  | .string s=>k (.string s)
  | .map none=>k (.map none)
  | .map (some r)=>k (.map (some r))
  | .func f a b=>k (.func f a b)
  | v=>k v
theorem force_iff (v:Value) (k:Value→Prop):force v k↔k v:=by
 unfold force;split <;> rfl
def forceL:List Value→(List Value→Prop)→Prop
  | [],k=>k []
  | v::l,k=>force v fun v=>forceL l fun l=>k (v::l)
theorem forceL_iff:∀ (l:List Value) (k:List Value→Prop),forceL l k↔k l
 | [],k=>Iff.rfl
 | v::l,k=>by rw [forceL,force_iff,forceL_iff l]
def buildT (P:Program) (t:TypeId) (ps:List (Nat×Value)):Option (List Value) :=
  match placeT P t,zeroT P t with
  | some pl,some z=>fillL pl z ps
  | _,_=>none
def fieldT (P:Program) (t:TypeId) (f:Nat) (cs:List Value):Option (List Value ⊕ Value) :=
  match P.underlying t with
  | some (.struct fs)=>match fs.toList[f]? with
    | some f=>match P.underlying f.type with
      | some (.struct _) | some (.array ..)=>(sizeT P f.type).map fun z => .inl ((cs.drop f.offset).take z)
      | some _=>(cs[f.offset]?).map .inr
      | none=>none
    | none=>none
  | _=>none
def fieldOff (P:Program) (t:TypeId) (f:Nat):Option Nat :=
  match P.underlying t with
  | some (.struct fs)=>match fs.toList[f]? with
    | some f=>match sizeT P f.type with
      | some (_+1)=>some f.offset
      | _=>none
    | none=>none
  | _=>none
def forceO (off fo:Nat) (k:Nat→Prop):Prop :=
  match fo with
  | 0=>k off | 1=>k (off+1) | 2=>k (off+2) | 3=>k (off+3) | 4=>k (off+4) | 5=>k (off+5) | 6=>k (off+6) | 7=>k (off+7) | 8=>k (off+8)
  | 9=>k (off+9) | 10=>k (off+10) | 11=>k (off+11) | 12=>k (off+12) | 13=>k (off+13) | 14=>k (off+14) | 15=>k (off+15) | 16=>k (off+16) | 17=>k (off+17)
  | 18=>k (off+18) | 19=>k (off+19) | 20=>k (off+20) | 21=>k (off+21) | 22=>k (off+22) | 23=>k (off+23) | 24=>k (off+24) | 25=>k (off+25) | 26=>k (off+26)
  | 27=>k (off+27) | 28=>k (off+28) | 29=>k (off+29) | 30=>k (off+30) | 31=>k (off+31) | 32=>k (off+32) | 33=>k (off+33) | 34=>k (off+34) | 35=>k (off+35)
  | 36=>k (off+36) | 37=>k (off+37) | 38=>k (off+38) | 39=>k (off+39) | 40=>k (off+40) | 41=>k (off+41) | 42=>k (off+42) | 43=>k (off+43) | 44=>k (off+44)
  | 45=>k (off+45) | 46=>k (off+46) | 47=>k (off+47) | 48=>k (off+48) | 49=>k (off+49) | 50=>k (off+50) | 51=>k (off+51) | 52=>k (off+52) | 53=>k (off+53)
  | 54=>k (off+54) | 55=>k (off+55) | 56=>k (off+56) | 57=>k (off+57) | 58=>k (off+58) | 59=>k (off+59) | 60=>k (off+60) | 61=>k (off+61) | 62=>k (off+62)
  | 63=>k (off+63) | 64=>k (off+64) | 65=>k (off+65) | 66=>k (off+66)
  | fo=>k (off+fo)
theorem forceO_iff (off fo:Nat) (k:Nat→Prop):forceO off fo k↔k (off+fo):=by
 unfold forceO;split <;> rfl
def QStep (P:Program) (o:Oper) (e:Env) (h:Heap) (K:Value→Prop):Prop :=
  match o.op with
  | .move x | .assign x=>K (e.ev x)
  | .makeFunc fn first captured=>forceL (first.toList.map e.ev) fun l=>forceL (captured.toList.map e.ev) fun r=>K (.func fn l.toArray r.toArray)
  | .binOp op t x y _=>match e.ev x,e.ev y with
    | .int k a, .int k' b=>match op with
      | .shl=>0≤b∧AArith k (a*2^(min b.toNat k.bits)) fun r=>K (.int k r)
      | .shr=>0≤b∧AInt (a.fdiv (2^(min b.toNat k.bits))) fun r=>K (.int k r)
      | op=>bif decide (k=k') then (match op with
        | .lss=>ACmp (a<b) fun t=>K (.bool t)
        | .leq=>ACmp (a≤b) fun t=>K (.bool t)
        | .gtr=>ACmp (b<a) fun t=>K (.bool t)
        | .geq=>ACmp (b≤a) fun t=>K (.bool t)
        | .eql=>ACmp (a=b) fun t=>K (.bool t)
        | .neq=>ACmp (a≠b) fun t=>K (.bool t)
        | .add=>AArith k (a+b) fun r=>K (.int k r)
        | .sub=>AArith k (a-b) fun r=>K (.int k r)
        | .mul=>AArith k (a*b) fun r=>K (.int k r)
        | .quo=>b≠0∧AArith k (a.tdiv b) fun r=>K (.int k r)
        | .rem=>b≠0∧AInt (a.tmod b) fun r=>K (.int k r)
        | .and=>AInt (k.wrap (BitVec.ofInt k.bits a &&& BitVec.ofInt k.bits b).toNat) fun r=>K (.int k r)
        | .or=>AInt (k.wrap (BitVec.ofInt k.bits a ||| BitVec.ofInt k.bits b).toNat) fun r=>K (.int k r)
        | .xor=>AInt (k.wrap (BitVec.ofInt k.bits a ^^^ BitVec.ofInt k.bits b).toNat) fun r=>K (.int k r)
        | .andNot=>AInt (k.wrap (BitVec.ofInt k.bits a &&& ~~~(BitVec.ofInt k.bits b)).toNat) fun r=>K (.int k r)
        | _=>False) else False
    | .agg _, .agg _=>AEqAgg P o e h K
    | .string a, .string b=>AStrOp op t a b K
    | _,_=>QRaw P o e h K
  | .index t x ix=>match e.ev x,e.ev ix with
    | .string s, .int _ i=>AStrIdx P t s i K
    | .agg cs, .int k i=>AIdxV P t cs k i K
    | _,_=>QRaw P o e h K
  | .lookup t x ix ok=>match e.ev x with
    | .map (some r)=>ALookup P t r (e.ev ix) ok h K
    | _=>QRaw P o e h K
  | .indexAddr t x ix=>match e.ev x,e.ev ix with
    | .slice base len _, .int _ i=>AIdx P t base len i K
    | .pointer (some ⟨b,off,none⟩), .int _ i=>AIdxA P t b off i K
    | _,_=>QRaw P o e h K
  | .slice t x lo hi mx=>match e.ev x with
    | .slice base len cap=>ASlc P t base len cap (lo.map e.ev) (hi.map e.ev) (mx.map e.ev) K
    | _=>QRaw P o e h K
  | .load t x=>match e.ev x with
    | .pointer (some a)=>ALoad P t a h K
    | _=>False
  | .fieldAddr t x f=>match e.ev x,fieldOff P t f with
    | .pointer (some ⟨b,off,none⟩),some fo=>forceO off fo fun o=>K (.pointer (some ⟨b,o,none⟩))
    | _,_=>QRaw P o e h K
  | .build t ps=>match buildT P t (ps.toList.map fun p=>(p.1,e.ev p.2)) with
    | some l=>forceL l fun l=>K (.agg l.toArray)
    | none=>False
  | .field t x f=>match e.ev x with
    | .agg cs=>match fieldT P t f cs.toList with
      | some (.inl l)=>forceL l fun l=>K (.agg l.toArray)
      | some (.inr v)=>K v
      | none=>False
    | _=>False
  | .convert s d x=>match P.underlying s,P.underlying d,e.ev x with
    | some (.int _),some (.int k), .int _ n=>AArith k n fun r=>K (.int k r)
    | _,_,_=>False
  | .call c=>match c.callee,c.args.toList.map e.ev with
    | .builtin .len,[.slice _ n _]=>(match (c.argTypes[0]?).bind P.underlying with
      | some (.slice _)=>K (.int .i64 n)
      | _=>False)
    | .builtin .len,[.string s]=>(match (c.argTypes[0]?).bind P.underlying with
      | some .string=>K (.int .i64 s.size)
      | _=>False)
    | .builtin .len,[.map (some r)]=>(match (c.argTypes[0]?).bind P.underlying with
      | some (.map _ _)=>ALenMap r h K
      | _=>False)
    | .builtin .cap,[.slice _ _ n]=>(match (c.argTypes[0]?).bind P.underlying with
      | some (.slice _)=>K (.int .i64 n)
      | _=>False)
    | .builtin .min,[.int k a, .int _ b]=>AInt (if b<a then b else a) fun r=>K (.int k r)
    | .builtin .max,[.int k a, .int _ b]=>AInt (if b > a then b else a) fun r=>K (.int k r)
    | _,_=>QRaw P o e h K
  | _=>QRaw P o e h K
theorem QRaw_sound {P:Program} {o:Oper} {e:Env} {h:Heap} {K:Value→Prop} (q:QRaw P o e h K) :
  ∃ v,K v∧∀ w,Rel h w→(execOp e.ev o).run P w = .ok (.value v) w:=by
 obtain ⟨x,k,e'⟩:=rwp_sound _ q
 cases x with
 | value v=>exact ⟨v,k,e'⟩
 | _=>exact k.elim
theorem ACmp.get {p:Prop} {K:Bool→Prop} [Decidable p] (h:ACmp p K):K (decide p):=by
 by_cases hp:p
 ·rw [decide_eq_true hp];exact h.1 hp
 ·rw [decide_eq_false hp];exact h.2 hp
theorem info_size {P:Program} {E z:Nat} (h:(P.info? E).map (·.size)=some z) (w:World):(sizeOf E).run P w = .ok z w:=by
 cases hi:P.info? E with
 | none=>rw [hi] at h;cases h
 | some i =>
  rw [hi] at h;simp only [Option.map_some,Option.some.injEq] at h
  simp [sizeOf,typeInfo,hi,h]
theorem sliceBound_run {P:Program} {k:IntKind} {i y:Nat} {c:BoundsCode} (w:World) (h:i≤y):(Instr.sliceBound (.int k i) y c).run P w = .ok i w:=by
 simp [Instr.sliceBound,asIntOf,h]
theorem setAt_length:∀ (vs l:List Value) (off:Nat),(setAt l off vs).length=l.length
 | [],l,off=>rfl
 | v::vs,l,off=>by rw [setAt,setAt_length vs,List.length_set]
theorem setAt_fold:∀ (vs:List Value) (l:List Value) (off k:Nat),setAt l (off+k) vs=(((vs.zipIdx k).foldl (fun cs p=>cs.setIfInBounds (off+p.2) p.1) l.toArray)).toList
 | [],l,off,k=>rfl
 | v::vs,l,off,k=>by
  simp only [setAt,List.zipIdx_cons,List.foldl_cons,List.setIfInBounds_toArray]
  exact setAt_fold vs (l.set (off+k) v) off (k+1)
theorem fill_eq (place:Nat→Option (Nat×Nat)):∀ (ps:List (Nat×Value)) (l r:List Value),fillL place l ps=some r→Instr.fill place l.toArray ps=some r.toArray
 | [],l,r,h=>by simp only [fillL,Option.some.injEq] at h;subst h;rfl
 | (i,v)::rest,l,r,h=>by
  unfold fillL at h
  unfold Instr.fill
  cases hp:place i with
  | none=>rw [hp] at h;cases h
  | some os =>
   obtain ⟨off,size⟩:=os
   rw [hp] at h
   simp only [] at h ⊢
   cases hc:(Nat.beq v.cells.toList.length size&&Nat.ble (off+size) l.length) with
   | false=>rw [hc] at h;cases h
   | true =>
    rw [hc] at h
    simp only [cond_true] at h
    simp only [Bool.and_eq_true] at hc
    have e1:v.cells.size=size:=by simpa using Nat.eq_of_beq_eq_true hc.1
    have e2:off+size≤l.length:=Nat.le_of_ble_eq_true hc.2
    rw [if_neg (by simp [e1];exact e2)]
    have:=fill_eq place rest _ r h
    rw [← this]
    congr 1
    have:=setAt_fold v.cells.toList l off 0
    rw [Nat.add_zero] at this
    rw [this,← Array.foldl_toList,Array.toList_zipIdx]
theorem size_info {P:Program} {t n:Nat} (h:sizeT P t=some n):∃ i,P.info? t=some i∧i.size=n:=by
 unfold sizeT at h
 cases hi:P.info? t with
 | none=>rw [hi] at h;cases h
 | some i=>rw [hi] at h;exact ⟨i,rfl,by simpa using h⟩
theorem zero_info {P:Program} {t:TypeId} {l:List Value} (h:zeroT P t=some l):∃ i v,P.info? t=some i∧i.zero=some v∧v.cells.toList=l:=by
 unfold zeroT at h
 cases hi:P.info? t with
 | none=>rw [hi] at h;cases h
 | some i =>
  rw [hi] at h
  cases hz:i.zero with
  | none=>simp [hz] at h
  | some v=>simp [hz] at h;exact ⟨i,v,rfl,hz,h⟩
theorem run_zeroValue {P:Program} {t:TypeId} {l:List Value} (h:zeroT P t=some l):∃ v,v.cells.toList=l∧∀ w,(zeroValue t).run P w = .ok v w:=by
 obtain ⟨i,v,hi,hv,hl⟩:=zero_info h
 exact ⟨v,hl,fun w=>by simp [zeroValue,typeInfo,hi,hv]⟩
theorem mapM_places {P:Program} (w:World):∀ (fs:List Field),(∀ f∈fs,(sizeT P f.type).isSome=true) →
  ∃ ps:List (Nat×Nat),(fs.mapM (m:=Sem) fun f=>do pure (f.offset,← sizeOf f.type)).run P w = .ok ps w ∧
   ∀ i:Nat,ps[i]? = (fs[i]?).bind fun (f:Field)=>(sizeT P f.type).map fun s=>(f.offset,s)
 | [],_=>⟨[],by simp,by simp⟩
 | f::fs,h=>by
  obtain ⟨ps,h1,h2⟩:=mapM_places w fs fun g hg=>h g (List.mem_cons_of_mem _ hg)
  have hf:=h f List.mem_cons_self
  cases hs:sizeT P f.type with
  | none=>rw [hs] at hf;cases hf
  | some z =>
   refine ⟨(f.offset,z)::ps,?_,fun i=>?_⟩
   ·simp only [List.mapM_cons,Sem.run_bind,info_size (hs:(P.info? f.type).map (·.size)=some z),Result.andThen_ok,Sem.run_pure,h1]
   ·cases i with
    | zero=>simp [hs]
    | succ i=>simp [h2 i]
theorem fill_congr {p q:Nat→Option (Nat×Nat)}:∀ (ps:List (Nat×Value)) (c:Array Value) (r:Array Value),(∀ i os,q i=some os→p i=some os)→Instr.fill q c ps=some r→Instr.fill p c ps=some r
 | [],c,r,_,h=>h
 | (i,v)::rest,c,r,hpq,h=>by
  unfold Instr.fill at h ⊢
  cases hq:q i with
  | none=>rw [hq] at h;cases h
  | some os =>
   obtain ⟨off,size⟩:=os
   rw [hpq i _ hq]
   rw [hq] at h
   simp only [] at h ⊢
   split
   ·rename_i hc;rw [if_pos hc] at h;exact h
   ·rename_i hc;rw [if_neg hc] at h;exact fill_congr rest _ r hpq h
theorem build_run {P:Program} {t:TypeId} {ps:List (Nat×Value)} {l:List Value} (h:buildT P t ps=some l) (w:World):(Instr.build t ps.toArray).run P w = .ok (.agg l.toArray) w:=by
 unfold buildT at h
 cases hp:placeT P t with
 | none=>rw [hp] at h;cases h
 | some pl =>
  cases hz:zeroT P t with
  | none=>rw [hp,hz] at h;cases h
  | some z =>
   rw [hp,hz] at h
   simp only [] at h
   obtain ⟨v,hv,hrun⟩:=run_zeroValue hz
   have hf:=fill_eq pl ps z l h
   have hvz:v.cells=z.toArray:=by rw [← hv]
   unfold Instr.build
   simp only [Sem.run_bind,hrun w,Result.andThen_ok]
   unfold placeT at hp
   cases hu:P.underlying t with
   | none=>rw [hu] at hp;cases hp
   | some d =>
    rw [hu] at hp
    have hun:(underlying t).run P w = .ok d w:=by simp [underlying,hu]
    simp only [hun,Result.andThen_ok]
    cases d with
    | struct fs =>
     simp only [] at hp ⊢
     cases hall:fs.toList.all (fun f=>(sizeT P f.type).isSome) with
     | false=>rw [hall] at hp;cases hp
     | true =>
      rw [hall] at hp
      simp only [cond_true,Option.some.injEq] at hp
      obtain ⟨pls,h1,h2⟩:=mapM_places (P:=P) w fs.toList (List.all_eq_true.1 hall)
      have hm:(fs.mapM (m:=Sem) fun f=>do pure (f.offset,← sizeOf f.type)).run P w = .ok pls.toArray w:=by
       rw [Array.mapM_eq_mapM_toList]
       simp only [Sem.run_map,h1,Result.andThen_ok]
      simp only [Sem.run_bind,hm,Result.andThen_ok,hvz]
      rw [fill_congr (p:=fun i=>pls.toArray[i]?) (q:=pl) ps z.toArray l.toArray (fun i os ho=>by
       rw [← hp] at ho
       rw [List.getElem?_toArray,h2 i];exact ho) hf]
      rfl
    | array n E =>
     simp only [] at hp ⊢
     cases hs:sizeT P E with
     | none=>rw [hs] at hp;cases hp
     | some zz =>
      rw [hs] at hp
      simp only [Option.map_some,Option.some.injEq] at hp
      simp only [Sem.run_bind,info_size (hs:(P.info? E).map (·.size)=some zz),Result.andThen_ok,hvz]
      rw [← hp] at hf
      rw [hf]
      rfl
    | _=>simp at hp
theorem isAgg_run {P:Program} {t:TypeId} {d:TypeDesc} (h:P.underlying t=some d) (w:World):(isAgg t).run P w = .ok (match d with | .struct _ | .array _ _=>true | _=>false) w:=by
 simp only [isAgg,underlying,Sem.run_bind,run_program,Result.andThen_ok,h,Sem.run_pure]
 cases d <;> rfl
def partV:List Value ⊕ Value→Value
  | .inl l => .agg l.toArray
  | .inr v=>v
theorem field_run {P:Program} {t:TypeId} {f:Nat} {cs:Array Value} {r:List Value ⊕ Value} (h:fieldT P t f cs.toList=some r) (w:World) :
  (Instr.field t (.agg cs) f).run P w = .ok (partV r) w:=by
 unfold fieldT at h
 cases hu:P.underlying t with
 | none=>rw [hu] at h;cases h
 | some d =>
  rw [hu] at h
  have hun:(underlying t).run P w = .ok d w:=by simp [underlying,hu]
  unfold Instr.field
  simp only [Sem.run_bind,hun,Result.andThen_ok]
  cases d with
  | struct fs =>
   simp only [] at h ⊢
   cases hf:fs.toList[f]? with
   | none=>rw [hf] at h;cases h
   | some fl =>
    rw [hf] at h
    have hf':fs[f]? = some fl:=by simpa using hf
    rw [hf']
    simp only [Sem.run_bind,asAgg,Sem.run_pure,Result.andThen_ok] at h ⊢
    cases hd:P.underlying fl.type with
    | none=>rw [hd] at h;cases h
    | some d' =>
     rw [hd] at h
     unfold part
     simp only [Sem.run_bind,isAgg_run hd,Result.andThen_ok]
     have scalar : (cs.toList[fl.offset]?).map Sum.inr = some r → (match cs[fl.offset]? with | some v => pure v | none => stuck "part: no such cell" : Sem Value).run P w = .ok (partV r) w := by
      intro hr
      cases hc:cs.toList[fl.offset]? with
      | none=>rw [hc] at hr;cases hr
      | some v =>
       rw [hc] at hr
       simp only [Option.map_some,Option.some.injEq] at hr
       subst hr
       have:cs[fl.offset]? = some v:=by simpa using hc
       rw [this];rfl
     have agg:(sizeT P fl.type).map (fun z=>Sum.inl ((cs.toList.drop fl.offset).take z))=some r →
       (do pure (.agg (cs.extract fl.offset (fl.offset+(← sizeOf fl.type)))):Sem Value).run P w = .ok (partV r) w:=by
      intro hr
      cases hs:sizeT P fl.type with
      | none=>rw [hs] at hr;cases hr
      | some z =>
       rw [hs] at hr
       simp only [Option.map_some,Option.some.injEq] at hr
       subst hr
       simp only [Sem.run_bind,info_size (hs:(P.info? fl.type).map (·.size)=some z),Result.andThen_ok,Sem.run_pure]
       congr 2
       apply Array.ext'
       simp [Array.toList_extract,List.extract_eq_take_drop]
     cases d' <;> first | exact scalar h | exact agg h
  | _=>simp at h
theorem QStep_sound {P:Program} {o:Oper} {e:Env} {h:Heap} {K:Value→Prop} (q:QStep P o e h K) :
  ∃ v,K v∧∀ w,Rel h w→(execOp e.ev o).run P w = .ok (.value v) w:=by
 unfold QStep at q
 split at q
 ·rename_i x ho;exact ⟨_,q,fun w hr=>by simp [execOp,ho]⟩
 ·rename_i x ho;exact ⟨_,q,fun w hr=>by simp [execOp,ho]⟩
 ·rename_i fn first captured ho
  rw [forceL_iff,forceL_iff] at q
  refine ⟨_,q,fun w hr=>?_⟩
  have h1:(first.toList.map e.ev).toArray=first.map e.ev:=by apply Array.ext';simp
  have h2:(captured.toList.map e.ev).toArray=captured.map e.ev:=by apply Array.ext';simp
  simp only [execOp,ho,Instr.makeFunc,h1,h2]
  rfl
 ·rename_i op t x y t' ho
  split at q
  ·rename_i k a k' b hx hy
   have fin:∀ (v:Value) (hv:(binOp op t (.int k a) (.int k' b))=pure v),K v→∃ v,K v∧∀ w,Rel h w→(execOp e.ev o).run P w = .ok (.value v) w:=by
    intro v hv hk
    refine ⟨v,hk,fun w hr=>?_⟩
    simp only [execOp,ho,hx,hy]
    have hg:eqGuard op t x y (.int k a) (.int k' b)=pure ():=by
     unfold eqGuard;cases op <;> rfl
    simp [hg,hv]
   split at q
   ·obtain ⟨hb,q⟩:=q
    exact fin _ (by simp [binOp,Op.shift,Int.not_lt.2 hb]) q.out
   ·obtain ⟨hb,q⟩:=q
    exact fin _ (by simp [binOp,Op.shift,Int.not_lt.2 hb]) q.out
   ·rename_i hn1 hn2
    by_cases hk:k=k'
    ·subst hk
     simp only [decide_true,cond_true] at q
     cases op <;> simp only [] at q
     case lss=>exact fin _ (by simp [binOp,Op.intCmp]) q.get
     case leq=>exact fin _ (by simp [binOp,Op.intCmp]) q.get
     case gtr=>exact fin _ (by simp [binOp,Op.intCmp]) q.get
     case geq=>exact fin _ (by simp [binOp,Op.intCmp]) q.get
     case eql=>exact fin _ (by simp [binOp,Op.intCmp];rfl) q.get
     case neq=>exact fin _ (by simp [binOp,Op.intCmp,bne];rfl) q.get
     case add=>exact fin _ (by simp [binOp,Op.intArith]) q.out
     case sub=>exact fin _ (by simp [binOp,Op.intArith]) q.out
     case mul=>exact fin _ (by simp [binOp,Op.intArith]) q.out
     case quo=>exact fin _ (by simp [binOp,Op.intDiv,q.1]) q.2.out
     case rem=>exact fin _ (by simp [binOp,Op.intDiv,q.1]) q.2.out
     case and=>exact fin _ (by simp [binOp,Op.intBits]) q.out
     case or=>exact fin _ (by simp [binOp,Op.intBits]) q.out
     case xor=>exact fin _ (by simp [binOp,Op.intBits]) q.out
     case andNot=>exact fin _ (by simp [binOp,Op.intBits]) q.out
    ·simp only [hk,decide_false,cond_false] at q
  ·obtain ⟨v,hv,k⟩:=q.out
   exact ⟨v,k,fun w hr=>hv w⟩
  ·rename_i a b hx hy
   obtain ⟨v,hv,k⟩:=q.out
   refine ⟨v,k,fun w hr=>?_⟩
   simp only [execOp,ho,hx,hy]
   have hg:eqGuard op t x y (.string a) (.string b)=pure ():=by
    unfold eqGuard;cases op <;> rfl
   simp [hg,hv]
  ·exact QRaw_sound q
 ·rename_i t x ix ho
  split at q
  ·rename_i s k i hx hi
   obtain ⟨hu,h0,b,hb,hk⟩:=q.out
   exact ⟨_,hk,fun w hr=>by simp [execOp,ho,hx,hi,Instr.index,asIntOf,underlying,hu,h0,hb]⟩
  ·rename_i cs k i hx hi
   obtain ⟨v,hk,hv⟩:=q.out
   exact ⟨v,hk,fun w hr=>by simp [execOp,ho,hx,hi,hv w]⟩
  ·exact QRaw_sound q
 ·rename_i t x ix ok ho
  split at q
  ·rename_i r hx
   obtain ⟨v,k,hv⟩:=rwp_sound _ q.out
   exact ⟨v,k,fun w hr=>by simp [execOp,ho,hx,hv w hr]⟩
  ·exact QRaw_sound q
 ·rename_i t x ix ho
  split at q
  ·rename_i base len cap k i hx hi
   obtain ⟨⟨h0,h1⟩,b,off,E,z,rfl,hu,hz,hk⟩:=q.out
   refine ⟨_,hk,fun w hr=>?_⟩
   have hadd:(⟨b,off,none⟩:Addr).add (i.toNat*z)=⟨b,off+i.toNat*z,none⟩:=by
    unfold Addr.add;split
    ·rename_i hz0;rw [hz0];rfl
    ·rfl
   simp [execOp,ho,hx,hi,Instr.indexAt,asIntOf,underlying,hu,h0,h1,info_size hz,hadd]
  ·rename_i b off k i hx hi
   obtain ⟨n,E,z,hu,hz,⟨h0,h1⟩,hk⟩:=q.out
   refine ⟨_,hk,fun w hr=>?_⟩
   have hadd:(⟨b,off,none⟩:Addr).add (i.toNat*z)=⟨b,off+i.toNat*z,none⟩:=by
    unfold Addr.add;split
    ·rename_i hz0;rw [hz0];rfl
    ·rfl
   simp [execOp,ho,hx,hi,Instr.indexAt,asIntOf,underlying,hu,h0,h1,info_size hz,hadd,Instr.sureAddr]
  ·exact QRaw_sound q
 ·rename_i t x lo hi mx ho
  split at q
  ·rename_i base len cap hx
   obtain ⟨l,hh,m,hl,hhi,hm,h1,h2,h3,E,z,hu,hz,hk⟩:=q.out
   refine ⟨_,hk,fun w hr=>?_⟩
   simp only [execOp,ho,hx,Instr.sliceAt,Instr.slice]
   have hb:(Instr.sliceBounds true len cap (lo.map e.ev) (hi.map e.ev) (mx.map e.ev)).run P w = .ok (l,hh,m) w:=by
    unfold Instr.sliceBounds
    rcases hm with ⟨hm,rfl⟩ | ⟨km,hm⟩ <;> rcases hhi with ⟨hhi,rfl,hmx⟩ | ⟨kh,hhi⟩ <;> rcases hl with ⟨hl,rfl⟩ | ⟨kl,hl⟩ <;>
     first
      |(rw [hm] at hmx;cases hmx;done)
      |(simp [hm,hhi,hl,sliceBound_run w h1,sliceBound_run w h2,sliceBound_run w h3,sliceBound_run w (Nat.le_trans h2 h3)];done)
   simp [underlying,hu,hb,info_size hz]
  ·exact QRaw_sound q
 ·rename_i t x ho
  split at q
  ·rename_i ad hx
   obtain ⟨v,k,hv⟩:=rwp_sound _ q.out
   exact ⟨v,k,fun w hr=>by simp [execOp,ho,hx,Instr.loadAt,Instr.sureAddr,hv w hr]⟩
  ·exact q.elim
 ·rename_i t x f ho
  split at q
  ·rename_i b off fo hx hf
   rw [forceO_iff] at q
   refine ⟨_,q,fun w hr=>?_⟩
   unfold fieldOff at hf
   cases hu:P.underlying t with
   | none=>rw [hu] at hf;cases hf
   | some d =>
    rw [hu] at hf
    cases d with
    | struct fs =>
     simp only [] at hf
     cases hfl:fs.toList[f]? with
     | none=>rw [hfl] at hf;cases hf
     | some fl =>
      rw [hfl] at hf
      simp only [] at hf
      cases hz:sizeT P fl.type with
      | none=>rw [hz] at hf;cases hf
      | some z =>
       rw [hz] at hf
       cases z with
       | zero=>cases hf
       | succ z =>
        simp only [Option.some.injEq] at hf
        subst hf
        have hf':fs[f]? = some fl:=by simpa using hfl
        have hadd:(⟨b,off,none⟩:Addr).add fl.offset=⟨b,off+fl.offset,none⟩:=by
         unfold Addr.add;split
         ·rename_i hz0;rw [hz0];rfl
         ·rfl
        simp [execOp,ho,hx,Instr.fieldAt,underlying,hu,hf',Instr.sureAddr,fieldPlace,info_size hz,hadd]
    | _=>simp at hf
  ·exact QRaw_sound q
 ·rename_i t ps ho
  split at q
  ·rename_i l hl
   rw [forceL_iff] at q
   refine ⟨_,q,fun w hr=>?_⟩
   have he:(ps.map fun (p:Nat×Operand)=>(p.1,e.ev p.2))=(ps.toList.map fun p=>(p.1,e.ev p.2)).toArray:=by apply Array.ext';simp
   simp only [execOp,ho]
   have:=build_run hl w
   rw [← he] at this
   simp only [Sem.run_bind]
   erw [this]
   rfl
  ·exact q.elim
 ·rename_i t x f ho
  split at q
  ·rename_i cs hx
   split at q
   ·rename_i l hl
    rw [forceL_iff] at q
    exact ⟨_,q,fun w hr=>by simp only [execOp,ho,hx,Sem.run_bind,field_run hl w,Result.andThen_ok,Sem.run_pure,partV]⟩
   ·rename_i v hl
    exact ⟨_,q,fun w hr=>by simp only [execOp,ho,hx,Sem.run_bind,field_run hl w,Result.andThen_ok,Sem.run_pure,partV]⟩
   ·exact q.elim
  ·exact q.elim
 ·rename_i s d x ho
  split at q
  ·rename_i k0 k k1 n hs hd hx
   refine ⟨_,q.out,fun w hr=>?_⟩
   simp [execOp,ho,hx,convert,underlying,hs,hd,Conv.intToInt]
  ·exact q.elim
 ·rename_i c ho
  have he:(c.args.map e.ev).toList=c.args.toList.map e.ev:=by simp
  split at q
  ·rename_i a n cp hc ha
   split at q
   ·rename_i E ht
    refine ⟨_,q,fun w hr=>?_⟩
    cases ht':c.argTypes[0]? with
    | none=>rw [ht'] at ht;cases ht
    | some t0 =>
     rw [ht'] at ht
     have ha':c.args.map e.ev = #[.slice a n cp]:=by apply Array.ext';rw [he,ha]
     simp only [Option.bind_some] at ht
     simp only [execOp,ho,resolve,hc,Sem.run_bind,Sem.run_pure,Result.andThen_ok,invoke,builtin,Builtin.len_,ht',ha']
     simp [underlying,ht,goInt]
   ·exact q.elim
  ·rename_i s hc ha
   split at q
   ·rename_i ht
    refine ⟨_,q,fun w hr=>?_⟩
    cases ht':c.argTypes[0]? with
    | none=>rw [ht'] at ht;cases ht
    | some t0 =>
     rw [ht'] at ht
     have ha':c.args.map e.ev = #[.string s]:=by apply Array.ext';rw [he,ha]
     simp only [Option.bind_some] at ht
     simp only [execOp,ho,resolve,hc,Sem.run_bind,Sem.run_pure,Result.andThen_ok,invoke,builtin,Builtin.len_,ht',ha']
     simp [underlying,ht,goInt]
   ·exact q.elim
  ·rename_i r hc ha
   split at q
   ·rename_i k0 e0 ht
    obtain ⟨tg,es,clock,hm,hk⟩:=q.out
    refine ⟨_,hk,fun w hr=>?_⟩
    cases ht':c.argTypes[0]? with
    | none=>rw [ht'] at ht;cases ht
    | some t0 =>
     rw [ht'] at ht
     have ha':c.args.map e.ev = #[.map (some r)]:=by apply Array.ext';rw [he,ha]
     simp only [Option.bind_some] at ht
     simp only [execOp,ho,resolve,hc,Sem.run_bind,Sem.run_pure,Result.andThen_ok,invoke,builtin,Builtin.len_,ht',ha']
     simp [underlying,ht,goInt,getObj,Sem.run,hr _ _ _ hm]
   ·exact q.elim
  ·rename_i a n cp hc ha
   split at q
   ·rename_i E ht
    refine ⟨_,q,fun w hr=>?_⟩
    cases ht':c.argTypes[0]? with
    | none=>rw [ht'] at ht;cases ht
    | some t0 =>
     rw [ht'] at ht
     have ha':c.args.map e.ev = #[.slice a n cp]:=by apply Array.ext';rw [he,ha]
     simp only [Option.bind_some] at ht
     simp only [execOp,ho,resolve,hc,Sem.run_bind,Sem.run_pure,Result.andThen_ok,invoke,builtin,Builtin.cap_,ht',ha']
     simp [underlying,ht,goInt]
   ·exact q.elim
  ·rename_i k a k' b hc ha
   refine ⟨_,q.out,fun w hr=>?_⟩
   have ha':c.args.map e.ev = #[.int k a, .int k' b]:=by apply Array.ext';rw [he,ha]
   simp only [execOp,ho,resolve,hc,Sem.run_bind,Sem.run_pure,Result.andThen_ok,invoke,builtin,Builtin.min_,ha']
   simp [Builtin.min2]
  ·rename_i k a k' b hc ha
   refine ⟨_,q.out,fun w hr=>?_⟩
   have ha':c.args.map e.ev = #[.int k a, .int k' b]:=by apply Array.ext';rw [he,ha]
   simp only [execOp,ho,resolve,hc,Sem.run_bind,Sem.run_pure,Result.andThen_ok,invoke,builtin,Builtin.max_,ha']
   simp [Builtin.max2]
  ·exact QRaw_sound q
 ·exact QRaw_sound q
def quietConv (P:Program) (s d:TypeId):Bool :=
  match P.underlying s,P.underlying d with
  | some (.int _),some (.int _)=>true
  | _,_=>false
def isQuiet (P:Program):Op→Bool
  | .move _ | .assign _ | .makeFunc .. | .pick .. | .build .. | .load .. | .nilCheck _ | .binOp .. | .unOp .. | .slice .. | .fieldAddr .. | .field .. | .indexAddr .. | .index .. | .lookup .. | .extract .. => true
  | .convert s d _=>quietConv P s d
  | .call c=>match c.callee with
    | .builtin .len | .builtin .cap | .builtin .min | .builtin .max=>true
    | _=>false
  | _=>false
def AStep (P:Program) (o:Oper) (e:Env) (h:Heap) (K:Value→Heap→Prop):Prop :=
  bif isQuiet P o.op then QStep P o e h (fun v=>K v h) else
  match o.op with
  | .call c=>match c.callee with
    | .value (.func f)=>ACalls P f (c.args.toList.map e.ev).toArray h K
    | .builtin .append=>AAppend P c.argTypes o.type (c.args.toList.map e.ev).toArray h K
    | .builtin .clear=>AClear P c.argTypes o.type (c.args.toList.map e.ev).toArray h K
    | .builtin .copy=>ACopy P c.argTypes o.type (c.args.toList.map e.ev).toArray h K
    | .builtin .delete=>ADelete P c.argTypes o.type (c.args.toList.map e.ev).toArray h K
    | .value x=>match e.ev x with
      | .func (.func f) first captured=>ACalls P f (first.toList++c.args.toList.map e.ev++captured.toList).toArray h K
      | _=>ARaw P o e h K
    | _=>ARaw P o e h K
  | .store t x y=>match e.ev x with
    | .pointer (some a)=>force (e.ev y) fun v=>AStore P t a v h (fun h'=>K undef h')
    | _=>False
  | .alloc t=>AAlloc P t h K
  | .box t x=>force (e.ev x) fun v=>ABox P t v h K
  | .buildSlice t n ps=>ABuildSl P t n (ps.toList.map fun p=>(p.1,e.ev p.2)).toArray h K
  | .makeSlice t l c=>AMakeSl P t (e.ev l) (e.ev c) h K
  | .makeMap t none=>AMakeMap h K
  | .mapUpdate t m k x=>match e.ev m with
    | .map (some r)=>force (e.ev k) fun k=>force (e.ev x) fun x=>AMapUpd P t r k x h (fun h'=>K undef h')
    | _=>False
  | _=>ARaw P o e h K
theorem AOp_wp {P:Program} {o:Oper} {e:Env} {h:Heap} {K:Value→Heap→Prop} {n:Nat} {a:Act} {w:World} {next:Act→World→Prop}
  {Q:Exit→Act→World→Prop} {β:Base} (f:Fits n e a) (hr:RelB β h w) (s:AStep P o e h K)
  (hn:∀ v h' w',K v h'→RelB β h' w'→next (a.put o.dst v) w'):o.wp P a w next Q:=by
 unfold Oper.wp
 rw [f.eval]
 have raw:ARaw P o e h K→o.upon P a next Q ((execOp e.ev o).run P w):=by
  intro s
  obtain ⟨x,w',h',er,r,q⟩:=awp_sound _ s hr
  rw [er]
  cases x with
  | value v=>exact hn v h' w' q r
  | skip=>exact hn undef h' w' q r
  | enter f' args=>exact (q.2 β w' r).mono fun e' w'' ⟨v,h'',e1,r1,q1⟩=>by subst e1;exact hn v h'' w'' q1 r1
  | _=>exact q.elim
 have val:∀ {s':Sem Value},awp P s' h K→execOp e.ev o=(do pure (.value (← s')))→o.upon P a next Q ((execOp e.ev o).run P w):=by
  intro s' k he
  obtain ⟨v,w',h',er,r,q⟩:=awp_sound _ k hr
  rw [he]
  simp only [Sem.run_bind,er,Result.andThen_ok,Sem.run_pure]
  exact hn v h' w' q r
 unfold AStep at s
 by_cases hq:isQuiet P o.op=true
 ·rw [hq,cond_true] at s
  obtain ⟨v,k,e'⟩:=QStep_sound s
  rw [e' w hr.rel]
  exact hn v h w k hr
 ·simp only [Bool.not_eq_true] at hq
  rw [hq,cond_false] at s
  split at s
  ·rename_i c ho
   have hargs:(c.args.toList.map e.ev).toArray=c.args.map e.ev:=by apply Array.ext';simp
   rw [hargs] at s
   split at s
   ·rename_i f' hc
    obtain ⟨⟨fn,hf,hb,hnm⟩,s⟩:=s
    have hb':fn.body≠none:=by intro hbb;rw [hbb] at hb;cases hb
    have hn' : fn.name ≠ "runtime.NumGoroutine" := by intro hbb; rw [hbb] at hnm; simp at hnm
    have er:(execOp e.ev o).run P w = .ok (.enter f' (c.args.map e.ev)) w:=by
     simp [execOp,ho,resolve,hc,Env.ev,Deferred.ofValue,invoke,callFunc,hf,hb',hn']
    rw [er]
    exact (s β w hr).mono fun e' w'' ⟨v,h'',e1,r1,q1⟩=>by subst e1;exact hn v h'' w'' q1 r1
   ·rename_i hc;exact val s.out (by simp only [execOp,ho,resolve,hc];rfl)
   ·rename_i hc;exact val s.out (by simp only [execOp,ho,resolve,hc];rfl)
   ·rename_i hc;exact val s.out (by simp only [execOp,ho,resolve,hc];rfl)
   ·rename_i hc;exact val s.out (by simp only [execOp,ho,resolve,hc];rfl)
   ·rename_i x _ hc
    split at s
    ·rename_i f' first captured hx
     obtain ⟨⟨fn,hf,hb,hnm⟩,s⟩:=s
     have hb':fn.body≠none:=by intro hbb;rw [hbb] at hb;cases hb
     have hn' : fn.name ≠ "runtime.NumGoroutine" := by intro hbb; rw [hbb] at hnm; simp at hnm
     have harr:(first.toList++c.args.toList.map e.ev++captured.toList).toArray=first++c.args.map e.ev++captured:=by apply Array.ext';simp
     rw [harr] at s
     have er:(execOp e.ev o).run P w = .ok (.enter f' (first++c.args.map e.ev++captured)) w:=by
      simp [execOp,ho,resolve,hc,hx,Deferred.ofValue,invoke,callFunc,hf,hb',hn']
     rw [er]
     exact (s β w hr).mono fun e' w'' ⟨v,h'',e1,r1,q1⟩=>by subst e1;exact hn v h'' w'' q1 r1
    ·exact raw s
   ·exact raw s
  ·rename_i t x y ho
   split at s
   ·rename_i ad hx
    rw [force_iff] at s
    obtain ⟨v,w',h',er,r,q⟩:=awp_sound _ s.out hr
    simp only [execOp,ho,hx,Instr.storeAt,Instr.sureAddr,Sem.run_bind,Sem.run_pure,Result.andThen_ok,er]
    exact hn undef h' w' q r
   ·exact s.elim
  ·rename_i t ho;exact val s.out (by simp only [execOp,ho])
  ·rename_i t x ho;rw [force_iff] at s;exact val s.out (by simp only [execOp,ho])
  ·rename_i t n' ps ho
   have hps:(ps.toList.map fun (p:Nat×Operand)=>(p.1,e.ev p.2)).toArray=ps.map fun p=>(p.1,e.ev p.2):=by apply Array.ext';simp
   rw [hps] at s
   exact val s.out (by simp only [execOp,ho])
  ·rename_i t l c ho;exact val s.out (by simp only [execOp,ho])
  ·rename_i t ho
   refine val (s':=Instr.makeMap t none) ?_ (by simp only [execOp,ho];rfl)
   obtain ⟨tg,k⟩:=s.out
   exact ⟨tg,k⟩
  ·rename_i t m k x ho
   split at s
   ·rename_i r hx
    rw [force_iff,force_iff] at s
    obtain ⟨v,w',h',er,r',q⟩:=awp_sound _ s.out hr
    simp only [execOp,ho,hx,Sem.run_bind,Sem.run_pure,Result.andThen_ok,er]
    exact hn undef h' w' q r'
   ·exact s.elim
  ·exact raw s
abbrev Post:=Exit→Env→Heap→Prop
def lift (β:Base) (n:Nat) (Q:Post) (x:Exit) (a:Act) (w:World):Prop :=
  match x with
  | .panic _ | .outgrown=>False
  | x=>∃ e h,Fits n e a∧RelB β h w∧Q x e h
def wantedE (o:Oper) (ops:Array Oper) (e:Env):Bool :=
  match o.guard with
  | none=>true
  | some (j,want)=>match yieldedE ops e j with
    | some b=>b == want
    | none=>false
theorem wanted_eq {n:Nat} {e:Env} {a:Act} (f:Fits n e a) (o:Oper) (ops:Array Oper):Region.wanted o (yielded ops a.tmps)=wantedE o ops e:=by
 unfold Region.wanted wantedE
 rw [f.yielded]
 cases o.guard with
 | none=>rfl
 | some p =>
  obtain ⟨j,want⟩:=p
  simp only []
  cases yieldedE ops e j with
  | none=>rfl
  | some b=>cases b <;> cases want <;> rfl
def putE (n:Nat) (e:Env) (d:Option Tmp) (v:Value) (k:Env→Prop):Prop :=
  match d with
  | none=>k e
  | some d=>k (upd n e d v)
theorem putE_iff (n:Nat) (e:Env) (d:Option Tmp) (v:Value) (k:Env→Prop):putE n e d v k↔k (updO n e d v):=by cases d <;> rfl
def AOp1 (wanted:Bool) (P:Program) (o:Oper) (e:Env) (h:Heap) (K:Value→Heap→Prop):Prop:=bif wanted then AStep P o e h K else K undef h
def contE (n:Nat) (e:Env) (d:Option Tmp) (k:Env→Heap→Prop) (v:Value) (h:Heap):Prop:=force v fun v=>putE n e d v fun e'=>k e' h
theorem contE_iff (n:Nat) (e:Env) (d:Option Tmp) (k:Env→Heap→Prop) (v:Value) (h:Heap):contE n e d k v h↔k (updO n e d v) h:=by
 unfold contE;rw [force_iff,putE_iff]
def AList (P:Program) (n:Nat) (ops:Array Oper) (Q:Post):List Oper→Env→Heap→Prop
  | [],e,h=>Q .normal e h
  | o::rest,e,h=>AOp1 (wantedE o ops e) P o e h (contE n e o.dst (AList P n ops Q rest))
theorem AList_wp {P:Program} {β:Base} {n:Nat} {ops:Array Oper} {Q:Post}:∀ (l:List Oper) (e:Env) (h:Heap) (a:Act) (w:World),
  AList P n ops Q l e h→Fits n e a→RelB β h w→wpList P ops (lift β n Q) l a w
 | [],e,h,a,w,k,f,r=>⟨e,h,f,r,k⟩
 | o::rest,e,h,a,w,k,f,r=>by
  unfold wpList
  rw [wanted_eq f]
  unfold AList AOp1 at k
  cases hw:wantedE o ops e with
  | true =>
   rw [hw,cond_true] at k
   rw [if_pos rfl]
   exact .inl (AOp_wp f r k fun v h' w' k' r'=>AList_wp rest _ h' _ w' ((contE_iff ..).1 k') (f.updO o.dst v) r')
  | false =>
   rw [hw,cond_false] at k
   rw [if_neg (by simp)]
   exact AList_wp rest _ h _ w ((contE_iff ..).1 k) (f.updO o.dst undef) r
section
section
variable {P:Program} {ops:Array Oper} {Q:Exit→Act→World→Prop} {md:Region.Mode} {S:World→Prop} {D:Nat→Bool}
def wpAnyD (P:Program) (md:Region.Mode) (ops:Array Oper) (Q:Exit→Act→World→Prop) (S:World→Prop) (D:Nat→Bool):Nat→Array Bool→Act→World→Prop
  | 0,listed,a,w=>Region.ready md ops listed=[]∧Q .normal a w
  | fuel+1,listed,a,w =>
    (Region.ready md ops listed=[]→Q .normal a w) ∧
    ∀ i∈Region.ready md ops listed,wpOp P ops Q i (fun a' w'=>(D i=true∧wpAny P md ops Q fuel (listed.setIfInBounds i true) a' w') ∨
      (S w'∧wpAnyD P md ops Q S D fuel (listed.setIfInBounds i true) a' w')) a w
theorem wpAny_of_D:∀ (fuel:Nat) (listed:Array Bool) (a:Act) (w:World),wpAnyD P md ops Q S D fuel listed a w→wpAny P md ops Q fuel listed a w
 | 0,_,_,_,h=>h
 | fuel+1,_,_,_,h=>⟨h.1,fun i hi=>wpOp_mono (fun a' w' h'=>h'.elim (fun x=>x.2) (fun x=>wpAny_of_D fuel _ a' w' x.2)) (h.2 i hi)⟩
def Closed (md:Region.Mode) (ops:Array Oper) (L:Array Bool):Prop:=∀ k ok,ops[k]? = some ok→L.getD k true=true→∀ e∈ok.after,Region.binds md e=true→L.getD e.on true=true
def leans (md:Region.Mode) (ops:Array Oper) (i:Nat):Nat→Nat→Bool
  | 0,_=>false
  | n+1,j=>match ops[j]? with
    | some oj=>oj.after.any fun e=>Region.binds md e&&(e.on == i || leans md ops i n e.on)
    | none=>false
theorem leans_listed {md:Region.Mode} {ops:Array Oper} {L:Array Bool} {i:Nat} (c:Closed md ops L) (hi:L.getD i true=false):∀ (n j:Nat),L.getD j true=true→leans md ops i n j=true→False
 | 0,j,_,h=>by simp [leans] at h
 | n+1,j,hl,h=>by
  unfold leans at h
  cases ho:ops[j]? with
  | none=>rw [ho] at h;cases h
  | some oj =>
   rw [ho] at h
   obtain ⟨e,he,hb⟩:=Array.any_eq_true'.1 h
   simp only [Bool.and_eq_true,Bool.or_eq_true,beq_iff_eq] at hb
   have h1:=c j oj ho hl e he hb.1
   rcases hb.2 with h2 | h2
   ·rw [h2,hi] at h1;cases h1
   ·exact leans_listed c hi n e.on h1 h2
theorem getD_up {L:Array Bool} {m:Nat} (h:L.getD m false=true):L.getD m true=true:=by
 rcases Nat.lt_or_ge m L.size with h' | h'
 ·simpa [h'] using h
 ·simp [h'] at h
theorem Closed.step {md:Region.Mode} {ops:Array Oper} {L:Array Bool} {j:Nat} (c:Closed md ops L) (hj:j∈Region.ready md ops L):Closed md ops (L.setIfInBounds j true):=by
 have mono:∀ m,L.getD m true=true→(L.setIfInBounds j true).getD m true=true:=fun m hm=>by
  by_cases h:j=m
  ·subst h
   rcases Nat.lt_or_ge j L.size with h' | h'
   ·simp [h']
   ·simp [h']
  ·rw [getD_set_ne true h];exact hm
 intro k ok hk hl e he hb
 by_cases h:j=k
 ·subst h
  obtain ⟨_,oj,hoj,hall⟩:=mem_ready.1 hj
  rw [hk] at hoj;cases hoj
  exact mono _ (getD_up (hall e he hb))
 ·rw [getD_set_ne true h] at hl
  exact mono _ (c k ok hk hl e he hb)
theorem wpAnyD_first {i:Nat} {oi:Oper} {v:Value} (hi:ops[i]? = some oi) (hsel:∀ (j:Nat) (o:Oper) cs b,ops[j]? = some o→o.op ≠ .select cs b)
  (hQ:∀ c a w,Q (.panic c) (a.put oi.dst v) w→Q (.panic c) a w)
  :
  ∀ (fuel:Nat) (listed:Array Bool) (a:Act) (w:World),
   Closed md ops listed→(∀ j,listed.getD j true=false→D j=true→leans md ops i ops.size j=true) →
   (∀ j oj,ops[j]? = some oj→j≠i→listed.getD j true=false→(∀ e∈oj.after,Region.binds md e=true→e.on≠i)→oi.apart ops oj=true) →
   i∈Region.ready md ops listed→YieldsIf P ops S oi v a→S w →
   wpAnyD P md ops Q S D fuel (listed.setIfInBounds i true) (a.put oi.dst v) w→wpAnyD P md ops Q S D (fuel+1) listed a w:=by
 intro fuel
 induction fuel with
 | zero =>
  intro listed a w _ _ _ hr hy hS H
  refine ⟨fun h=>(by rw [h] at hr;cases hr),fun j hj=>?_⟩
  by_cases hji:j=i
  ·subst hji;exact hy.wpOp hi hS (.inr ⟨hS,H⟩)
  ·have:=ready_mono hj hji
   rw [H.1] at this
   cases this
 | succ fuel ih =>
  intro listed a w hC hD hfree hr hy hS H
  refine ⟨fun h=>(by rw [h] at hr;cases hr),fun j hj=>?_⟩
  by_cases hji:j=i
  ·subst hji;exact hy.wpOp hi hS (.inr ⟨hS,H⟩)
  ·have h1:=H.2 j (ready_mono hj hji)
   obtain ⟨hjun,oj,hoj,hall⟩:=mem_ready.1 hj
   have hnot:∀ e∈oj.after,Region.binds md e=true→e.on≠i:=fun e he hb heq=>by
    have h1:=hall e he hb
    have h0:=(mem_ready.1 hr).1
    rw [heq] at h1
    rcases Nat.lt_or_ge i listed.size with h' | h'
    ·simp [h'] at h0 h1;rw [h0] at h1;cases h1
    ·simp [Array.getElem?_eq_none h'] at h1
   have hDj:D j=false:=by
    cases hd:D j with
    | false=>rfl
    | true =>
     have hl:=hD j hjun hd
     have hi0:listed.getD i true=false:=(mem_ready.1 hr).1
     cases hsz:ops.size with
     | zero=>rw [hsz] at hl;simp [leans] at hl
     | succ n =>
      rw [hsz] at hl
      unfold leans at hl
      rw [hoj] at hl
      obtain ⟨e,he,hb⟩:=Array.any_eq_true'.1 hl
      simp only [Bool.and_eq_true,Bool.or_eq_true,beq_iff_eq] at hb
      have h1:=hall e he hb.1
      rcases hb.2 with h2 | h2
      ·exact absurd h2 (hnot e he hb.1)
      ·exact (leans_listed hC hi0 n e.on (getD_up h1) h2).elim
   have h1':=wpOp_mono (fun a' w' x=>(x.resolve_left (by rw [hDj];simp):S w'∧wpAnyD P md ops Q S D fuel ((listed.setIfInBounds i true).setIfInBounds j true) a' w')) h1
   have h2:=wpOp_putIf hoj (hfree j oj hoj hji hjun hnot) (fun cs b=>hsel i oi cs b hi) (fun cs b=>hsel j oj cs b hoj) hQ hy h1'
   have hfree':∀ k ok,ops[k]? = some ok→k≠i→(listed.setIfInBounds j true).getD k true=false →
     (∀ e∈ok.after,Region.binds md e=true→e.on≠i)→oi.apart ops ok=true:=fun k ok hk hki hun hno=>by
    refine hfree k ok hk hki ?_ hno
    by_cases hjk:j=k
    ·subst hjk;exact hjun
    ·rw [getD_set_ne true hjk] at hun;exact hun
   have hD':∀ k,(listed.setIfInBounds j true).getD k true=false→D k=true→leans md ops i ops.size k=true:=fun k hun hd=>by
    refine hD k ?_ hd
    by_cases hjk:j=k
    ·subst hjk;exact hjun
    ·rw [getD_set_ne true hjk] at hun;exact hun
   refine wpOp_mono (fun a' w' h3 => .inr ⟨h3.2.1,ih (listed.setIfInBounds j true) a' w' (hC.step hj) hD' hfree' (ready_mono hr (Ne.symm hji)) h3.1 h3.2.1 ?_⟩) h2
   rw [Array.setIfInBounds_comm _ _ hji]
   exact h3.2.2
end
section
variable {P:Program} {ops:Array Oper} {Q:Exit→Act→World→Prop} {md:Region.Mode} {S:World→Prop} {D:Nat→Bool}
theorem wpAnyD_first_pure {i:Nat} {oi:Oper} {v:Value} (hi:ops[i]? = some oi) (hsel:∀ (j:Nat) (o:Oper) cs b,ops[j]? = some o→o.op ≠ .select cs b)
  (hQ:∀ c a w,Q (.panic c) (a.put oi.dst v) w→Q (.panic c) a w) :
  ∀ (fuel:Nat) (listed:Array Bool) (a:Act) (w:World),
   (∀ j oj,ops[j]? = some oj→j≠i→listed.getD j true=false→(∀ e∈oj.after,Region.binds md e=true→e.on≠i)→oi.apart ops oj=true) →
   i∈Region.ready md ops listed→Yields P ops oi v a→S w →
   wpAnyD P md ops Q S D fuel (listed.setIfInBounds i true) (a.put oi.dst v) w→wpAnyD P md ops Q S D (fuel+1) listed a w:=by
 intro fuel
 induction fuel with
 | zero =>
  intro listed a w _ hr hy hS H
  refine ⟨fun h=>(by rw [h] at hr;cases hr),fun j hj=>?_⟩
  by_cases hji:j=i
  ·subst hji;exact hy.wpOp hi (.inr ⟨hS,H⟩)
  ·have:=ready_mono hj hji
   rw [H.1] at this
   cases this
 | succ fuel ih =>
  intro listed a w hfree hr hy hS H
  refine ⟨fun h=>(by rw [h] at hr;cases hr),fun j hj=>?_⟩
  by_cases hji:j=i
  ·subst hji;exact hy.wpOp hi (.inr ⟨hS,H⟩)
  ·have h1:=H.2 j (ready_mono hj hji)
   obtain ⟨hjun,oj,hoj,hall⟩:=mem_ready.1 hj
   have hnot:∀ e∈oj.after,Region.binds md e=true→e.on≠i:=fun e he hb heq=>by
    have h1:=hall e he hb
    have h0:=(mem_ready.1 hr).1
    rw [heq] at h1
    rcases Nat.lt_or_ge i listed.size with h' | h'
    ·simp [h'] at h0 h1;rw [h0] at h1;cases h1
    ·simp [Array.getElem?_eq_none h'] at h1
   have h2:=wpOp_put hoj (hfree j oj hoj hji hjun hnot) (fun cs b=>hsel i oi cs b hi) (fun cs b=>hsel j oj cs b hoj) hQ hy h1
   have hfree':∀ k ok,ops[k]? = some ok→k≠i→(listed.setIfInBounds j true).getD k true=false →
     (∀ e∈ok.after,Region.binds md e=true→e.on≠i)→oi.apart ops ok=true:=fun k ok hk hki hun hno=>by
    refine hfree k ok hk hki ?_ hno
    by_cases hjk:j=k
    ·subst hjk;exact hjun
    ·rw [getD_set_ne true hjk] at hun;exact hun
   refine wpOp_mono (fun a' w' h3=>?_) h2
   obtain ⟨hy',h3⟩:=h3
   rcases h3 with ⟨hd,h3⟩ | ⟨hs,h3⟩
   ·refine .inl ⟨hd,wpAny_first hi hsel hQ fuel (listed.setIfInBounds j true) a' w' hfree' (ready_mono hr (Ne.symm hji)) hy' ?_⟩
    rw [Array.setIfInBounds_comm _ _ hji]
    exact h3
   ·refine .inr ⟨hs,ih (listed.setIfInBounds j true) a' w' hfree' (ready_mono hr (Ne.symm hji)) hy' hs ?_⟩
    rw [Array.setIfInBounds_comm _ _ hji]
    exact h3
end
def isLoad:Op→Bool
  | .load .. | .lookup .. | .binOp .eql .. | .binOp .neq .. => true
  | .call c=>match c.callee with
    | .builtin .len=>true
    | _=>false
  | _=>false
def pl (n:Nat):List Nat→Array Bool
  | []=>Array.replicate n false
  | i::d=>(pl n d).setIfInBounds i true
def planAt (P:Program) (ops:Array Oper) (D d:List Nat) (i:Nat):Bool :=
  (Region.ready .any ops (pl ops.size d)).contains i &&
  match ops[i]? with
  | none=>false
  | some o=>bif isQuiet P o.op then
      Region.free .any ops (pl ops.size d) i&&(!isLoad o.op || D.all (fun j=>d.contains j || leans .any ops i ops.size j))
    else Region.ready .any ops (pl ops.size d) == [i]
inductive Tree where
  | done
  | take (i:Nat) (t:Tree)
  | alt (i:Nat) (t:Tree) (u:Tree)
  | again (t:Tree)
  | stop
def Tree.ofList:List Nat→Tree
  | [] => .done
  | i::r => .take i (Tree.ofList r)
def Tree.heads:Tree→List Nat
  | .alt i _ u=>i::u.heads
  | _=>[]
def planGo (P:Program) (ops:Array Oper) (D:List Nat):Nat→List Nat→Bool→Tree→Bool
  | _,d,b, .done => !b&&(Region.ready .any ops (pl ops.size d)).isEmpty
  | 0,d,b, .take i t=>false
  | n+1,d,b, .take i t => !b&&planAt P ops D d i&&planGo P ops D n (i::d) false t
  | 0,d,b, .alt i t u=>false
  | n+1,d,b, .alt i t u=>(b || (!(Region.ready .any ops (pl ops.size d)).isEmpty&&(Region.ready .any ops (pl ops.size d)).all (fun j=>(Tree.alt i t u).heads.contains j)))&&(ops[i]?).isSome&&planGo P ops D n (i::d) false t&&planGo P ops D (n+1) d true u
  | n,d,b, .again t => !b&&planGo P ops D n d b t
  | _,d,b, .stop=>b
def planT (P:Program) (ops:Array Oper) (D:List Nat) (t:Tree):Bool :=
  Region.noSelect ops &&
  D.all (fun j=>match ops[j]? with | none=>true | some o => !isQuiet P o.op)&&planGo P ops D ops.size [] false t
def planO (P:Program) (ops:Array Oper) (D ord:List Nat):Bool:=planT P ops D (Tree.ofList ord)
def plan (P:Program) (ops:Array Oper) (D:List Nat):Bool:=planO P ops D (List.range ops.size)
def nilHeap:Heap:=fun _=>none
def AOp2 (wanted quiet isD:Bool) (P:Program) (S:Heap) (D:List Nat) (o:Oper) (e:Env) (h:Heap) (K:Heap→List Nat→Value→Heap→Prop):Prop :=
  bif wanted then (bif quiet then QStep P o e (bif isLoad o.op then S else nilHeap) (fun v=>K S D v h)
    else AStep P o e h (fun v h'=>bif isD then K nilHeap [] v h' else Sub S h'∧K S D v h'))
  else K S D undef h
def AText (P:Program) (n:Nat) (ops:Array Oper) (Q:Post):Tree→Heap→List Nat→Env→Heap→Prop
  | .done,_,_,e,h=>Q .normal e h
  | .take i rest,S,D,e,h=>match ops[i]? with
    | some o=>AOp2 (wantedE o ops e) (isQuiet P o.op) (D.contains i) P S D o e h (fun S' D'=>contE n e o.dst (AText P n ops Q rest S' D'))
    | none=>False
  | .alt i rest u,S,D,e,h=>(match ops[i]? with
    | some o=>AOp2 (wantedE o ops e) (isQuiet P o.op) (D.contains i) P S D o e h (fun S' D'=>contE n e o.dst (AText P n ops Q rest S' D'))
    | none=>False)∧AText P n ops Q u S D e h
  | .again t,S,D,e,h=>S=nilHeap∧D=[]∧∃ S',Sub S' h∧AText P n ops Q t S' [] e h
  | .stop,_,_,_,_=>True
theorem wpAnyD_mono {P:Program} {md:Region.Mode} {ops:Array Oper} {Q:Exit→Act→World→Prop} {S S':World→Prop} {D:Nat→Bool} (m:∀ w,S w→S' w):∀ (fuel:Nat) (listed:Array Bool) (a:Act) (w:World),wpAnyD P md ops Q S D fuel listed a w→wpAnyD P md ops Q S' D fuel listed a w
 | 0,_,_,_,h=>h
 | fuel+1,_,_,_,h=>⟨h.1,fun i hi=>wpOp_mono (fun a' w' h'=>h'.imp id (fun x=>⟨m _ x.1,wpAnyD_mono m fuel _ a' w' x.2⟩)) (h.2 i hi)⟩
theorem lift_panic {β:Base} {n:Nat} {Q:Post} {c:List PanicEntry} {a a':Act} {w:World} (h:lift β n Q (.panic c) a w):lift β n Q (.panic c) a' w:=h
theorem pl_size (n:Nat):∀ d,(pl n d).size=n
 | []=>by simp [pl]
 | i::d=>by simp [pl,pl_size n d]
theorem pl_listed (n:Nat):∀ (d:List Nat) (j:Nat),j∈d→j<n→(pl n d).getD j true=true
 | i::d,j,h,hn=>by
  by_cases hij:i=j
  ·subst hij;simp [pl,pl_size,hn]
  ·rw [pl,getD_set_ne true hij]
   exact pl_listed n d j ((List.mem_cons.1 h).resolve_left (Ne.symm hij)) hn
theorem planGo_nil {P:Program} {ops:Array Oper} {D:List Nat}:∀ (t:Tree) (n:Nat) (d:List Nat) (b:Bool),planGo P ops D n d b t=true→planGo P ops [] n d b t=true
 | .done,n,d,b,h=>by cases n <;> exact h
 | .stop,n,d,b,h=>by cases n <;> exact h
 | .again t,n,d,b,h=>by
  unfold planGo at h ⊢
  rw [Bool.and_eq_true] at h ⊢
  exact ⟨h.1,planGo_nil t n d b h.2⟩
 | .take i r,0,d,b,h=>by simp [planGo] at h
 | .alt i r u,0,d,b,h=>by simp [planGo] at h
 | .alt i r u,n+1,d,b,h=>by
  unfold planGo at h ⊢
  simp only [Bool.and_eq_true] at h ⊢
  exact ⟨⟨h.1.1,planGo_nil r _ _ _ h.1.2⟩,planGo_nil u _ _ _ h.2⟩
 | .take i r,n+1,d,b,h=>by
  unfold planGo at h ⊢
  simp only [Bool.and_eq_true] at h ⊢
  refine ⟨⟨h.1.1,?_⟩,planGo_nil r n (i::d) false h.2⟩
  have h1:=h.1.2
  unfold planAt at h1 ⊢
  rw [Bool.and_eq_true] at h1 ⊢
  refine ⟨h1.1,?_⟩
  have h2:=h1.2
  cases ho:ops[i]? with
  | none=>rw [ho] at h2;cases h2
  | some o =>
   rw [ho] at h2
   simp only [] at h2 ⊢
   cases hq:isQuiet P o.op with
   | true=>rw [hq,cond_true,Bool.and_eq_true] at h2;rw [cond_true,Bool.and_eq_true];exact ⟨h2.1,by simp⟩
   | false=>rw [hq,cond_false] at h2;rw [cond_false];exact h2
abbrev OpNext (P:Program) (β:Base) (n:Nat) (ops:Array Oper) (Q:Post) (S:Heap) (D:List Nat) (fuel:Nat) (d:List Nat) (j:Nat) (a:Act) (w:World):Prop :=
  wpOp P ops (lift β n Q) j (fun a' w'=>(D.contains j=true∧wpAny P .any ops (lift β n Q) fuel ((pl ops.size d).setIfInBounds j true) a' w') ∨
      (Rel S w'∧wpAnyD P .any ops (lift β n Q) (Rel S) (D.contains ·) fuel ((pl ops.size d).setIfInBounds j true) a' w')) a w
theorem AText_op {P:Program} {β:Base} {n:Nat} {ops:Array Oper} {Q:Post} {i:Nat} {rest:Tree} {fuel:Nat} {d:List Nat} {S:Heap} {D:List Nat} {e:Env} {h:Heap} {a:Act} {w:World} {o:Oper} (hio:ops[i]? = some o)
  (ih:∀ (S:Heap) (D:List Nat) (e:Env) (h:Heap) (a:Act) (w:World),planGo P ops D fuel (i::d) false rest=true→(∀ j∈D,∀ o,ops[j]? = some o→isQuiet P o.op=false) →
   AText P n ops Q rest S D e h→Fits n e a→RelB β h w→Rel S w→wpAnyD P .any ops (lift β n Q) (Rel S) (D.contains ·) fuel (pl ops.size (i::d)) a w)
  (hp':planGo P ops D fuel (i::d) false rest=true) (hDi:∀ j∈D,∀ o,ops[j]? = some o→isQuiet P o.op=false)
  (k:AOp2 (wantedE o ops e) (isQuiet P o.op) (D.contains i) P S D o e h (fun S' D'=>contE n e o.dst (AText P n ops Q rest S' D')))
  (f:Fits n e a) (r:RelB β h w) (rs:Rel S w):OpNext P β n ops Q S D fuel d i a w:=by
 have hlisted:pl ops.size (i::d)=(pl ops.size d).setIfInBounds i true:=rfl
 unfold AOp2 at k
 unfold OpNext
 cases hw:wantedE o ops e with
 | true =>
  rw [hw,cond_true] at k
  cases hq:isQuiet P o.op with
  | true =>
   rw [hq,cond_true] at k
   obtain ⟨v,hk,hv⟩:=QStep_sound k
   have hv2:∀ w',Rel S w'→(execOp e.ev o).run P w' = .ok (.value v) w':=fun w' hw'=>hv w' (by
    cases isLoad o.op with
    | true=>exact hw'
    | false=>exact fun b t o hb=>by cases hb)
   have hy:YieldsIf P ops (Rel S) o v a := .inl ⟨by rw [wanted_eq f];exact hw,fun w' hw'=>by rw [f.eval];exact hv2 w' hw'⟩
   refine hy.wpOp hio rs (.inr ⟨rs,?_⟩)
   rw [← hlisted]
   exact ih S D _ h _ w hp' hDi ((contE_iff ..).1 hk) (f.updO o.dst v) r rs
  | false =>
   rw [hq,cond_false] at k
   unfold wpOp
   rw [hio]
   simp only []
   rw [wanted_eq f,hw,if_pos rfl]
   refine .inl (AOp_wp f r k fun v h' w' k' r'=>?_)
   cases hd:D.contains i with
   | true =>
    rw [hd,cond_true] at k'
    refine .inl ⟨rfl,wpAny_of_D (S:=Rel nilHeap) (D:=fun x=>([]:List Nat).contains x) _ _ _ _ ?_⟩
    rw [← hlisted]
    exact ih nilHeap [] _ h' _ w' (planGo_nil _ _ _ _ hp') (by simp) ((contE_iff ..).1 k') (f.updO o.dst v) r' (fun b t o hb=>by cases hb)
   | false =>
    rw [hd,cond_false] at k'
    obtain ⟨hs,k'⟩:=k'
    refine .inr ⟨r'.rel.sub hs,?_⟩
    rw [← hlisted]
    exact ih S D _ h' _ w' hp' hDi ((contE_iff ..).1 k') (f.updO o.dst v) r' (r'.rel.sub hs)
 | false =>
  rw [hw,cond_false] at k
  unfold wpOp
  rw [hio]
  simp only []
  rw [wanted_eq f,hw,if_neg (by simp)]
  refine .inr ⟨rs,?_⟩
  rw [← hlisted]
  exact ih S D _ h _ w hp' hDi ((contE_iff ..).1 k) (f.updO o.dst undef) r rs
theorem AText_wp {P:Program} {β:Base} {n:Nat} {ops:Array Oper} {Q:Post} (hsel:Region.noSelect ops=true) :
  ∀ (t:Tree),
  (∀ (fuel:Nat) (d:List Nat) (S:Heap) (D:List Nat) (e:Env) (h:Heap) (a:Act) (w:World),Closed .any ops (pl ops.size d)→planGo P ops D fuel d false t=true→(∀ j∈D,∀ o,ops[j]? = some o→isQuiet P o.op=false) →
   AText P n ops Q t S D e h→Fits n e a→RelB β h w→Rel S w→wpAnyD P .any ops (lift β n Q) (Rel S) (D.contains ·) fuel (pl ops.size d) a w) ∧
  (∀ (fuel:Nat) (d:List Nat) (S:Heap) (D:List Nat) (e:Env) (h:Heap) (a:Act) (w:World),Closed .any ops (pl ops.size d)→planGo P ops D (fuel+1) d true t=true→(∀ j∈D,∀ o,ops[j]? = some o→isQuiet P o.op=false) →
   AText P n ops Q t S D e h→Fits n e a→RelB β h w→Rel S w→∀ j∈t.heads,j∈Region.ready .any ops (pl ops.size d)→OpNext P β n ops Q S D fuel d j a w):=by
 intro l
 induction l with
 | done =>
  refine ⟨fun fuel d S D e h a w hC hp hDi k f r rs=>?_,fun fuel d S D e h a w hC hp hDi k f r rs j hj=>by simp [Tree.heads] at hj⟩
  have hp2:(Region.ready .any ops (pl ops.size d)).isEmpty=true:=by cases fuel <;> simpa [planGo] using hp
  have hp3:=List.isEmpty_iff.1 hp2
  cases fuel with
  | zero=>exact ⟨hp3,e,h,f,r,k⟩
  | succ fuel=>exact ⟨fun _=>⟨e,h,f,r,k⟩,fun j hj=>by rw [hp3] at hj;cases hj⟩
 | stop =>
  refine ⟨fun fuel d S D e h a w hC hp hDi k f r rs=>?_,fun fuel d S D e h a w hC hp hDi k f r rs j hj=>by simp [Tree.heads] at hj⟩
  cases fuel <;> simp [planGo] at hp
 | again t ih =>
  refine ⟨fun fuel d S D e h a w hC hp hDi k f r rs=>?_,fun fuel d S D e h a w hC hp hDi k f r rs j hj=>by simp [Tree.heads] at hj⟩
  unfold planGo at hp
  rw [Bool.and_eq_true] at hp
  unfold AText at k
  obtain ⟨rfl,rfl,S',hs,k⟩:=k
  exact wpAnyD_mono (fun w' _=>fun b t o hb=>by cases hb) _ _ _ _ (ih.1 fuel d S' [] e h a w hC (planGo_nil _ _ _ _ hp.2) (by simp) k f r (r.rel.sub hs))
 | alt i rest u iht ihu =>
  have key:∀ (fuel:Nat) (d:List Nat) (b:Bool) (S:Heap) (D:List Nat) (e:Env) (h:Heap) (a:Act) (w:World),Closed .any ops (pl ops.size d)→planGo P ops D (fuel+1) d b (.alt i rest u)=true→(∀ j∈D,∀ o,ops[j]? = some o→isQuiet P o.op=false) →
    AText P n ops Q (.alt i rest u) S D e h→Fits n e a→RelB β h w→Rel S w→∀ j∈(Tree.alt i rest u).heads,j∈Region.ready .any ops (pl ops.size d)→OpNext P β n ops Q S D fuel d j a w:=by
   intro fuel d b S D e h a w hC hp hDi k f r rs j hj hjr
   unfold planGo at hp
   simp only [Bool.and_eq_true] at hp
   obtain ⟨⟨⟨_,hs⟩,hpt⟩,hpu⟩:=hp
   unfold AText at k
   obtain ⟨k1,k2⟩:=k
   rcases List.mem_cons.1 (show j∈i::u.heads from hj) with rfl | hj
   ·cases hio:ops[j]? with
    | none=>rw [hio] at hs;cases hs
    | some o =>
     rw [hio] at k1
     exact AText_op hio (fun S D e h a w=>iht.1 fuel (j::d) S D e h a w (hC.step hjr)) hpt hDi k1 f r rs
   ·exact ihu.2 fuel d S D e h a w hC hpu hDi k2 f r rs j hj hjr
  refine ⟨fun fuel d S D e h a w hC hp hDi k f r rs=>?_,fun fuel d S D e h a w hC hp hDi k f r rs=>key fuel d true S D e h a w hC hp hDi k f r rs⟩
  cases fuel with
  | zero=>simp [planGo] at hp
  | succ fuel =>
   have hall:=hp
   unfold planGo at hall
   simp only [Bool.and_eq_true,Bool.false_or,List.all_eq_true] at hall
   obtain ⟨⟨⟨⟨hne,hall⟩,_⟩,_⟩,_⟩:=hall
   refine ⟨fun h0=>?_,fun j hj=>key fuel d false S D e h a w hC hp hDi k f r rs j (by simpa using hall j hj) hj⟩
   rw [h0] at hne;cases hne
 | take i rest ih =>
  refine ⟨fun fuel d S D e h a w hC hp hDi k f r rs=>?_,fun fuel d S D e h a w hC hp hDi k f r rs j hj=>by simp [Tree.heads] at hj⟩
  cases fuel with
  | zero=>simp [planGo] at hp
  | succ fuel =>
  unfold planGo at hp
  simp only [Bool.and_eq_true] at hp
  obtain ⟨⟨_,hpi⟩,hp'⟩:=hp
  unfold planAt at hpi
  rw [Bool.and_eq_true] at hpi
  obtain ⟨hready,hkind⟩:=hpi
  unfold AText at k
  cases hio:ops[i]? with
  | none=>rw [hio] at hkind;cases hkind
  | some o =>
  rw [hio] at hkind k
  simp only [] at hkind k
  have hlisted:pl ops.size (i::d)=(pl ops.size d).setIfInBounds i true:=rfl
  have hsel':=Region.noSelect_spec hsel
  cases hq:isQuiet P o.op with
  | true =>
   unfold AOp2 at k
   rw [hq,cond_true] at hkind
   rw [Bool.and_eq_true] at hkind
   obtain ⟨hfree,hD⟩:=hkind
   have take:∀ v,YieldsIf P ops (Rel S) o v a→(isLoad o.op=false→Yields P ops o v a)→AText P n ops Q rest S D (updO n e o.dst v) h →
     wpAnyD P .any ops (lift β n Q) (Rel S) (D.contains ·) (fuel+1) (pl ops.size d) a w:=by
    intro v hy hyp ht
    have hrest':wpAnyD P .any ops (lift β n Q) (Rel S) (D.contains ·) fuel ((pl ops.size d).setIfInBounds i true) (a.put o.dst v) w:=by
     rw [← hlisted]
     exact ih.1 fuel (i::d) S D _ h _ w (hC.step (by simpa using hready)) hp' hDi ht (f.updO o.dst v) r rs
    cases hld:isLoad o.op with
    | false=>exact wpAnyD_first_pure (D:=(D.contains ·)) hio (fun j o'=>hsel' j o') (fun c a' w' hh=>lift_panic hh) fuel (pl ops.size d) a w (Region.free_spec hio hfree) (by simpa using hready) (hyp hld) rs hrest'
    | true =>
     refine wpAnyD_first (D:=(D.contains ·)) hio (fun j o'=>hsel' j o') (fun c a' w' hh=>lift_panic hh) fuel (pl ops.size d) a w hC ?_ (Region.free_spec hio hfree) (by simpa using hready) hy rs hrest'
     intro j hun hd
     have hjD:j∈D:=by simpa using hd
     rw [hld,Bool.not_true,Bool.false_or,List.all_eq_true] at hD
     have h3:=hD j hjD
     simp only [Bool.or_eq_true] at h3
     rcases h3 with h3 | h3
     ·have hjd:j∈d:=by simpa using h3
      rcases Nat.lt_or_ge j ops.size with hjn | hjn
      ·rw [pl_listed _ _ _ hjd hjn] at hun
       cases hun
      ·have:(pl ops.size d).getD j true=true:=by
        rw [Array.getD_eq_getD_getElem?,Array.getElem?_eq_none (by rw [pl_size];exact hjn)];rfl
       rw [this] at hun;cases hun
     ·exact h3
   cases hw:wantedE o ops e with
   | true =>
    rw [hw,hq,cond_true,cond_true] at k
    obtain ⟨v,hk,hv⟩:=QStep_sound k
    have hv2:∀ w',Rel S w'→(execOp e.ev o).run P w' = .ok (.value v) w':=fun w' hw'=>hv w' (by
     cases isLoad o.op with
     | true=>exact hw'
     | false=>exact fun b t o hb=>by cases hb)
    exact take v (.inl ⟨by rw [wanted_eq f];exact hw,fun w' hw'=>by rw [f.eval];exact hv2 w' hw'⟩) (fun hl => .inl ⟨by rw [wanted_eq f];exact hw,fun w'=>by
     rw [f.eval];exact hv w' (by rw [hl];exact fun b t o hb=>by cases hb)⟩) ((contE_iff ..).1 hk)
   | false =>
    rw [hw,cond_false] at k
    exact take undef (.inr ⟨by rw [wanted_eq f];exact hw,rfl⟩) (fun _ => .inr ⟨by rw [wanted_eq f];exact hw,rfl⟩) ((contE_iff ..).1 k)
  | false =>
   rw [hq,cond_false] at hkind
   have hkind:Region.ready .any ops (pl ops.size d)=[i]:=by simpa using hkind
   refine ⟨fun h0=>(by rw [h0] at hkind;cases hkind),fun j hj=>?_⟩
   rw [hkind] at hj
   obtain rfl:j=i:=by simpa using hj
   exact AText_op hio (fun S D e h a w=>ih.1 fuel (j::d) S D e h a w (hC.step (by rw [hkind];simp))) hp' hDi k f r rs
structure ADrawn (P:Program) (n:Nat) (ops:Array Oper) (Q:Post) (e:Env) (h:Heap):Prop where
  of ::
  out:∃ S D t,Sub S h∧planT P ops D t=true∧AText P n ops Q t S D e h
theorem ADrawn_wp {P:Program} {n:Nat} {ops:Array Oper} {Q:Post} {e:Env} {h:Heap} {a:Act} {w:World} {id:Nat} {β:Base} (hm:P.follows .mixedOrders=true)
  (k:ADrawn P n ops Q e h) (f:Fits n e a) (r:RelB β h w):(Code.region id ops true).wp P (lift β n Q) a w:=by
 obtain ⟨⟨S,D,t,hs,hp,ht⟩⟩:=k
 unfold planT at hp
 simp only [Bool.and_eq_true,List.all_eq_true] at hp
 obtain ⟨⟨hsel,hDq⟩,hgo⟩:=hp
 refine wp_region_any hm (wpAny_of_D (S:=Rel S) (D:=(D.contains ·)) _ _ _ _ ?_)
 refine (AText_wp hsel t).1 ops.size [] S D e h a {w with drawn:=w.drawn+1} (fun k ok hk hl=>by
  have hks:=(Array.getElem?_eq_some_iff.1 hk).1
  simp [pl,hks] at hl) hgo ?_ ht f r.drew (r.drew.rel.sub hs)
 intro j hj o ho
 have:=hDq j hj
 rw [ho] at this
 simpa using this
def thenP (K:Env→Heap→Prop) (Q:Post):Post:=fun z e h=>match z with
  | .normal=>K e h
  | z=>Q z e h
structure ALoop (body:Post→Env→Heap→Prop) (Q:Post) (e:Env) (h:Heap):Prop where
  of ::
  out:∃ (I:Env→Heap→Prop) (μ:Env→Nat),I e h∧∀ e h,I e h→body (thenP (fun e' h'=>I e' h'∧μ e'<μ e) Q) e h
def blockP (id:Nat) (Q:Post):Post:=fun z e h=>match z with
  | .exit i=>bif Nat.beq i id then Q .normal e h else Q (.exit i) e h
  | z=>Q z e h
def AW (P:Program) (n:Nat):Code→Post→Env→Heap→Prop
  | .skip,Q,e,h=>Q .normal e h
  | .region _ ops draw,Q,e,h=>bif draw then ADrawn P n ops Q e h else AList P n ops Q ops.toList e h
  | .seq x y,Q,e,h=>AW P n x (thenP (AW P n y Q) Q) e h
  | .cond c x y,Q,e,h=>match e.ev c with
    | .bool t=>bif t then AW P n x Q e h else AW P n y Q e h
    | _=>False
  | .block id x,Q,e,h=>AW P n x (blockP id Q) e h
  | .loop x,Q,e,h=>ALoop (AW P n x) Q e h
  | .exit id,Q,e,h=>Q (.exit id) e h
  | .label _,Q,e,h=>Q .normal e h
  | .goto l,Q,e,h=>Q (.goto l) e h
  | .ret,Q,e,h=>Q .ret e h
  | _,_,_,_=>False
theorem AW_wp {P:Program} {n:Nat} {β:Base} (hm:P.follows .mixedOrders=true):∀ (c:Code) (Q:Post) (e:Env) (h:Heap) (a:Act) (w:World),
  AW P n c Q e h→Fits n e a→RelB β h w→c.wp P (lift β n Q) a w:=by
 intro c
 induction c with
 | skip=>intro Q e h a w k f r;exact wp_skip ⟨e,h,f,r,k⟩
 | region id ops draw =>
  intro Q e h a w k f r
  cases draw with
  | true=>exact ADrawn_wp hm k f r
  | false=>exact wp_region_list (AList_wp ops.toList e h a w k f r)
 | seq x y ihx ihy =>
  intro Q e h a w k f r
  refine wp_seq (wp_mono (ihx _ e h a w k f r) fun z a' w' q=>?_)
  cases z with
  | panic c=>exact q.elim
  | outgrown=>exact q.elim
  | normal=>obtain ⟨e',h',f',r',k'⟩:=q;exact ihy Q e' h' a' w' k' f' r'
  | _=>exact q
 | cond c x y ihx ihy =>
  intro Q e h a w k f r
  unfold AW at k
  split at k
  ·rename_i t ht
   refine wp_cond (t:=t) (by rw [f.eval];exact ht) ?_
   cases t with
   | true=>exact ihx Q e h a w k f r
   | false=>exact ihy Q e h a w k f r
  ·exact k.elim
 | block id x ih =>
  intro Q e h a w k f r
  refine wp_block (wp_mono (ih _ e h a w k f r) fun z a' w' q=>?_)
  cases z with
  | panic c=>exact q.elim
  | outgrown=>exact q.elim
  | exit i =>
   obtain ⟨e',h',f',r',k'⟩:=q
   simp only [Exit.inBlock]
   by_cases hi:i=id
   ·subst hi
    rw [if_pos rfl]
    simp only [blockP,Nat.beq_refl,cond_true] at k'
    exact ⟨e',h',f',r',k'⟩
   ·rw [if_neg hi]
    have hb:Nat.beq i id=false:=by
     cases hh:Nat.beq i id with
     | false=>rfl
     | true=>exact absurd (Nat.eq_of_beq_eq_true hh) hi
    simp only [blockP,hb,cond_false] at k'
    exact ⟨e',h',f',r',k'⟩
  | _=>exact q
 | loop x ih =>
  intro Q e h a w k f r
  obtain ⟨⟨I,μ,h0,round⟩⟩:=k
  refine wp_loop (fun a w=>∃ e h,Fits n e a∧RelB β h w∧I e h) (fun a _=>μ (fun t=>a.tmps.getD t undef)) ⟨e,h,f,r,h0⟩ ?_
  rintro a w ⟨e,h,f,r,hI⟩
  refine wp_mono (ih _ e h a w (round e h hI) f r) fun z a' w' q=>?_
  cases z with
  | panic c=>exact q.elim
  | outgrown=>exact q.elim
  | normal =>
   obtain ⟨e',h',f',r',k',hlt⟩:=q
   refine ⟨⟨e',h',f',r',k'⟩,?_⟩
   have e1:(fun t=>a.tmps.getD t undef)=e:=funext f.getD
   have e2:(fun t=>a'.tmps.getD t undef)=e':=funext f'.getD
   simp only [e1,e2]
   exact hlt
  | _=>exact q
 | exit id=>intro Q e h a w k f r;exact wp_exit ⟨e,h,f,r,k⟩
 | label l=>intro Q e h a w k f r;exact wp_label ⟨e,h,f,r,k⟩
 | goto l=>intro Q e h a w k f r;exact wp_goto ⟨e,h,f,r,k⟩
 | ret=>intro Q e h a w k f r;exact wp_ret ⟨e,h,f,r,k⟩
 | rangeFunc=>intro Q e h a w k f r;exact k.elim
 | scope=>intro Q e h a w k f r;exact k.elim
 | refuse=>intro Q e h a w k f r;exact k.elim
def resCell (P:Program) (e:Env) (t:Tmp) (T:TypeId) (h:Heap) (K:Value→Prop):Prop :=
  match e t with
  | .pointer (some a)=>ALoad P T a h K
  | _=>False
def ARes (P:Program) (rs:List ResultVar) (e:Env) (h:Heap) (K:Value→Prop):Prop :=
  match rs with
  | []=>K (.tuple #[])
  | [.tmp t]=>force (e t) K
  | [.tmp t, .tmp u]=>force (e t) fun x=>force (e u) fun y=>K (.tuple #[x,y])
  | [.tmp t, .tmp u, .tmp v]=>force (e t) fun x=>force (e u) fun y=>force (e v) fun z=>K (.tuple #[x,y,z])
  | [.cell t T]=>resCell P e t T h K
  | [.cell t T, .tmp u]=>resCell P e t T h (fun v=>force (e u) fun y=>K (.tuple #[v,y]))
  | [.tmp u, .cell t T]=>resCell P e t T h (fun v=>force (e u) fun y=>K (.tuple #[y,v]))
  | [.tmp u, .cell t T, .tmp x]=>resCell P e t T h (fun v=>force (e u) fun y=>force (e x) fun z=>K (.tuple #[y,v,z]))
  | _=>False
theorem ARes_sound {P:Program} {fn:Func} {n:Nat} {e:Env} {a:Act} {h:Heap} {K:Value→Prop} (f:Fits n e a) (k:ARes P fn.results.toList e h K) :
  ∃ v,K v∧∀ w,Rel h w→(results fn a.tmps).run P w = .ok v w:=by
 have hr:fn.results=fn.results.toList.toArray:=rfl
 revert k hr
 generalize fn.results.toList=rs
 intro k hr
 have gd:∀ t:Tmp,a.tmps[t]?.getD undef=e t:=fun t=>by rw [← f.getD t,Array.getD_eq_getD_getElem?]
 have cell:∀ {t T} {K':Value→Prop},resCell P e t T h K'→∃ ad v,e t = .pointer (some ad)∧K' v∧∀ w,Rel h w→(loadVar T ad).run P w = .ok v w:=by
  intro t T K' q
  unfold resCell at q
  split at q
  ·rename_i ad hp
   obtain ⟨v,kv,hv⟩:=rwp_sound _ q.out
   exact ⟨ad,v,hp,kv,hv⟩
  ·exact q.elim
 unfold ARes at k
 split at k
 ·exact ⟨_,k,fun w hw=>by simp [results,hr]⟩
 ·exact ⟨_,(by simp only [force_iff] at k;exact k),fun w hw=>by simp [results,hr,gd]⟩
 ·exact ⟨_,(by simp only [force_iff] at k;exact k),fun w hw=>by simp [results,hr,gd]⟩
 ·exact ⟨_,(by simp only [force_iff] at k;exact k),fun w hw=>by simp [results,hr,gd]⟩
 ·obtain ⟨ad,v,ha,kv,hv⟩:=cell k
  exact ⟨_,kv,fun w hw=>by simp [results,hr,gd,ha,asAddr,hv w hw]⟩
 ·obtain ⟨ad,v,ha,kv,hv⟩:=cell k
  exact ⟨_,(by simp only [force_iff] at kv;exact kv),fun w hw=>by simp [results,hr,gd,ha,asAddr,hv w hw]⟩
 ·obtain ⟨ad,v,ha,kv,hv⟩:=cell k
  exact ⟨_,(by simp only [force_iff] at kv;exact kv),fun w hw=>by simp [results,hr,gd,ha,asAddr,hv w hw]⟩
 ·obtain ⟨ad,v,ha,kv,hv⟩:=cell k
  exact ⟨_,(by simp only [force_iff] at kv;exact kv),fun w hw=>by simp [results,hr,gd,ha,asAddr,hv w hw]⟩
 ·exact k.elim
def ABody (P:Program) (rs:List ResultVar) (R:Value→Heap→Prop):Post
  | .normal,e,h | .ret,e,h=>ARes P rs e h (fun v=>R v h)
  | _,_,_=>False
def env0 (args:Array Value):Env:=fun t=>args.getD t undef
theorem As {P:Program} {f:FuncId} {fn:Func} {c:Code} {args:Array Value} {h:Heap} {R:Value→Heap→Prop} (hm:P.follows .mixedOrders=true)
  (hf : P.funcs[f]? = some fn) (hb : fn.body = some c) (hnm : (fn.name == "runtime.NumGoroutine") = false) {n : Nat} (hn : fn.ntmps = n) {rs : List ResultVar} (hrs : fn.results = rs.toArray) (hsz : Nat.ble args.size n = true)
  (k:AW P n c (ABody P rs R) (env0 args) h):ACalls P f args h R:=by
 subst hn
 obtain rfl:fn.results.toList=rs:=by rw [hrs]
 have hsz:=Nat.le_of_ble_eq_true hsz
 refine ⟨⟨fn,hf,by rw [hb];rfl,hnm⟩,fun β w hr=>calls_of_wp hf hb ?_⟩
 have f0:Fits fn.ntmps (env0 args) {tmps:=args++Array.replicate (fn.ntmps-args.size) undef,defers:=[]}:=by
  refine ⟨by simp;omega,?_,?_,rfl⟩
  ·intro t ht
   simp only [env0]
   by_cases hlt:t<args.size
   ·rw [Array.getElem?_append_left hlt]
    simp [hlt]
   ·rw [Array.getElem?_append_right (by omega)]
    have:args.getD t undef=undef:=by simp [hlt]
    rw [this,Array.getElem?_replicate,if_pos (by omega)]
  ·intro t ht
   simp only [env0]
   have:¬ t<args.size:=by omega
   simp [this]
 refine wp_mono (AW_wp hm c _ _ h _ w k f0 hr) fun x a w' q=>?_
 cases x with
 | panic c=>exact q.elim
 | outgrown=>exact q.elim
 | exit id=>obtain ⟨e,h',f',r',k'⟩:=q;exact k'.elim
 | goto id=>obtain ⟨e,h',f',r',k'⟩:=q;exact k'.elim
 | normal =>
  obtain ⟨e,h',f',r',k'⟩:=q
  obtain ⟨v,kv,hv⟩:=ARes_sound (fn:=fn) (K:=fun v=>R v h') f' k'
  exact ⟨f'.defers,v,hv w' r'.rel,v,h',rfl,r',kv⟩
 | ret =>
  obtain ⟨e,h',f',r',k'⟩:=q
  obtain ⟨v,kv,hv⟩:=ARes_sound (fn:=fn) (K:=fun v=>R v h') f' k'
  exact ⟨f'.defers,v,hv w' r'.rel,v,h',rfl,r',kv⟩
end
section
section
variable {P:Program}
def scalarT (P:Program) (t:TypeId):Bool:=match P.underlying t with
  | some (.struct _) | some (.array ..) | none=>false
  | _=>true
def aggT (P:Program) (t:TypeId):Option Nat:=match P.underlying t with
  | some (.struct _) | some (.array ..)=>(P.info? t).map (·.size)
  | _=>none
abbrev row (t:Tag) (l:List Value) (E:TypeId):Tag×Obj:=(t, .cells l.toArray E (0,0))
theorem cell_row {h:Heap} {b:Nat} {t:Tag} {l:List Value} {E:TypeId} {fz:Nat×Nat} {off:Nat} {v:Value} (hb:h b=some (t, .cells l.toArray E fz)) (hv:l[off]? = some v) :
  h.cell? ⟨b,off,none⟩=some v:=by
 unfold Heap.cell?;rw [hb];simpa using hv
theorem isAgg_scalar {t:TypeId} (h:scalarT P t=true) {K:Bool→Prop} {hp:Heap} (k:K false):rwp P (isAgg t) hp K:=by
 unfold scalarT at h
 cases hu:P.underlying t with
 | none=>rw [hu] at h;cases h
 | some d =>
  rw [hu] at h
  unfold isAgg underlying
  simp only [program,bind,Sem.bind,rwp,hu]
  cases d <;> first | (simp at h;done) | exact k
theorem isAgg_agg {t:TypeId} {n:Nat} (h:aggT P t=some n) {K:Bool→Prop} {hp:Heap} (k:K true):rwp P (isAgg t) hp K:=by
 unfold aggT at h
 cases hu:P.underlying t with
 | none=>rw [hu] at h;cases h
 | some d =>
  rw [hu] at h
  unfold isAgg underlying
  simp only [program,bind,Sem.bind,rwp,hu]
  cases d <;> first | (simp at h;done) | exact k
theorem rwp_bind {α β:Type} (s:Sem α) (f:α→Sem β):∀ {h:Heap} {K:β→Prop},rwp P s h (fun a=>rwp P (f a) h K)→rwp P (s.bind f) h K:=by
 induction s with
 | pure a=>intro h K k;exact k
 | load m a k ih=>intro h K ⟨v,hv,q⟩;exact ⟨v,hv,ih v q⟩
 | shape r k ih=>intro h K ⟨t,c,e,fz,hv,q⟩;exact ⟨t,c,e,fz,hv,ih _ q⟩
 | frozen a k ih=>intro h K ⟨t,c,e,lo,hi,hv,q⟩;exact ⟨t,c,e,lo,hi,hv,ih _ q⟩
 | getObj r k ih=>intro h K ⟨t,o,hv,hc,q⟩;exact ⟨t,o,hv,hc,ih _ q⟩
 | program k ih=>intro h K q;exact ih _ q
 | mark m k ih=>intro h K q;exact ih q
 | store m a v k ih=>intro h K k;exact k.elim
 | new o k ih=>intro h K k;exact k.elim
 | freeze a n k ih=>intro h K k;exact k.elim
 | setObj r o k ih=>intro h K k;exact k.elim
 | choose q k ih=>intro h K k;exact k.elim
 | sys c k ih=>intro h K k;exact k.elim
 | halt x=>intro h K k;exact k.elim
theorem awp_bind {α β:Type} (s:Sem α) (f:α→Sem β):∀ {h:Heap} {K:β→Heap→Prop},awp P s h (fun a h'=>awp P (f a) h' K)→awp P (s.bind f) h K:=by
 induction s with
 | pure a=>intro h K k;exact k
 | load m a k ih=>intro h K ⟨v,hv,q⟩;exact ⟨v,hv,ih v q⟩
 | shape r k ih=>intro h K ⟨t,c,e,fz,hv,q⟩;exact ⟨t,c,e,fz,hv,ih _ q⟩
 | frozen a k ih=>intro h K ⟨t,c,e,lo,hi,hv,q⟩;exact ⟨t,c,e,lo,hi,hv,ih _ q⟩
 | getObj r k ih=>intro h K ⟨t,o,hv,hc,q⟩;exact ⟨t,o,hv,hc,ih _ q⟩
 | program k ih=>intro h K q;exact ih _ q
 | mark m k ih=>intro h K q;exact ih q
 | store m a v k ih=>intro h K ⟨hv,t,c,e,fz,ho,q⟩;exact ⟨hv,t,c,e,fz,ho,ih q⟩
 | new o k ih=>intro h K ⟨tag,q⟩;exact ⟨tag,fun b hb=>ih _ (q b hb)⟩
 | freeze a n k ih =>
  intro h K q
  simp only [awp,Sem.bind] at q ⊢
  split
  ·rename_i hn;rw [if_pos hn] at q;exact ih q
  ·rename_i hn;rw [if_neg hn] at q;obtain ⟨t,o,hv,q⟩:=q;exact ⟨t,o,hv,ih q⟩
 | setObj r o k ih=>intro h K ⟨t,o',hv,hc,q⟩;exact ⟨t,o',hv,hc,ih q⟩
 | choose q k ih =>
  intro h K q'
  simp only [awp,Sem.bind] at q' ⊢
  split
  ·rename_i hq;rw [if_pos hq] at q';exact ih _ q'
  ·rename_i hq;rw [if_neg hq] at q';exact fun n=>ih _ (q' n)
 | sys c k ih=>intro h K k;exact k.elim
 | halt x=>intro h K k;exact k.elim
theorem awp_mono {α:Type} (s:Sem α):∀ {h:Heap} {K K':α→Heap→Prop},(∀ a h',K a h'→K' a h')→awp P s h K→awp P s h K':=by
 induction s with
 | pure a=>intro h K K' hk k;exact hk _ _ k
 | load m a k ih=>intro h K K' hk ⟨v,hv,q⟩;exact ⟨v,hv,ih v hk q⟩
 | shape r k ih=>intro h K K' hk ⟨t,c,e,fz,hv,q⟩;exact ⟨t,c,e,fz,hv,ih _ hk q⟩
 | frozen a k ih=>intro h K K' hk ⟨t,c,e,lo,hi,hv,q⟩;exact ⟨t,c,e,lo,hi,hv,ih _ hk q⟩
 | getObj r k ih=>intro h K K' hk ⟨t,o,hv,hc,q⟩;exact ⟨t,o,hv,hc,ih _ hk q⟩
 | program k ih=>intro h K K' hk q;exact ih _ hk q
 | mark m k ih=>intro h K K' hk q;exact ih hk q
 | store m a v k ih=>intro h K K' hk ⟨hv,t,c,e,fz,ho,q⟩;exact ⟨hv,t,c,e,fz,ho,ih hk q⟩
 | new o k ih=>intro h K K' hk ⟨tag,q⟩;exact ⟨tag,fun b hb=>ih _ hk (q b hb)⟩
 | freeze a n k ih =>
  intro h K K' hk q
  simp only [awp] at q ⊢
  split
  ·rename_i hn;rw [if_pos hn] at q;exact ih hk q
  ·rename_i hn;rw [if_neg hn] at q;obtain ⟨t,o,hv,q⟩:=q;exact ⟨t,o,hv,ih hk q⟩
 | setObj r o k ih=>intro h K K' hk ⟨t,o',hv,hc,q⟩;exact ⟨t,o',hv,hc,ih hk q⟩
 | choose q k ih =>
  intro h K K' hk q'
  simp only [awp] at q' ⊢
  split
  ·rename_i hq;rw [if_pos hq] at q';exact ih _ hk q'
  ·rename_i hq;rw [if_neg hq] at q';exact fun n=>ih _ hk (q' n)
 | sys c k ih=>intro h K K' hk k;exact k.elim
 | halt x=>intro h K K' hk k;exact k.elim
theorem addr_add (b off n:Nat):(⟨b,off,none⟩:Addr).add n=⟨b,off+n,none⟩:=by
 unfold Addr.add;split
 ·rename_i hz;rw [hz];rfl
 ·rfl
theorem rwp_loadFrom {h:Heap} {b off:Nat} {K:Array Value→Prop}:∀ (vs:List Value) (i:Nat) (acc:Array Value),
  (∀ j,j<vs.length→h.cell? ⟨b,off+i+j,none⟩=vs[j]?)→K (acc++vs.toArray)→rwp P (loadCellsFrom ⟨b,off,none⟩ i vs.length acc) h K
 | [],i,acc,_,k=>by simpa [loadCellsFrom,rwp,pure] using k
 | v::vs,i,acc,hc,k=>by
  simp only [List.length_cons,loadCellsFrom]
  refine ⟨v,?_,?_⟩
  ·have:=hc 0 (by simp)
   rw [addr_add];simpa using this
  ·refine rwp_loadFrom vs (i+1) (acc.push v) (fun j hj=>?_) ?_
   ·have:=hc (j+1) (by simpa using hj)
    rw [show off+(i+1)+j=off+i+(j+1) by omega];simpa using this
   ·simpa using k
theorem Aa {t:TypeId} {h:Heap} {b off:Nat} {tg:Tag} {l:List Value} {E:TypeId} {fz:Nat×Nat} {v:Value} {K:Value→Prop}
  (hd:scalarT P t=true) (hb:h b=some (tg, .cells l.toArray E fz)) (hv:l[off]? = some v) (k:K v):ALoad P t ⟨b,off,none⟩ h K:=by
 refine ⟨?_⟩
 unfold loadVar
 refine rwp_bind _ _ (isAgg_scalar hd ?_)
 exact ⟨v,cell_row hb hv,k⟩
theorem rwp_sizeOf {t n:Nat} (h:sizeT P t=some n) {K:Nat→Prop} {hp:Heap} (k:K n):rwp P (sizeOf t) hp K:=by
 obtain ⟨i,hi,hs⟩:=size_info h
 unfold sizeOf typeInfo
 simp only [program,bind,Sem.bind,rwp,hi,pure]
 rw [hs];exact k
theorem awp_sizeOf {t n:Nat} (h:sizeT P t=some n) {K:Nat→Heap→Prop} {hp:Heap} (k:K n hp):awp P (sizeOf t) hp K:=by
 obtain ⟨i,hi,hs⟩:=size_info h
 unfold sizeOf typeInfo
 simp only [program,bind,Sem.bind,awp,hi,pure]
 rw [hs];exact k
theorem agg_size {t n:Nat} (h:aggT P t=some n):sizeT P t=some n:=by
 unfold aggT at h
 split at h <;> first | exact h | cases h
theorem Ab {t n:TypeId} {h:Heap} {b off:Nat} {tg:Tag} {l vs:List Value} {E:TypeId} {fz:Nat×Nat} {K:Value→Prop}
  (hd:aggT P t=some n) (hb:h b=some (tg, .cells l.toArray E fz)) (hv:(l.drop off).take n=vs) (hn:vs.length=n) (k:forceL vs fun vs=>K (.agg vs.toArray)):ALoad P t ⟨b,off,none⟩ h K:=by
 rw [forceL_iff] at k
 refine ⟨?_⟩
 unfold loadVar
 refine rwp_bind _ _ (isAgg_agg hd ?_)
 refine rwp_bind (sizeOf t) _ (rwp_sizeOf (agg_size hd) (rwp_bind _ _ ?_))
 subst hn
 refine rwp_loadFrom vs 0 #[] (fun j hj=>?_) (show K (.agg (#[]++vs.toArray)) from (by simpa using k))
 refine (cell_row hb ?_:h.cell? ⟨b,off+0+j,none⟩=some (vs[j])).trans (by simp [hj])
 have h1:vs[j]? = (l.drop off)[j]? := by rw [← hv,List.getElem?_take];simp [hj]
 rw [List.getElem?_drop] at h1
 rw [Nat.add_zero,← h1];simp [hj]
theorem open_row {h:Heap} {b off:Nat} {t:Tag} {l:List Value} {E:TypeId} (hb:h b=some (row t l E)) (hlt:off<l.length) :
  h.open? ⟨b,off,none⟩=some (t,l.toArray,E,(0,0)):=by
 unfold Heap.open?;rw [hb];simp [hlt]
theorem Heap.set_set (h:Heap) (b:Nat) (x y:Tag×Obj):(h.set b x).set b y=h.set b y:=by
 funext c;unfold Heap.set;split <;> rfl
theorem Heap.set_self {h:Heap} {b:Nat} {x:Tag×Obj} (e:h b=some x):h.set b x=h:=by
 funext c;unfold Heap.set;split
 ·rename_i hc;rw [hc,e]
 ·rfl
theorem awp_storeCells {b off:Nat} {t:Tag} {E:TypeId} {K:Unit→Heap→Prop}:∀ (vs:List Value) (i:Nat) (l:List Value) (h:Heap),
  h b=some (row t l E)→off+i+vs.length≤l.length→vs.all oneCell=true →
  K () (h.set b (row t (setAt l (off+i) vs) E))→awp P (storeCells ⟨b,off,none⟩ vs i) h K
 | [],i,l,h,hb,_,_,k=>by
  have:h.set b (row t l E)=h:=Heap.set_self hb
  simp only [setAt,this] at k
  exact k
 | v::vs,i,l,h,hb,hle,hone,k=>by
  simp only [List.length_cons] at hle
  simp only [List.all_cons,Bool.and_eq_true] at hone
  simp only [storeCells]
  refine awp_bind _ _ ?_
  refine ⟨hone.1,t,l.toArray,E,(0,0),?_,?_⟩
  ·rw [addr_add];exact open_row hb (by omega)
  ·rw [addr_add]
   refine awp_storeCells (t:=t) (E:=E) vs (i+1) (l.set (off+i) v) _ ?_ (by rw [List.length_set];omega) hone.2 ?_
   ·simp [Heap.set_same,row]
   ·simp only [List.setIfInBounds_toArray,Heap.set_set]
    exact k
theorem AStore.one {t:TypeId} {h:Heap} {b off:Nat} {tg:Tag} {l:List Value} {E:TypeId} {v:Value} {K:Heap→Prop}
  (hd:sizeT P t=some 1) (hc:v.cells = #[v]) (h1:oneCell v=true) (hb:h b=some (row tg l E)) (hlt:off<l.length) (k:K (h.set b (row tg (l.set off v) E))) :
  AStore P t ⟨b,off,none⟩ v h K:=by
 refine ⟨?_⟩
 unfold storeVar
 refine awp_bind _ _ (awp_sizeOf hd ?_)
 rw [hc]
 simp only [List.size_toArray,List.length_cons,List.length_nil,Nat.zero_add,ne_eq,not_true_eq_false,if_false]
 exact awp_storeCells (K:=fun _ h'=>K h') [v] 0 l h hb (by simp;omega) (by simp [h1]) k
theorem AStore.agg {t n:TypeId} {h:Heap} {b off:Nat} {tg:Tag} {l vs:List Value} {E:TypeId} {K:Heap→Prop}
  (hd:sizeT P t=some n) (hn:vs.length=n) (h1:vs.all oneCell=true) (hb:h b=some (row tg l E)) (hle:off+vs.length≤l.length) (k:K (h.set b (row tg (setAt l off vs) E))) :
  AStore P t ⟨b,off,none⟩ (.agg vs.toArray) h K:=by
 refine ⟨?_⟩
 unfold storeVar
 refine awp_bind _ _ (awp_sizeOf hd ?_)
 simp only [Value.cells,List.size_toArray,hn,ne_eq,not_true_eq_false,if_false]
 exact awp_storeCells (K:=fun _ h'=>K h') vs 0 l h hb (by simpa using hle) h1 k
theorem AStore.oneTo {t:TypeId} {h:Heap} {b off:Nat} {tg:Tag} {l:List Value} {E:TypeId} {v:Value} {K:Heap→Prop}
  (hd:sizeT P t=some 1) (hc:v.cells = #[v]) (h1:oneCell v=true) (hb:h b=some (row tg l E)) (hlt:Nat.blt off l.length=true) (l':List Value) (e:l.set off v=l') (k:K (h.set b (row tg l' E))) :
  AStore P t ⟨b,off,none⟩ v h K:=by
 subst e
 exact AStore.one hd hc h1 hb (by simpa [Nat.blt_eq] using hlt) k
theorem setAt_split:∀ (vs l:List Value) (off:Nat),off+vs.length≤l.length→setAt l off vs=l.take off++(vs++l.drop (off+vs.length))
 | [],l,off,h=>by simp [setAt]
 | v::vs,l,off,h=>by
  simp only [List.length_cons] at h
  rw [setAt,setAt_split vs (l.set off v) (off+1) (by rw [List.length_set];omega)]
  have h1:(l.set off v).take (off+1)=l.take off++[v]:=by
   rw [List.take_succ_eq_append_getElem (by rw [List.length_set];omega),List.take_set_of_le (Nat.le_refl _)]
   simp
  have h2:(l.set off v).drop (off+1+vs.length)=l.drop (off+(v::vs).length):=by
   rw [List.drop_set_of_lt (by omega),List.length_cons]
   congr 1;omega
  rw [h1,h2]
  simp
theorem AStore.aggTo {t n:TypeId} {h:Heap} {b off:Nat} {tg:Tag} {l vs:List Value} {E:TypeId} {K:Heap→Prop}
  (hd:sizeT P t=some n) (hn:vs.length=n) (h1:vs.all oneCell=true) (hb:h b=some (row tg l E)) (hle:Nat.ble (off+vs.length) l.length=true) (l':List Value) (e:l.take off++(vs++l.drop (off+vs.length))=l') (k:K (h.set b (row tg l' E))) :
  AStore P t ⟨b,off,none⟩ (.agg vs.toArray) h K:=by
 subst e
 have hle:=Nat.le_of_ble_eq_true hle
 refine AStore.agg hd hn h1 hb hle ?_
 rw [setAt_split vs l off hle]
 exact k
theorem AStore.one' {t:TypeId} {h:Heap} {b off:Nat} {tg:Tag} {l:List Value} {E:TypeId} {v:Value} {K:Heap→Prop}
  (hd:sizeT P t=some 1) (hc:v.cells = #[v]) (h1:oneCell v=true) (hb:h b=some (row tg l E)) (hlt:Nat.blt off l.length=true) (k:forceL (l.set off v) fun l=>K (h.set b (row tg l E))) :
  AStore P t ⟨b,off,none⟩ v h K:=by
 rw [forceL_iff] at k
 exact AStore.one hd hc h1 hb (by simpa [Nat.blt_eq] using hlt) k
theorem AStore.agg' {t n:TypeId} {h:Heap} {b off:Nat} {tg:Tag} {l vs:List Value} {E:TypeId} {K:Heap→Prop}
  (hd:sizeT P t=some n) (hn:vs.length=n) (h1:vs.all oneCell=true) (hb:h b=some (row tg l E)) (hle:Nat.ble (off+vs.length) l.length=true) (k:forceL (setAt l off vs) fun l=>K (h.set b (row tg l E))) :
  AStore P t ⟨b,off,none⟩ (.agg vs.toArray) h K:=by
 rw [forceL_iff] at k
 exact AStore.agg hd hn h1 hb (Nat.le_of_ble_eq_true hle) k
theorem AAlloc.mk {t:TypeId} {h:Heap} {l:List Value} {K:Value→Heap→Prop} (tg:Tag) (hz:zeroT P t=some l)
  (k:∀ b,Fresh h b→forceL l fun l=>K (.pointer (some ⟨b,0,none⟩)) (h.set b (row tg l t))):AAlloc P t h K:=by
 simp only [forceL_iff] at k
 obtain ⟨i,v,hi,hv,hl⟩:=zero_info hz
 refine ⟨?_⟩
 unfold Instr.alloc zeroValue typeInfo
 simp only [program,bind,Sem.bind,awp,hi,hv,newVar,newRow,newObj,pure]
 refine ⟨tg,fun b hb=>?_⟩
 have:=k b hb
 rw [← hl] at this
 simpa [row] using this
theorem ABox.mk {t:TypeId} {h:Heap} {l:List Value} {v:Value} {K:Value→Heap→Prop} (tg:Tag) (hv:v.cells.toList=l)
  (k:∀ b,Fresh h b→forceL l fun l=>K (.pointer (some ⟨b,0,none⟩)) (h.set b (row tg l t))):ABox P t v h K:=by
 simp only [forceL_iff] at k
 refine ⟨?_⟩
 unfold Instr.box
 simp only [bind,Sem.bind,awp,newVar,newRow,newObj,pure]
 refine ⟨tg,fun b hb=>?_⟩
 have:=k b hb
 rw [← hv] at this
 simpa [row] using this
theorem range_rep (z:List Value) (hz:z≠[]):∀ (n:Nat),((Array.range (n*z.length)).map (z.toArray[· % z.length]!))=((List.replicate n z).flatten).toArray:=by
 intro n
 apply Array.ext'
 simp only [Array.toList_map,Array.toList_range]
 have hpos:0<z.length:=List.length_pos_iff.2 hz
 induction n with
 | zero=>simp
 | succ n ih =>
  rw [Nat.succ_mul,List.range_add,List.map_append,ih,List.replicate_succ',List.flatten_append]
  congr 1
  simp only [List.map_map,List.flatten_cons,List.flatten_nil,List.append_nil]
  apply List.ext_getElem
  ·simp
  ·intro i h1 h2
   simp only [List.getElem_map,List.getElem_range,Function.comp]
   have:(n*z.length+i) % z.length=i:=by
    rw [Nat.mul_comm,Nat.mul_add_mod];exact Nat.mod_eq_of_lt h2
   rw [this]
   simp [h2]
theorem ABuildSl.mk {t E z:TypeId} {n:Nat} {ps:List (Nat×Value)} {h:Heap} {zero l:List Value} {K:Value→Heap→Prop} (tg:Tag)
  (ht:P.underlying t=some (.slice E)) (hz:sizeT P E=some z) (hn:Nat.ble (n*z) 16777216=true) (h0:Nat.beq (n*z) 0=false) (hzero:zeroT P E=some zero) (hlen:Nat.beq zero.length z=true)
  (hf:fillL (fun i=>some (i*z,z)) (List.replicate n zero).flatten ps=some l)
  (k:∀ b,Fresh h b→forceL l fun l=>K (.slice (some ⟨b,0,none⟩) n n) (h.set b (row tg l E))):ABuildSl P t n ps.toArray h K:=by
 simp only [forceL_iff] at k
 obtain ⟨i,v,hi,hv,hl⟩:=zero_info hzero
 have hn:=Nat.le_of_ble_eq_true hn
 have hlen:=Nat.eq_of_beq_eq_true hlen
 have h0:¬ n*z=0:=by intro c;rw [c] at h0;cases h0
 have hne:zero≠[]:=by intro c;subst c;simp at hlen;subst hlen;simp at h0
 refine ⟨?_⟩
 unfold Instr.buildSlice underlying
 simp only [program,bind,Sem.bind,awp,ht,pure]
 refine awp_bind _ _ (awp_sizeOf hz ?_)
 have e1:¬ n*z > 2^24:=by omega
 simp only [if_neg e1,if_neg h0,pure,Sem.bind,zeroValue,typeInfo,program,bind,hi,hv,awp]
 have hl':v.cells=zero.toArray:=by rw [← hl]
 have hls:v.cells.size=zero.length:=by rw [hl'];simp
 rw [hls,hl',← hlen,range_rep zero hne n]
 rw [← hlen] at hf
 rw [fill_eq _ ps _ l hf]
 simp only [newRow,newObj,bind,Sem.bind,awp,pure]
 exact ⟨tg,fun b hb=>k b hb⟩
theorem ALoop.mk {body:Post→Env→Heap→Prop} {Q:Post} {e:Env} {h:Heap} (I:Env→Heap→Prop) (μ:Env→Nat) (h0:I e h)
  (round:∀ e h,I e h→body (thenP (fun e' h'=>I e' h'∧μ e'<μ e) Q) e h):ALoop body Q e h:=⟨⟨I,μ,h0,round⟩⟩
theorem Ak {t:TypeId} {h:Heap} {K:Value→Heap→Prop} (tg:Tag) (l:List Value) (hz:zeroT P t=some l)
  (k:∀ (b:Nat) (h2:Heap),h b=none→Sub h h2→h2 b=some (row tg l t)→K (.pointer (some ⟨b,0,none⟩)) h2):AAlloc P t h K :=
 AAlloc.mk tg hz fun b f=>by rw [forceL_iff];exact k b _ f.none (f.sub _) (Heap.set_same _ _ _)
theorem Al {t:TypeId} {h:Heap} {v:Value} {K:Value→Heap→Prop} (tg:Tag) (l:List Value) (hv:v.cells.toList=l)
  (k:∀ (b:Nat) (h2:Heap),h b=none→Sub h h2→h2 b=some (row tg l t)→K (.pointer (some ⟨b,0,none⟩)) h2):ABox P t v h K :=
 ABox.mk tg hv fun b f=>by rw [forceL_iff];exact k b _ f.none (f.sub _) (Heap.set_same _ _ _)
theorem Ap {t E z:TypeId} {n:Nat} {ps:List (Nat×Value)} {h:Heap} {zero:List Value} {K:Value→Heap→Prop} (tg:Tag) (l:List Value)
  (ht:P.underlying t=some (.slice E)) (hz:sizeT P E=some z) (hn:Nat.ble (n*z) 16777216=true) (h0:Nat.beq (n*z) 0=false) (hzero:zeroT P E=some zero) (hlen:Nat.beq zero.length z=true)
  (hf:fillL (fun i=>some (i*z,z)) (List.replicate n zero).flatten ps=some l)
  (k:∀ (b:Nat) (h2:Heap),h b=none→Sub h h2→h2 b=some (row tg l E)→K (.slice (some ⟨b,0,none⟩) n n) h2):ABuildSl P t n ps.toArray h K :=
 ABuildSl.mk tg ht hz hn h0 hzero hlen hf fun b f=>by rw [forceL_iff];exact k b _ f.none (f.sub _) (Heap.set_same _ _ _)
theorem Af {t:TypeId} {h:Heap} {b off:Nat} {tg:Tag} {l:List Value} {E:TypeId} {v:Value} {K:Heap→Prop}
  (hd:sizeT P t=some 1) (hc:v.cells = #[v]) (h1:oneCell v=true) (hb:h b=some (row tg l E)) (hlt:Nat.blt off l.length=true) (l':List Value) (e:l.set off v=l')
  (k:∀ h2:Heap,KeepT tg h h2→h2 b=some (row tg l' E)→(∀ g,Sub g h→g b=none→Sub g h2)→(∀ c y,c≠b→h c=some y→h2 c=some y)→K h2) :
  AStore P t ⟨b,off,none⟩ v h K :=
 AStore.oneTo hd hc h1 hb hlt l' e (k _ (KeepT.set hb) (Heap.set_same _ _ _) (fun g s n=>s.set n _) (fun c y n e=>Heap.set_ne n e))
theorem Ae {t n:TypeId} {h:Heap} {b off:Nat} {tg:Tag} {l vs:List Value} {E:TypeId} {K:Heap→Prop}
  (hd:sizeT P t=some n) (hn:vs.length=n) (h1:vs.all oneCell=true) (hb:h b=some (row tg l E)) (hle:Nat.ble (off+vs.length) l.length=true) (l':List Value) (e:l.take off++(vs++l.drop (off+vs.length))=l')
  (k:∀ h2:Heap,KeepT tg h h2→h2 b=some (row tg l' E)→(∀ g,Sub g h→g b=none→Sub g h2)→(∀ c y,c≠b→h c=some y→h2 c=some y)→K h2) :
  AStore P t ⟨b,off,none⟩ (.agg vs.toArray) h K :=
 AStore.aggTo hd hn h1 hb hle l' e (k _ (KeepT.set hb) (Heap.set_same _ _ _) (fun g s n=>s.set n _) (fun c y n e=>Heap.set_ne n e))
theorem Am {n:Nat} {ops:Array Oper} {Q:Post} {e:Env} {h:Heap} (S:Heap) (D:List Nat) (hs:Sub S h) (hp:plan P ops D=true)
  (k:AText P n ops Q (Tree.ofList (List.range ops.size)) S D e h):ADrawn P n ops Q e h:=⟨⟨S,D,_,hs,hp,k⟩⟩
theorem Ao {n:Nat} {ops:Array Oper} {Q:Post} {e:Env} {h:Heap} (S:Heap) (D:List Nat) (t:Tree) (hs:Sub S h) (hp:planT P ops D t=true)
  (k:AText P n ops Q t S D e h):ADrawn P n ops Q e h:=⟨⟨S,D,t,hs,hp,k⟩⟩
theorem An {n:Nat} {ops:Array Oper} {Q:Post} {e:Env} {h:Heap} (S:Heap) (D ord:List Nat) (hs:Sub S h) (hp:planO P ops D ord=true)
  (k:AText P n ops Q (Tree.ofList ord) S D e h):ADrawn P n ops Q e h:=⟨⟨S,D,_,hs,hp,k⟩⟩
end
end
section
structure Sl (h:Heap) (t:Tag) (a:Option Addr) (n cap z:Nat) (cs:List Value):Prop where
  len:cs.length=n*z
  le:n≤cap
  at_:n=0∨∃ b off,∃ l:List Value,∃ E fz,a=some ⟨b,off,none⟩∧h b=some (t, .cells l.toArray E fz)∧(l.drop off).take (n*z)=cs
theorem Sl.pos {h:Heap} {t:Tag} {a:Option Addr} {n cap z:Nat} {cs:List Value} (s:Sl h t a n cap z cs) (hn:0<n) :
  ∃ b off,∃ l:List Value,∃ E fz,a=some ⟨b,off,none⟩∧h b=some (t, .cells l.toArray E fz)∧(l.drop off).take (n*z)=cs :=
 s.at_.resolve_left (by omega)
theorem Sl.nil (h:Heap) (t:Tag) (a:Option Addr) (cap z:Nat):Sl h t a 0 cap z []:=⟨by simp,Nat.zero_le _, .inl rfl⟩
theorem Sl.move {h h':Heap} {t:Tag} {a:Option Addr} {n cap z:Nat} {cs:List Value} (s:Sl h t a n cap z cs)
  (k:∀ b x,h b=some (t,x)→h' b=some (t,x)):Sl h' t a n cap z cs :=
 ⟨s.len,s.le,s.at_.imp id fun ⟨b,off,l,E,fz,e,hb,hc⟩=>⟨b,off,l,E,fz,e,k _ _ hb,hc⟩⟩
theorem Sl.sub {h h':Heap} {t:Tag} {a:Option Addr} {n cap z:Nat} {cs:List Value} (s:Sl h t a n cap z cs) (k:Sub h h'):Sl h' t a n cap z cs:=s.move fun _ _ e=>k _ _ e
theorem Sl.keep {h h':Heap} {t:Tag} {o:Nat} {a:Option Addr} {n cap z:Nat} {cs:List Value} (s:Sl h t a n cap z cs) (k:Keep o h h') (ho:t.1≠o):Sl h' t a n cap z cs:=s.move fun _ _ e=>k _ _ _ ho e
theorem Sl.keepT {h h':Heap} {t u:Tag} {a:Option Addr} {n cap z:Nat} {cs:List Value} (s:Sl h t a n cap z cs) (k:KeepT u h h') (ho:t≠u):Sl h' t a n cap z cs:=s.move fun _ _ e=>k _ _ _ ho e
theorem get_of_take {l cs:List Value} {off m j:Nat} (h:(l.drop off).take m=cs) (hj:j<m):l[off+j]? = cs[j]? := by
 rw [← h,List.getElem?_take,if_pos hj,List.getElem?_drop]
theorem part_of_take {l cs:List Value} {off m i z:Nat} (h:(l.drop off).take m=cs) (hi:i+z≤m):(l.drop (off+i)).take z=(cs.drop i).take z:=by
 rw [← h,List.drop_take,List.drop_drop,List.take_take,Nat.min_eq_left (by omega)]
section
variable {P:Program}
theorem AIdx.int {t E z n b off:Nat} {i:Int} {K:Value→Prop} (h0:0≤i) (h1:i<n) (hu:P.underlying t=some (.slice E)) (hz:sizeT P E=some z)
  (k:K (.pointer (some ⟨b,off+i.toNat*z,none⟩))):AIdx P t (some ⟨b,off,none⟩) n i K :=
 ⟨⟨⟨h0,h1⟩,b,off,E,z,rfl,hu,hz,k⟩⟩
theorem Ai {t E z n b off j:Nat} {i:Int} {K:Value→Prop} (hi:i=(j:Int)) (h1:j<n) (hu:P.underlying t=some (.slice E)) (hz:sizeT P E=some z)
  (k:K (.pointer (some ⟨b,off+j*z,none⟩))):AIdx P t (some ⟨b,off,none⟩) n i K:=by
 subst hi
 exact AIdx.int (Int.natCast_nonneg _) (by omega) hu hz (by rw [Int.toNat_natCast];exact k)
theorem Aj {t E z n b off j:Nat} {i:Int} {K:Value→Prop} (hi:i=(j:Int)) (h1:j<n) (hu:P.underlying t=some (.array n E)) (hz:sizeT P E=some z)
  (k:K (.pointer (some ⟨b,off+j*z,none⟩))):AIdxA P t b off i K:=by
 subst hi
 exact ⟨⟨n,E,z,hu,hz,⟨Int.natCast_nonneg _,by omega⟩,by rw [Int.toNat_natCast];exact k⟩⟩
theorem AIdxV.one {t E n j:Nat} {cs:List Value} {v:Value} {kd:IntKind} {i:Int} {K:Value→Prop} (hi:i=(j:Int)) (h1:j<n) (hu:P.underlying t=some (.array n E)) (hz:sizeT P E=some 1) (hs:scalarT P E=true)
  (hv:cs[j]? = some v) (k:K v):AIdxV P t cs.toArray kd i K:=by
 subst hi
 refine ⟨⟨v,k,fun w=>?_⟩⟩
 have hg:∃ d,P.underlying E=some d∧(match d with | .struct _ | .array _ _=>true | _=>false)=false:=by
  unfold scalarT at hs
  cases hd:P.underlying E with
  | none=>rw [hd] at hs;simp at hs
  | some d=>rw [hd] at hs;exact ⟨d,rfl,by cases d <;> simp_all⟩
 obtain ⟨d,hd,hd2⟩:=hg
 have h0:(0:Int)≤(j:Int):=Int.natCast_nonneg _
 have h2:(j:Int)<(n:Int):=by omega
 have hg2:(isAgg E).run P w = .ok false w:=by rw [isAgg_run hd,← hd2];cases d <;> rfl
 simp only [Instr.index,asIntOf,underlying,Sem.run_bind,run_program,Result.andThen_ok,hu,Sem.run_pure,h0,h2,and_self,if_true,info_size hz,part,hg2,Int.toNat_natCast,Nat.mul_one]
 simp [hv]
def slBase (a:Option Addr) (l m z:Nat):Option Addr:=if m=l then a else a.map (·.add (l*z))
theorem slBase_zero (a:Option Addr) (m z:Nat):slBase a 0 m z=a:=by
 unfold slBase;split
 ·rfl
 ·cases a with
  | none=>rfl
  | some a=>simp [Addr.add]
theorem ASlc.from {t E z n cap l:Nat} {a:Option Addr} {i:Int} {k:IntKind} {K:Value→Prop} (hi:i=(l:Int)) (h1:l≤n) (h2:n≤cap) (hu:P.underlying t=some (.slice E)) (hz:sizeT P E=some z)
  (c:K (.slice (slBase a l cap z) (n-l) (cap-l))):ASlc P t a n cap (some (.int k i)) none none K:=by
 subst hi
 exact ⟨⟨l,n,cap, .inr ⟨k,rfl⟩, .inl ⟨rfl,rfl,rfl⟩, .inl ⟨rfl,rfl⟩,h1,h2,Nat.le_refl _,E,z,hu,hz,c⟩⟩
theorem ASlc.upto {t E z n cap m:Nat} {a:Option Addr} {i:Int} {k:IntKind} {K:Value→Prop} (hi:i=(m:Int)) (h1:m≤cap) (hu:P.underlying t=some (.slice E)) (hz:sizeT P E=some z)
  (c:K (.slice a m cap)):ASlc P t a n cap none (some (.int k i)) none K:=by
 subst hi
 refine ⟨⟨0,m,cap, .inl ⟨rfl,rfl⟩, .inr ⟨k,rfl⟩, .inl ⟨rfl,rfl⟩,Nat.zero_le _,h1,Nat.le_refl _,E,z,hu,hz,?_⟩⟩
 have:=slBase_zero a cap z
 unfold slBase at this
 rw [this]
 exact c
theorem ASlc.full {t E z n cap l m x:Nat} {a:Option Addr} {i j y:Int} {k k' k'':IntKind} {K:Value→Prop} (hi:i=(l:Int)) (hj:j=(m:Int)) (hy:y=(x:Int)) (h0:l≤m) (h1:m≤x) (h2:x≤cap)
  (hu:P.underlying t=some (.slice E)) (hz:sizeT P E=some z)
  (c:K (.slice (slBase a l x z) (m-l) (x-l))):ASlc P t a n cap (some (.int k i)) (some (.int k' j)) (some (.int k'' y)) K:=by
 subst hi;subst hj;subst hy
 exact ⟨⟨l,m,x, .inr ⟨k,rfl⟩, .inr ⟨k',rfl⟩, .inr ⟨k'',rfl⟩,h0,h1,h2,E,z,hu,hz,c⟩⟩
theorem Sl.slice {h:Heap} {t:Tag} {a:Option Addr} {n cap z:Nat} {cs:List Value} (s:Sl h t a n cap z cs) {l m x:Nat} (h0:l≤m) (h1:m≤n) (h2:m≤x) :
  Sl h t (slBase a l x z) (m-l) (x-l) z ((cs.drop (l*z)).take ((m-l)*z)):=by
 refine ⟨?_,by omega,?_⟩
 ·rw [List.length_take,List.length_drop,s.len,← Nat.sub_mul]
  exact Nat.min_eq_left (Nat.mul_le_mul_right _ (by omega))
 ·by_cases hlm:m=l
  ·left;omega
  ·right
   obtain ⟨b,off,lst,E,fz,rfl,hb,hc⟩:=s.pos (by omega)
   refine ⟨b,off+l*z,lst,E,fz,?_,hb,?_⟩
   ·unfold slBase;rw [if_neg (by omega)];simp [addr_add]
   ·refine part_of_take hc ?_
    rw [← Nat.add_mul]
    exact Nat.mul_le_mul_right _ (by omega)
def Own (h:Heap) (t:Tag) (E:TypeId) (a:Option Addr) (n cap z:Nat) (cs:List Value):Prop :=
  (n=0∧cap=0∧cs=[])∨∃ b,∃ l:List Value,a=some ⟨b,0,none⟩∧h b=some (row t l E)∧cap*z≤l.length∧n≤cap∧l.take (n*z)=cs
theorem Own.sl {h:Heap} {t:Tag} {E:TypeId} {a:Option Addr} {n cap z:Nat} {cs:List Value} (o:Own h t E a n cap z cs):Sl h t a n cap z cs:=by
 rcases o with ⟨rfl,rfl,rfl⟩ | ⟨b,l,rfl,hb,hl,hn,hc⟩
 ·exact Sl.nil ..
 ·refine ⟨?_,hn, .inr ⟨b,0,l,E,(0,0),rfl,hb,by simpa using hc⟩⟩
  rw [← hc,List.length_take]
  exact Nat.min_eq_left (Nat.le_trans (Nat.mul_le_mul_right _ hn) hl)
theorem Own.move {h h':Heap} {t:Tag} {E:TypeId} {a:Option Addr} {n cap z:Nat} {cs:List Value} (s:Own h t E a n cap z cs)
  (k:∀ b x,h b=some (t,x)→h' b=some (t,x)):Own h' t E a n cap z cs :=
 s.imp id fun ⟨b,l,e,hb,r⟩=>⟨b,l,e,k _ _ hb,r⟩
theorem Own.keepT {h h':Heap} {t u:Tag} {E:TypeId} {a:Option Addr} {n cap z:Nat} {cs:List Value} (s:Own h t E a n cap z cs) (k:KeepT u h h') (ho:t≠u):Own h' t E a n cap z cs:=s.move fun _ _ e=>k _ _ _ ho e
theorem awp_lenOf {a:Option Addr} {n cap:Nat} {h:Heap} {K:Nat→Heap→Prop} (k:K n h):awp P (Builtin.lenOf (.slice a n cap)) h K:=k
theorem awp_loadFrom {h:Heap} {b off:Nat} {K:Array Value→Heap→Prop}:∀ (vs:List Value) (i:Nat) (acc:Array Value),
  (∀ j,j<vs.length→h.cell? ⟨b,off+i+j,none⟩=vs[j]?)→K (acc++vs.toArray) h→awp P (loadCellsFrom ⟨b,off,none⟩ i vs.length acc) h K
 | [],i,acc,_,k=>by
  have:acc++([]:List Value).toArray=acc:=by simp
  rw [this] at k;exact k
 | v::vs,i,acc,hc,k=>by
  simp only [List.length_cons,loadCellsFrom]
  refine ⟨v,?_,?_⟩
  ·have:=hc 0 (by simp)
   rw [addr_add];simpa using this
  ·refine awp_loadFrom vs (i+1) (acc.push v) (fun j hj=>?_) ?_
   ·have:=hc (j+1) (by simpa using hj)
    rw [show off+(i+1)+j=off+i+(j+1) by omega];simpa using this
   ·simpa using k
theorem awp_firstCells {h:Heap} {t:Tag} {a:Option Addr} {n cap z:Nat} {cs:List Value} {K:Array Value→Heap→Prop} (s:Sl h t a n cap z cs) (k:K cs.toArray h) :
  awp P (Builtin.firstCells z n (.slice a n cap)) h K:=by
 rcases Nat.eq_zero_or_pos n with hn | hn
 ·subst hn
  have:cs=[]:=List.eq_nil_of_length_eq_zero (by rw [s.len];simp)
  subst this
  cases a with
  | none=>exact k
  | some a=>simp only [Builtin.firstCells,loadCells,Nat.zero_mul,loadCellsFrom];exact k
 ·obtain ⟨b,off,l,E,fz,rfl,hb,hc⟩:=s.pos hn
  simp only [Builtin.firstCells,loadCells]
  rw [← s.len]
  refine awp_loadFrom cs 0 #[] (fun j hj=>?_) (by simpa using k)
  have hj':j<n*z:=by rw [← s.len];exact hj
  have:=get_of_take hc hj'
  unfold Heap.cell?
  rw [hb,Nat.add_zero]
  simp only [Option.isSome_none,Bool.false_eq_true,if_false,List.getElem?_toArray]
  exact this
theorem zeroCells_rep {z:List Value} (hz:z≠[]) (n:Nat):Builtin.zeroCells z.toArray n=(List.replicate n z).flatten.toArray:=by
 have:=range_rep z hz n
 simp only [Builtin.zeroCells,List.size_toArray]
 exact this
theorem awp_askRoom {n:Nat} {h:Heap} {K:Unit→Heap→Prop} (k:K () h):awp P (askRoom n) h K:=by
 unfold askRoom;split <;> exact k
def bytesT (P:Program) (t:TypeId):Option Nat:=(P.info? t).map (·.bytes)
theorem ABuildSl.empty {t E:TypeId} {z:Nat} {h:Heap} {K:Value→Heap→Prop} (tg:Tag)
  (ht:P.underlying t=some (.slice E)) (hz:sizeT P E=some z) (k:∀ b,Fresh h b→K (.slice (some ⟨b,0,none⟩) 0 0) (h.set b (row tg [] E))):ABuildSl P t 0 #[] h K:=by
 refine ⟨?_⟩
 unfold Instr.buildSlice underlying
 simp only [program,bind,Sem.bind,awp,ht,pure]
 refine awp_bind _ _ (awp_sizeOf hz ?_)
 simp only [Nat.zero_mul,Nat.not_lt_zero,gt_iff_lt,if_false,if_true,pure,Sem.bind]
 have e0:Instr.fill (fun i=>some (i*z,z)) ((Array.range 0).map ((#[]:Array Value)[· % (#[]:Array Value).size]!)) ([]:List (Nat×Value))=some #[]:=by
  unfold Instr.fill;congr 1;apply Array.ext';simp
 have e1:(Array.range 0).map ((#[]:Array Value)[· % (#[]:Array Value).size]!)=(([]:List Value)).toArray:=by apply Array.ext';simp
 simp only [newRow,newObj,bind,Sem.bind,awp,pure]
 refine ⟨tg,fun b hb=>?_⟩
 rw [e1]
 exact k b hb
theorem AAppend.own {ts0 ts1 E z by_ tt:Nat} {a xa:Option Addr} {n cap m xc:Nat} {cs xs zero:List Value} {h:Heap} {t tx:Tag} {K:Value→Heap→Prop}
  (hu:P.underlying ts0=some (.slice E)) (hu1:∃ E',P.underlying ts1=some (.slice E')) (hz:sizeT P E=some z) (hby:bytesT P E=some by_) (hzero:zeroT P E=some zero) (hzl:zero.length=z) (hzp:0<z)
  (o:Own h t E a n cap z cs) (x:Sl h tx xa m xc z xs) (hone:xs.all oneCell=true) (hroom:(n+m)*by_≤2^47)
  (hmax:n+m≤9223372036854775807)
  (k:∀ a' cap' h',Own h' t E a' (n+m) cap' z (cs++xs)→KeepT t h h'→(cap=0→Sub h h')→K (.slice a' (n+m) cap') h') :
  AAppend P #[ts0,ts1] tt #[.slice a n cap, .slice xa m xc] h K:=by
 obtain ⟨E',hu1⟩:=hu1
 obtain ⟨i,hi,hsz⟩:=size_info hz
 have hby':i.bytes=by_:=by unfold bytesT at hby;rw [hi] at hby;simpa using hby
 obtain ⟨i',zv,hi',hzv,hzl'⟩:=zero_info hzero
 have hii:i'=i:=by rw [hi] at hi';cases hi';rfl
 subst hii
 refine ⟨?_⟩
 unfold Builtin.append_
 simp only [List.getElem?_toArray,List.getElem?_cons_zero,List.getElem?_cons_succ,underlying,program,bind,Sem.bind,awp,hu,hu1,pure]
 refine awp_bind _ _ (awp_sizeOf hz ?_)
 simp only [awp,hu1,Sem.bind,Bool.false_eq_true,if_false,Bool.not_false,if_true]
 refine awp_bind _ _ (awp_lenOf ?_)
 have hown:=o
 have hsl:=o.sl
 by_cases hcap:n+m≤cap
 ·rw [if_pos hcap]
  refine awp_bind _ _ (awp_firstCells x ?_)
  rcases o with ⟨rfl,rfl,rfl⟩ | ⟨b,l,rfl,hb,hl,hn,hc⟩
  ·obtain rfl:m=0:=by omega
   have:xs=[]:=List.eq_nil_of_length_eq_zero (by rw [x.len];simp)
   subst this
   have hk:=k a 0 h (.inl ⟨rfl,rfl,rfl⟩) (KeepT.refl _ _) (fun _=>Sub.refl _)
   cases a with
   | none=>exact hk
   | some a=>simp only [storeCells,pure,Sem.bind,awp];exact hk
  ·simp only []
   rw [addr_add]
   refine awp_bind _ _ (awp_storeCells (t:=t) (E:=E) xs 0 l h hb ?_ hone ?_)
   ·refine Nat.le_trans ?_ hl;rw [x.len,Nat.zero_add,Nat.add_zero,← Nat.add_mul];exact Nat.mul_le_mul_right _ hcap
   ·simp only [awp,Nat.zero_add,Nat.add_zero]
    refine k _ _ _ (.inr ⟨b,_,rfl,Heap.set_same _ _ _,?_,hcap,?_⟩) (KeepT.set hb) (fun hc0=>?_)
    ·rw [setAt_length];exact hl
    rotate_left
    ·have:xs=[]:=List.eq_nil_of_length_eq_zero (by rw [x.len,show m=0 by omega];simp)
     subst this
     rw [setAt,Heap.set_self hb]
     exact Sub.refl _
    ·have hsplit:∀ (vs l:List Value) (off:Nat),off+vs.length≤l.length→(setAt l off vs).take (off+vs.length)=l.take off++vs:=by
      intro vs
      induction vs with
      | nil=>intro l off _;simp [setAt]
      | cons v vs ih =>
       intro l off hle
       simp only [List.length_cons] at hle
       rw [setAt,List.length_cons,show off+(vs.length+1)=off+1+vs.length by omega,ih _ _ (by rw [List.length_set];omega)]
       have hlt:off<l.length:=by omega
       rw [List.take_succ_eq_append_getElem (by simpa using hlt),List.getElem_set_self,List.take_set_of_le (Nat.le_refl _)]
       simp
     have:=hsplit xs l (n*z) (by refine Nat.le_trans ?_ hl;rw [x.len,← Nat.add_mul];exact Nat.mul_le_mul_right _ hcap)
     rw [x.len,← Nat.add_mul] at this
     rw [this,hc]
 ·rw [if_neg hcap]
  have hlt:cap<n+m:=by omega
  have e1:¬ (((n+m:Nat):Int) > IntKind.i64.max∧(False∨i'.bytes=0)):=by
   intro c
   have:(IntKind.i64.max:Int)=9223372036854775807:=by decide
   rw [this] at c;omega
  have hnx:=nextslicecap_le hlt
  have e2:¬ (Builtin.nextslicecap (n+m) cap*i'.bytes > 2^48):=by
   rw [hby']
   have:Builtin.nextslicecap (n+m) cap*by_≤2*(n+m)*by_:=Nat.mul_le_mul_right _ hnx
   have h3:2*(n+m)*by_≤2*2^47:=by rw [Nat.mul_assoc];exact Nat.mul_le_mul_left _ hroom
   omega
  simp only [typeInfo,program,bind,Sem.bind,awp,hi,pure,Bool.false_eq_true]
  rw [if_neg e1]
  simp only [Sem.bind,awp,hi]
  rw [if_neg e2]
  simp only [Sem.bind,awp,hi,choose,Question.forced,Bool.false_eq_true,if_false,Question.cut]
  intro tk
  have hge:n+m≤n+m+tk % (2^63-(n+m)):=Nat.le_add_right _ _
  refine awp_bind _ _ (awp_askRoom ?_)
  refine awp_bind _ _ (awp_firstCells hsl ?_)
  refine awp_bind _ _ (awp_firstCells x ?_)
  simp only [zeroValue,typeInfo,program,bind,Sem.bind,awp,hi,hzv,pure,newRow,newObj]
  refine ⟨t,fun b hb=>?_⟩
  have hzne:zero≠[]:=by intro c;subst c;simp at hzl;omega
  have hzc:zv.cells=zero.toArray:=by rw [← hzl']
  have hcells:cs.toArray++xs.toArray++Builtin.zeroCells zv.cells (n+m+tk % (2^63-(n+m))-(n+m))=(cs++xs++(List.replicate (n+m+tk % (2^63-(n+m))-(n+m)) zero).flatten).toArray:=by
   rw [hzc,zeroCells_rep hzne];simp
  rw [hcells]
  refine k _ _ _ (.inr ⟨b,_,rfl,Heap.set_same _ _ _,?_,hge,?_⟩) ?_ (fun _=>hb.sub _)
  ·refine Nat.le_of_eq (Eq.symm ?_)
   simp only [List.length_append,List.length_flatten,List.map_replicate,List.sum_replicate_nat,hzl,hsl.len,x.len]
   rw [← Nat.add_mul,← Nat.add_mul];congr 1;omega
  ·have hlen:(cs++xs).length=(n+m)*z:=by rw [List.length_append,hsl.len,x.len,Nat.add_mul]
   rw [← hlen,List.take_left']
   rfl
  ·intro c u y hu' hc'
   exact Heap.set_ne (hb.ne hc') hc'
theorem setAt_take:∀ (vs l:List Value) (off:Nat),off+vs.length≤l.length→(setAt l off vs).take off=l.take off
 | [],l,off,_=>rfl
 | v::vs,l,off,h=>by
  simp only [List.length_cons] at h
  rw [setAt]
  have:=setAt_take vs (l.set off v) (off+1) (by rw [List.length_set];omega)
  have h2:=congrArg (List.take off) this
  rw [List.take_take,List.take_take,Nat.min_eq_left (by omega),List.take_set_of_le (Nat.le_refl _)] at h2
  exact h2
theorem AClear.own {ts0 E z tt:Nat} {a:Option Addr} {n cap i:Nat} {cs zero:List Value} {h:Heap} {t:Tag} {K:Value→Heap→Prop}
  (hu:P.underlying ts0=some (.slice E)) (hzero:zeroT P E=some zero) (hzl:zero.length=z) (hzp:0<z) (hone:zero.all oneCell=true)
  (o:Own h t E a n cap z cs) (hi:i≤n)
  (k:∀ h',Own h' t E a i cap z (cs.take (i*z))→KeepT t h h'→K (.tuple #[]) h') :
  AClear P #[ts0] tt #[.slice (slBase a i cap z) (n-i) (cap-i)] h K:=by
 obtain ⟨inf,zv,hi',hzv,hzl'⟩:=zero_info hzero
 refine ⟨?_⟩
 unfold Builtin.clear_
 simp only [List.getElem?_toArray,List.getElem?_cons_zero,underlying,program,bind,Sem.bind,awp,hu,pure]
 rcases o with ⟨rfl,rfl,rfl⟩ | ⟨b,l,rfl,hb,hl,hn,hc⟩
 ·obtain rfl:i=0:=by omega
  have hk:=k h (.inl ⟨rfl,rfl,by simp⟩) (KeepT.refl _ _)
  rw [slBase_zero]
  cases a with
  | none=>exact hk
  | some a=>exact hk
 ·by_cases hin:n=i
  ·subst hin
   have hk:=k h (.inr ⟨b,l,rfl,hb,hl,hn,by rw [hc,List.take_of_length_le];rw [← hc,List.length_take];omega⟩) (KeepT.refl _ _)
   rw [Nat.sub_self]
   unfold slBase
   by_cases hc0:cap=n
   ·rw [if_pos hc0];exact hk
   ·rw [if_neg hc0];exact hk
  ·have hlt:i<n:=by omega
   have hbase:slBase (some ⟨b,0,none⟩) i cap z=some ⟨b,0+i*z,none⟩:=by
    unfold slBase;rw [if_neg (by omega)];simp [addr_add]
   rw [hbase]
   obtain ⟨d,hd⟩:∃ d,n-i=d+1:=⟨n-i-1,by omega⟩
   rw [hd]
   simp only [zeroValue,typeInfo,program,bind,Sem.bind,awp,hi',hzv,pure]
   have hzne:zero≠[]:=by intro c;subst c;simp at hzl;omega
   have hzc:zv.cells=zero.toArray:=by rw [← hzl']
   rw [hzc,zeroCells_rep hzne]
   have hzlen:((List.replicate (d+1) zero).flatten).length=(n-i)*z:=by
    simp only [List.length_flatten,List.map_replicate,List.sum_replicate_nat,hzl,hd]
   have hle:i*z+(n-i)*z≤l.length:=by
    refine Nat.le_trans ?_ hl;rw [← Nat.add_mul];exact Nat.mul_le_mul_right _ (by omega)
   refine awp_bind _ _ (awp_storeCells (t:=t) (E:=E) _ 0 l h hb ?_ ?_ ?_)
   ·simp only [hzlen];omega
   ·rw [List.all_eq_true]
    intro x hx
    rw [List.mem_flatten] at hx
    obtain ⟨y,hy,hxy⟩:=hx
    rw [List.mem_replicate] at hy
    rw [hy.2] at hxy
    exact List.all_eq_true.1 hone x hxy
   ·simp only [awp,Nat.zero_add,Nat.add_zero]
    refine k _ (.inr ⟨b,_,rfl,Heap.set_same _ _ _,?_,by omega,?_⟩) (KeepT.set hb)
    ·rw [setAt_length];exact hl
    ·have h1:=setAt_take ((List.replicate (d+1) zero).flatten) l (i*z) (by rw [hzlen];exact hle)
     refine h1.trans ?_
     rw [← hc,List.take_take,Nat.min_eq_left (Nat.mul_le_mul_right _ hi)]
theorem AMakeSl.mk {ts0 E z by_ n:Nat} {i j:Int} {k1 k2:IntKind} {zero:List Value} {h:Heap} {K:Value→Heap→Prop} (tg:Tag)
  (hu:P.underlying ts0=some (.slice E)) (hz:sizeT P E=some z) (hby:bytesT P E=some by_) (hzero:zeroT P E=some zero) (hzl:zero.length=z) (hzp:0<z)
  (hi:i=(n:Int)) (hj:j=(n:Int)) (hroom:n*by_≤2^47) (hmax:n≤9223372036854775807)
  (k:∀ b,Fresh h b→K (.slice (some ⟨b,0,none⟩) n n) (h.set b (row tg (List.replicate n zero).flatten E))) :
  AMakeSl P ts0 (.int k1 i) (.int k2 j) h K:=by
 subst hi;subst hj
 obtain ⟨inf,hin,hsz⟩:=size_info hz
 have hby':inf.bytes=by_:=by unfold bytesT at hby;rw [hin] at hby;simpa using hby
 obtain ⟨inf',zv,hi',hzv,hzl'⟩:=zero_info hzero
 have hii:inf'=inf:=by rw [hin] at hi';cases hi';rfl
 subst hii
 have hw:IntKind.i64.wrap (n:Int)=n:=i64_wrap (by omega) (by omega)
 have hzne:zero≠[]:=by intro c;subst c;simp at hzl;omega
 have hzc:zv.cells=zero.toArray:=by rw [← hzl']
 refine ⟨?_⟩
 unfold Instr.makeSlice
 simp only [underlying,program,bind,Sem.bind,awp,hu,pure,asInt,asIntOf,typeInfo,hin,hw]
 have hb1:¬ ((((by_:Int)*n > 2^48))):=by
  have h2:((n*by_:Nat):Int)≤((2^47:Nat):Int):=Int.ofNat_le.2 hroom
  rw [Int.natCast_mul,Int.mul_comm] at h2
  have h3:((2^47:Nat):Int)=140737488355328:=by decide
  have h4:((2:Int)^48)=281474976710656:=by decide
  rw [h4];rw [h3] at h2;omega
 have hfalse:((decide ((n:Int)<0) || decide ((inf'.bytes:Int)*n > 2^48))=true∨(n:Int)<0)=False:=by
  rw [hby']
  simp only [Bool.or_eq_true,decide_eq_true_eq]
  apply eq_false
  rintro ((c | c) | c)
  ·omega
  ·exact hb1 c
  ·omega
 have hcond:((decide ((n:Int)<0) || decide ((inf'.bytes:Int)*n > 2^48)) || decide ((n:Int)<0) || decide ((n:Int) > n))=false:=by
  rw [hby']
  have a1:decide ((n:Int)<0)=false:=decide_eq_false (by omega)
  have a2:decide ((by_:Int)*n > 2^48)=false:=decide_eq_false hb1
  have a3:decide ((n:Int) > n)=false:=decide_eq_false (by omega)
  rw [a1,a2,a3];rfl
 simp only [hcond,Bool.false_eq_true,if_false,Sem.bind]
 refine awp_bind _ _ (awp_askRoom ?_)
 refine awp_bind _ _ (awp_sizeOf hz ?_)
 simp only [Int.toNat_natCast]
 by_cases hn0:n*z=0
 ·have hn:n=0:=by
   rcases Nat.mul_eq_zero.1 hn0 with h | h
   ·exact h
   ·omega
  subst hn
  simp only [hn0,if_true,pure,Sem.bind,newRow,newObj,bind,awp]
  refine ⟨tg,fun b hb=>?_⟩
  have:=k b hb
  have he:(Array.range 0).map ((#[]:Array Value)[· % (#[]:Array Value).size]!)=((List.replicate 0 zero).flatten).toArray:=by apply Array.ext';simp
  rw [he]
  exact this
 ·simp only [hn0,if_false,zeroValue,typeInfo,program,pure,Sem.bind,newRow,newObj,bind,awp,hin,hzv]
  refine ⟨tg,fun b hb=>?_⟩
  have:=k b hb
  have hls:zv.cells.size=zero.length:=by rw [hzc];simp
  rw [hls,hzc,← hzl,range_rep zero hzne n]
  exact this
end
theorem upd_self (n:Nat) (e:Env) (t:Nat):upd n e t (e t)=e:=by
 funext s
 unfold upd
 cases Nat.blt t n with
 | false=>rfl
 | true =>
  simp only [cond_true]
  cases hs:Nat.beq s t with
  | false=>rfl
  | true=>rw [Nat.eq_of_beq_eq_true hs];rfl
def updL (n:Nat) (e:Env):List (Nat×Value)→Env
  | []=>e
  | (t,v)::r=>upd n (updL n e r) t v
def holdsL (e:Env):List (Nat×Value)→Prop
  | []=>True
  | (t,v)::r=>e t=v∧holdsL e r
theorem Au {n:Nat} {e:Env}:∀ {l:List (Nat×Value)},holdsL e l→e=updL n e l
 | [],_=>rfl
 | (t,v)::r,⟨h,hr⟩=>by
  have:=Au (n:=n) hr
  subst h
  rw [updL,← this,upd_self]
def natOf:Value→Nat
  | .int _ n=>n.toNat
  | _=>0
end
section
open Go.MapKept
structure MapAt (h:Heap) (r:Nat) (tg:Tag) (d:TypeDesc) (es:List MapEntry) (clock:Nat):Prop where
  at_:h r=some (tg, .map es.toArray clock)
  keys:∀ x∈es,IsKey d x.key
  st:Stamped es.toArray clock
theorem MapAt.nodup {h:Heap} {r:Nat} {tg:Tag} {d:TypeDesc} {es:List MapEntry} {clock:Nat} (m:MapAt h r tg d es clock):(es.map (·.key)).Nodup:=by
 have:=m.st.2.2;simpa using this
theorem MapAt.move {h h':Heap} {r:Nat} {tg:Tag} {d:TypeDesc} {es:List MapEntry} {clock:Nat} (m:MapAt h r tg d es clock) (k:∀ x,h r=some (tg,x)→h' r=some (tg,x)):MapAt h' r tg d es clock :=
 ⟨k _ m.at_,m.keys,m.st⟩
theorem MapAt.empty {h:Heap} {r:Nat} {tg:Tag} {d:TypeDesc} (e:h r=some (tg, .map #[] 0)):MapAt h r tg d [] 0:=⟨e,by simp,stamped_empty 0⟩
abbrev kv (e:MapEntry):Value×Value:=(e.key,e.val)
section
variable {P:Program}
theorem rwp_underlying {t:TypeId} {d:TypeDesc} (hu:P.underlying t=some d) {K:TypeDesc→Prop} {h:Heap} (k:K d):rwp P (underlying t) h K:=by
 unfold underlying
 simp only [program,bind,Sem.bind,rwp,hu,pure]
 exact k
theorem rwp_getObj {r:Nat} {tg:Tag} {es:Array MapEntry} {clock:Nat} {h:Heap} {K:Obj→Prop} (hr:h r=some (tg, .map es clock)) (k:K (.map es clock)):rwp P (getObj r) h K :=
 ⟨tg,_,hr,rfl,k⟩
theorem rwp_checkKey {kt:TypeId} {d:TypeDesc} {k:Value} (hd:P.underlying kt=some d) (hk:IsKey d k) (e:Bool) (n:Nat) {h:Heap} {K:Unit→Prop} (c:K ()):rwp P (Instr.checkKey e (n+1) kt k) h K:=by
 unfold Instr.checkKey
 refine rwp_bind _ _ (rwp_underlying hd ?_)
 cases d <;> cases k <;> first | exact c | exact hk.elim
theorem rwp_findKey {kt:TypeId} {d:TypeDesc} {k:Value} {l:List MapEntry} {a:Option (Nat×Value)} (hd:P.underlying kt=some d) (hf:Instr.findNow d k l 0=some a) {h:Heap} {K:Option (Nat×Value)→Prop} (c:K a) :
  rwp P (Instr.findKey kt k l) h K:=by
 unfold Instr.findKey
 refine rwp_bind _ _ (rwp_underlying hd ?_)
 rw [hf];exact c
theorem rwp_zeroValue {t:TypeId} {i:TypeInfo} {z:Value} (hi:P.info? t=some i) (hz:i.zero=some z) {h:Heap} {K:Value→Prop} (c:K z):rwp P (zeroValue t) h K:=by
 unfold zeroValue typeInfo
 simp only [program,bind,Sem.bind,rwp,hi,hz,pure]
 exact c
theorem rwp_awp {α:Type} (s:Sem α):∀ {h:Heap} {K:α→Heap→Prop},rwp P s h (fun a=>K a h)→awp P s h K:=by
 induction s with
 | pure a=>intro h K k;exact k
 | load m a k ih=>intro h K ⟨v,hv,q⟩;exact ⟨v,hv,ih v q⟩
 | shape r k ih=>intro h K ⟨t,c,e,fz,hv,q⟩;exact ⟨t,c,e,fz,hv,ih _ q⟩
 | frozen a k ih=>intro h K ⟨t,c,e,lo,hi,hv,q⟩;exact ⟨t,c,e,lo,hi,hv,ih _ q⟩
 | getObj r k ih=>intro h K ⟨t,o,hv,hc,q⟩;exact ⟨t,o,hv,hc,ih _ q⟩
 | program k ih=>intro h K q;exact ih _ q
 | mark m k ih=>intro h K q;exact ih q
 | store m a v k ih=>intro h K k;exact k.elim
 | new o k ih=>intro h K k;exact k.elim
 | freeze a n k ih=>intro h K k;exact k.elim
 | setObj r o k ih=>intro h K k;exact k.elim
 | choose q k ih=>intro h K k;exact k.elim
 | sys c k ih=>intro h K k;exact k.elim
 | halt x=>intro h K k;exact k.elim
def zeroV (P:Program) (t:TypeId):Option Value:=(P.info? t).bind (·.zero)
theorem zeroV_info {t:TypeId} {z:Value} (h:zeroV P t=some z):∃ i,P.info? t=some i∧i.zero=some z:=by
 unfold zeroV at h
 cases hi:P.info? t with
 | none=>rw [hi] at h;cases h
 | some i=>rw [hi] at h;exact ⟨i,rfl,h⟩
theorem nodup_idx {es:List MapEntry} (hn:(es.map (·.key)).Nodup) {i j:Nat} {e e':MapEntry} (hi:es[i]? = some e) (hj:es[j]? = some e') (h:e.key=e'.key):i=j:=by
 obtain ⟨hi,hie⟩:=List.getElem?_eq_some_iff.1 hi
 obtain ⟨hj,hje⟩:=List.getElem?_eq_some_iff.1 hj
 have hp:=List.pairwise_iff_getElem.1 (List.nodup_iff_pairwise_ne.1 hn)
 have e1:(es.map (·.key))[i]'(by simpa using hi)=(es.map (·.key))[j]'(by simpa using hj):=by simp [hie,hje,h]
 rcases Nat.lt_trichotomy i j with hlt | rfl | hgt
 ·exact absurd e1 (hp i j _ _ hlt)
 ·rfl
 ·exact absurd e1.symm (hp j i _ _ hgt)
theorem ALookup.hit {t kt et:TypeId} {d:TypeDesc} {h:Heap} {r clock:Nat} {tg:Tag} {es:List MapEntry} {k:Value} {ok:Bool} {K:Value→Prop} {e:MapEntry} (m:MapAt h r tg d es clock)
  (ht:P.underlying t=some (.map kt et)) (hd:P.underlying kt=some d) (he:e∈es) (hk:e.key=k) (c:K (bif ok then .tuple #[e.val, .bool true] else e.val)):ALookup P t r k ok h K:=by
 refine ⟨?_⟩
 unfold Instr.lookup
 have hik:IsKey d k:=hk ▸ m.keys e he
 refine rwp_bind _ _ (rwp_underlying ht ?_)
 refine rwp_bind _ _ (rwp_bind _ _ (rwp_getObj m.at_ ?_))
 change rwp P (Sem.bind (Instr.checkKey _ 10000 kt k) _) h K
 refine rwp_bind _ _ (rwp_checkKey hd hik _ _ ?_)
 rcases findNow_spec hik es 0 m.keys with ⟨h1,h2⟩ | ⟨j,e',h1,h2,h3⟩
 ·exact absurd hk (h2 e he)
 ·have hee:e'=e:=by
   obtain ⟨i,hi⟩:=List.getElem?_of_mem he
   have:=nodup_idx m.nodup hi h2 (hk.trans h3.symm)
   subst this
   rw [hi] at h2;cases h2;rfl
  refine rwp_bind _ _ (rwp_findKey hd h1 ?_)
  rw [hee]
  cases ok <;> exact c
theorem ALookup.miss {t kt et:TypeId} {d:TypeDesc} {h:Heap} {r clock:Nat} {tg:Tag} {es:List MapEntry} {k:Value} {ok:Bool} {K:Value→Prop} {z:Value} (m:MapAt h r tg d es clock)
  (ht:P.underlying t=some (.map kt et)) (hd:P.underlying kt=some d) (hz:zeroV P et=some z) (hik:IsKey d k) (hk:∀ e∈es,e.key≠k) (c:K (bif ok then .tuple #[z, .bool false] else z)):ALookup P t r k ok h K:=by
 refine ⟨?_⟩
 obtain ⟨i,hi,hz⟩:=zeroV_info hz
 unfold Instr.lookup
 refine rwp_bind _ _ (rwp_underlying ht ?_)
 refine rwp_bind _ _ (rwp_bind _ _ (rwp_getObj m.at_ ?_))
 change rwp P (Sem.bind (Instr.checkKey _ 10000 kt k) _) h K
 refine rwp_bind _ _ (rwp_checkKey hd hik _ _ ?_)
 rcases findNow_spec hik es 0 m.keys with ⟨h1,h2⟩ | ⟨j,e',h1,h2,h3⟩
 ·refine rwp_bind _ _ (rwp_findKey hd h1 ?_)
  refine rwp_bind _ _ (rwp_zeroValue hi hz ?_)
  cases ok <;> exact c
 ·exact absurd h3 (hk e' (List.mem_of_getElem? h2))
theorem AMakeMap.mk {h:Heap} {K:Value→Heap→Prop} (tg:Tag) (k:∀ b,Fresh h b→K (.map (some b)) (h.set b (tg, .map #[] 0))):AMakeMap h K:=⟨⟨tg,k⟩⟩
theorem AMapUpd.hit {t kt et:TypeId} {d:TypeDesc} {h:Heap} {r clock:Nat} {tg:Tag} {es:List MapEntry} {k x:Value} {K:Heap→Prop} {j:Nat} {e:MapEntry} (m:MapAt h r tg d es clock)
  (ht:P.underlying t=some (.map kt et)) (hd:P.underlying kt=some d) (hj:es[j]? = some e) (hk:e.key=k)
  (c:MapAt (h.set r (tg, .map (es.set j {e with val:=x}).toArray clock)) r tg d (es.set j {e with val:=x}) clock→K (h.set r (tg, .map (es.set j {e with val:=x}).toArray clock))):AMapUpd P t r k x h K:=by
 refine ⟨?_⟩
 unfold Instr.mapUpdate
 have he:=List.mem_of_getElem? hj
 have hik:IsKey d k:=hk ▸ m.keys e he
 refine awp_bind _ _ (rwp_awp _ (rwp_underlying ht ?_))
 refine awp_bind _ _ (rwp_awp _ (rwp_getObj m.at_ ?_))
 refine awp_bind _ _ (rwp_awp _ (rwp_checkKey hd hik _ _ ?_))
 rcases findNow_spec hik es 0 m.keys with ⟨h1,h2⟩ | ⟨j',e',h1,h2,h3⟩
 ·exact absurd hk (h2 e he)
 ·have hjj:j'=j:=nodup_idx m.nodup h2 hj (h3.trans hk.symm)
  subst hjj
  have hee:e'=e:=by rw [hj] at h2;cases h2;rfl
  subst hee
  refine awp_bind _ _ (rwp_awp _ (rwp_findKey hd h1 ?_))
  have hks:(((es.toArray[0+j']?).map (·.key)).getD k)=k:=by
   have:es.toArray[0+j']? = some e':=by simpa using hj
   rw [this];exact hk
  have harr:es.toArray.modify (0+j') (fun e=>{e with key:=k,val:=x})=(es.set j' {e' with val:=x}).toArray:=by
   apply Array.ext'
   apply List.ext_getElem?
   intro i
   rw [Nat.zero_add]
   simp only [Array.getElem?_toList,Array.getElem?_modify,List.getElem?_toArray,List.getElem?_set]
   by_cases hji:j'=i
   ·subst hji
    have hlt:=(List.getElem?_eq_some_iff.1 hj).1
    simp only [if_true,hj,Option.map_some,hlt]
    rw [← hk]
   ·simp [hji]
  have m':MapAt (h.set r (tg, .map (es.set j' {e' with val:=x}).toArray clock)) r tg d (es.set j' {e' with val:=x}) clock:=by
   refine ⟨Heap.set_same _ _ _,?_,?_⟩
   ·intro y hy
    rcases List.mem_or_eq_of_mem_set hy with hy | rfl
    ·exact m.keys y hy
    ·exact m.keys e' he
   ·have:=stamped_modify m.st (0+j') (fun e=>{e with key:=k,val:=x}) (fun _ _=>rfl) (fun e'' _ he''=>by
     have:es.toArray[0+j']? = some e':=by simpa using hj
     rw [this] at he'';cases he'';exact hk.symm)
    rw [harr] at this
    exact this
  simp only [hks]
  refine awp_bind _ _ ?_
  have hst:awp P (Instr.keyThatStays k k) h (fun a h'=>a=k∧h'=h):=by
   unfold Instr.keyThatStays
   rw [if_pos (sameBits_self hik _)]
   exact ⟨rfl,rfl⟩
  refine awp_mono _ ?_ hst
  rintro _ _ ⟨rfl,rfl⟩
  rw [harr]
  exact ⟨tg,_,m.at_,rfl,c m'⟩
theorem AMapUpd.miss {t kt et:TypeId} {d:TypeDesc} {h:Heap} {r clock:Nat} {tg:Tag} {es:List MapEntry} {k x:Value} {K:Heap→Prop} (m:MapAt h r tg d es clock)
  (ht:P.underlying t=some (.map kt et)) (hd:P.underlying kt=some d) (hik:IsKey d k) (hk:∀ e∈es,e.key≠k)
  (c:MapAt (h.set r (tg, .map (es++[(⟨k,x,clock⟩:MapEntry)]).toArray (clock+1))) r tg d (es++[(⟨k,x,clock⟩:MapEntry)]) (clock+1)→K (h.set r (tg, .map (es++[(⟨k,x,clock⟩:MapEntry)]).toArray (clock+1)))):AMapUpd P t r k x h K:=by
 refine ⟨?_⟩
 unfold Instr.mapUpdate
 refine awp_bind _ _ (rwp_awp _ (rwp_underlying ht ?_))
 refine awp_bind _ _ (rwp_awp _ (rwp_getObj m.at_ ?_))
 refine awp_bind _ _ (rwp_awp _ (rwp_checkKey hd hik _ _ ?_))
 rcases findNow_spec hik es 0 m.keys with ⟨h1,h2⟩ | ⟨j',e',h1,h2,h3⟩
 ·refine awp_bind _ _ (rwp_awp _ (rwp_findKey hd h1 ?_))
  have harr:es.toArray.push {key:=k,val:=x,born:=clock}=(es++[(⟨k,x,clock⟩:MapEntry)]).toArray:=by simp
  refine ⟨tg,_,m.at_,rfl,?_⟩
  rw [harr]
  refine c ⟨Heap.set_same _ _ _,?_,?_⟩
  ·intro y hy
   rcases List.mem_append.1 hy with hy | hy
   ·exact m.keys y hy
   ·simp only [List.mem_singleton] at hy;subst hy;exact hik
  ·have:=stamped_push m.st (key:=k) (val:=x) (by simpa using hk)
   rw [harr] at this;exact this
 ·exact absurd h3 (hk e' (List.mem_of_getElem? h2))
end
abbrev S (n:List UInt8):Value := .string ⟨n.toArray⟩
theorem AStrIdx.at {P:Program} {t:TypeId} {n:List UInt8} {i:Int} {j:Nat} {b:UInt8} {K:Value→Prop} (hu:P.underlying t=some .string) (hi:i=(j:Int)) (hb:n[j]? = some b) (k:K (.int .u8 b.toNat)):AStrIdx P t ⟨n.toArray⟩ i K:=by
 subst hi
 refine ⟨⟨hu,Int.natCast_nonneg _,b,?_,k⟩⟩
 rw [Int.toNat_natCast]
 obtain ⟨hl,e⟩:=List.getElem?_eq_some_iff.1 hb
 have hs:j<(⟨n.toArray⟩:ByteArray).size:=hl
 rw [getElem?_pos (⟨n.toArray⟩:ByteArray) j hs]
 congr 1
end
section
def NoOwner (o:Nat) (h:Heap):Prop:=∀ b t x,h b=some (t,x)→t.1≠o
theorem Keep.toSub {o:Nat} {h h':Heap} (k:Keep o h h') (n:NoOwner o h):Sub h h':=fun b ⟨t,x⟩ e=>k _ _ _ (n _ _ _ e) e
def Bound (o:Nat) (h:Heap):Prop:=∀ b t x,h b=some (t,x)→t.1<o
theorem Bound.no {o o':Nat} {h:Heap} (k:Bound o h) (ho:o≤o'):NoOwner o' h:=fun b t x e=>by have:=k b t x e;omega
theorem exists_bound (h:Heap):∀ n:Nat,∃ o,o≠0∧∀ b t x,b<n→h b=some (t,x)→t.1<o
 | 0=>⟨1,by omega,fun b t x hb=>absurd hb (by omega)⟩
 | n+1=>by
  obtain ⟨o,ho,k⟩:=exists_bound h n
  cases hn:h n with
  | none =>
   refine ⟨o,ho,fun b t x hb e=>?_⟩
   by_cases c:b=n
   ·subst c;rw [hn] at e;cases e
   ·exact k b t x (by omega) e
  | some y =>
   refine ⟨o+y.1.1+1,by omega,fun b t x hb e=>?_⟩
   by_cases c:b=n
   ·subst c;rw [hn] at e;cases e;simp only [];omega
   ·have:=k b t x (by omega) e;omega
theorem exists_owner {h:Heap} {w:World} (hr:Rel h w):∃ o,o≠0∧Bound o h:=by
 obtain ⟨o,ho,k⟩:=exists_bound h w.heap.size
 exact ⟨o,ho,fun b t x e=>k b t x (hr.fresh _ _ e) e⟩
theorem ACalls.owner {P:Program} {f:FuncId} {args:Array Value} {h:Heap} {R:Value→Heap→Prop} (hp:Plain P f) (k:∀ o,o≠0→Bound o h→ACalls P f args h R):ACalls P f args h R :=
 ⟨hp,fun β w hr=>by obtain ⟨o,ho,hn⟩:=exists_owner hr.rel;exact (k o ho hn).out β w hr⟩
def heapOf (w:World):Heap:=fun b=>(w.heap[b]?).map fun o=>((0,0),o)
theorem heapOf_rel (w:World):RelB ⟨w.os,w.tape,w.output,w.heap.size⟩ (heapOf w) w :=
 ⟨fun b t o e=>by
  unfold heapOf at e
  cases hb:w.heap[b]? with
  | none=>rw [hb] at e;cases e
  | some x=>rw [hb] at e;simp only [Option.map_some,Option.some.injEq,Prod.mk.injEq] at e;rw [e.2],rfl,rfl,rfl,Nat.le_refl _⟩
def Stays (h h':Heap):Prop:=∀ b x,h b=some ((0,0),x)→h' b=some ((0,0),x)
def Keeps (os:List Nat) (h h':Heap):Prop:=∀ b (t:Tag) x,t.1∉os→h b=some (t,x)→h' b=some (t,x)
theorem Keeps.refl (os:List Nat) (h:Heap):Keeps os h h:=fun _ _ _ _ x=>x
theorem Keeps.trans {os:List Nat} {a b c:Heap} (x:Keeps os a b) (y:Keeps os b c):Keeps os a c:=fun _ _ _ n z=>y _ _ _ n (x _ _ _ n z)
theorem Sub.keeps {h h':Heap} (s:Sub h h') (os:List Nat):Keeps os h h':=fun _ _ _ _ x=>s _ _ x
theorem Keep.keeps {o:Nat} {os:List Nat} {h h':Heap} (k:Keep o h h') (m:o∈os):Keeps os h h':=fun _ _ _ n x=>k _ _ _ (fun c=>n (c ▸ m)) x
theorem Sl.keeps {h h':Heap} {t:Tag} {os:List Nat} {a:Option Addr} {n cap z:Nat} {cs:List Value} (s:Sl h t a n cap z cs) (k:Keeps os h h') (ho:t.1∉os):Sl h' t a n cap z cs:=s.move fun _ _ e=>k _ _ _ ho e
theorem top {P:Program} {f:FuncId} {args:Array Value} {w:World} (c:ACalls P f args (heapOf w) (fun v h'=>v = .bool true∧Stays (heapOf w) h')) :
  Calls P f args w fun e w'=>e = .returned (.bool true)∧_root_.Go.RowKit.Below w.heap.size w w':=by
 refine (c.out _ w (heapOf_rel w)).mono fun e w' ⟨v,h',he,hr,hv,hs⟩=>⟨by rw [he,hv],hr.os,hr.tape,hr.out,hr.size,fun k hk=>?_⟩
 have h1:heapOf w k=some ((0,0),w.heap[k]):=by unfold heapOf;simp [hk]
 have:=hr.rel _ _ _ (hs _ _ h1)
 rw [this];simp [hk]
section
variable {H:Type} {enc:TypeId×Value→H} {P:Program} {w:World} {Q:TypeId→DataW H→Prop}
end
end
noncomputable abbrev PR:Program:=Tryz.prog
theorem mix:PR.follows .mixedOrders=true:=by rfl
theorem Ar {f:FuncId} {args:Array Value} {h:Heap} {Q:Value→Prop} (c:ACalls PR f args h (fun v h'=>Q v∧Sub h h')):ACalls PR f args h (fun v h'=>Q v∧h=h') :=
 c.drop fun v h' ⟨q,s⟩=>⟨h,s,q,rfl⟩
abbrev I (x:Int):Value := .int .i64 x
end Go.Ah
