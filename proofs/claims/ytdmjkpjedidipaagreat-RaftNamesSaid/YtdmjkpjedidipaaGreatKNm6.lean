/- Texts that the law leans on, one behind the other. -/
import Derived.Test.YtdmjkpjedidipaaGreatKNm5
namespace Go.Ah
open Go.Proofs
set_option linter.unusedVariables false
set_option linter.unusedSimpArgs false
set_option maxRecDepth 20000
set_option maxHeartbeats 16000000
structure SH where
  term:Int
  vote:Int
  si:Int
  st:Int
  sc:Int
  d:SlV
  data:List Int
  e:SlV
  es:List EH
def SH.cells (x:SH):List Value:=[I x.term,I x.vote,I x.si,I x.st,I x.sc, .slice x.d.a x.d.n x.d.c, .slice x.e.a x.e.n x.e.c]
def SH.abs (x:SH):SavedM:=⟨x.term,x.vote,⟨x.si,x.st,x.sc,x.data⟩,x.es.map EH.abs⟩
structure SH.Ok (h:Heap) (t1 t2 t3:Tag) (x:SH):Prop where
  es:Ents h t1 t2 x.e.a x.e.n x.e.c x.es
  sd:Sl h t3 x.d.a x.d.n x.d.c 1 (bytesV x.data)
def SH.snapB (x:SH):Bool:=decide (x.si=0∧x.st=0∧x.sc=0∧x.data=[]) || (decide (0<x.si)&&decide (1≤x.st∧x.st≤x.term)&&decide (cchk x.sc=0))
theorem may_eq (x:SH):x.abs.may=(numB x.term&&decide (0≤x.vote∧x.vote≤5)&&x.snapB && !(x.es.any fun e=>decide (x.term<e.term))&&crewsMay (x.es.map EH.abs)):=by
 have e1:(x.es.map EH.abs).all (fun e=>decide (e.1≤x.term)) = !x.es.any (fun e=>decide (x.term<e.term)):=by
  rw [List.all_map,List.not_any_eq_all_not]
  congr 1
  funext e
  show decide (e.term≤x.term) = !decide (x.term<e.term)
  rw [← decide_not,decide_eq_decide];omega
 show (numB x.term&&decide (0≤x.vote∧x.vote≤5)&&x.snapB&&(x.es.map EH.abs).all (fun e=>decide (e.1≤x.term))&&crewsMay (x.es.map EH.abs))=_
 rw [e1]
theorem savedMay_any {h:Heap} {t1 t2 t3:Tag} {x:SH} (k:x.Ok h t1 t2 t3) (by_:∀ e∈x.es,∀ z∈e.data,0≤z∧z<256) (hc0 : -9223372036854775808≤x.sc) (hc1:x.sc≤9223372036854775807) (hn:x.e.n≤4611686018427387904) :
  ACalls PR 76 #[.agg x.cells.toArray] h (fun v h'=>v = .bool x.abs.may∧h=h'):=by
 have hd:x.data.length=x.d.n:=by have:=k.sd.len;simpa [bytesV] using this
 have hd0:x.data=[]↔x.d.n=0:=by rw [← hd,List.length_eq_zero_iff]
 have hR:=may_eq x
 generalize x.abs.may=R at hR ⊢
 obtain ⟨S,hS⟩:∃ S,S=x.snapB:=⟨_,rfl⟩
 obtain ⟨L,hL⟩:∃ L,L=x.es.any fun e=>decide (x.term<e.term):=⟨_,rfl⟩
 obtain ⟨W,hW⟩:∃ W,W=crewsMay (x.es.map EH.abs):=⟨_,rfl⟩
 rw [← hS,← hL,← hW] at hR
 unfold SH.snapB at hS
 refine Ar (As mix Tryz.func76 rfl rfl Tryz.ntmps76 Tryz.results76 rfl ?_);conv=>whnf
 refine Al (0,1) (x.cells) rfl fun b1 h1 n1 s1 k1=>?_;conv=>whnf
 refine Ab rfl k1 rfl rfl ?_;conv=>whnf
 refine Ak (0,1) ([I 0,I 0,I 0, .slice none 0 0]) rfl fun b3 h2 n2 s2 k2=>?_;conv=>whnf
 refine Ae rfl rfl rfl (k2) rfl ([I x.si,I x.st,I x.sc, .slice x.d.a x.d.n x.d.c]) rfl fun h3 t3' k3 a3 e3=>?_;conv=>whnf
 have b13:b1≠b3:=fun c=>by rw [c,n2] at k1;cases k1
 have k13:=e3 _ _ b13 (s2 _ _ k1)
 have hb3:h b3=none:=by
  cases e:h b3 with
  | none=>rfl
  | some y=>rw [s1 _ _ e] at n2;cases n2
 have s3:Sub h h3:=a3 h (s1.trans s2) hb3
 have X3:=k.es.sub s3
 clear s1 s2 k1 k2 n1 n2 t3' a3 e3
 have A:AsksE 151 [Ptr b1] x.es (fun e=>decide (x.term<e.term)) h3:=by
  intro e he h' s
  refine Ar (As mix Tryz.func151 rfl rfl Tryz.ntmps151 Tryz.results151 rfl ?_);conv=>whnf
  refine Al (0,1) (e.cells) rfl fun b5 h5 n5 s5 k5=>?_;conv=>whnf
  refine Aa rfl k5 rfl ?_
  refine Aa rfl (s5 _ _ (s _ _ k13)) rfl ?_;conv=>whnf
  refine ACmp.dec ?_;conv=>whnf
  exact ⟨rfl,s5⟩
 have hlate:=ContainsE_any A X3 hn
 rw [← hL] at hlate
 have hcm:=crewsMay_any X3 hn by_
 rw [← hW] at hcm
 refine Aa rfl k3 rfl ?_;conv=>whnf
 by_cases c1:x.si=0
 ·refine Ac (c1) ?_;conv=>whnf
  refine Aa rfl k3 rfl ?_;conv=>whnf
  by_cases c2:x.st=0
  ·refine Ac (c2) ?_;conv=>whnf
   refine Aa rfl k3 rfl ?_;conv=>whnf
   by_cases c3:x.sc=0
   ·refine Ac (c3) ?_;conv=>whnf
    refine Aa rfl k3 rfl ?_;conv=>whnf
    by_cases c4:x.d.n=0
    ·refine Ac ((by omega)) ?_;conv=>whnf
     have HS:S=true:=by rw [hS,decide_eq_true ⟨c1,c2,c3,hd0.2 c4⟩];rfl
     refine Aa rfl k13 rfl ?_;conv=>whnf
     refine ACalls.mono hlate ?_
     clear hlate
     cases L with
     | true =>
      rintro _ _ ⟨rfl,rfl⟩
      conv=>whnf
      refine Aa rfl k13 rfl ?_;conv=>whnf
      by_cases a1:0≤x.term∧x.term≤9007199254740991
      ·refine C2 (rwithin_yes h3 a1) ?_;conv=>whnf
       refine Aa rfl k13 rfl ?_;conv=>whnf
       by_cases a2:0≤x.vote∧x.vote≤5
       ·refine C2 (rwithin_yes h3 a2) ?_;conv=>whnf
        exact ⟨by rw [hR];simp,s3⟩
       ·refine C2 (rwithin_no h3 a2) ?_;conv=>whnf
        exact ⟨by rw [hR];simp,s3⟩
      ·refine C2 (rwithin_no h3 a1) ?_;conv=>whnf
       exact ⟨by rw [hR];simp,s3⟩
     | false =>
      rintro _ _ ⟨rfl,rfl⟩
      conv=>whnf
      refine Aa rfl k13 rfl ?_;conv=>whnf
      by_cases a1:0≤x.term∧x.term≤9007199254740991
      ·refine C2 (rwithin_yes h3 a1) ?_;conv=>whnf
       refine Aa rfl k13 rfl ?_;conv=>whnf
       by_cases a2:0≤x.vote∧x.vote≤5
       ·refine C2 (rwithin_yes h3 a2) ?_;conv=>whnf
        first
         |exact ⟨by rw [hR,HS];simp,s3⟩
         |refine Aa rfl k13 rfl ?_
          conv=>whnf
          refine ACalls.mono hcm ?_
          clear hcm
          cases W with
          | false =>
           rintro _ _ ⟨rfl,rfl⟩
           conv=>whnf
           exact ⟨by rw [hR];simp,s3⟩
          | true =>
           rintro _ _ ⟨rfl,rfl⟩
           conv=>whnf
           exact ⟨by rw [hR,HS,show numB x.term=true from decide_eq_true a1,decide_eq_true a2];rfl,s3⟩
       ·refine C2 (rwithin_no h3 a2) ?_;conv=>whnf
        exact ⟨by rw [hR,decide_eq_false a2];simp,s3⟩
      ·refine C2 (rwithin_no h3 a1) ?_;conv=>whnf
       exact ⟨by rw [hR,show numB x.term=false from decide_eq_false a1];simp,s3⟩
    ·refine Ad ((by omega)) ?_;conv=>whnf
     refine Aa rfl k3 rfl ?_;conv=>whnf
     refine Ad ((by omega)) ?_;conv=>whnf
     have HS:S=false:=by rw [hS,decide_eq_false (fun c=>c4 (hd0.1 c.2.2.2)),decide_eq_false (show ¬ 0<x.si by omega)];rfl
     refine Aa rfl k13 rfl ?_;conv=>whnf
     refine ACalls.mono hlate ?_
     clear hlate
     cases L with
     | true =>
      rintro _ _ ⟨rfl,rfl⟩
      conv=>whnf
      refine Aa rfl k13 rfl ?_;conv=>whnf
      by_cases a1:0≤x.term∧x.term≤9007199254740991
      ·refine C2 (rwithin_yes h3 a1) ?_;conv=>whnf
       refine Aa rfl k13 rfl ?_;conv=>whnf
       by_cases a2:0≤x.vote∧x.vote≤5
       ·refine C2 (rwithin_yes h3 a2) ?_;conv=>whnf
        exact ⟨by rw [hR];simp,s3⟩
       ·refine C2 (rwithin_no h3 a2) ?_;conv=>whnf
        exact ⟨by rw [hR];simp,s3⟩
      ·refine C2 (rwithin_no h3 a1) ?_;conv=>whnf
       exact ⟨by rw [hR];simp,s3⟩
     | false =>
      rintro _ _ ⟨rfl,rfl⟩
      conv=>whnf
      refine Aa rfl k13 rfl ?_;conv=>whnf
      by_cases a1:0≤x.term∧x.term≤9007199254740991
      ·refine C2 (rwithin_yes h3 a1) ?_;conv=>whnf
       refine Aa rfl k13 rfl ?_;conv=>whnf
       by_cases a2:0≤x.vote∧x.vote≤5
       ·refine C2 (rwithin_yes h3 a2) ?_;conv=>whnf
        first
         |exact ⟨by rw [hR,HS];simp,s3⟩
         |refine Aa rfl k13 rfl ?_
          conv=>whnf
          refine ACalls.mono hcm ?_
          clear hcm
          cases W with
          | false =>
           rintro _ _ ⟨rfl,rfl⟩
           conv=>whnf
           exact ⟨by rw [hR];simp,s3⟩
          | true =>
           rintro _ _ ⟨rfl,rfl⟩
           conv=>whnf
           exact ⟨by rw [hR,HS,show numB x.term=true from decide_eq_true a1,decide_eq_true a2];rfl,s3⟩
       ·refine C2 (rwithin_no h3 a2) ?_;conv=>whnf
        exact ⟨by rw [hR,decide_eq_false a2];simp,s3⟩
      ·refine C2 (rwithin_no h3 a1) ?_;conv=>whnf
       exact ⟨by rw [hR,show numB x.term=false from decide_eq_false a1];simp,s3⟩
   ·refine Ad (c3) ?_;conv=>whnf
    refine Aa rfl k3 rfl ?_;conv=>whnf
    refine Ad ((by omega)) ?_;conv=>whnf
    have HS:S=false:=by rw [hS,decide_eq_false (fun c=>c3 c.2.2.1),decide_eq_false (show ¬ 0<x.si by omega)];rfl
    refine Aa rfl k13 rfl ?_;conv=>whnf
    refine ACalls.mono hlate ?_
    clear hlate
    cases L with
    | true =>
     rintro _ _ ⟨rfl,rfl⟩
     conv=>whnf
     refine Aa rfl k13 rfl ?_;conv=>whnf
     by_cases a1:0≤x.term∧x.term≤9007199254740991
     ·refine C2 (rwithin_yes h3 a1) ?_;conv=>whnf
      refine Aa rfl k13 rfl ?_;conv=>whnf
      by_cases a2:0≤x.vote∧x.vote≤5
      ·refine C2 (rwithin_yes h3 a2) ?_;conv=>whnf
       exact ⟨by rw [hR];simp,s3⟩
      ·refine C2 (rwithin_no h3 a2) ?_;conv=>whnf
       exact ⟨by rw [hR];simp,s3⟩
     ·refine C2 (rwithin_no h3 a1) ?_;conv=>whnf
      exact ⟨by rw [hR];simp,s3⟩
    | false =>
     rintro _ _ ⟨rfl,rfl⟩
     conv=>whnf
     refine Aa rfl k13 rfl ?_;conv=>whnf
     by_cases a1:0≤x.term∧x.term≤9007199254740991
     ·refine C2 (rwithin_yes h3 a1) ?_;conv=>whnf
      refine Aa rfl k13 rfl ?_;conv=>whnf
      by_cases a2:0≤x.vote∧x.vote≤5
      ·refine C2 (rwithin_yes h3 a2) ?_;conv=>whnf
       first
        |exact ⟨by rw [hR,HS];simp,s3⟩
        |refine Aa rfl k13 rfl ?_
         conv=>whnf
         refine ACalls.mono hcm ?_
         clear hcm
         cases W with
         | false =>
          rintro _ _ ⟨rfl,rfl⟩
          conv=>whnf
          exact ⟨by rw [hR];simp,s3⟩
         | true =>
          rintro _ _ ⟨rfl,rfl⟩
          conv=>whnf
          exact ⟨by rw [hR,HS,show numB x.term=true from decide_eq_true a1,decide_eq_true a2];rfl,s3⟩
      ·refine C2 (rwithin_no h3 a2) ?_;conv=>whnf
       exact ⟨by rw [hR,decide_eq_false a2];simp,s3⟩
     ·refine C2 (rwithin_no h3 a1) ?_;conv=>whnf
      exact ⟨by rw [hR,show numB x.term=false from decide_eq_false a1];simp,s3⟩
  ·refine Ad (c2) ?_;conv=>whnf
   refine Aa rfl k3 rfl ?_;conv=>whnf
   refine Ad ((by omega)) ?_;conv=>whnf
   have HS:S=false:=by rw [hS,decide_eq_false (fun c=>c2 c.2.1),decide_eq_false (show ¬ 0<x.si by omega)];rfl
   refine Aa rfl k13 rfl ?_;conv=>whnf
   refine ACalls.mono hlate ?_
   clear hlate
   cases L with
   | true =>
    rintro _ _ ⟨rfl,rfl⟩
    conv=>whnf
    refine Aa rfl k13 rfl ?_;conv=>whnf
    by_cases a1:0≤x.term∧x.term≤9007199254740991
    ·refine C2 (rwithin_yes h3 a1) ?_;conv=>whnf
     refine Aa rfl k13 rfl ?_;conv=>whnf
     by_cases a2:0≤x.vote∧x.vote≤5
     ·refine C2 (rwithin_yes h3 a2) ?_;conv=>whnf
      exact ⟨by rw [hR];simp,s3⟩
     ·refine C2 (rwithin_no h3 a2) ?_;conv=>whnf
      exact ⟨by rw [hR];simp,s3⟩
    ·refine C2 (rwithin_no h3 a1) ?_;conv=>whnf
     exact ⟨by rw [hR];simp,s3⟩
   | false =>
    rintro _ _ ⟨rfl,rfl⟩
    conv=>whnf
    refine Aa rfl k13 rfl ?_;conv=>whnf
    by_cases a1:0≤x.term∧x.term≤9007199254740991
    ·refine C2 (rwithin_yes h3 a1) ?_;conv=>whnf
     refine Aa rfl k13 rfl ?_;conv=>whnf
     by_cases a2:0≤x.vote∧x.vote≤5
     ·refine C2 (rwithin_yes h3 a2) ?_;conv=>whnf
      first
       |exact ⟨by rw [hR,HS];simp,s3⟩
       |refine Aa rfl k13 rfl ?_
        conv=>whnf
        refine ACalls.mono hcm ?_
        clear hcm
        cases W with
        | false =>
         rintro _ _ ⟨rfl,rfl⟩
         conv=>whnf
         exact ⟨by rw [hR];simp,s3⟩
        | true =>
         rintro _ _ ⟨rfl,rfl⟩
         conv=>whnf
         exact ⟨by rw [hR,HS,show numB x.term=true from decide_eq_true a1,decide_eq_true a2];rfl,s3⟩
     ·refine C2 (rwithin_no h3 a2) ?_;conv=>whnf
      exact ⟨by rw [hR,decide_eq_false a2];simp,s3⟩
    ·refine C2 (rwithin_no h3 a1) ?_;conv=>whnf
     exact ⟨by rw [hR,show numB x.term=false from decide_eq_false a1];simp,s3⟩
 ·refine Ad (c1) ?_;conv=>whnf
  refine Aa rfl k3 rfl ?_;conv=>whnf
  rw [decide_eq_false (fun c=>c1 c.1),Bool.false_or] at hS
  by_cases c5:0<x.si
  ·refine Ac (c5) ?_;conv=>whnf
   refine Aa rfl k3 rfl ?_
   refine Aa rfl k13 rfl ?_;conv=>whnf
   by_cases c6:1≤x.st∧x.st≤x.term
   ·refine C2 (rwithin_yes h3 c6) ?_;conv=>whnf
    refine Aa rfl k3 rfl ?_;conv=>whnf
    refine C2 (Check_any h3 x.sc hc0 hc1) ?_;conv=>whnf
    by_cases c7:cchk x.sc=0
    ·refine Ac (c7) ?_;conv=>whnf
     have HS:S=true:=by rw [hS,decide_eq_true c5,decide_eq_true c6,decide_eq_true c7];rfl
     refine Aa rfl k13 rfl ?_;conv=>whnf
     refine ACalls.mono hlate ?_
     clear hlate
     cases L with
     | true =>
      rintro _ _ ⟨rfl,rfl⟩
      conv=>whnf
      refine Aa rfl k13 rfl ?_;conv=>whnf
      by_cases a1:0≤x.term∧x.term≤9007199254740991
      ·refine C2 (rwithin_yes h3 a1) ?_;conv=>whnf
       refine Aa rfl k13 rfl ?_;conv=>whnf
       by_cases a2:0≤x.vote∧x.vote≤5
       ·refine C2 (rwithin_yes h3 a2) ?_;conv=>whnf
        exact ⟨by rw [hR];simp,s3⟩
       ·refine C2 (rwithin_no h3 a2) ?_;conv=>whnf
        exact ⟨by rw [hR];simp,s3⟩
      ·refine C2 (rwithin_no h3 a1) ?_;conv=>whnf
       exact ⟨by rw [hR];simp,s3⟩
     | false =>
      rintro _ _ ⟨rfl,rfl⟩
      conv=>whnf
      refine Aa rfl k13 rfl ?_;conv=>whnf
      by_cases a1:0≤x.term∧x.term≤9007199254740991
      ·refine C2 (rwithin_yes h3 a1) ?_;conv=>whnf
       refine Aa rfl k13 rfl ?_;conv=>whnf
       by_cases a2:0≤x.vote∧x.vote≤5
       ·refine C2 (rwithin_yes h3 a2) ?_;conv=>whnf
        first
         |exact ⟨by rw [hR,HS];simp,s3⟩
         |refine Aa rfl k13 rfl ?_
          conv=>whnf
          refine ACalls.mono hcm ?_
          clear hcm
          cases W with
          | false =>
           rintro _ _ ⟨rfl,rfl⟩
           conv=>whnf
           exact ⟨by rw [hR];simp,s3⟩
          | true =>
           rintro _ _ ⟨rfl,rfl⟩
           conv=>whnf
           exact ⟨by rw [hR,HS,show numB x.term=true from decide_eq_true a1,decide_eq_true a2];rfl,s3⟩
       ·refine C2 (rwithin_no h3 a2) ?_;conv=>whnf
        exact ⟨by rw [hR,decide_eq_false a2];simp,s3⟩
      ·refine C2 (rwithin_no h3 a1) ?_;conv=>whnf
       exact ⟨by rw [hR,show numB x.term=false from decide_eq_false a1];simp,s3⟩
    ·refine Ad (c7) ?_;conv=>whnf
     have HS:S=false:=by rw [hS,decide_eq_false c7];simp
     refine Aa rfl k13 rfl ?_;conv=>whnf
     refine ACalls.mono hlate ?_
     clear hlate
     cases L with
     | true =>
      rintro _ _ ⟨rfl,rfl⟩
      conv=>whnf
      refine Aa rfl k13 rfl ?_;conv=>whnf
      by_cases a1:0≤x.term∧x.term≤9007199254740991
      ·refine C2 (rwithin_yes h3 a1) ?_;conv=>whnf
       refine Aa rfl k13 rfl ?_;conv=>whnf
       by_cases a2:0≤x.vote∧x.vote≤5
       ·refine C2 (rwithin_yes h3 a2) ?_;conv=>whnf
        exact ⟨by rw [hR];simp,s3⟩
       ·refine C2 (rwithin_no h3 a2) ?_;conv=>whnf
        exact ⟨by rw [hR];simp,s3⟩
      ·refine C2 (rwithin_no h3 a1) ?_;conv=>whnf
       exact ⟨by rw [hR];simp,s3⟩
     | false =>
      rintro _ _ ⟨rfl,rfl⟩
      conv=>whnf
      refine Aa rfl k13 rfl ?_;conv=>whnf
      by_cases a1:0≤x.term∧x.term≤9007199254740991
      ·refine C2 (rwithin_yes h3 a1) ?_;conv=>whnf
       refine Aa rfl k13 rfl ?_;conv=>whnf
       by_cases a2:0≤x.vote∧x.vote≤5
       ·refine C2 (rwithin_yes h3 a2) ?_;conv=>whnf
        first
         |exact ⟨by rw [hR,HS];simp,s3⟩
         |refine Aa rfl k13 rfl ?_
          conv=>whnf
          refine ACalls.mono hcm ?_
          clear hcm
          cases W with
          | false =>
           rintro _ _ ⟨rfl,rfl⟩
           conv=>whnf
           exact ⟨by rw [hR];simp,s3⟩
          | true =>
           rintro _ _ ⟨rfl,rfl⟩
           conv=>whnf
           exact ⟨by rw [hR,HS,show numB x.term=true from decide_eq_true a1,decide_eq_true a2];rfl,s3⟩
       ·refine C2 (rwithin_no h3 a2) ?_;conv=>whnf
        exact ⟨by rw [hR,decide_eq_false a2];simp,s3⟩
      ·refine C2 (rwithin_no h3 a1) ?_;conv=>whnf
       exact ⟨by rw [hR,show numB x.term=false from decide_eq_false a1];simp,s3⟩
   ·refine C2 (rwithin_no h3 c6) ?_;conv=>whnf
    have HS:S=false:=by rw [hS,decide_eq_false c6];simp
    refine Aa rfl k13 rfl ?_;conv=>whnf
    refine ACalls.mono hlate ?_
    clear hlate
    cases L with
    | true =>
     rintro _ _ ⟨rfl,rfl⟩
     conv=>whnf
     refine Aa rfl k13 rfl ?_;conv=>whnf
     by_cases a1:0≤x.term∧x.term≤9007199254740991
     ·refine C2 (rwithin_yes h3 a1) ?_;conv=>whnf
      refine Aa rfl k13 rfl ?_;conv=>whnf
      by_cases a2:0≤x.vote∧x.vote≤5
      ·refine C2 (rwithin_yes h3 a2) ?_;conv=>whnf
       exact ⟨by rw [hR];simp,s3⟩
      ·refine C2 (rwithin_no h3 a2) ?_;conv=>whnf
       exact ⟨by rw [hR];simp,s3⟩
     ·refine C2 (rwithin_no h3 a1) ?_;conv=>whnf
      exact ⟨by rw [hR];simp,s3⟩
    | false =>
     rintro _ _ ⟨rfl,rfl⟩
     conv=>whnf
     refine Aa rfl k13 rfl ?_;conv=>whnf
     by_cases a1:0≤x.term∧x.term≤9007199254740991
     ·refine C2 (rwithin_yes h3 a1) ?_;conv=>whnf
      refine Aa rfl k13 rfl ?_;conv=>whnf
      by_cases a2:0≤x.vote∧x.vote≤5
      ·refine C2 (rwithin_yes h3 a2) ?_;conv=>whnf
       first
        |exact ⟨by rw [hR,HS];simp,s3⟩
        |refine Aa rfl k13 rfl ?_
         conv=>whnf
         refine ACalls.mono hcm ?_
         clear hcm
         cases W with
         | false =>
          rintro _ _ ⟨rfl,rfl⟩
          conv=>whnf
          exact ⟨by rw [hR];simp,s3⟩
         | true =>
          rintro _ _ ⟨rfl,rfl⟩
          conv=>whnf
          exact ⟨by rw [hR,HS,show numB x.term=true from decide_eq_true a1,decide_eq_true a2];rfl,s3⟩
      ·refine C2 (rwithin_no h3 a2) ?_;conv=>whnf
       exact ⟨by rw [hR,decide_eq_false a2];simp,s3⟩
     ·refine C2 (rwithin_no h3 a1) ?_;conv=>whnf
      exact ⟨by rw [hR,show numB x.term=false from decide_eq_false a1];simp,s3⟩
  ·refine Ad (c5) ?_;conv=>whnf
   have HS:S=false:=by rw [hS,decide_eq_false c5];simp
   refine Aa rfl k13 rfl ?_;conv=>whnf
   refine ACalls.mono hlate ?_
   clear hlate
   cases L with
   | true =>
    rintro _ _ ⟨rfl,rfl⟩
    conv=>whnf
    refine Aa rfl k13 rfl ?_;conv=>whnf
    by_cases a1:0≤x.term∧x.term≤9007199254740991
    ·refine C2 (rwithin_yes h3 a1) ?_;conv=>whnf
     refine Aa rfl k13 rfl ?_;conv=>whnf
     by_cases a2:0≤x.vote∧x.vote≤5
     ·refine C2 (rwithin_yes h3 a2) ?_;conv=>whnf
      exact ⟨by rw [hR];simp,s3⟩
     ·refine C2 (rwithin_no h3 a2) ?_;conv=>whnf
      exact ⟨by rw [hR];simp,s3⟩
    ·refine C2 (rwithin_no h3 a1) ?_;conv=>whnf
     exact ⟨by rw [hR];simp,s3⟩
   | false =>
    rintro _ _ ⟨rfl,rfl⟩
    conv=>whnf
    refine Aa rfl k13 rfl ?_;conv=>whnf
    by_cases a1:0≤x.term∧x.term≤9007199254740991
    ·refine C2 (rwithin_yes h3 a1) ?_;conv=>whnf
     refine Aa rfl k13 rfl ?_;conv=>whnf
     by_cases a2:0≤x.vote∧x.vote≤5
     ·refine C2 (rwithin_yes h3 a2) ?_;conv=>whnf
      first
       |exact ⟨by rw [hR,HS];simp,s3⟩
       |refine Aa rfl k13 rfl ?_
        conv=>whnf
        refine ACalls.mono hcm ?_
        clear hcm
        cases W with
        | false =>
         rintro _ _ ⟨rfl,rfl⟩
         conv=>whnf
         exact ⟨by rw [hR];simp,s3⟩
        | true =>
         rintro _ _ ⟨rfl,rfl⟩
         conv=>whnf
         exact ⟨by rw [hR,HS,show numB x.term=true from decide_eq_true a1,decide_eq_true a2];rfl,s3⟩
     ·refine C2 (rwithin_no h3 a2) ?_;conv=>whnf
      exact ⟨by rw [hR,decide_eq_false a2];simp,s3⟩
    ·refine C2 (rwithin_no h3 a1) ?_;conv=>whnf
     exact ⟨by rw [hR,show numB x.term=false from decide_eq_false a1];simp,s3⟩
theorem New_any' {h:Heap} (o:Nat) (ho:o≠0) (self first:Int) {t1 t2 t3:Tag} {x:SH} (draw:Int) (k:x.Ok h t1 t2 t3) (tn1:t1.1≠o+1) (tn2:t2.1≠o+1) (tn3:t3.1≠o+1) (by_:∀ e∈x.es,∀ z∈e.data,0≤z∧z<256)
  (hf0 : -9223372036854775808≤first) (hf1:first≤9223372036854775807) (hc0 : -9223372036854775808≤x.sc) (hc1:x.sc≤9223372036854775807) (hn:x.e.n*48≤140737488355328) (hdn:x.d.n≤140737488355328) :
  ACalls PR 32 #[I self,I first, .agg x.cells.toArray,I draw] h (fun v h'=>(cnewOk self first x.abs draw=false∧v = .tuple #[.pointer none,I 2]∧Keep (o+1) h h') ∨
   (cnewOk self first x.abs draw=true∧∃ p,v = .tuple #[Ptr p,I 0]∧PIdle h' p o (cnew self first x.abs draw)∧Keep (o+1) h h')):=by
 have hlen:x.es.length=x.e.n:=k.es.len
 have hR:cnewOk self first x.abs draw=(decide (1≤self∧self≤5)&&decide (cchk first=0)&&decide (0≤draw)&&x.abs.may&&okBase x.si x.st&&decide (((lnew x.si x.st).append (x.es.map EH.abs)).1=0)):=rfl
 obtain ⟨R,hR'⟩:∃ R,R=cnewOk self first x.abs draw:=⟨_,rfl⟩
 rw [← hR']
 rw [← hR'] at hR
 refine As mix Tryz.func32 rfl rfl Tryz.ntmps32 Tryz.results32 rfl ?_;conv=>whnf
 refine Al (0,1) (x.cells) rfl fun b6 h1 n1 s1 k1=>?_;conv=>whnf
 have k':x.Ok h1 t1 t2 t3:=⟨k.es.sub s1,k.sd.sub s1⟩
 by_cases a1:1≤self∧self≤5
 ·refine C2 (rwithin_yes h1 a1) ?_;conv=>whnf
  refine C2 (Check_any h1 first hf0 hf1) ?_;conv=>whnf
  by_cases a2:cchk first=0
  ·refine Ad ((by simpa using a2)) ?_;conv=>whnf
   by_cases a3:draw<0
   ·refine Ac (a3) ?_;conv=>whnf
    have HN:decide (0≤draw)=false:=decide_eq_false (by omega)
    exact .inl ⟨by rw [hR,HN];simp,rfl,s1.keep _⟩
   ·refine Ad (a3) ?_;conv=>whnf
    refine Ab rfl k1 rfl rfl ?_;conv=>whnf
    refine ACalls.mono (savedMay_any k' by_ hc0 hc1 (by omega)) ?_
    cases a4:x.abs.may with
    | false =>
     rintro _ _ ⟨rfl,rfl⟩
     conv=>whnf
     have HN:=a4
     exact .inl ⟨by rw [hR,HN];simp,rfl,s1.keep _⟩
    | true =>
     rintro _ _ ⟨rfl,rfl⟩
     conv=>whnf
     refine Aa rfl k1 rfl ?_
     refine Aa rfl k1 rfl ?_;conv=>whnf
     refine ACalls.mono (New_c h1 (o+1) (by omega) x.si x.st) ?_
     rintro v h2 (⟨a5,lp,rfl,l2,s2⟩ | ⟨a5,rfl,s2⟩)
     ·conv=>whnf
      refine Ad ((by decide)) ?_;conv=>whnf
      refine Aa rfl (s2 _ _ k1) rfl ?_;conv=>whnf
      have lo2:LOk (lnew x.si x.st):=LOk.new (okBase_bd a5).1 (okBase_bd a5).2
      refine ACalls.mono (Append_c (by omega:o+1≠0) l2 lo2 tn1 tn2 (k'.es.sub s2) (by simp [lnew];omega)) ?_;rintro _ h3 ⟨rfl,l3,kk3⟩;conv=>whnf
      have k13:=kk3.get (by simp) (s2 _ _ k1)
      have KK3:Keep (o+1) h h3:=((s1.trans s2).keep _).trans kk3
      by_cases a6:((lnew x.si x.st).append (x.es.map EH.abs)).1=0
      ·refine Ad ((by simpa using a6)) ?_;conv=>whnf
       refine An ((few h3 [b6])) [] [0,1,2,3,4,5,6,7,9,10,11,12,13,8,14,15,16,17,18] (few_sub _ _) (by decide +kernel) ?_;conv=>whnf
       refine Aa rfl ((few_at (by simp)).trans k13) rfl ?_
       refine Aa rfl ((few_at (by simp)).trans k13) rfl ?_
       refine Ab rfl ((few_at (by simp)).trans k13) rfl rfl ?_
       refine Aa rfl ((few_at (by simp)).trans k13) rfl ?_;conv=>whnf
       have sd3:Sl h3 t3 x.d.a x.d.n x.d.c 1 (bytesV x.data):=(k.sd.sub (s1.trans s2)).keep kk3 tn3
       refine ACalls.mono (cloned_any h3 (o,3) (fun c=>ho (congrArg Prod.fst c)) (i:=x.si) (tm:=x.st) (cr:=x.sc) (d:=x.d) sd3 hdn) ?_
       rintro v h4 ⟨a',c',rfl,ow4,s4⟩
       refine ⟨(few_sub _ _).trans s4,?_⟩;conv=>whnf
       refine C2 (waits_any h4 draw (by omega)) ?_;conv=>whnf
       refine ⟨(few_sub _ _).trans s4,?_⟩;conv=>whnf
       refine Al (o,0) (coreCells (cnew self first x.abs draw) ⟨⟨a',x.d.n,c'⟩,lp,0,0,0,slv0,ox0⟩) rfl fun p h5 n5 s5 k5=>?_;conv=>whnf
       refine ⟨((few_sub _ _).trans s4).trans s5,?_⟩;conv=>whnf
       refine .inr ⟨by rw [hR,decide_eq_true a1,decide_eq_true a2,decide_eq_true (show 0≤draw by omega),a4,a5,decide_eq_true a6];rfl,p,rfl,⟨⟨⟨a',x.d.n,c'⟩,lp,0,0,0,slv0,ox0⟩,k5,Own.sub ow4 s5,Moves.move l3 fun _ _ _ _ e=>s5 _ _ (s4 _ _ e), .inl ⟨rfl,rfl,rfl⟩,rfl,fun h' oo=>OutOk.zero h' oo⟩,KK3.trans ((s4.trans s5).keep _)⟩
      ·refine Ac (a6) ?_;conv=>whnf
       exact .inl ⟨by rw [hR,decide_eq_false a6];simp,rfl,KK3⟩
     ·conv=>whnf
      refine Ac ((by decide)) ?_;conv=>whnf
      exact .inl ⟨by rw [hR,a5];simp,rfl,(s1.trans s2).keep _⟩
  ·refine Ac (a2) ?_;conv=>whnf
   have HN:decide (cchk first=0)=false:=decide_eq_false a2
   exact .inl ⟨by rw [hR,HN];simp,rfl,s1.keep _⟩
 ·refine C2 (rwithin_no h1 a1) ?_;conv=>whnf
  have HN:decide (1≤self∧self≤5)=false:=decide_eq_false a1
  exact .inl ⟨by rw [hR,HN];simp,rfl,s1.keep _⟩
abbrev RX:=CoreX 98 RL
def SaysOk (l:List Abs):Prop:=∀ e∈l,e.2.2.1=2→crewOk e=true∧∀ x∈e.2.2.2,0≤x∧x<256
theorem crewOk_one {e:Abs} (h:crewOk e=true):∃ x,e.2.2.2=[x]∧crewNum e=x:=by
 unfold crewOk at h
 split at h
 ·rename_i x hx;exact ⟨x,hx,by unfold crewNum;rw [hx]⟩
 ·cases h
theorem rlast_any {h:Heap} {p o oo:Nat} {c:CoreM} {x:CX} (k:RX h p o oo c x) (lo:LOk c.log):ACalls PR 100 #[Ptr p] h (fun v h'=>v = .tuple #[I c.log.last.1,I c.log.last.2]∧h=h'):=by
 refine Ar (As mix Tryz.func100 rfl rfl Tryz.ntmps100 Tryz.results100 rfl ?_);conv=>whnf
 refine Aa rfl k.str rfl ?_;conv=>whnf
 refine C2 (rLast_c k.log lo) ?_;conv=>whnf
 exact ⟨rfl,Sub.refl _⟩
theorem rcrewUpTo_any {h:Heap} {p o oo:Nat} {c:CoreM} {x:CX} (k:RX h p o oo c x) (lo:LOk c.log) (by_:SaysOk c.log.es) (i:Int) (hi:i≤c.log.bi+c.log.es.length) :
  ACalls PR 107 #[Ptr p,I i] h (fun v h'=>v = .tuple #[I (c.crewUpTo i).1,I (c.crewUpTo i).2]∧h=h'):=by
 have htop:=lo.top
 have hlo:=lo.lo
 refine Ar (As mix Tryz.func107 rfl rfl Tryz.ntmps107 Tryz.results107 rfl ?_);conv=>whnf
 refine ALoop.mk (fun e h'=>Sub h h'∧∃ e0,∃ j:Int,e=updL 56 e0 [(0,Ptr p),(6,I j)]∧j≤c.log.bi+c.log.es.length∧crewIn c.log (j-c.log.bi).toNat=crewIn c.log (i-c.log.bi).toNat) (fun e=>natOf (e 6))
  ⟨Sub.refl _,_,i,Au ⟨rfl,rfl,trivial⟩,hi,rfl⟩ ?_
 rintro e h2 ⟨s2,e0,j,rfl,hj,hin⟩
 have k2:=k.sub s2
 conv=>whnf
 refine Aa rfl k2.str rfl ?_;conv=>whnf
 refine C2 (rFirst_c k2.log lo) ?_;conv=>whnf
 by_cases c1:c.log.bi+1≤j
 ·refine Ac (c1) ?_;conv=>whnf
  obtain ⟨ab,hab⟩:=spot_some_of (L:=c.log) (i:=j) (by omega) hj
  obtain ⟨q1,q2,q3⟩:=LG.spot_some hab
  obtain ⟨m,hm⟩:∃ m:Nat,(j-c.log.bi).toNat=m+1:=⟨(j-c.log.bi).toNat-1,by omega⟩
  have hm1:(j-c.log.bi-1).toNat=m:=by omega
  have hjm:j=c.log.bi+1+m:=by omega
  rw [hm1] at q3
  rw [hm,crewIn,q3] at hin
  simp only [] at hin
  refine Aa rfl k2.str rfl ?_;conv=>whnf
  refine ACalls.mono (rGet_c k2.log lo (0,2) (by decide) j) ?_;rintro _ h3 ⟨ge,rfl,gm,gabs,gn,s3⟩;conv=>whnf
  rw [LG.get,hab] at gabs ⊢
  simp only [] at gabs
  refine Ak (0,1) ([I 0,I 0,I 0, .slice none 0 0]) rfl fun b7 h4 n4 s4 k4=>?_;conv=>whnf
  refine Ae rfl rfl rfl (k4) rfl (ge.cells) rfl fun h5 t5 k5 a5 e5=>?_;conv=>whnf
  have n3:h3 b7=none:=n4
  have n2:h b7=none:=by
   cases e:h b7 with
   | none=>rfl
   | some y=>rw [s3 _ _ (s2 _ _ e)] at n4;cases n4
  have s5:Sub h h5:=a5 h ((s2.trans s3).trans s4) n2
  have gm5:=Own.sub gm (a5 h3 s4 n3)
  refine Ac (rfl) ?_;conv=>whnf
  refine Aa rfl k5 rfl ?_;conv=>whnf
  have gk:ge.kind=ab.2.2.1:=by rw [← gabs];rfl
  by_cases c2:ab.2.2.1=2
  ·refine Ac (by rw [gk];exact c2) ?_;conv=>whnf
   rw [if_pos c2] at hin
   obtain ⟨cok,hby⟩:=by_ ab (List.mem_of_getElem? q3) c2
   obtain ⟨z,hz,hzn⟩:=crewOk_one cok
   rw [hz] at hby
   have hzb:=hby z (by simp)
   have hgd:ge.data=[z]:=by rw [← hz,← gabs];rfl
   have hgn:ge.n=1:=by have:=gm5.sl.len;rw [hgd] at this;simpa [bytesV] using this.symm
   obtain ⟨b,off,l,E,fz,ea,hbk,hc⟩:=gm5.sl.pos (by omega)
   have g0:l[off+0*1]? = some (.int .u8 z):=by rw [get_of_take hc (by omega),hgd];rfl
   refine Aa rfl k5 rfl ?_;conv=>whnf
   rw [ea]
   refine Ai (z:=1) (j:=0) rfl (by omega) rfl rfl ?_;conv=>whnf
   refine Aa rfl hbk g0 ?_;conv=>whnf
   refine AArith.as (i64_wrap (by omega) (by omega)) ?_;conv=>whnf
   refine ⟨?_,s5⟩
   unfold CoreM.crewUpTo
   rw [← hin]
   simp only [hzn,← hjm]
  ·refine Ad (by rw [gk];exact c2) ?_;conv=>whnf
   rw [if_neg c2] at hin
   refine Ag (by omega) (by omega) (rfl) ?_;conv=>whnf
   refine ⟨⟨s5,_,j-1,Au ⟨rfl,rfl,trivial⟩,by omega,by rw [← hin];congr 1;omega⟩,?_⟩
   show (j-1).toNat<j.toNat
   omega
 ·refine Ad (c1) ?_;conv=>whnf
  have hin0:crewIn c.log (i-c.log.bi).toNat=none:=by rw [← hin,show (j-c.log.bi).toNat=0 by omega];rfl
  refine Aa rfl k2.str rfl ?_;conv=>whnf
  unfold CoreM.crewUpTo
  rw [hin0]
  by_cases c3:0<c.snap.index
  ·refine Ac (c3) ?_;conv=>whnf
   refine Aa rfl k2.str rfl ?_;conv=>whnf
   exact ⟨by simp [c3],s2⟩
  ·refine Ad (c3) ?_;conv=>whnf
   refine Aa rfl k2.str rfl ?_;conv=>whnf
   exact ⟨by simp [c3],s2⟩
theorem rcrew_any {h:Heap} {p o oo:Nat} {c:CoreM} {x:CX} (k:RX h p o oo c x) (lo:LOk c.log) (by_:SaysOk c.log.es) :
  ACalls PR 88 #[Ptr p] h (fun v h'=>v = .tuple #[I c.crewNow.1,I c.crewNow.2]∧h=h'):=by
 refine Ar (As mix Tryz.func88 rfl rfl Tryz.ntmps88 Tryz.results88 rfl ?_);conv=>whnf
 refine C2 (rlast_any k lo) ?_;conv=>whnf
 refine C2 (rcrewUpTo_any k lo by_ c.log.last.1 (by rw [lo.last];exact Int.le_refl _)) ?_;conv=>whnf
 exact ⟨rfl,Sub.refl _⟩
def NowOk (c:CoreM):Prop := -9223372036854775808≤c.crewNow.1∧c.crewNow.1≤9223372036854775807
theorem rothers_any {h:Heap} {p o oo:Nat} {c:CoreM} {x:CX} (k:RX h p o oo c x) (lo:LOk c.log) (by_:SaysOk c.log.es) (hn:NowOk c) :
  ACalls PR 154 #[Ptr p] h (fun v h'=>∃ a cp f,v = .slice a c.others.length cp∧Sl h' (f,0) a c.others.length cp 1 (c.others.map I)∧o+1<f∧oo<f∧Sub h h'):=by
 refine ACalls.owner ⟨_,Tryz.func154,rfl,rfl⟩ fun o0 ho0 bnd=>?_
 obtain ⟨f,hf⟩:∃ f,f=o0+o+oo+3:=⟨_,rfl⟩
 have nof:NoOwner f h:=bnd.no (by omega)
 refine (?_:ACalls PR 154 _ h (fun v h'=>(∃ a cp,v = .slice a c.others.length cp∧Sl h' (f,0) a c.others.length cp 1 (c.others.map I))∧Keep f h h')).mono fun v h' ⟨⟨a,cp,e,s⟩,kk⟩=>⟨a,cp,f,e,s,by omega,by omega,kk.toSub nof⟩
 refine As mix Tryz.func154 rfl rfl Tryz.ntmps154 Tryz.results154 rfl ?_;conv=>whnf
 refine C2 (rcrew_any k lo by_) ?_;conv=>whnf
 have nof1:NoOwner (f+1) h:=bnd.no (by omega)
 refine ACalls.mono (refList_own _ c.crewNow.1 hn.1 hn.2 (f+1) nof1) ?_;rintro _ h2 ⟨al,cl,rfl,ow,s2⟩;conv=>whnf
 obtain ⟨L,hL⟩:∃ L,L=ls (m5 c.crewNow.1):=⟨_,rfl⟩
 have hLl:L.length≤5:=by rw [hL];exact lsTo_len _ 5
 have hoth:c.others=L.filter fun n=>decide (n≠c.self):=by rw [hL];rfl
 rw [← hL] at ow ⊢
 rw [hoth]
 refine ALoop.mk (fun e h'=>∃ e0,∃ j:Nat,∃ a cp,e=updL 38 e0 [(0,Ptr p),(5, .slice al L.length cl),(6, .slice a ((L.take j).filter fun n=>decide (n≠c.self)).length cp),(7,I j)]∧j≤L.length ∧
   Own h' (f,0) 3 a ((L.take j).filter fun n=>decide (n≠c.self)).length cp 1 (((L.take j).filter fun n=>decide (n≠c.self)).map I)∧Keep f h2 h') (fun e=>L.length-natOf (e 7))
  ⟨_,0,none,0,Au ⟨rfl,rfl,rfl,rfl,trivial⟩,by omega, .inl ⟨rfl,rfl,rfl⟩,Keep.refl _ _⟩ ?_
 rintro e h3 ⟨e0,j,a,cp,rfl,hj,ow3,kk3⟩
 have q3:h3 p=_:=kk3.get (by simp;omega) (s2 _ _ k.str)
 have sl3:=ow.sl.keep kk3 (by simp)
 conv=>whnf
 by_cases hjn:j<L.length
 ·refine Ac (by omega) ?_;conv=>whnf
  obtain ⟨n,hnj⟩:∃ n,L[j]? = some n:=⟨L[j]'hjn,by simp⟩
  obtain ⟨b,off,l,E,fz,ea,hb,hc⟩:=sl3.pos (by omega)
  have g0:l[off+j*1]? = some (I n):=by rw [get_of_take hc (by omega),Nat.mul_one];simp [hnj]
  have htk:L.take (j+1)=L.take j++[n]:=by rw [List.take_succ_eq_append_getElem hjn,(List.getElem?_eq_some_iff.1 hnj).2]
  have hfl:((L.take j).filter fun n=>decide (n≠c.self)).length≤5:=Nat.le_trans (List.length_filter_le _ _) (by simp;omega)
  refine Am (h3) [] (Sub.refl _) (by decide +kernel) ?_;conv=>whnf
  rw [ea]
  refine Ai (z:=1) (j:=j) rfl hjn rfl rfl ?_;conv=>whnf
  refine Aa rfl hb g0 ?_
  refine Aa rfl q3 rfl ?_;conv=>whnf
  by_cases cs:n=c.self
  ·refine Ad (by simp [cs]) ?_;conv=>whnf
   have e1:(L.take (j+1)).filter (fun n=>decide (n≠c.self))=(L.take j).filter (fun n=>decide (n≠c.self)):=by rw [htk,List.filter_append];simp [cs]
   refine Ag (by omega) (by omega) ((by omega:(j:Int)+1=((j+1:Nat):Int))) ?_;conv=>whnf
   refine ⟨⟨_,j+1,a,cp,Au ⟨rfl,rfl,by rw [e1];rfl,rfl,trivial⟩,by omega,by rw [e1];exact ow3,kk3⟩,?_⟩
   show L.length-(j+1)<L.length-j
   omega
  ·refine Ac (cs) ?_;conv=>whnf
   have e1:(L.take (j+1)).filter (fun n=>decide (n≠c.self))=(L.take j).filter (fun n=>decide (n≠c.self))++[n]:=by rw [htk,List.filter_append];simp [cs]
   refine Ai (z:=1) (j:=j) rfl hjn rfl rfl ?_;conv=>whnf
   refine Aa rfl hb g0 ?_;conv=>whnf
   refine ABuildSl.mk (0,1) rfl rfl rfl rfl rfl rfl rfl fun b3 f3=>?_;conv=>whnf
   have s3:=f3.sub (row (0,1) [I n] 3)
   refine AAppend.own (t:=(f,0)) (E:=3) (z:=1) (by_:=8) (zero:=[I 0]) (tx:=(0,1)) (xs:=[I n]) rfl ⟨_,rfl⟩ rfl rfl rfl rfl (by omega) (ow3.move fun _ _ z=>s3 _ _ z)
    ⟨rfl,Nat.le_refl _, .inr ⟨b3,0,_,_,_,rfl,Heap.set_same _ _ _,rfl⟩⟩ rfl (by omega) (by omega) fun a5 cap5 h5 hown5 hk5 _=>?_
   conv=>whnf
   refine Ag (by omega) (by omega) ((by omega:(j:Int)+1=((j+1:Nat):Int))) ?_;conv=>whnf
   have e2:((L.take (j+1)).filter fun n=>decide (n≠c.self)).length=((L.take j).filter fun n=>decide (n≠c.self)).length+1:=by rw [e1,List.length_append];rfl
   refine ⟨⟨_,j+1,a5,cap5,Au ⟨rfl,rfl,by rw [e2];rfl,rfl,trivial⟩,by omega,?_,kk3.trans ((s3.keep f).trans hk5.keep)⟩,?_⟩
   ·rw [e2,e1,List.map_append];exact hown5
   show L.length-(j+1)<L.length-j
   omega
 ·refine Ad (by omega) ?_;conv=>whnf
  rw [List.take_of_length_le (by omega)] at ow3 ⊢
  exact ⟨⟨a,cp,rfl,ow3.sl⟩,(s2.keep f).trans kk3⟩
theorem rfollow_any {h:Heap} {p o oo:Nat} {c:CoreM} (ho:o≠oo) (k:RCore h p o oo c):ACalls PR 159 #[Ptr p] h (fun v h'=>v = .tuple #[]∧RCore h' p o oo c.follow∧Keep o h h'):=by
 obtain ⟨x,k⟩:=k
 refine As mix Tryz.func159 rfl rfl Tryz.ntmps159 Tryz.results159 rfl ?_;conv=>whnf
 refine Af rfl rfl rfl (k.str) rfl (coreCells {c with state:=0} x) rfl fun h1 t1 k1 a1 e1=>?_;conv=>whnf
 refine Af rfl rfl rfl (k1) rfl (coreCells {c with state:=0,votes:=0} x) rfl fun h2 t2 k2 a2 e2=>?_;conv=>whnf
 refine Ae rfl rfl rfl (k2) rfl (coreCells {c with state:=0,votes:=0,next:=five0} {x with z1:=0}) rfl fun h3 t3 k3 a3 e3=>?_;conv=>whnf
 refine Ae rfl rfl rfl (k3) rfl (coreCells {c with state:=0,votes:=0,next:=five0,mtch:=five0} {x with z1:=0,z2:=0}) rfl fun h4 t4 k4 a4 e4=>?_;conv=>whnf
 refine Ae rfl rfl rfl (k4) rfl (coreCells {c with state:=0,votes:=0,next:=five0,mtch:=five0,heard:=five0} {x with z1:=0,z2:=0,z3:=0}) rfl fun h5 t5 k5 a5 e5=>?_;conv=>whnf
 refine Af rfl rfl rfl (k5) rfl (coreCells {c with state:=0,votes:=0,next:=five0,mtch:=five0,heard:=five0,beat:=0} {x with z1:=0,z2:=0,z3:=0}) rfl fun h6 t6 k6 a6 e6=>?_;conv=>whnf
 refine Af rfl rfl rfl (k6) rfl (coreCells {c with state:=0,votes:=0,next:=five0,mtch:=five0,heard:=five0,beat:=0,round:=0} {x with z1:=0,z2:=0,z3:=0}) rfl fun h7 t7 k7 a7 e7=>?_;conv=>whnf
 refine Af rfl rfl rfl (k7) rfl (coreCells c.follow {x with z1:=0,z2:=0,z3:=0,rd:=slv0}) rfl fun h8 t8 k8 a8 e8=>?_;conv=>whnf
 have kt:=t1.trans (t2.trans (t3.trans (t4.trans (t5.trans (t6.trans (t7.trans t8))))))
 exact ⟨rfl,⟨{x with z1:=0,z2:=0,z3:=0,rd:=slv0},k8,k.sd.keepT kt (by simp),KeepT.log k.log kt, .inl ⟨rfl,rfl,rfl⟩,k.out.keepT ho kt⟩,kt.keep⟩
theorem rgreater_any {h:Heap} {p o oo:Nat} {c:CoreM} (ho:o≠oo) (k:RCore h p o oo c) (t:Int):ACalls PR 92 #[Ptr p,I t] h (fun v h'=>v = .tuple #[]∧RCore h' p o oo (c.learn t)∧Keep o h h'):=by
 obtain ⟨x,k⟩:=k
 refine As mix Tryz.func92 rfl rfl Tryz.ntmps92 Tryz.results92 rfl ?_;conv=>whnf
 refine Af rfl rfl rfl (k.str) rfl (coreCells {c with term:=t} x) rfl fun h1 t1 k1 a1 e1=>?_;conv=>whnf
 refine Af rfl rfl rfl (k1) rfl (coreCells {c with term:=t,vote:=0} x) rfl fun h2 t2 k2 a2 e2=>?_;conv=>whnf
 refine Af rfl rfl rfl (k2) rfl (coreCells {c with term:=t,vote:=0,head:=0} x) rfl fun h3 t3 k3 a3 e3=>?_;conv=>whnf
 refine Af rfl rfl rfl (k3) rfl (coreCells {c with term:=t,vote:=0,head:=0,out:={c.out with hard:=true}} x) rfl fun h4 t4 k4 a4 e4=>?_;conv=>whnf
 have kt:=t1.trans (t2.trans (t3.trans t4))
 have k5:RX h4 p o oo {c with term:=t,vote:=0,head:=0,out:={c.out with hard:=true}} x:=k.set' ho kt k4
 refine ACalls.mono (rfollow_any ho ⟨x,k5⟩) ?_;rintro _ h6 ⟨rfl,k6,kk6⟩;conv=>whnf
 exact ⟨rfl,k6,kt.keep.trans kk6⟩
theorem rbegin_any {h:Heap} {p o oo:Nat} {c:CoreM} (ho:o≠oo) (hc:c.out=out0) (k:RCore h p o oo c):ACalls PR 85 #[Ptr p] h (fun v h'=>v = .tuple #[]∧RCore h' p o oo c∧Keep o h h'):=by
 obtain ⟨x,k⟩:=k
 refine As mix Tryz.func85 rfl rfl Tryz.ntmps85 Tryz.results85 rfl ?_;conv=>whnf
 refine Ae rfl rfl rfl (k.str) rfl (coreCells {c with out:=out0} {x with ox:=ox0}) rfl fun h1 t1 k1 a1 e1=>?_;conv=>whnf
 rw [show ({c with out:=out0}:CoreM)=c by rw [← hc]] at k1
 exact ⟨rfl,⟨{x with ox:=ox0},k1,k.sd.keepT t1 (by simp),KeepT.log k.log t1,k.rd.keepT t1 (by simp),by rw [hc];exact OutOk.zero _ _⟩,t1.keep⟩
theorem rend_any {h:Heap} {p o oo:Nat} {c:CoreM} (ho:o≠oo) (ho0:o≠0) (hoo:oo≠0) (k:RCore h p o oo c) :
  ACalls PR 87 #[Ptr p] h (fun v h'=>∃ ox,v = .agg (outCells c.done.2 ox).toArray∧OutOk h' oo c.done.2 ox∧(∀ oo2,RCore h' p o oo2 c.done.1)∧Keep o h h'):=by
 obtain ⟨x,k⟩:=k
 refine As mix Tryz.func87 rfl rfl Tryz.ntmps87 Tryz.results87 rfl ?_;conv=>whnf
 refine Ak (0,1) (outCells out0 ox0) rfl fun b2 h2 n2 s2 k2=>?_;conv=>whnf
 have q2:=k.sub s2
 refine Ab rfl q2.str rfl rfl ?_;conv=>whnf
 refine Ak (0,1) (outCells out0 ox0) rfl fun b3 h3 n3 s3 k3'=>?_;conv=>whnf
 refine Ae rfl rfl rfl (k3') rfl (outCells c.out x.ox) rfl fun h4 t4 k3 a4 e4=>?_;conv=>whnf
 have b23:b2≠b3:=fun c=>by rw [c,n3] at k2;cases k2
 have n3:h b3=none:=by
  cases e:h b3 with
  | none=>rfl
  | some y=>rw [s2 _ _ e] at n3;cases n3
 have s4:Sub h h4:=a4 h (s2.trans s3) n3
 have q4:=k.sub s4
 have k24:=e4 _ _ b23 (s3 _ _ k2)
 refine Ae rfl rfl rfl (q4.str) rfl (coreCells {c with out:=out0} {x with ox:=ox0}) rfl fun h5 t5 p5 _ e5=>?_;conv=>whnf
 have k35:=e5 _ _ (ne_of_tag k3 q4.str (tag_ne ho0)) k3
 have k25:=e5 _ _ (ne_of_tag k24 q4.str (tag_ne ho0)) k24
 have o5:=q4.out.keepT ho t5
 have c5:∀ oo2,RX h5 p o oo2 {c with out:=out0} {x with ox:=ox0}:=fun oo2 =>
  ⟨p5,q4.sd.keepT t5 (by simp),KeepT.log q4.log t5,q4.rd.keepT t5 (by simp),OutOk.zero _ _⟩
 have kk5:Keep o h h5:=(s4.keep o).trans t5.keep
 have b3p:p≠b3:=Ne.symm (ne_of_tag k35 p5 (tag_ne ho0))
 have b2p:p≠b2:=Ne.symm (ne_of_tag k25 p5 (tag_ne ho0))
 refine Aa rfl p5 rfl ?_;conv=>whnf
 refine Af rfl rfl rfl (k35) rfl (outCells {c.out with term:=c.term} x.ox) rfl fun h6 t6 k6 a6 e6=>?_;conv=>whnf
 refine Aa rfl (e6 _ _ b3p p5) rfl ?_;conv=>whnf
 refine Af rfl rfl rfl (k6) rfl (outCells {c.out with term:=c.term,vote:=c.vote} x.ox) rfl fun h7 t7 k7 a7 e7=>?_;conv=>whnf
 refine Aa rfl (e7 _ _ b3p (e6 _ _ b3p p5)) rfl ?_;conv=>whnf
 refine Af rfl rfl rfl (k7) rfl (outCells c.done.2 x.ox) rfl fun h8 t8 k8 a8 e8=>?_;conv=>whnf
 refine Ab rfl k8 rfl rfl ?_;conv=>whnf
 refine Ae rfl rfl rfl ((e8 _ _ b23 (e7 _ _ b23 (e6 _ _ b23 k25)))) rfl (outCells c.done.2 x.ox) rfl fun h9 t9 k9 a9 e9=>?_;conv=>whnf
 refine Ab rfl k9 rfl rfl ?_;conv=>whnf
 have tt:KeepT (0,1) h5 h9:=t6.trans (t7.trans (t8.trans t9))
 have kk:Keep o h h9:=fun b t y ht e=>by
  have e5':=kk5 _ _ _ ht e
  exact e9 _ _ (fun c=>by rw [c,n2] at e;cases e) (e8 _ _ (fun c=>by rw [c,n3] at e;cases e) (e7 _ _ (fun c=>by rw [c,n3] at e;cases e) (e6 _ _ (fun c=>by rw [c,n3] at e;cases e) e5')))
 have c9:∀ oo2,RX h9 p o oo2 {c with out:=out0} {x with ox:=ox0}:=fun oo2 =>
  ⟨tt.get (Ne.symm (tag_ne ho0)) p5,(c5 oo2).sd.keepT tt (Ne.symm (tag_ne ho0)),Moves.move (c5 oo2).log fun _ t _ ht e=>tt _ _ _ (fun c=>by rw [c] at ht;simp at ht) e,(c5 oo2).rd.keepT tt (Ne.symm (tag_ne ho0)),OutOk.zero _ _⟩
 have o9:=o5.keepT (Ne.symm hoo) tt
 exact ⟨x.ox,rfl,⟨o9.od,o9.oe,o9.ed,o9.ea,o9.es,o9.op,o9.ps,o9.pa,o9.qr⟩,fun oo2=>⟨_,c9 oo2⟩,kk⟩
theorem CoreX.pushP {T:TypeId} {LP:Heap→Nat→Nat→LG→Prop} [Moves LP] {h5 h7 h8:Heap} {p o oo:Nat} {c:CoreM} {x:CX} (ho:o≠oo) (ho1:o+1≠oo) (q:CoreX T LP h5 p o oo c x) {n:Int} {ph:PH} (m:ph.Made h5 oo (10+c.out.posts.length)) {a7:Option Addr} {c7:Nat}
  (t7:KeepT (oo,3) h5 h7) (ow7:Own h7 (oo,3) 49 a7 (x.ox.op.n+1) c7 14 ((x.ox.ps.map PH.cells).flatten++PH.cells {ph with src:=c.self,dst:=n,term:=c.term})) (t8:KeepT (o,0) h7 h8)
  (k8:h8 p=some (row (o,0) (coreCells (c.say n ph.abs) {x with ox:={x.ox with op:=⟨a7,x.ox.op.n+1,c7⟩,ps:=x.ox.ps++[{ph with src:=c.self,dst:=n,term:=c.term}]}}) T)):CoreAt T LP h8 p o oo (c.say n ph.abs):=by
 have hpl2:x.ox.ps.length=c.out.posts.length:=by rw [← q.out.pa];simp
 obtain ⟨pm,hpm⟩:∃ pm:PH,pm={ph with src:=c.self,dst:=n,term:=c.term}:=⟨_,rfl⟩
 rw [← hpm] at ow7 k8
 have nt:∀ r:Nat,((oo,r):Tag)≠(o,0):=fun r c=>ho (congrArg Prod.fst c).symm
 have go:∀ r:Nat,r≠3→∀ b y,h5 b=some ((oo,r),y)→h8 b=some ((oo,r),y):=fun r hr b y e=>t8.get (nt r) (t7.get (fun c=>hr (congrArg Prod.snd c)) e)
 have gc:∀ (t:Tag),t.1=o∨t.1=o+1→t≠(o,0)→∀ b y,h5 b=some (t,y)→h8 b=some (t,y):=fun t ht hn b y e=>t8.get hn (t7.get (fun c=>by rw [c] at ht;simp at ht;omega) e)
 refine ⟨_,k8,q.sd.move fun _ _ e=>gc _ (.inl rfl) (by simp) _ _ e,Moves.move q.log fun _ t _ ht e=>gc t (.inr ht) (fun c=>by rw [c] at ht;simp at ht) _ _ e,q.rd.move fun _ _ e=>gc _ (.inl rfl) (by simp) _ _ e,?_⟩
 have mv:∀ (y:PH) (r:Nat),y.Made h5 oo (10+r)→y.Made h8 oo (10+r):=fun y r hy=>hy.move fun b t z ht hr e=>by
  obtain ⟨t1,t2⟩:=t
  simp only at ht hr;subst ht
  exact go t2 (by omega) b z e
 have mp:pm.Made h8 oo (10+x.ox.ps.length):=by
  have:=mv ph _ m
  rw [hpm,hpl2]
  exact ⟨this.es,this.ed,this.sm,this.sd⟩
 refine ⟨q.out.od.move fun _ _ e=>go 6 (by decide) _ _ e,q.out.oe.move fun _ _ e=>go 1 (by decide) _ _ e,fun y hy=>Own.move (q.out.ed y hy) fun _ _ e=>go 2 (by decide) _ _ e,q.out.ea,q.out.es,?_,?_,?_,q.out.qr.move fun _ _ e=>go 7 (by decide) _ _ e⟩
 ·have:=ow7.keepT t8 (nt 3)
  simp only [List.map_append,List.map_cons,List.map_nil,List.flatten_append,List.flatten_cons,List.flatten_nil,List.append_nil]
  exact this
 ·intro i y hy
  rw [List.getElem?_append] at hy
  split at hy
  ·exact mv y i (q.out.ps i y hy)
  ·rename_i hge
   have:i-x.ox.ps.length=0:=by
    have:=(List.getElem?_eq_some_iff.1 hy).1
    simp at this;omega
   rw [this] at hy
   simp only [List.getElem?_cons_zero,Option.some.injEq] at hy
   subst hy
   rw [show i=x.ox.ps.length by omega]
   exact mp
 ·rw [List.map_append,q.out.pa,hpm];rfl
theorem rsay_any {h:Heap} {p o oo:Nat} {c:CoreM} (ho:o≠oo) (ho1:o+1≠oo) (ho0:o≠0) (hoo:oo≠0) (k:RCore h p o oo c) (n:Int) (ph:PH) (hd:ph.dst=n) (m:ph.Made h oo (10+c.out.posts.length)) (hroom:c.out.posts.length≤1000000000) :
  ACalls PR 93 #[Ptr p, .agg ph.cells.toArray] h (fun v h'=>v = .tuple #[]∧RCore h' p o oo (c.say n ph.abs)∧Keeps [o,oo] h h'):=by
 obtain ⟨x,k⟩:=k
 have hpl:x.ox.ps.length=x.ox.op.n:=by
  have:=k.out.op.sl.len
  rw [flat_len (z:=14) (by intro e he;obtain ⟨y,_,rfl⟩:=List.mem_map.1 he;rfl)] at this
  simp at this;omega
 have hpl2:x.ox.ps.length=c.out.posts.length:=by rw [← k.out.pa];simp
 refine As mix Tryz.func93 rfl rfl Tryz.ntmps93 Tryz.results93 rfl ?_;conv=>whnf
 refine Al (0,1) (ph.cells) rfl fun b5 h1 n1 s1 k1=>?_;conv=>whnf
 have q1:=k.sub s1
 have b5p:p≠b5:=Ne.symm (ne_of_tag k1 q1.str (tag_ne ho0))
 refine Aa rfl q1.str rfl ?_;conv=>whnf
 refine Af rfl rfl rfl (k1) rfl (({ph with src:=c.self}:PH).cells) rfl fun h2 t2 k2 a2 e2=>?_;conv=>whnf
 refine Aa rfl (e2 _ _ b5p q1.str) rfl ?_;conv=>whnf
 refine Af rfl rfl rfl (k2) rfl (({ph with src:=c.self,term:=c.term}:PH).cells) rfl fun h4 t4 k4 a4 e4=>?_;conv=>whnf
 have hpm0:({ph with src:=c.self,term:=c.term}:PH)={ph with src:=c.self,dst:=n,term:=c.term}:=by rw [← hd]
 rw [hpm0] at k4
 have s4:Sub h h4:=a4 h (a2 h s1 n1) n1
 have q4:=k.sub s4
 have m4:=m.sub s4
 clear t2 t4 a2 a4 e2 e4 k2 q1 k1 s1 n1
 refine Am (two h4 p b5) [12] (two_sub _ _ _) (by decide +kernel) ?_;conv=>whnf
 refine Aa rfl ((two_l _ _ _).trans q4.str) rfl ?_
 refine Ab rfl ((two_r _ _ _).trans k4) rfl rfl ?_;conv=>whnf
 refine Ap (0,1) (PH.cells {ph with src:=c.self,dst:=n,term:=c.term}) rfl rfl rfl rfl rfl rfl rfl fun b6 h5 n5 s5 k6=>?_;conv=>whnf
 refine ⟨(two_sub _ _ _).trans s5,?_⟩;conv=>whnf
 have q5:=q4.sub s5
 refine AAppend.own (t:=(oo,3)) (E:=49) (z:=14) (by_:=144) (zero:=post0z) (tx:=(0,1)) (xs:=PH.cells {ph with src:=c.self,dst:=n,term:=c.term}) rfl ⟨_,rfl⟩ rfl rfl rfl rfl (by omega) q5.out.op
  ⟨rfl,Nat.le_refl _, .inr ⟨b6,0,_,_,_,rfl,k6,rfl⟩⟩ rfl (by omega) (by omega) fun a7 c7 h7 ow7 t7 _=>?_
 conv=>whnf
 have p7:=t7.get (u:=(o,0)) (fun c=>ho (congrArg Prod.fst c)) q5.str
 have b7:=t7.get (u:=(0,1)) (fun c=>hoo (congrArg Prod.fst c).symm) (s5 _ _ k4)
 refine ⟨two_get (fun y hy=>?_) (fun y hy=>?_),?_⟩
 ·rw [q4.str] at hy;cases hy;exact p7
 ·rw [k4] at hy;cases hy;exact b7
 conv=>whnf
 refine Af rfl rfl rfl (p7) rfl (coreCells (c.say n ph.abs) {x with ox:={x.ox with op:=⟨a7,x.ox.op.n+1,c7⟩,ps:=x.ox.ps++[{ph with src:=c.self,dst:=n,term:=c.term}]}}) rfl fun h8 t8 k8 a8 e8=>?_;conv=>whnf
 exact ⟨rfl,CoreX.pushP ho ho1 q5 (m4.sub s5) t7 ow7 t8 k8,((s4.trans s5).keeps _).trans ((t7.keep.keeps2 (.inr rfl)).trans (t8.keep.keeps2 (.inl rfl)))⟩
structure DLk (c:CoreM):Prop where
  lk:LogOk c
  sy:SaysOk c.log.es
  fc:0≤c.first∧c.first≤255
  sc:0≤c.snap.crew∧c.snap.crew≤255
theorem DLk.same {c d:CoreM} (k:DLk c) (h1:d.log=c.log) (h2:d.snap=c.snap) (h3:d.first=c.first):DLk d :=
 ⟨k.lk.same h1 h2,by rw [h1];exact k.sy,by rw [h3];exact k.fc,by rw [h2];exact k.sc⟩
theorem crewIn_byte {L:LG} (s:SaysOk L.es):∀ k r,crewIn L k=some r→0≤r.1∧r.1≤255
 | 0,r,h=>by cases h
 | k+1,r,h=>by
  unfold crewIn at h
  split at h
  ·rename_i e he
   split at h
   ·rename_i h2
    obtain ⟨a,b⟩:=s e (List.mem_of_getElem? he) h2
    obtain ⟨z,hz,hzn⟩:=crewOk_one a
    cases h
    have:=b z (by rw [hz];simp)
    simp only [hzn];omega
   ·exact crewIn_byte s k r h
  ·exact crewIn_byte s k r h
theorem DLk.now {c:CoreM} (k:DLk c):0≤c.crewNow.1∧c.crewNow.1≤255:=by
 unfold CoreM.crewNow CoreM.crewUpTo
 have hf:=k.fc;have hs:=k.sc
 split
 ·rename_i r hr;exact crewIn_byte k.sy _ r hr
 ·split
  ·exact hs
  ·exact hf
theorem DLk.nowOk {c:CoreM} (k:DLk c):NowOk c:=by have:=k.now;exact ⟨by omega,by omega⟩
theorem rsend_any {h:Heap} {p o oo:Nat} {c:CoreM} (ap:Apart o oo) (k:RCore h p o oo c) (lo:LOk c.log) {n:Int} (h1:1≤n) (h2:n≤5) (hx0:0≤c.next.get n) (hx1:c.next.get n≤9007199254740992)
  (hroom:c.out.posts.length≤1000000000) (hsd:c.snap.data.length≤8192) (hes:c.log.es.length*48≤140737488355328) :
  ACalls PR 155 #[Ptr p,I n] h (fun v h'=>v = .tuple #[]∧RCore h' p o oo (c.send n)∧Keeps [o,oo] h h'):=by
 obtain ⟨x,k⟩:=k
 have hpl2:x.ox.ps.length=c.out.posts.length:=by rw [← k.out.pa];simp
 obtain ⟨m,hm⟩:∃ m:Nat,n=m:=⟨n.toNat,by omega⟩
 have hnc:(coreCells c x)[0+14+1+m*1]? = some (I (c.next.get n)):=by
  have:=next_cell c x h1 h2;rw [show 0+14+1+m*1=15+n.toNat by omega];exact this
 refine As mix Tryz.func155 rfl rfl Tryz.ntmps155 Tryz.results155 rfl ?_;conv=>whnf
 refine Am (h) [] (Sub.refl _) (by decide +kernel) ?_;conv=>whnf
 refine Aj (n:=6) (z:=1) (j:=m) (by omega) (by omega) rfl rfl ?_;conv=>whnf
 refine Aa rfl k.str hnc ?_
 refine Aa rfl k.str rfl ?_;conv=>whnf
 refine C2 (rFirst_c k.log lo) ?_;conv=>whnf
 refine ⟨Sub.refl _,?_⟩;conv=>whnf
 unfold CoreM.send
 by_cases c1:c.next.get n<c.log.bi+1
 ·refine Ac (c1) ?_;conv=>whnf
  rw [if_pos c1]
  refine Ab rfl k.str rfl rfl ?_;conv=>whnf
  refine Ak (0,1) ([I 0,I 0,I 0, .slice none 0 0]) rfl fun b4 h3 n3 s3 k3=>?_;conv=>whnf
  refine Ae rfl rfl rfl (k3) rfl ([I c.snap.index,I c.snap.term,I c.snap.crew, .slice x.sd.a x.sd.n x.sd.c]) rfl fun h4 t4 k4 a4 e4=>?_;conv=>whnf
  have s4:Sub h h4:=a4 h s3 n3
  have q4:=k.sub s4
  refine Aa rfl q4.str rfl ?_;conv=>whnf
  refine ACalls.mono (copyB_any h4 (oo,6) q4.sd.sl (by rw [k.snapLen];omega)) ?_
  rintro _ h5 ⟨a',c',rfl,ow,s5⟩
  conv=>whnf
  refine Af rfl rfl rfl ((s5 _ _ k4)) rfl ([I c.snap.index,I c.snap.term,I c.snap.crew, .slice a' x.sd.n c']) rfl fun h6 t6 k6 a6 e6=>?_;conv=>whnf
  have s6:Sub h h6:=a6 h (s4.trans s5) n3
  have q6:=k.sub s6
  have ow6:=ow.keepT t6 (fun c=>ap.d (congrArg Prod.fst c))
  have ph:∀ {h':Heap},Sub h6 h'→PH.Made h' oo (10+c.out.posts.length) ⟨5,0,n,0,0,0,0,false,c.round,slv0,[],c.snap.index,c.snap.term,c.snap.crew,⟨a',x.sd.n,c'⟩,c.snap.data⟩:=fun s=>⟨.inl ⟨rfl,rfl,rfl⟩,by simp,by simp,ow6.move fun _ _ e=>s _ _ e⟩
  refine Am (h6) [8] (Sub.refl _) (by decide +kernel) ?_;conv=>whnf
  refine Aa rfl q6.str rfl ?_
  refine Ab rfl k6 rfl rfl ?_;conv=>whnf
  refine ACalls.mono (rsay_any ap.a ap.b ap.c ap.d ⟨x,q6⟩ n _ rfl (ph (Sub.refl _)) hroom) ?_;rintro _ h7 ⟨rfl,k7,kk7⟩;conv=>whnf
  exact ⟨rfl,k7,(s6.keeps _).trans kk7⟩
 ·refine Ad (c1) ?_;conv=>whnf
  rw [if_neg c1]
  refine Am (h) [] (Sub.refl _) (by decide +kernel) ?_;conv=>whnf
  refine Aa rfl k.str rfl ?_;conv=>whnf
  refine Aj (n:=6) (z:=1) (j:=m) (by omega) (by omega) rfl rfl ?_;conv=>whnf
  refine Aa rfl k.str hnc ?_;conv=>whnf
  refine Ag (by omega) (by omega) (rfl) ?_;conv=>whnf
  refine C2 (rTerm_c k.log lo (c.next.get n-1)) ?_;conv=>whnf
  refine ⟨Sub.refl _,?_⟩;conv=>whnf
  refine Am (h) [10] (Sub.refl _) (by decide +kernel) ?_;conv=>whnf
  refine Aa rfl k.str rfl ?_;conv=>whnf
  refine Aj (n:=6) (z:=1) (j:=m) (by omega) (by omega) rfl rfl ?_;conv=>whnf
  refine Aa rfl k.str hnc ?_;conv=>whnf
  refine ACalls.mono (rSlice_c k.log lo (oo,10+c.out.posts.length) (oo,5) (fun c=>ap.d (congrArg Prod.fst c)) (fun c=>ap.d (congrArg Prod.fst c)) (fun c=>ap.b c.symm) (fun d=>by have:=congrArg Prod.snd d;simp at this;omega) (c.next.get n) 8 hes) ?_;rintro _ h3 ⟨a3,n3,c3,zs,rfl,E3,abs3,sm3,kt3,ow3,m3⟩;conv=>whnf
  have kx:∀ t:Tag,(t.1=o∨t.1=o+1)→t≠(oo,10+c.out.posts.length):=fun t ht d=>by rw [d] at ht;have:=ap.a;have:=ap.b;simp at ht;omega
  have k3:RX h3 p o oo c x:=⟨kt3.get (kx _ (.inl rfl)) k.str,k.sd.keepT kt3 (kx _ (.inl rfl)),Moves.move k.log fun _ t _ ht e=>kt3 _ _ _ (kx t (.inr ht)) e,k.rd.keepT kt3 (kx _ (.inl rfl)),k.out.role kt3 (by omega)⟩
  refine Am (h3) [20] (Sub.refl _) (by decide +kernel) ?_;conv=>whnf
  refine Aj (n:=6) (z:=1) (j:=m) (by omega) (by omega) rfl rfl ?_;conv=>whnf
  refine Aa rfl k3.str hnc ?_;conv=>whnf
  refine Ag (by omega) (by omega) (rfl) ?_;conv=>whnf
  refine Aa rfl k3.str rfl ?_
  refine Aa rfl k3.str rfl ?_;conv=>whnf
  have ph:PH.Made h3 oo (10+c.out.posts.length) ⟨3,0,n,0,c.next.get n-1,(c.log.term (c.next.get n-1)).1,c.commit,false,c.round,⟨a3,n3,c3⟩,zs,0,0,0,slv0,[]⟩:=⟨ow3,m3,sm3, .inl ⟨rfl,rfl,rfl⟩⟩
  refine ACalls.mono (rsay_any ap.a ap.b ap.c ap.d ⟨x,k3⟩ n _ rfl ph hroom) ?_;rintro _ h4 ⟨rfl,k4,kk4⟩;conv=>whnf
  refine ⟨rfl,?_,(kt3.keep.keeps2 (.inr rfl)).trans kk4⟩
  unfold PH.abs at k4
  simp only [abs3] at k4
  exact k4
theorem rsendAll_any {h:Heap} {p o oo:Nat} {c:CoreM} (ap:Apart o oo) (k:RCore h p o oo c) (lk:DLk c) (nk:NextOk c) (hroom:c.out.posts.length≤999999990) :
  ACalls PR 86 #[Ptr p] h (fun v h'=>v = .tuple #[]∧RCore h' p o oo c.sendAll∧Keeps [o,oo] h h'):=by
 obtain ⟨x,k⟩:=k
 have hl5:=others_len c
 refine As mix Tryz.func86 rfl rfl Tryz.ntmps86 Tryz.results86 rfl ?_;conv=>whnf
 refine ACalls.mono (rothers_any k lk.lk.lo lk.sy lk.nowOk) ?_;rintro _ h1 ⟨al,cp,f,rfl,sl,hf1,hf2,s1⟩;conv=>whnf
 refine ALoop.mk (fun e h'=>∃ e0,∃ j:Nat,e=updL 18 e0 [(0,Ptr p),(2, .slice al c.others.length cp),(3,I j)]∧j≤c.others.length∧RCore h' p o oo ((c.others.take j).foldl CoreM.send c)∧Keeps [o,oo] h h'∧Sl h' (f,0) al c.others.length cp 1 (c.others.map I)) (fun e=>c.others.length-natOf (e 3))
  ⟨_,0,Au ⟨rfl,rfl,rfl,trivial⟩,by omega,⟨x,k.sub s1⟩,s1.keeps _,sl⟩ ?_
 rintro e h2 ⟨e0,j,rfl,hj,k2,kk2,s2⟩
 conv=>whnf
 by_cases hjn:j<c.others.length
 ·refine Ac (by omega) ?_;conv=>whnf
  obtain ⟨n,hn⟩:∃ n,c.others[j]? = some n:=⟨c.others[j]'hjn,by simp⟩
  obtain ⟨hn1,hn2⟩:=others_in c n (List.mem_of_getElem? hn)
  obtain ⟨b,off,l,E,fz,rfl,hb,hc⟩:=s2.pos (by omega)
  have g0:l[off+j*1]? = some (I n):=by rw [get_of_take hc (by omega),Nat.mul_one];simp [hn]
  refine Ai (z:=1) (j:=j) rfl hjn rfl rfl ?_;conv=>whnf
  refine Aa rfl hb g0 ?_;conv=>whnf
  obtain ⟨e1,e2,e3,e4⟩:=sends_same (c.others.take j) c
  have htl:(c.others.take j).length≤5:=by simp;omega
  refine ACalls.mono (rsend_any ap k2 (by rw [e1];exact lk.lk.lo) hn1 hn2 (by rw [e2];exact (nk n hn1 hn2).1) (by rw [e2];exact (nk n hn1 hn2).2) (by omega) (by rw [e3];exact lk.lk.snap) (by rw [e1];exact lk.lk.room)) ?_;rintro _ h3 ⟨rfl,k3,kk3⟩;conv=>whnf
  refine Ag (by omega) (by omega) ((by omega:(j:Int)+1=((j+1:Nat):Int))) ?_;conv=>whnf
  refine ⟨⟨_,j+1,Au ⟨rfl,rfl,rfl,trivial⟩,by omega,?_,kk2.trans kk3,s2.keeps kk3 (by simp;omega)⟩,?_⟩
  ·rw [List.take_succ_eq_append_getElem hjn,(List.getElem?_eq_some_iff.1 hn).2,List.foldl_append]
   exact k3
  ·show c.others.length-(j+1)<c.others.length-j
   omega
 ·refine Ad (by omega) ?_;conv=>whnf
  rw [List.take_of_length_le (by omega)] at k2
  exact ⟨rfl,k2,kk2⟩
theorem refMost_any (h:Heap) (a b:Int) (ha : -9223372036854775808≤a) (ha':a≤9223372036854775807) (hb : -9223372036854775808≤b) (hb':b≤9223372036854775807) :
  ACalls PR 156 #[I a,I b] h (fun v h'=>v = .bool (mostOf a (hasB b))∧h=h'):=by
 refine Ar (As mix Tryz.func156 rfl rfl Tryz.ntmps156 Tryz.results156 rfl ?_);conv=>whnf
 refine ACalls.mono (refList_any _ a ha ha') ?_;rintro _ h2 ⟨al,cl,tl,rfl,sl,s2⟩;conv=>whnf
 have hnl5:(ls (m5 a)).length≤5:=lsTo_len _ 5
 unfold mostOf
 generalize ls (m5 a)=l at *
 refine ALoop.mk (fun e h'=>Sub h2 h'∧∃ e0,∃ k:Nat,e=updL 29 e0 [(1,I b),(5, .slice al l.length cl),(6,I (((l.take k).filter (hasB b)).length:Nat)),(7,I k)]∧k≤l.length)
  (fun e=>l.length-natOf (e 7)) ⟨Sub.refl _,_,0,Au ⟨rfl,rfl,rfl,rfl,trivial⟩,by omega⟩ ?_
 rintro e h3 ⟨s3,e0,k,rfl,hk⟩
 have hle:((l.take k).filter (hasB b)).length≤k:=Nat.le_trans (List.length_filter_le _ _) (by simp;omega)
 conv=>whnf
 by_cases hkn:k<l.length
 ·refine Ac (by omega) ?_;conv=>whnf
  obtain ⟨bb,off,L,E,fz,rfl,hb1,hc⟩:=(sl.sub s3).pos (by omega)
  have g1:L[off+k*1]? = some (I (l[k]'hkn)):=by rw [get_of_take hc (by omega)];simp [hkn]
  refine Ai (z:=1) (j:=k) rfl hkn rfl rfl ?_;conv=>whnf
  refine Aa rfl hb1 g1 ?_;conv=>whnf
  have e1:(l.take (k+1)).filter (hasB b)=(l.take k).filter (hasB b)++[l[k]'hkn].filter (hasB b):=by
   rw [List.take_succ_eq_append_getElem hkn,List.filter_append]
  refine ACalls.mono (refHas_any h3 b _ hb hb') ?_
  rintro _ _ ⟨rfl,rfl⟩
  cases hh:hasB b (l[k]'hkn)
  ·conv=>whnf
   rw [show [l[k]'hkn].filter (hasB b)=[] by simp [hh],List.append_nil] at e1
   refine Ag (by omega) (by omega) ((by omega:(k:Int)+1=((k+1:Nat):Int))) ?_;conv=>whnf
   refine ⟨⟨s3,_,k+1,Au ⟨rfl,rfl,by rw [e1];rfl,rfl,trivial⟩,by omega⟩,?_⟩
   show l.length-(k+1)<l.length-k
   omega
  ·conv=>whnf
   rw [show [l[k]'hkn].filter (hasB b)=[l[k]'hkn] by simp [hh]] at e1
   refine Ag (by omega) (by omega) (rfl) ?_;conv=>whnf
   refine Ag (by omega) (by omega) ((by omega:(k:Int)+1=((k+1:Nat):Int))) ?_;conv=>whnf
   refine ⟨⟨s3,_,k+1,Au ⟨rfl,rfl,by rw [e1,List.length_append];rfl,rfl,trivial⟩,by omega⟩,?_⟩
   show l.length-(k+1)<l.length-k
   omega
 ·refine Ad (by omega) ?_;conv=>whnf
  rw [List.take_of_length_le (by omega)] at hle ⊢
  refine Ag (by omega) (by omega) (rfl) ?_;conv=>whnf
  refine ACmp.dec ?_;conv=>whnf
  refine ⟨congrArg Value.bool ?_,s2.trans s3⟩
  by_cases z:l.length<2*(l.filter (hasB b)).length
  ·rw [decide_eq_true z,decide_eq_true (by omega)]
  ·rw [decide_eq_false z,decide_eq_false (by omega)]
theorem cnt_anti {v w:Int} (h:v≤w):∀ l:List Int,cnt w l≤cnt v l
 | []=>Nat.le_refl _
 | x::r=>by
  have:=cnt_anti h r
  simp only [cnt,List.countP_cons] at this ⊢
  by_cases c:w≤x
  ·rw [if_pos (by simpa using c),if_pos (by simp;omega)];omega
  ·rw [if_neg (by simpa using c)];split <;> omega
theorem max_mem:∀ (l:List Int),l≠[]→∃ s∈l,∀ x∈l,x≤s
 | [],h=>absurd rfl h
 | [x],_=>⟨x,by simp,by simp⟩
 | x::y::r,_=>by
  obtain ⟨s,hs,hm⟩:=max_mem (y::r) (by simp)
  by_cases c:s≤x
  ·exact ⟨x,by simp,fun z hz=>by rcases List.mem_cons.1 hz with rfl | hz;exact Int.le_refl _;exact Int.le_trans (hm z hz) c⟩
  ·exact ⟨s,List.mem_cons_of_mem _ hs,fun z hz=>by rcases List.mem_cons.1 hz with rfl | hz;omega;exact hm z hz⟩
theorem min_mem (l:List Int) (h:l≠[]):∃ s∈l,∀ x∈l,s≤x:=by
 obtain ⟨s,hs,hm⟩:=max_mem (l.map fun x => -x) (by simpa using h)
 obtain ⟨t,ht,rfl⟩:=List.mem_map.1 hs
 exact ⟨t,ht,fun x hx=>by have:=hm (-x) (List.mem_map.2 ⟨x,hx,rfl⟩);omega⟩
theorem rank_exists (l:List Int):∃ r,RankOf l r:=by
 by_cases h:l=[]
 ·exact ⟨0, .inl ⟨h,rfl⟩⟩
 ·have hl:0<l.length:=List.length_pos_iff.2 h
  obtain ⟨m,hm,hmin⟩:=min_mem l h
  have hcm:cnt m l=l.length:=List.countP_eq_length.2 fun x hx=>by simpa using hmin x hx
  obtain ⟨s,hs,hmax⟩:=max_mem (l.filter fun v=>decide (l.length<2*cnt v l)) (fun e=>by
   have:m∈l.filter fun v=>decide (l.length<2*cnt v l):=List.mem_filter.2 ⟨hm,by simp;omega⟩
   rw [e] at this;cases this)
  obtain ⟨hs1,hs2⟩:=List.mem_filter.1 hs
  have hs2:l.length<2*cnt s l:=by simpa using hs2
  refine ⟨_, .inr ⟨h,s,rfl,hs1,fun v=>⟨fun c=>by have:=cnt_anti c l;omega,fun c=>?_⟩⟩⟩
  have hne:l.filter (fun x=>decide (v≤x))≠[]:=fun e=>by
   have:cnt v l=0:=by unfold cnt;rw [List.countP_eq_length_filter,e];rfl
   omega
  obtain ⟨x,hx,hxm⟩:=min_mem _ hne
  obtain ⟨x1,x2⟩:=List.mem_filter.1 hx
  have x2:v≤x:=by simpa using x2
  have:cnt x l=cnt v l:=by
   unfold cnt
   refine List.countP_congr fun y hy=>?_
   simp only [decide_eq_true_eq]
   refine ⟨fun c=>by omega,fun c=>hxm y (List.mem_filter.2 ⟨hy,by simpa using c⟩)⟩
  have:=hmax x (List.mem_filter.2 ⟨x1,by simp;omega⟩)
  omega
theorem rrank_five (h:Heap) (now:Int) (z:Int) (f:Five) (h1 : -9223372036854775808≤now) (h2:now≤9223372036854775807) :
  ACalls PR 163 #[I now, .agg #[I z,I f.a1,I f.a2,I f.a3,I f.a4,I f.a5]] h (fun v h'=>v=I (rankOf now f)∧h=h'):=by
 obtain ⟨r,hr⟩:=rank_exists ((ls (m5 now)).map (six z f.a1 f.a2 f.a3 f.a4 f.a5))
 rw [← rankOf_eq hr]
 exact refRank_any h now z f.a1 f.a2 f.a3 f.a4 f.a5 h1 h2 r hr
theorem rput_any {h:Heap} {p o oo:Nat} {c:CoreM} (ap:Apart o oo) (k:RCore h p o oo c) (lo:LOk c.log) (hes:(c.log.es.length+1)*48≤140737488355328) (hlast:c.log.last.1≤9007199254740991)
  (kind:Int) {t:Tag} {d:SlV} {data:List Int} (g:Sl h t d.a d.n d.c 1 (bytesV data)) (hd:d.n≤1200) (hroom:c.out.entries.length≤1000000000) :
  ACalls PR 103 #[Ptr p,I kind, .slice d.a d.n d.c] h (fun v h'=>v=I (c.log.last.1+1)∧RCore h' p o oo (c.put kind data)∧Keeps [o,o+1,oo] h h'):=by
 obtain ⟨x,k⟩:=k
 have hl0:0≤c.log.last.1:=by rw [lo.last];have:=lo.lo;omega
 have hel2:x.ox.es.length=c.out.entries.length:=by rw [← k.out.ea];simp
 have hel:x.ox.es.length=x.ox.oe.n:=by
  have:=k.out.oe.sl.len
  rw [encs_length] at this;omega
 refine At mix Tryz.func103 rfl rfl Tryz.ntmps103 Tryz.results103 rfl ?_;conv=>whnf
 refine C2 (rlast_any k lo) ?_;conv=>whnf
 refine AIf.cut (fun e h'=>∃ e0 b9 a' c',e=updL 48 e0 [(0,Ptr p),(7,I c.log.last.1),(9,Ptr b9)]∧Sub h h'∧h b9=none∧h' b9=some (row (0,1) [I c.term,I (c.log.last.1+1),I kind, .slice a' d.n c'] 59)∧Own h' (0,2) 5 a' d.n c' 1 (bytesV data)) ?_ ?_
 ·conv=>whnf
  refine Ao (h) [11] (.take 0 (.take 1 (.take 2 (.take 3 (.take 4 (.take 5 (.take 6 (.take 7 (.alt 8 (.take 9 (.take 10 (.take 11 (.done)))) (.alt 10 (.take 8 (.take 9 (.take 11 (.done)))) (.stop))))))))))) (Sub.refl _) (by decide +kernel) ?_;conv=>whnf
  refine Aa rfl k.str rfl ?_;conv=>whnf
  refine Ag (by omega) (by omega) (rfl) ?_;conv=>whnf
  refine And.intro ?_ ?_
  ·conv=>whnf
   refine ACalls.mono (copyB_any h (0,2) g (by omega)) ?_
   rintro v h1 ⟨a',c',rfl,ow1,s1⟩
   refine ⟨s1,?_⟩;conv=>whnf
   refine Ak (0,1) (entry0z) rfl fun b9 h2 n2 s2 k2=>?_;conv=>whnf
   refine ⟨s1.trans s2,?_⟩;conv=>whnf
   refine Ae rfl rfl rfl (k2) rfl ([I c.term,I (c.log.last.1+1),I kind, .slice a' d.n c']) rfl fun h5 t5 k9 a5 e5=>?_;conv=>whnf
   have n0:h b9=none:=by
    cases e:h b9 with
    | none=>rfl
    | some y=>rw [s1 _ _ e] at n2;cases n2
   exact ⟨_,b9,a',c',Au ⟨rfl,rfl,rfl,trivial⟩,a5 h (s1.trans s2) n0,n0,k9,(Own.sub ow1 s2).keepT t5 (by simp)⟩
  ·conv=>whnf
   refine And.intro ?_ trivial
   conv=>whnf
   refine Ak (0,1) (entry0z) rfl fun b9 h2 n2 s2 k2=>?_;conv=>whnf
   refine ⟨s2,?_⟩;conv=>whnf
   refine ACalls.mono (copyB_any h2 (0,2) (Sl.sub g s2) (by omega)) ?_
   rintro v h1 ⟨a',c',rfl,ow1,s1⟩
   refine ⟨s2.trans s1,?_⟩;conv=>whnf
   refine Ae rfl rfl rfl ((s1 _ _ k2)) rfl ([I c.term,I (c.log.last.1+1),I kind, .slice a' d.n c']) rfl fun h5 t5 k9 a5 e5=>?_;conv=>whnf
   exact ⟨_,b9,a',c',Au ⟨rfl,rfl,rfl,trivial⟩,a5 h (s2.trans s1) n2,n2,k9,ow1.keepT t5 (by simp)⟩
 rintro e h5 ⟨e0,b9,a',c',rfl,s5,n9,k9,ow5⟩
 obtain ⟨en,hen⟩:∃ en:EH,en=⟨c.term,c.log.last.1+1,kind,a',d.n,c',data⟩:=⟨_,rfl⟩
 have hex:en.abs=(c.term,c.log.last.1+1,kind,data):=by rw [hen];rfl
 have hn5:en.n≤1200:=by rw [hen];exact hd
 rw [show [I c.term,I (c.log.last.1+1),I kind,Value.slice a' d.n c']=en.cells by rw [hen];rfl] at k9
 have own5:en.Mine h5 (0,2):=by rw [hen];exact ow5
 clear ow5
 have q5:=k.sub s5
 conv=>whnf
 refine AIf.cut (fun e h'=>∃ e0,e=updL 48 e0 [(7,I c.log.last.1)]∧RCore h' p o oo (c.put kind data)∧Keeps [o,o+1,oo] h h') ?_ ?_
 ·conv=>whnf
  refine Av ?_;conv=>whnf
  refine Am (two h5 p b9) [] (two_sub _ _ _) (by decide +kernel) ?_;conv=>whnf
  refine Aa rfl ((two_l _ _ _).trans q5.str) rfl ?_
  refine Ab rfl ((two_r _ _ _).trans k9) rfl rfl ?_;conv=>whnf
  refine Ap (0,1) en.cells rfl rfl rfl rfl rfl rfl (by rw [hen];rfl) fun b6 h6 n6 s6 k6=>?_;conv=>whnf
  refine ⟨(two_sub _ _ _).trans s6,?_⟩;conv=>whnf
  have q6:=q5.sub s6
  have own6:en.Mine h6 (0,2):=Own.sub own5 s6
  have k69:=s6 _ _ k9
  refine ACalls.mono (rAppend_c (by omega:o+1≠0) q6.log lo (t:=(0,1)) (td:=(0,2)) (by simp) (by simp) (ents_one k6 own6.sl (by omega)) hes) ?_;rintro _ h7 ⟨rfl,l7,kk7⟩;conv=>whnf
  have k79:=kk7.get (by simp) k69
  have p7:=kk7.get (by simp) q6.str
  refine ⟨two_get (fun y hy=>?_) (fun y hy=>?_),?_⟩
  ·rw [q5.str] at hy;cases hy;exact p7
  ·rw [k9] at hy;cases hy;exact k79
  conv=>whnf
  have own7:en.Mine h7 (0,2):=Own.move own6 fun b y e=>kk7.get (by simp) e
  have out7:OutOk h7 oo c.out x.ox:=q6.out.move fun b t y ht e=>kk7 _ _ _ (by rw [ht];exact ap.b.symm) e
  have sd7:=q6.sd.move fun b y e=>kk7 _ _ _ (by simp:((o,3):Tag).1≠o+1) e
  have rd7:=q6.rd.move fun b y e=>kk7 _ _ _ (by simp:((o,4):Tag).1≠o+1) e
  simp only [List.map_cons,List.map_nil,hex] at l7 ⊢
  have kh7:Keeps [o,o+1,oo] h h7:=((s5.trans s6).keeps _).trans (kk7.keeps (by simp))
  refine ACmp.dec ?_;conv=>whnf
  by_cases c1:(c.log.append [(c.term,c.log.last.1+1,kind,data)]).1=0
  ·simp only [c1,decide_true]
   have eq:c.put kind data={c with log:=(c.log.append [(c.term,c.log.last.1+1,kind,data)]).2,out:={c.out with entries:=c.out.entries++[(c.term,c.log.last.1+1,kind,data)]}}:=by
    unfold CoreM.put;rw [if_pos c1]
   obtain ⟨d2,hd2⟩:∃ d2:CoreM,d2={c with log:=(c.log.append [(c.term,c.log.last.1+1,kind,data)]).2}:=⟨_,rfl⟩
   have q7:RX h7 p o oo d2 x:=by rw [hd2];exact ⟨p7,sd7,l7,rd7,out7⟩
   conv=>whnf
   refine Am (two h7 p b9) [13] (two_sub _ _ _) (by decide +kernel) ?_;conv=>whnf
   refine Aa rfl ((two_l _ _ _).trans p7) rfl ?_
   refine Ab rfl ((two_r _ _ _).trans k79) rfl rfl ?_;conv=>whnf
   refine ACalls.mono (copyE_any h7 (oo,2) (fun c=>ap.d (congrArg Prod.fst c)) en own7.sl (by omega)) ?_
   rintro _ h8 ⟨a8,c8,rfl,ow8,s8⟩
   refine ⟨(two_sub _ _ _).trans s8,?_⟩;conv=>whnf
   obtain ⟨en2,hen2⟩:∃ en2:EH,en2=⟨en.term,en.index,en.kind,a8,en.n,c8,en.data⟩:=⟨_,rfl⟩
   rw [show #[I en.term,I en.index,I en.kind,Value.slice a8 en.n c8]=en2.cells.toArray by rw [hen2];rfl]
   have own8:en2.Mine h8 (oo,2):=by rw [hen2];exact ow8
   have hea2:en2.abs=en.abs:=by rw [hen2];rfl
   have hn2:en2.n≤1200:=by rw [hen2];exact hn5
   refine Ap (0,1) en2.cells rfl rfl rfl rfl rfl rfl (by rw [hen2];rfl) fun b8 h9 n9' s9 k9'=>?_;conv=>whnf
   refine ⟨(two_sub _ _ _).trans (s8.trans s9),?_⟩;conv=>whnf
   have q9:=(q7.sub s8).sub s9
   refine AAppend.own (t:=(oo,1)) (E:=59) (z:=4) (by_:=48) (zero:=entry0z) (tx:=(0,1)) (xs:=en2.cells) rfl ⟨_,rfl⟩ rfl rfl rfl rfl (by omega) q9.out.oe
    ⟨rfl,Nat.le_refl _, .inr ⟨b8,0,_,_,_,rfl,k9',rfl⟩⟩ (by rw [hen2];rfl) (by omega) (by omega) fun a11 c11 h11 ow11 t11 _=>?_
   conv=>whnf
   have p11:=t11.get (u:=(o,0)) (fun c=>ap.a (congrArg Prod.fst c)) q9.str
   have e11:=t11.get (u:=(0,1)) (fun c=>ap.d (congrArg Prod.fst c).symm) (s9 _ _ (s8 _ _ k79))
   refine ⟨two_get (fun y hy=>?_) (fun y hy=>?_),?_⟩
   ·rw [p7] at hy;cases hy;rw [hd2] at p11;exact p11
   ·rw [k79] at hy;cases hy;exact e11
   conv=>whnf
   refine Af rfl rfl rfl (p11) rfl (coreCells {d2 with out:={d2.out with entries:=d2.out.entries++[en2.abs]}} {x with ox:={x.ox with oe:=⟨a11,x.ox.oe.n+1,c11⟩,es:=x.ox.es++[en2]}}) rfl fun h12 t12 k12 a12 e12=>?_;conv=>whnf
   have k13:=CoreX.pushE ap q9 t11 ow11 (Own.sub own8 s9) hn2 t12 k12
   rw [eq]
   rw [hea2,hex,hd2] at k13
   exact ⟨_,Au ⟨rfl,trivial⟩,⟨_,k13⟩,kh7.trans (((s8.trans s9).keeps _).trans ((t11.keep.keeps (by simp)).trans (t12.keep.keeps (by simp))))⟩
  ·simp only [c1,decide_false]
   conv=>whnf
   have eq:c.put kind data=c:=by unfold CoreM.put;rw [if_neg c1]
   have eq2:(c.log.append [(c.term,c.log.last.1+1,kind,data)]).2=c.log:=by unfold LG.append at c1 ⊢;split <;> simp_all
   rw [eq2] at l7
   rw [eq]
   exact ⟨_,Au ⟨rfl,trivial⟩,⟨_,p7,sd7,l7,rd7,out7⟩,kh7⟩
 rintro e h' ⟨e1,rfl,kF,kkF⟩
 conv=>whnf
 refine Ag (by omega) (by omega) (rfl) ?_;conv=>whnf
 exact ⟨rfl,kF,kkF⟩
theorem rrank_any {h:Heap} {p o oo:Nat} {c:CoreM} (ap:Apart o oo) (k:RCore h p o oo c) (lk:DLk c) (hs1:1≤c.self) (hs2:c.self≤5) :
  ACalls PR 104 #[Ptr p] h (fun v h'=>v = .tuple #[]∧RCore h' p o oo c.rank∧Keep o h h'):=by
 obtain ⟨x,k⟩:=k
 rw [CoreM.rank_eq]
 refine At mix Tryz.func104 rfl rfl Tryz.ntmps104 Tryz.results104 rfl ?_;conv=>whnf
 refine C2 (rlast_any k lk.lk.lo) ?_;conv=>whnf
 refine Av ?_;conv=>whnf
 refine Am (h) [9] (Sub.refl _) (by decide +kernel) ?_;conv=>whnf
 refine Aa rfl k.str rfl ?_;conv=>whnf
 obtain ⟨m,hm⟩:∃ m:Nat,c.self=m:=⟨c.self.toNat,by omega⟩
 refine Aj (n:=6) (z:=1) (j:=m) (by omega) (by omega) rfl rfl ?_;conv=>whnf
 obtain ⟨d,hd⟩:∃ d:CoreM,d=c.matched:=⟨_,rfl⟩
 unfold CoreM.matched at hd
 refine Af rfl rfl rfl k.str (by have:=mtch_cell c x hs1 hs2;rw [show 0+14+7+m*1=21+c.self.toNat by omega];exact Nat.ble_eq_true_of_le (List.getElem?_eq_some_iff.1 this).1) (coreCells d x) (by rw [hd,show 0+14+7+m*1=21+c.self.toNat by omega];exact mtch_set c x hs1 hs2 _) fun h2 t2 k2' a2 e2=>?_;conv=>whnf
 have k2:RX h2 p o oo d x:=k.set' ap.a t2 k2' (by rw [hd]) (by rw [hd]) (by rw [hd]) (by rw [hd]) (by rw [hd]) (by rw [hd]) (by rw [hd])
 rw [show c.matched=d from hd.symm]
 have e1:d.log=c.log:=by rw [hd]
 have e2':d.snap=c.snap:=by rw [hd]
 have e3:d.self=c.self:=by rw [hd]
 have e4:d.first=c.first:=by rw [hd]
 have lk2:DLk d:=lk.same e1 e2' e4
 refine C2 (rcrew_any k2 lk2.lk.lo lk2.sy) ?_;conv=>whnf
 refine Ab rfl k2.str rfl rfl ?_;conv=>whnf
 refine C2 (rrank_five h2 d.crewNow.1 x.z2 d.mtch lk2.nowOk.1 lk2.nowOk.2) ?_;conv=>whnf
 generalize rankOf d.crewNow.1 d.mtch=n
 refine Aa rfl k2.str rfl ?_;conv=>whnf
 refine C2 (rTerm_c k2.log lk2.lk.lo n) ?_;conv=>whnf
 refine Av ?_;conv=>whnf
 refine Av ?_;conv=>whnf
 refine Aa rfl k2.str rfl ?_;conv=>whnf
 unfold CoreM.ranked
 have fin:∀ {v:Value},v = .tuple #[]→RCore h2 p o oo d→v = .tuple #[]∧RCore h2 p o oo d∧Keep o h h2:=fun a b=>⟨a,b,t2.keep⟩
 have hh:d.has n d.term=decide ((d.log.term n).2=0∧(d.log.term n).1=d.term):=rfl
 by_cases c1:n≤d.commit
 ·refine Ac (c1) ?_;conv=>whnf
  rw [if_pos (.inl c1)]
  exact fin rfl ⟨_,k2⟩
 refine Ad (c1) ?_;conv=>whnf
 by_cases c2:¬ (d.log.term n).2=0
 ·refine Ac (c2) ?_;conv=>whnf
  rw [if_pos (.inr (by rw [hh];simp [c2]))]
  exact fin rfl ⟨_,k2⟩
 refine Ad ((by simpa using c2)) ?_;conv=>whnf
 refine Aa rfl k2.str rfl ?_;conv=>whnf
 by_cases c3:¬ (d.log.term n).1=d.term
 ·refine Ac (c3) ?_;conv=>whnf
  rw [if_pos (.inr (by rw [hh];simp [c3]))]
  exact fin rfl ⟨_,k2⟩
 refine Ad ((by simpa using c3)) ?_;conv=>whnf
 have c2:(d.log.term n).2=0:=by simpa using c2
 have c3:(d.log.term n).1=d.term:=by simpa using c3
 rw [if_neg (by rw [hh];simp [c1,c2,c3])]
 refine Af rfl rfl rfl (k2.str) rfl (coreCells {d with commit:=n} x) rfl fun h3 t3 k3' a3 e3'=>?_;conv=>whnf
 have k3:RX h3 p o oo {d with commit:=n} x:=k2.set' ap.a t3 k3'
 refine Av ?_;conv=>whnf
 refine Aa rfl k3.str rfl ?_;conv=>whnf
 refine ACalls.mono (refHas_any h3 d.crewNow.1 d.self lk2.nowOk.1 lk2.nowOk.2) ?_
 have kk3:Keep o h h3:=t2.keep.trans t3.keep
 cases hb:hasB d.crewNow.1 d.self with
 | true =>
  rintro _ _ ⟨rfl,rfl⟩
  conv=>whnf
  rw [if_neg (by simp)]
  exact ⟨rfl,⟨_,k3⟩,kk3⟩
 | false =>
  rintro _ _ ⟨rfl,rfl⟩
  conv=>whnf
  refine Aa rfl k3.str rfl ?_;conv=>whnf
  by_cases c4:d.crewNow.2≤n
  ·refine Ac (c4) ?_;conv=>whnf
   rw [if_pos ⟨rfl,c4⟩]
   refine ACalls.mono (rfollow_any ap.a ⟨_,k3⟩) ?_;rintro _ h4 ⟨rfl,k4,kk4⟩;conv=>whnf
   exact ⟨rfl,k4,kk3.trans kk4⟩
  ·refine Ad (c4) ?_;conv=>whnf
   rw [if_neg (by simp [c4])]
   exact ⟨rfl,⟨_,k3⟩,kk3⟩
theorem rown_any {h:Heap} {p o oo:Nat} {c:CoreM} {x:CX} (k:RX h p o oo c x) (lo:LOk c.log):ACalls PR 102 #[Ptr p] h (fun v h'=>v = .bool c.settled∧h=h'):=by
 refine Ar (As mix Tryz.func102 rfl rfl Tryz.ntmps102 Tryz.results102 rfl ?_);conv=>whnf
 refine Am (h) [] (Sub.refl _) (by decide +kernel) ?_;conv=>whnf
 refine Aa rfl k.str rfl ?_
 refine Aa rfl k.str rfl ?_;conv=>whnf
 refine C2 (rTerm_c k.log lo c.commit) ?_;conv=>whnf
 refine ⟨Sub.refl _,?_⟩;conv=>whnf
 unfold CoreM.settled CoreM.has
 by_cases c1:(c.log.term c.commit).2=0
 ·refine Ac (c1) ?_;conv=>whnf
  refine Aa rfl k.str rfl ?_;conv=>whnf
  refine ACmp.dec ?_;conv=>whnf
  exact ⟨by simp [c1],Sub.refl _⟩
 ·refine Ad (c1) ?_;conv=>whnf
  exact ⟨by simp [c1],Sub.refl _⟩
section
variable {g:Gh} {n:Int} {s:SavedM} {c:CoreM} {A:List Abs}
def Gh.wins (g:Gh) (n t:Int) (A:List Abs) (q:Int→Bool):Gh :=
  {g with H:={g.H with led:=fun u=>if u=t then n else g.H.led u,ll:=fun u=>if u=t then A else g.H.ll u,ini:=fun u=>if u=t then A else g.H.ini u,q:=fun u=>if u=t then q else g.H.q u,acc:=fun m u=>if m=n∧u=t then A.length else g.H.acc m u}}
theorem five0_at (m:Int):five0.get m=0:=by simp [five0,Five.get]
theorem five_all (x:Int) {m:Int} (h1:1≤m) (h2:m≤5):(Five.all x).get m=x:=by
 have:m=1∨m=2∨m=3∨m=4∨m=5:=by omega
 rcases this with rfl | rfl | rfl | rfl | rfl <;> rfl
def CoreM.office (c:CoreM):CoreM:={c.follow with state:=2,head:=c.self,beat:=2,next:=Five.all (c.log.last.1+1)}
theorem Mid.wins' (k:Mid g n s c A) (h1:c.state=1) (he:c.elected=true):∃ g',Ext n g g'∧g'.lim=g.lim∧Mid g' n s c.office A:=by
 obtain ⟨cd1,cd2,cd3,cd4,cd5,cd6⟩:=k.srv.cand h1
 have hn1:=k.srv.n1;have hn2:=k.srv.n2
 have htm:=k.srv.tm
 have hlim:=k.w.lim0 k.srv
 have hel:mostOf (conf g.H.first A) (hasB c.votes)=true:=by
  unfold CoreM.elected at he
  rw [k.srv.crew.1] at he
  rw [k.w.first];exact he
 have cw:Cand g.H c.term (· ≤ c.term) A (hasB c.votes):=⟨k.srv.good.lm,k.srv.good.mono,cd4,hel,fun v hv=>(cd6 v hv).2⟩
 have hl0:g.H.led c.term=0:=by
  by_cases z:g.H.led c.term=0
  ·exact z
  ·obtain ⟨v,v1,v2⟩:=cands_meet k.w.ok (k.w.ok.cand z).weak cw
   exact absurd ((k.w.q _ v z v1).symm.trans (cd6 v v2).1) cd1
 have cs:=cw.strict hl0
 have hll:=k.w.ll0 _ hl0
 have hac:∀ m,g.H.acc m c.term=0:=fun m=>by have:=k.w.acc m c.term;rw [hll] at this;simpa using this
 obtain ⟨g',hg'⟩:∃ g',g'=g.wins n c.term A (hasB c.votes):=⟨_,rfl⟩
 have e1:∀ u,g'.H.led u=if u=c.term then n else g.H.led u:=fun u=>by rw [hg'];rfl
 have e2:∀ u,g'.H.ll u=if u=c.term then A else g.H.ll u:=fun u=>by rw [hg'];rfl
 have e3:∀ u,g'.H.ini u=if u=c.term then A else g.H.ini u:=fun u=>by rw [hg'];rfl
 have e4:∀ u,g'.H.q u=if u=c.term then hasB c.votes else g.H.q u:=fun u=>by rw [hg'];rfl
 have e5:∀ m u,g'.H.acc m u=if m=n∧u=c.term then A.length else g.H.acc m u:=fun m u=>by rw [hg'];rfl
 have f1:g'.H.first=g.H.first:=by rw [hg'];rfl
 have f2:g'.tm=g.tm:=by rw [hg'];rfl
 have f3:g'.vt=g.vt:=by rw [hg'];rfl
 have f4:g'.cand=g.cand:=by rw [hg'];rfl
 have f5:g'.size=g.size:=by rw [hg'];rfl
 have f6:g'.lim=g.lim:=by rw [hg'];rfl
 clear hg'
 have ne:∀ u,g.H.led u≠0→u≠c.term:=fun u hu z=>hu (by rw [z];exact hl0)
 have x:Ext n g g':=by
  refine ⟨f5,by rw [f6];exact Int.le_refl _,f1,fun m _=>by rw [f2],by rw [f2];exact Int.le_refl _,fun m t _=>by rw [f3],fun m t _=>by rw [f3],fun t m _ _=>by rw [f4],fun t ht=>?_,fun t ht h=>?_,fun t ht _=>by rw [e2,if_neg (ne t ht)],fun m u=>?_,fun m u h=>?_⟩
  ·rw [e1,e2,e3,if_neg (ne t ht),if_neg (ne t ht),if_neg (ne t ht)];exact ⟨rfl,rfl,Pre.refl (Nat.le_refl _)⟩
  ·rw [e1] at h ⊢
   split
   ·rfl
   ·rename_i z;rw [if_neg z] at h;exact absurd ht h
  ·rw [e5];split
   ·rename_i z;rw [z.2,hac];omega
   ·exact Nat.le_refl _
  ·rw [e5,if_neg];rintro ⟨rfl,rfl⟩
   rcases h with h | h
   ·exact h rfl
   ·omega
 have ok:=k.w.ok
 have ho:HOk g'.H:=by
  refine ⟨fun t ht=>?_,fun t ht=>?_,fun t j e ht h=>?_,fun t j e ht h=>?_,fun t j e ht hk h=>?_,fun t ht=>?_,fun t v ht hv=>?_,fun u j e hu he2 h2 h1=>?_⟩
  ·rw [e2];split
   ·exact x.good k.srv.good
   ·rename_i z;rw [e1,if_neg z] at ht;exact x.good (ok.log t ht)
  ·rw [e2,e3];split
   ·exact Pre.refl (Nat.le_refl _)
   ·rename_i z;rw [e1,if_neg z] at ht;exact ok.ini t ht
  ·rw [e3] at h
   split at h
   ·rename_i z;rw [z];exact cd4 j e h
   ·rename_i z;rw [e1,if_neg z] at ht;exact ok.old t j e ht h
  ·rw [e2] at h
   split at h
   ·rename_i z;rw [z];have:=cd4 j e h;omega
   ·rename_i z;rw [e1,if_neg z] at ht;exact ok.top t j e ht h
  ·rw [e3] at hk;rw [e2] at h
   split at h
   ·rename_i z;rw [if_pos z] at hk
    have:=(List.getElem?_eq_some_iff.1 h).1;omega
   ·rename_i z;rw [if_neg z] at hk;rw [e1,if_neg z] at ht;exact ok.own t j e ht hk h
  ·rw [e3,e4,f1];split
   ·exact hel
   ·rename_i z;rw [e1,if_neg z] at ht;exact ok.most t ht
  ·rw [e4] at hv;rw [e3]
   split at hv
   ·rename_i z;rw [if_pos z,z]
    exact x.vow k.w (k.w.vt v c.term (by rw [(cd6 v hv).1];omega)) (cs.vow v hv)
   ·rename_i z;rw [if_neg z];rw [e1,if_neg z] at ht
    exact x.vow k.w (k.w.vt v t (by rw [k.w.q t v ht hv];exact ht)) (ok.vow t v ht hv)
  ·rw [e2] at he2 ⊢
   split at he2
   ·rename_i z;have:=cd4 j e he2;omega
   ·rename_i z;rw [if_neg z];rw [e1,if_neg z] at hu
    rw [f1]
    obtain ⟨a,i,b1,b2,b3,b4⟩:=ok.cf u j e hu he2 h2 h1
    exact ⟨a,i,b1,x.own hu b2,mostOf_mono (fun m hm=>by simp only [Acked,decide_eq_true_eq] at hm ⊢;exact Nat.le_trans hm (x.acc m u)) b3,b4⟩
 have w':Wld g':=by
  refine ⟨ho,f1.trans k.w.first,by rw [f5];exact k.w.sz3,by rw [f5];exact k.w.sz5,fun t ht=>?_,fun t ht=>?_,fun m u=>?_,fun m u hu=>?_,fun t ht=>?_,fun t v ht hv=>?_,fun m u hu=>?_,fun t e he=>?_,fun t j e he=>?_,fun t m hm hv=>?_,fun m m1 m2=>?_,fun t=>?_,by rw [f6];exact k.w.l3⟩
  ·rw [f2,f5];rw [e1] at ht ⊢
   split
   ·rename_i z;exact ⟨by rw [z];exact cd5,by rw [z,htm];exact Int.le_refl _,hn1,hn2⟩
   ·rename_i z;rw [if_neg z] at ht;exact k.w.led t ht
  ·rw [e1] at ht;rw [e2]
   split
   ·rename_i z;rw [if_pos z] at ht;omega
   ·rename_i z;rw [if_neg z] at ht;exact k.w.ll0 t ht
  ·rw [e5,e2]
   by_cases z:u=c.term
   ·rw [if_pos z];split
    ·exact Nat.le_refl _
    ·rw [z,hac];omega
   ·rw [if_neg z,if_neg fun y=>z y.2];exact k.w.acc m u
  ·rw [f2];rw [e5] at hu
   split at hu
   ·rename_i z;rw [z.1,z.2,htm];exact Int.le_refl _
   ·exact k.w.acc0 m u hu
  ·rw [e1] at ht ⊢;rw [e2,e5]
   by_cases z:t=c.term
   ·rw [if_pos z,if_pos z,if_pos ⟨rfl,z⟩]
   ·rw [if_neg z] at ht;rw [if_neg z,if_neg z,if_neg fun y=>z y.2];exact k.w.accL t ht
  ·rw [f3];rw [e1] at ht ⊢;rw [e4] at hv
   by_cases z:t=c.term
   ·rw [if_pos z] at hv ⊢;rw [z];exact (cd6 v hv).1
   ·rw [if_neg z] at hv ht ⊢;exact k.w.q t v ht hv
  ·rw [f3] at hu;rw [f2];exact k.w.vt m u hu
  ·rw [f5];rw [e2] at he
   split at he
   ·exact k.srv.eok e he
   ·exact k.w.eok t e he
  ·rw [e2] at he
   split at he
   ·exact k.srv.rep.ix j e he
   ·exact k.w.ix t j e he
  ·rw [f3] at hv;rw [f4]
   obtain ⟨a,b⟩:=k.w.cg t m hm hv
   exact ⟨x.good a,b⟩
  ·rw [f2,f6];rw [f5] at m2;exact k.w.l1 m m1 m2
  ·rw [e2,f6];split
   ·exact k.srv.al
   ·exact k.w.l2 t
 refine ⟨g',x,f6,w',?_,⟨k.kp.hard,k.kp.log⟩,fun p hp=>x.msg k.w (k.out p hp)⟩
 have hlast:=k.srv.rep.last
 have sv:=k.srv
 exact {
  n1:=sv.n1,n2:=by rw [f5];exact sv.n2,self:=sv.self,first:=sv.first,tm:=by rw [f2];exact sv.tm,t0:=sv.t0,rep:=sv.rep,si:=sv.si,s0:=sv.s0,s1:=sv.s1,sd:=sv.sd
  good:=x.good sv.good,low:=sv.low,eok:=by rw [f5];exact sv.eok,al:=by rw [f6];exact sv.al
  vl:=fun u i hu hl hw hi=>by
   rw [e1] at hl
   rw [e5] at hi
   by_cases z:u=c.term
   ·exfalso
    obtain ⟨j,e,rfl,h,he3⟩:=hw
    rw [e2,if_pos z] at h
    have:=cd4 j e h;omega
   ·rw [if_neg z] at hl;rw [if_neg fun y=>z y.2] at hi
    have hacc:=k.w.acc n u
    rcases sv.vl u i hu hl (x.own' hl (by omega) hw) hi with p | ⟨y,y1,y2,y3,y4⟩
    ·exact .inl (x.pre hl p)
    ·exact .inr ⟨y,y1,y2,by rw [(x.led y y3).1];exact y3,x.npre hl y3 (by omega) y4⟩
  c0:=sv.c0,c1:=sv.c1,com:=x.com (Int.le_refl _) sv.com,vote:=by rw [f3];exact sv.vote,vr0:=sv.vr0,vr1:=sv.vr1
  st := .inr (.inr rfl)
  lead:=fun _=>⟨by show g'.H.led c.term=n;rw [e1,if_pos rfl],by show g'.H.ll c.term=A;rw [e2,if_pos rfl],fun m m1 m2=>by
    show 0≤five0.get m∧(five0.get m).toNat≤_
    rw [five0_at];simp,fun m m1 m2=>by
    show 1≤(Five.all (c.log.last.1+1)).get m∧(Five.all (c.log.last.1+1)).get m≤_
    rw [five_all _ m1 m2,hlast];simp;omega⟩
  lc:=fun _ h2 h3=>by
   exfalso
   have h2':1≤c.commit:=h2
   have h3':termAt A c.commit.toNat=c.term:=h3
   have hc1:=sv.c1
   obtain ⟨e,he⟩:∃ e,A[c.commit.toNat-1]? = some e:=⟨A[c.commit.toNat-1],by simp⟩
   have:=termAt_some he
   rw [show c.commit.toNat-1+1=c.commit.toNat by omega] at this
   have:=cd4 _ e he
   omega
  cand:=fun h=>by cases h
  idle:=fun h=>absurd rfl h
  q1:=sv.q1,q2:=sv.q2,w1:=sv.w1,w2:=sv.w2
  b0:=fun _=>by show (1:Int)≤2;omega
  b1:=by show (0:Int)≤2;omega
  b2:=Int.le_refl 2
  v1:=Int.le_refl 0
  v2:=by show (0:Int)<64;omega
  r1:=Int.le_refl 0
  r2:=by show (0:Int)≤g'.lim;rw [f6];exact hlim
  rl:=by show (0:Int)≤g'.lim;rw [f6];exact hlim}
end
section
variable {g:Gh} {n:Int} {s:SavedM} {c:CoreM} {A:List Abs}
theorem put_ok (c:CoreM) (kind:Int) (data:List Int) (h:(c.log.append [(c.term,c.log.last.1+1,kind,data)]).1=0) :
  c.put kind data={c with log:=(c.log.append [(c.term,c.log.last.1+1,kind,data)]).2,out:={c.out with entries:=c.out.entries++[(c.term,c.log.last.1+1,kind,data)]}}:=if_pos h
theorem append_es {L:LG} {xs:List Abs} (h:(L.append xs).1=0):(L.append xs).2.es=L.es++xs∧(L.append xs).2.bt=L.bt:=by
 unfold LG.append at h ⊢
 split
 ·exact ⟨rfl,rfl⟩
 ·rename_i z;rw [if_neg z] at h;exact absurd h z
theorem Kp.push {c:CoreM} (k:Kp s c) {l:LG} {xs:List Abs} (hl:l.es=c.log.es++xs) (hs:c.out.snap.index=0):Kp s {c with log:=l,out:={c.out with entries:=c.out.entries++xs}}:=by
 refine ⟨k.hard,?_⟩
 rcases k.log with ⟨a,b,d,e⟩ | ⟨a,b,d,e,f,h⟩ | ⟨a,_⟩
 ·exact .inl ⟨a,b,d,by show l.es=_;rw [hl,e,List.append_assoc]⟩
 ·exact .inr (.inl ⟨a,b,d,e,f,by show l.es=_;rw [hl,h,List.append_assoc]⟩)
 ·omega
def Gh.leads (g:Gh) (n t:Int) (B:List Abs):Gh :=
  {g with H:={g.H with ll:=fun u=>if u=t then B else g.H.ll u,acc:=fun m u=>if m=n∧u=t then B.length else g.H.acc m u}}
theorem Mid.put (k:Mid g n s c A) (h2:c.state=2) (kind:Int) (data:List Int) (hs:c.out.snap.index=0) (hal:(A.length:Int)+1≤g.lim) (ht1:1≤c.term)
  (he:EOk g.size (c.term,(A.length:Int)+1,kind,data))
  (hcf:kind=2→Near (conf 14 A) (conf 14 (A++[(c.term,(A.length:Int)+1,kind,data)]))∧∃ i,i≤A.length∧Own1 g.H c.term i∧mostOf (conf 14 A) (Acked g.H c.term i)=true∧∀ j,Says A j→j<i) :
  ∃ g',Ext n g g'∧g'.lim=g.lim∧Mid g' n s (c.put kind data) (A++[(c.term,(A.length:Int)+1,kind,data)])∧(c.put kind data).state=2:=by
 obtain ⟨l1,l2,l3,l4⟩:=k.srv.lead h2
 have sv:=k.srv
 have hn1:=sv.n1;have hn2:=sv.n2
 have htm:=sv.tm
 have hlim:=k.w.lim0 sv
 have h3:=k.w.l3
 have hl0:g.H.led c.term≠0:=by rw [l1];omega
 have ok:=k.w.ok
 have hlast:=sv.rep.last
 have htl:=k.w.l1 n hn1 hn2
 obtain ⟨en,hen⟩:∃ en:Abs,en=(c.term,(A.length:Int)+1,kind,data):=⟨_,rfl⟩
 have en1:en.1=c.term:=by rw [hen]
 have en2:en.2.1=(A.length:Int)+1:=by rw [hen]
 have en3:en.2.2.1=kind:=by rw [hen]
 rw [← hen] at he hcf ⊢
 have hmono:∀ (i j:Nat) (e f:Abs),i≤j→(A++[en])[i]? = some e→(A++[en])[j]? = some f→e.1≤f.1:=by
  intro i j e f hij hi hj
  by_cases c1:j<A.length
  ·rw [List.getElem?_append_left (by omega)] at hi
   rw [List.getElem?_append_left c1] at hj
   exact sv.good.mono i j e f hij hi hj
  ·have hj':=(List.getElem?_eq_some_iff.1 hj).1
   simp only [List.length_append,List.length_singleton] at hj'
   have:j=A.length:=by omega
   subst this
   rw [List.getElem?_append_right (Nat.le_refl _),Nat.sub_self] at hj
   simp at hj;subst hj
   rw [en1]
   by_cases c2:i<A.length
   ·rw [List.getElem?_append_left c2] at hi;exact sv.low i e hi
   ·have:i=A.length:=by omega
    subst this
    rw [List.getElem?_append_right (Nat.le_refl _),Nat.sub_self] at hi
    simp at hi;subst hi;rw [en1];exact Int.le_refl _
 have happ:(c.log.append [en]).1=0:=by
  refine sv.rep.append_ok [en] (fun j e hj=>?_) hmono
  cases j with
  | zero =>
   simp at hj;subst hj
   refine ⟨by rw [en2];simp,by rw [en1];exact ht1,by rw [en1];omega,by rw [en2];omega,he.k0,he.k2,he.len⟩
  | succ j=>simp at hj
 have hput:=put_ok c kind data (by rw [hlast];rw [hen] at happ;exact happ)
 rw [hlast] at hput
 simp only [] at hput
 rw [← hen] at hput
 rw [hput]
 obtain ⟨rep',hbi⟩:=sv.rep.append [en] happ
 obtain ⟨hes,hbt⟩:=append_es happ
 obtain ⟨g',hg'⟩:∃ g',g'=g.leads n c.term (A++[en]):=⟨_,rfl⟩
 have e1:g'.H.led=g.H.led:=by rw [hg'];rfl
 have e2:∀ u,g'.H.ll u=if u=c.term then A++[en] else g.H.ll u:=fun u=>by rw [hg'];rfl
 have e3:g'.H.ini=g.H.ini:=by rw [hg'];rfl
 have e4:g'.H.q=g.H.q:=by rw [hg'];rfl
 have e5:∀ m u,g'.H.acc m u=if m=n∧u=c.term then (A++[en]).length else g.H.acc m u:=fun m u=>by rw [hg'];rfl
 have f1:g'.H.first=g.H.first:=by rw [hg'];rfl
 have f2:g'.tm=g.tm:=by rw [hg'];rfl
 have f3:g'.vt=g.vt:=by rw [hg'];rfl
 have f4:g'.cand=g.cand:=by rw [hg'];rfl
 have f5:g'.size=g.size:=by rw [hg'];rfl
 have f6:g'.lim=g.lim:=by rw [hg'];rfl
 clear hg'
 have haccn:g.H.acc n c.term≤A.length:=by rw [← l2];exact k.w.acc n c.term
 have x:Ext n g g':=by
  refine ⟨f5,by rw [f6];exact Int.le_refl _,f1,fun m _=>by rw [f2],by rw [f2];exact Int.le_refl _,fun m t _=>by rw [f3],fun m t _=>by rw [f3],fun t m _ _=>by rw [f4],fun t ht=>?_,fun t ht h=>by rw [e1] at h;exact absurd ht h,fun t ht h=>?_,fun m u=>?_,fun m u h=>?_⟩
  ·rw [e1,e2,e3];refine ⟨rfl,rfl,?_⟩
   split
   ·rename_i z;rw [z,l2];exact Pre.append
   ·exact Pre.refl (Nat.le_refl _)
  ·rw [e2,if_neg];rintro rfl;exact h l1
  ·rw [e5];split
   ·rename_i z;rw [z.1,z.2,List.length_append];omega
   ·exact Nat.le_refl _
  ·rw [e5,if_neg];rintro ⟨rfl,rfl⟩
   rcases h with h | h
   ·exact h rfl
   ·omega
 have getEn:∀ (j:Nat) (e:Abs),(A++[en])[j]? = some e→(A[j]? = some e∧j<A.length)∨(j=A.length∧e=en):=fun j e h=>by
  by_cases c1:j<A.length
  ·rw [List.getElem?_append_left c1] at h;exact .inl ⟨h,c1⟩
  ·have hj':=(List.getElem?_eq_some_iff.1 h).1
   simp only [List.length_append,List.length_singleton] at hj'
   have:j=A.length:=by omega
   subst this
   rw [List.getElem?_append_right (Nat.le_refl _),Nat.sub_self] at h
   simp at h;exact .inr ⟨rfl,h.symm⟩
 have hgood:Good g'.H (A++[en]):=by
  refine ⟨fun j e h=>?_,hmono⟩
  rcases getEn j e h with ⟨h,hj⟩ | ⟨rfl,rfl⟩
  ·obtain ⟨a,b,d⟩:=(x.good sv.good).lm j e h
   exact ⟨a,b,(Pre.append.le (by omega)).symm.trans d⟩
  ·refine ⟨by rw [en1];exact ht1,by rw [e1,en1];exact hl0,?_⟩
   rw [en1,e2,if_pos rfl];exact Pre.refl (by simp)
 have hini:(g.H.ini c.term).length≤A.length:=by have:=(ok.ini _ hl0).b;rw [l2] at this;exact this
 have ho:HOk g'.H:=by
  refine ⟨fun t ht=>?_,fun t ht=>?_,fun t j e ht h=>?_,fun t j e ht h=>?_,fun t j e ht hk h=>?_,fun t ht=>?_,fun t v ht hv=>?_,fun u j e hu he2 hk2 h1=>?_⟩
  ·rw [e1] at ht;rw [e2];split
   ·exact hgood
   ·exact x.good (ok.log t ht)
  ·rw [e1] at ht;rw [e2,e3];split
   ·rename_i z;have:=ok.ini t ht;rw [z,l2] at this;rw [z];exact this.trans (Pre.append.le this.b)
   ·exact ok.ini t ht
  ·rw [e1] at ht;rw [e3] at h;exact ok.old t j e ht h
  ·rw [e1] at ht;rw [e2] at h
   split at h
   ·rename_i z;rw [z]
    rcases getEn j e h with ⟨h,hj⟩ | ⟨rfl,rfl⟩
    ·exact sv.low j e h
    ·rw [en1];exact Int.le_refl _
   ·exact ok.top t j e ht h
  ·rw [e1] at ht;rw [e3] at hk;rw [e2] at h
   split at h
   ·rename_i z
    rcases getEn j e h with ⟨h,hj⟩ | ⟨rfl,rfl⟩
    ·exact ok.own t j e ht hk (by rw [z,l2];exact h)
    ·rw [en1,z]
   ·exact ok.own t j e ht hk h
  ·rw [e1] at ht;rw [e3,e4,f1];exact ok.most t ht
  ·rw [e1] at ht;rw [e4] at hv;rw [e3]
   exact x.vow k.w (k.w.vt v t (by rw [k.w.q t v ht hv];exact ht)) (ok.vow t v ht hv)
  ·rw [e1] at hu;rw [f1];rw [e2] at he2 ⊢
   have mono:∀ {i:Nat} {d:Int},mostOf d (Acked g.H u i)=true→mostOf d (Acked g'.H u i)=true:=fun h=>mostOf_mono (fun m hm=>by simp only [Acked,decide_eq_true_eq] at hm ⊢;exact Nat.le_trans hm (x.acc m u)) h
   split at he2
   ·rename_i z;rw [if_pos z]
    rcases getEn j e he2 with ⟨h,hj⟩ | ⟨rfl,rfl⟩
    ·obtain ⟨a,i,b1,b2,b3,b4⟩:=ok.cf u j e hu (by rw [z,l2];exact h) hk2 h1
     rw [z,l2] at a b3 b4
     rw [List.take_append_of_le_length (by omega),List.take_append_of_le_length (by omega)]
     rw [← z] at b3
     exact ⟨a,i,b1,x.own hu b2,mono b3,fun m hm sm=>b4 m hm ((Pre.append (A:=A) (B:=[en])).symm.says (by omega) sm)⟩
    ·obtain ⟨a,i,b1,b2,b3,b4⟩:=hcf (by rw [← en3];exact hk2)
     rw [List.take_append_of_le_length (Nat.le_refl _),List.take_of_length_le (show A.length≤A.length by omega),List.take_of_length_le (by simp),k.w.first]
     rw [← z] at b2 b3
     exact ⟨a,i,b1,x.own hu b2,mono b3,fun m hm sm=>b4 m ((Pre.append (A:=A) (B:=[e])).symm.says (by omega) sm)⟩
   ·rename_i z;rw [if_neg z]
    obtain ⟨a,i,b1,b2,b3,b4⟩:=ok.cf u j e hu he2 hk2 h1
    exact ⟨a,i,b1,x.own hu b2,mono b3,b4⟩
 have eok':∀ e∈A++[en],EOk g.size e:=fun e h=>by
  rcases List.mem_append.1 h with h | h
  ·exact sv.eok e h
  ·rw [List.mem_singleton.1 h];exact he
 have w':Wld g':=by
  refine ⟨ho,f1.trans k.w.first,by rw [f5];exact k.w.sz3,by rw [f5];exact k.w.sz5,fun t ht=>by rw [e1] at ht ⊢;rw [f2,f5];exact k.w.led t ht,fun t ht=>?_,fun m u=>?_,fun m u hu=>?_,fun t ht=>?_,fun t v ht hv=>by rw [e1] at ht ⊢;rw [e4] at hv;rw [f3];exact k.w.q t v ht hv,fun m u hu=>by rw [f3] at hu;rw [f2];exact k.w.vt m u hu,fun t e he=>?_,fun t j e he=>?_,fun t m hm hv=>?_,fun m m1 m2=>by rw [f2,f6];rw [f5] at m2;exact k.w.l1 m m1 m2,fun t=>?_,by rw [f6];exact h3⟩
  ·rw [e1] at ht;rw [e2,if_neg (fun z=>hl0 (by rw [← z];exact ht))];exact k.w.ll0 t ht
  ·rw [e5,e2]
   by_cases z:u=c.term
   ·rw [if_pos z];split
    ·exact Nat.le_refl _
    ·have:=k.w.acc m u;rw [z,l2] at this;rw [z,List.length_append];omega
   ·rw [if_neg z,if_neg fun y=>z y.2];exact k.w.acc m u
  ·rw [f2];rw [e5] at hu
   split at hu
   ·rename_i z;rw [z.1,z.2,htm];exact Int.le_refl _
   ·exact k.w.acc0 m u hu
  ·rw [e1] at ht ⊢;rw [e2,e5]
   by_cases z:t=c.term
   ·rw [if_pos z,if_pos ⟨by rw [z];exact l1,z⟩]
   ·rw [if_neg z,if_neg fun y=>z y.2];exact k.w.accL t ht
  ·rw [f5];rw [e2] at he
   split at he
   ·exact eok' e he
   ·exact k.w.eok t e he
  ·rw [e2] at he
   split at he
   ·exact rep'.ix j e he
   ·exact k.w.ix t j e he
  ·rw [f3] at hv;rw [f4]
   obtain ⟨a,b⟩:=k.w.cg t m hm hv
   exact ⟨x.good a,b⟩
  ·rw [e2,f6];split
   ·rw [List.length_append];simp;omega
   ·exact k.w.l2 t
 refine ⟨g',x,f6,⟨w',?_,k.kp.push hes hs,fun p hp=>x.msg k.w (k.out p hp)⟩,h2⟩
 have pA:Pre A.length A (A++[en]):=Pre.append
 have hc1:=sv.c1
 exact {
  n1:=sv.n1,n2:=by rw [f5];exact sv.n2,self:=sv.self,first:=sv.first,tm:=by rw [f2];exact sv.tm,t0:=sv.t0,rep:=rep',si:=by show c.snap.index=(c.log.append [en]).2.bi;rw [hbi];exact sv.si
  s0:=fun h=>sv.s0 (by have:(c.log.append [en]).2.bi=0:=h;rw [hbi] at this;exact this)
  s1:=fun h=>by
   have h':0<(c.log.append [en]).2.bi:=h
   rw [hbi] at h'
   have:=sv.s1 h'
   show c.snap.term=(c.log.append [en]).2.bt∧c.snap.crew=conf 14 ((A++[en]).take (c.log.append [en]).2.bi.toNat)
   rw [hbi,hbt,← pA.take_le sv.rep.le];exact this
  sd:=sv.sd
  good:=hgood
  low:=fun j e h=>by
   rcases getEn j e h with ⟨h,hj⟩ | ⟨rfl,rfl⟩
   ·exact sv.low j e h
   ·rw [en1];exact Int.le_refl _
  eok:=by rw [f5];exact eok',al:=by rw [f6,List.length_append];simp;omega
  vl:=fun u i hu hl hw hi=>by
   rw [e1] at hl
   by_cases z:u=c.term
   ·left
    rw [e5,if_pos ⟨rfl,z⟩] at hi
    rw [e2,if_pos z];exact Pre.refl hi
   ·rw [e5,if_neg fun y=>z y.2] at hi
    have hacc:=k.w.acc n u
    rcases sv.vl u i hu hl (x.own' hl (by omega) hw) hi with p | ⟨y,y1,y2,y3,y4⟩
    ·exact .inl ((x.pre hl p).trans (pA.le p.b))
    ·exact .inr ⟨y,y1,y2,by rw [e1];exact y3,x.npre hl y3 (by omega) y4⟩
  c0:=by show (c.log.append [en]).2.bi≤c.commit;rw [hbi];exact sv.c0
  c1:=by show c.commit≤((A++[en]).length:Nat);rw [List.length_append];simp;omega
  com:=(x.com (Int.le_refl _) sv.com).move (pA.le (by omega)),vote:=by rw [f3];exact sv.vote,vr0:=sv.vr0,vr1:=sv.vr1
  st := .inr (.inr h2)
  lead:=fun _=>⟨by rw [e1];exact l1,by show g'.H.ll c.term=_;rw [e2,if_pos rfl],fun m m1 m2=>⟨(l3 m m1 m2).1,Nat.le_trans (l3 m m1 m2).2 (x.acc _ _)⟩,fun m m1 m2=>by
    have:=l4 m m1 m2
    refine ⟨this.1,?_⟩
    show c.next.get m≤((A++[en]).length:Nat)+1
    rw [List.length_append];simp;omega⟩
  lc:=fun _ h2' h3'=>by
   have h2'':1≤c.commit:=h2'
   have h3'':termAt (A++[en]) c.commit.toNat=c.term:=h3'
   rw [← pA.termAt (by omega)] at h3''
   exact x.chosen (sv.lc h2 h2'' h3'')
  cand:=fun h=>by rw [show ({c with log:=(c.log.append [en]).2,out:={c.out with entries:=c.out.entries++[en]}}:CoreM).state=c.state from rfl,h2] at h;cases h
  idle:=fun h=>absurd h2 h
  q1:=sv.q1,q2:=sv.q2,w1:=sv.w1,w2:=sv.w2,b0:=sv.b0,b1:=sv.b1,b2:=sv.b2,v1:=sv.v1,v2:=sv.v2,r1:=sv.r1
  r2:=by rw [f6];exact sv.r2
  rl:=by rw [f6];exact sv.rl}
end
section
variable {g:Gh} {n:Int} {s:SavedM} {c:CoreM} {A:List Abs}
theorem Mid.send (k:Mid g n s c A) (h2:c.state=2) {m:Int} (m1:1≤m) (m2:m≤g.size) (mn:m≠n):Mid g n s (c.send m) A:=by
 obtain ⟨l1,l2,l3,l4⟩:=k.srv.lead h2
 have sv:=k.srv
 have hn1:=sv.n1;have hn2:=sv.n2;have hs5:=k.w.sz5
 have hl0:g.H.led c.term≠0:=by rw [l1];omega
 have ht1:=(k.w.led _ hl0).1
 have hself:=sv.self
 have hlim:=k.w.lim0 sv
 obtain ⟨x1,x2⟩:=l4 m m1 (by omega)
 have hb:=sv.rep.lo;have hle:=sv.rep.le
 have hc0:=sv.c0;have hc1:=sv.c1
 have htm:c.term≤g.tm n:=by rw [sv.tm];exact Int.le_refl _
 unfold CoreM.send
 split
 ·rename_i hx
  refine k.say ⟨by show 1≤c.self;omega,by show c.self≤g.size;omega,m1,m2,by show c.self≠m;omega,ht1,by show c.term≤g.tm c.self;rw [hself];exact htm,sv.r1,sv.r2, .inr (.inr (.inr (.inr (.inl ⟨rfl,rfl,?_⟩))))⟩
  have hbi:0<c.log.bi:=by omega
  obtain ⟨s1,s2⟩:=sv.s1 hbi
  show g.H.led c.term=c.self∧1≤c.snap.index∧c.snap.index≤(g.H.ll c.term).length∧c.snap.term=termAt (g.H.ll c.term) c.snap.index.toNat∧c.snap.crew=conf 14 ((g.H.ll c.term).take c.snap.index.toNat)∧c.snap.data.length≤8192∧Com g.H c.term c.snap.index.toNat (g.H.ll c.term)
  rw [l2,sv.si]
  exact ⟨by rw [l1,hself],by omega,by omega,by rw [s1,sv.rep.bt],s2,sv.sd,sv.com.less (by omega)⟩
 ·rename_i hx
  have hx':c.log.bi<c.next.get m:=by omega
  have hsl:=sv.rep.slice hx' x2
  have htr:=sv.rep.term_in (i:=c.next.get m-1) (by omega) (by omega)
  refine k.say ⟨by show 1≤c.self;omega,by show c.self≤g.size;omega,m1,m2,by show c.self≠m;omega,ht1,by show c.term≤g.tm c.self;rw [hself];exact htm,sv.r1,sv.r2, .inr (.inr (.inl ⟨rfl,rfl,?_⟩))⟩
  show g.H.led c.term=c.self∧0≤c.next.get m-1∧c.next.get m-1≤(g.H.ll c.term).length∧(c.log.term (c.next.get m-1)).1=termAt (g.H.ll c.term) (c.next.get m-1).toNat∧(c.log.slice (c.next.get m) 8).1.length≤8∧c.next.get m-1+(c.log.slice (c.next.get m) 8).1.length≤(g.H.ll c.term).length ∧
   (c.log.slice (c.next.get m) 8).1=((g.H.ll c.term).drop (c.next.get m-1).toNat).take (c.log.slice (c.next.get m) 8).1.length∧0≤c.commit∧c.commit≤(g.H.ll c.term).length∧Com g.H c.term c.commit.toNat (g.H.ll c.term)
  rw [l2,hsl,htr]
  refine ⟨by rw [l1,hself],by omega,by omega,rfl,by rw [List.length_take];omega,by rw [List.length_take,List.length_drop];omega,?_,by omega,hc1,sv.com⟩
  rw [List.length_take]
  by_cases h:8≤(A.drop (c.next.get m-1).toNat).length
  ·rw [Nat.min_eq_left h]
  ·rw [Nat.min_eq_right (by omega),List.take_of_length_le (by omega),List.take_length]
theorem send_st (c:CoreM) (m:Int):(c.send m).state=c.state:=by unfold CoreM.send;split <;> rfl
theorem Mid.sends (h2:c.state=2):∀ (l:List Int) (c:CoreM),c.state=2→Mid g n s c A→(∀ m∈l,1≤m∧m≤g.size∧m≠n)→Mid g n s (l.foldl CoreM.send c) A∧(l.foldl CoreM.send c).state=2
 | [],c,hc,k,_=>⟨k,hc⟩
 | m::l,c,hc,k,h=>by
  obtain ⟨m1,m2,m3⟩:=h m (by simp)
  rw [List.foldl_cons]
  exact Mid.sends h2 l _ ((send_st c m).trans hc) (k.send hc m1 m2 m3) fun j hj=>h j (by simp [hj])
theorem Mid.sendAll (k:Mid g n s c A) (h2:c.state=2):Mid g n s c.sendAll A∧c.sendAll.state=2 :=
 Mid.sends h2 c.others c h2 k fun m hm=>k.srv.others k.w m hm
theorem foldMax1:∀ (l:List Int) (a:Int),l.foldl (fun a b=>if a<b then b else a) a=a∨l.foldl (fun a b=>if a<b then b else a) a∈l
 | [],a => .inl rfl
 | y::l,a=>by
  rw [List.foldl_cons]
  rcases foldMax1 l (if a<y then y else a) with h | h
  ·split at h
   ·rename_i c;rw [if_pos c,h];exact .inr (by simp)
   ·rename_i c;rw [if_neg c,h];exact .inl rfl
  ·exact .inr (List.mem_cons_of_mem _ h)
theorem five_get_set (f:Five) (n m v:Int) (h1:1≤m) (h2:m≤5):(f.set n v).get m=if m=n then v else f.get m:=by
 have:m=1∨m=2∨m=3∨m=4∨m=5:=by omega
 rcases this with rfl | rfl | rfl | rfl | rfl <;> simp [Five.set,Five.get,eq_comm]
theorem k_first (w:Wld g):g.H.first=14:=w.first
theorem rankOf_most {now:Int} {f:Five} (h:0<rankOf now f):mostOf now (fun m=>decide (rankOf now f≤f.get m))=true:=by
 have hm:rankOf now f∈((ls (m5 now)).map f.get).filter fun v=>decide (((ls (m5 now)).map f.get).length<2*cnt v ((ls (m5 now)).map f.get)):=by
  have:=foldMax1 (((ls (m5 now)).map f.get).filter fun v=>decide (((ls (m5 now)).map f.get).length<2*cnt v ((ls (m5 now)).map f.get))) 0
  rcases this with e | e
  ·have e':rankOf now f=0:=e
   omega
  ·exact e
 generalize rankOf now f=r at *
 have:=(List.mem_filter.1 hm).2
 simp only [decide_eq_true_eq,List.length_map] at this
 simp only [mostOf,decide_eq_true_eq]
 have e:cnt r ((ls (m5 now)).map f.get)=((ls (m5 now)).filter fun m=>decide (r≤f.get m)).length:=by
  unfold cnt
  rw [List.countP_map,List.countP_eq_length_filter]
  rfl
 omega
theorem Srv.matched (w:Wld g) (k:Srv g n c A) (h2:c.state=2):Srv g n {c with mtch:=c.mtch.set c.self c.log.last.1} A:=by
 obtain ⟨l1,l2,l3,l4⟩:=k.lead h2
 have hn1:=k.n1;have hn2:=k.n2
 exact {k with
  lead:=fun _=>⟨l1,l2,fun m m1 m2=>by
   show 0≤(c.mtch.set c.self c.log.last.1).get m∧((c.mtch.set c.self c.log.last.1).get m).toNat≤_
   rw [five_get_set _ _ _ _ m1 m2,k.self,k.rep.last]
   split
   ·rename_i z
    refine ⟨by simp,?_⟩
    have:=w.accL c.term (by rw [l1];omega)
    rw [l1,l2] at this
    rw [z];show ((A.length:Int)).toNat≤g.H.acc n c.term;omega
   ·exact l3 m m1 m2,l4⟩
  idle:=fun h=>absurd h2 h}
theorem Mid.rank (k:Mid g n s c A) (h2:c.state=2):Mid g n s c.rank A:=by
 obtain ⟨d,hd⟩:∃ d:CoreM,d={c with mtch:=c.mtch.set c.self c.log.last.1}:=⟨_,rfl⟩
 have sd:Srv g n d A:=by rw [hd];exact k.srv.matched k.w h2
 have kd:Mid g n s d A:=⟨k.w,sd,by rw [hd];exact ⟨k.kp.hard,k.kp.log⟩,by rw [hd];exact k.out⟩
 have hd2:d.state=2:=by rw [hd];exact h2
 have er:c.rank=(let r:=rankOf d.crewNow.1 d.mtch;if r≤d.commit∨d.has r d.term=false then d else if hasB d.crewNow.1 d.self=false∧d.crewNow.2≤r then ({d with commit:=r}:CoreM).follow else {d with commit:=r}):=by rw [hd];rfl
 rw [er]
 clear er hd k
 obtain ⟨l1,l2,l3,l4⟩:=sd.lead hd2
 have hn1:=sd.n1;have hn2:=sd.n2
 have hl0:g.H.led d.term≠0:=by rw [l1];omega
 have hb:=sd.rep.lo;have hc0:=sd.c0;have hc1:=sd.c1
 simp only []
 generalize hr:rankOf d.crewNow.1 d.mtch=r
 by_cases c1:r≤d.commit∨d.has r d.term=false
 ·rw [if_pos c1];exact kd
 ·rw [if_neg c1]
  have hgt:d.commit<r:=by omega
  have hhas:d.has r d.term=true:=by
   cases hh:d.has r d.term
   ·exact absurd (.inr hh) c1
   ·rfl
  obtain ⟨r1,r2,r3⟩:=(sd.rep.has d rfl r d.term).1 hhas
  have hmost:=rankOf_most (now:=d.crewNow.1) (f:=d.mtch) (by rw [hr];omega)
  rw [hr,sd.crew.1] at hmost
  have hch:Chosen g.H d.term r.toNat:=by
   refine ⟨hl0,?_,A.length,by omega,by rw [l2];exact Nat.le_refl _,?_⟩
   ·obtain ⟨e,he⟩:∃ e,A[r.toNat-1]? = some e:=⟨A[r.toNat-1],by simp⟩
    have ht:=termAt_some he
    rw [show r.toNat-1+1=r.toNat by omega,r3] at ht
    exact ⟨r.toNat-1,e,by omega,by rw [l2];exact he,ht.symm⟩
   ·rw [k_first kd.w,l2,List.take_length]
    simp only [mostOf,decide_eq_true_eq] at hmost ⊢
    refine Nat.lt_of_lt_of_le hmost (Nat.mul_le_mul_left 2 ?_)
    have:∀ l:List Int,(∀ m∈l,1≤m∧m≤5)→(l.filter fun m=>decide (r≤d.mtch.get m)).length≤(l.filter (Acked g.H d.term r.toNat)).length:=by
     intro l
     induction l with
     | nil=>intro _;simp
     | cons z l ih =>
      intro hl
      have hz:=l3 z (hl z (by simp)).1 (hl z (by simp)).2
      have ih:=ih fun m hm=>hl m (by simp [hm])
      rw [List.filter_cons,List.filter_cons]
      by_cases c2:r≤d.mtch.get z
      ·rw [if_pos (by simpa using c2),if_pos (by simp only [Acked,decide_eq_true_eq];omega)];simp;exact ih
      ·rw [if_neg (by simpa using c2)]
       split
       ·simp;omega
       ·exact ih
    exact this _ (ls_in1 _)
  have sr:Srv g n {d with commit:=r} A:={sd with
   c0:=by show d.log.bi≤r;omega
   c1:=r2
   com := .inr ⟨d.term,r.toNat,hch,Int.le_refl _,Nat.le_refl _,by rw [l2];exact Pre.refl (by show r.toNat≤_;omega)⟩
   lc:=fun _ _ _=>hch}
  have km:Mid g n s {d with commit:=r} A:=⟨kd.w,sr,⟨kd.kp.hard,kd.kp.log⟩,kd.out⟩
  split
  ·exact km.follow
  ·exact km
theorem Mid.confirm (k:Mid g n s c A):Mid g n s c.confirm A:=by
 unfold CoreM.confirm
 split
 ·exact k
 ·rename_i h
  have sv:=k.srv
  refine ⟨k.w,?_,⟨k.kp.hard,k.kp.log⟩,k.out⟩
  exact {sv with
   idle:=fun z=>absurd z h
   rl:=by
    have:=List.length_filter_le (fun r => !c.roundOk r) c.reads
    have:=sv.rl
    show ((c.reads.filter fun r => !c.roundOk r).length:Int)≤_
    omega}
end
section
variable {g:Gh} {n:Int} {s:SavedM} {c:CoreM} {A:List Abs}
def Gh.more (g:Gh) (d:Int):Gh:={g with lim:=g.lim+d}
theorem ext_more {d:Int} (h:0≤d):Ext n g (g.more d) :=
 ⟨rfl,by show g.lim≤g.lim+d;omega,rfl,fun _ _=>rfl,Int.le_refl _,fun _ _ _=>rfl,fun _ _ _=>rfl,fun _ _ _ _=>rfl,fun _ _=>⟨rfl,rfl,Pre.refl (Nat.le_refl _)⟩,fun t h h'=>absurd h h',fun _ _ _=>rfl,fun _ _=>Nat.le_refl _,fun _ _ _=>rfl⟩
theorem Wld.more (w:Wld g) {d:Int} (h:0≤d) (hl:g.lim+d≤100000000):Wld (g.more d) :=
 {w with
  l1:=fun m m1 m2=>by have:=w.l1 m m1 m2;show g.tm m≤g.lim+d;omega
  l2:=fun t=>by have:=w.l2 t;show ((g.H.ll t).length:Int)≤g.lim+d;omega
  l3:=hl}
theorem Srv.more (k:Srv g n c A) {d:Int} (h:0≤d):Srv (g.more d) n c A :=
 {k with
  al:=by have:=k.al;show (A.length:Int)≤g.lim+d;omega
  r2:=by have:=k.r2;show c.round≤g.lim+d;omega
  rl:=by have:=k.rl;show (c.reads.length:Int)≤g.lim+d;omega}
theorem CoreM.lead_eq (c:CoreM):c.lead=((c.office.put 0 []).sendAll).rank:=rfl
theorem Mid.lead (k:Mid g n s c A) (h1:c.state=1) (he:c.elected=true) (hs:c.out.snap.index=0) (hal:(A.length:Int)+1≤g.lim) :
  ∃ g' A',Ext n g g'∧g'.lim=g.lim∧Mid g' n s c.lead A':=by
 obtain ⟨_,_,_,_,ct,_⟩:=k.srv.cand h1
 obtain ⟨g1,x1,l1,k1⟩:∃ g',Ext n g g'∧g'.lim=g.lim∧Mid g' n s c.office A:=by
  obtain ⟨g',x,l,y⟩:=k.wins' h1 he
  exact ⟨g',x,l,y⟩
 obtain ⟨g2,x2,l2,k2,s2⟩:=k1.put rfl 0 [] hs (by rw [l1];exact hal) ct ⟨Int.le_refl 0,by show (0:Int)≤2;omega,by simp,by simp,fun h=>by cases h⟩ (fun h=>by cases h)
 obtain ⟨k3,s3⟩:=k2.sendAll s2
 exact ⟨g2,_,x1.trans x2,l2.trans l1,k3.rank s3⟩
theorem Mid.saysVote (h1:c.state=1):∀ (l:List Int) (c:CoreM),c.state=1→Mid g n s c A→(∀ m∈l,1≤m∧m≤g.size∧m≠n) →
  Mid g n s (l.foldl (fun x m=>x.say m {post0 with kind:=1,index:=(A.length:Int),logTerm:=termAt A A.length}) c) A∧(l.foldl (fun x m=>x.say m {post0 with kind:=1,index:=(A.length:Int),logTerm:=termAt A A.length}) c).state=1
 | [],c,hc,k,_=>⟨k,hc⟩
 | m::l,c,hc,k,h=>by
  obtain ⟨m1,m2,m3⟩:=h m (by simp)
  obtain ⟨a,b,d,e,f,_⟩:=k.srv.cand hc
  have sv:=k.srv
  have hself:=sv.self
  have hn1:=sv.n1;have hn2:=sv.n2
  have hlim:=k.w.lim0 sv
  rw [List.foldl_cons]
  refine Mid.saysVote h1 l _ hc (k.say ?_) fun j hj=>h j (by simp [hj])
  refine ⟨by show 1≤c.self;omega,by show c.self≤g.size;omega,m1,m2,by show c.self≠m;omega,f,by show c.term≤g.tm c.self;rw [hself,sv.tm];exact Int.le_refl _,Int.le_refl 0,hlim, .inl ⟨rfl,rfl,?_⟩⟩
  show g.vt c.self c.term=c.self∧(A.length:Int)=(g.cand c.term c.self).length∧termAt A A.length=termAt (g.cand c.term c.self) (g.cand c.term c.self).length∧(A.length:Int)≤g.lim
  rw [hself,d]
  exact ⟨b,rfl,rfl,sv.al⟩
def CoreM.stoodM (c:CoreM):CoreM:={c.learn (c.term+1) with vote:=c.self,state:=1,votes:=2^c.self.toNat}
theorem CoreM.stand_is (c:CoreM):c.stand=if hasB c.crewNow.1 c.self=false∨c.term=9007199254740991 then c
 else if (c.stoodM.others.foldl (fun x m=>x.say m {post0 with kind:=1,index:=c.log.last.1,logTerm:=c.log.last.2}) c.stoodM).elected=true then (c.stoodM.others.foldl (fun x m=>x.say m {post0 with kind:=1,index:=c.log.last.1,logTerm:=c.log.last.2}) c.stoodM).lead
  else c.stoodM.others.foldl (fun x m=>x.say m {post0 with kind:=1,index:=c.log.last.1,logTerm:=c.log.last.2}) c.stoodM:=rfl
theorem says_out (p:PostM):∀ (l:List Int) (c:CoreM),(l.foldl (fun x m=>x.say m p) c).out.snap=c.out.snap
 | [],c=>rfl
 | m::l,c=>by rw [List.foldl_cons,says_out p l];rfl
theorem Mid.stand (k:Mid g n s c A) (hs:c.out.snap.index=0) (hal:(A.length:Int)+1≤g.lim) (htl:c.term+1≤g.lim):∃ g' A',Ext n g g'∧g'.lim=g.lim∧Mid g' n s c.stand A':=by
 rw [CoreM.stand_is]
 split
 ·exact ⟨g,A,Ext.refl _ _,rfl,k⟩
 ·obtain ⟨x,kd⟩:=k.stood htl
  have hlast:=k.srv.rep.last
  rw [hlast]
  simp only []
  have ho:=fun m hm=>kd.srv.others kd.w m hm
  obtain ⟨ke,se⟩:=Mid.saysVote (c:=c.stoodM) rfl c.stoodM.others c.stoodM rfl kd ho
  split
  ·rename_i hel
   obtain ⟨g2,A2,x2,l2,k2⟩:=ke.lead se hel (by rw [says_out];exact hs) hal
   exact ⟨g2,A2,x.trans x2,l2,k2⟩
  ·exact ⟨_,A,x,rfl,ke⟩
theorem Mid.tick (k:Mid g n s c A) (hs:c.out.snap.index=0) (hal:(A.length:Int)+1≤g.lim) (htl:c.term+1≤g.lim) {d:Int} (hd:0≤d):∃ g' A',Ext n g g'∧g'.lim=g.lim∧Mid g' n s (c.tick d) A':=by
 have sv:=k.srv
 unfold CoreM.tick
 split
 ·rename_i h2
  split
  ·have k':Mid g n s {c with beat:=2} A:=⟨k.w,{sv with b0:=fun _=>by show (1:Int)≤2;omega,b1:=by show (0:Int)≤2;omega,b2:=Int.le_refl 2},⟨k.kp.hard,k.kp.log⟩,k.out⟩
   exact ⟨g,A,Ext.refl _ _,rfl,(k'.sendAll h2).1⟩
  ·rename_i hb
   have:=sv.b0 h2;have:=sv.b2
   exact ⟨g,A,Ext.refl _ _,rfl,⟨k.w,{sv with b0:=fun _=>by show 1≤c.beat-1;omega,b1:=by show 0≤c.beat-1;omega,b2:=by show c.beat-1≤2;omega},⟨k.kp.hard,k.kp.log⟩,k.out⟩⟩
 ·rename_i h2
  obtain ⟨q,hq,hq1,hq2⟩:∃ q,q=(if 10<c.quiet+1 then 10 else c.quiet+1)∧0≤q∧q≤10:=by
   have:=sv.q1;have:=sv.q2
   refine ⟨_,rfl,?_,?_⟩ <;> split <;> omega
  rw [← hq]
  have hw1:=sv.w1;have hw2:=sv.w2
  simp only []
  split
  ·obtain ⟨y1,y2⟩:=waits_in hd
   have k':Mid g n s {c with quiet:=q,wait:=waits d} A:=⟨k.w,{sv with q1:=hq1,q2:=hq2,w1:=by show 1≤waits d;omega,w2:=y2},⟨k.kp.hard,k.kp.log⟩,k.out⟩
   exact k'.stand hs hal htl
  ·rename_i hw
   exact ⟨g,A,Ext.refl _ _,rfl,⟨k.w,{sv with q1:=hq1,q2:=hq2,w1:=by show 1≤c.wait-1;omega,w2:=by show c.wait-1≤19;omega},⟨k.kp.hard,k.kp.log⟩,k.out⟩⟩
end
section
variable {g:Gh} {n:Int} {s:SavedM} {c:CoreM} {A:List Abs}
theorem step_sub:∀ k,k<32→∀ j,j<32→pop (k ^^^ j)=1→((ls k).isSublist (ls j)=true∧(ls j).length=(ls k).length+1)∨((ls j).isSublist (ls k)=true∧(ls k).length=(ls j).length+1):=by decide +kernel
theorem near_sub {a b:Int} (h:(ls (m5 a)).Sublist (ls (m5 b))) (hl:(ls (m5 b)).length=(ls (m5 a)).length+1):Near a b:=fun p q hp hq=>by
 simp only [mostOf,decide_eq_true_eq] at hp hq
 have h1:=(h.filter p).length_le
 obtain ⟨n,_,r⟩:=two_filters p q (ls (m5 b)) (by omega)
 exact ⟨n,r⟩
theorem near_chg {a b:Int} (h:chg a b=0):Near a b:=by
 unfold chg at h
 split at h
 ·rename_i c
  rcases step_sub _ (m5_lt a) _ (m5_lt b) c.2.2 with ⟨h1,h2⟩ | ⟨h1,h2⟩
  ·exact near_sub (List.isSublist_iff_sublist.1 h1) h2
  ·exact (near_sub (List.isSublist_iff_sublist.1 h1) h2).symm
 ·cases h
def CoreM.anew (index:Int) (x:CoreM) (m:Int):CoreM:={x with next:=x.next.set m index,mtch:=x.mtch.set m 0,heard:=x.heard.set m 0}
theorem CoreM.propose_is (c:CoreM) (kind:Int) (data:List Int):c.propose kind data=(((ls (m5 (c.put kind data).crewNow.1)).foldl (fun x m=>if hasB c.crewNow.1 m=true then x else x.anew (c.log.last.1+1) m) (c.put kind data)).sendAll).rank:=rfl
theorem Mid.anews (index:Int) (i1:1≤index) (i2:index≤A.length+1) (P:Int→Bool):∀ (l:List Int) (c:CoreM),c.state=2→Mid g n s c A→(∀ m∈l,1≤m∧m≤5) →
  Mid g n s (l.foldl (fun x m=>if P m=true then x else x.anew index m) c) A∧(l.foldl (fun x m=>if P m=true then x else x.anew index m) c).state=2
 | [],c,hc,k,_=>⟨k,hc⟩
 | m::l,c,hc,k,h=>by
  rw [List.foldl_cons]
  by_cases hp:P m=true
  ·rw [if_pos hp];exact Mid.anews index i1 i2 P l _ hc k fun j hj=>h j (by simp [hj])
  ·rw [if_neg hp]
   have sv:=k.srv
   obtain ⟨l1,l2,l3,l4⟩:=sv.lead hc
   refine Mid.anews index i1 i2 P l _ hc ⟨k.w,?_,⟨k.kp.hard,k.kp.log⟩,k.out⟩ fun j hj=>h j (by simp [hj])
   exact {sv with
    lead:=fun _=>⟨l1,l2,fun j j1 j2=>by
     show 0≤(c.mtch.set m 0).get j∧((c.mtch.set m 0).get j).toNat≤_
     rw [five_get_set _ _ _ _ j1 j2]
     split
     ·simp
     ·exact l3 j j1 j2,fun j j1 j2=>by
     show 1≤(c.next.set m index).get j∧(c.next.set m index).get j≤_
     rw [five_get_set _ _ _ _ j1 j2]
     split
     ·exact ⟨i1,i2⟩
     ·exact l4 j j1 j2⟩
    idle:=fun z=>absurd hc z}
theorem Mid.propose (k:Mid g n s c A) {kind:Int} {data:List Int} (hE:c.proposeE kind data=0) (hb:∀ z∈data,0≤z∧z<256) (hsz:kind=2→∀ m∈ls (m5 (crewNum (0,0,0,data))),m≤g.size)
  (hs:c.out.snap.index=0) (hal:(A.length:Int)+1≤g.lim):∃ g' A',Ext n g g'∧g'.lim=g.lim∧Mid g' n s (c.propose kind data) A':=by
 have sv:=k.srv
 have hlast:=sv.rep.last
 unfold CoreM.proposeE at hE
 split at hE
 ·cases hE
 rename_i c1
 split at hE
 ·cases hE
 rename_i c2
 split at hE
 ·cases hE
 rename_i c3
 split at hE
 ·cases hE
 rename_i c4
 split at hE
 ·cases hE
 rename_i c5
 have h2:c.state=2:=by omega
 have hk:kind=1∨kind=2:=by omega
 obtain ⟨l1,l2,l3,l4⟩:=sv.lead h2
 have hn1:=sv.n1
 have hl0:g.H.led c.term≠0:=by rw [l1];omega
 have ht1:=(k.w.led _ hl0).1
 have hc0:=sv.c0;have hc1:=sv.c1;have hb0:=sv.rep.lo
 rw [CoreM.propose_is]
 have hcw:=sv.crew
 have heok:EOk g.size (c.term,(A.length:Int)+1,kind,data):=by
  refine ⟨by show 0≤kind;omega,by show kind≤2;omega,by show data.length≤1200;omega,hb,fun h=>?_⟩
  have h':kind=2:=h
  have hch:c.changes data=true:=by
   cases z:c.changes data
   ·exact absurd ⟨h',z⟩ c5
   ·rfl
  unfold CoreM.changes at hch
  simp only [Bool.and_eq_true] at hch
  exact ⟨hch.1.1.1,hsz h'⟩
 obtain ⟨g1,x1,e1,k1,s1⟩:=k.put h2 kind data hs hal ht1 heok (fun h=>by
  have hch:c.changes data=true:=by
   cases z:c.changes data
   ·exact absurd ⟨h,z⟩ c5
   ·rfl
  unfold CoreM.changes at hch
  simp only [Bool.and_eq_true,decide_eq_true_eq] at hch
  obtain ⟨⟨⟨d1,d2⟩,d3⟩,d4⟩:=hch
  rw [hcw.1] at d2
  refine ⟨?_,?_⟩
  ·rw [conf_snoc,if_pos h];exact near_chg d2
  ·unfold CoreM.settled at d4
   obtain ⟨r1,r2,r3⟩:=(sv.rep.has c rfl c.commit c.term).1 d4
   have hcpos:1≤c.commit:=by
    by_cases z:1≤c.commit
    ·exact z
    ·exfalso
     rw [show c.commit.toNat=0 by omega] at r3
     unfold termAt at r3;rw [if_pos rfl] at r3;omega
   have hch:=sv.lc h2 hcpos r3
   obtain ⟨m,m1,m2,m3⟩:=hch.most
   rw [l2] at m2 m3
   have says:∀ j,Says A j→j<c.commit.toNat:=fun j sj=>by
    rcases hcw.2 j sj with z | z <;> omega
   have hconf:conf 14 (A.take m)=conf 14 A:=by
    have:=conf_same 14 A m A.length m2 fun j j1 j2 sj=>by have:=says j sj;omega
    rw [← this,List.take_length]
   rw [k.w.first,hconf] at m3
   exact ⟨c.commit.toNat,by omega,hch.own,m3,says⟩)
 have hll:((A++[((c.term,(A.length:Int)+1,kind,data):Abs)]).length:Int)=A.length+1:=by simp
 obtain ⟨k2,s2⟩:=Mid.anews (c.log.last.1+1) (by rw [hlast];simp;omega) (by rw [hlast,hll];simp;omega) (hasB c.crewNow.1) (ls (m5 (c.put kind data).crewNow.1)) _ s1 k1 (ls_in1 _)
 obtain ⟨k3,s3⟩:=k2.sendAll s2
 exact ⟨g1,_,x1,e1,k3.rank s3⟩
end
section
variable {g:Gh} {n:Int} {s:SavedM} {c:CoreM} {A:List Abs}
def Gh.takes (g:Gh) (n t:Int) (st:Nat):Gh :=
  {g with H:={g.H with acc:=fun m u=>if m=n∧u=t then max (g.H.acc m u) st else g.H.acc m u}}
theorem match_at {A B:List Abs} (ga:Good g.H A) (gb:Good g.H B) {i:Nat} (h1:i≤A.length) (h2:i≤B.length) (h:termAt A i=termAt B i):Pre i A B:=by
 by_cases z:i=0
 ·subst z;exact ⟨by omega,by omega,fun k hk=>by omega⟩
 ·obtain ⟨a,ha⟩:∃ a,A[i-1]? = some a:=⟨A[i-1],by simp⟩
  obtain ⟨b,hb⟩:∃ b,B[i-1]? = some b:=⟨B[i-1],by simp⟩
  have ta:=termAt_some ha
  have tb:=termAt_some hb
  rw [show i-1+1=i by omega] at ta tb
  obtain ⟨_,_,pa⟩:=ga.lm _ a ha
  obtain ⟨_,_,pb⟩:=gb.lm _ b hb
  rw [show i-1+1=i by omega] at pa pb
  rw [show a.1=b.1 by omega] at pa
  exact pa.trans pb.symm
theorem Good.take {H:Hist} {A:List Abs} (k:Good H A) (i:Nat):Good H (A.take i):=by
 have get:∀ (j:Nat) (e:Abs),(A.take i)[j]? = some e→A[j]? = some e∧j<i:=fun j e h=>by
  rw [List.getElem?_take] at h
  split at h
  ·exact ⟨h,by assumption⟩
  ·cases h
 refine ⟨fun j e h=>?_,fun j m e f hjm he hf=>k.mono j m e f hjm (get j e he).1 (get m f hf).1⟩
 obtain ⟨h1,h2⟩:=get j e h
 obtain ⟨a,b,d⟩:=k.lm j e h1
 refine ⟨a,b,Pre.trans ?_ d⟩
 have hl:=(List.getElem?_eq_some_iff.1 h1).1
 exact Pre.of_take (by rw [List.length_take];omega) (by omega) (by rw [List.take_take,Nat.min_eq_left (by omega)])
theorem Mid.took (k:Mid g n s c A) (h0:c.state=0) (hl:g.H.led c.term≠0) (hln:g.H.led c.term≠n) (L':LG) (sn:SnapM) (cm:Int) (o:OutM) (A':List Abs) (st:Nat)
  (hA:A'=A∨∃ i,i≤(g.H.ll c.term).length∧A'=(g.H.ll c.term).take i) (pst:Pre st (g.H.ll c.term) A') (p2:∀ i,Pre i A (g.H.ll c.term)→Pre i A A')
  (rep:Rep L' A') (si:sn.index=L'.bi) (s0:L'.bi=0→sn=snap0) (s1:0<L'.bi→sn.term=L'.bt∧sn.crew=conf 14 (A'.take L'.bi.toNat)) (sd:sn.data.length≤8192)
  (c0:L'.bi≤cm) (c1:cm≤A'.length) (com:Com g.H c.term cm.toNat A') (kp:Kp s {c with log:=L',snap:=sn,commit:=cm,out:=o}) (out:∀ p∈o.posts,Msg g p) :
  ∃ g',Ext n g g'∧g'.lim=g.lim∧g'.tm=g.tm∧st≤g'.H.acc n c.term∧Mid g' n s {c with log:=L',snap:=sn,commit:=cm,out:=o} A':=by
 have sv:=k.srv
 have w:=k.w
 have hn1:=sv.n1;have hn2:=sv.n2
 have htm:=sv.tm
 obtain ⟨g',hg'⟩:∃ g',g'=g.takes n c.term st:=⟨_,rfl⟩
 have e1:g'.H.led=g.H.led:=by rw [hg'];rfl
 have e2:g'.H.ll=g.H.ll:=by rw [hg'];rfl
 have e3:g'.H.ini=g.H.ini:=by rw [hg'];rfl
 have e4:g'.H.q=g.H.q:=by rw [hg'];rfl
 have e5:∀ m u,g'.H.acc m u=if m=n∧u=c.term then max (g.H.acc m u) st else g.H.acc m u:=fun m u=>by rw [hg'];rfl
 have f1:g'.H.first=g.H.first:=by rw [hg'];rfl
 have f2:g'.tm=g.tm:=by rw [hg'];rfl
 have f3:g'.vt=g.vt:=by rw [hg'];rfl
 have f4:g'.cand=g.cand:=by rw [hg'];rfl
 have f5:g'.size=g.size:=by rw [hg'];rfl
 have f6:g'.lim=g.lim:=by rw [hg'];rfl
 clear hg'
 have x:Ext n g g':=by
  refine ⟨f5,by rw [f6];exact Int.le_refl _,f1,fun m _=>by rw [f2],by rw [f2];exact Int.le_refl _,fun m t _=>by rw [f3],fun m t _=>by rw [f3],fun t m _ _=>by rw [f4],fun t ht=>by rw [e1,e2,e3];exact ⟨rfl,rfl,Pre.refl (Nat.le_refl _)⟩,fun t ht h=>by rw [e1] at h;exact absurd ht h,fun t ht h=>by rw [e2],fun m u=>?_,fun m u h=>?_⟩
  ·rw [e5];split
   ·exact Nat.le_max_left _ _
   ·exact Nat.le_refl _
  ·rw [e5,if_neg];rintro ⟨rfl,rfl⟩
   rcases h with h | h
   ·exact h rfl
   ·omega
 have ho:=HOk.ext w x e1 e2 e3 e4
 have w':Wld g':=by
  refine ⟨ho,f1.trans w.first,by rw [f5];exact w.sz3,by rw [f5];exact w.sz5,fun t ht=>by rw [e1] at ht ⊢;rw [f2,f5];exact w.led t ht,fun t ht=>by rw [e1] at ht;rw [e2];exact w.ll0 t ht,fun m u=>?_,fun m u hu=>?_,fun t ht=>?_,fun t v ht hv=>by rw [e1] at ht ⊢;rw [e4] at hv;rw [f3];exact w.q t v ht hv,fun m u hu=>by rw [f3] at hu;rw [f2];exact w.vt m u hu,fun t e he=>by rw [f5];rw [e2] at he;exact w.eok t e he,fun t j e he=>by rw [e2] at he;exact w.ix t j e he,fun t m hm hv=>?_,fun m m1 m2=>by rw [f2,f6];rw [f5] at m2;exact w.l1 m m1 m2,fun t=>by rw [e2,f6];exact w.l2 t,by rw [f6];exact w.l3⟩
  ·rw [e5,e2];split
   ·rename_i z;rw [z.2];have:=w.acc m c.term;have:=pst.a;exact Nat.max_le.2 ⟨by assumption,by assumption⟩
   ·exact w.acc m u
  ·rw [f2];rw [e5] at hu
   split at hu
   ·rename_i z;rw [z.1,z.2,htm];exact Int.le_refl _
   ·exact w.acc0 m u hu
  ·rw [e1] at ht ⊢;rw [e2,e5,if_neg]
   ·exact w.accL t ht
   ·rintro ⟨z1,z2⟩;rw [z2] at z1;exact hln z1
  ·rw [f3] at hv;rw [f4]
   obtain ⟨a,b⟩:=w.cg t m hm hv
   exact ⟨x.good a,b⟩
 have hLT:∀ (j:Nat) (e:Abs),(g.H.ll c.term)[j]? = some e→e.1≤c.term:=fun j e h=>w.ok.top c.term j e hl h
 have facts:Good g.H A'∧(∀ (j:Nat) (e:Abs),A'[j]? = some e→e.1≤c.term)∧(∀ e∈A',EOk g.size e)∧(A'.length:Int)≤g.lim:=by
  rcases hA with rfl | ⟨i,hi,rfl⟩
  ·exact ⟨sv.good,sv.low,sv.eok,sv.al⟩
  ·refine ⟨(w.ok.log _ hl).take i,fun j e h=>?_,fun e he=>w.eok c.term e (List.mem_of_mem_take he),?_⟩
   ·rw [List.getElem?_take] at h
    split at h
    ·exact hLT j e h
    ·cases h
   ·have:=w.l2 c.term
    rw [List.length_take];omega
 obtain ⟨fa,fb,fc,fd⟩:=facts
 refine ⟨g',x,f6,f2,by rw [e5,if_pos ⟨rfl,rfl⟩];exact Nat.le_max_right _ _,w',?_,kp,fun p hp=>x.msg w (out p hp)⟩
 exact {
  n1:=sv.n1,n2:=by rw [f5];exact sv.n2,self:=sv.self,first:=sv.first,tm:=by rw [f2];exact sv.tm,t0:=sv.t0,rep:=rep,si:=si,s0:=s0,s1:=s1,sd:=sd
  good:=x.good fa,low:=fb,eok:=by rw [f5];exact fc,al:=by rw [f6];exact fd
  vl:=fun u i hu hul hw hi=>by
   rw [e1] at hul
   rw [e2]
   have keepIt:Pre i (g.H.ll u) A→Pre i (g.H.ll u) A'∨∃ z,u<z∧z≤c.term∧g'.H.led z≠0∧¬ Pre i (g.H.ll u) (g'.H.ini z):=fun p=>by
    by_cases z:u=c.term
    ·left
     rw [z] at p ⊢
     exact p.trans (p2 i p.symm)
    ·by_cases q:Pre i (g.H.ll u) (g.H.ini c.term)
     ·left
      exact p.trans (p2 i (p.symm.trans (q.trans ((w.ok.ini _ hl).le q.b))))
     ·right
      have hu':u≤c.term:=hu
      exact ⟨c.term,by omega,Int.le_refl _,by rw [e1];exact hl,by rw [e3];exact q⟩
   have hw':Own1 g.H u i:=by
    obtain ⟨j,e,hj,he,heu⟩:=hw
    exact ⟨j,e,hj,by rw [← e2];exact he,heu⟩
   have old:i≤g.H.acc n u→Pre i (g.H.ll u) A'∨∃ z,u<z∧z≤c.term∧g'.H.led z≠0∧¬ Pre i (g.H.ll u) (g'.H.ini z):=fun hi=>by
    rcases sv.vl u i hu hul hw' hi with p | ⟨z,z1,z2,z3,z4⟩
    ·exact keepIt p
    ·exact .inr ⟨z,z1,z2,by rw [e1];exact z3,by rw [e3];exact z4⟩
   rw [e5] at hi
   split at hi
   ·rename_i z
    rcases Nat.le_total (g.H.acc n u) st with h | h
    ·rw [Nat.max_eq_right h] at hi
     left;rw [z.2];exact pst.le hi
    ·rw [Nat.max_eq_left h] at hi;exact old hi
   ·exact old hi
  c0:=c0,c1:=c1,com:=x.com (Int.le_refl _) com,vote:=by rw [f3];exact sv.vote,vr0:=sv.vr0,vr1:=sv.vr1
  st := .inl h0
  lead:=fun h=>by have h':c.state=2:=h;omega
  lc:=fun h=>by have h':c.state=2:=h;omega
  cand:=fun h=>by have h':c.state=1:=h;omega
  idle:=sv.idle
  q1:=sv.q1,q2:=sv.q2,w1:=sv.w1,w2:=sv.w2,b0:=sv.b0,b1:=sv.b1,b2:=sv.b2,v1:=sv.v1,v2:=sv.v2,r1:=sv.r1
  r2:=by rw [f6];exact sv.r2
  rl:=by rw [f6];exact sv.rl}
end
section
variable {g:Gh} {n:Int} {s:SavedM} {c:CoreM} {A:List Abs}
theorem Mid.heardOf (k:Mid g n s c A) {from_ draw:Int} (hd:0≤draw):Mid g n s {c.follow with head:=from_,quiet:=0,wait:=waits draw} A:=by
 obtain ⟨w1,w2⟩:=waits_in hd
 have kf:=k.follow
 exact ⟨kf.w,{kf.srv with q1:=Int.le_refl 0,q2:=by show (0:Int)≤10;omega,w1:=by show 1≤waits draw;omega,w2:=w2},⟨kf.kp.hard,kf.kp.log⟩,kf.out⟩
theorem Mid.refuse (k:Mid g n s c A) {p:PostM} (m:Msg g p) (hd:p.dst=n) (ht:p.term<c.term):Mid g n s (c.refuse p) A:=by
 have sv:=k.srv
 have hself:=sv.self
 have hn1:=sv.n1;have hn2:=sv.n2
 have hlim:=k.w.lim0 sv
 have ht1:1≤c.term:=by have:=m.t1;omega
 have htm:c.term≤g.tm c.self:=by rw [hself,sv.tm];exact Int.le_refl _
 have hne:c.self≠p.src:=by rw [hself,← hd];exact fun h=>m.ne h.symm
 unfold CoreM.refuse
 split
 ·exact k.say ⟨by show 1≤c.self;omega,by show c.self≤g.size;omega,m.s1,m.s2,hne,ht1,htm,Int.le_refl 0,hlim, .inr (.inl ⟨rfl,rfl,fun h=>by cases h⟩)⟩
 ·split
  ·exact k.say ⟨by show 1≤c.self;omega,by show c.self≤g.size;omega,m.s1,m.s2,hne,ht1,htm,Int.le_refl 0,hlim, .inr (.inr (.inr (.inl ⟨rfl,rfl,Int.le_refl 0,hlim,fun h=>by cases h⟩)))⟩
  ·exact k
theorem fresh_at (c:CoreM):∀ l:List Abs,∃ k:Nat,k≤l.length∧c.log.fresh l=l.drop k∧(∀ j e,j<k→l[j]? = some e→c.has e.2.1 e.1=true)∧(k<l.length→∃ e,l[k]? = some e∧c.has e.2.1 e.1=false)
 | []=>⟨0,Nat.le_refl _,rfl,fun j e h=>absurd h (by omega),fun h=>by simp at h⟩
 | e::r=>by
  by_cases h:c.has e.2.1 e.1=true
  ·obtain ⟨k,k1,k2,k3,k4⟩:=fresh_at c r
   refine ⟨k+1,by simp;omega,?_,fun j e' hj he=>?_,fun hk=>?_⟩
   ·unfold LG.fresh
    rw [if_pos (by unfold CoreM.has at h;simpa using h)]
    simpa using k2
   ·cases j with
    | zero=>simp at he;rw [← he];exact h
    | succ j=>exact k3 j e' (by omega) (by simpa using he)
   ·obtain ⟨e',he,hf⟩:=k4 (by simp at hk;omega)
    exact ⟨e',by simpa using he,hf⟩
  ·refine ⟨0,Nat.zero_le _,?_,fun j e h=>absurd h (by omega),fun _=>⟨e,rfl,Bool.eq_false_iff.2 h⟩⟩
   unfold LG.fresh
   rw [if_neg (by unfold CoreM.has at h;simpa using h)]
   rfl
theorem Mid.append (k:Mid g n s c A) (h0:c.state=0) {p:PostM} (m:Msg g p) (hk:p.kind=3) (hd:p.dst=n) (ht:p.term=c.term) (o1:c.out.snap.index=0) (o2:c.out.cut=0) (o3:c.out.entries=[]) :
  ∃ g' A',Ext n g g'∧g'.lim=g.lim∧Mid g' n s (c.append p) A':=by
 have sv:=k.srv
 have w:=k.w
 have hself:=sv.self
 have hn1:=sv.n1;have hn2:=sv.n2
 have hlim:=w.lim0 sv
 obtain ⟨_,_,m1,m2,m3,m4,m5,m6,m7,m8,m9,m10⟩:p.kind=3∧p={post0 with kind:=3,src:=p.src,dst:=p.dst,term:=p.term,index:=p.index,logTerm:=p.logTerm,commit:=p.commit,hint:=p.hint,entries:=p.entries}∧g.H.led p.term=p.src∧0≤p.index∧p.index≤(g.H.ll p.term).length∧p.logTerm=termAt (g.H.ll p.term) p.index.toNat ∧
   p.entries.length≤8∧p.index+p.entries.length≤(g.H.ll p.term).length∧p.entries=((g.H.ll p.term).drop p.index.toNat).take p.entries.length∧0≤p.commit∧p.commit≤(g.H.ll p.term).length∧Com g.H p.term p.commit.toNat (g.H.ll p.term):=by
  rcases m.body with z | z | z | z | z | z
  ·omega
  ·omega
  ·exact z
  ·omega
  ·omega
  ·omega
 rw [ht] at m1 m3 m4 m6 m7 m9 m10
 have hl:g.H.led c.term≠0:=by rw [m1];have:=m.s1;omega
 have hln:g.H.led c.term≠n:=by rw [m1,← hd];exact m.ne
 have gl:=w.ok.log _ hl
 obtain ⟨LT,hLT⟩:∃ LT,LT=g.H.ll c.term:=⟨_,rfl⟩
 rw [← hLT] at m3 m4 m6 m7 m9 m10 gl
 have ht1:=(w.led _ hl).1
 have htm:c.term≤g.tm c.self:=by rw [hself,sv.tm];exact Int.le_refl _
 have hne:c.self≠p.src:=by rw [hself,← hd];exact fun h=>m.ne h.symm
 have hb:=sv.rep.lo;have hble:=sv.rep.le
 have hc0:=sv.c0;have hc1:=sv.c1
 have pc:Pre c.commit.toNat A LT:=by rw [hLT];exact Com.in_ w sv.com hl (Int.le_refl _) (by omega)
 have ixL:∀ (j:Nat) (e:Abs),LT[j]? = some e→e.2.1=j+1:=fun j e h=>by rw [hLT] at h;exact w.ix _ j e h
 obtain ⟨j,hj0,hj1,hj2,hjl⟩:∃ j:Nat,aIndex c p=j∧c.log.bi≤j∧(aTerm c p=termAt LT j∧(p.index<c.log.bi→Pre j A LT))∧aList c p=(LT.drop j).take (aList c p).length∧j+(aList c p).length≤LT.length∧((aList c p)=[]→p.index+p.entries.length≤j)∧((aList c p)≠[]→p.index+p.entries.length=j+(aList c p).length):=by
  by_cases low:p.index<c.log.bi
  ·have e1:aIndex c p=c.log.bi:=if_pos low
   have e2:aTerm c p=c.log.bt:=if_pos low
   have e3:aList c p=p.entries.drop (c.log.bi-p.index).toNat:=if_pos low
   have pb:=pc.le (show c.log.bi.toNat≤c.commit.toNat by omega)
   refine ⟨c.log.bi.toNat,by rw [e1];omega,by omega,⟨by rw [e2,sv.rep.bt];exact pb.termAt (Nat.le_refl _),fun _=>pb⟩,?_,?_,fun h=>?_,fun h=>?_⟩
   ·rw [e3]
    apply List.ext_getElem?
    intro i
    have:=congrArg (fun l=>l[(c.log.bi-p.index).toNat+i]?) m7
    simp only [List.getElem?_take,List.getElem?_drop] at this ⊢
    rw [this,List.length_drop,show p.index.toNat+((c.log.bi-p.index).toNat+i)=c.log.bi.toNat+i by omega]
    by_cases h1:(c.log.bi-p.index).toNat+i<p.entries.length
    ·rw [if_pos h1,if_pos (by omega)]
    ·rw [if_neg h1,if_neg (by omega)]
   ·rw [e3,List.length_drop];have:=pb.b;omega
   ·rw [e3] at h
    have:=congrArg List.length h
    rw [List.length_drop] at this;simp at this;omega
   ·rw [e3,List.length_drop]
    have:0<(p.entries.drop (c.log.bi-p.index).toNat).length:=by rw [← e3];exact List.length_pos_iff.2 h
    rw [List.length_drop] at this;omega
  ·have e1:aIndex c p=p.index:=if_neg low
   have e2:aTerm c p=p.logTerm:=if_neg low
   have e3:aList c p=p.entries:=if_neg low
   refine ⟨p.index.toNat,by rw [e1];omega,by omega,⟨by rw [e2];exact m4,fun h=>absurd h low⟩,by rw [e3];exact m7,by rw [e3];omega,fun h=>?_,fun h=>by rw [e3];omega⟩
   rw [e3] at h;rw [h];simp;omega
 obtain ⟨hj2,hj3⟩:=hj2
 obtain ⟨l1,l2,l3,l4⟩:=hjl
 rw [CoreM.append_eq,hj0]
 generalize hll:aList c p=ll at *
 have lget:∀ (i:Nat) (e:Abs),ll[i]? = some e→LT[j+i]? = some e:=fun i e h=>by
  rw [l1,List.getElem?_take] at h
  split at h
  ·rw [List.getElem?_drop] at h;exact h
  ·cases h
 have lput:∀ (i:Nat),i<ll.length→∃ e,ll[i]? = some e:=fun i h=>⟨ll[i],by simp⟩
 by_cases hh:c.has (j:Int) (aTerm c p)=true
 ·obtain ⟨r1,r2,r3⟩:=(sv.rep.has c rfl (j:Int) (aTerm c p)).1 hh
  rw [Int.toNat_natCast,hj2] at r3
  have pj:Pre j A LT:=match_at sv.good gl (by omega) (by omega) r3
  have hhl:headLow (aTerm c p) ll=false:=by
   cases hcl:ll with
   | nil=>rfl
   | cons e r =>
    show decide (e.1<aTerm c p)=false
    refine decide_eq_false ?_
    have he:=lget 0 e (by rw [hcl];rfl)
    rw [hj2]
    by_cases z:j=0
    ·unfold termAt;rw [if_pos z];have:=(gl.lm _ e he).1;omega
    ·obtain ⟨a,ha⟩:∃ a,LT[j-1]? = some a:=⟨LT[j-1],by simp⟩
     have ta:=termAt_some ha
     rw [show j-1+1=j by omega] at ta
     rw [ta]
     have:=gl.mono (j-1) (j+0) a e (by omega) ha he
     omega
  rw [if_neg (by rw [hh,hhl];simp)]
  unfold CoreM.appendOk
  obtain ⟨stop,hstop⟩:∃ stop:Nat,p.index+(p.entries.length:Int)=stop:=⟨(p.index+p.entries.length).toNat,by omega⟩
  simp only [hstop]
  have hsl:stop≤LT.length:=by omega
  obtain ⟨q,q1,q2,q3,q4⟩:=fresh_at c ll
  have pq:Pre (j+q) A LT:=by
   by_cases z:q=0
   ·rw [z];exact pj
   ·obtain ⟨e,he⟩:=lput (q-1) (by omega)
    have hq:=q3 (q-1) e (by omega) he
    have heL:=lget _ e he
    have hx:=ixL _ e heL
    obtain ⟨b1,b2,b3⟩:=(sv.rep.has c rfl e.2.1 e.1).1 hq
    have ht':=termAt_some heL
    rw [hx] at b2 b3
    rw [show ((((j+(q-1):Nat):Int))+1).toNat=j+q by omega] at b3
    rw [show j+(q-1)+1=j+q by omega] at ht'
    exact match_at sv.good gl (by omega) (by omega) (by rw [b3,ht'])
  have hes0:c.snap=s.snap∧c.log.es=s.entries:=by
   rcases k.kp.log with ⟨_,_,a,b⟩ | ⟨_,a,_⟩ | ⟨a,_⟩
   ·rw [o3,List.append_nil] at b;exact ⟨a,b⟩
   ·omega
   ·omega
  have hlast:=sv.rep.last
  have fin:∀ (L':LG) (o':OutM) (A':List Abs),(A'=A∨A'=LT.take stop)→Pre stop LT A'→(∀ i,Pre i A LT→Pre i A A')→Rep L' A'→L'.bi=c.log.bi→L'.bt=c.log.bt →
    o'.posts=c.out.posts→Kp s {c with log:=L',out:=o'}→∃ g' A'',Ext n g g'∧g'.lim=g.lim ∧
    Mid g' n s (({({c with log:=L',out:=o'}:CoreM) with commit:=if c.commit<(if (stop:Int)<p.commit then (stop:Int) else p.commit) then (if (stop:Int)<p.commit then (stop:Int) else p.commit) else c.commit}:CoreM).say p.src {post0 with kind:=4,ok:=true,index:=stop,hint:=p.hint}) A'':=by
   intro L' o' A' hA pst p2 rep hbi hbt hpo kp
   have pcA:Pre c.commit.toNat A A':=p2 _ pc
   obtain ⟨cm,hcm⟩:∃ cm:Int,cm=if c.commit<(if (stop:Int)<p.commit then (stop:Int) else p.commit) then (if (stop:Int)<p.commit then (stop:Int) else p.commit) else c.commit:=⟨_,rfl⟩
   rw [← hcm]
   have hcm2:(cm=c.commit)∨(c.commit<cm∧cm≤stop∧cm≤p.commit):=by
    obtain ⟨m0,hm0⟩:∃ m0:Int,m0=if (stop:Int)<p.commit then (stop:Int) else p.commit:=⟨_,rfl⟩
    have h1:m0≤stop∧m0≤p.commit:=by rw [hm0];split <;> omega
    rw [← hm0] at hcm
    by_cases z:c.commit<m0
    ·rw [if_pos z] at hcm;right;omega
    ·rw [if_neg z] at hcm;exact .inl hcm
   clear hcm
   have hcA:cm≤A'.length∧Com g.H c.term cm.toNat A':=by
    rcases hcm2 with e | ⟨e1,e2,e3⟩
    ·rw [e];exact ⟨by have:=pcA.b;omega,sv.com.move pcA⟩
    ·refine ⟨by have:=pst.b;omega,?_⟩
     have z:=(m10.less (show cm.toNat≤p.commit.toNat by omega)).move (B:=A') (pst.le (by omega))
     exact z
   obtain ⟨g',x,xl,xt,xa,km⟩:=k.took h0 hl hln L' c.snap cm o' A' stop (by rw [← hLT];exact hA.imp id fun h=>⟨stop,hsl,h⟩) (by rw [← hLT];exact pst) (by rw [← hLT];exact p2) rep (by rw [hbi];exact sv.si) (fun h=>sv.s0 (by rw [← hbi];exact h))
    (fun h=>by rw [hbi] at h;have:=sv.s1 h;rw [hbi,hbt,← pcA.take_le (show c.log.bi.toNat≤c.commit.toNat by omega)];exact this) sv.sd (by rw [hbi];rcases hcm2 with e | ⟨e1,_⟩ <;> omega) hcA.1 hcA.2 ⟨kp.hard,kp.log⟩ (by rw [hpo];exact k.out)
   refine ⟨g',A',x,xl,km.say ?_⟩
   have mx:=x.msg w m
   refine ⟨by show 1≤c.self;omega,by show c.self≤g'.size;rw [x.size];omega,m.s1,by show p.src≤g'.size;rw [x.size];exact m.s2,hne,ht1,by show c.term≤g'.tm c.self;rw [xt];exact htm,m.h0,by show p.hint≤g'.lim;rw [xl];exact m.h1, .inr (.inr (.inr (.inl ⟨rfl,rfl,by show (0:Int)≤(stop:Int);omega,?_,fun _=>?_⟩)))⟩
   ·show (stop:Int)≤g'.lim
    rw [xl];have:=w.l2 c.term;rw [← hLT] at this;omega
   ·show ((stop:Int)).toNat≤g'.H.acc c.self c.term
    rw [hself,Int.toNat_natCast];exact xa
  by_cases hq:q=ll.length
  ·
   have hf:c.log.fresh ll=[]:=by rw [q2,hq,List.drop_length]
   rw [appendRest_nil hf]
   rw [hq] at pq
   have pst:Pre stop LT A:=by
    by_cases z:ll=[]
    ·have:=l3 z;rw [z] at pq;exact (pq.le (by simp;omega)).symm
    ·have:=l4 z;exact (pq.le (by omega)).symm
   exact fin c.log c.out A (.inl rfl) pst (fun i h=>Pre.refl h.a) sv.rep rfl rfl rfl ⟨k.kp.hard,k.kp.log⟩
  ·obtain ⟨e0,he0,hno⟩:=q4 (by omega)
   have hne2:ll≠[]:=fun z=>by rw [z] at he0;simp at he0
   have hst:stop=j+ll.length:=by have:=l4 hne2;omega
   have heL:=lget q e0 he0
   have hx:=ixL _ e0 heL
   obtain ⟨fr,hfr⟩:∃ fr,ll.drop q=e0::fr:=⟨ll.drop (q+1),by rw [List.drop_eq_getElem_cons (by omega),(List.getElem?_eq_some_iff.1 he0).2]⟩
   have hf:c.log.fresh ll=e0::fr:=by rw [q2,hfr]
   rw [appendRest_cons hf]
   have hfL:e0::fr=(LT.drop (j+q)).take (ll.length-q):=by
    rw [← hfr,l1,List.drop_take,List.drop_drop,List.length_take,List.length_drop]
    congr 1;omega
   have hkeep:∀ i,Pre i A LT→i≤j+q:=fun i hi=>by
    by_cases z:i≤j+q
    ·exact z
    ·exfalso
     have hiA:=hi.a
     have:c.has e0.2.1 e0.1=true:=by
      rw [sv.rep.has c rfl]
      refine ⟨by rw [hx];omega,by rw [hx];omega,?_⟩
      rw [hx,show ((((j+q:Nat):Int))+1).toNat=j+q+1 by omega,hi.termAt (by omega)]
      exact termAt_some heL
     rw [this] at hno;cases hno
   have htk:A.take (j+q)=LT.take (j+q):=pq.take
   have hAq:j+q≤A.length:=pq.a
   obtain ⟨D,hD⟩:∃ D,D=c.cutAt e0:=⟨_,rfl⟩
   have hDf:Rep D.log (A.take (j+q))∧D.log.bi=c.log.bi∧D.log.bt=c.log.bt∧D.out.posts=c.out.posts∧D={c with log:=D.log,out:=D.out}∧Kp s D∧D.out.snap.index=0:=by
    rw [hD]
    unfold CoreM.cutAt
    rw [hlast]
    simp only []
    by_cases z:e0.2.1≤(A.length:Int)
    ·rw [if_pos z]
     have rc:=sv.rep.cut (i:=e0.2.1) (by rw [hx];omega) (by omega)
     rw [hx,show ((((j+q:Nat):Int))+1-1).toNat=j+q by omega] at rc
     rw [hx]
     refine ⟨rc.1,rc.2,?_,rfl,rfl,⟨k.kp.hard, .inr (.inl ⟨o1,?_,?_,?_,hes0.1,?_⟩)⟩,o1⟩
     ·simp only [LG.cut];split <;> rfl
     ·show 0<((j+q:Nat):Int)+1;omega
     ·show s.snap.index<((j+q:Nat):Int)+1;rw [← hes0.1,sv.si];omega
     ·show ((j+q:Nat):Int)+1≤s.snap.index+s.entries.length
      rw [← hes0.1,sv.si,← hes0.2,sv.rep.len];omega
     ·show (c.log.cut (((j+q:Nat):Int)+1)).2.es=s.entries.take ((((j+q:Nat):Int)+1)-s.snap.index-1).toNat++c.out.entries
      rw [o3,List.append_nil,← hes0.1,← hes0.2,sv.si]
      unfold LG.cut
      rw [if_pos (by unfold LG.reach;have:=sv.rep.len;simp;omega)]
    ·rw [if_neg z]
     have:j+q=A.length:=by omega
     rw [this,List.take_length]
     exact ⟨sv.rep,rfl,rfl,rfl,rfl,⟨k.kp.hard,k.kp.log⟩,o1⟩
   obtain ⟨d1,d2,d3,d4,d5,d6,d7⟩:=hDf
   rw [← hD]
   have hAA:A.take (j+q)++(e0::fr)=LT.take stop:=by
    rw [htk,hfL,hst,← List.take_add]
    congr 1;omega
   have happ:(D.log.append (e0::fr)).1=0:=by
    refine d1.append_ok _ (fun i e he=>?_) fun i i' e f hii he hf=>?_
    ·rw [hfL,List.getElem?_take] at he
     split at he
     ·rw [List.getElem?_drop] at he
      have hxe:=ixL _ e he
      have hlm:=(gl.lm _ e he).1
      have hee:=w.eok c.term e (by rw [← hLT];exact List.mem_of_getElem? he)
      have htop:=w.ok.top c.term _ e hl (by rw [← hLT];exact he)
      have hil:=(List.getElem?_eq_some_iff.1 he).1
      have:=w.l2 c.term;rw [← hLT] at this
      have:=w.l3
      have:=w.l1 n hn1 hn2;rw [← sv.tm] at this
      refine ⟨by rw [hxe,List.length_take];omega,hlm,by omega,by rw [hxe];omega,hee.k0,hee.k2,hee.len⟩
     ·cases he
    ·rw [hAA] at he hf
     rw [List.getElem?_take] at he hf
     split at he
     ·split at hf
      ·exact gl.mono i i' e f hii he hf
      ·cases hf
     ·cases he
   obtain ⟨rp,rb⟩:=d1.append _ happ
   obtain ⟨ae,ab⟩:=append_es happ
   rw [hAA] at rp
   have hDc:D.commit=c.commit:=by rw [d5]
   have e:({({D with log:=(D.log.append (e0::fr)).2,out:={D.out with entries:=D.out.entries++e0::fr}}:CoreM) with commit:=if ({D with log:=(D.log.append (e0::fr)).2,out:={D.out with entries:=D.out.entries++e0::fr}}:CoreM).commit<(if (stop:Int)<p.commit then (stop:Int) else p.commit) then (if (stop:Int)<p.commit then (stop:Int) else p.commit) else ({D with log:=(D.log.append (e0::fr)).2,out:={D.out with entries:=D.out.entries++e0::fr}}:CoreM).commit}:CoreM) =
     {({c with log:=(D.log.append (e0::fr)).2,out:={D.out with entries:=D.out.entries++e0::fr}}:CoreM) with commit:=if c.commit<(if (stop:Int)<p.commit then (stop:Int) else p.commit) then (if (stop:Int)<p.commit then (stop:Int) else p.commit) else c.commit}:=by
    rw [d5]
   have kp':=d6.push (xs:=e0::fr) ae d7
   have kp'':Kp s {c with log:=(D.log.append (e0::fr)).2,out:={D.out with entries:=D.out.entries++e0::fr}}:=by
    have e2:({D with log:=(D.log.append (e0::fr)).2,out:={D.out with entries:=D.out.entries++e0::fr}}:CoreM)={c with log:=(D.log.append (e0::fr)).2,out:={D.out with entries:=D.out.entries++e0::fr}}:=by rw [d5]
    rw [← e2];exact kp'
   have:=fin (D.log.append (e0::fr)).2 {D.out with entries:=D.out.entries++e0::fr} (LT.take stop) (.inr rfl) (Pre.of_take hsl (by rw [List.length_take];omega) (by rw [List.take_take,Nat.min_self]))
    (fun i h=>by
     have hi:=hkeep i h
     exact h.trans (Pre.of_take h.b (by rw [List.length_take];have:=h.b;omega) (by rw [List.take_take,Nat.min_eq_left (by omega)]))) rp (rb.trans d2) (ab.trans d3) d4 kp''
   rw [← e] at this
   exact this
 ·rw [if_pos (.inl (Bool.eq_false_iff.2 hh))]
  have hnl:¬ p.index<c.log.bi:=fun low=>by
   have pj:=hj3 low
   refine hh ((sv.rep.has c rfl (j:Int) (aTerm c p)).2 ⟨hj1,by have:=pj.a;omega,?_⟩)
   rw [Int.toNat_natCast,hj2];exact pj.termAt (Nat.le_refl _)
  have hj1':1≤j:=by
   by_cases z:j=0
   ·exfalso
    refine hh ((sv.rep.has c rfl (j:Int) (aTerm c p)).2 ⟨hj1,by omega,?_⟩)
    rw [Int.toNat_natCast,hj2,z];rfl
   ·omega
  refine ⟨g,A,Ext.refl _ _,rfl,k.say ?_⟩
  have hlast:=sv.rep.last
  refine ⟨by show 1≤c.self;omega,by show c.self≤g.size;omega,m.s1,m.s2,hne,ht1,htm,m.h0,m.h1, .inr (.inr (.inr (.inl ⟨rfl,rfl,?_,?_,fun h=>by cases h⟩)))⟩
  ·show 0≤if c.log.last.1<(j:Int)-1 then c.log.last.1 else (j:Int)-1
   rw [hlast];split
   ·show 0≤(A.length:Int);omega
   ·omega
  ·show (if c.log.last.1<(j:Int)-1 then c.log.last.1 else (j:Int)-1)≤g.lim
   have:=sv.al
   rw [hlast];split
   ·exact this
   ·rename_i z;simp only [] at z;omega
end
section
variable {g:Gh} {n:Int} {s:SavedM} {c:CoreM} {A:List Abs}
theorem afterE_ix (ix:∀ (k:Nat) (e:Abs),A[k]? = some e→e.2.1=k+1) (i:Nat) (t:Int):∀ (d b:Nat),b+d+1=i→afterE i t (A.drop b)=if i≤A.length∧termAt A i=t then A.drop i else []
 | 0,b,h=>by
  by_cases hb:b<A.length
  ·rw [List.drop_eq_getElem_cons hb]
   have he:A[b]? = some A[b]:=by simp
   have hx:=ix b _ he
   have ht:=termAt_some he
   unfold afterE
   have hbi:b+1=i:=by omega
   rw [hbi] at ht
   by_cases c:termAt A i=t
   ·rw [if_pos ⟨by rw [hx];omega,by rw [← ht];exact c⟩,if_pos ⟨by omega,c⟩,hbi]
   ·rw [if_neg fun z=>c (by rw [ht];exact z.2),if_neg fun z=>c z.2]
    have none_:∀ l:List Abs,(∀ e∈l,e.2.1≠i)→afterE i t l=[]:=fun l=>by
     induction l with
     | nil=>intro _;rfl
     | cons x r ih =>
      intro h
      unfold afterE
      rw [if_neg fun z=>h x (by simp) z.1]
      exact ih fun e he=>h e (by simp [he])
    refine none_ _ fun e he=>?_
    obtain ⟨m,hm⟩:=List.getElem?_of_mem he
    rw [List.getElem?_drop] at hm
    have:=ix _ e hm
    omega
  ·rw [List.drop_of_length_le (by omega),if_neg (by omega)];rfl
 | d+1,b,h=>by
  by_cases hb:b<A.length
  ·rw [List.drop_eq_getElem_cons hb]
   have he:A[b]? = some A[b]:=by simp
   have hx:=ix b _ he
   unfold afterE
   rw [if_neg fun z=>by have:=z.1;omega]
   exact afterE_ix ix i t d (b+1) (by omega)
  ·rw [List.drop_of_length_le (by omega),if_neg (by omega)];rfl
theorem Mid.install (k:Mid g n s c A) (h0:c.state=0) {p:PostM} (m:Msg g p) (hk:p.kind=5) (hd:p.dst=n) (ht:p.term=c.term) (o1:c.out.snap.index=0) (o2:c.out.cut=0) (o3:c.out.entries=[]) :
  ∃ g' A',Ext n g g'∧g'.lim=g.lim∧Mid g' n s (c.install p) A':=by
 have sv:=k.srv
 have w:=k.w
 have hself:=sv.self
 have hn1:=sv.n1;have hn2:=sv.n2
 have hlim:=w.lim0 sv
 obtain ⟨m1,m2,m3,m4,m5,m6,m7⟩:g.H.led p.term=p.src∧1≤p.snap.index∧p.snap.index≤(g.H.ll p.term).length∧p.snap.term=termAt (g.H.ll p.term) p.snap.index.toNat ∧
   p.snap.crew=conf 14 ((g.H.ll p.term).take p.snap.index.toNat)∧p.snap.data.length≤8192∧Com g.H p.term p.snap.index.toNat (g.H.ll p.term):=by
  rcases m.body with z | z | z | z | z | z
  ·omega
  ·omega
  ·omega
  ·omega
  ·exact z.2.2
  ·omega
 rw [ht] at m1 m3 m4 m5 m7
 have hl:g.H.led c.term≠0:=by rw [m1];have:=m.s1;omega
 have hln:g.H.led c.term≠n:=by rw [m1,← hd];exact m.ne
 have gl:=w.ok.log _ hl
 obtain ⟨LT,hLT⟩:∃ LT,LT=g.H.ll c.term:=⟨_,rfl⟩
 rw [← hLT] at m3 m4 m5 m7 gl
 have ht1:=(w.led _ hl).1
 have htm:c.term≤g.tm c.self:=by rw [hself,sv.tm];exact Int.le_refl _
 have hne:c.self≠p.src:=by rw [hself,← hd];exact fun h=>m.ne h.symm
 have hb:=sv.rep.lo;have hble:=sv.rep.le
 have hc0:=sv.c0;have hc1:=sv.c1
 have pc:Pre c.commit.toNat A LT:=by rw [hLT];exact Com.in_ w sv.com hl (Int.le_refl _) (by omega)
 have hes0:c.snap=s.snap∧c.log.es=s.entries:=by
  rcases k.kp.log with ⟨_,_,a,b⟩ | ⟨_,a,_⟩ | ⟨a,_⟩
  ·rw [o3,List.append_nil] at b;exact ⟨a,b⟩
  ·omega
  ·omega
 have hlast:=sv.rep.last
 have fin:∀ (L':LG) (sn:SnapM) (cm:Int) (o':OutM) (A':List Abs),(A'=A∨∃ i,i≤LT.length∧A'=LT.take i)→Pre cm.toNat LT A'→(∀ i,Pre i A LT→Pre i A A')→Rep L' A'→sn.index=L'.bi→(L'.bi=0→sn=snap0)→(0<L'.bi→sn.term=L'.bt∧sn.crew=conf 14 (A'.take L'.bi.toNat))→sn.data.length≤8192 →
   L'.bi≤cm→cm≤A'.length→cm≤LT.length→Com g.H c.term cm.toNat A'→o'.posts=c.out.posts→Kp s {c with log:=L',snap:=sn,commit:=cm,out:=o'} →
   ∃ g' A'',Ext n g g'∧g'.lim=g.lim∧Mid g' n s (({c with log:=L',snap:=sn,commit:=cm,out:=o'}:CoreM).say p.src {post0 with kind:=6,index:=cm,hint:=p.hint}) A'':=by
  intro L' sn cm o' A' hA pst p2 rep si s0 s1 sd c0 c1 cL com hpo kp
  have hLb:=rep.lo
  obtain ⟨g',x,xl,xt,xa,km⟩:=k.took h0 hl hln L' sn cm o' A' cm.toNat (by rw [← hLT];exact hA) (by rw [← hLT];exact pst) (by rw [← hLT];exact p2) rep si s0 s1 sd c0 c1 com kp (by rw [hpo];exact k.out)
  refine ⟨g',A',x,xl,km.say ?_⟩
  refine ⟨by show 1≤c.self;omega,by show c.self≤g'.size;rw [x.size];omega,m.s1,by show p.src≤g'.size;rw [x.size];exact m.s2,hne,ht1,by show c.term≤g'.tm c.self;rw [xt];exact htm,m.h0,by show p.hint≤g'.lim;rw [xl];exact m.h1, .inr (.inr (.inr (.inr (.inr ⟨rfl,rfl,by show 0≤cm;omega,?_,?_⟩))))⟩
  ·show cm≤g'.lim
   rw [xl];have:=w.l2 c.term;rw [← hLT] at this;omega
  ·show cm.toNat≤g'.H.acc c.self c.term
   rw [hself];exact xa
 unfold CoreM.install
 by_cases hx:c.commit<p.snap.index
 ·rw [if_pos hx]
  have hhas:=sv.rep.has c rfl p.snap.index p.snap.term
  have kp3:∀ (L':LG),L'.es=(if p.snap.index.toNat≤A.length∧termAt A p.snap.index.toNat=p.snap.term then A.drop p.snap.index.toNat else [])→Kp s {c with log:=L',snap:=p.snap,commit:=p.snap.index,out:={c.out with snap:=p.snap}}:=fun L' hL=>by
   refine ⟨k.kp.hard, .inr (.inr ⟨by show 0<p.snap.index;omega,rfl,o2,o3,?_⟩)⟩
   show L'.es=afterE p.snap.index p.snap.term s.entries
   rw [← hes0.2,sv.rep.es,hL]
   have:=afterE_ix sv.rep.ix p.snap.index.toNat p.snap.term (p.snap.index.toNat-c.log.bi.toNat-1) c.log.bi.toNat (by omega)
   rw [show ((p.snap.index.toNat:Nat):Int)=p.snap.index by omega] at this
   exact this.symm
  by_cases hh:c.has p.snap.index p.snap.term=true
  ·obtain ⟨r1,r2,r3⟩:=hhas.1 hh
   obtain ⟨q1,q2,q3⟩:=sv.rep.compact (i:=p.snap.index) (by omega) r2
   rw [if_pos ⟨hh,q1⟩]
   have pS:Pre p.snap.index.toNat A LT:=match_at sv.good gl (by omega) (by omega) (by rw [r3,m4])
   refine fin (c.log.compact p.snap.index).2 p.snap p.snap.index {c.out with snap:=p.snap} A (.inl rfl) pS.symm (fun i h=>Pre.refl h.a) q2 q3.symm (fun h=>by rw [q3] at h;omega) (fun _=>?_) m6 (by rw [q3];exact Int.le_refl _) r2 m3 (m7.move pS.symm) rfl (kp3 _ ?_)
   ·rw [q2.bt,q3,pS.take]
    exact ⟨r3.symm,m5⟩
   ·rw [if_pos ⟨by omega,r3⟩,q2.es,q3]
  ·rw [if_neg fun z=>hh z.1]
   have hlen:(LT.take p.snap.index.toNat).length=p.snap.index.toNat:=by rw [List.length_take];omega
   have pL:Pre p.snap.index.toNat LT (LT.take p.snap.index.toNat):=Pre.of_take (by omega) (by omega) (by rw [List.take_take,Nat.min_self])
   have hno:¬(p.snap.index.toNat≤A.length∧termAt A p.snap.index.toNat=p.snap.term):=fun z=>hh (hhas.2 ⟨by omega,by omega,z.2⟩)
   have rp:Rep (lnew p.snap.index p.snap.term) (LT.take p.snap.index.toNat):=Rep.new (by omega) (by rw [hlen];omega) (by rw [hlen,← pL.termAt (Nat.le_refl _)];exact m4.symm) fun j e h=>by
    rw [List.getElem?_take] at h
    split at h
    ·rw [hLT] at h;exact w.ix _ j e h
    ·cases h
   refine fin (lnew p.snap.index p.snap.term) p.snap p.snap.index {c.out with snap:=p.snap} (LT.take p.snap.index.toNat) (.inr ⟨_,by omega,rfl⟩) pL (fun i h=>?_) rp rfl (fun h=>by have h':p.snap.index=0:=h;omega) (fun _=>⟨rfl,?_⟩) m6 (Int.le_refl _) (by rw [hlen];omega) m3 (m7.move pL) rfl (kp3 _ ?_)
   ·have hi:i≤p.snap.index.toNat:=by
     by_cases z:i≤p.snap.index.toNat
     ·exact z
     ·exact absurd ⟨by have:=h.a;omega,by rw [h.termAt (by omega)];exact m4.symm⟩ hno
    exact h.trans (pL.le hi)
   ·show p.snap.crew=conf 14 ((LT.take p.snap.index.toNat).take p.snap.index.toNat)
    rw [List.take_take,Nat.min_self];exact m5
   ·rw [if_neg hno];rfl
 ·rw [if_neg hx]
  exact fin c.log c.snap c.commit c.out A (.inl rfl) pc.symm (fun i h=>Pre.refl h.a) sv.rep sv.si sv.s0 sv.s1 sv.sd hc0 hc1 (by have:=pc.b;omega) sv.com rfl ⟨k.kp.hard,k.kp.log⟩
theorem Mid.told (k:Mid g n s c A) (h2:c.state=2) {p:PostM} (m:Msg g p) (hk:p.kind=4∨p.kind=6) (hd:p.dst=n) (ht:p.term=c.term):Mid g n s (c.told p) A:=by
 have sv:=k.srv
 have w:=k.w
 have hn1:=sv.n1;have hn2:=sv.n2;have hs5:=w.sz5
 obtain ⟨l1,l2,l3,l4⟩:=sv.lead h2
 have hl:g.H.led c.term≠0:=by rw [l1];omega
 have hms:=m.s1;have hms2:=m.s2
 have hne:p.src≠n:=by rw [← hd];exact m.ne
 have hlast:=sv.rep.last
 have hix:0≤p.index∧(p.ok=true∨p.kind=6→p.index.toNat≤g.H.acc p.src c.term):=by
  rcases m.body with z | z | z | ⟨z,_,a,_,b⟩ | z | ⟨z,_,a,_,b⟩
  ·omega
  ·omega
  ·omega
  ·rw [ht] at b;exact ⟨a,fun h=>h.elim b fun h=>by omega⟩
  ·omega
  ·rw [ht] at b;exact ⟨a,fun _=>b⟩
 have acc_le:∀ v,g.H.acc v c.term≤A.length:=fun v=>by rw [← l2];exact w.acc v c.term
 have hm3:=l3 p.src hms (by omega)
 have hn3:=l4 p.src hms (by omega)
 have hma:=acc_le p.src
 unfold CoreM.told
 simp only []
 by_cases hok:p.ok=true∨p.kind=6
 ·rw [if_pos hok]
  have hia:=hix.2 hok
  obtain ⟨mm,hmm⟩:∃ mm,mm=maxI (c.mtch.get p.src) (minI p.index c.log.last.1):=⟨_,rfl⟩
  have hm0:0≤mm∧mm.toNat≤g.H.acc p.src c.term:=by
   rw [hmm,hlast];unfold maxI minI;simp only []
   split <;> split <;> omega
  have hgs:(c.mtch.set p.src mm).get p.src=mm:=by rw [five_get_set _ _ _ _ hms (by omega),if_pos rfl]
  rw [← hmm]
  simp only [hgs]
  have k3:Mid g n s {c with heard:=c.heard.set p.src (maxI (c.heard.get p.src) p.hint),mtch:=c.mtch.set p.src mm,next:=c.next.set p.src (maxI (c.next.get p.src) (mm+1))} A:=⟨w,{sv with
   lead:=fun _=>⟨l1,l2,fun j j1 j2=>by
    show 0≤(c.mtch.set p.src mm).get j∧((c.mtch.set p.src mm).get j).toNat≤_
    rw [five_get_set _ _ _ _ j1 j2]
    split
    ·rename_i z;rw [z];exact hm0
    ·exact l3 j j1 j2,fun j j1 j2=>by
    show 1≤(c.next.set p.src (maxI (c.next.get p.src) (mm+1))).get j∧(c.next.set p.src (maxI (c.next.get p.src) (mm+1))).get j≤_
    rw [five_get_set _ _ _ _ j1 j2]
    split
    ·unfold maxI;split <;> omega
    ·exact l4 j j1 j2⟩
   idle:=fun z=>absurd h2 z},⟨k.kp.hard,k.kp.log⟩,k.out⟩
  have k4:=k3.rank h2
  split
  ·rename_i z
   exact (k4.send z.1 hms hms2 hne).confirm
  ·exact k4.confirm
 ·rw [if_neg hok]
  have k3:Mid g n s {c with heard:=c.heard.set p.src (maxI (c.heard.get p.src) p.hint),next:=c.next.set p.src (maxI (minI (c.next.get p.src-1) (p.index+1)) (c.mtch.get p.src+1))} A:=⟨w,{sv with
   lead:=fun _=>⟨l1,l2,l3,fun j j1 j2=>by
    show 1≤(c.next.set p.src (maxI (minI (c.next.get p.src-1) (p.index+1)) (c.mtch.get p.src+1))).get j∧(c.next.set p.src (maxI (minI (c.next.get p.src-1) (p.index+1)) (c.mtch.get p.src+1))).get j≤_
    rw [five_get_set _ _ _ _ j1 j2]
    split
    ·unfold maxI minI;split <;> split <;> omega
    ·exact l4 j j1 j2⟩
   idle:=fun z=>absurd h2 z},⟨k.kp.hard,k.kp.log⟩,k.out⟩
  exact (k3.send h2 hms hms2 hne).confirm
theorem vput_bits:∀ a:Nat,a<64→∀ n:Nat,n<6→1≤n→0≤vput (a:Int) (n:Int)∧vput (a:Int) (n:Int)<64∧∀ j:Nat,j<5→hasB (vput (a:Int) (n:Int)) ((j:Int)+1)=(hasB (a:Int) ((j:Int)+1) || decide (j+1=n)):=by decide +kernel
theorem hasB_range1 {v m:Int} (h:hasB v m=true):1≤m∧m≤5:=by
 unfold hasB at h;simp only [Bool.and_eq_true,decide_eq_true_eq] at h;exact h.1
theorem Mid.voted (k:Mid g n s c A) {p:PostM} (m:Msg g p) (hk:p.kind=2) (hd:p.dst=n) (ht:p.term=c.term) (hs:c.out.snap.index=0) (hal:(A.length:Int)+1≤g.lim) :
  ∃ g' A',Ext n g g'∧g'.lim=g.lim∧Mid g' n s (c.voted p) A':=by
 have sv:=k.srv
 have hs5:=k.w.sz5
 unfold CoreM.voted
 by_cases h:c.state≠1∨p.ok=false
 ·rw [if_pos h];exact ⟨g,A,Ext.refl _ _,rfl,k⟩
 ·rw [if_neg h]
  have h1:c.state=1:=by
   by_cases z:c.state=1
   ·exact z
   ·exact absurd (.inl z) h
  have hok:p.ok=true:=by
   cases z:p.ok
   ·exact absurd (.inr z) h
   ·rfl
  obtain ⟨b1,b2,b3⟩:g.vt p.src p.term=p.dst∧g.vt p.dst p.term=p.dst∧Vow g.H p.src p.term (· ≤ p.term) (g.cand p.term p.dst):=by
   rcases m.body with z | ⟨_,_,z⟩ | z | z | z | z
   ·omega
   ·exact z hok
   ·omega
   ·omega
   ·omega
   ·omega
  obtain ⟨a1,a2,a3,a4,a5,a6⟩:=sv.cand h1
  rw [ht,hd] at b1 b3
  have hb3:Vow g.H p.src c.term (· ≤ c.term) A:=by rw [← a3];exact b3
  have hv:=sv.v1;have hv2:=sv.v2
  obtain ⟨a,ha⟩:∃ a:Nat,c.votes=a:=⟨c.votes.toNat,by omega⟩
  obtain ⟨q,hq⟩:∃ q:Nat,p.src=q:=⟨p.src.toNat,by have:=m.s1;omega⟩
  have hms:=m.s1;have hms2:=m.s2
  have hvb:=vput_bits a (by omega) q (by omega) (by omega)
  have k1:Mid g n s {c with votes:=vput c.votes p.src} A:=⟨k.w,{sv with
   lead:=fun h=>by have h':c.state=2:=h;omega
   lc:=fun h=>by have h':c.state=2:=h;omega
   cand:=fun _=>⟨a1,a2,a3,a4,a5,fun v hv=>by
    have hv':hasB (vput c.votes p.src) v=true:=hv
    obtain ⟨v1,v2⟩:=hasB_range1 hv'
    obtain ⟨j,rfl⟩:∃ j:Nat,v=(j:Int)+1:=⟨(v-1).toNat,by omega⟩
    rw [ha,hq,hvb.2.2 j (by omega)] at hv'
    rw [Bool.or_eq_true,decide_eq_true_eq] at hv'
    rcases hv' with hv' | hv'
    ·exact a6 _ (by rw [ha];exact hv')
    ·rw [show ((j:Int)+1)=p.src by omega]
     exact ⟨b1,hb3⟩⟩
   v1:=by show 0≤vput c.votes p.src;rw [ha,hq];exact hvb.1
   v2:=by show vput c.votes p.src<64;rw [ha,hq];exact hvb.2.1},⟨k.kp.hard,k.kp.log⟩,k.out⟩
  simp only []
  split
  ·rename_i hel
   exact k1.lead h1 hel hs hal
  ·exact ⟨g,A,Ext.refl _ _,rfl,k1⟩
theorem Mid.take1 (k:Mid g n s c A) {p:PostM} (m:Msg g p) (hd:p.dst=n) (ht:p.term=c.term) (hnl:p.kind=1→c.state≠2) {draw:Int} (hdr:0≤draw) (o1:c.out.snap.index=0) (o2:c.out.cut=0) (o3:c.out.entries=[]) (hal:(A.length:Int)+1≤g.lim) :
  ∃ g' A',Ext n g g'∧g'.lim=g.lim∧Mid g' n s (c.take1 p draw) A':=by
 have hk:1≤p.kind∧p.kind≤6:=by rcases m.body with z | z | z | z | z | z <;> omega
 unfold CoreM.take1
 split
 ·rename_i h
  obtain ⟨g',x,y⟩:=k.asked' m h hd ht (hnl h) hdr
  exact ⟨g',A,x,y.1,y.2⟩
 ·split
  ·rename_i h;exact k.voted m h hd ht o1 hal
  ·split
   ·rename_i h
    split
    ·exact ⟨g,A,Ext.refl _ _,rfl,k⟩
    ·have kh:=k.heardOf (from_:=p.src) hdr
     simp only []
     split
     ·rename_i h5;exact kh.install rfl m h5 hd ht o1 o2 o3
     ·exact kh.append rfl m (by omega) hd ht o1 o2 o3
   ·split
    ·rename_i h2;exact ⟨g,A,Ext.refl _ _,rfl,k.told h2 m (by omega) hd ht⟩
    ·exact ⟨g,A,Ext.refl _ _,rfl,k⟩
theorem Mid.take (k:Mid g n s c A) {p:PostM} (m:Msg g p) (hd:p.dst=n) {draw:Int} (hdr:0≤draw) (o1:c.out.snap.index=0) (o2:c.out.cut=0) (o3:c.out.entries=[]) (hal:(A.length:Int)+1≤g.lim) :
  ∃ g' A',Ext n g g'∧g'.lim=g.lim∧Mid g' n s (c.take p draw) A':=by
 unfold CoreM.take
 split
 ·exact ⟨g,A,Ext.refl _ _,rfl,k⟩
 ·rename_i hled
  split
  ·rename_i h;exact ⟨g,A,Ext.refl _ _,rfl,k.refuse m hd h⟩
  ·split
   ·rename_i h
    have hpl:=k.w.l1 p.src m.s1 m.s2
    obtain ⟨x,kl⟩:=k.learn (t:=p.term) (by rw [← k.srv.tm];exact h) (by have:=m.t2;omega)
    obtain ⟨g',A',y,yl,z⟩:=kl.take1 (x.msg k.w m) hd rfl (fun _ h=>by cases h) hdr o1 o2 o3 hal
    exact ⟨g',A',x.trans y,yl,z⟩
   ·rename_i h1 h2
    exact k.take1 m hd (by omega) (fun h h2=>hled ⟨h,by simp [CoreM.led,h2]⟩) hdr o1 o2 o3 hal
end
end Go.Ah
