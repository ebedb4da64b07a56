/- Texts that the law leans on, one behind the other. -/
import Derived.Test.YtdmjkpjedidipaaGreatKCk1
namespace Go.Ah
open Go.MapKept
set_option linter.unusedVariables false
set_option linter.unusedSimpArgs false
structure MapAt (h : Heap) (r : Nat) (tg : Tag) (d : TypeDesc) (es : List MapEntry) (clock : Nat) : Prop where
  at_ : h r = some (tg, .map es.toArray clock)
  keys : ∀ x ∈ es, IsKey d x.key
  st : Stamped es.toArray clock
theorem MapAt.nodup {h : Heap} {r : Nat} {tg : Tag} {d : TypeDesc} {es : List MapEntry} {clock : Nat} (m : MapAt h r tg d es clock) : (es.map (·.key)).Nodup := by
 have := m.st.2.2; simpa using this
theorem MapAt.move {h h' : Heap} {r : Nat} {tg : Tag} {d : TypeDesc} {es : List MapEntry} {clock : Nat} (m : MapAt h r tg d es clock) (k : ∀ x, h r = some (tg, x) → h' r = some (tg, x)) : MapAt h' r tg d es clock :=
 ⟨k _ m.at_, m.keys, m.st⟩
theorem MapAt.empty {h : Heap} {r : Nat} {tg : Tag} {d : TypeDesc} (e : h r = some (tg, .map #[] 0)) : MapAt h r tg d [] 0 := ⟨e, by simp, stamped_empty 0⟩
abbrev kv (e : MapEntry) : Value × Value := (e.key, e.val)
section
variable {P : Program}
theorem rwp_underlying {t : TypeId} {d : TypeDesc} (hu : P.underlying t = some d) {K : TypeDesc → Prop} {h : Heap} (k : K d) : rwp P (underlying t) h K := by
 unfold underlying
 simp only [program, bind, Sem.bind, rwp, hu, pure]
 exact k
theorem rwp_getObj {r : Nat} {tg : Tag} {es : Array MapEntry} {clock : Nat} {h : Heap} {K : Obj → Prop} (hr : h r = some (tg, .map es clock)) (k : K (.map es clock)) : rwp P (getObj r) h K :=
 ⟨tg, _, hr, rfl, k⟩
theorem rwp_checkKey {kt : TypeId} {d : TypeDesc} {k : Value} (hd : P.underlying kt = some d) (hk : IsKey d k) (e : Bool) (n : Nat) {h : Heap} {K : Unit → Prop} (c : K ()) : rwp P (Instr.checkKey e (n + 1) kt k) h K := by
 unfold Instr.checkKey
 refine rwp_bind _ _ (rwp_underlying hd ?_)
 cases d <;> cases k <;> first | exact c | exact hk.elim
theorem rwp_findKey {kt : TypeId} {d : TypeDesc} {k : Value} {l : List MapEntry} {a : Option (Nat × Value)} (hd : P.underlying kt = some d) (hf : Instr.findNow d k l 0 = some a) {h : Heap} {K : Option (Nat × Value) → Prop} (c : K a) :
  rwp P (Instr.findKey kt k l) h K := by
 unfold Instr.findKey
 refine rwp_bind _ _ (rwp_underlying hd ?_)
 rw [hf]; exact c
theorem rwp_zeroValue {t : TypeId} {i : TypeInfo} {z : Value} (hi : P.info? t = some i) (hz : i.zero = some z) {h : Heap} {K : Value → Prop} (c : K z) : rwp P (zeroValue t) h K := by
 unfold zeroValue typeInfo
 simp only [program, bind, Sem.bind, rwp, hi, hz, pure]
 exact c
theorem rwp_awp {α : Type} (s : Sem α) : ∀ {h : Heap} {K : α → Heap → Prop}, rwp P s h (fun a => K a h) → awp P s h K := by
 induction s with
 | pure a => intro h K k; exact k
 | load m a k ih => intro h K ⟨v, hv, q⟩; exact ⟨v, hv, ih v q⟩
 | shape r k ih => intro h K ⟨t, c, e, fz, hv, q⟩; exact ⟨t, c, e, fz, hv, ih _ q⟩
 | frozen a k ih => intro h K ⟨t, c, e, lo, hi, hv, q⟩; exact ⟨t, c, e, lo, hi, hv, ih _ q⟩
 | getObj r k ih => intro h K ⟨t, o, hv, hc, q⟩; exact ⟨t, o, hv, hc, ih _ q⟩
 | program k ih => intro h K q; exact ih _ q
 | mark m k ih => intro h K q; exact ih q
 | store m a v k ih => intro h K k; exact k.elim
 | new o k ih => intro h K k; exact k.elim
 | freeze a n k ih => intro h K k; exact k.elim
 | setObj r o k ih => intro h K k; exact k.elim
 | choose q k ih => intro h K k; exact k.elim
 | sys c k ih => intro h K k; exact k.elim
 | halt x => intro h K k; exact k.elim
def zeroV (P : Program) (t : TypeId) : Option Value := (P.info? t).bind (·.zero)
theorem zeroV_info {t : TypeId} {z : Value} (h : zeroV P t = some z) : ∃ i, P.info? t = some i ∧ i.zero = some z := by
 unfold zeroV at h
 cases hi : P.info? t with
 | none => rw [hi] at h; cases h
 | some i => rw [hi] at h; exact ⟨i, rfl, h⟩
theorem nodup_idx {es : List MapEntry} (hn : (es.map (·.key)).Nodup) {i j : Nat} {e e' : MapEntry} (hi : es[i]? = some e) (hj : es[j]? = some e') (h : e.key = e'.key) : i = j := by
 obtain ⟨hi, hie⟩ := List.getElem?_eq_some_iff.1 hi
 obtain ⟨hj, hje⟩ := List.getElem?_eq_some_iff.1 hj
 have hp := List.pairwise_iff_getElem.1 (List.nodup_iff_pairwise_ne.1 hn)
 have e1 : (es.map (·.key))[i]'(by simpa using hi) = (es.map (·.key))[j]'(by simpa using hj) := by simp [hie, hje, h]
 rcases Nat.lt_trichotomy i j with hlt | rfl | hgt
 ·exact absurd e1 (hp i j _ _ hlt)
 ·rfl
 ·exact absurd e1.symm (hp j i _ _ hgt)
theorem ALookup.hit {t kt et : TypeId} {d : TypeDesc} {h : Heap} {r clock : Nat} {tg : Tag} {es : List MapEntry} {k : Value} {ok : Bool} {K : Value → Prop} {e : MapEntry} (m : MapAt h r tg d es clock)
  (ht : P.underlying t = some (.map kt et)) (hd : P.underlying kt = some d) (he : e ∈ es) (hk : e.key = k) (c : K (bif ok then .tuple #[e.val, .bool true] else e.val)) : ALookup P t r k ok h K := by
 refine ⟨?_⟩
 unfold Instr.lookup
 have hik : IsKey d k := hk ▸ m.keys e he
 refine rwp_bind _ _ (rwp_underlying ht ?_)
 refine rwp_bind _ _ (rwp_bind _ _ (rwp_getObj m.at_ ?_))
 change rwp P (Sem.bind (Instr.checkKey _ 10000 kt k) _) h K
 refine rwp_bind _ _ (rwp_checkKey hd hik _ _ ?_)
 rcases findNow_spec hik es 0 m.keys with ⟨h1, h2⟩ | ⟨j, e', h1, h2, h3⟩
 ·exact absurd hk (h2 e he)
 ·have hee : e' = e := by
   obtain ⟨i, hi⟩ := List.getElem?_of_mem he
   have := nodup_idx m.nodup hi h2 (hk.trans h3.symm)
   subst this
   rw [hi] at h2; cases h2; rfl
  refine rwp_bind _ _ (rwp_findKey hd h1 ?_)
  rw [hee]
  cases ok <;> exact c
theorem ALookup.miss {t kt et : TypeId} {d : TypeDesc} {h : Heap} {r clock : Nat} {tg : Tag} {es : List MapEntry} {k : Value} {ok : Bool} {K : Value → Prop} {z : Value} (m : MapAt h r tg d es clock)
  (ht : P.underlying t = some (.map kt et)) (hd : P.underlying kt = some d) (hz : zeroV P et = some z) (hik : IsKey d k) (hk : ∀ e ∈ es, e.key ≠ k) (c : K (bif ok then .tuple #[z, .bool false] else z)) : ALookup P t r k ok h K := by
 refine ⟨?_⟩
 obtain ⟨i, hi, hz⟩ := zeroV_info hz
 unfold Instr.lookup
 refine rwp_bind _ _ (rwp_underlying ht ?_)
 refine rwp_bind _ _ (rwp_bind _ _ (rwp_getObj m.at_ ?_))
 change rwp P (Sem.bind (Instr.checkKey _ 10000 kt k) _) h K
 refine rwp_bind _ _ (rwp_checkKey hd hik _ _ ?_)
 rcases findNow_spec hik es 0 m.keys with ⟨h1, h2⟩ | ⟨j, e', h1, h2, h3⟩
 ·refine rwp_bind _ _ (rwp_findKey hd h1 ?_)
  refine rwp_bind _ _ (rwp_zeroValue hi hz ?_)
  cases ok <;> exact c
 ·exact absurd h3 (hk e' (List.mem_of_getElem? h2))
theorem AMakeMap.mk {h : Heap} {K : Value → Heap → Prop} (tg : Tag) (k : ∀ b, Fresh h b → K (.map (some b)) (h.set b (tg, .map #[] 0))) : AMakeMap h K := ⟨⟨tg, k⟩⟩
theorem AMapUpd.hit {t kt et : TypeId} {d : TypeDesc} {h : Heap} {r clock : Nat} {tg : Tag} {es : List MapEntry} {k x : Value} {K : Heap → Prop} {j : Nat} {e : MapEntry} (m : MapAt h r tg d es clock)
  (ht : P.underlying t = some (.map kt et)) (hd : P.underlying kt = some d) (hj : es[j]? = some e) (hk : e.key = k)
  (c : MapAt (h.set r (tg, .map (es.set j { e with val := x }).toArray clock)) r tg d (es.set j { e with val := x }) clock → K (h.set r (tg, .map (es.set j { e with val := x }).toArray clock))) : AMapUpd P t r k x h K := by
 refine ⟨?_⟩
 unfold Instr.mapUpdate
 have he := List.mem_of_getElem? hj
 have hik : IsKey d k := hk ▸ m.keys e he
 refine awp_bind _ _ (rwp_awp _ (rwp_underlying ht ?_))
 refine awp_bind _ _ (rwp_awp _ (rwp_getObj m.at_ ?_))
 refine awp_bind _ _ (rwp_awp _ (rwp_checkKey hd hik _ _ ?_))
 rcases findNow_spec hik es 0 m.keys with ⟨h1, h2⟩ | ⟨j', e', h1, h2, h3⟩
 ·exact absurd hk (h2 e he)
 ·have hjj : j' = j := nodup_idx m.nodup h2 hj (h3.trans hk.symm)
  subst hjj
  have hee : e' = e := by rw [hj] at h2; cases h2; rfl
  subst hee
  refine awp_bind _ _ (rwp_awp _ (rwp_findKey hd h1 ?_))
  have hks : (((es.toArray[0 + j']?).map (·.key)).getD k) = k := by
   have : es.toArray[0 + j']? = some e' := by simpa using hj
   rw [this]; exact hk
  have harr : es.toArray.modify (0 + j') (fun e => { e with key := k, val := x }) = (es.set j' { e' with val := x }).toArray := by
   apply Array.ext'
   apply List.ext_getElem?
   intro i
   rw [Nat.zero_add]
   simp only [Array.getElem?_toList, Array.getElem?_modify, List.getElem?_toArray, List.getElem?_set]
   by_cases hji : j' = i
   ·subst hji
    have hlt := (List.getElem?_eq_some_iff.1 hj).1
    simp only [if_true, hj, Option.map_some, hlt]
    rw [← hk]
   ·simp [hji]
  have m' : MapAt (h.set r (tg, .map (es.set j' { e' with val := x }).toArray clock)) r tg d (es.set j' { e' with val := x }) clock := by
   refine ⟨Heap.set_same _ _ _, ?_, ?_⟩
   ·intro y hy
    rcases List.mem_or_eq_of_mem_set hy with hy | rfl
    ·exact m.keys y hy
    ·exact m.keys e' he
   ·have := stamped_modify m.st (0 + j') (fun e => { e with key := k, val := x }) (fun _ _ => rfl) (fun e'' _ he'' => by
     have : es.toArray[0 + j']? = some e' := by simpa using hj
     rw [this] at he''; cases he''; exact hk.symm)
    rw [harr] at this
    exact this
  simp only [hks]
  refine awp_bind _ _ ?_
  have hst : awp P (Instr.keyThatStays k k) h (fun a h' => a = k ∧ h' = h) := by
   unfold Instr.keyThatStays
   rw [if_pos (sameBits_self hik _)]
   exact ⟨rfl, rfl⟩
  refine awp_mono _ ?_ hst
  rintro _ _ ⟨rfl, rfl⟩
  rw [harr]
  exact ⟨tg, _, m.at_, rfl, c m'⟩
theorem AMapUpd.miss {t kt et : TypeId} {d : TypeDesc} {h : Heap} {r clock : Nat} {tg : Tag} {es : List MapEntry} {k x : Value} {K : Heap → Prop} (m : MapAt h r tg d es clock)
  (ht : P.underlying t = some (.map kt et)) (hd : P.underlying kt = some d) (hik : IsKey d k) (hk : ∀ e ∈ es, e.key ≠ k)
  (c : MapAt (h.set r (tg, .map (es ++ [(⟨k, x, clock⟩ : MapEntry)]).toArray (clock + 1))) r tg d (es ++ [(⟨k, x, clock⟩ : MapEntry)]) (clock + 1) → K (h.set r (tg, .map (es ++ [(⟨k, x, clock⟩ : MapEntry)]).toArray (clock + 1)))) : AMapUpd P t r k x h K := by
 refine ⟨?_⟩
 unfold Instr.mapUpdate
 refine awp_bind _ _ (rwp_awp _ (rwp_underlying ht ?_))
 refine awp_bind _ _ (rwp_awp _ (rwp_getObj m.at_ ?_))
 refine awp_bind _ _ (rwp_awp _ (rwp_checkKey hd hik _ _ ?_))
 rcases findNow_spec hik es 0 m.keys with ⟨h1, h2⟩ | ⟨j', e', h1, h2, h3⟩
 ·refine awp_bind _ _ (rwp_awp _ (rwp_findKey hd h1 ?_))
  have harr : es.toArray.push { key := k, val := x, born := clock } = (es ++ [(⟨k, x, clock⟩ : MapEntry)]).toArray := by simp
  refine ⟨tg, _, m.at_, rfl, ?_⟩
  rw [harr]
  refine c ⟨Heap.set_same _ _ _, ?_, ?_⟩
  ·intro y hy
   rcases List.mem_append.1 hy with hy | hy
   ·exact m.keys y hy
   ·simp only [List.mem_singleton] at hy; subst hy; exact hik
  ·have := stamped_push m.st (key := k) (val := x) (by simpa using hk)
   rw [harr] at this; exact this
 ·exact absurd h3 (hk e' (List.mem_of_getElem? h2))
end
abbrev S (n : List UInt8) : Value := .string ⟨n.toArray⟩
theorem AStrIdx.at {P : Program} {t : TypeId} {n : List UInt8} {i : Int} {j : Nat} {b : UInt8} {K : Value → Prop} (hu : P.underlying t = some .string) (hi : i = (j : Int)) (hb : n[j]? = some b) (k : K (.int .u8 b.toNat)) : AStrIdx P t ⟨n.toArray⟩ i K := by
 subst hi
 refine ⟨⟨hu, Int.natCast_nonneg _, b, ?_, k⟩⟩
 rw [Int.toNat_natCast]
 obtain ⟨hl, e⟩ := List.getElem?_eq_some_iff.1 hb
 have hs : j < (⟨n.toArray⟩ : ByteArray).size := hl
 rw [getElem?_pos (⟨n.toArray⟩ : ByteArray) j hs]
 congr 1
end Go.Ah
namespace Go.Ah
set_option linter.unusedVariables false
set_option linter.unusedSimpArgs false
def NoOwner (o : Nat) (h : Heap) : Prop := ∀ b t x, h b = some (t, x) → t.1 ≠ o
theorem Keep.toSub {o : Nat} {h h' : Heap} (k : Keep o h h') (n : NoOwner o h) : Sub h h' := fun b ⟨t, x⟩ e => k _ _ _ (n _ _ _ e) e
def Bound (o : Nat) (h : Heap) : Prop := ∀ b t x, h b = some (t, x) → t.1 < o
theorem Bound.no {o o' : Nat} {h : Heap} (k : Bound o h) (ho : o ≤ o') : NoOwner o' h := fun b t x e => by have := k b t x e; omega
theorem exists_bound (h : Heap) : ∀ n : Nat, ∃ o, o ≠ 0 ∧ ∀ b t x, b < n → h b = some (t, x) → t.1 < o
 | 0 => ⟨1, by omega, fun b t x hb => absurd hb (by omega)⟩
 | n + 1 => by
  obtain ⟨o, ho, k⟩ := exists_bound h n
  cases hn : h n with
  | none =>
   refine ⟨o, ho, fun b t x hb e => ?_⟩
   by_cases c : b = n
   ·subst c; rw [hn] at e; cases e
   ·exact k b t x (by omega) e
  | some y =>
   refine ⟨o + y.1.1 + 1, by omega, fun b t x hb e => ?_⟩
   by_cases c : b = n
   ·subst c; rw [hn] at e; cases e; simp only []; omega
   ·have := k b t x (by omega) e; omega
theorem exists_owner {h : Heap} {w : World} (hr : Rel h w) : ∃ o, o ≠ 0 ∧ Bound o h := by
 obtain ⟨o, ho, k⟩ := exists_bound h w.heap.size
 exact ⟨o, ho, fun b t x e => k b t x (hr.fresh _ _ e) e⟩
theorem ACalls.owner {P : Program} {f : FuncId} {args : Array Value} {h : Heap} {R : Value → Heap → Prop} (hp : Plain P f) (k : ∀ o, o ≠ 0 → Bound o h → ACalls P f args h R) : ACalls P f args h R :=
 ⟨hp, fun β w hr => by obtain ⟨o, ho, hn⟩ := exists_owner hr.rel; exact (k o ho hn).out β w hr⟩
def heapOf (w : World) : Heap := fun b => (w.heap[b]?).map fun o => ((0, 0), o)
theorem heapOf_rel (w : World) : RelB ⟨w.os, w.tape, w.output, w.heap.size⟩ (heapOf w) w :=
 ⟨fun b t o e => by
  unfold heapOf at e
  cases hb : w.heap[b]? with
  | none => rw [hb] at e; cases e
  | some x => rw [hb] at e; simp only [Option.map_some, Option.some.injEq, Prod.mk.injEq] at e; rw [e.2], rfl, rfl, rfl, Nat.le_refl _⟩
def Stays (h h' : Heap) : Prop := ∀ b x, h b = some ((0, 0), x) → h' b = some ((0, 0), x)
theorem Sub.stays {h h' : Heap} (s : Sub h h') : Stays h h' := fun _ _ x => s _ _ x
theorem Stays.trans {a b c : Heap} (x : Stays a b) (y : Stays b c) : Stays a c := fun _ _ z => y _ _ (x _ _ z)
def Keeps (os : List Nat) (h h' : Heap) : Prop := ∀ b (t : Tag) x, t.1 ∉ os → h b = some (t, x) → h' b = some (t, x)
theorem Keeps.refl (os : List Nat) (h : Heap) : Keeps os h h := fun _ _ _ _ x => x
theorem Keeps.trans {os : List Nat} {a b c : Heap} (x : Keeps os a b) (y : Keeps os b c) : Keeps os a c := fun _ _ _ n z => y _ _ _ n (x _ _ _ n z)
theorem Sub.keeps {h h' : Heap} (s : Sub h h') (os : List Nat) : Keeps os h h' := fun _ _ _ _ x => s _ _ x
theorem Keep.keeps {o : Nat} {os : List Nat} {h h' : Heap} (k : Keep o h h') (m : o ∈ os) : Keeps os h h' := fun _ _ _ n x => k _ _ _ (fun c => n (c ▸ m)) x
theorem Sl.keeps {h h' : Heap} {t : Tag} {os : List Nat} {a : Option Addr} {n cap z : Nat} {cs : List Value} (s : Sl h t a n cap z cs) (k : Keeps os h h') (ho : t.1 ∉ os) : Sl h' t a n cap z cs := s.move fun _ _ e => k _ _ _ ho e
theorem Sl.stays {h h' : Heap} {a : Option Addr} {n cap z : Nat} {cs : List Value} (s : Sl h (0, 0) a n cap z cs) (k : Stays h h') : Sl h' (0, 0) a n cap z cs := s.move fun _ _ e => k _ _ e
theorem top {P : Program} {f : FuncId} {args : Array Value} {w : World} (c : ACalls P f args (heapOf w) (fun v h' => v = .bool true ∧ Stays (heapOf w) h')) :
  Calls P f args w fun e w' => e = .returned (.bool true) ∧ _root_.Go.RowKit.Below w.heap.size w w' := by
 refine (c.out _ w (heapOf_rel w)).mono fun e w' ⟨v, h', he, hr, hv, hs⟩ => ⟨by rw [he, hv], hr.os, hr.tape, hr.out, hr.size, fun k hk => ?_⟩
 have h1 : heapOf w k = some ((0, 0), w.heap[k]) := by unfold heapOf; simp [hk]
 have := hr.rel _ _ _ (hs _ _ h1)
 rw [this]; simp [hk]
structure Hered {H : Type} (P : Program) (Q : TypeId → DataW H → Prop) : Prop where
  sl : ∀ {t e : TypeId} {es rest : List (DataW H)}, P.underlying t = some (.slice e) → Q t (.slice es rest) → ∀ d ∈ es, Q e d
  st : ∀ {t : TypeId} {fs : Array Field} {ps : List (DataW H)}, P.underlying t = some (.struct fs) → Q t (.agg ps) → ∀ (i : Nat) f d, fs[i]? = some f → ps[i]? = some d → Q f.type d
def Rd {H : Type} (enc : TypeId × Value → H) (P : Program) (w : World) (Q : TypeId → DataW H → Prop) (t : TypeId) (cs : List Value) : Prop :=
  ∃ fuel d ps, DataW.trod enc P w 0 (fun _ => true) true fuel t cs = some (d, ps) ∧ Q t d
section
variable {H : Type} {enc : TypeId × Value → H} {P : Program} {w : World} {Q : TypeId → DataW H → Prop}
theorem Rd.int {t : TypeId} {k : IntKind} {cs : List Value} (ht : P.underlying t = some (.int k)) (r : Rd enc P w Q t cs) : ∃ n, cs = [.int k n] ∧ (Lit.int k n).wf = true := by
 obtain ⟨fuel, d, ps, h, q⟩ := r
 obtain ⟨n, e, _, hw⟩ := DataW.trod_int ht h
 exact ⟨n, e, hw⟩
theorem Rd.struct {t : TypeId} {fs : Array Field} {cs : List Value} (hh : Hered P Q) (ht : P.underlying t = some (.struct fs)) (r : Rd enc P w Q t cs) :
  cs.length = P.cellsOf t ∧ ∀ (i : Nat) (f : Field), fs[i]? = some f → Rd enc P w Q f.type ((cs.drop f.offset).take (P.cellsOf f.type)) := by
 obtain ⟨fuel, d, ps, h, q⟩ := r
 obtain ⟨xs, n, _, hx, hl, hlen, hf⟩ := DataW.trod_struct ht h
 cases hx
 refine ⟨hl, fun i f hi => ?_⟩
 have hlt : i < xs.length := by rw [hlen]; exact (Array.getElem?_eq_some_iff.1 hi).1
 refine ⟨n, (xs[i]).1, (xs[i]).2, ?_, hh.st ht q i f _ hi (by simp [hlt])⟩
 rw [hf i f hi]; simp [hlt]
theorem cells_of {b off : Nat} {spot : Option Nat} {n : Nat} {cs : List Value} (h0 : 0 < n) (h : w.cells? 0 ⟨b, off, spot⟩ n = some cs) :
  spot = none ∧ ∃ (l : List Value) (E : TypeId) (fz : Nat × Nat), w.heap[b]? = some (.cells l.toArray E fz) ∧ (l.drop off).take n = cs := by
 obtain ⟨_, hl, hc⟩ := World.cells?_some h
 have c0 := hc 0 h0
 have hx0 : (⟨b, off, spot⟩ : Addr).add 0 = ⟨b, off, spot⟩ := by simp [Addr.add]
 have h1 : cs[0]? = some (cs[0]'(by omega)) := by simp
 rw [hx0, h1] at c0
 unfold World.cell? at c0
 simp only [] at c0
 split at c0
 ·rename_i c E fz hb
  cases spot with
  | some s => simp at c0
  | none =>
   refine ⟨rfl, c.toList, E, fz, hb, ?_⟩
   apply List.ext_getElem?
   intro i
   rw [List.getElem?_take, List.getElem?_drop]
   by_cases hi : i < n
   ·rw [if_pos hi, ← hc i hi, addr_add]
    unfold World.cell?
    simp only [hb]
    simp
   ·rw [if_neg hi]; symm; rw [List.getElem?_eq_none]; omega
 ·cases c0
theorem cells_split {b off : Nat} {l : List Value} {E : TypeId} {fz : Nat × Nat} (z : Nat) : ∀ (es : List (List Value)), (∀ (i : Nat) e, es[i]? = some e → (l.drop (off + i * z)).take z = e ∧ e.length = z) → (l.drop off).take (es.length * z) = es.flatten
 | [], _ => by simp
 | e :: es, h => by
  have h0 := h 0 e rfl
  rw [Nat.zero_mul, Nat.add_zero] at h0
  have ih := cells_split (b := b) (E := E) (fz := fz) (off := off + z) z es fun i e' hi => by
   have := h (i + 1) e' hi
   rw [Nat.add_mul, Nat.one_mul, Nat.add_comm (i * z) z, ← Nat.add_assoc] at this
   exact this
  rw [List.length_cons, Nat.add_mul, Nat.one_mul, Nat.add_comm, List.flatten_cons, List.take_add, h0.1, List.drop_drop, ih]
theorem Rd.slice {t e z : TypeId} {cs : List Value} (hh : Hered P Q) (ht : P.underlying t = some (.slice e)) (hz : P.cellsOf e = z) (hz0 : 0 < z) (r : Rd enc P w Q t cs) :
  ∃ (a : Option Addr) (n c : Nat) (es : List (List Value)), cs = [.slice a n c] ∧ n ≤ c ∧ c ≤ maxLen ∧ es.length = n ∧ Sl (heapOf w) (0, 0) a n c z es.flatten ∧ (∀ x ∈ es, x.length = z ∧ Rd enc P w Q e x) ∧
   ∃ ds rest : List (DataW H), ds.length = n ∧ ((c = 0 ∧ rest = []) ∨ (ds.length + rest.length = c ∧ Q t (.slice ds rest))) := by
 obtain ⟨fuel, d, ps, h, q⟩ := r
 rcases DataW.trod_slice ht h with ⟨rfl, hx⟩ | ⟨a, len, cap, elems, rest, n, _, rfl, hx, hb, hl, hm, hlen, hel, hsp, hns⟩
 ·exact ⟨none, 0, 0, [], rfl, Nat.le_refl _, Nat.zero_le _, rfl, Sl.nil .., by simp, [], [], rfl, .inl ⟨rfl, rfl⟩⟩
 ·cases hx
  obtain ⟨hrl, _⟩ := hsp rfl
  have each : ∀ i, i < len → ∃ cs y, w.cells? 0 (a.add (i * z)) z = some cs ∧ DataW.trod enc P w 0 (fun _ => true) true n e cs = some y ∧ elems[i]? = some y := by
   intro i hi
   have h1 := hel i hi
   rw [hz] at h1
   have h2 : elems[i]? = some (elems[i]'(by omega)) := by simp
   rw [h2] at h1
   obtain ⟨cs, hc, hy⟩ := Option.bind_eq_some_iff.1 h1
   exact ⟨cs, _, hc, hy, h2⟩
  have fin : ∀ es : List (List Value), es.length = len → Sl (heapOf w) (0, 0) (some a) len cap z es.flatten → (∀ (i : Nat) x, es[i]? = some x → w.cells? 0 (a.add (i * z)) z = some x) →
    ∃ (a' : Option Addr) (n' c : Nat) (es : List (List Value)), [Value.slice (some a) len cap] = [.slice a' n' c] ∧ n' ≤ c ∧ c ≤ maxLen ∧ es.length = n' ∧ Sl (heapOf w) (0, 0) a' n' c z es.flatten ∧ (∀ x ∈ es, x.length = z ∧ Rd enc P w Q e x) ∧
    ∃ ds rest : List (DataW H), ds.length = n' ∧ ((c = 0 ∧ rest = []) ∨ (ds.length + rest.length = c ∧ Q t (.slice ds rest))) := by
   intro es he hs hc
   refine ⟨some a, len, cap, es, rfl, hl, hm, he, hs, ?_, elems.map (·.1), rest.map (·.1), by simpa using hlen, .inr ⟨by simp [hlen, hrl]; omega, q⟩⟩
   intro x hx
   obtain ⟨i, hi⟩ := List.getElem?_of_mem hx
   have hil : i < len := by rw [← he]; exact (List.getElem?_eq_some_iff.1 hi).1
   obtain ⟨cs, y, h1, h2, h3⟩ := each i hil
   rw [hc i x hi] at h1
   cases h1
   exact ⟨(World.cells?_some (hc i x hi)).2.1, n, y.1, y.2, h2, hh.sl ht q _ (List.mem_map.2 ⟨y, List.mem_of_getElem? h3, rfl⟩)⟩
  have hes : ∃ es : List (List Value), es.length = len ∧ ∀ (i : Nat) x, es[i]? = some x → w.cells? 0 (a.add (i * z)) z = some x := by
   refine ⟨(List.range len).map fun i => (w.cells? 0 (a.add (i * z)) z).getD [], by simp, fun i x hi => ?_⟩
   have hil : i < len := by have := (List.getElem?_eq_some_iff.1 hi).1; simpa using this
   obtain ⟨cs, y, h1, _, _⟩ := each i hil
   simp [hil, h1] at hi
   rw [← hi]; exact h1
  obtain ⟨es, he, hc⟩ := hes
  refine fin es he ?_ hc
  rcases Nat.eq_zero_or_pos len with h0 | h0
  ·have : es = [] := List.eq_nil_of_length_eq_zero (by omega)
   subst this; subst h0
   exact ⟨by simp, hl, .inl rfl⟩
  ·obtain ⟨b, off, spot⟩ := a
   have hlen' : ∀ x ∈ es, x.length = z := fun x hx => by
    obtain ⟨i, hi⟩ := List.getElem?_of_mem hx
    exact (World.cells?_some (hc i x hi)).2.1
   have c0 := hc 0 (es[0]'(by omega)) (by simp)
   have hx0 : (⟨b, off, spot⟩ : Addr).add (0 * z) = ⟨b, off, spot⟩ := by simp [Addr.add]
   rw [hx0] at c0
   obtain ⟨rfl, l, E, fz, hbk, _⟩ := cells_of hz0 c0
   have hfl : (l.drop off).take (es.length * z) = es.flatten := by
    refine cells_split (b := b) (E := E) (fz := fz) z es fun i x hi => ?_
    have h1 := hc i x hi
    rw [addr_add] at h1
    obtain ⟨_, l', E', fz', hbk', ht'⟩ := cells_of hz0 h1
    rw [hbk] at hbk'
    have hll : l' = l := by
     have := Option.some.inj hbk'
     injection this with h1
     exact (List.toArray_inj h1).symm
    rw [hll] at ht'
    exact ⟨ht', hlen' x (List.mem_of_getElem? hi)⟩
   refine ⟨?_, hl, .inr ⟨b, off, l, E, fz, rfl, ?_, by rw [← he]; exact hfl⟩⟩
   ·rw [← he, List.length_flatten]
    have : (es.map List.length) = List.replicate es.length z := by
     apply List.ext_getElem
     ·simp
     ·intro i h1 h2; simp only [List.getElem_map, List.getElem_replicate]; exact hlen' _ (List.getElem_mem _)
    rw [this]; simp
   ·unfold heapOf; rw [hbk]; rfl
end
def QW {H : Type} (P : Program) (t : TypeId) (d : DataW H) : Prop := ∀ n ∈ d.weights P t, n ≤ 140737488355328
theorem mem_weightsAll {H : Type} {P : Program} {e : TypeId} {d : DataW H} {n : Nat} (hn : n ∈ d.weights P e) : ∀ {l : List (DataW H)}, d ∈ l → n ∈ DataW.weightsAll P e l
 | x :: r, h => by
  simp only [DataW.weightsAll, List.mem_append]
  rcases List.mem_cons.1 h with rfl | h
  ·exact .inl hn
  ·exact .inr (mem_weightsAll hn h)
theorem QW.hered {H : Type} {P : Program} : Hered P (QW (H := H) P) := by
 refine ⟨fun {t e es rest} ht q d hd n hn => ?_, fun {t fs ps} ht q i f d hi hd n hn => ?_⟩
 ·refine q n ?_
  simp only [DataW.weights, ht, List.mem_cons, List.mem_append]
  exact .inr (.inl (mem_weightsAll hn hd))
 ·refine q n ?_
  simp only [DataW.weights, ht]
  refine DataW.weights_mem_each (j := i) (t := f.type) (d := d) ?_ hd n hn
  simp [hi]
theorem Rd.of {H : Type} {enc : TypeId × Value → H} {P : Program} {w : World} {ts : List TypeId} {ds : List (DataW H)} (hsz : (DataW.weightsEach P ts ds).all (· ≤ reachBytes) = true) {j : Nat} {t : TypeId} {d : DataW H} {v : Value} {ps : List MemPlace}
  (ht : ts[j]? = some t) (hd : ds[j]? = some d) (h : DataW.Trod enc P w 0 (fun _ => true) true t v d ps) : Rd enc P w (QW P) t v.cells.toList := by
 obtain ⟨fuel, h⟩ := h
 refine ⟨fuel, d, ps, h, fun n hn => ?_⟩
 have := List.all_eq_true.1 hsz _ (DataW.weights_mem_each ht hd n hn)
 have hr : reachBytes ≤ 140737488355328 := by decide
 simp only [decide_eq_true_eq] at this
 omega
end Go.Ah
namespace Go.Ah
open Go.Proofs
set_option linter.unusedVariables false
set_option linter.unusedSimpArgs false
noncomputable abbrev PR : Program := Tryz.prog
theorem mix : PR.follows .mixedOrders = true := by rfl
theorem acalls_pure {f : FuncId} {args : Array Value} {h : Heap} {Q : Value → Prop} (c : ACalls PR f args h (fun v h' => Q v ∧ Sub h h')) : ACalls PR f args h (fun v h' => Q v ∧ h = h') :=
 c.drop fun v h' ⟨q, s⟩ => ⟨h, s, q, rfl⟩
abbrev I (x : Int) : Value := .int .i64 x
end Go.Ah
namespace Go.Ah
open Go.Proofs
set_option linter.unusedVariables false
set_option linter.unusedSimpArgs false
set_option maxRecDepth 20000
def isNum (n : Int) : Bool := decide (1 ≤ n ∧ n ≤ 9007199254740991)
theorem number_any (n : Int) (h : Heap) : ACalls PR 152 #[I n] h (fun v h' => v = .bool (isNum n) ∧ h = h') := by
 refine acalls_pure (acalls_of mix Tryz.func152 rfl rfl Tryz.ntmps152 Tryz.results152 rfl ?_); conv=>whnf
 refine ACmp.split (fun h1 => ?_) (fun h1 => ?_)
 ·conv=>whnf
  refine ACmp.dec ?_
  conv=>whnf
  exact ⟨by simp [isNum, h1], Sub.refl _⟩
 ·conv=>whnf
  exact ⟨by simp [isNum, h1], Sub.refl _⟩
theorem none_any (h : Heap) (p : Nat) (tg : Tag) (b : Bool) (r : List Value) (hp : h p = some (row tg (.bool b :: r) 158)) : ACalls PR 113 #[.pointer (some ⟨p, 0, none⟩)] h (fun v h' => v = .bool (!b) ∧ h = h') := by
 refine acalls_pure (acalls_of mix Tryz.func113 rfl rfl Tryz.ntmps113 Tryz.results113 rfl ?_); conv=>whnf
 refine ALoad.one rfl hp rfl ?_; conv=>whnf
 exact ⟨rfl, Sub.refl _⟩
theorem Own.sub {h h' : Heap} {t : Tag} {E : TypeId} {a : Option Addr} {n cap z : Nat} {cs : List Value} (s : Own h t E a n cap z cs) (k : Sub h h') : Own h' t E a n cap z cs := s.move fun _ _ e => k _ _ e
structure EH where
  term : Int
  index : Int
  kind : Int
  a : Option Addr
  n : Nat
  c : Nat
  data : List Int
def EH.cells (e : EH) : List Value := [I e.term, I e.index, I e.kind, .slice e.a e.n e.c]
def bytesV (l : List Int) : List Value := l.map (.int .u8)
def EH.Good (h : Heap) (t : Tag) (e : EH) : Prop := Sl h t e.a e.n e.c 1 (bytesV e.data)
def EH.Mine (h : Heap) (t : Tag) (e : EH) : Prop := Own h t 5 e.a e.n e.c 1 (bytesV e.data)
def EH.abs (e : EH) : Int × Int × Int × List Int := (e.term, e.index, e.kind, e.data)
def encs (es : List EH) : List Value := es.flatMap EH.cells
theorem EH.Good.len {h : Heap} {t : Tag} {e : EH} (g : e.Good h t) : e.data.length = e.n := by
 have := Sl.len g
 simpa [bytesV] using this
theorem encs_length : ∀ es : List EH, (encs es).length = es.length * 4
 | [] => rfl
 | e :: es => by
  have := encs_length es
  simp only [encs, List.flatMap_cons, List.length_append, List.length_cons] at this ⊢
  rw [this]; simp [EH.cells]; omega
theorem encs_drop : ∀ (es : List EH) (k : Nat), (encs es).drop (k * 4) = encs (es.drop k)
 | es, 0 => by simp
 | [], k + 1 => by simp [encs]
 | e :: es, k + 1 => by
  have := encs_drop es k
  rw [List.drop_succ_cons, ← this, Nat.add_mul, Nat.add_comm, ← List.drop_drop]
  rfl
theorem encs_take : ∀ (es : List EH) (k : Nat), (encs es).take (k * 4) = encs (es.take k)
 | es, 0 => by simp [encs]
 | [], k + 1 => by simp [encs]
 | e :: es, k + 1 => by
  have := encs_take es k
  rw [List.take_succ_cons]
  simp only [encs, List.flatMap_cons] at this ⊢
  rw [show (k + 1) * 4 = e.cells.length + k * 4 by simp [EH.cells]; omega, List.take_length_add_append, this]
theorem encs_append (x y : List EH) : encs (x ++ y) = encs x ++ encs y := by simp [encs]
theorem encs_part {es : List EH} {k : Nat} {e : EH} (h : es[k]? = some e) : ((encs es).drop (k * 4)).take 4 = e.cells := by
 rw [encs_drop]
 have hd : es.drop k = e :: es.drop (k + 1) := by
  have hk := (List.getElem?_eq_some_iff.1 h)
  obtain ⟨hk, rfl⟩ := hk
  exact List.drop_eq_getElem_cons hk
 rw [hd]
 rfl
theorem encs_get {es : List EH} {k j : Nat} {e : EH} (h : es[k]? = some e) (hj : j < 4) : (encs es)[k * 4 + j]? = e.cells[j]? := by
 have := encs_part h
 rw [← this, List.getElem?_take, if_pos hj, List.getElem?_drop]
def lastM (bi bt : Int) (es : List EH) : Int × Int := match es.getLast? with
  | some e => (e.index, e.term)
  | none => (bi, bt)
structure LedAt (h : Heap) (p o : Nat) (bi bt : Int) (es : List EH) (a : Option Addr) (cap : Nat) : Prop where
  str : h p = some (row (o, 0) [.bool true, I bi, I bt, .slice a es.length cap] 158)
  own : Own h (o, 1) 59 a es.length cap 4 (encs es)
  good : ∀ e ∈ es, e.Good h (o, 2)
  small : ∀ e ∈ es, e.n ≤ 1200
theorem last_any (h : Heap) (p o : Nat) (bi bt : Int) (es : List EH) (a : Option Addr) (cap : Nat) (L : LedAt h p o bi bt es a cap) (hlen : es.length ≤ 9007199254740992) :
  ACalls PR 114 #[.pointer (some ⟨p, 0, none⟩)] h (fun v h' => v = .agg #[I (lastM bi bt es).1, I (lastM bi bt es).2] ∧ h = h') := by
 have hp := L.str
 refine acalls_pure (acalls_of mix Tryz.func114 rfl rfl Tryz.ntmps114 Tryz.results114 rfl ?_); conv=>whnf
 refine AAlloc.mk (0, 1) rfl fun r hr => ?_; conv=>whnf
 refine ALoad.one rfl (hr.sub _ _ _ hp) rfl ?_; conv=>whnf
 by_cases hn : es.length = 0
 ·have h0 : es = [] := List.eq_nil_of_length_eq_zero hn
  subst h0
  refine ACmp.no (by simp) ?_; conv=>whnf
  refine ALoad.agg rfl (hr.sub _ _ _ hp) rfl rfl ?_; conv=>whnf
  refine AStore.agg' rfl rfl rfl (Heap.set_same _ _ _) rfl ?_; conv=>whnf
  refine ALoad.agg rfl (Heap.set_same _ _ _) rfl rfl ?_; conv=>whnf
  refine ⟨rfl, ?_⟩
  rw [Heap.set_set]
  exact hr.sub _
 ·refine ACmp.yes (by omega) ?_; conv=>whnf
  obtain ⟨k, hk⟩ : ∃ k, es.length = k + 1 := ⟨es.length - 1, by omega⟩
  obtain ⟨e, he⟩ : ∃ e, es[k]? = some e := ⟨es[k], by simp [hk]⟩
  have hlast : es.getLast? = some e := by rw [List.getLast?_eq_getElem?, hk]; exact he
  obtain ⟨b, off, l, E, fz, rfl, hb, hc⟩ := L.own.sl.pos (by omega)
  have g0 : l[off + k * 4 + 0]? = some (I e.term) := by
   rw [Nat.add_assoc, get_of_take hc (by omega), encs_get he (by omega)]; rfl
  have g1 : l[off + k * 4 + 1]? = some (I e.index) := by
   rw [Nat.add_assoc, get_of_take hc (by omega), encs_get he (by omega)]; rfl
  refine ADrawn.mk (h.set r (row (0, 1) [I 0, I 0] 146)) [19] (Sub.refl _) (by decide +kernel) ?_; conv=>whnf
  refine ALoad.one rfl (hr.sub _ _ _ hp) rfl ?_; conv=>whnf
  refine AArith.ok (by omega) (by omega) (rfl) ?_; conv=>whnf
  refine AIdx.nat (j := k) (by omega) (by omega) rfl rfl ?_; conv=>whnf
  refine ALoad.one rfl (hr.sub _ _ _ hb) g1 ?_; conv=>whnf
  refine ALoad.one rfl (hr.sub _ _ _ hp) rfl ?_; conv=>whnf
  refine AArith.ok (by omega) (by omega) (rfl) ?_; conv=>whnf
  refine AIdx.nat (j := k) (by omega) (by omega) rfl rfl ?_; conv=>whnf
  refine ALoad.one rfl (hr.sub _ _ _ hb) g0 ?_; conv=>whnf
  refine AStore.agg' rfl rfl rfl (Heap.set_same _ _ _) rfl ?_; conv=>whnf
  refine ALoad.agg rfl (Heap.set_same _ _ _) rfl rfl ?_; conv=>whnf
  refine ⟨by simp [lastM, hlast], ?_⟩
  rw [Heap.set_set]
  exact hr.sub _
end Go.Ah
namespace Go.Ah
open Go.Proofs
set_option linter.unusedVariables false
set_option linter.unusedSimpArgs false
set_option maxRecDepth 20000
def bring (i n : Int) : Int := if n ≤ 0 then 0 else if i.tmod n < 0 then i.tmod n + n else i.tmod n
theorem bring_any (i n : Int) (hn : n ≤ 9223372036854775807) (h : Heap) : ACalls PR 11 #[I i, I n] h (fun v h' => v = I (bring i n) ∧ h = h') := by
 refine acalls_pure (acalls_of mix Tryz.func11 rfl rfl Tryz.ntmps11 Tryz.results11 rfl ?_); conv=>whnf
 by_cases h0 : n ≤ 0
 ·refine ACmp.yes (h0) ?_; conv=>whnf
  exact ⟨by simp [bring, h0], Sub.refl _⟩
 ·refine ACmp.no (h0) ?_; conv=>whnf
  have h1 := Int.tmod_lt_of_pos i (show 0 < n by omega)
  have h2 := Int.lt_tmod_of_pos i (show 0 < n by omega)
  refine ⟨by omega, ?_⟩
  refine AInt.as (rfl) ?_; conv=>whnf
  by_cases hneg : i.tmod n < 0
  ·refine ACmp.yes (hneg) ?_; conv=>whnf
   refine AArith.ok (by omega) (by omega) (rfl) ?_; conv=>whnf
   exact ⟨by simp [bring, h0, hneg], Sub.refl _⟩
  ·refine ACmp.no (hneg) ?_; conv=>whnf
   exact ⟨by simp [bring, h0, hneg], Sub.refl _⟩
theorem bytesV_get {xs : List Int} {k : Nat} (hk : k < xs.length) : (bytesV xs)[k]? = some (.int .u8 xs[k]) := by simp [bytesV, hk]
theorem eqBytes_any (h : Heap) {t1 t2 : Tag} {a1 a2 : Option Addr} {n1 n2 c1 c2 : Nat} {xs ys : List Int} (s1 : Sl h t1 a1 n1 c1 1 (bytesV xs)) (s2 : Sl h t2 a2 n2 c2 1 (bytesV ys)) (hn : n1 ≤ 4611686018427387904) :
  ACalls PR 50 #[.slice a1 n1 c1, .slice a2 n2 c2] h (fun v h' => v = .bool (decide (xs = ys)) ∧ h = h') := by
 have l1 : xs.length = n1 := by have := s1.len; simpa [bytesV] using this
 have l2 : ys.length = n2 := by have := s2.len; simpa [bytesV] using this
 refine acalls_pure (acalls_of mix Tryz.func50 rfl rfl Tryz.ntmps50 Tryz.results50 rfl ?_); conv=>whnf
 by_cases hl : n1 = n2
 ·refine ACmp.no (by omega) ?_; conv=>whnf
  refine ALoop.mk (fun e h' => h = h' ∧ ∃ e0, ∃ k : Nat, e = updL 26 e0 [(0, .slice a1 n1 c1), (1, .slice a2 n2 c2), (5, I k)] ∧ k ≤ n1 ∧ xs.take k = ys.take k)
   (fun e => n1 - natOf (e 5)) ⟨rfl, _, 0, updL_self ⟨rfl, rfl, rfl, trivial⟩, by omega, by simp⟩ ?_
  rintro e h' ⟨rfl, e0, k, rfl, hk, he⟩
  conv=>whnf
  by_cases hkn : k < n1
  ·refine ACmp.yes (by omega) ?_; conv=>whnf
   obtain ⟨b, off, l, E, fz, rfl, hb, hc⟩ := s1.pos (by omega)
   obtain ⟨b', off', l', E', fz', rfl, hb', hc'⟩ := s2.pos (by omega)
   have g : l[off + k * 1]? = some (.int .u8 (xs[k]'(by omega))) := by rw [get_of_take hc (by omega), Nat.mul_one, bytesV_get (by omega)]
   have g' : l'[off' + k * 1]? = some (.int .u8 (ys[k]'(by omega))) := by rw [get_of_take hc' (by omega), Nat.mul_one, bytesV_get (by omega)]
   refine ADrawn.mk (_) [] (Sub.refl _) (by decide +kernel) ?_; conv=>whnf
   refine AIdx.nat rfl hkn rfl rfl ?_; conv=>whnf
   refine ALoad.one rfl hb g ?_; conv=>whnf
   refine AIdx.nat rfl (by omega) rfl rfl ?_; conv=>whnf
   refine ALoad.one rfl hb' g' ?_; conv=>whnf
   by_cases hx : xs[k]'(by omega) = ys[k]'(by omega)
   ·refine ACmp.no (by simpa using hx) ?_; conv=>whnf
    refine AArith.ok (by omega) (by omega) ((by omega : (k : Int) + 1 = ((k + 1 : Nat) : Int))) ?_; conv=>whnf
    refine ⟨⟨rfl, _, k + 1, updL_self ⟨rfl, rfl, rfl, trivial⟩, by omega, ?_⟩, ?_⟩
    ·rw [List.take_succ_eq_append_getElem (by omega), List.take_succ_eq_append_getElem (by omega), he, hx]
    ·show n1 - (k + 1) < n1 - k
     omega
   ·refine ACmp.yes (by simpa using hx) ?_; conv=>whnf
    refine ⟨?_, Sub.refl _⟩
    have : xs ≠ ys := by rintro rfl; exact hx rfl
    simp [this]
  ·refine ACmp.no (by omega) ?_; conv=>whnf
   obtain rfl : k = n1 := by omega
   refine ⟨?_, Sub.refl _⟩
   have : xs = ys := by
    have e1 : xs.take k = xs := List.take_of_length_le (by omega)
    have e2 : ys.take k = ys := List.take_of_length_le (by omega)
    rw [← e1, ← e2, he]
   simp [this]
 ·refine ACmp.yes (by omega) ?_; conv=>whnf
  refine ⟨?_, Sub.refl _⟩
  have : xs ≠ ys := by rintro rfl; exact hl (by omega)
  simp [this]
abbrev EH.val (e : EH) : Value := .agg #[I e.term, I e.index, I e.kind, .slice e.a e.n e.c]
structure Ents (h : Heap) (t td : Tag) (a : Option Addr) (n c : Nat) (es : List EH) : Prop where
  sl : Sl h t a n c 4 (encs es)
  good : ∀ e ∈ es, e.Good h td
  small : ∀ e ∈ es, e.n ≤ 4611686018427387904
theorem Ents.len {h : Heap} {t td : Tag} {a : Option Addr} {n c : Nat} {es : List EH} (s : Ents h t td a n c es) : es.length = n := by
 have := s.sl.len
 rw [encs_length] at this; omega
theorem Ents.sub {h h' : Heap} {t td : Tag} {a : Option Addr} {n c : Nat} {es : List EH} (s : Ents h t td a n c es) (k : Sub h h') : Ents h' t td a n c es :=
 ⟨s.sl.sub k, fun e he => Sl.sub (s.good e he) k, s.small⟩
end Go.Ah
namespace Go.Ah
open Go.Proofs
set_option linter.unusedVariables false
set_option linter.unusedSimpArgs false
set_option maxRecDepth 20000
theorem oneCell_bytes (xs : List Int) : (bytesV xs).all oneCell = true := by
 simp [bytesV, oneCell]
theorem cloneB_any (h : Heap) (tg : Tag) {t : Tag} {a : Option Addr} {n c : Nat} {xs : List Int} (s : Sl h t a n c 1 (bytesV xs)) (hn : n ≤ 140737488355328) :
  ACalls PR 117 #[.slice a n c] h (fun v h' => ∃ a' c', v = .slice a' n c' ∧ Own h' tg 5 a' n c' 1 (bytesV xs) ∧ Sub h h') := by
 refine acalls_of mix Tryz.func117 rfl rfl Tryz.ntmps117 Tryz.results117 rfl ?_; conv=>whnf
 cases a with
 | none =>
  have hn0 : n = 0 := by
   rcases Nat.eq_zero_or_pos n with h0 | h0
   ·exact h0
   ·obtain ⟨b, off, l, E, fz, e, _⟩ := s.pos h0
    cases e
  subst hn0
  have : bytesV xs = [] := List.eq_nil_of_length_eq_zero (by rw [s.len])
  conv=>whnf
  exact ⟨none, 0, rfl, by rw [this]; exact .inl ⟨rfl, rfl, rfl⟩, Sub.refl _⟩
 | some ad =>
  conv=>whnf
  refine ABuildSl.empty tg rfl rfl fun b fb => ?_; conv=>whnf
  refine AAppend.own (t := tg) (E := 5) (z := 1) (by_ := 1) (zero := [.int .u8 0]) (cs := []) rfl ⟨_, rfl⟩ rfl rfl rfl rfl (by omega) (.inl ⟨rfl, rfl, rfl⟩) (s.sub (fb.sub _)) (oneCell_bytes _) (by omega) (by omega) fun a' c' h' ho hk hsub => ?_
  conv=>whnf
  refine ⟨a', c', ?_, ?_, (fb.sub _).trans (hsub rfl)⟩
  ·show Value.slice a' (0 + n) c' = _
   rw [Nat.zero_add]
  ·rw [Nat.zero_add] at ho
   exact ho
theorem own_any (h : Heap) (tg : Tag) (ht : tg ≠ (0, 1)) {t : Tag} (e : EH) (g : e.Good h t) (hn : e.n ≤ 140737488355328) :
  ACalls PR 145 #[e.val] h (fun v h' => ∃ a' c', v = .agg #[I e.term, I e.index, I e.kind, .slice a' e.n c'] ∧ Own h' tg 5 a' e.n c' 1 (bytesV e.data) ∧ Sub h h') := by
 refine acalls_of mix Tryz.func145 rfl rfl Tryz.ntmps145 Tryz.results145 rfl ?_; conv=>whnf
 refine ABox.mk (0, 1) rfl fun b1 f1 => ?_; conv=>whnf
 refine AAlloc.mk (0, 1) rfl fun b2 f2 => ?_; conv=>whnf
 have s1 := f1.sub (row (0, 1) [I e.term, I e.index, I e.kind, .slice e.a e.n e.c] 59)
 have s2 := s1.trans (f2.sub (row (0, 1) [I 0, I 0, I 0, .slice none 0 0] 59))
 have k1 := f2.sub (row (0, 1) [I 0, I 0, I 0, .slice none 0 0] 59) _ _ (Heap.set_same h b1 (row (0, 1) [I e.term, I e.index, I e.kind, .slice e.a e.n e.c] 59))
 have k2 := Heap.set_same (h.set b1 (row (0, 1) [I e.term, I e.index, I e.kind, .slice e.a e.n e.c] 59)) b2 (row (0, 1) [I 0, I 0, I 0, .slice none 0 0] 59)
 have h12 : b1 ≠ b2 := f2.ne (Heap.set_same h b1 (row (0, 1) [I e.term, I e.index, I e.kind, .slice e.a e.n e.c] 59))
 refine ALoad.one rfl k1 rfl ?_; conv=>whnf
 refine ACalls.mono (cloneB_any _ tg (Sl.sub g s2) hn) ?_
 rintro v h' ⟨a', c', rfl, hsl, hsub⟩
 conv=>whnf
 have k1' := hsub _ _ k1
 have k2' := hsub _ _ k2
 refine AStore.one' rfl rfl rfl k1' rfl ?_; conv=>whnf
 refine ALoad.agg rfl (Heap.set_same _ _ _) rfl rfl ?_; conv=>whnf
 refine AStore.agg' rfl rfl rfl (Heap.set_ne (Ne.symm h12) k2') rfl ?_; conv=>whnf
 refine ALoad.agg rfl (Heap.set_same _ _ _) rfl rfl ?_; conv=>whnf
 refine ⟨a', c', rfl, ?_, ((s2.trans hsub).set f1.none _).set (f2.none' s1) _⟩
 exact (hsl.keepT (KeepT.set k1') ht).keepT (KeepT.set (Heap.set_ne (Ne.symm h12) k2')) ht
def b8 (x : Int) : Int := IntKind.u8.wrap x
structure Seq (bi : Int) (es : List EH) : Prop where
  idx : ∀ (k : Nat) (e : EH), es[k]? = some e → e.index = bi + 1 + k
  lo : 0 ≤ bi
  top : bi + es.length ≤ 9007199254740991
theorem Seq.last {bi bt : Int} {es : List EH} (s : Seq bi es) : (lastM bi bt es).1 = bi + es.length := by
 unfold lastM
 cases hn : es.length with
 | zero => have : es = [] := List.eq_nil_of_length_eq_zero hn; subst this; simp
 | succ n =>
  obtain ⟨e, he⟩ : ∃ e, es[n]? = some e := ⟨es[n]'(by omega), by simp [hn]⟩
  have hl : es.getLast? = some e := by rw [List.getLast?_eq_getElem?, hn]; exact he
  rw [hl]
  have := s.idx n _ he
  simp only [this]; omega
theorem Last_any {h : Heap} {p o : Nat} {bi bt : Int} {es : List EH} {a : Option Addr} {cap : Nat} (L : LedAt h p o bi bt es a cap) (hlen : es.length ≤ 9007199254740992) :
  ACalls PR 51 #[.pointer (some ⟨p, 0, none⟩)] h (fun v h' => v = .tuple #[I (lastM bi bt es).1, I (lastM bi bt es).2] ∧ h = h') := by
 refine acalls_pure (acalls_of mix Tryz.func51 rfl rfl Tryz.ntmps51 Tryz.results51 rfl ?_); conv=>whnf
 refine ACalls.mono (none_any _ p _ _ _ L.str) ?_; rintro _ _ ⟨rfl, rfl⟩; conv=>whnf
 refine ACalls.mono (last_any _ p o bi bt es a cap L hlen) ?_; rintro _ _ ⟨rfl, rfl⟩; conv=>whnf
 refine AAlloc.mk (0, 1) rfl fun b1 f1 => ?_; conv=>whnf
 refine AStore.agg' rfl rfl rfl (Heap.set_same _ _ _) rfl ?_; conv=>whnf
 refine ADrawn.mk (_) [] (Sub.refl _) (by decide +kernel) ?_; conv=>whnf
 refine ALoad.one rfl (Heap.set_same _ _ _) rfl ?_; conv=>whnf
 refine ALoad.one rfl (Heap.set_same _ _ _) rfl ?_; conv=>whnf
 refine ⟨rfl, ?_⟩
 exact (f1.sub _).set f1.none _
theorem First_any {h : Heap} {p o : Nat} {bi bt : Int} {es : List EH} {a : Option Addr} {cap : Nat} (L : LedAt h p o bi bt es a cap) (h0 : 0 ≤ bi) (h1 : bi ≤ 9007199254740991) :
  ACalls PR 142 #[.pointer (some ⟨p, 0, none⟩)] h (fun v h' => v = I (bi + 1) ∧ h = h') := by
 refine acalls_pure (acalls_of mix Tryz.func142 rfl rfl Tryz.ntmps142 Tryz.results142 rfl ?_); conv=>whnf
 refine ACalls.mono (none_any _ p _ _ _ L.str) ?_; rintro _ _ ⟨rfl, rfl⟩; conv=>whnf
 refine ALoad.one rfl L.str rfl ?_; conv=>whnf
 refine AArith.ok (by omega) (by omega) (rfl) ?_; conv=>whnf
 exact ⟨rfl, Sub.refl _⟩
def atR (bi : Int) (len : Nat) (i : Int) (fin : Bool) : Int × Int :=
  if bi < i ∧ i ≤ bi + len + (if fin = true then 1 else 0) then (i - bi - 1, 0) else (0, 9)
theorem at_any {h : Heap} {p o : Nat} {bi bt : Int} {es : List EH} {a : Option Addr} {cap : Nat} (L : LedAt h p o bi bt es a cap) (S : Seq bi es) (i : Int) (fin : Bool) :
  ACalls PR 143 #[.pointer (some ⟨p, 0, none⟩), I i, .bool fin] h (fun v h' => v = .tuple #[I (atR bi es.length i fin).1, I (atR bi es.length i fin).2] ∧ h = h') := by
 have hlast := S.last (bt := bt)
 have h0 := S.lo
 have h1 := S.top
 refine acalls_pure (acalls_of mix Tryz.func143 rfl rfl Tryz.ntmps143 Tryz.results143 rfl ?_); conv=>whnf
 refine ACalls.mono (none_any _ p _ _ _ L.str) ?_; rintro _ _ ⟨rfl, rfl⟩; conv=>whnf
 refine ACalls.mono (last_any _ p o bi bt es a cap L (by omega)) ?_; rintro _ _ ⟨rfl, rfl⟩; conv=>whnf
 cases fin with
 | false =>
  conv=>whnf
  refine ALoad.one rfl L.str rfl ?_; conv=>whnf
  by_cases c1 : i ≤ bi
  ·refine ACmp.yes (c1) ?_; conv=>whnf
   exact ⟨by rw [atR, if_neg (by omega)], Sub.refl _⟩
  ·refine ACmp.no (c1) ?_; conv=>whnf
   by_cases c2 : bi + es.length < i
   ·refine ACmp.yes (by rw [hlast]; exact c2) ?_; conv=>whnf
    exact ⟨by rw [atR, if_neg (by simp; omega)], Sub.refl _⟩
   ·refine ACmp.no (by rw [hlast]; exact c2) ?_; conv=>whnf
    refine ALoad.one rfl L.str rfl ?_; conv=>whnf
    refine AArith.ok (by omega) (by omega) (rfl) ?_; conv=>whnf
    refine AArith.ok (by omega) (by omega) (rfl) ?_; conv=>whnf
    exact ⟨by rw [atR, if_pos (by simp; omega)], Sub.refl _⟩
 | true =>
  conv=>whnf
  refine AArith.ok (by omega) (by omega) (rfl) ?_; conv=>whnf
  refine ALoad.one rfl L.str rfl ?_; conv=>whnf
  by_cases c1 : i ≤ bi
  ·refine ACmp.yes (c1) ?_; conv=>whnf
   exact ⟨by rw [atR, if_neg (by omega)], Sub.refl _⟩
  ·refine ACmp.no (c1) ?_; conv=>whnf
   by_cases c2 : bi + es.length + 1 < i
   ·refine ACmp.yes (by rw [hlast]; exact c2) ?_; conv=>whnf
    exact ⟨by rw [atR, if_neg (by simp; omega)], Sub.refl _⟩
   ·refine ACmp.no (by rw [hlast]; exact c2) ?_; conv=>whnf
    refine ALoad.one rfl L.str rfl ?_; conv=>whnf
    refine AArith.ok (by omega) (by omega) (rfl) ?_; conv=>whnf
    refine AArith.ok (by omega) (by omega) (rfl) ?_; conv=>whnf
    exact ⟨by rw [atR, if_pos (by simp; omega)], Sub.refl _⟩
end Go.Ah
namespace Go.Ah
open Go.Proofs
set_option linter.unusedVariables false
set_option linter.unusedSimpArgs false
set_option maxRecDepth 20000
def chk (e : EH) (m : Int × Int) : Int :=
  if isNum e.term = false ∨ isNum e.index = false ∨ e.kind < 0 ∨ 2 < e.kind ∨ 1200 < e.n then 2 else if e.index ≠ m.1 + 1 then 170 else if e.term < m.2 then 2 else 0
theorem check_any (h : Heap) (e : EH) (m : Int × Int) (h0 : 0 ≤ m.1) (h1 : m.1 ≤ 9007199254740992) :
  ACalls PR 153 #[e.val, .agg #[I m.1, I m.2]] h (fun v h' => v = I (chk e m) ∧ h = h') := by
 refine acalls_pure (acalls_of mix Tryz.func153 rfl rfl Tryz.ntmps153 Tryz.results153 rfl ?_); conv=>whnf
 refine ABox.mk (0, 1) rfl fun b1 f1 => ?_; conv=>whnf
 refine ABox.mk (0, 1) rfl fun b2 f2 => ?_; conv=>whnf
 have s1 := f1.sub (row (0, 1) [I e.term, I e.index, I e.kind, .slice e.a e.n e.c] 59)
 have s2 := s1.trans (f2.sub (row (0, 1) [I m.1, I m.2] 146))
 have k1 := f2.sub (row (0, 1) [I m.1, I m.2] 146) _ _ (Heap.set_same h b1 (row (0, 1) [I e.term, I e.index, I e.kind, .slice e.a e.n e.c] 59))
 have k2 := Heap.set_same (h.set b1 (row (0, 1) [I e.term, I e.index, I e.kind, .slice e.a e.n e.c] 59)) b2 (row (0, 1) [I m.1, I m.2] 146)
 refine ALoad.one rfl k1 rfl ?_; conv=>whnf
 refine ACalls.mono (number_any e.term _) ?_; rintro _ _ ⟨rfl, rfl⟩; conv=>whnf
 have wrong : ∀ (c : isNum e.term = false ∨ isNum e.index = false ∨ e.kind < 0 ∨ 2 < e.kind ∨ 1200 < e.n), I 2 = I (chk e m) ∧ Sub h ((h.set b1 (row (0, 1) [I e.term, I e.index, I e.kind, .slice e.a e.n e.c] 59)).set b2 (row (0, 1) [I m.1, I m.2] 146)) :=
  fun c => ⟨by rw [chk, if_pos c], s2⟩
 cases c1 : isNum e.term with
 | false =>
  conv=>whnf
  exact wrong (.inl c1)
 | true =>
  conv=>whnf
  refine ALoad.one rfl k1 rfl ?_; conv=>whnf
  refine ACalls.mono (number_any e.index _) ?_; rintro _ _ ⟨rfl, rfl⟩; conv=>whnf
  cases c2 : isNum e.index with
  | false =>
   conv=>whnf
   exact wrong (.inr (.inl c2))
  | true =>
   conv=>whnf
   refine ALoad.one rfl k1 rfl ?_; conv=>whnf
   by_cases c3 : e.kind < 0
   ·refine ACmp.yes (c3) ?_; conv=>whnf
    exact wrong (.inr (.inr (.inl c3)))
   ·refine ACmp.no (c3) ?_; conv=>whnf
    refine ALoad.one rfl k1 rfl ?_; conv=>whnf
    by_cases c4 : 2 < e.kind
    ·refine ACmp.yes (c4) ?_; conv=>whnf
     exact wrong (.inr (.inr (.inr (.inl c4))))
    ·refine ACmp.no (c4) ?_; conv=>whnf
     refine ALoad.one rfl k1 rfl ?_; conv=>whnf
     by_cases c5 : 1200 < e.n
     ·refine ACmp.yes (by omega) ?_; conv=>whnf
      exact wrong (.inr (.inr (.inr (.inr c5))))
     ·refine ACmp.no (by omega) ?_; conv=>whnf
      have hno : ¬ (isNum e.term = false ∨ isNum e.index = false ∨ e.kind < 0 ∨ 2 < e.kind ∨ 1200 < e.n) := by
       rintro (c | c | c | c | c)
       ·rw [c1] at c; cases c
       ·rw [c2] at c; cases c
       ·exact c3 c
       ·exact c4 c
       ·exact c5 c
      refine ALoad.one rfl k1 rfl ?_; conv=>whnf
      refine ALoad.one rfl k2 rfl ?_; conv=>whnf
      refine AArith.ok (by omega) (by omega) (rfl) ?_; conv=>whnf
      by_cases c6 : e.index = m.1 + 1
      ·refine ACmp.no (by simpa using c6) ?_; conv=>whnf
       refine ALoad.one rfl k1 rfl ?_; conv=>whnf
       refine ALoad.one rfl k2 rfl ?_; conv=>whnf
       by_cases c7 : e.term < m.2
       ·refine ACmp.yes (c7) ?_; conv=>whnf
        exact ⟨by rw [chk, if_neg hno, if_neg (by simpa using c6), if_pos c7], s2⟩
       ·refine ACmp.no (c7) ?_; conv=>whnf
        exact ⟨by rw [chk, if_neg hno, if_neg (by simpa using c6), if_neg c7], s2⟩
      ·refine ACmp.yes (c6) ?_; conv=>whnf
       exact ⟨by rw [chk, if_neg hno, if_pos c6], s2⟩
theorem AEqAgg.mark {o : Oper} {e : Env} {h : Heap} {x y : Operand} {T' : TypeId} {a b c d : Int} {K : Value → Prop} (ho : o.op = .binOp .neq 146 x y T') (hx : e.ev x = .agg #[I a, I b]) (hy : e.ev y = .agg #[I c, I d])
  (k : K (.bool (!(decide (a = c) && decide (b = d))))) : AEqAgg PR o e h K := by
 refine ⟨⟨_, fun w => ?_, k⟩⟩
 have hf : (PR.fieldsOf 146).toList = [{ name := "index", type := 3, offset := 0, embedded := false, tag := "", pkgPath := "causeway/ledger", byteOffset := 0 }, { name := "term", type := 3, offset := 1, embedded := false, tag := "", pkgPath := "causeway/ledger", byteOffset := 8 }] := by rfl
 have hpa : ∀ (x y : Int) (w : World), (part 3 #[I x, I y] 0).run PR w = .ok (I x) w := fun x y w => by
  simp [part, isAgg, underlying, Tryz.underlying3]
 have hpb : ∀ (x y : Int) (w : World), (part 3 #[I x, I y] 1).run PR w = .ok (I y) w := fun x y w => by
  simp [part, isAgg, underlying, Tryz.underlying3]
 simp only [execOp, ho, hx, hy, Sem.run_bind, run_eqGuard_agg w .neq 146 x y _ _ Tryz.eqGuardType146, Result.andThen_ok, run_neq_struct]
 rw [run_equalIn_struct w 9999 146 _ _ (by rfl) Tryz.stoodInHeld146, hf]
 simp only [Op.eqFields, ne_eq, String.reduceEq, not_false_eq_true, if_true, Sem.run_bind, hpa, hpb, Result.andThen_ok]
 rw [run_equalIn_int w 9998 3 .i64 .i64 a c Tryz.underlying3]
 by_cases h1 : a = c
 ·subst h1
  simp [hpb, run_equalIn_int w 9998 3 .i64 .i64 b d Tryz.underlying3]
  by_cases h2 : b = d <;> simp [h2]
 ·have : (a == c) = false := by simpa using h1
  simp [this, h1]
def okBase (i t : Int) : Bool := (decide (i = 0) && decide (t = 0)) || (isNum i && isNum t)
theorem New_any (h : Heap) (o : Nat) (ho : o ≠ 0) (i t : Int) :
  ACalls PR 77 #[I i, I t] h (fun v h' => (okBase i t = true ∧ ∃ p, v = .tuple #[.pointer (some ⟨p, 0, none⟩), I 0] ∧ LedAt h' p o i t [] none 0 ∧ Sub h h') ∨ (okBase i t = false ∧ v = .tuple #[.pointer none, I 2] ∧ Sub h h')) := by
 refine acalls_of mix Tryz.func77 rfl rfl Tryz.ntmps77 Tryz.results77 rfl ?_; conv=>whnf
 refine AAlloc.mk (0, 1) rfl fun b1 f1 => ?_; conv=>whnf
 refine AStore.agg' rfl rfl rfl (Heap.set_same _ _ _) rfl ?_; conv=>whnf
 rw [Heap.set_set]
 have s1 := f1.sub (row (0, 1) [I i, I t] 146)
 refine ALoad.agg rfl (Heap.set_same _ _ _) rfl rfl ?_; conv=>whnf
 refine AEqAgg.mark rfl rfl rfl ?_; conv=>whnf
 have made : ∀ (e : Env) (K : okBase i t = true), True := fun _ _ => trivial
 have hled : ∀ b2, Fresh (h.set b1 (row (0, 1) [I i, I t] 146)) b2 → LedAt ((h.set b1 (row (0, 1) [I i, I t] 146)).set b2 (row (o, 0) [.bool true, I i, I t, .slice none 0 0] 158)) b2 o i t [] none 0 :=
  fun b2 f2 => ⟨Heap.set_same _ _ _, .inl ⟨rfl, rfl, rfl⟩, by simp, by simp⟩
 by_cases hz : i = 0 ∧ t = 0
 ·have e1 : (!(decide (i = 0) && decide (t = 0))) = false := by simp [hz.1, hz.2]
  rw [e1]
  conv=>whnf
  refine ALoad.agg rfl (Heap.set_same _ _ _) rfl rfl ?_; conv=>whnf
  refine ABox.mk (o, 0) rfl fun b2 f2 => ?_; conv=>whnf
  exact .inl ⟨by simp [okBase, hz.1, hz.2], b2, rfl, hled b2 f2, s1.trans (f2.sub _)⟩
 ·have e1 : (!(decide (i = 0) && decide (t = 0))) = true := by
   by_cases c : i = 0
   ·have : ¬ t = 0 := fun d => hz ⟨c, d⟩
    simp [this]
   ·simp [c]
  have e2 : (decide (i = 0) && decide (t = 0)) = false := by cases hh : (decide (i = 0) && decide (t = 0)) <;> simp_all
  rw [e1]
  conv=>whnf
  refine ACalls.mono (number_any i _) ?_; rintro _ _ ⟨rfl, rfl⟩; conv=>whnf
  cases c1 : isNum i with
  | false =>
   conv=>whnf
   exact .inr ⟨by simp [okBase, e2, c1], rfl, s1⟩
  | true =>
   conv=>whnf
   refine ACalls.mono (number_any t _) ?_; rintro _ _ ⟨rfl, rfl⟩; conv=>whnf
   cases c2 : isNum t with
   | false =>
    conv=>whnf
    exact .inr ⟨by simp [okBase, e2, c1, c2], rfl, s1⟩
   | true =>
    conv=>whnf
    refine ALoad.agg rfl (Heap.set_same _ _ _) rfl rfl ?_; conv=>whnf
    refine ABox.mk (o, 0) rfl fun b2 f2 => ?_; conv=>whnf
    exact .inl ⟨by simp [okBase, c1, c2], b2, rfl, hled b2 f2, s1.trans (f2.sub _)⟩
def termR (bi bt : Int) (es : List EH) (i : Int) : Int × Int :=
  if i = bi then (bt, 0) else match es[(i - bi - 1).toNat]? with
    | some e => if bi < i then (e.term, 0) else (0, 9)
    | none => (0, 9)
theorem at_some {bi : Int} {es : List EH} {i : Int} (h1 : bi < i) (h2 : i ≤ bi + es.length) : ∃ (k : Nat) (e : EH), i - bi - 1 = k ∧ es[k]? = some e ∧ k < es.length :=
 ⟨(i - bi - 1).toNat, es[(i - bi - 1).toNat]'(by omega), by omega, by simp, by omega⟩
theorem Term_any {h : Heap} {p o : Nat} {bi bt : Int} {es : List EH} {a : Option Addr} {cap : Nat} (L : LedAt h p o bi bt es a cap) (S : Seq bi es) (i : Int) :
  ACalls PR 68 #[.pointer (some ⟨p, 0, none⟩), I i] h (fun v h' => v = .tuple #[I (termR bi bt es i).1, I (termR bi bt es i).2] ∧ h = h') := by
 refine acalls_pure (acalls_of mix Tryz.func68 rfl rfl Tryz.ntmps68 Tryz.results68 rfl ?_); conv=>whnf
 refine ACalls.mono (none_any _ p _ _ _ L.str) ?_; rintro _ _ ⟨rfl, rfl⟩; conv=>whnf
 refine ALoad.one rfl L.str rfl ?_; conv=>whnf
 by_cases c0 : i = bi
 ·refine ACmp.yes (c0) ?_; conv=>whnf
  refine ALoad.one rfl L.str rfl ?_; conv=>whnf
  exact ⟨by simp [termR, c0], Sub.refl _⟩
 ·refine ACmp.no (c0) ?_; conv=>whnf
  refine ACalls.mono (at_any L S i false) ?_; rintro _ _ ⟨rfl, rfl⟩; conv=>whnf
  by_cases c1 : bi < i ∧ i ≤ bi + es.length
  ·obtain ⟨k, e, hk, he, hlt⟩ := at_some c1.1 c1.2
   have hr : atR bi es.length i false = ((k : Int), 0) := by rw [atR, if_pos (by simp; omega), hk]
   rw [hr]
   conv=>whnf
   refine ACmp.no (by simp) ?_; conv=>whnf
   obtain ⟨b, off, l, E, fz, rfl, hb, hc⟩ := L.own.sl.pos (by omega)
   refine ALoad.one rfl L.str rfl ?_; conv=>whnf
   refine AIdx.nat rfl hlt rfl rfl ?_; conv=>whnf
   have g0 : l[off + k * 4]? = some (I e.term) := by rw [get_of_take hc (by omega)]; exact (encs_get (j := 0) he (by omega))
   refine ALoad.one rfl hb g0 ?_; conv=>whnf
   refine ⟨?_, Sub.refl _⟩
   rw [termR, if_neg c0, hk, Int.toNat_natCast, he]
   simp only []
   rw [if_pos c1.1]
  ·have hr : atR bi es.length i false = (0, 9) := by rw [atR, if_neg (by simp; omega)]
   rw [hr]
   conv=>whnf
   refine ACmp.yes (by simp) ?_; conv=>whnf
   refine ⟨?_, Sub.refl _⟩
   rw [termR, if_neg c0]
   by_cases c2 : bi < i
   ·have : es[(i - bi - 1).toNat]? = none := by rw [List.getElem?_eq_none]; omega
    rw [this]
   ·cases es[(i - bi - 1).toNat]? with
    | none => rfl
    | some e => simp only []; rw [if_neg c2]
theorem Has_any {h : Heap} {p o : Nat} {bi bt : Int} {es : List EH} {a : Option Addr} {cap : Nat} (L : LedAt h p o bi bt es a cap) (S : Seq bi es) (i t : Int) :
  ACalls PR 122 #[.pointer (some ⟨p, 0, none⟩), I i, I t] h (fun v h' => v = .bool (decide ((termR bi bt es i).2 = 0 ∧ (termR bi bt es i).1 = t)) ∧ h = h') := by
 refine acalls_pure (acalls_of mix Tryz.func122 rfl rfl Tryz.ntmps122 Tryz.results122 rfl ?_); conv=>whnf
 refine ACalls.mono (Term_any L S i) ?_; rintro _ _ ⟨rfl, rfl⟩; conv=>whnf
 refine ACmp.split (fun c1 => ?_) (fun c1 => ?_)
 ·conv=>whnf
  refine ACmp.dec ?_; conv=>whnf
  exact ⟨by simp [c1], Sub.refl _⟩
 ·conv=>whnf
  exact ⟨by simp [c1], Sub.refl _⟩
theorem Get_some {h : Heap} {p o : Nat} {bi bt : Int} {es : List EH} {a : Option Addr} {cap : Nat} (L : LedAt h p o bi bt es a cap) (S : Seq bi es) (tg : Tag) (ht : tg ≠ (0, 1)) (i : Int) (k : Nat) (e : EH)
  (hk : i - bi - 1 = k) (he : es[k]? = some e) :
  ACalls PR 71 #[.pointer (some ⟨p, 0, none⟩), I i] h (fun v h' => ∃ a' c', v = .tuple #[.agg #[I e.term, I e.index, I e.kind, .slice a' e.n c'], I 0] ∧ Own h' tg 5 a' e.n c' 1 (bytesV e.data) ∧ Sub h h') := by
 have hlt : k < es.length := (List.getElem?_eq_some_iff.1 he).1
 have hn : e.n ≤ 140737488355328 := by have := L.small e (List.mem_of_getElem? he); omega
 refine acalls_of mix Tryz.func71 rfl rfl Tryz.ntmps71 Tryz.results71 rfl ?_; conv=>whnf
 refine AAlloc.mk (0, 1) rfl fun b1 f1 => ?_; conv=>whnf
 have s1 := f1.sub (row (0, 1) [I 0, I 0, I 0, .slice none 0 0] 59)
 have k1 := Heap.set_same h b1 (row (0, 1) [I 0, I 0, I 0, .slice none 0 0] 59)
 have L' : LedAt (h.set b1 (row (0, 1) [I 0, I 0, I 0, .slice none 0 0] 59)) p o bi bt es a cap := ⟨s1 _ _ L.str, L.own.move fun _ _ x => s1 _ _ x, fun x hx => Sl.sub (L.good x hx) s1, L.small⟩
 refine ACalls.mono (at_any L' S i false) ?_; rintro _ _ ⟨rfl, rfl⟩; conv=>whnf
 have hr : atR bi es.length i false = ((k : Int), 0) := by rw [atR, if_pos (by simp; omega), hk]
 rw [hr]
 conv=>whnf
 refine ACmp.no (by simp) ?_; conv=>whnf
 obtain ⟨b, off, l, E, fz, rfl, hb, hc⟩ := L'.own.sl.pos (by omega)
 refine ALoad.one rfl L'.str rfl ?_; conv=>whnf
 refine AIdx.nat rfl hlt rfl rfl ?_; conv=>whnf
 have g : (l.drop (off + k * 4)).take 4 = e.cells := by rw [part_of_take hc (by omega), encs_part he]
 refine ALoad.agg rfl hb g rfl ?_; conv=>whnf
 refine ACalls.mono (own_any _ tg ht e (L'.good e (List.mem_of_getElem? he)) hn) ?_
 rintro v h' ⟨a', c', rfl, hsl, hsub⟩
 conv=>whnf
 refine AStore.agg' rfl rfl rfl (hsub _ _ k1) rfl ?_; conv=>whnf
 refine ALoad.agg rfl (Heap.set_same _ _ _) rfl rfl ?_; conv=>whnf
 exact ⟨a', c', rfl, hsl.keepT (KeepT.set (hsub _ _ k1)) ht, (s1.trans hsub).set f1.none _⟩
theorem Get_none {h : Heap} {p o : Nat} {bi bt : Int} {es : List EH} {a : Option Addr} {cap : Nat} (L : LedAt h p o bi bt es a cap) (S : Seq bi es) (i : Int) (hi : ¬ (bi < i ∧ i ≤ bi + es.length)) :
  ACalls PR 71 #[.pointer (some ⟨p, 0, none⟩), I i] h (fun v h' => v = .tuple #[.agg #[I 0, I 0, I 0, .slice none 0 0], I 9] ∧ h = h') := by
 refine acalls_pure (acalls_of mix Tryz.func71 rfl rfl Tryz.ntmps71 Tryz.results71 rfl ?_); conv=>whnf
 refine AAlloc.mk (0, 1) rfl fun b1 f1 => ?_; conv=>whnf
 have s1 := f1.sub (row (0, 1) [I 0, I 0, I 0, .slice none 0 0] 59)
 have k1 := Heap.set_same h b1 (row (0, 1) [I 0, I 0, I 0, .slice none 0 0] 59)
 have L' : LedAt (h.set b1 (row (0, 1) [I 0, I 0, I 0, .slice none 0 0] 59)) p o bi bt es a cap := ⟨s1 _ _ L.str, L.own.move fun _ _ x => s1 _ _ x, fun x hx => Sl.sub (L.good x hx) s1, L.small⟩
 refine ACalls.mono (at_any L' S i false) ?_; rintro _ _ ⟨rfl, rfl⟩; conv=>whnf
 have hr : atR bi es.length i false = (0, 9) := by rw [atR, if_neg (by simp; omega)]
 rw [hr]
 conv=>whnf
 refine ACmp.yes (by simp) ?_; conv=>whnf
 refine AStore.agg' rfl rfl rfl k1 rfl ?_; conv=>whnf
 refine ALoad.agg rfl (Heap.set_same _ _ _) rfl rfl ?_; conv=>whnf
 exact ⟨rfl, s1.set f1.none _⟩
end Go.Ah
namespace Go.Ah
open Go.Proofs
set_option linter.unusedVariables false
set_option linter.unusedSimpArgs false
set_option maxRecDepth 20000
theorem LedAt.sub {h h' : Heap} {p o : Nat} {bi bt : Int} {es : List EH} {a : Option Addr} {cap : Nat} (L : LedAt h p o bi bt es a cap) (k : Sub h h') : LedAt h' p o bi bt es a cap :=
 ⟨k _ _ L.str, L.own.move fun _ _ x => k _ _ x, fun e he => Sl.sub (L.good e he) k, L.small⟩
theorem Ents.keep {h h' : Heap} {q : Nat} {t td : Tag} {a : Option Addr} {n c : Nat} {es : List EH} (s : Ents h t td a n c es) (k : Keep q h h') (n1 : t.1 ≠ q) (n2 : td.1 ≠ q) : Ents h' t td a n c es :=
 ⟨s.sl.keep k n1, fun e he => Sl.keep (s.good e he) k n2, s.small⟩
def app (m : Int × Int) : List EH → Int
  | [] => 0
  | x :: r => if chk x m = 0 then app (x.index, x.term) r else chk x m
theorem chk_zero {e : EH} {m : Int × Int} (h : chk e m = 0) : isNum e.term = true ∧ isNum e.index = true ∧ 0 ≤ e.kind ∧ e.kind ≤ 2 ∧ e.n ≤ 1200 ∧ e.index = m.1 + 1 ∧ m.2 ≤ e.term := by
 unfold chk at h
 split at h
 ·cases h
 ·rename_i c
  split at h
  ·cases h
  ·split at h
   ·cases h
   ·refine ⟨?_, ?_, ?_, ?_, ?_, ?_, ?_⟩
    ·cases hh : isNum e.term with
     | true => rfl
     | false => exact absurd (.inl hh) c
    ·cases hh : isNum e.index with
     | true => rfl
     | false => exact absurd (.inr (.inl hh)) c
    ·exact Int.not_lt.1 fun hh => c (.inr (.inr (.inl hh)))
    ·exact Int.not_lt.1 fun hh => c (.inr (.inr (.inr (.inl hh))))
    ·exact Nat.not_lt.1 fun hh => c (.inr (.inr (.inr (.inr hh))))
    ·omega
    ·omega
theorem isNum_iff {n : Int} : isNum n = true ↔ 1 ≤ n ∧ n ≤ 9007199254740991 := by simp [isNum]
theorem encs_one (e : EH) : encs [e] = e.cells := by simp [encs]
def two (h : Heap) (p q : Nat) : Heap := fun c => if c = p ∨ c = q then h c else none
theorem two_sub (h : Heap) (p q : Nat) : Sub (two h p q) h := by
 intro c x e; unfold two at e; split at e
 ·exact e
 ·cases e
theorem two_get {h h' : Heap} {p q : Nat} (k : ∀ x, h p = some x → h' p = some x) (k' : ∀ x, h q = some x → h' q = some x) : Sub (two h p q) h' := by
 intro c x e; unfold two at e; split at e
 ·rename_i hc; rcases hc with rfl | rfl
  ·exact k _ e
  ·exact k' _ e
 ·cases e
theorem two_l (h : Heap) (p q : Nat) : two h p q p = h p := by simp [two]
theorem two_r (h : Heap) (p q : Nat) : two h p q q = h q := by simp [two]
theorem app_small : ∀ (xs : List EH) (m : Int × Int), app m xs = 0 → ∀ x ∈ xs, x.n ≤ 1200
 | [], _, _, x, hx => by cases hx
 | y :: r, m, h, x, hx => by
  unfold app at h
  split at h
  ·rename_i hz
   rcases List.mem_cons.1 hx with rfl | hx
   ·exact (chk_zero hz).2.2.2.2.1
   ·exact app_small r _ h x hx
  ·rename_i hz; exact absurd h hz
set_option maxHeartbeats 1000000 in
theorem Append_any {h : Heap} {p o : Nat} (ho : o ≠ 0) {bi bt : Int} {es : List EH} {a : Option Addr} {cap : Nat} (L : LedAt h p o bi bt es a cap) (S : Seq bi es)
  {t td : Tag} (ht : t.1 ≠ o) (htd : td.1 ≠ o) {xa : Option Addr} {m xc : Nat} {xs : List EH} (X : Ents h t td xa m xc xs) (hroom : (es.length + m) * 48 ≤ 140737488355328) :
  ACalls PR 78 #[.pointer (some ⟨p, 0, none⟩), .slice xa m xc] h (fun v h' => (app (lastM bi bt es) xs ≠ 0 ∧ v = I (app (lastM bi bt es) xs) ∧ Sub h h') ∨
   (app (lastM bi bt es) xs = 0 ∧ v = I 0 ∧ ∃ es' a' cap', LedAt h' p o bi bt es' a' cap' ∧ es'.map EH.abs = (es ++ xs).map EH.abs ∧ Keep o h h')) := by
 have hlast := S.last (bt := bt)
 have hlo := S.lo
 have htop := S.top
 have hxl := X.len
 refine acalls_of mix Tryz.func78 rfl rfl Tryz.ntmps78 Tryz.results78 rfl ?_; conv=>whnf
 refine ACalls.mono (none_any _ p _ _ _ L.str) ?_; rintro _ _ ⟨rfl, rfl⟩; conv=>whnf
 refine ACalls.mono (last_any _ p o bi bt es a cap L (by omega)) ?_; rintro _ _ ⟨rfl, rfl⟩; conv=>whnf
 refine AAlloc.mk (0, 1) rfl fun b5 f5 => ?_; conv=>whnf
 refine AStore.agg' rfl rfl rfl (Heap.set_same _ _ _) rfl ?_; conv=>whnf
 rw [Heap.set_set]
 have s5 := f5.sub (row (0, 1) [I (lastM bi bt es).1, I (lastM bi bt es).2] 146)
 have hp5 : h b5 = none := f5.none
 refine ALoop.mk (fun e h' => Sub h h' ∧ ∃ e0, ∃ k : Nat, ∃ mk : Int × Int, e = updL 51 e0 [(0, .pointer (some ⟨p, 0, none⟩)), (1, .slice xa m xc), (5, .pointer (some ⟨b5, 0, none⟩)), (15, .slice xa m xc), (16, I m), (17, I k)] ∧ k ≤ m ∧
   h' b5 = some (row (0, 1) [I mk.1, I mk.2] 146) ∧ app (lastM bi bt es) xs = app mk (xs.drop k) ∧ 0 ≤ mk.1 ∧ mk.1 ≤ 9007199254740991)
   (fun e => m - natOf (e 17)) ⟨s5, _, 0, lastM bi bt es, updL_self ⟨rfl, rfl, rfl, rfl, rfl, rfl, trivial⟩, by omega, Heap.set_same _ _ _, by simp, by omega, by omega⟩ ?_
 rintro e h1 ⟨sh, e0, k, mk, rfl, hk, hb5, happ, hm0, hm1⟩
 conv=>whnf
 by_cases hkm : k < m
 ·refine ACmp.yes (by omega) ?_; conv=>whnf
  obtain ⟨bx, off, l, E, fz, rfl, hb, hc⟩ := X.sl.pos (by omega)
  obtain ⟨x, hx⟩ : ∃ x, xs[k]? = some x := ⟨xs[k]'(by omega), by simp⟩
  have mx : x ∈ xs := List.mem_of_getElem? hx
  have g : (l.drop (off + k * 4)).take 4 = x.cells := by rw [part_of_take hc (by omega), encs_part hx]
  have hdrop : xs.drop k = x :: xs.drop (k + 1) := by
   have := List.drop_eq_getElem_cons (show k < xs.length by omega)
   rw [this, (List.getElem?_eq_some_iff.1 hx).2]
  refine AIdx.nat rfl hkm rfl rfl ?_; conv=>whnf
  refine ALoad.agg rfl (sh _ _ hb) g rfl ?_; conv=>whnf
  refine AAlloc.mk (0, 1) rfl fun b7 f7 => ?_; conv=>whnf
  refine AStore.agg' rfl rfl rfl (Heap.set_same _ _ _) rfl ?_; conv=>whnf
  rw [Heap.set_set]
  refine ALoad.agg rfl (Heap.set_same _ _ _) rfl rfl ?_; conv=>whnf
  have hb5' := f7.sub (row (0, 1) [I x.term, I x.index, I x.kind, .slice x.a x.n x.c] 59) _ _ hb5
  refine ALoad.agg rfl hb5' rfl rfl ?_; conv=>whnf
  refine ACalls.mono (check_any _ x mk hm0 (by omega)) ?_; rintro _ _ ⟨rfl, rfl⟩; conv=>whnf
  by_cases hz : chk x mk = 0
  ·rw [hz]
   conv=>whnf
   refine ACmp.no (by simp) ?_; conv=>whnf
   refine ALoad.one rfl (Heap.set_same _ _ _) rfl ?_; conv=>whnf
   refine ALoad.one rfl (Heap.set_same _ _ _) rfl ?_; conv=>whnf
   refine AStore.agg' rfl rfl rfl hb5' rfl ?_; conv=>whnf
   refine AArith.ok (by omega) (by omega) ((by omega : (k : Int) + 1 = ((k + 1 : Nat) : Int))) ?_; conv=>whnf
   obtain ⟨z1, z2, z3, z4, z5, z6, z7⟩ := chk_zero hz
   have z2 := isNum_iff.1 z2
   refine ⟨⟨((sh.trans (f7.sub _)).set hp5 _), _, k + 1, (x.index, x.term), updL_self ⟨rfl, rfl, rfl, rfl, rfl, rfl, trivial⟩, by omega, Heap.set_same _ _ _, ?_, by omega, by omega⟩, ?_⟩
   ·rw [happ, hdrop, app, if_pos hz]
   ·show m - (k + 1) < m - k
    omega
  ·refine ACmp.yes (hz) ?_; conv=>whnf
   have : app (lastM bi bt es) xs = chk x mk := by rw [happ, hdrop, app, if_neg hz]
   exact .inl ⟨by rw [this]; exact hz, by rw [this], sh.trans (f7.sub _)⟩
 ·refine ACmp.no (by omega) ?_; conv=>whnf
  obtain rfl : k = m := by omega
  have hall : app (lastM bi bt es) xs = 0 := by rw [happ, List.drop_of_length_le (by omega)]; rfl
  have hsmall := app_small xs _ hall
  refine ALoop.mk (fun e h' => ∃ e0, ∃ k2 : Nat, ∃ es2 a2 cap2, e = updL 51 e0 [(0, .pointer (some ⟨p, 0, none⟩)), (33, .slice xa k xc), (34, I k), (35, I k2)] ∧ k2 ≤ k ∧
   LedAt h' p o bi bt es2 a2 cap2 ∧ es2.map EH.abs = (es ++ xs.take k2).map EH.abs ∧ Keep o h h')
   (fun e => k - natOf (e 35)) ⟨_, 0, es, a, cap, updL_self ⟨rfl, rfl, rfl, rfl, trivial⟩, by omega, L.sub sh, by simp, sh.keep o⟩ ?_
  rintro e h2 ⟨e0, k2, es2, a2, cap2, rfl, hk2, L2, habs, hkeep⟩
  conv=>whnf
  have hlen2 : es2.length = es.length + k2 := by
   have := congrArg List.length habs
   simp at this; omega
  by_cases hkm2 : k2 < k
  ·refine ACmp.yes (by omega) ?_; conv=>whnf
   have X2 := X.keep hkeep ht htd
   obtain ⟨bx, off, l, E, fz, rfl, hb, hc⟩ := X2.sl.pos (by omega)
   obtain ⟨x, hx⟩ : ∃ x, xs[k2]? = some x := ⟨xs[k2]'(by omega), by simp⟩
   have mx : x ∈ xs := List.mem_of_getElem? hx
   have g : (l.drop (off + k2 * 4)).take 4 = x.cells := by rw [part_of_take hc (by omega), encs_part hx]
   refine AIdx.nat rfl hkm2 rfl rfl ?_; conv=>whnf
   refine ALoad.agg rfl hb g rfl ?_; conv=>whnf
   refine AAlloc.mk (0, 1) rfl fun b10 f10 => ?_; conv=>whnf
   refine AStore.agg' rfl rfl rfl (Heap.set_same _ _ _) rfl ?_; conv=>whnf
   rw [Heap.set_set]
   have s10 := f10.sub (row (0, 1) [I x.term, I x.index, I x.kind, .slice x.a x.n x.c] 59)
   have k10 := Heap.set_same h2 b10 (row (0, 1) [I x.term, I x.index, I x.kind, .slice x.a x.n x.c] 59)
   refine ADrawn.mk (two _ p b10) [11] (two_sub _ _ _) (by decide +kernel) ?_; conv=>whnf
   refine ALoad.one rfl ((two_l _ _ _).trans (s10 _ _ L2.str)) rfl ?_; conv=>whnf
   refine ALoad.agg rfl ((two_r _ _ _).trans k10) rfl rfl ?_; conv=>whnf
   refine ACalls.mono (own_any _ (o, 2) (by simp [ho]) x (Sl.sub (X2.good x mx) s10) (by have := hsmall x mx; omega)) ?_
   rintro v h3 ⟨ax, cx, rfl, hslx, hsub3⟩
   refine ⟨(two_sub _ _ _).trans hsub3, ?_⟩
   conv=>whnf
   refine ABuildSl.mk (0, 1) rfl rfl rfl rfl rfl rfl rfl fun b11 f11 => ?_; conv=>whnf
   have s4 := s10.trans (hsub3.trans (f11.sub (row (0, 1) [I x.term, I x.index, I x.kind, .slice ax x.n cx] 59)))
   refine ⟨(two_sub _ _ _).trans (hsub3.trans (f11.sub _)), ?_⟩
   conv=>whnf
   refine AAppend.own (t := (o, 1)) (E := 59) (z := 4) (by_ := 48) (zero := [I 0, I 0, I 0, .slice none 0 0]) (tx := (0, 1)) (xs := [I x.term, I x.index, I x.kind, .slice ax x.n cx]) rfl ⟨_, rfl⟩ rfl rfl rfl rfl (by omega) (L2.own.move fun _ _ y => s4 _ _ y)
    ⟨rfl, Nat.le_refl _, .inr ⟨b11, 0, _, _, _, rfl, Heap.set_same _ _ _, rfl⟩⟩ rfl (by omega) (by omega) fun a5 cap5 h5 hown5 hk5 _ => ?_
   have hp5 := hk5.get (u := (o, 0)) (by simp) (s4 _ _ L2.str)
   have hb10 := hk5.get (u := (0, 1)) (by simp; omega) ((hsub3.trans (f11.sub (row (0, 1) [I x.term, I x.index, I x.kind, .slice ax x.n cx] 59))) _ _ k10)
   conv=>whnf
   refine ⟨two_get (fun y hy => ?_) (fun y hy => ?_), ?_⟩
   ·have := s10 _ _ L2.str
    rw [this] at hy; cases hy; exact hp5
   ·rw [k10] at hy; cases hy; exact hb10
   conv=>whnf
   refine AStore.one' rfl rfl rfl hp5 rfl ?_; conv=>whnf
   refine AArith.ok (by omega) (by omega) ((by omega : (k2 : Int) + 1 = ((k2 + 1 : Nat) : Int))) ?_; conv=>whnf
   refine ⟨⟨_, k2 + 1, es2 ++ [⟨x.term, x.index, x.kind, ax, x.n, cx, x.data⟩], a5, cap5, updL_self ⟨rfl, rfl, rfl, rfl, trivial⟩, by omega, ⟨?_, ?_, ?_, ?_⟩, ?_, ?_⟩, ?_⟩
   ·rw [List.length_append]; exact Heap.set_same _ _ _
   ·rw [List.length_append, encs_append, encs_one]
    exact hown5.keepT (KeepT.set hp5) (by simp)
   ·intro y hy
    rcases List.mem_append.1 hy with hy | hy
    ·exact Sl.keepT (Sl.keepT (Sl.sub (L2.good y hy) s4) hk5 (by simp)) (KeepT.set hp5) (by simp)
    ·obtain rfl := List.mem_singleton.1 hy
     exact Sl.keepT (Sl.keepT (Sl.sub hslx.sl (f11.sub _)) hk5 (by simp)) (KeepT.set hp5) (by simp)
   ·intro y hy
    rcases List.mem_append.1 hy with hy | hy
    ·exact L2.small y hy
    ·obtain rfl := List.mem_singleton.1 hy
     exact hsmall x mx
   ·rw [List.map_append, habs, List.take_succ_eq_append_getElem (by omega), (List.getElem?_eq_some_iff.1 hx).2]
    simp [EH.abs]
   ·exact (hkeep.trans (s4.keep o)).trans (hk5.keep.trans (KeepT.set hp5).keep)
   ·show k - (k2 + 1) < k - k2
    omega
  ·refine ACmp.no (by omega) ?_; conv=>whnf
   obtain rfl : k2 = k := by omega
   refine .inr ⟨hall, rfl, es2, a2, cap2, L2, ?_, hkeep⟩
   rw [habs, List.take_of_length_le (by omega)]
end Go.Ah
namespace Go.Ah
open Go.Proofs
set_option linter.unusedVariables false
set_option linter.unusedSimpArgs false
set_option maxRecDepth 20000
theorem Cut_ok {h : Heap} {p o : Nat} {bi bt : Int} {es : List EH} {a : Option Addr} {cap : Nat} (L : LedAt h p o bi bt es a cap) (S : Seq bi es) (i : Int) (k : Nat) (hk : i - bi - 1 = k) (hle : k ≤ es.length) :
  ACalls PR 181 #[.pointer (some ⟨p, 0, none⟩), I i] h (fun v h' => v = I 0 ∧ LedAt h' p o bi bt (es.take k) a cap ∧ Keep o h h') := by
 refine acalls_of mix Tryz.func181 rfl rfl Tryz.ntmps181 Tryz.results181 rfl ?_; conv=>whnf
 refine ACalls.mono (at_any L S i true) ?_; rintro _ _ ⟨rfl, rfl⟩; conv=>whnf
 have hr : atR bi es.length i true = ((k : Int), 0) := by rw [atR, if_pos (by simp; omega), hk]
 have hcap : es.length ≤ cap := L.own.sl.le
 rw [hr]
 conv=>whnf
 refine ACmp.no (by simp) ?_; conv=>whnf
 refine ALoad.one rfl L.str rfl ?_; conv=>whnf
 refine ASlc.from (z := 4) rfl hle hcap rfl rfl ?_; conv=>whnf
 refine AClear.own (t := (o, 1)) (E := 59) (z := 4) (zero := [I 0, I 0, I 0, .slice none 0 0]) rfl rfl rfl (by omega) rfl L.own hle fun h2 hown hk2 => ?_
 conv=>whnf
 have hp2 := hk2.get (u := (o, 0)) (by simp) L.str
 refine ALoad.one rfl hp2 rfl ?_; conv=>whnf
 refine ASlc.upto (z := 4) rfl (Nat.le_trans hle hcap) rfl rfl ?_; conv=>whnf
 refine AStore.one' rfl rfl rfl hp2 rfl ?_; conv=>whnf
 have hlen : (es.take k).length = k := by simp; omega
 refine ⟨rfl, ⟨?_, ?_, ?_, ?_⟩, hk2.keep.trans (KeepT.set hp2).keep⟩
 ·rw [hlen]; exact Heap.set_same _ _ _
 ·rw [hlen, ← encs_take]; exact hown.keepT (KeepT.set hp2) (by simp)
 ·intro e he
  exact Sl.keepT (Sl.keepT (L.good e (List.mem_of_mem_take he)) hk2 (by simp)) (KeepT.set hp2) (by simp)
 ·intro e he; exact L.small e (List.mem_of_mem_take he)
theorem Cut_no {h : Heap} {p o : Nat} {bi bt : Int} {es : List EH} {a : Option Addr} {cap : Nat} (L : LedAt h p o bi bt es a cap) (S : Seq bi es) (i : Int) (hi : ¬ (bi < i ∧ i ≤ bi + es.length + 1)) :
  ACalls PR 181 #[.pointer (some ⟨p, 0, none⟩), I i] h (fun v h' => v = I 9 ∧ h = h') := by
 refine acalls_pure (acalls_of mix Tryz.func181 rfl rfl Tryz.ntmps181 Tryz.results181 rfl ?_); conv=>whnf
 refine ACalls.mono (at_any L S i true) ?_; rintro _ _ ⟨rfl, rfl⟩; conv=>whnf
 have hr : atR bi es.length i true = (0, 9) := by rw [atR, if_neg (by simp; omega)]
 rw [hr]
 conv=>whnf
 refine ACmp.yes (by simp) ?_; conv=>whnf
 exact ⟨rfl, Sub.refl _⟩
theorem cloneE_any (h : Heap) (tg : Tag) {t : Tag} {a : Option Addr} {n c : Nat} {es : List EH} (s : Sl h t a n c 4 (encs es)) (hn : n * 48 ≤ 140737488355328) :
  ACalls PR 144 #[.slice a n c] h (fun v h' => ∃ a' c', v = .slice a' n c' ∧ Own h' tg 59 a' n c' 4 (encs es) ∧ Sub h h') := by
 have hone : (encs es).all oneCell = true := by
  rw [List.all_eq_true]; intro x hx
  obtain ⟨e, _, hx⟩ := List.mem_flatMap.1 hx
  simp only [EH.cells, List.mem_cons, List.not_mem_nil, or_false] at hx
  rcases hx with rfl | rfl | rfl | rfl <;> rfl
 refine acalls_of mix Tryz.func144 rfl rfl Tryz.ntmps144 Tryz.results144 rfl ?_; conv=>whnf
 cases a with
 | none =>
  have hn0 : n = 0 := by
   rcases Nat.eq_zero_or_pos n with h0 | h0
   ·exact h0
   ·obtain ⟨b, off, l, E, fz, e, _⟩ := s.pos h0
    cases e
  subst hn0
  have : encs es = [] := List.eq_nil_of_length_eq_zero (by rw [s.len])
  conv=>whnf
  exact ⟨none, 0, rfl, .inl ⟨rfl, rfl, this⟩, Sub.refl _⟩
 | some ad =>
  conv=>whnf
  refine ABuildSl.empty tg rfl rfl fun b fb => ?_; conv=>whnf
  refine AAppend.own (t := tg) (E := 59) (z := 4) (by_ := 48) (zero := [I 0, I 0, I 0, .slice none 0 0]) (cs := []) rfl ⟨_, rfl⟩ rfl rfl rfl rfl (by omega) (.inl ⟨rfl, rfl, rfl⟩) (s.sub (fb.sub _)) hone (by omega) (by omega) fun a' c' h' ho hk hsub => ?_
  conv=>whnf
  refine ⟨a', c', ?_, ?_, (fb.sub _).trans (hsub rfl)⟩
  ·show Value.slice a' (0 + n) c' = _
   rw [Nat.zero_add]
  ·rw [Nat.zero_add] at ho
   exact ho
theorem Compact_ok {h : Heap} {p o : Nat} (ho : o ≠ 0) {bi bt : Int} {es : List EH} {a : Option Addr} {cap : Nat} (L : LedAt h p o bi bt es a cap) (S : Seq bi es) (i : Int) (k : Nat) (e : EH) (hk : i - bi - 1 = k) (he : es[k]? = some e)
  (hroom : es.length * 48 ≤ 140737488355328) :
  ACalls PR 69 #[.pointer (some ⟨p, 0, none⟩), I i] h (fun v h' => v = I 0 ∧ ∃ a' cap', LedAt h' p o e.index e.term (es.drop (k + 1)) a' cap' ∧ Keep o h h') := by
 have hlt : k < es.length := (List.getElem?_eq_some_iff.1 he).1
 refine acalls_of mix Tryz.func69 rfl rfl Tryz.ntmps69 Tryz.results69 rfl ?_; conv=>whnf
 refine ACalls.mono (at_any L S i false) ?_; rintro _ _ ⟨rfl, rfl⟩; conv=>whnf
 have hr : atR bi es.length i false = ((k : Int), 0) := by rw [atR, if_pos (by simp; omega), hk]
 have hcap : es.length ≤ cap := L.own.sl.le
 rw [hr]
 conv=>whnf
 refine ACmp.no (by simp) ?_; conv=>whnf
 obtain ⟨b, off, l, E, fz, rfl, hb, hc⟩ := L.own.sl.pos (by omega)
 have g0 : l[off + k * 4]? = some (I e.term) := by rw [get_of_take hc (by omega)]; exact (encs_get (j := 0) he (by omega))
 have g1 : l[off + k * 4 + 1]? = some (I e.index) := by rw [Nat.add_assoc, get_of_take hc (by omega)]; exact (encs_get (j := 1) he (by omega))
 refine ADrawn.mk (_) [20] (Sub.refl _) (by decide +kernel) ?_; conv=>whnf
 refine ALoad.one rfl L.str rfl ?_; conv=>whnf
 refine AIdx.nat rfl hlt rfl rfl ?_; conv=>whnf
 refine ALoad.one rfl hb g1 ?_; conv=>whnf
 refine ALoad.one rfl L.str rfl ?_; conv=>whnf
 refine AIdx.nat rfl hlt rfl rfl ?_; conv=>whnf
 refine ALoad.one rfl hb g0 ?_; conv=>whnf
 refine AStore.agg' rfl rfl rfl L.str rfl ?_; conv=>whnf
 have hp2 := Heap.set_same h p (row (o, 0) [.bool true, I e.index, I e.term, .slice (some ⟨b, off, none⟩) es.length cap] 158)
 have hown2 := L.own.keepT (KeepT.set (y := .cells [.bool true, I e.index, I e.term, .slice (some ⟨b, off, none⟩) es.length cap].toArray 158 (0, 0)) L.str) (by simp)
 refine ALoad.one rfl hp2 rfl ?_; conv=>whnf
 refine AArith.ok (by omega) (by omega) ((by omega : (k : Int) + 1 = ((k + 1 : Nat) : Int))) ?_; conv=>whnf
 refine ASlc.from (z := 4) rfl (by omega) hcap rfl rfl ?_; conv=>whnf
 have hs := hown2.sl.slice (l := k + 1) (m := es.length) (x := cap) (by omega) (Nat.le_refl _) hcap
 have hcs : ((encs es).drop ((k + 1) * 4)).take ((es.length - (k + 1)) * 4) = encs (es.drop (k + 1)) := by
  rw [encs_drop, List.take_of_length_le]
  rw [encs_length]; simp
 rw [hcs] at hs
 refine ACalls.mono (cloneE_any _ (o, 1) hs (by omega)) ?_
 rintro v h3 ⟨a', c', rfl, hown3, hsub3⟩
 conv=>whnf
 have hp3 := hsub3 _ _ hp2
 refine AStore.one' rfl rfl rfl hp3 rfl ?_; conv=>whnf
 have hlen : (es.drop (k + 1)).length = es.length - (k + 1) := by simp
 refine ⟨rfl, a', c', ⟨?_, ?_, ?_, ?_⟩, ((KeepT.set L.str).keep.trans (hsub3.keep o)).trans (KeepT.set hp3).keep⟩
 ·rw [hlen]; exact Heap.set_same _ _ _
 ·rw [hlen]; exact hown3.keepT (KeepT.set hp3) (by simp)
 ·intro y hy
  exact Sl.keepT (Sl.sub (Sl.keepT (L.good y (List.mem_of_mem_drop hy)) (KeepT.set L.str) (by simp)) hsub3) (KeepT.set hp3) (by simp)
 ·intro y hy; exact L.small y (List.mem_of_mem_drop hy)
theorem Compact_no {h : Heap} {p o : Nat} {bi bt : Int} {es : List EH} {a : Option Addr} {cap : Nat} (L : LedAt h p o bi bt es a cap) (S : Seq bi es) (i : Int) (hi : ¬ (bi < i ∧ i ≤ bi + es.length)) :
  ACalls PR 69 #[.pointer (some ⟨p, 0, none⟩), I i] h (fun v h' => v = I 9 ∧ h = h') := by
 refine acalls_pure (acalls_of mix Tryz.func69 rfl rfl Tryz.ntmps69 Tryz.results69 rfl ?_); conv=>whnf
 refine ACalls.mono (at_any L S i false) ?_; rintro _ _ ⟨rfl, rfl⟩; conv=>whnf
 have hr : atR bi es.length i false = (0, 9) := by rw [atR, if_neg (by simp; omega)]
 rw [hr]
 conv=>whnf
 refine ACmp.yes (by simp) ?_; conv=>whnf
 exact ⟨rfl, Sub.refl _⟩
theorem Slice_no {h : Heap} {p o : Nat} {bi bt : Int} {es : List EH} {a : Option Addr} {cap : Nat} (L : LedAt h p o bi bt es a cap) (S : Seq bi es) (i most : Int) (hi : ¬ (bi < i ∧ i ≤ bi + es.length + 1)) :
  ACalls PR 168 #[.pointer (some ⟨p, 0, none⟩), I i, I most] h (fun v h' => v = .tuple #[.slice none 0 0, I 9] ∧ h = h') := by
 refine acalls_pure (acalls_of mix Tryz.func168 rfl rfl Tryz.ntmps168 Tryz.results168 rfl ?_); conv=>whnf
 refine ACalls.mono (at_any L S i true) ?_; rintro _ _ ⟨rfl, rfl⟩; conv=>whnf
 have hr : atR bi es.length i true = (0, 9) := by rw [atR, if_neg (by simp; omega)]
 rw [hr]
 conv=>whnf
 refine ACmp.yes (by simp) ?_; conv=>whnf
 exact ⟨rfl, Sub.refl _⟩
theorem Slice_neg {h : Heap} {p o : Nat} {bi bt : Int} {es : List EH} {a : Option Addr} {cap : Nat} (L : LedAt h p o bi bt es a cap) (S : Seq bi es) (i most : Int) (hi : bi < i ∧ i ≤ bi + es.length + 1) (hm : most < 0) :
  ACalls PR 168 #[.pointer (some ⟨p, 0, none⟩), I i, I most] h (fun v h' => v = .tuple #[.slice none 0 0, I 2] ∧ h = h') := by
 refine acalls_pure (acalls_of mix Tryz.func168 rfl rfl Tryz.ntmps168 Tryz.results168 rfl ?_); conv=>whnf
 refine ACalls.mono (at_any L S i true) ?_; rintro _ _ ⟨rfl, rfl⟩; conv=>whnf
 have hr : atR bi es.length i true = (i - bi - 1, 0) := by rw [atR, if_pos (by simp; omega)]
 rw [hr]
 conv=>whnf
 refine ACmp.no (by simp) ?_; conv=>whnf
 refine ACmp.yes (hm) ?_; conv=>whnf
 exact ⟨rfl, Sub.refl _⟩
set_option maxHeartbeats 1000000 in
theorem Slice_ok {h : Heap} {p o : Nat} {bi bt : Int} {es : List EH} {a : Option Addr} {cap : Nat} (L : LedAt h p o bi bt es a cap) (S : Seq bi es) (tg td : Tag) (ht : tg ≠ (0, 1)) (hd : td ≠ (0, 1)) (hto : tg.1 ≠ o) (htd : td ≠ tg)
  (i most : Int) (k : Nat) (hk : i - bi - 1 = k) (hle : k ≤ es.length) (hm : 0 ≤ most) (hroom : es.length * 48 ≤ 140737488355328) :
  ACalls PR 168 #[.pointer (some ⟨p, 0, none⟩), I i, I most] h (fun v h' => ∃ a' n' c' zs, v = .tuple #[.slice a' n' c', I 0] ∧ Ents h' tg td a' n' c' zs ∧ zs.map EH.abs = ((es.drop k).take most.toNat).map EH.abs ∧ (∀ z ∈ zs, z.n ≤ 1200) ∧ KeepT tg h h' ∧ Own h' tg 59 a' n' c' 4 (encs zs) ∧ ∀ z ∈ zs, z.Mine h' td) := by
 have hcap : es.length ≤ cap := L.own.sl.le
 obtain ⟨q, hq⟩ : ∃ q : Nat, (if ((es.length : Int) - k) < most then ((es.length : Int) - k) else most) = q := ⟨(if ((es.length : Int) - k) < most then ((es.length : Int) - k) else most).toNat, by split <;> omega⟩
 have hqle : k + q ≤ es.length := by split at hq <;> omega
 have htop := S.top
 have hlo := S.lo
 refine acalls_of mix Tryz.func168 rfl rfl Tryz.ntmps168 Tryz.results168 rfl ?_; conv=>whnf
 refine ACalls.mono (at_any L S i true) ?_; rintro _ _ ⟨rfl, rfl⟩; conv=>whnf
 have hr : atR bi es.length i true = ((k : Int), 0) := by rw [atR, if_pos (by simp; omega), hk]
 rw [hr]
 conv=>whnf
 refine ACmp.no (by simp) ?_; conv=>whnf
 refine ACmp.no (by omega) ?_; conv=>whnf
 refine ALoad.one rfl L.str rfl ?_; conv=>whnf
 refine AArith.ok (by omega) (by omega) (rfl) ?_; conv=>whnf
 refine AInt.as (hq) ?_; conv=>whnf
 refine AArith.ok (by omega) (by omega) ((by omega : (k : Int) + q = ((k + q : Nat) : Int))) ?_; conv=>whnf
 refine ALoad.one rfl L.str rfl ?_; conv=>whnf
 refine ASlc.full (z := 4) rfl rfl rfl (by omega) (Nat.le_refl _) (by omega) rfl rfl ?_; conv=>whnf
 have hs := L.own.sl.slice (l := k) (m := k + q) (x := k + q) (by omega) hqle (Nat.le_refl _)
 have hcs : ((encs es).drop (k * 4)).take ((k + q - k) * 4) = encs ((es.drop k).take q) := by
  rw [encs_drop, encs_take, Nat.add_sub_cancel_left]
 rw [hcs, Nat.add_sub_cancel_left] at hs
 rw [Nat.add_sub_cancel_left]
 generalize hys : (es.drop k).take q = ys at hs
 have hyl : ys.length = q := by rw [← hys]; simp; omega
 have hmem : ∀ y ∈ ys, y ∈ es := fun y hy => by rw [← hys] at hy; exact List.mem_of_mem_drop (List.mem_of_mem_take hy)
 have hfin : ((es.drop k).take most.toNat) = ys := by
  rw [← hys]
  by_cases hc : ((es.length : Int) - k) < most
  ·rw [if_pos hc] at hq
   rw [List.take_of_length_le (by simp; omega), List.take_of_length_le (by simp; omega)]
  ·rw [if_neg hc] at hq
   rw [show most.toNat = q by omega]
 generalize hbase : slBase a k (k + q) 4 = sb at hs ⊢
 refine ALoop.mk (fun e h' => ∃ e0, ∃ j : Nat, ∃ zs a2 c2, e = updL 58 e0 [(45, .slice sb q q), (46, I q), (47, I j), (11, .slice a2 j c2)] ∧ j ≤ q ∧ Own h' tg 59 a2 j c2 4 (encs zs) ∧ zs.map EH.abs = (ys.take j).map EH.abs ∧ (∀ z ∈ zs, z.Mine h' td) ∧ (∀ z ∈ zs, z.n ≤ 1200) ∧ KeepT tg h h')
  (fun e => q - natOf (e 47)) ⟨_, 0, [], none, 0, updL_self ⟨rfl, rfl, rfl, rfl, trivial⟩, by omega, .inl ⟨rfl, rfl, rfl⟩, by simp, by simp, by simp, KeepT.refl _ _⟩ ?_
 rintro e h2 ⟨e0, j, zs, a2, c2, rfl, hj, hown, habs, hgood, hsml, hkeep⟩
 conv=>whnf
 have hzl : zs.length = j := by
  have := congrArg List.length habs
  simp at this; omega
 by_cases hjq : j < q
 ·refine ACmp.yes (by omega) ?_; conv=>whnf
  have hs2 := hs.keepT hkeep (fun c => hto (by rw [← c]))
  obtain ⟨b, off, l, E, fz, rfl, hb, hc⟩ := hs2.pos (by omega)
  obtain ⟨y, hy⟩ : ∃ y, ys[j]? = some y := ⟨ys[j]'(by omega), by simp⟩
  have my : y ∈ ys := List.mem_of_getElem? hy
  have g : (l.drop (off + j * 4)).take 4 = y.cells := by rw [part_of_take hc (by omega), encs_part hy]
  have gy : y.Good h2 (o, 2) := Sl.keepT (L.good y (hmem y my)) hkeep (fun c => hto (by rw [← c]))
  have sy := L.small y (hmem y my)
  refine AIdx.nat rfl hjq rfl rfl ?_; conv=>whnf
  refine ALoad.agg rfl hb g rfl ?_; conv=>whnf
  refine AAlloc.mk (0, 1) rfl fun b10 f10 => ?_; conv=>whnf
  refine AStore.agg' rfl rfl rfl (Heap.set_same _ _ _) rfl ?_; conv=>whnf
  rw [Heap.set_set]
  have s10 := f10.sub (row (0, 1) [I y.term, I y.index, I y.kind, .slice y.a y.n y.c] 59)
  refine ALoad.agg rfl (Heap.set_same _ _ _) rfl rfl ?_; conv=>whnf
  refine ACalls.mono (own_any _ td hd y (Sl.sub gy s10) (by omega)) ?_
  rintro v h3 ⟨ax, cx, rfl, hslx, hsub3⟩
  conv=>whnf
  refine ABuildSl.mk (0, 1) rfl rfl rfl rfl rfl rfl rfl fun b11 f11 => ?_; conv=>whnf
  have s4 := s10.trans (hsub3.trans (f11.sub (row (0, 1) [I y.term, I y.index, I y.kind, .slice ax y.n cx] 59)))
  refine AAppend.own (t := tg) (E := 59) (z := 4) (by_ := 48) (zero := [I 0, I 0, I 0, .slice none 0 0]) (tx := (0, 1)) (xs := [I y.term, I y.index, I y.kind, .slice ax y.n cx]) rfl ⟨_, rfl⟩ rfl rfl rfl rfl (by omega) (hown.move fun _ _ z => s4 _ _ z)
   ⟨rfl, Nat.le_refl _, .inr ⟨b11, 0, _, _, _, rfl, Heap.set_same _ _ _, rfl⟩⟩ rfl (by omega) (by omega) fun a5 cap5 h5 hown5 hk5 _ => ?_
  conv=>whnf
  refine AArith.ok (by omega) (by omega) ((by omega : (j : Int) + 1 = ((j + 1 : Nat) : Int))) ?_; conv=>whnf
  refine ⟨⟨_, j + 1, zs ++ [⟨y.term, y.index, y.kind, ax, y.n, cx, y.data⟩], a5, cap5, updL_self ⟨rfl, rfl, rfl, rfl, trivial⟩, by omega, ?_, ?_, ?_, ?_, ?_⟩, ?_⟩
  ·rw [encs_append, encs_one]; exact hown5
  ·rw [List.map_append, habs, List.take_succ_eq_append_getElem (by omega), (List.getElem?_eq_some_iff.1 hy).2]
   simp [EH.abs]
  ·intro z hz
   rcases List.mem_append.1 hz with hz | hz
   ·exact Own.keepT (Own.sub (hgood z hz) s4) hk5 htd
   ·obtain rfl := List.mem_singleton.1 hz
    exact Own.keepT (Own.sub hslx (f11.sub _)) hk5 htd
  ·intro z hz
   rcases List.mem_append.1 hz with hz | hz
   ·exact hsml z hz
   ·obtain rfl := List.mem_singleton.1 hz
    exact sy
  ·exact hkeep.trans ((s4.keepT tg).trans hk5)
  ·show q - (j + 1) < q - j
   omega
 ·refine ACmp.no (by omega) ?_; conv=>whnf
  obtain rfl : j = q := by omega
  refine ⟨a2, j, c2, zs, rfl, ⟨hown.sl, fun z hz => (hgood z hz).sl, fun z hz => by have := hsml z hz; omega⟩, ?_, hsml, hkeep, hown, hgood⟩
  rw [habs, hfin, List.take_of_length_le (by omega)]
end Go.Ah
namespace Go.Ah
open Go.Proofs
set_option linter.unusedVariables false
set_option linter.unusedSimpArgs false
set_option maxRecDepth 20000
abbrev Abs := Int × Int × Int × List Int
structure LG where
  bi : Int
  bt : Int
  es : List Abs
def lnew (i t : Int) : LG := ⟨i, t, []⟩
def LG.last (L : LG) : Int × Int := match L.es.getLast? with
  | some e => (e.2.1, e.1)
  | none => (L.bi, L.bt)
def achk (e : Abs) (m : Int × Int) : Int :=
  if isNum e.1 = false ∨ isNum e.2.1 = false ∨ e.2.2.1 < 0 ∨ 2 < e.2.2.1 ∨ 1200 < e.2.2.2.length then 2 else if e.2.1 ≠ m.1 + 1 then 170 else if e.1 < m.2 then 2 else 0
def aapp (m : Int × Int) : List Abs → Int
  | [] => 0
  | x :: r => if achk x m = 0 then aapp (x.2.1, x.1) r else achk x m
def LG.append (L : LG) (xs : List Abs) : Int × LG := if aapp L.last xs = 0 then (0, { L with es := L.es ++ xs }) else (aapp L.last xs, L)
def LG.spot (L : LG) (i : Int) : Option Abs := if L.bi < i then L.es[(i - L.bi - 1).toNat]? else none
def LG.reach (L : LG) (i : Int) : Bool := decide (L.bi < i ∧ i ≤ L.bi + L.es.length + 1)
def LG.cut (L : LG) (i : Int) : Int × LG := if L.reach i = true then (0, { L with es := L.es.take (i - L.bi - 1).toNat }) else (9, L)
def LG.compact (L : LG) (i : Int) : Int × LG := match L.spot i with
  | some e => (0, ⟨e.2.1, e.1, L.es.drop ((i - L.bi - 1).toNat + 1)⟩)
  | none => (9, L)
def LG.term (L : LG) (i : Int) : Int × Int := if i = L.bi then (L.bt, 0) else match L.spot i with
  | some e => (e.1, 0)
  | none => (0, 9)
def LG.get (L : LG) (i : Int) : Abs × Int := match L.spot i with
  | some e => (e, 0)
  | none => ((0, 0, 0, []), 9)
def LG.slice (L : LG) (i most : Int) : List Abs × Int :=
  if L.reach i = false then ([], 9) else if most < 0 then ([], 2) else ((L.es.drop (i - L.bi - 1).toNat).take most.toNat, 0)
structure LOk (L : LG) : Prop where
  idx : ∀ (k : Nat) e, L.es[k]? = some e → e.2.1 = L.bi + 1 + k
  lo : 0 ≤ L.bi
  top : L.bi + L.es.length ≤ 9007199254740991
  small : ∀ e ∈ L.es, e.2.2.2.length ≤ 1200
theorem LOk.new {i t : Int} (h0 : 0 ≤ i) (h1 : i ≤ 9007199254740991) : LOk (lnew i t) := ⟨fun k e he => by simp [lnew] at he, h0, by simpa [lnew] using h1, by simp [lnew]⟩
theorem okBase_bd {i t : Int} (h : okBase i t = true) : 0 ≤ i ∧ i ≤ 9007199254740991 := by
 simp [okBase, isNum] at h; omega
theorem LOk.last {L : LG} (k : LOk L) : L.last.1 = L.bi + L.es.length := by
 unfold LG.last
 cases h : L.es.getLast? with
 | none => rw [List.getLast?_eq_none_iff.1 h]; simp
 | some e =>
  rw [List.getLast?_eq_getElem?] at h
  have h1 := k.idx _ _ h
  have : L.es.length - 1 < L.es.length := (List.getElem?_eq_some_iff.1 h).1
  simp only [h1]; omega
theorem achk_zero {e : Abs} {m : Int × Int} (h : achk e m = 0) : isNum e.1 = true ∧ isNum e.2.1 = true ∧ 0 ≤ e.2.2.1 ∧ e.2.2.1 ≤ 2 ∧ e.2.2.2.length ≤ 1200 ∧ e.2.1 = m.1 + 1 ∧ m.2 ≤ e.1 := by
 unfold achk at h
 split at h
 ·cases h
 ·rename_i c
  split at h
  ·cases h
  ·rename_i c1
   split at h
   ·cases h
   ·rename_i c2
    simp only [not_or, Bool.not_eq_false] at c
    exact ⟨c.1, c.2.1, by omega, by omega, by omega, by omega, by omega⟩
theorem aapp_ok : ∀ (xs : List Abs) (m : Int × Int), 0 ≤ m.1 → aapp m xs = 0 → (∀ (k : Nat) e, xs[k]? = some e → e.2.1 = m.1 + 1 + k) ∧ (xs ≠ [] → m.1 + xs.length ≤ 9007199254740991) ∧ ∀ e ∈ xs, e.2.2.2.length ≤ 1200
 | [], m, h0, h => ⟨fun k e he => by simp at he, by simp, by simp⟩
 | x :: r, m, h0, h => by
  unfold aapp at h
  split at h
  ·rename_i hz
   obtain ⟨z1, z2, z3, z4, z5, z6, z7⟩ := achk_zero hz
   have zn := isNum_iff.1 z2
   obtain ⟨i1, i2, i3⟩ := aapp_ok r (x.2.1, x.1) (by simp only []; omega) h
   refine ⟨fun k e he => ?_, fun _ => ?_, fun e he => ?_⟩
   ·cases k with
    | zero => simp at he; subst he; rw [z6]; simp
    | succ k =>
     simp only [List.getElem?_cons_succ] at he
     have := i1 k e he
     simp only [] at this
     rw [this, z6]; omega
   ·cases r with
    | nil => simp only [List.length_singleton]; omega
    | cons y r =>
     have := i2 (by simp)
     simp only [List.length_cons] at this ⊢; omega
   ·rcases List.mem_cons.1 he with rfl | he
    ·exact z5
    ·exact i3 e he
  ·rename_i hz; exact absurd h hz
theorem LOk.append {L : LG} (k : LOk L) (xs : List Abs) : LOk (L.append xs).2 := by
 unfold LG.append
 split
 ·rename_i hz
  have hl := k.last
  have h0 := k.lo
  have h1 := k.top
  obtain ⟨i1, i2, i3⟩ := aapp_ok xs L.last (by omega) hz
  refine ⟨fun j e he => ?_, k.lo, ?_, fun e he => ?_⟩
  ·simp only [] at he ⊢
   rw [List.getElem?_append] at he
   split at he
   ·exact k.idx j e he
   ·have := i1 _ e he
    rw [hl] at this; omega
  ·simp only [List.length_append]
   by_cases hx : xs = []
   ·subst hx; simpa using k.top
   ·have := i2 hx
    omega
  ·rcases List.mem_append.1 he with he | he
   ·exact k.small e he
   ·exact i3 e he
 ·exact k
theorem LOk.cut {L : LG} (k : LOk L) (i : Int) : LOk (L.cut i).2 := by
 unfold LG.cut
 split
 ·refine ⟨fun j e he => ?_, k.lo, ?_, fun e he => k.small e (List.mem_of_mem_take he)⟩
  ·simp only [List.getElem?_take] at he
   split at he
   ·exact k.idx j e he
   ·cases he
  ·have := k.top
   simp only [List.length_take]; omega
 ·exact k
theorem LG.spot_some {L : LG} {i : Int} {e : Abs} (h : L.spot i = some e) : L.bi < i ∧ i ≤ L.bi + L.es.length ∧ L.es[(i - L.bi - 1).toNat]? = some e := by
 unfold LG.spot at h
 split at h
 ·have := (List.getElem?_eq_some_iff.1 h).1
  exact ⟨by assumption, by omega, h⟩
 ·cases h
theorem LG.spot_none {L : LG} {i : Int} (h : L.spot i = none) : ¬ (L.bi < i ∧ i ≤ L.bi + L.es.length) := by
 unfold LG.spot at h
 split at h
 ·rw [List.getElem?_eq_none_iff] at h; omega
 ·omega
theorem lastM_abs (L : LG) {es : List EH} (h : es.map EH.abs = L.es) : lastM L.bi L.bt es = L.last := by
 unfold lastM LG.last
 rw [← h, List.getLast?_map]
 cases es.getLast? with
 | none => rfl
 | some e => rfl
theorem chk_abs {e : EH} (m : Int × Int) (hn : e.data.length = e.n) : chk e m = achk e.abs m := by
 unfold chk achk
 rw [show e.abs.2.2.2.length = e.n from hn]
 rfl
theorem app_abs : ∀ (xs : List EH) (m : Int × Int), (∀ e ∈ xs, e.data.length = e.n) → app m xs = aapp m (xs.map EH.abs)
 | [], m, _ => rfl
 | x :: r, m, h => by
  rw [List.map_cons, app, aapp, chk_abs m (h x (by simp)), app_abs r _ fun e he => h e (List.mem_cons_of_mem _ he)]
  rfl
theorem seq_abs {L : LG} (k : LOk L) {es : List EH} (h : es.map EH.abs = L.es) : Seq L.bi es := by
 have hl : es.length = L.es.length := by rw [← h]; simp
 refine ⟨fun j e he => ?_, k.lo, by rw [hl]; exact k.top⟩
 have := k.idx j e.abs (by rw [← h]; simp [he])
 exact this
theorem spot_abs {L : LG} {es : List EH} (h : es.map EH.abs = L.es) {i : Int} {e : Abs} (hs : L.spot i = some e) : ∃ (k : Nat) (y : EH), i - L.bi - 1 = k ∧ es[k]? = some y ∧ y.abs = e := by
 obtain ⟨h1, h2, h3⟩ := LG.spot_some hs
 rw [← h, List.getElem?_map] at h3
 cases hy : es[(i - L.bi - 1).toNat]? with
 | none => rw [hy] at h3; cases h3
 | some y =>
  rw [hy] at h3
  exact ⟨_, y, by omega, hy, by simpa using h3⟩
def LA (h : Heap) (p o : Nat) (L : LG) : Prop := ∃ es a cap, LedAt h p o L.bi L.bt es a cap ∧ es.map EH.abs = L.es
theorem New_c (h : Heap) (o : Nat) (ho : o ≠ 0) (i t : Int) :
  ACalls PR 77 #[I i, I t] h (fun v h' => (okBase i t = true ∧ ∃ p, v = .tuple #[.pointer (some ⟨p, 0, none⟩), I 0] ∧ LA h' p o (lnew i t) ∧ Sub h h') ∨ (okBase i t = false ∧ v = .tuple #[.pointer none, I 2] ∧ Sub h h')) := by
 refine (New_any h o ho i t).mono fun v h' q => ?_
 rcases q with ⟨a, p, b, c, d⟩ | ⟨a, b, c⟩
 ·exact .inl ⟨a, p, b, ⟨[], none, 0, c, rfl⟩, d⟩
 ·exact .inr ⟨a, b, c⟩
theorem Append_c {h : Heap} {p o : Nat} (ho : o ≠ 0) {L : LG} (l : LA h p o L) (k : LOk L) {t td : Tag} (ht : t.1 ≠ o) (htd : td.1 ≠ o) {xa : Option Addr} {m xc : Nat} {xs : List EH} (X : Ents h t td xa m xc xs)
  (hroom : (L.es.length + m) * 48 ≤ 140737488355328) :
  ACalls PR 78 #[.pointer (some ⟨p, 0, none⟩), .slice xa m xc] h (fun v h' => v = I (L.append (xs.map EH.abs)).1 ∧ LA h' p o (L.append (xs.map EH.abs)).2 ∧ Keep o h h') := by
 obtain ⟨es, a, cap, A, hes⟩ := l
 have hl : es.length = L.es.length := by rw [← hes]; simp
 have hap : app (lastM L.bi L.bt es) xs = aapp L.last (xs.map EH.abs) := by rw [lastM_abs L hes]; exact app_abs xs _ fun e he => (X.good e he).len
 refine (Append_any ho A (seq_abs k hes) ht htd X (by rw [hl]; exact hroom)).mono fun v h' q => ?_
 rw [hap] at q
 unfold LG.append
 rcases q with ⟨q1, q2, q3⟩ | ⟨q1, q2, es', a', cap', q3, q4, q5⟩
 ·rw [if_neg q1]; exact ⟨q2, ⟨es, a, cap, A.sub q3, hes⟩, q3.keep o⟩
 ·rw [if_pos q1]; exact ⟨q2, ⟨es', a', cap', q3, by rw [q4, List.map_append, hes]⟩, q5⟩
theorem Cut_c {h : Heap} {p o : Nat} {L : LG} (l : LA h p o L) (k : LOk L) (i : Int) :
  ACalls PR 181 #[.pointer (some ⟨p, 0, none⟩), I i] h (fun v h' => v = I (L.cut i).1 ∧ LA h' p o (L.cut i).2 ∧ Keep o h h') := by
 obtain ⟨es, a, cap, A, hes⟩ := l
 have hl : es.length = L.es.length := by rw [← hes]; simp
 by_cases c : L.bi < i ∧ i ≤ L.bi + L.es.length + 1
 ·have hr : L.reach i = true := by rw [LG.reach, decide_eq_true c]
  refine (Cut_ok A (seq_abs k hes) i (i - L.bi - 1).toNat (by omega) (by omega)).mono fun v h' q => ?_
  unfold LG.cut; rw [if_pos hr]
  obtain ⟨q1, q2, q3⟩ := q
  exact ⟨q1, ⟨_, a, cap, q2, by rw [List.map_take, hes]⟩, q3⟩
 ·have hr : ¬ L.reach i = true := by rw [LG.reach]; simp; omega
  refine (Cut_no A (seq_abs k hes) i (by rw [hl]; exact c)).mono fun v h' q => ?_
  obtain ⟨q1, rfl⟩ := q
  unfold LG.cut; rw [if_neg hr]
  exact ⟨q1, ⟨es, a, cap, A, hes⟩, Keep.refl _ _⟩
theorem Compact_c {h : Heap} {p o : Nat} (ho : o ≠ 0) {L : LG} (l : LA h p o L) (k : LOk L) (i : Int) (hroom : L.es.length * 48 ≤ 140737488355328) :
  ACalls PR 69 #[.pointer (some ⟨p, 0, none⟩), I i] h (fun v h' => v = I (L.compact i).1 ∧ LA h' p o (L.compact i).2 ∧ Keep o h h') := by
 obtain ⟨es, a, cap, A, hes⟩ := l
 have hl : es.length = L.es.length := by rw [← hes]; simp
 cases hs : L.spot i with
 | none =>
  refine (Compact_no A (seq_abs k hes) i (by rw [hl]; exact LG.spot_none hs)).mono fun v h' q => ?_
  obtain ⟨q1, rfl⟩ := q
  unfold LG.compact; rw [hs]
  exact ⟨q1, ⟨es, a, cap, A, hes⟩, Keep.refl _ _⟩
 | some e =>
  obtain ⟨j, y, hj, hy, hab⟩ := spot_abs hes hs
  refine (Compact_ok ho A (seq_abs k hes) i j y hj hy (by rw [hl]; exact hroom)).mono fun v h' q => ?_
  obtain ⟨q1, a', cap', q2, q3⟩ := q
  unfold LG.compact; rw [hs, ← hab]
  refine ⟨q1, ⟨_, a', cap', q2, ?_⟩, q3⟩
  simp only [hj, Int.toNat_natCast]
  rw [List.map_drop, hes]
theorem term_abs {L : LG} {es : List EH} (h : es.map EH.abs = L.es) (i : Int) : termR L.bi L.bt es i = L.term i := by
 unfold termR LG.term LG.spot
 by_cases c : i = L.bi
 ·rw [if_pos c, if_pos c]
 ·rw [if_neg c, if_neg c, ← h, List.getElem?_map]
  by_cases c1 : L.bi < i
  ·rw [if_pos c1]
   cases es[(i - L.bi - 1).toNat]? with
   | none => rfl
   | some e => simp only [Option.map_some]; rw [if_pos c1]; rfl
  ·rw [if_neg c1]
   cases es[(i - L.bi - 1).toNat]? with
   | none => rfl
   | some e => simp only []; rw [if_neg c1]
theorem Term_c {h : Heap} {p o : Nat} {L : LG} (l : LA h p o L) (k : LOk L) (i : Int) :
  ACalls PR 68 #[.pointer (some ⟨p, 0, none⟩), I i] h (fun v h' => v = .tuple #[I (L.term i).1, I (L.term i).2] ∧ h = h') := by
 obtain ⟨es, a, cap, A, hes⟩ := l
 have := Term_any A (seq_abs k hes) i
 rw [term_abs hes] at this
 exact this
theorem Has_c {h : Heap} {p o : Nat} {L : LG} (l : LA h p o L) (k : LOk L) (i t : Int) :
  ACalls PR 122 #[.pointer (some ⟨p, 0, none⟩), I i, I t] h (fun v h' => v = .bool (decide ((L.term i).2 = 0 ∧ (L.term i).1 = t)) ∧ h = h') := by
 obtain ⟨es, a, cap, A, hes⟩ := l
 have := Has_any A (seq_abs k hes) i t
 rw [term_abs hes] at this
 exact this
theorem First_c {h : Heap} {p o : Nat} {L : LG} (l : LA h p o L) (k : LOk L) :
  ACalls PR 142 #[.pointer (some ⟨p, 0, none⟩)] h (fun v h' => v = I (L.bi + 1) ∧ h = h') := by
 obtain ⟨es, a, cap, A, hes⟩ := l
 exact First_any A k.lo (by have := k.top; omega)
theorem Last_c {h : Heap} {p o : Nat} {L : LG} (l : LA h p o L) (k : LOk L) :
  ACalls PR 51 #[.pointer (some ⟨p, 0, none⟩)] h (fun v h' => v = .tuple #[I L.last.1, I L.last.2] ∧ h = h') := by
 obtain ⟨es, a, cap, A, hes⟩ := l
 have hl : es.length = L.es.length := by rw [← hes]; simp
 have := Last_any A (by have := k.top; have := k.lo; omega)
 rw [lastM_abs L hes] at this
 exact this
theorem Get_c {h : Heap} {p o : Nat} {L : LG} (l : LA h p o L) (k : LOk L) (tg : Tag) (ht : tg ≠ (0, 1)) (i : Int) :
  ACalls PR 71 #[.pointer (some ⟨p, 0, none⟩), I i] h (fun v h' => ∃ e : EH, v = .tuple #[.agg e.cells.toArray, I (L.get i).2] ∧ e.Mine h' tg ∧ e.abs = (L.get i).1 ∧ e.n ≤ 1200 ∧ Sub h h') := by
 obtain ⟨es, a, cap, A, hes⟩ := l
 have hl : es.length = L.es.length := by rw [← hes]; simp
 cases hs : L.spot i with
 | none =>
  refine (Get_none A (seq_abs k hes) i (by rw [hl]; exact LG.spot_none hs)).mono fun v h' q => ?_
  obtain ⟨q1, rfl⟩ := q
  unfold LG.get; rw [hs]
  exact ⟨⟨0, 0, 0, none, 0, 0, []⟩, q1, .inl ⟨rfl, rfl, rfl⟩, rfl, by simp, Sub.refl _⟩
 | some e =>
  obtain ⟨j, y, hj, hy, hab⟩ := spot_abs hes hs
  have sm := A.small y (List.mem_of_getElem? hy)
  refine (Get_some A (seq_abs k hes) tg ht i j y hj hy).mono fun v h' q => ?_
  obtain ⟨a', c', q1, q2, q3⟩ := q
  unfold LG.get; rw [hs, ← hab]
  exact ⟨⟨y.term, y.index, y.kind, a', y.n, c', y.data⟩, q1, q2, rfl, sm, q3⟩
theorem Slice_c {h : Heap} {p o : Nat} {L : LG} (l : LA h p o L) (k : LOk L) (tg td : Tag) (ht : tg ≠ (0, 1)) (hd : td ≠ (0, 1)) (hto : tg.1 ≠ o) (htd : td ≠ tg) (i most : Int) (hroom : L.es.length * 48 ≤ 140737488355328) :
  ACalls PR 168 #[.pointer (some ⟨p, 0, none⟩), I i, I most] h (fun v h' => ∃ a n c zs, v = .tuple #[.slice a n c, I (L.slice i most).2] ∧ Ents h' tg td a n c zs ∧ zs.map EH.abs = (L.slice i most).1 ∧ (∀ z ∈ zs, z.n ≤ 1200) ∧ KeepT tg h h' ∧ Own h' tg 59 a n c 4 (encs zs) ∧ ∀ z ∈ zs, z.Mine h' td) := by
 obtain ⟨es, a, cap, A, hes⟩ := l
 have hl : es.length = L.es.length := by rw [← hes]; simp
 have nil : ∀ h' : Heap, Ents h' tg td none 0 0 [] := fun h' => ⟨Sl.nil .., by simp, by simp⟩
 by_cases c : L.bi < i ∧ i ≤ L.bi + L.es.length + 1
 ·have hr : L.reach i = true := by rw [LG.reach, decide_eq_true c]
  by_cases c1 : most < 0
  ·refine (Slice_neg A (seq_abs k hes) i most (by rw [hl]; exact c) c1).mono fun v h' q => ?_
   obtain ⟨q1, rfl⟩ := q
   unfold LG.slice; rw [if_neg (by rw [hr]; decide), if_pos c1]
   exact ⟨none, 0, 0, [], q1, nil _, rfl, by simp, KeepT.refl _ _, .inl ⟨rfl, rfl, rfl⟩, by simp⟩
  ·refine (Slice_ok A (seq_abs k hes) tg td ht hd hto htd i most (i - L.bi - 1).toNat (by omega) (by omega) (by omega) (by rw [hl]; exact hroom)).mono fun v h' q => ?_
   obtain ⟨a', n', c', zs, q1, q2, q3, q4, q5, q6, q7⟩ := q
   unfold LG.slice; rw [if_neg (by rw [hr]; decide), if_neg c1]
   exact ⟨a', n', c', zs, q1, q2, by rw [q3, List.map_take, List.map_drop, hes], q4, q5, q6, q7⟩
 ·have hr : L.reach i = false := by rw [LG.reach]; simp; omega
  refine (Slice_no A (seq_abs k hes) i most (by rw [hl]; exact c)).mono fun v h' q => ?_
  obtain ⟨q1, rfl⟩ := q
  unfold LG.slice; rw [if_pos hr]
  exact ⟨none, 0, 0, [], q1, nil _, rfl, by simp, KeepT.refl _ _, .inl ⟨rfl, rfl, rfl⟩, by simp⟩
end Go.Ah
namespace Go.Ah
open Go.Proofs
set_option linter.unusedVariables false
set_option linter.unusedSimpArgs false
set_option maxRecDepth 20000
theorem spot_some_of {L : LG} {i : Int} (h1 : L.bi < i) (h2 : i ≤ L.bi + L.es.length) : ∃ e, L.spot i = some e := by
 unfold LG.spot
 rw [if_pos h1]
 exact ⟨_, List.getElem?_eq_getElem (by omega)⟩
end Go.Ah
namespace Go.Ah
set_option linter.unusedVariables false
set_option linter.unusedSimpArgs false
set_option maxRecDepth 20000
def m5 (c : Int) : Nat := ((c / 2) % 32).toNat
def bt (k j : Nat) : Bool := decide (k / 2 ^ j % 2 = 1)
def pop (k : Nat) : Nat := (bt k 0).toNat + (bt k 1).toNat + (bt k 2).toNat + (bt k 3).toNat + (bt k 4).toNat
def lsTo (k : Nat) : Nat → List Int
  | 0 => []
  | j + 1 => if bt k j = true then lsTo k j ++ [(j : Int) + 1] else lsTo k j
def ls (k : Nat) : List Int := lsTo k 5
theorem m5_lt (c : Int) : m5 c < 32 := by unfold m5; omega
theorem wrap_cases (r : Int) : IntKind.i64.wrap r = r % 18446744073709551616 ∨ IntKind.i64.wrap r = r % 18446744073709551616 - 18446744073709551616 := by
 show (if (true && decide (r % 18446744073709551616 ≥ 9223372036854775808)) = true then r % 18446744073709551616 - 18446744073709551616 else r % 18446744073709551616) = _ ∨ (if (true && decide (r % 18446744073709551616 ≥ 9223372036854775808)) = true then r % 18446744073709551616 - 18446744073709551616 else r % 18446744073709551616) = _
 split
 ·exact .inr rfl
 ·exact .inl rfl
theorem m5_wrap (r : Int) : m5 (IntKind.i64.wrap r) = m5 r := by
 unfold m5
 rcases wrap_cases r with e | e <;> rw [e] <;> omega
theorem toNat_of (c : Int) : (BitVec.ofInt 64 c).toNat = (c % 18446744073709551616).toNat := by rw [BitVec.toNat_ofInt]; rfl
theorem m5_toNat (c : Int) : m5 ((BitVec.ofInt 64 c).toNat : Int) = m5 c := by
 rw [toNat_of]; unfold m5; omega
theorem m5_nat (x : Nat) : m5 (x : Int) = x / 2 % 2 ^ 5 := by unfold m5; omega
theorem half_and (x y : Nat) : (x &&& y) / 2 % 2 ^ 5 = (x / 2 % 2 ^ 5) &&& (y / 2 % 2 ^ 5) := by
 apply Nat.eq_of_testBit_eq; intro i
 simp only [Nat.testBit_mod_two_pow, Nat.testBit_and, Nat.testBit_div_two]
 cases decide (i < 5) <;> simp
theorem half_xor (x y : Nat) : (x ^^^ y) / 2 % 2 ^ 5 = (x / 2 % 2 ^ 5) ^^^ (y / 2 % 2 ^ 5) := by
 apply Nat.eq_of_testBit_eq; intro i
 simp only [Nat.testBit_mod_two_pow, Nat.testBit_xor, Nat.testBit_div_two]
 cases decide (i < 5) <;> simp
theorem m5_and (a b : Int) : m5 (IntKind.i64.wrap ((BitVec.ofInt 64 a &&& BitVec.ofInt 64 b).toNat : Int)) = m5 a &&& m5 b := by
 rw [m5_wrap, m5_nat, BitVec.toNat_and, half_and, ← m5_nat, ← m5_nat, m5_toNat, m5_toNat]
theorem m5_xor (a b : Int) : m5 (IntKind.i64.wrap ((BitVec.ofInt 64 a ^^^ BitVec.ofInt 64 b).toNat : Int)) = m5 a ^^^ m5 b := by
 rw [m5_wrap, m5_nat, BitVec.toNat_xor, half_xor, ← m5_nat, ← m5_nat, m5_toNat, m5_toNat]
theorem nat_and62 (N : Nat) : N &&& 62 = 2 * (N / 2 % 32) := by
 have h1 : N &&& 62 = (N % 64) &&& 62 := by
  have := Nat.and_two_pow_sub_one_eq_mod N 6
  rw [show (64 : Nat) = 2 ^ 6 from rfl, ← this, Nat.and_assoc]
  rfl
 have h2 : ∀ x, x < 64 → x &&& 62 = 2 * (x / 2 % 32) := by decide
 rw [h1, h2 _ (Nat.mod_lt _ (by omega))]
 omega
theorem nat_and1 (N : Nat) : N &&& 1 = N % 2 := Nat.and_two_pow_sub_one_eq_mod N 1
theorem wrap_small {x : Nat} (h : x ≤ 9223372036854775807) : IntKind.i64.wrap (x : Int) = x := i64_wrap (by omega) (by omega)
theorem and62 (c : Int) : IntKind.i64.wrap ((BitVec.ofInt 64 c &&& BitVec.ofInt 64 62).toNat : Int) = ((2 * m5 c : Nat) : Int) := by
 have e : (BitVec.ofInt 64 62).toNat = 62 := by decide
 rw [BitVec.toNat_and, e, nat_and62, wrap_small (by omega), toNat_of]
 unfold m5
 omega
theorem and1 (c : Int) : IntKind.i64.wrap ((BitVec.ofInt 64 c &&& BitVec.ofInt 64 1).toNat : Int) = c % 2 := by
 have e : (BitVec.ofInt 64 1).toNat = 1 := by decide
 rw [BitVec.toNat_and, e, nat_and1, wrap_small (by omega), toNat_of]
 omega
theorem wrap_zero {x : Nat} (h : x < 18446744073709551616) : IntKind.i64.wrap (x : Int) = 0 ↔ x = 0 := by
 constructor
 ·intro z; rcases wrap_cases (x : Int) with e | e <;> omega
 ·rintro rfl; rfl
theorem andnot62 {c : Int} (h : -9223372036854775808 ≤ c) (h' : c ≤ 9223372036854775807) :
  IntKind.i64.wrap ((BitVec.ofInt 64 c &&& ~~~(BitVec.ofInt 64 62)).toNat : Int) = 0 ↔ c = ((2 * m5 c : Nat) : Int) := by
 rw [wrap_zero (BitVec.isLt _)]
 have e : (BitVec.ofInt 64 62).toNat = 62 := by decide
 have k1 : (BitVec.ofInt 64 c &&& ~~~(BitVec.ofInt 64 62)).toNat = 0 ↔ BitVec.ofInt 64 c &&& BitVec.ofInt 64 62 = BitVec.ofInt 64 c := by
  generalize BitVec.ofInt 64 c = x
  generalize BitVec.ofInt 64 62 = y
  constructor
  ·intro hz
   have hz' : x &&& ~~~y = 0#64 := BitVec.eq_of_toNat_eq (by simpa using hz)
   apply BitVec.eq_of_getLsbD_eq
   intro i hi
   have := congrArg (fun b => b.getLsbD i) hz'
   simp [hi] at this ⊢
   exact this
  ·intro hz
   have : x &&& ~~~y = 0#64 := by
    apply BitVec.eq_of_getLsbD_eq
    intro i hi
    have := congrArg (fun b => b.getLsbD i) hz
    simp [hi] at this ⊢
    exact this
   rw [this]; rfl
 rw [k1]
 constructor
 ·intro hz
  have := congrArg BitVec.toNat hz
  rw [BitVec.toNat_and, e, nat_and62, toNat_of] at this
  unfold m5
  omega
 ·intro hz
  apply BitVec.eq_of_toNat_eq
  rw [BitVec.toNat_and, e, nat_and62, toNat_of]
  have := m5_lt c
  unfold m5 at hz this
  omega
theorem fdiv_pow (c : Int) (j : Nat) (h : j < 64) : c.fdiv (2 ^ (min ((j : Int)).toNat 64)) = c / 2 ^ j := by
 rw [Int.toNat_natCast, Nat.min_eq_left (show j ≤ 64 by omega)]
 exact Int.fdiv_eq_ediv_of_nonneg _ (Int.le_of_lt (Int.pow_pos (by decide)))
def hasB (c n : Int) : Bool := decide (1 ≤ n ∧ n ≤ 5) && bt (m5 c) (n - 1).toNat
theorem hasB_pow (c : Int) (j : Nat) (h : j < 5) : decide (c / 2 ^ (j + 1) % 2 = 1) = bt (m5 c) j := by
 have : j = 0 ∨ j = 1 ∨ j = 2 ∨ j = 3 ∨ j = 4 := by omega
 unfold bt m5
 rcases this with rfl | rfl | rfl | rfl | rfl <;> (congr 1; apply propext; omega)
theorem hasB_in (c : Int) (j : Nat) (h : j < 5) : hasB c ((j : Int) + 1) = bt (m5 c) j := by
 unfold hasB
 rw [decide_eq_true (by omega), Bool.true_and]
 congr 1
 omega
theorem hasB_out (c n : Int) (h : ¬(1 ≤ n ∧ n ≤ 5)) : hasB c n = false := by unfold hasB; rw [decide_eq_false h]; rfl
def mk (l : List Int) : Nat := l.foldl (fun k n => k ||| 2 ^ (n - 1).toNat) 0
def ok1 (n : Int) : Bool := decide (1 ≤ n ∧ n ≤ 5)
theorem ok1_pos {n : Int} (h : ok1 n = true) : ∃ j : Nat, j < 5 ∧ n = (j : Int) + 1 := by
 have := of_decide_eq_true h
 exact ⟨(n - 1).toNat, by omega, by omega⟩
theorem ls_ok : ∀ k, k < 32 → (ls k).all ok1 = true := by decide +kernel
theorem ls_len : ∀ k, k < 32 → (ls k).length = pop k := by decide +kernel
theorem lsTo_len (k : Nat) : ∀ j, (lsTo k j).length ≤ j
 | 0 => Nat.le_refl _
 | j + 1 => by
  unfold lsTo
  have := lsTo_len k j
  split
  ·simp; omega
  ·omega
theorem pop_le (k : Nat) : pop k ≤ 5 := by
 unfold pop
 have : ∀ b : Bool, b.toNat ≤ 1 := by decide
 have h0 := this (bt k 0); have h1 := this (bt k 1); have h2 := this (bt k 2); have h3 := this (bt k 3); have h4 := this (bt k 4)
 omega
end Go.Ah
namespace Go.Ah
open Go.Proofs
set_option linter.unusedVariables false
set_option linter.unusedSimpArgs false
set_option maxRecDepth 20000
theorem CHas_any (h : Heap) (c n : Int) : ACalls PR 118 #[I c, I n] h (fun v h' => v = .bool (hasB c n) ∧ h = h') := by
 refine acalls_pure (acalls_of mix Tryz.func118 rfl rfl Tryz.ntmps118 Tryz.results118 rfl ?_); conv=>whnf
 refine ACmp.split (fun h1 => ?_) (fun h1 => ?_)
 ·conv=>whnf
  refine ACmp.split (fun h2 => ?_) (fun h2 => ?_)
  ·conv=>whnf
   obtain ⟨j, hj, rfl⟩ : ∃ j : Nat, j < 5 ∧ n = (j : Int) + 1 := ⟨(n - 1).toNat, by omega, by omega⟩
   refine ⟨by omega, ?_⟩
   conv=>whnf
   refine AInt.as ((fdiv_pow c (j + 1) (by omega))) ?_; conv=>whnf
   refine AInt.as (and1 _) ?_; conv=>whnf
   refine ACmp.dec ?_
   conv=>whnf
   refine ⟨?_, Sub.refl _⟩
   rw [hasB_in c j hj, ← hasB_pow c j hj]
  ·conv=>whnf
   exact ⟨by rw [hasB_out c n (by omega)], Sub.refl _⟩
 ·conv=>whnf
  exact ⟨by rw [hasB_out c n (by omega)], Sub.refl _⟩
end Go.Ah
namespace Go.Ah
open Go.Proofs
set_option linter.unusedVariables false
set_option linter.unusedSimpArgs false
set_option maxRecDepth 20000
theorem AArith.as {kd : IntKind} {r r' : Int} {K : Int → Prop} (e : kd.wrap r = r') (k : K r') : AArith kd r K := ⟨by rw [e]; exact k⟩
theorem AInt.raw {r : Int} {K : Int → Prop} (k : K r) : AInt r K := ⟨k⟩
theorem u64_wrap {r : Int} (h : 0 ≤ r) (h' : r < 18446744073709551616) : IntKind.u64.wrap r = r := by
 show (if (false && decide (r % 18446744073709551616 ≥ 9223372036854775808)) = true then r % 18446744073709551616 - 18446744073709551616 else r % 18446744073709551616) = r
 rw [Bool.false_and, if_neg (by simp)]; omega
theorem List_own (h : Heap) (c : Int) (o : Nat) (hn : NoOwner o h) : ACalls PR 55 #[I c] h (fun v h' => ∃ a cp, v = .slice a (ls (m5 c)).length cp ∧ Own h' (o, 0) 3 a (ls (m5 c)).length cp 1 ((ls (m5 c)).map I) ∧ Sub h h') := by
 refine acalls_of mix Tryz.func55 rfl rfl Tryz.ntmps55 Tryz.results55 rfl ?_; conv=>whnf
 refine ALoop.mk (fun e h' => ∃ e0, ∃ k : Nat, ∃ a cp, e = updL 19 e0 [(0, I c), (3, .slice a (lsTo (m5 c) k).length cp), (5, I k)] ∧ k ≤ 5 ∧ Own h' (o, 0) 3 a (lsTo (m5 c) k).length cp 1 ((lsTo (m5 c) k).map I) ∧ Keep o h h')
  (fun e => 5 - natOf (e 5)) ⟨_, 0, none, 0, updL_self ⟨rfl, rfl, rfl, trivial⟩, by omega, .inl ⟨rfl, rfl, rfl⟩, Keep.refl _ _⟩ ?_
 rintro e h2 ⟨e0, k, a, cp, rfl, hk, hown, hkeep⟩
 conv=>whnf
 by_cases hk5 : k < 5
 ·refine ACmp.yes (by omega) ?_; conv=>whnf
  refine AArith.ok (by omega) (by omega) (rfl) ?_; conv=>whnf
  refine ACalls.mono (CHas_any h2 c _) ?_
  rw [hasB_in c k hk5]
  rintro _ _ ⟨rfl, rfl⟩
  have hln := lsTo_len (m5 c) k
  cases hb : bt (m5 c) k
  ·conv=>whnf
   have e1 : lsTo (m5 c) (k + 1) = lsTo (m5 c) k := by rw [lsTo, hb]; rfl
   refine AArith.ok (by omega) (by omega) ((by omega : (k : Int) + 1 = ((k + 1 : Nat) : Int))) ?_; conv=>whnf
   refine ⟨⟨_, k + 1, a, cp, updL_self ⟨rfl, by rw [e1]; rfl, rfl, trivial⟩, by omega, by rw [e1]; exact hown, hkeep⟩, ?_⟩
   show 5 - (k + 1) < 5 - k
   omega
  ·conv=>whnf
   have e1 : lsTo (m5 c) (k + 1) = lsTo (m5 c) k ++ [(k : Int) + 1] := by rw [lsTo, hb]; rfl
   refine AArith.ok (by omega) (by omega) (rfl) ?_; conv=>whnf
   refine ABuildSl.mk (0, 1) rfl rfl rfl rfl rfl rfl rfl fun b3 f3 => ?_; conv=>whnf
   have s3 := f3.sub (row (0, 1) [I ((k : Int) + 1)] 3)
   refine AAppend.own (t := (o, 0)) (E := 3) (z := 1) (by_ := 8) (zero := [I 0]) (tx := (0, 1)) (xs := [I ((k : Int) + 1)]) rfl ⟨_, rfl⟩ rfl rfl rfl rfl (by omega) (hown.move fun _ _ z => s3 _ _ z)
    ⟨rfl, Nat.le_refl _, .inr ⟨b3, 0, _, _, _, rfl, Heap.set_same _ _ _, rfl⟩⟩ rfl (by omega) (by omega) fun a5 cap5 h5 hown5 hk5 _ => ?_
   conv=>whnf
   refine AArith.ok (by omega) (by omega) ((by omega : (k : Int) + 1 = ((k + 1 : Nat) : Int))) ?_; conv=>whnf
   have e2 : (lsTo (m5 c) (k + 1)).length = (lsTo (m5 c) k).length + 1 := by rw [e1, List.length_append]; rfl
   refine ⟨⟨_, k + 1, a5, cap5, updL_self ⟨rfl, by rw [e2]; rfl, rfl, trivial⟩, by omega, ?_, hkeep.trans ((s3.keep o).trans hk5.keep)⟩, ?_⟩
   ·rw [e2, e1, List.map_append]; exact hown5
   show 5 - (k + 1) < 5 - k
   omega
 ·refine ACmp.no (by omega) ?_; conv=>whnf
  obtain rfl : k = 5 := by omega
  exact ⟨a, cp, rfl, hown, hkeep.toSub hn⟩
theorem ones_any (h : Heap) (k : Nat) (hk : k < 32) : ACalls PR 196 #[.int .u64 ((2 * k : Nat) : Int)] h (fun v h' => v = I (pop k) ∧ h = h') := by
 refine acalls_pure (acalls_of mix Tryz.func196 rfl rfl Tryz.ntmps196 Tryz.results196 rfl ?_); conv=>whnf
 repeat ((first | refine AInt.raw ?_ | refine AArith.raw ?_ | refine ⟨by decide, ?_⟩); conv=>whnf)
 refine ⟨congrArg (Value.int .i64) ?_, Sub.refl _⟩
 revert k
 decide +kernel
theorem Count_any (h : Heap) (c : Int) : ACalls PR 166 #[I c] h (fun v h' => v = I (pop (m5 c)) ∧ h = h') := by
 refine acalls_pure (acalls_of mix Tryz.func166 rfl rfl Tryz.ntmps166 Tryz.results166 rfl ?_); conv=>whnf
 refine AInt.as (and62 c) ?_; conv=>whnf
 have := m5_lt c
 refine AArith.as (u64_wrap (by omega) (by omega)) ?_; conv=>whnf
 have c38 : ACalls PR 191 #[.int .u64 ((2 * m5 c : Nat) : Int)] h (fun v h' => v = I (pop (m5 c)) ∧ h = h') := by
  refine acalls_pure (acalls_of mix Tryz.func191 rfl rfl Tryz.ntmps191 Tryz.results191 rfl ?_); conv=>whnf
  refine ACalls.mono (ones_any h (m5 c) (m5_lt c)) ?_; rintro _ _ ⟨rfl, rfl⟩; conv=>whnf
  exact ⟨rfl, Sub.refl _⟩
 refine ACalls.mono (c38) ?_; rintro _ _ ⟨rfl, rfl⟩; conv=>whnf
 exact ⟨rfl, Sub.refl _⟩
end Go.Ah
namespace Go.Ah
open Go.Proofs
set_option linter.unusedVariables false
set_option linter.unusedSimpArgs false
set_option maxRecDepth 20000
def cchk (c : Int) : Int := if m5 c ≠ 0 ∧ c = ((2 * m5 c : Nat) : Int) then 0 else 180
theorem Check_any (h : Heap) (c : Int) (hc : -9223372036854775808 ≤ c) (hc' : c ≤ 9223372036854775807) : ACalls PR 75 #[I c] h (fun v h' => v = I (cchk c) ∧ h = h') := by
 refine acalls_pure (acalls_of mix Tryz.func75 rfl rfl Tryz.ntmps75 Tryz.results75 rfl ?_); conv=>whnf
 refine AInt.as (and62 c) ?_; conv=>whnf
 refine ACmp.split (fun h1 => ?_) (fun h1 => ?_)
 ·conv=>whnf
  exact ⟨by rw [cchk, if_neg (by omega)], Sub.refl _⟩
 ·conv=>whnf
  refine AInt.raw ?_; conv=>whnf
  refine ACmp.split (fun h2 => ?_) (fun h2 => ?_)
  ·conv=>whnf
   refine ⟨?_, Sub.refl _⟩
   rw [cchk, if_neg]
   rintro ⟨_, e⟩
   exact h2 ((andnot62 hc hc').2 e)
  ·conv=>whnf
   refine ⟨?_, Sub.refl _⟩
   rw [cchk, if_pos ⟨by omega, (andnot62 hc hc').1 (Classical.not_not.1 h2)⟩]
def smTo (l : List Int) : Nat → Nat
  | 0 => 0
  | j + 1 => if ((j : Int) + 1) ∈ l then smTo l j + 2 ^ j else smTo l j
def sm (l : List Int) : Nat := smTo l 5
theorem Most_any (h : Heap) (a b : Int) : ACalls PR 127 #[I a, I b] h (fun v h' => v = .bool (decide (pop (m5 a) < 2 * pop (m5 a &&& m5 b))) ∧ h = h') := by
 refine acalls_pure (acalls_of mix Tryz.func127 rfl rfl Tryz.ntmps127 Tryz.results127 rfl ?_); conv=>whnf
 refine AInt.as (r' := IntKind.i64.wrap ((BitVec.ofInt 64 a &&& BitVec.ofInt 64 b).toNat : Int)) rfl ?_; conv=>whnf
 refine ACalls.mono (Count_any h _) ?_
 rw [m5_and]
 rintro _ _ ⟨rfl, rfl⟩
 conv=>whnf
 have h1 := pop_le (m5 a &&& m5 b)
 have h2 := pop_le (m5 a)
 refine AArith.ok (by omega) (by omega) rfl ?_; conv=>whnf
 refine ACalls.mono (Count_any h _) ?_; rintro _ _ ⟨rfl, rfl⟩; conv=>whnf
 refine ACmp.dec ?_
 conv=>whnf
 refine ⟨?_, Sub.refl _⟩
 refine congrArg Value.bool ?_
 rw [decide_eq_decide]; omega
def chg (a b : Int) : Int := if cchk a = 0 ∧ cchk b = 0 ∧ pop (m5 a ^^^ m5 b) = 1 then 0 else 180
theorem Change_any (h : Heap) (a b : Int) (ha : -9223372036854775808 ≤ a) (ha' : a ≤ 9223372036854775807) (hb : -9223372036854775808 ≤ b) (hb' : b ≤ 9223372036854775807) : ACalls PR 116 #[I a, I b] h (fun v h' => v = I (chg a b) ∧ h = h') := by
 refine acalls_pure (acalls_of mix Tryz.func116 rfl rfl Tryz.ntmps116 Tryz.results116 rfl ?_); conv=>whnf
 refine ACalls.mono (Check_any h a ha ha') ?_; rintro _ _ ⟨rfl, rfl⟩; conv=>whnf
 refine ACmp.split (fun h1 => ?_) (fun h1 => ?_)
 ·conv=>whnf
  exact ⟨by rw [chg, if_neg (fun c => h1 c.1)], Sub.refl _⟩
 ·conv=>whnf
  refine ACalls.mono (Check_any h b hb hb') ?_; rintro _ _ ⟨rfl, rfl⟩; conv=>whnf
  refine ACmp.split (fun h2 => ?_) (fun h2 => ?_)
  ·conv=>whnf
   exact ⟨by rw [chg, if_neg (fun c => h2 c.2.1)], Sub.refl _⟩
  ·conv=>whnf
   refine AInt.as (r' := IntKind.i64.wrap ((BitVec.ofInt 64 a ^^^ BitVec.ofInt 64 b).toNat : Int)) rfl ?_; conv=>whnf
   refine ACalls.mono (Count_any h _) ?_
   rw [m5_xor]
   rintro _ _ ⟨rfl, rfl⟩
   conv=>whnf
   refine ACmp.split (fun h3 => ?_) (fun h3 => ?_)
   ·conv=>whnf
    exact ⟨by rw [chg, if_neg (fun c => h3 (by rw [c.2.2]; rfl))], Sub.refl _⟩
   ·conv=>whnf
    exact ⟨by rw [chg, if_pos ⟨Classical.not_not.1 h1, Classical.not_not.1 h2, by have := Classical.not_not.1 h3; omega⟩], Sub.refl _⟩
end Go.Ah
namespace Go.Ah
set_option linter.unusedVariables false
set_option linter.unusedSimpArgs false
set_option maxRecDepth 20000
def cnt (v : Int) (l : List Int) : Nat := l.countP (fun x => decide (v ≤ x))
abbrev gd (l : List Int) (p : Nat) : Int := l.getD p 0
theorem gd_get {l : List Int} {p : Nat} (h : p < l.length) : gd l p = l[p] := by simp [gd, h]
def sw (l : List Int) (j : Nat) : List Int := (l.set (j + 1) (gd l j)).set j (gd l (j + 1))
theorem sw_len (l : List Int) (j : Nat) : (sw l j).length = l.length := by simp [sw]
theorem sw_get (l : List Int) (j p : Nat) (h : j + 1 < l.length) : gd (sw l j) p = if p = j then gd l (j + 1) else if p = j + 1 then gd l j else gd l p := by
 unfold sw gd
 simp only [List.getD_eq_getElem?_getD, List.getElem?_set, List.length_set]
 by_cases e1 : j = p
 ·subst e1
  rw [if_pos rfl, if_pos (by omega), if_pos rfl]; rfl
 ·rw [if_neg e1, if_neg (Ne.symm e1)]
  by_cases e2 : j + 1 = p
  ·subst e2
   rw [if_pos rfl, if_pos (by omega), if_pos rfl]; rfl
  ·rw [if_neg e2, if_neg (Ne.symm e2)]
theorem sw_mem {l : List Int} {j : Nat} (h : j + 1 < l.length) {x : Int} (hx : x ∈ sw l j) : x ∈ l := by
 unfold sw at hx
 rcases List.mem_or_eq_of_mem_set hx with hx | hx
 ·rcases List.mem_or_eq_of_mem_set hx with hx | hx
  ·exact hx
  ·rw [hx, gd_get (by omega)]; exact List.getElem_mem _
 ·rw [hx, gd_get (by omega)]; exact List.getElem_mem _
theorem countP_pos_get {p : Int → Bool} {l : List Int} {i : Nat} (h : i < l.length) (hp : p l[i] = true) : 0 < l.countP p :=
 List.countP_pos_iff.2 ⟨_, List.getElem_mem h, hp⟩
theorem sw_cnt (v : Int) (l : List Int) (j : Nat) (h : j + 1 < l.length) : cnt v (sw l j) = cnt v l := by
 unfold cnt sw
 have h1 : j < (l.set (j + 1) (gd l j)).length := by simp; omega
 rw [List.countP_set h1, List.countP_set h]
 have e1 : (l.set (j + 1) (gd l j))[j] = l[j] := by simp
 rw [e1, gd_get (show j < l.length by omega), gd_get h]
 have p1 := @countP_pos_get (fun x => decide (v ≤ x)) l (j + 1) h
 have p2 := @countP_pos_get (fun x => decide (v ≤ x)) l j (by omega)
 have q1 : v ≤ l[j + 1] → 0 < l.countP (fun x => decide (v ≤ x)) := fun y => p1 (decide_eq_true y)
 have q2 : v ≤ l[j] → 0 < l.countP (fun x => decide (v ≤ x)) := fun y => p2 (decide_eq_true y)
 clear p1 p2
 generalize l.countP (fun x => decide (v ≤ x)) = C at q1 q2 ⊢
 by_cases a : v ≤ l[j] <;> by_cases b : v ≤ l[j + 1] <;> simp only [a, b, decide_true, decide_false, if_true, if_false, Bool.false_eq_true, true_implies, false_implies] at q1 q2 ⊢ <;> omega
def SortedTo (l : List Int) (i : Nat) : Prop := ∀ p q, p < q → q < i → gd l p ≤ gd l q
def Ins (l : List Int) (i j : Nat) : Prop := ∀ p q, p < q → q ≤ i → q ≠ j → gd l p ≤ gd l q
theorem SortedTo.ins {l : List Int} {i : Nat} (s : SortedTo l i) : Ins l i i := fun p q h1 h2 h3 => s p q h1 (by omega)
theorem Ins.zero {l : List Int} {i : Nat} (s : Ins l i 0) : SortedTo l (i + 1) := fun p q h1 h2 => s p q h1 (by omega) (by omega)
theorem Ins.stop {l : List Int} {i j : Nat} (s : Ins l i (j + 1)) (h : j + 1 ≤ i) (k : ¬ gd l (j + 1) < gd l j) : SortedTo l (i + 1) := fun p q h1 h2 => by
 by_cases e : q = j + 1
 ·subst e
  by_cases e2 : p = j
  ·subst e2; omega
  ·have := s p j (by omega) (by omega) (by omega); omega
 ·exact s p q h1 (by omega) e
theorem Ins.step {l : List Int} {i j : Nat} (s : Ins l i (j + 1)) (hi : i < l.length) (h : j + 1 ≤ i) (k : gd l (j + 1) < gd l j) : Ins (sw l j) i j := fun p q h1 h2 h3 => by
 rw [sw_get l j p (by omega), sw_get l j q (by omega), if_neg h3]
 by_cases e1 : q = j + 1
 ·rw [if_pos e1]
  by_cases e2 : p = j
  ·rw [if_pos e2]; omega
  ·rw [if_neg e2, if_neg (by omega)]; exact s p j (by omega) (by omega) (by omega)
 ·rw [if_neg e1]
  by_cases e2 : p = j
  ·rw [if_pos e2]; exact s (j + 1) q (by omega) h2 e1
  ·rw [if_neg e2]
   by_cases e3 : p = j + 1
   ·rw [if_pos e3]; exact s j q (by omega) h2 e1
   ·rw [if_neg e3]; exact s p q h1 h2 e1
def RankOf (xs : List Int) (r : Int) : Prop :=
  (xs = [] ∧ r = 0) ∨ (xs ≠ [] ∧ ∃ s, r = (if 0 > s then 0 else s) ∧ s ∈ xs ∧ ∀ v, v ≤ s ↔ xs.length < 2 * cnt v xs)
theorem sorted_rank {l : List Int} (h0 : l ≠ []) (s : SortedTo l l.length) : ∀ v, v ≤ gd l ((l.length - 1) / 2) ↔ l.length < 2 * cnt v l := by
 intro v
 have hn : 0 < l.length := List.length_pos_iff.2 h0
 generalize hk : (l.length - 1) / 2 = k
 have hkn : k < l.length := by omega
 constructor
 ·intro hv
  have h1 : cnt v l = (l.take k).countP (fun x => decide (v ≤ x)) + (l.drop k).countP (fun x => decide (v ≤ x)) := by
   unfold cnt; rw [← List.countP_append, List.take_append_drop]
  have h2 : (l.drop k).countP (fun x => decide (v ≤ x)) = (l.drop k).length := by
   rw [List.countP_eq_length]
   intro x hx
   obtain ⟨i, hi, rfl⟩ := List.mem_iff_getElem.1 hx
   rw [List.length_drop] at hi
   rw [List.getElem_drop, ← gd_get (show k + i < l.length by omega)]
   refine decide_eq_true ?_
   by_cases e : i = 0
   ·subst e; exact hv
   ·have := s k (k + i) (by omega) (by omega); omega
  rw [List.length_drop] at h2
  omega
 ·intro hc
  refine Classical.byContradiction fun hv => ?_
  have h1 : cnt v l = (l.take (k + 1)).countP (fun x => decide (v ≤ x)) + (l.drop (k + 1)).countP (fun x => decide (v ≤ x)) := by
   unfold cnt; rw [← List.countP_append, List.take_append_drop]
  have h2 : (l.take (k + 1)).countP (fun x => decide (v ≤ x)) = 0 := by
   rw [List.countP_eq_zero]
   intro x hx
   obtain ⟨i, hi, rfl⟩ := List.mem_iff_getElem.1 hx
   rw [List.length_take] at hi
   rw [List.getElem_take, ← gd_get (show i < l.length by omega)]
   intro c
   have c := of_decide_eq_true c
   by_cases e : i = k
   ·subst e; exact hv c
   ·have := s i k (by omega) (by omega); omega
  have h3 := List.countP_le_length (p := fun x => decide (v ≤ x)) (l := l.drop (k + 1))
  rw [List.length_drop] at h3
  omega
theorem rank_of_sorted {xs ys : List Int} (hl : ys.length = xs.length) (hm : ∀ x ∈ ys, x ∈ xs) (hc : ∀ v, cnt v ys = cnt v xs) (s : SortedTo ys ys.length) (h0 : xs ≠ []) :
  RankOf xs (if 0 > gd ys ((ys.length - 1) / 2) then 0 else gd ys ((ys.length - 1) / 2)) := by
 have hn : 0 < xs.length := List.length_pos_iff.2 h0
 refine .inr ⟨h0, _, rfl, hm _ ?_, fun v => ?_⟩
 ·rw [gd_get (by omega)]; exact List.getElem_mem _
 ·rw [sorted_rank (by intro c; rw [c] at hl; simp at hl; omega) s v, hl, hc]
end Go.Ah
namespace Go.Ah
open Go.Proofs
set_option linter.unusedVariables false
set_option linter.unusedSimpArgs false
set_option maxRecDepth 20000
theorem Sub.nil (h : Heap) : Sub nilHeap h := fun _ _ e => by simp [nilHeap] at e
theorem Less_any (h : Heap) (x y : Int) : ACalls PR 203 #[I x, I y] h (fun v h' => v = .bool (decide (x < y)) ∧ h = h') := by
 have nan : ∀ z : Int, ACalls PR 178 #[I z] h (fun v h' => v = .bool false ∧ h = h') := by
  intro z
  refine acalls_pure (acalls_of mix Tryz.func178 rfl rfl Tryz.ntmps178 Tryz.results178 rfl ?_); conv=>whnf
  refine ACmp.no (by simp) ?_; conv=>whnf
  exact ⟨rfl, Sub.refl _⟩
 refine acalls_pure (acalls_of mix Tryz.func203 rfl rfl Tryz.ntmps203 Tryz.results203 rfl ?_); conv=>whnf
 refine ACalls.mono (nan x) ?_; rintro _ _ ⟨rfl, rfl⟩; conv=>whnf
 refine ACmp.dec ?_
 conv=>whnf
 exact ⟨rfl, Sub.refl _⟩
theorem cell_at {L : List Value} {n j : Nat} {ys : List Int} (hL : L.take n = ys.map I) (hy : ys.length = n) (hj : j < n) : L[0 + j * 1]? = some (I (gd ys j)) := by
 have : (L.take n)[j]? = some (I (gd ys j)) := by rw [hL, gd_get (by omega)]; simp [show j < ys.length by omega]
 rw [List.getElem?_take, if_pos hj] at this
 rw [show 0 + j * 1 = j by omega]; exact this
theorem sw_cells {L : List Value} {n j : Nat} {ys : List Int} (hL : L.take n = ys.map I) (hy : ys.length = n) (hj : j + 1 < n) :
  ((L.set (0 + (j + 1) * 1) (I (gd ys j))).set (0 + j * 1) (I (gd ys (j + 1)))).take n = (sw ys j).map I := by
 rw [show 0 + (j + 1) * 1 = j + 1 by omega, show 0 + j * 1 = j by omega]
 unfold sw
 rw [List.map_set, List.map_set, ← hL, List.take_set, List.take_set]
set_option maxHeartbeats 1000000 in
theorem isort_any (h : Heap) {tg : Tag} {b n cp : Nat} {L : List Value} {xs : List Int} (hb : h b = some (row tg L 3)) (hL : L.take n = xs.map I) (hx : xs.length = n) (hcp : cp ≤ L.length) (hn : n ≤ 12) (hn0 : 0 < n) (hnc : n ≤ cp) :
  ACalls PR 197 #[.slice (some ⟨b, 0, none⟩) n cp, I 0, I n] h (fun v h' => v = .tuple #[] ∧ ∃ L' ys, h.set b (row tg L' 3) = h' ∧ cp ≤ L'.length ∧ L'.take n = ys.map I ∧ ys.length = n ∧ (∀ x ∈ ys, x ∈ xs) ∧ (∀ v, cnt v ys = cnt v xs) ∧ SortedTo ys n) := by
 refine ACalls.drop (R := fun v h' => v = .tuple #[] ∧ ∃ L' ys, Sub (h.set b (row tg L' 3)) h' ∧ cp ≤ L'.length ∧ L'.take n = ys.map I ∧ ys.length = n ∧ (∀ x ∈ ys, x ∈ xs) ∧ (∀ v, cnt v ys = cnt v xs) ∧ SortedTo ys n) ?_ ?_
 ·refine acalls_of mix Tryz.func197 rfl rfl Tryz.ntmps197 Tryz.results197 rfl ?_; conv=>whnf
  refine AArith.ok (by omega) (by omega) (rfl) ?_; conv=>whnf
  refine ALoop.mk (fun e h' => ∃ e0, ∃ i : Nat, ∃ L' ys, e = updL 49 e0 [(0, .slice (some ⟨b, 0, none⟩) n cp), (1, I 0), (2, I n), (6, I i)] ∧ 1 ≤ i ∧ i ≤ n ∧ Sub (h.set b (row tg L' 3)) h' ∧ cp ≤ L'.length ∧ L'.take n = ys.map I ∧ ys.length = n ∧ (∀ x ∈ ys, x ∈ xs) ∧ (∀ v, cnt v ys = cnt v xs) ∧ SortedTo ys i)
   (fun e => n - natOf (e 6)) ⟨_, 1, L, xs, updL_self ⟨rfl, rfl, rfl, rfl, trivial⟩, by omega, by omega, by rw [Heap.set_self hb]; exact Sub.refl _, hcp, hL, hx, fun _ m => m, fun _ => rfl, fun p q h1 h2 => by omega⟩ ?_
  rintro e h2 ⟨e0, i, L2, ys, rfl, hi1, hin, sb, hc2, hL2, hy2, hm2, hcn2, hso⟩
  conv=>whnf
  by_cases hii : i < n
  ·refine ACmp.yes (by omega) ?_; conv=>whnf
   refine ALoop.mk (fun e h' => ∃ e1, ∃ j : Nat, ∃ L' ys, e = updL 49 e1 [(0, .slice (some ⟨b, 0, none⟩) n cp), (1, I 0), (2, I n), (6, I i), (7, I j)] ∧ j ≤ i ∧ Sub (h.set b (row tg L' 3)) h' ∧ cp ≤ L'.length ∧ L'.take n = ys.map I ∧ ys.length = n ∧ (∀ x ∈ ys, x ∈ xs) ∧ (∀ v, cnt v ys = cnt v xs) ∧ Ins ys i j)
    (fun e => natOf (e 7)) ⟨_, i, L2, ys, updL_self ⟨rfl, rfl, rfl, rfl, rfl, trivial⟩, by omega, sb, hc2, hL2, hy2, hm2, hcn2, hso.ins⟩ ?_
   clear hso hcn2 hm2 hy2 hL2 hc2 sb ys L2
   rintro e h3 ⟨e1, j, L3, ys, rfl, hji, sb, hc3, hL3, hy3, hm3, hcn3, hin3⟩
   have hb3 := sb _ _ (Heap.set_same _ _ _)
   conv=>whnf
   by_cases hj0 : 0 < j
   ·refine ADrawn.mk (h3) [] (Sub.refl _) (by decide +kernel) ?_; conv=>whnf
    refine ACmp.yes (by omega) ?_; conv=>whnf
    obtain ⟨j, rfl⟩ : ∃ q, j = q + 1 := ⟨j - 1, by omega⟩
    refine AIdx.nat (z := 1) (j := j + 1) rfl (by omega) rfl rfl ?_; conv=>whnf
    refine ALoad.one rfl hb3 (cell_at hL3 hy3 (by omega)) ?_; conv=>whnf
    refine AArith.ok (by omega) (by omega) (rfl) ?_; conv=>whnf
    refine AIdx.nat (z := 1) (j := j) (by omega) (by omega) rfl rfl ?_; conv=>whnf
    refine ALoad.one rfl hb3 (cell_at hL3 hy3 (by omega)) ?_; conv=>whnf
    refine ACalls.mono (Less_any h3 _ _) ?_
    rintro _ _ ⟨rfl, rfl⟩
    refine ⟨Sub.refl _, ?_⟩
    cases hlt : decide (gd ys (j + 1) < gd ys j) with
    | true =>
     conv=>whnf
     have hlt := of_decide_eq_true hlt
     refine ADrawn.mk (h3) [15] (Sub.refl _) (by decide +kernel) ?_; conv=>whnf
     refine AArith.ok (by omega) (by omega) (rfl) ?_; conv=>whnf
     refine AArith.ok (by omega) (by omega) (rfl) ?_; conv=>whnf
     refine AIdx.nat (z := 1) (j := j) (by omega) (by omega) rfl rfl ?_; conv=>whnf
     refine ALoad.one rfl hb3 (cell_at hL3 hy3 (by omega)) ?_; conv=>whnf
     refine AIdx.nat (z := 1) (j := j + 1) rfl (by omega) rfl rfl ?_; conv=>whnf
     refine ALoad.one rfl hb3 (cell_at hL3 hy3 (by omega)) ?_; conv=>whnf
     refine AIdx.nat (z := 1) (j := j + 1) rfl (by omega) rfl rfl ?_; conv=>whnf
     refine AStore.one rfl rfl rfl hb3 (by omega) ?_; conv=>whnf
     refine AIdx.nat (z := 1) (j := j) (by omega) (by omega) rfl rfl ?_; conv=>whnf
     refine AStore.one rfl rfl rfl (Heap.set_same _ _ _) (by simp; omega) ?_
     refine ⟨Sub.nil _, ?_⟩
     rw [Heap.set_set]
     conv=>whnf
     refine AArith.ok (by omega) (by omega) ((by omega : ((j + 1 : Nat) : Int) - 1 = (j : Int))) ?_; conv=>whnf
     refine ⟨⟨_, j, _, sw ys j, updL_self ⟨rfl, rfl, rfl, rfl, rfl, trivial⟩, by omega, ?_, ?_, sw_cells hL3 hy3 (by omega), by rw [sw_len, hy3], fun x hx => hm3 x (sw_mem (by omega) hx), fun v => by rw [sw_cnt v ys j (by omega), hcn3], hin3.step (by omega) (by omega) hlt⟩, ?_⟩
     ·intro c x hcx
      by_cases e : c = b
      ·subst e; rw [Heap.set_same] at hcx ⊢; exact hcx
      ·simp only [Heap.set, e, if_false] at hcx ⊢
       exact sb _ _ (by simp only [Heap.set, e, if_false]; exact hcx)
     ·simp [hc3]
     ·show j < j + 1
      omega
    | false =>
     conv=>whnf
     have hfin := hin3.stop (by omega) (of_decide_eq_false hlt)
     refine AArith.ok (by omega) (by omega) ((by omega : (i : Int) + 1 = ((i + 1 : Nat) : Int))) ?_; conv=>whnf
     refine ⟨⟨_, i + 1, L3, ys, updL_self ⟨rfl, rfl, rfl, rfl, trivial⟩, by omega, by omega, sb, hc3, hL3, hy3, hm3, hcn3, hfin⟩, ?_⟩
     show n - (i + 1) < n - i
     omega
   ·refine ADrawn.mk (h3) [] (Sub.refl _) (by decide +kernel) ?_; conv=>whnf
    refine ACmp.no (by omega) ?_; conv=>whnf
    obtain rfl : j = 0 := by omega
    have hfin := hin3.zero
    refine AArith.ok (by omega) (by omega) ((by omega : (i : Int) + 1 = ((i + 1 : Nat) : Int))) ?_; conv=>whnf
    refine ⟨⟨_, i + 1, L3, ys, updL_self ⟨rfl, rfl, rfl, rfl, trivial⟩, by omega, by omega, sb, hc3, hL3, hy3, hm3, hcn3, hfin⟩, ?_⟩
    show n - (i + 1) < n - i
    omega
  ·refine ACmp.no (by omega) ?_; conv=>whnf
   obtain rfl : i = n := by omega
   exact ⟨rfl, L2, ys, sb, hc2, hL2, hy2, hm2, hcn2, hso⟩
 ·rintro v h' ⟨hv, L', ys, s, r⟩
  exact ⟨_, s, hv, L', ys, rfl, r⟩
theorem Len_any (h : Heap) (n : Nat) (h0 : 0 < n) (hn : n ≤ 5) : ACalls PR 193 #[.int .u64 n] h (fun v h' => ∃ r, v = I r ∧ h = h') := by
 have c : ACalls PR 207 #[.int .u64 n] h (fun v h' => ∃ r, v = I r ∧ h = h') := by
  refine ACalls.drop (R := fun v h' => ∃ r, v = I r ∧ Sub h h') ?_ fun v h' ⟨r, e, s⟩ => ⟨h, s, r, e, rfl⟩
  have : n = 1 ∨ n = 2 ∨ n = 3 ∨ n = 4 ∨ n = 5 := by omega
  rcases this with rfl | rfl | rfl | rfl | rfl
  all_goals (refine acalls_of mix Tryz.func207 rfl rfl Tryz.ntmps207 Tryz.results207 rfl ?_; conv=>whnf)
  all_goals (refine ACmp.no (by omega) ?_; conv=>whnf)
  all_goals (refine ACmp.no (by omega) ?_; conv=>whnf)
  all_goals (refine ACmp.no (by omega) ?_; conv=>whnf)
  all_goals (refine AArith.as (by rfl) ?_; conv=>whnf)
  all_goals (first
   |refine AStrIdx.at (j := 1) rfl (by decide) rfl ?_
   |refine AStrIdx.at (j := 2) rfl (by decide) rfl ?_
   |refine AStrIdx.at (j := 3) rfl (by decide) rfl ?_
   |refine AStrIdx.at (j := 4) rfl (by decide) rfl ?_
   |refine AStrIdx.at (j := 5) rfl (by decide) rfl ?_)
  all_goals conv=>whnf
  all_goals (refine AArith.raw ?_; conv=>whnf)
  all_goals exact ⟨_, rfl, Sub.refl _⟩
 refine ACalls.drop (R := fun v h' => ∃ r, v = I r ∧ Sub h h') ?_ fun v h' ⟨r, e, s⟩ => ⟨h, s, r, e, rfl⟩
 refine acalls_of mix Tryz.func193 rfl rfl Tryz.ntmps193 Tryz.results193 rfl ?_; conv=>whnf
 refine ACalls.mono (c) ?_; rintro _ _ ⟨r, rfl, rfl⟩; conv=>whnf
 exact ⟨r, rfl, Sub.refl _⟩
end Go.Ah
namespace Go.Ah
open Go.Proofs
set_option linter.unusedVariables false
set_option linter.unusedSimpArgs false
set_option maxRecDepth 20000
theorem Sort_any (h : Heap) {tg : Tag} {b n cp : Nat} {L : List Value} {xs : List Int} (hb : h b = some (row tg L 3)) (hL : L.take n = xs.map I) (hx : xs.length = n) (hcp : cp ≤ L.length) (hn : n ≤ 5) (hn0 : 0 < n) (hnc : n ≤ cp) :
  ACalls PR 169 #[.slice (some ⟨b, 0, none⟩) n cp] h (fun v h' => v = .tuple #[] ∧ ∃ L' ys, h.set b (row tg L' 3) = h' ∧ cp ≤ L'.length ∧ L'.take n = ys.map I ∧ ys.length = n ∧ (∀ x ∈ ys, x ∈ xs) ∧ (∀ v, cnt v ys = cnt v xs) ∧ SortedTo ys n) := by
 refine acalls_of mix Tryz.func169 rfl rfl Tryz.ntmps169 Tryz.results169 rfl ?_; conv=>whnf
 refine AArith.as (u64_wrap (by omega) (by omega)) ?_; conv=>whnf
 refine ACalls.mono (Len_any h n hn0 hn) ?_; rintro _ _ ⟨r, rfl, rfl⟩; conv=>whnf
 have c42 : ACalls PR 192 #[.slice (some ⟨b, 0, none⟩) n cp, I 0, I n, I r] h (fun v h' => v = .tuple #[] ∧ ∃ L' ys, h.set b (row tg L' 3) = h' ∧ cp ≤ L'.length ∧ L'.take n = ys.map I ∧ ys.length = n ∧ (∀ x ∈ ys, x ∈ xs) ∧ (∀ v, cnt v ys = cnt v xs) ∧ SortedTo ys n) := by
  refine acalls_of mix Tryz.func192 rfl rfl Tryz.ntmps192 Tryz.results192 rfl ?_; conv=>whnf
  refine ALoop.mk (fun e h' => h = h' ∧ ∃ e0, e = updL 134 e0 [(0, .slice (some ⟨b, 0, none⟩) n cp), (1, I 0), (2, I n), (3, I r)]) (fun _ => 0) ⟨rfl, _, updL_self ⟨rfl, rfl, rfl, rfl, trivial⟩⟩ ?_
  rintro e _ ⟨rfl, e0, rfl⟩
  conv=>whnf
  refine AArith.ok (by omega) (by omega) (rfl) ?_; conv=>whnf
  refine ACmp.yes (by omega) ?_; conv=>whnf
  refine ACalls.mono (isort_any h hb hL hx hcp (by omega) hn0 hnc) ?_; rintro _ _ ⟨rfl, p⟩; conv=>whnf
  exact ⟨rfl, p⟩
 refine ACalls.mono (c42) ?_; rintro _ _ ⟨rfl, p⟩; conv=>whnf
 exact ⟨rfl, p⟩
def six (a0 a1 a2 a3 a4 a5 : Int) (n : Int) : Int := gd [a0, a1, a2, a3, a4, a5] n.toNat
theorem six_cell (a0 a1 a2 a3 a4 a5 : Int) (j : Nat) (h : j < 5) : ([I a0, I a1, I a2, I a3, I a4, I a5] : List Value)[0 + (j + 1) * 1]? = some (I (six a0 a1 a2 a3 a4 a5 ((j : Int) + 1))) := by
 have : j = 0 ∨ j = 1 ∨ j = 2 ∨ j = 3 ∨ j = 4 := by omega
 rcases this with rfl | rfl | rfl | rfl | rfl <;> rfl
theorem ls_get {k i : Nat} (hk : k < 32) (hi : i < (ls k).length) : ∃ j : Nat, j < 5 ∧ (ls k)[i] = (j : Int) + 1 :=
 ok1_pos (List.all_eq_true.1 (ls_ok k hk) _ (List.getElem_mem hi))
theorem NoOwner.set {o : Nat} {h : Heap} (n : NoOwner o h) (b : Nat) {t : Tag} (x : Obj) (ht : t.1 ≠ o) : NoOwner o (h.set b (t, x)) := fun c u y e => by
 unfold Heap.set at e
 by_cases hc : c = b
 ·rw [if_pos hc] at e; cases e; exact ht
 ·rw [if_neg hc] at e; exact n _ _ _ e
set_option maxHeartbeats 1000000 in
theorem Rank_any (h : Heap) (c a0 a1 a2 a3 a4 a5 : Int) :
  ACalls PR 121 #[I c, .agg #[I a0, I a1, I a2, I a3, I a4, I a5]] h (fun v h' => (∃ r, v = I r ∧ RankOf ((ls (m5 c)).map (six a0 a1 a2 a3 a4 a5)) r) ∧ h = h') := by
 refine ACalls.owner ⟨_, Tryz.func121, rfl, rfl⟩ fun o ho hbd => ?_
 refine acalls_pure ?_
 refine acalls_of mix Tryz.func121 rfl rfl Tryz.ntmps121 Tryz.results121 rfl ?_; conv=>whnf
 refine ABox.mk (0, 1) rfl fun b1 f1 => ?_; conv=>whnf
 have s1 := f1.sub (row (0, 1) [I a0, I a1, I a2, I a3, I a4, I a5] 39)
 have k1 := Heap.set_same h b1 (row (0, 1) [I a0, I a1, I a2, I a3, I a4, I a5] 39)
 refine ACalls.mono (List_own _ c o ((hbd.no (Nat.le_refl _)).set _ _ (by simp; omega))) ?_; rintro _ h2 ⟨al, cl, rfl, slo, s2⟩; conv=>whnf
 have sl := slo.sl
 have hnl5 : (ls (m5 c)).length ≤ 5 := by rw [ls_len _ (m5_lt c)]; exact pop_le _
 have hm := m5_lt c
 generalize hM : m5 c = M at *
 clear hM
 generalize hnl : (ls M).length = nl at *
 refine ALoop.mk (fun e h' => ∃ e0, ∃ k : Nat, ∃ a cp, e = updL 35 e0 [(3, .pointer (some ⟨b1, 0, none⟩)), (5, .slice a k cp), (9, .slice al nl cl), (10, I nl), (11, I k)] ∧ k ≤ nl ∧
   Own h' (o + 1, 0) 3 a k cp 1 ((((ls M).take k).map (six a0 a1 a2 a3 a4 a5)).map I) ∧ Keep (o + 1) h2 h')
  (fun e => nl - natOf (e 11)) ⟨_, 0, none, 0, updL_self ⟨rfl, rfl, rfl, rfl, rfl, trivial⟩, by omega, .inl ⟨rfl, rfl, rfl⟩, Keep.refl _ _⟩ ?_
 rintro e h3 ⟨e0, k, a, cp, rfl, hk, hown, hkeep⟩
 conv=>whnf
 by_cases hkn : k < nl
 ·refine ACmp.yes (by omega) ?_; conv=>whnf
  have sl3 := sl.keep hkeep (by simp)
  have kb3 := hkeep.get (by simp) (s2 _ _ k1)
  obtain ⟨b, off, L, E, fz, rfl, hb, hc⟩ := sl3.pos (by omega)
  obtain ⟨j, hj, hjv⟩ := ls_get hm (show k < (ls M).length by omega)
  have g1 : L[off + k * 1]? = some (I ((j : Int) + 1)) := by rw [get_of_take hc (by omega)]; simp [show k < (ls M).length by omega, hjv]
  refine AIdx.nat (z := 1) (j := k) rfl hkn rfl rfl ?_; conv=>whnf
  refine ALoad.one rfl hb g1 ?_; conv=>whnf
  refine AIdxA.nat (n := 6) (z := 1) (j := j + 1) (by omega) (by omega) rfl rfl ?_; conv=>whnf
  refine ALoad.one rfl kb3 (six_cell a0 a1 a2 a3 a4 a5 j hj) ?_; conv=>whnf
  refine ABuildSl.mk (0, 1) rfl rfl rfl rfl rfl rfl rfl fun b4 f4 => ?_; conv=>whnf
  have s4 := f4.sub (row (0, 1) [I (six a0 a1 a2 a3 a4 a5 ((j : Int) + 1))] 3)
  refine AAppend.own (t := (o + 1, 0)) (E := 3) (z := 1) (by_ := 8) (zero := [I 0]) (tx := (0, 1)) (xs := [I (six a0 a1 a2 a3 a4 a5 ((j : Int) + 1))]) rfl ⟨_, rfl⟩ rfl rfl rfl rfl (by omega) (hown.move fun _ _ z => s4 _ _ z)
   ⟨rfl, Nat.le_refl _, .inr ⟨b4, 0, _, _, _, rfl, Heap.set_same _ _ _, rfl⟩⟩ rfl (by omega) (by omega) fun a5' cap5 h5 hown5 hk5 _ => ?_
  conv=>whnf
  refine AArith.ok (by omega) (by omega) ((by omega : (k : Int) + 1 = ((k + 1 : Nat) : Int))) ?_; conv=>whnf
  refine ⟨⟨_, k + 1, a5', cap5, updL_self ⟨rfl, rfl, rfl, rfl, rfl, trivial⟩, by omega, ?_, hkeep.trans ((s4.keep (o + 1)).trans hk5.keep)⟩, ?_⟩
  ·rw [List.take_succ_eq_append_getElem (by omega), List.map_append, List.map_append, hjv]; exact hown5
  show nl - (k + 1) < nl - k
  omega
 ·refine ACmp.no (by omega) ?_; conv=>whnf
  obtain rfl : k = nl := by omega
  rw [List.take_of_length_le (by omega)] at hown
  by_cases h0 : k = 0
  ·refine ACmp.yes (by omega) ?_; conv=>whnf
   refine ⟨⟨0, rfl, .inl ⟨?_, rfl⟩⟩, Keep.toSub (o := o + 1) ?_ (hbd.no (by omega))⟩
   ·have : ls M = [] := List.eq_nil_of_length_eq_zero (by omega)
    rw [this]; rfl
   ·exact (s1.keep _).trans ((s2.keep _).trans hkeep)
  ·refine ACmp.no (by omega) ?_; conv=>whnf
   rcases hown with ⟨e, _⟩ | ⟨b, L, rfl, hb, hLl, hncp, hL⟩
   ·exact absurd e h0
   rw [Nat.mul_one] at hL hLl
   have hxl : ((ls M).map (six a0 a1 a2 a3 a4 a5)).length = k := by rw [List.length_map]; exact hnl
   refine ACalls.mono (Sort_any h3 hb hL hxl hLl (by omega) (by omega) hncp) ?_; rintro _ _ ⟨rfl, L', ys, rfl, hL'l, hL', hyl, hmem, hcnt, hso⟩; conv=>whnf
   refine AArith.ok (by omega) (by omega) (rfl) ?_; conv=>whnf
   refine ⟨by decide, ?_⟩
   conv=>whnf
   refine AArith.ok (r' := (((k - 1) / 2 : Nat) : Int)) (by rw [Int.tdiv_eq_ediv_of_nonneg (by omega)]; omega) (by rw [Int.tdiv_eq_ediv_of_nonneg (by omega)]; omega) (by rw [Int.tdiv_eq_ediv_of_nonneg (by omega)]; omega) ?_; conv=>whnf
   refine AIdx.nat (z := 1) (j := (k - 1) / 2) rfl (by omega) rfl rfl ?_; conv=>whnf
   refine ALoad.one rfl (Heap.set_same _ _ _) (cell_at hL' hyl (by omega)) ?_; conv=>whnf
   refine AInt.raw ?_; conv=>whnf
   refine ⟨⟨_, rfl, ?_⟩, Keep.toSub (o := o + 1) ?_ (hbd.no (by omega))⟩
   ·have := rank_of_sorted (xs := (ls M).map (six a0 a1 a2 a3 a4 a5)) (ys := ys) (by rw [hyl, hxl]) hmem hcnt (by rw [hyl]; exact hso) (by intro e; rw [e] at hxl; simp at hxl; omega)
    rw [hyl] at this
    exact this
   ·exact (s1.keep _).trans ((s2.keep _).trans (hkeep.trans (KeepT.set hb).keep))
end Go.Ah
