/- Maps and strings: what a map has, how an entry is set and taken out. No program in sight. -/
import Derived.Test.YtmlgbkighdiniaaEng5
import Derived.MapKept
import Derived.Laws.Strings
import Derived.Laws.Cover1
namespace Go.Ah
open Go.MapKept
set_option linter.unusedVariables false
set_option linter.unusedSimpArgs false

/-- A map: its entries in the order in which they came. -/
structure MapAt (h : Heap) (r : Nat) (tg : Tag) (d : TypeDesc) (es : List MapEntry) (clock : Nat) : Prop where
  at_ : h r = some (tg, .map es.toArray clock)
  keys : ∀ x ∈ es, IsKey d x.key
  st : Stamped es.toArray clock

theorem MapAt.nodup {h : Heap} {r : Nat} {tg : Tag} {d : TypeDesc} {es : List MapEntry} {clock : Nat} (m : MapAt h r tg d es clock) : (es.map (·.key)).Nodup := by
  have := m.st.2.2; simpa using this
theorem MapAt.move {h h' : Heap} {r : Nat} {tg : Tag} {d : TypeDesc} {es : List MapEntry} {clock : Nat} (m : MapAt h r tg d es clock) (k : ∀ x, h r = some (tg, x) → h' r = some (tg, x)) : MapAt h' r tg d es clock :=
  ⟨k _ m.at_, m.keys, m.st⟩
theorem MapAt.empty {h : Heap} {r : Nat} {tg : Tag} {d : TypeDesc} (e : h r = some (tg, .map #[] 0)) : MapAt h r tg d [] 0 := ⟨e, by simp, stamped_empty 0⟩

/-- An entry's key and value. -/
abbrev kv (e : MapEntry) : Value × Value := (e.key, e.val)

section
variable {P : Program}

theorem rwp_underlying {t : TypeId} {d : TypeDesc} (hu : P.underlying t = some d) {K : TypeDesc → Prop} {h : Heap} (k : K d) : rwp P (underlying t) h K := by
  unfold underlying
  simp only [program, bind, Sem.bind, rwp, hu, pure]
  exact k
theorem rwp_getObj {r : Nat} {tg : Tag} {es : Array MapEntry} {clock : Nat} {h : Heap} {K : Obj → Prop} (hr : h r = some (tg, .map es clock)) (k : K (.map es clock)) : rwp P (getObj r) h K :=
  ⟨tg, _, hr, rfl, k⟩
theorem rwp_checkKey {kt : TypeId} {d : TypeDesc} {k : Value} (hd : P.underlying kt = some d) (hk : IsKey d k) (e : Bool) (n : Nat) {h : Heap} {K : Unit → Prop} (c : K ()) : rwp P (Instr.checkKey e (n + 1) kt k) h K := by
  unfold Instr.checkKey
  refine rwp_bind _ _ (rwp_underlying hd ?_)
  cases d <;> cases k <;> first | exact c | exact hk.elim
theorem rwp_findKey {kt : TypeId} {d : TypeDesc} {k : Value} {l : List MapEntry} {a : Option (Nat × Value)} (hd : P.underlying kt = some d) (hf : Instr.findNow d k l 0 = some a) {h : Heap} {K : Option (Nat × Value) → Prop} (c : K a) :
    rwp P (Instr.findKey kt k l) h K := by
  unfold Instr.findKey
  refine rwp_bind _ _ (rwp_underlying hd ?_)
  rw [hf]; exact c
theorem rwp_zeroValue {t : TypeId} {i : TypeInfo} {z : Value} (hi : P.info? t = some i) (hz : i.zero = some z) {h : Heap} {K : Value → Prop} (c : K z) : rwp P (zeroValue t) h K := by
  unfold zeroValue typeInfo
  simp only [program, bind, Sem.bind, rwp, hi, hz, pure]
  exact c
theorem rwp_awp {α : Type} (s : Sem α) : ∀ {h : Heap} {K : α → Heap → Prop}, rwp P s h (fun a => K a h) → awp P s h K := by
  induction s with
  | pure a => intro h K k; exact k
  | load m a k ih => intro h K ⟨v, hv, q⟩; exact ⟨v, hv, ih v q⟩
  | shape r k ih => intro h K ⟨t, c, e, fz, hv, q⟩; exact ⟨t, c, e, fz, hv, ih _ q⟩
  | frozen a k ih => intro h K ⟨t, c, e, lo, hi, hv, q⟩; exact ⟨t, c, e, lo, hi, hv, ih _ q⟩
  | getObj r k ih => intro h K ⟨t, o, hv, hc, q⟩; exact ⟨t, o, hv, hc, ih _ q⟩
  | program k ih => intro h K q; exact ih _ q
  | mark m k ih => intro h K q; exact ih q
  | store m a v k ih => intro h K k; exact k.elim
  | new o k ih => intro h K k; exact k.elim
  | freeze a n k ih => intro h K k; exact k.elim
  | setObj r o k ih => intro h K k; exact k.elim
  | choose q k ih => intro h K k; exact k.elim
  | sys c k ih => intro h K k; exact k.elim
  | halt x => intro h K k; exact k.elim

def zeroV (P : Program) (t : TypeId) : Option Value := (P.info? t).bind (·.zero)
theorem zeroV_info {t : TypeId} {z : Value} (h : zeroV P t = some z) : ∃ i, P.info? t = some i ∧ i.zero = some z := by
  unfold zeroV at h
  cases hi : P.info? t with
  | none => rw [hi] at h; cases h
  | some i => rw [hi] at h; exact ⟨i, rfl, h⟩

theorem nodup_idx {es : List MapEntry} (hn : (es.map (·.key)).Nodup) {i j : Nat} {e e' : MapEntry} (hi : es[i]? = some e) (hj : es[j]? = some e') (h : e.key = e'.key) : i = j := by
  obtain ⟨hi, hie⟩ := List.getElem?_eq_some_iff.1 hi
  obtain ⟨hj, hje⟩ := List.getElem?_eq_some_iff.1 hj
  have hp := List.pairwise_iff_getElem.1 (List.nodup_iff_pairwise_ne.1 hn)
  have e1 : (es.map (·.key))[i]'(by simpa using hi) = (es.map (·.key))[j]'(by simpa using hj) := by simp [hie, hje, h]
  rcases Nat.lt_trichotomy i j with hlt | rfl | hgt
  · exact absurd e1 (hp i j _ _ hlt)
  · rfl
  · exact absurd e1.symm (hp j i _ _ hgt)

/-- The key is there. -/
theorem ALookup.hit {t kt et : TypeId} {d : TypeDesc} {h : Heap} {r clock : Nat} {tg : Tag} {es : List MapEntry} {k : Value} {ok : Bool} {K : Value → Prop} {e : MapEntry} (m : MapAt h r tg d es clock)
    (ht : P.underlying t = some (.map kt et)) (hd : P.underlying kt = some d) (he : e ∈ es) (hk : e.key = k) (c : K (bif ok then .tuple #[e.val, .bool true] else e.val)) : ALookup P t r k ok h K := by
  refine ⟨?_⟩
  unfold Instr.lookup
  have hik : IsKey d k := hk ▸ m.keys e he
  refine rwp_bind _ _ (rwp_underlying ht ?_)
  refine rwp_bind _ _ (rwp_bind _ _ (rwp_getObj m.at_ ?_))
  change rwp P (Sem.bind (Instr.checkKey _ 10000 kt k) _) h K
  refine rwp_bind _ _ (rwp_checkKey hd hik _ _ ?_)
  rcases findNow_spec hik es 0 m.keys with ⟨h1, h2⟩ | ⟨j, e', h1, h2, h3⟩
  · exact absurd hk (h2 e he)
  · have hee : e' = e := by
      obtain ⟨i, hi⟩ := List.getElem?_of_mem he
      have := nodup_idx m.nodup hi h2 (hk.trans h3.symm)
      subst this
      rw [hi] at h2; cases h2; rfl
    refine rwp_bind _ _ (rwp_findKey hd h1 ?_)
    rw [hee]
    cases ok <;> exact c
/-- The key is not there. -/
theorem ALookup.miss {t kt et : TypeId} {d : TypeDesc} {h : Heap} {r clock : Nat} {tg : Tag} {es : List MapEntry} {k : Value} {ok : Bool} {K : Value → Prop} {z : Value} (m : MapAt h r tg d es clock)
    (ht : P.underlying t = some (.map kt et)) (hd : P.underlying kt = some d) (hz : zeroV P et = some z) (hik : IsKey d k) (hk : ∀ e ∈ es, e.key ≠ k) (c : K (bif ok then .tuple #[z, .bool false] else z)) : ALookup P t r k ok h K := by
  refine ⟨?_⟩
  obtain ⟨i, hi, hz⟩ := zeroV_info hz
  unfold Instr.lookup
  refine rwp_bind _ _ (rwp_underlying ht ?_)
  refine rwp_bind _ _ (rwp_bind _ _ (rwp_getObj m.at_ ?_))
  change rwp P (Sem.bind (Instr.checkKey _ 10000 kt k) _) h K
  refine rwp_bind _ _ (rwp_checkKey hd hik _ _ ?_)
  rcases findNow_spec hik es 0 m.keys with ⟨h1, h2⟩ | ⟨j, e', h1, h2, h3⟩
  · refine rwp_bind _ _ (rwp_findKey hd h1 ?_)
    refine rwp_bind _ _ (rwp_zeroValue hi hz ?_)
    cases ok <;> exact c
  · exact absurd h3 (hk e' (List.mem_of_getElem? h2))

theorem ALenMap.len {h : Heap} {r clock : Nat} {tg : Tag} {d : TypeDesc} {es : List MapEntry} {K : Value → Prop} (m : MapAt h r tg d es clock) (c : K (.int .i64 es.length)) : ALenMap r h K :=
  ⟨⟨tg, _, clock, m.at_, by simpa using c⟩⟩

theorem AMakeMap.mk {h : Heap} {K : Value → Heap → Prop} (tg : Tag) (k : ∀ b, Fresh h b → K (.map (some b)) (h.set b (tg, .map #[] 0))) : AMakeMap h K := ⟨⟨tg, k⟩⟩

/-- An entry that is there gets another value. -/
theorem AMapUpd.hit {t kt et : TypeId} {d : TypeDesc} {h : Heap} {r clock : Nat} {tg : Tag} {es : List MapEntry} {k x : Value} {K : Heap → Prop} {j : Nat} {e : MapEntry} (m : MapAt h r tg d es clock)
    (ht : P.underlying t = some (.map kt et)) (hd : P.underlying kt = some d) (hj : es[j]? = some e) (hk : e.key = k)
    (c : MapAt (h.set r (tg, .map (es.set j { e with val := x }).toArray clock)) r tg d (es.set j { e with val := x }) clock → K (h.set r (tg, .map (es.set j { e with val := x }).toArray clock))) : AMapUpd P t r k x h K := by
  refine ⟨?_⟩
  unfold Instr.mapUpdate
  have he := List.mem_of_getElem? hj
  have hik : IsKey d k := hk ▸ m.keys e he
  refine awp_bind _ _ (rwp_awp _ (rwp_underlying ht ?_))
  refine awp_bind _ _ (rwp_awp _ (rwp_getObj m.at_ ?_))
  refine awp_bind _ _ (rwp_awp _ (rwp_checkKey hd hik _ _ ?_))
  rcases findNow_spec hik es 0 m.keys with ⟨h1, h2⟩ | ⟨j', e', h1, h2, h3⟩
  · exact absurd hk (h2 e he)
  · have hjj : j' = j := nodup_idx m.nodup h2 hj (h3.trans hk.symm)
    subst hjj
    have hee : e' = e := by rw [hj] at h2; cases h2; rfl
    subst hee
    refine awp_bind _ _ (rwp_awp _ (rwp_findKey hd h1 ?_))
    have hks : (((es.toArray[0 + j']?).map (·.key)).getD k) = k := by
      have : es.toArray[0 + j']? = some e' := by simpa using hj
      rw [this]; exact hk
    have harr : es.toArray.modify (0 + j') (fun e => { e with key := k, val := x }) = (es.set j' { e' with val := x }).toArray := by
      apply Array.ext'
      apply List.ext_getElem?
      intro i
      rw [Nat.zero_add]
      simp only [Array.getElem?_toList, Array.getElem?_modify, List.getElem?_toArray, List.getElem?_set]
      by_cases hji : j' = i
      · subst hji
        have hlt := (List.getElem?_eq_some_iff.1 hj).1
        simp only [if_true, hj, Option.map_some, hlt]
        rw [← hk]
      · simp [hji]
    have m' : MapAt (h.set r (tg, .map (es.set j' { e' with val := x }).toArray clock)) r tg d (es.set j' { e' with val := x }) clock := by
      refine ⟨Heap.set_same _ _ _, ?_, ?_⟩
      · intro y hy
        rcases List.mem_or_eq_of_mem_set hy with hy | rfl
        · exact m.keys y hy
        · exact m.keys e' he
      · have := stamped_modify m.st (0 + j') (fun e => { e with key := k, val := x }) (fun _ _ => rfl) (fun e'' _ he'' => by
          have : es.toArray[0 + j']? = some e' := by simpa using hj
          rw [this] at he''; cases he''; exact hk.symm)
        rw [harr] at this
        exact this
    simp only [hks]
    refine awp_bind _ _ ?_
    have hst : awp P (Instr.keyThatStays k k) h (fun a h' => a = k ∧ h' = h) := by
      unfold Instr.keyThatStays
      rw [if_pos (sameBits_self hik _)]
      exact ⟨rfl, rfl⟩
    refine awp_mono _ ?_ hst
    rintro _ _ ⟨rfl, rfl⟩
    rw [harr]
    exact ⟨tg, _, m.at_, rfl, c m'⟩
/-- A new entry. -/
theorem AMapUpd.miss {t kt et : TypeId} {d : TypeDesc} {h : Heap} {r clock : Nat} {tg : Tag} {es : List MapEntry} {k x : Value} {K : Heap → Prop} (m : MapAt h r tg d es clock)
    (ht : P.underlying t = some (.map kt et)) (hd : P.underlying kt = some d) (hik : IsKey d k) (hk : ∀ e ∈ es, e.key ≠ k)
    (c : MapAt (h.set r (tg, .map (es ++ [(⟨k, x, clock⟩ : MapEntry)]).toArray (clock + 1))) r tg d (es ++ [(⟨k, x, clock⟩ : MapEntry)]) (clock + 1) → K (h.set r (tg, .map (es ++ [(⟨k, x, clock⟩ : MapEntry)]).toArray (clock + 1)))) : AMapUpd P t r k x h K := by
  refine ⟨?_⟩
  unfold Instr.mapUpdate
  refine awp_bind _ _ (rwp_awp _ (rwp_underlying ht ?_))
  refine awp_bind _ _ (rwp_awp _ (rwp_getObj m.at_ ?_))
  refine awp_bind _ _ (rwp_awp _ (rwp_checkKey hd hik _ _ ?_))
  rcases findNow_spec hik es 0 m.keys with ⟨h1, h2⟩ | ⟨j', e', h1, h2, h3⟩
  · refine awp_bind _ _ (rwp_awp _ (rwp_findKey hd h1 ?_))
    have harr : es.toArray.push { key := k, val := x, born := clock } = (es ++ [(⟨k, x, clock⟩ : MapEntry)]).toArray := by simp
    refine ⟨tg, _, m.at_, rfl, ?_⟩
    rw [harr]
    refine c ⟨Heap.set_same _ _ _, ?_, ?_⟩
    · intro y hy
      rcases List.mem_append.1 hy with hy | hy
      · exact m.keys y hy
      · simp only [List.mem_singleton] at hy; subst hy; exact hik
    · have := stamped_push m.st (key := k) (val := x) (by simpa using hk)
      rw [harr] at this; exact this
  · exact absurd h3 (hk e' (List.mem_of_getElem? h2))

/-- An entry is taken out. -/
theorem ADelete.hit {ts0 ts1 tt kt et : TypeId} {d : TypeDesc} {h : Heap} {r clock : Nat} {tg : Tag} {es : List MapEntry} {k : Value} {K : Value → Heap → Prop} {j : Nat} {e : MapEntry} (m : MapAt h r tg d es clock)
    (ht : P.underlying ts0 = some (.map kt et)) (hd : P.underlying kt = some d) (hj : es[j]? = some e) (hk : e.key = k)
    (c : MapAt (h.set r (tg, .map (es.eraseIdx j).toArray clock)) r tg d (es.eraseIdx j) clock → K (.tuple #[]) (h.set r (tg, .map (es.eraseIdx j).toArray clock))) : ADelete P #[ts0, ts1] tt #[.map (some r), k] h K := by
  refine ⟨?_⟩
  unfold Builtin.delete_
  have he := List.mem_of_getElem? hj
  have hik : IsKey d k := hk ▸ m.keys e he
  simp only [List.getElem?_toArray, List.getElem?_cons_zero, List.getElem?_cons_succ]
  refine awp_bind _ _ (rwp_awp _ (rwp_underlying ht ?_))
  refine awp_bind _ _ (awp_bind _ _ (rwp_awp _ (rwp_getObj m.at_ ?_)))
  change awp P (Sem.bind (Instr.checkKey _ 10000 kt k) _) h _
  refine awp_bind _ _ (rwp_awp _ (rwp_checkKey hd hik _ _ ?_))
  rcases findNow_spec hik es 0 m.keys with ⟨h1, h2⟩ | ⟨j', e', h1, h2, h3⟩
  · exact absurd hk (h2 e he)
  · have hjj : j' = j := nodup_idx m.nodup h2 hj (h3.trans hk.symm)
    subst hjj
    refine awp_bind _ _ (rwp_awp _ (rwp_findKey hd h1 ?_))
    have hlt := (List.getElem?_eq_some_iff.1 hj).1
    have harr : es.toArray.eraseIdxIfInBounds (0 + j') = (es.eraseIdx j').toArray := by
      unfold Array.eraseIdxIfInBounds
      rw [dif_pos (by simpa using hlt)]
      simp
    have hst := stamped_erase m.st (0 + j')
    rw [harr] at hst
    refine ⟨tg, _, m.at_, rfl, ?_⟩
    rw [harr]
    exact c ⟨Heap.set_same _ _ _, fun y hy => m.keys y ((List.eraseIdx_sublist _ _).subset hy), hst⟩
end

/-- The model's order on strings is the lists'. -/
theorem less_dec (x : List UInt8) : ∀ y : List UInt8, Op.bytesLess x y = decide (x < y) := by
  induction x with
  | nil => intro y; cases y <;> simp [Op.bytesLess]
  | cons a x ih =>
    intro y
    cases y with
    | nil => simp [Op.bytesLess]
    | cons b y =>
      have e : (a == b) = decide (a = b) := by cases h : decide (a = b) <;> simp_all
      rw [Op.bytesLess, ih y, e, ← Bool.decide_and, ← Bool.decide_or]
      exact decide_eq_decide.2 List.cons_lt_cons_iff.symm
/-- A string of these bytes. -/
abbrev S (n : List UInt8) : Value := .string ⟨n.toArray⟩
theorem str_eq (s : ByteArray) : (⟨s.data.toList.toArray⟩ : ByteArray) = s := by simp
theorem str_size (n : List UInt8) : (⟨n.toArray⟩ : ByteArray).size = n.length := rfl
theorem str_inj {a b : List UInt8} (h : S a = S b) : a = b := by
  injection h with h; injection h with h; simpa using h
theorem str_list (n : List UInt8) : (⟨n.toArray⟩ : ByteArray).toList = n := ByteArray.toList_mk n

theorem AStrOp.eql {t : TypeId} {a b : List UInt8} {K : Value → Prop} (k : K (.bool (decide (a = b)))) : AStrOp .eql t ⟨a.toArray⟩ ⟨b.toArray⟩ K := by
  refine ⟨⟨_, binOp_string_eql t _ _, ?_⟩⟩
  rw [str_list, str_list]
  have : (a == b) = decide (a = b) := by cases h : decide (a = b) <;> simp_all
  rw [this]; exact k
theorem AStrOp.neq {t : TypeId} {a b : List UInt8} {K : Value → Prop} (k : K (.bool (!decide (a = b)))) : AStrOp .neq t ⟨a.toArray⟩ ⟨b.toArray⟩ K := by
  refine ⟨⟨_, binOp_string_neq t _ _, ?_⟩⟩
  rw [str_list, str_list]
  have : (a == b) = decide (a = b) := by cases h : decide (a = b) <;> simp_all
  rw [this]; exact k
theorem AStrOp.leq {t : TypeId} {a b : List UInt8} {K : Value → Prop} (k : K (.bool (decide (a ≤ b)))) : AStrOp .leq t ⟨a.toArray⟩ ⟨b.toArray⟩ K := by
  refine ⟨⟨_, binOp_string_leq t _ _, ?_⟩⟩
  rw [str_list, str_list, less_dec]
  have : (decide (a < b) || a == b) = decide (a ≤ b) := by
    have e : (a == b) = decide (a = b) := by cases h : decide (a = b) <;> simp_all
    rw [e, ← Bool.decide_or]
    exact decide_eq_decide.2 List.le_iff_lt_or_eq.symm
  rw [this]; exact k
theorem AStrIdx.at {P : Program} {t : TypeId} {n : List UInt8} {i : Int} {j : Nat} {b : UInt8} {K : Value → Prop} (hu : P.underlying t = some .string) (hi : i = (j : Int)) (hb : n[j]? = some b) (k : K (.int .u8 b.toNat)) : AStrIdx P t ⟨n.toArray⟩ i K := by
  subst hi
  refine ⟨⟨hu, Int.natCast_nonneg _, b, ?_, k⟩⟩
  rw [Int.toNat_natCast]
  obtain ⟨hl, e⟩ := List.getElem?_eq_some_iff.1 hb
  have hs : j < (⟨n.toArray⟩ : ByteArray).size := hl
  rw [getElem?_pos (⟨n.toArray⟩ : ByteArray) j hs]
  congr 1
end Go.Ah
