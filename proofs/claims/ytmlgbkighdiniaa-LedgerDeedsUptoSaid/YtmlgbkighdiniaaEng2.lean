/- The rules for operations, regions, code and calls over partial heaps. No program in sight. -/
import Derived.Test.YtmlgbkighdiniaaEng1
import Derived.OrdersHeld
namespace Go.Ah
set_option linter.unusedVariables false
set_option linter.unusedSimpArgs false

abbrev Env := Nat → Value

structure Fits (n : Nat) (e : Env) (a : Act) : Prop where
  size : a.tmps.size = n
  get : ∀ t, t < n → a.tmps[t]? = some (e t)
  out : ∀ t, n ≤ t → e t = undef
  defers : a.defers = []

def upd (n : Nat) (e : Env) (d : Nat) (v : Value) : Env := bif Nat.blt d n then (fun t => bif Nat.beq t d then v else e t) else e
def updO (n : Nat) (e : Env) : Option Tmp → Value → Env
  | none, _ => e
  | some d, v => upd n e d v

def Env.ev (e : Env) : Operand → Value
  | .tmp t => e t
  | .const v => v
  | .global g => .pointer (some ⟨g, 0, none⟩)
  | .func f => .func (.func f) #[] #[]

theorem Fits.getD {n : Nat} {e : Env} {a : Act} (f : Fits n e a) (t : Nat) : a.tmps.getD t undef = e t := by
  by_cases h : t < n
  · rw [Array.getD_eq_getD_getElem?, f.get t h]; rfl
  · rw [Array.getD_eq_getD_getElem?, Array.getElem?_eq_none (by rw [f.size]; omega), f.out t (by omega)]; rfl

theorem Fits.eval {n : Nat} {e : Env} {a : Act} (f : Fits n e a) : a.eval = e.ev := by
  funext x
  cases x with
  | tmp t => exact f.getD t
  | _ => rfl

theorem Fits.upd {n : Nat} {e : Env} {a : Act} (f : Fits n e a) (d : Nat) (v : Value) : Fits n (upd n e d v) (a.put (some d) v) := by
  unfold Ah.upd
  by_cases h : d < n
  · have hb : Nat.blt d n = true := by simpa [Nat.blt_eq] using h
    rw [hb]
    refine ⟨by simp [Act.put, f.size], ?_, ?_, f.defers⟩
    · intro t ht
      by_cases htd : t = d
      · subst htd
        have hbt : Nat.beq t t = true := Nat.beq_refl t
        simp only [cond_true, hbt, Act.put]
        rw [Array.getElem?_setIfInBounds_self_of_lt (by rw [f.size]; exact ht)]
      · have hb' : Nat.beq t d = false := by
          cases hh : Nat.beq t d with
          | false => rfl
          | true => exact absurd (Nat.eq_of_beq_eq_true hh) htd
        simp only [cond_true, hb', cond_false, Act.put]
        rw [Array.getElem?_setIfInBounds_ne (Ne.symm htd)]
        exact f.get t ht
    · intro t ht
      have htd : t ≠ d := by omega
      have hb' : Nat.beq t d = false := by
        cases hh : Nat.beq t d with
        | false => rfl
        | true => exact absurd (Nat.eq_of_beq_eq_true hh) htd
      simp only [cond_true, hb', cond_false]
      exact f.out t ht
  · have hb : Nat.blt d n = false := by
      cases hh : Nat.blt d n with
      | false => rfl
      | true => exact absurd (by simpa [Nat.blt_eq] using hh) h
    rw [hb]
    refine ⟨by simp [Act.put, f.size], ?_, f.out, f.defers⟩
    intro t ht
    have htd : d ≠ t := by omega
    simp only [cond_false, Act.put]
    rw [Array.getElem?_setIfInBounds_ne htd]
    exact f.get t ht

theorem Fits.updO {n : Nat} {e : Env} {a : Act} (f : Fits n e a) (d : Option Tmp) (v : Value) : Fits n (updO n e d v) (a.put d v) := by
  cases d with
  | none => exact f
  | some d => exact f.upd d v

def yieldedE (ops : Array Oper) (e : Env) (j : Nat) : Option Bool :=
  match (ops[j]?).bind (·.dst) with
  | some d => match e d with
    | .bool b => some b
    | _ => none
  | none => none

theorem Fits.yielded {n : Nat} {e : Env} {a : Act} (f : Fits n e a) (ops : Array Oper) : yielded ops a.tmps = yieldedE ops e := by
  funext j
  unfold Go.yielded yieldedE
  cases (ops[j]?).bind (·.dst) with
  | none => rfl
  | some d =>
    simp only [Option.bind_some]
    by_cases h : (d : Nat) < n
    · rw [f.get d h]
      cases e d <;> rfl
    · have hle : n ≤ (d : Nat) := Nat.le_of_not_lt h
      rw [Array.getElem?_eq_none (by rw [f.size]; exact hle), f.out d hle]; rfl

/-! ### calls -/

/-- a function with a body of its own -/
def Plain (P : Program) (f : FuncId) : Prop := ∃ fn, P.funcs[f]? = some fn ∧ fn.body.isSome = true ∧ (fn.name == "runtime.NumGoroutine") = false

structure ACalls (P : Program) (f : FuncId) (args : Array Value) (h : Heap) (R : Value → Heap → Prop) : Prop where
  of ::
  plain : Plain P f
  out : ∀ β w, RelB β h w → Calls P f args w fun e w' => ∃ v h', e = .returned v ∧ RelB β h' w' ∧ R v h'

theorem ACalls.mono {P : Program} {f : FuncId} {args : Array Value} {h : Heap} {R R' : Value → Heap → Prop} (c : ACalls P f args h R)
    (k : ∀ v h', R v h' → R' v h') : ACalls P f args h R' :=
  ⟨c.1, fun β w hr => (c.2 β w hr).mono fun _ _ ⟨v, h', e, r, q⟩ => ⟨v, h', e, r, k _ _ q⟩⟩

/-- Less may be known behind the call. -/
theorem ACalls.drop {P : Program} {f : FuncId} {args : Array Value} {h : Heap} {R R' : Value → Heap → Prop} (c : ACalls P f args h R)
    (k : ∀ v h', R v h' → ∃ h'', Sub h'' h' ∧ R' v h'') : ACalls P f args h R' :=
  ⟨c.1, fun β w hr => (c.2 β w hr).mono fun _ _ ⟨v, h', e, r, q⟩ => let ⟨h'', s, q'⟩ := k _ _ q; ⟨v, h'', e, r.sub s, q'⟩⟩

/-! ### one operation -/

def Nxt (P : Program) (K : Value → Heap → Prop) : Next → Heap → Prop
  | .value v, h => K v h
  | .skip, h => K undef h
  | .enter f args, h => ACalls P f args h K
  | _, _ => False

/-- Any operation, by its own run. -/
def ARaw (P : Program) (o : Oper) (e : Env) (h : Heap) (K : Value → Heap → Prop) : Prop := awp P (execOp e.ev o) h (Nxt P K)
/-- Any operation that only reads, by its own run. -/
def QRaw (P : Program) (o : Oper) (e : Env) (h : Heap) (K : Value → Prop) : Prop := rwp P (execOp e.ev o) h (fun x => match x with | .value v => K v | _ => False)

structure ACmp (p : Prop) (K : Bool → Prop) : Prop where
  of ::
  y : p → K true
  n : ¬p → K false
theorem ACmp.yes {p : Prop} {K : Bool → Prop} (h : p) (k : K true) : ACmp p K := ⟨fun _ => k, fun n => absurd h n⟩
theorem ACmp.no {p : Prop} {K : Bool → Prop} (h : ¬p) (k : K false) : ACmp p K := ⟨fun y => absurd y h, fun _ => k⟩
theorem ACmp.split {p : Prop} {K : Bool → Prop} (k : p → K true) (k' : ¬p → K false) : ACmp p K := ⟨k, k'⟩
theorem ACmp.dec {p : Prop} [d : Decidable p] {K : Bool → Prop} (k : K (decide p)) : ACmp p K :=
  ⟨fun y => by rw [decide_eq_true y] at k; exact k, fun n => by rw [decide_eq_false n] at k; exact k⟩

/-- A sum, a difference, a product, wrapped. -/
structure AArith (k : IntKind) (r : Int) (K : Int → Prop) : Prop where
  of ::
  out : K (k.wrap r)
theorem i64_wrap {r : Int} (h : -9223372036854775808 ≤ r) (h' : r ≤ 9223372036854775807) : IntKind.i64.wrap r = r := by
  show (if (true && decide (r % 18446744073709551616 ≥ 9223372036854775808)) = true then r % 18446744073709551616 - 18446744073709551616 else r % 18446744073709551616) = r
  rw [Bool.true_and]
  by_cases c : r % 18446744073709551616 ≥ 9223372036854775808
  · rw [if_pos (decide_eq_true c)]; omega
  · rw [if_neg (by rw [decide_eq_false c]; simp)]; omega
theorem u8_wrap {r : Int} (h : 0 ≤ r) (h' : r ≤ 255) : IntKind.u8.wrap r = r := by
  show (if (false && decide (r % 256 ≥ 128)) = true then r % 256 - 256 else r % 256) = r
  rw [Bool.false_and, if_neg (by simp)]; omega
theorem AArith.ok {r r' : Int} {K : Int → Prop} (h : -9223372036854775808 ≤ r) (h' : r ≤ 9223372036854775807) (e : r = r') (k : K r') : AArith .i64 r K := by
  refine ⟨?_⟩; rw [i64_wrap h h', e]; exact k
theorem AArith.raw {kd : IntKind} {r : Int} {K : Int → Prop} (k : K (kd.wrap r)) : AArith kd r K := ⟨k⟩

/-- An index into a slice. -/
structure AIdx (P : Program) (t : TypeId) (base : Option Addr) (len : Nat) (i : Int) (K : Value → Prop) : Prop where
  of ::
  out : (0 ≤ i ∧ i < len) ∧ ∃ b off E z, base = some ⟨b, off, none⟩ ∧ P.underlying t = some (.slice E) ∧ (P.info? E).map (·.size) = some z ∧ K (.pointer (some ⟨b, off + i.toNat * z, none⟩))
/-- An index into an array. -/
structure AIdxA (P : Program) (t : TypeId) (b off : Nat) (i : Int) (K : Value → Prop) : Prop where
  of ::
  out : ∃ n E z : Nat, P.underlying t = some (.array n E) ∧ (P.info? E).map (·.size) = some z ∧ (0 ≤ i ∧ i < n) ∧ K (.pointer (some ⟨b, off + i.toNat * z, none⟩))
/-- A slice of a slice. -/
structure ASlc (P : Program) (t : TypeId) (base : Option Addr) (len cap : Nat) (lo hi mx : Option Value) (K : Value → Prop) : Prop where
  of ::
  out : ∃ l h m : Nat, (lo = none ∧ l = 0 ∨ ∃ k, lo = some (.int k l)) ∧ (hi = none ∧ h = len ∧ mx = none ∨ ∃ k, hi = some (.int k h)) ∧ (mx = none ∧ m = cap ∨ ∃ k, mx = some (.int k m)) ∧
    l ≤ h ∧ h ≤ m ∧ m ≤ cap ∧ ∃ E z, P.underlying t = some (.slice E) ∧ (P.info? E).map (·.size) = some z ∧
    K (.slice (if m = l then base else base.map (·.add (l * z))) (h - l) (m - l))
/-- A load. -/
structure ALoad (P : Program) (t : TypeId) (a : Addr) (h : Heap) (K : Value → Prop) : Prop where
  of ::
  out : rwp P (loadVar t a) h K
/-- A store. -/
structure AStore (P : Program) (t : TypeId) (a : Addr) (v : Value) (h : Heap) (K : Heap → Prop) : Prop where
  of ::
  out : awp P (storeVar t a v) h (fun _ h' => K h')
/-- A new variable, zero or with a value. -/
structure AAlloc (P : Program) (t : TypeId) (h : Heap) (K : Value → Heap → Prop) : Prop where
  of ::
  out : awp P (Instr.alloc t true (.tuple #[])) h K
structure ABox (P : Program) (t : TypeId) (v : Value) (h : Heap) (K : Value → Heap → Prop) : Prop where
  of ::
  out : awp P (Instr.box t v) h K
structure ABuildSl (P : Program) (t : TypeId) (n : Nat) (parts : Array (Nat × Value)) (h : Heap) (K : Value → Heap → Prop) : Prop where
  of ::
  out : awp P (Instr.buildSlice t n parts) h K
structure AMakeSl (P : Program) (t : TypeId) (l c : Value) (h : Heap) (K : Value → Heap → Prop) : Prop where
  of ::
  out : awp P (Instr.makeSlice t l c) h K
structure AAppend (P : Program) (ts : Array TypeId) (t : TypeId) (args : Array Value) (h : Heap) (K : Value → Heap → Prop) : Prop where
  of ::
  out : awp P (Builtin.append_ ts t args) h K
structure AClear (P : Program) (ts : Array TypeId) (t : TypeId) (args : Array Value) (h : Heap) (K : Value → Heap → Prop) : Prop where
  of ::
  out : awp P (Builtin.clear_ ts t args) h K
structure ACopy (P : Program) (ts : Array TypeId) (t : TypeId) (args : Array Value) (h : Heap) (K : Value → Heap → Prop) : Prop where
  of ::
  out : awp P (Builtin.copy_ ts t args) h K
/-- An operation on two strings. -/
structure AStrOp (op : BinOp) (t : TypeId) (a b : ByteArray) (K : Value → Prop) : Prop where
  of ::
  out : ∃ v, binOp op t (.string a) (.string b) = pure v ∧ K v
/-- A byte of a string. -/
structure AStrIdx (P : Program) (t : TypeId) (s : ByteArray) (i : Int) (K : Value → Prop) : Prop where
  of ::
  out : P.underlying t = some .string ∧ 0 ≤ i ∧ ∃ b, s[i.toNat]? = some b ∧ K (.int .u8 b.toNat)
/-- What a map has at a key. -/
structure ALookup (P : Program) (t : TypeId) (r : Nat) (k : Value) (ok : Bool) (h : Heap) (K : Value → Prop) : Prop where
  of ::
  out : rwp P (Instr.lookup t (.map (some r)) k ok) h K
/-- How many entries a map has. -/
structure ALenMap (r : Nat) (h : Heap) (K : Value → Prop) : Prop where
  of ::
  out : ∃ tg es clock, h r = some (tg, .map es clock) ∧ K (.int .i64 es.size)
/-- A new map. -/
structure AMakeMap (h : Heap) (K : Value → Heap → Prop) : Prop where
  of ::
  out : ∃ tg, ∀ b, Fresh h b → K (.map (some b)) (h.set b (tg, .map #[] 0))
/-- A map's entry is set. -/
structure AMapUpd (P : Program) (t : TypeId) (r : Nat) (k x : Value) (h : Heap) (K : Heap → Prop) : Prop where
  of ::
  out : awp P (Instr.mapUpdate t (.map (some r)) k x) h (fun _ h' => K h')
/-- A map's entry is taken out. -/
structure ADelete (P : Program) (ts : Array TypeId) (t : TypeId) (args : Array Value) (h : Heap) (K : Value → Heap → Prop) : Prop where
  of ::
  out : awp P (Builtin.delete_ ts t args) h K
/-- A number. -/
structure AInt (r : Int) (K : Int → Prop) : Prop where
  of ::
  out : K r
theorem AInt.as {r r' : Int} {K : Int → Prop} (e : r = r') (k : K r') : AInt r K := by refine ⟨?_⟩; rw [e]; exact k
/-- Two aggregates, compared. -/
structure AEqAgg (P : Program) (o : Oper) (e : Env) (h : Heap) (K : Value → Prop) : Prop where
  of ::
  out : ∃ v, (∀ w, (execOp e.ev o).run P w = .ok (.value v) w) ∧ K v
def setAt (l : List Value) (off : Nat) : List Value → List Value
  | [] => l
  | v :: vs => setAt (l.set off v) (off + 1) vs

def fillL (place : Nat → Option (Nat × Nat)) : List Value → List (Nat × Value) → Option (List Value)
  | l, [] => some l
  | l, (i, v) :: rest => match place i with
    | none => none
    | some (off, size) => bif Nat.beq v.cells.toList.length size && Nat.ble (off + size) l.length then fillL place (setAt l off v.cells.toList) rest else none

def sizeT (P : Program) (t : TypeId) : Option Nat := (P.info? t).map (·.size)
def zeroT (P : Program) (t : TypeId) : Option (List Value) := ((P.info? t).bind (·.zero)).map (·.cells.toList)

def placeT (P : Program) (t : TypeId) : Option (Nat → Option (Nat × Nat)) :=
  match P.underlying t with
  | some (.struct fs) => bif fs.toList.all (fun f => (sizeT P f.type).isSome) then some fun i => (fs.toList[i]?).bind fun f => (sizeT P f.type).map fun s => (f.offset, s) else none
  | some (.array _ E) => (sizeT P E).map fun z i => some (i * z, z)
  | _ => none

/-- The value's head is laid open before what follows. -/
def force (v : Value) (k : Value → Prop) : Prop :=
  match v with
  | .int a b => k (.int a b)
  | .bool b => k (.bool b)
  | .pointer none => k (.pointer none)
  | .pointer (some ⟨b, o, s⟩) => k (.pointer (some ⟨b, o, s⟩))
  | .slice a n c => k (.slice a n c)
  | .agg c => k (.agg c)
  | .tuple c => k (.tuple c)
  | .string s => k (.string s)
  | v => k v
theorem force_iff (v : Value) (k : Value → Prop) : force v k ↔ k v := by
  unfold force; split <;> rfl
def forceL : List Value → (List Value → Prop) → Prop
  | [], k => k []
  | v :: l, k => force v fun v => forceL l fun l => k (v :: l)
theorem forceL_iff : ∀ (l : List Value) (k : List Value → Prop), forceL l k ↔ k l
  | [], k => Iff.rfl
  | v :: l, k => by rw [forceL, force_iff, forceL_iff l]

def buildT (P : Program) (t : TypeId) (ps : List (Nat × Value)) : Option (List Value) :=
  match placeT P t, zeroT P t with
  | some pl, some z => fillL pl z ps
  | _, _ => none

/-- the part of an aggregate that a field is -/
def fieldT (P : Program) (t : TypeId) (f : Nat) (cs : List Value) : Option (List Value ⊕ Value) :=
  match P.underlying t with
  | some (.struct fs) => match fs.toList[f]? with
    | some f => match P.underlying f.type with
      | some (.struct _) | some (.array ..) => (sizeT P f.type).map fun z => .inl ((cs.drop f.offset).take z)
      | some _ => (cs[f.offset]?).map .inr
      | none => none
    | none => none
  | _ => none

def fieldOff (P : Program) (t : TypeId) (f : Nat) : Option Nat :=
  match P.underlying t with
  | some (.struct fs) => match fs.toList[f]? with
    | some f => match sizeT P f.type with
      | some (_ + 1) => some f.offset
      | _ => none
    | none => none
  | _ => none
/-- an offset, its literal laid open -/
def forceO (off fo : Nat) (k : Nat → Prop) : Prop :=
  match fo with
  | 0 => k off | 1 => k (off + 1) | 2 => k (off + 2) | 3 => k (off + 3) | 4 => k (off + 4) | 5 => k (off + 5) | 6 => k (off + 6) | 7 => k (off + 7) | 8 => k (off + 8)
  | 9 => k (off + 9) | 10 => k (off + 10) | 11 => k (off + 11) | 12 => k (off + 12) | 13 => k (off + 13) | 14 => k (off + 14) | 15 => k (off + 15) | 16 => k (off + 16)
  | fo => k (off + fo)
theorem forceO_iff (off fo : Nat) (k : Nat → Prop) : forceO off fo k ↔ k (off + fo) := by
  unfold forceO; split <;> rfl

/-- An operation that only reads. -/
def QStep (P : Program) (o : Oper) (e : Env) (h : Heap) (K : Value → Prop) : Prop :=
  match o.op with
  | .move x | .assign x => K (e.ev x)
  | .binOp op t x y _ => match e.ev x, e.ev y with
    | .int k a, .int k' b => match op with
      | .shl => 0 ≤ b ∧ AArith k (a * 2 ^ (min b.toNat k.bits)) fun r => K (.int k r)
      | .shr => 0 ≤ b ∧ AInt (a.fdiv (2 ^ (min b.toNat k.bits))) fun r => K (.int k r)
      | op => bif decide (k = k') then (match op with
        | .lss => ACmp (a < b) fun t => K (.bool t)
        | .leq => ACmp (a ≤ b) fun t => K (.bool t)
        | .gtr => ACmp (b < a) fun t => K (.bool t)
        | .geq => ACmp (b ≤ a) fun t => K (.bool t)
        | .eql => ACmp (a = b) fun t => K (.bool t)
        | .neq => ACmp (a ≠ b) fun t => K (.bool t)
        | .add => AArith k (a + b) fun r => K (.int k r)
        | .sub => AArith k (a - b) fun r => K (.int k r)
        | .mul => AArith k (a * b) fun r => K (.int k r)
        | .quo => b ≠ 0 ∧ AArith k (a.tdiv b) fun r => K (.int k r)
        | .rem => b ≠ 0 ∧ AInt (a.tmod b) fun r => K (.int k r)
        | .and => AInt (k.wrap (BitVec.ofInt k.bits a &&& BitVec.ofInt k.bits b).toNat) fun r => K (.int k r)
        | .or => AInt (k.wrap (BitVec.ofInt k.bits a ||| BitVec.ofInt k.bits b).toNat) fun r => K (.int k r)
        | .xor => AInt (k.wrap (BitVec.ofInt k.bits a ^^^ BitVec.ofInt k.bits b).toNat) fun r => K (.int k r)
        | .andNot => AInt (k.wrap (BitVec.ofInt k.bits a &&& ~~~(BitVec.ofInt k.bits b)).toNat) fun r => K (.int k r)
        | _ => False) else False
    | .agg _, .agg _ => AEqAgg P o e h K
    | .string a, .string b => AStrOp op t a b K
    | _, _ => QRaw P o e h K
  | .index t x ix => match e.ev x, e.ev ix with
    | .string s, .int _ i => AStrIdx P t s i K
    | _, _ => QRaw P o e h K
  | .lookup t x ix ok => match e.ev x with
    | .map (some r) => ALookup P t r (e.ev ix) ok h K
    | _ => QRaw P o e h K
  | .indexAddr t x ix => match e.ev x, e.ev ix with
    | .slice base len _, .int _ i => AIdx P t base len i K
    | .pointer (some ⟨b, off, none⟩), .int _ i => AIdxA P t b off i K
    | _, _ => QRaw P o e h K
  | .slice t x lo hi mx => match e.ev x with
    | .slice base len cap => ASlc P t base len cap (lo.map e.ev) (hi.map e.ev) (mx.map e.ev) K
    | _ => QRaw P o e h K
  | .load t x => match e.ev x with
    | .pointer (some a) => ALoad P t a h K
    | _ => False
  | .fieldAddr t x f => match e.ev x, fieldOff P t f with
    | .pointer (some ⟨b, off, none⟩), some fo => forceO off fo fun o => K (.pointer (some ⟨b, o, none⟩))
    | _, _ => QRaw P o e h K
  | .build t ps => match buildT P t (ps.toList.map fun p => (p.1, e.ev p.2)) with
    | some l => forceL l fun l => K (.agg l.toArray)
    | none => False
  | .field t x f => match e.ev x with
    | .agg cs => match fieldT P t f cs.toList with
      | some (.inl l) => forceL l fun l => K (.agg l.toArray)
      | some (.inr v) => K v
      | none => False
    | _ => False
  | .convert s d x => match P.underlying s, P.underlying d, e.ev x with
    | some (.int _), some (.int k), .int _ n => AArith k n fun r => K (.int k r)
    | _, _, _ => False
  | .call c => match c.callee, c.args.toList.map e.ev with
    | .builtin .len, [.slice _ n _] => (match (c.argTypes[0]?).bind P.underlying with
      | some (.slice _) => K (.int .i64 n)
      | _ => False)
    | .builtin .len, [.string s] => (match (c.argTypes[0]?).bind P.underlying with
      | some .string => K (.int .i64 s.size)
      | _ => False)
    | .builtin .len, [.map (some r)] => (match (c.argTypes[0]?).bind P.underlying with
      | some (.map _ _) => ALenMap r h K
      | _ => False)
    | .builtin .cap, [.slice _ _ n] => (match (c.argTypes[0]?).bind P.underlying with
      | some (.slice _) => K (.int .i64 n)
      | _ => False)
    | .builtin .min, [.int k a, .int _ b] => AInt (if b < a then b else a) fun r => K (.int k r)
    | .builtin .max, [.int k a, .int _ b] => AInt (if b > a then b else a) fun r => K (.int k r)
    | _, _ => QRaw P o e h K
  | _ => QRaw P o e h K

theorem QRaw_sound {P : Program} {o : Oper} {e : Env} {h : Heap} {K : Value → Prop} (q : QRaw P o e h K) :
    ∃ v, K v ∧ ∀ w, Rel h w → (execOp e.ev o).run P w = .ok (.value v) w := by
  obtain ⟨x, k, e'⟩ := rwp_sound _ q
  cases x with
  | value v => exact ⟨v, k, e'⟩
  | _ => exact k.elim

theorem ACmp.get {p : Prop} {K : Bool → Prop} [Decidable p] (h : ACmp p K) : K (decide p) := by
  by_cases hp : p
  · rw [decide_eq_true hp]; exact h.1 hp
  · rw [decide_eq_false hp]; exact h.2 hp

theorem info_size {P : Program} {E z : Nat} (h : (P.info? E).map (·.size) = some z) (w : World) : (sizeOf E).run P w = .ok z w := by
  cases hi : P.info? E with
  | none => rw [hi] at h; cases h
  | some i =>
    rw [hi] at h; simp only [Option.map_some, Option.some.injEq] at h
    simp [sizeOf, typeInfo, hi, h]

theorem sliceBound_run {P : Program} {k : IntKind} {i y : Nat} {c : BoundsCode} (w : World) (h : i ≤ y) : (Instr.sliceBound (.int k i) y c).run P w = .ok i w := by
  simp [Instr.sliceBound, asIntOf, h]

theorem setAt_length : ∀ (vs l : List Value) (off : Nat), (setAt l off vs).length = l.length
  | [], l, off => rfl
  | v :: vs, l, off => by rw [setAt, setAt_length vs, List.length_set]

theorem setAt_fold : ∀ (vs : List Value) (l : List Value) (off k : Nat), setAt l (off + k) vs = (((vs.zipIdx k).foldl (fun cs p => cs.setIfInBounds (off + p.2) p.1) l.toArray)).toList
  | [], l, off, k => rfl
  | v :: vs, l, off, k => by
    simp only [setAt, List.zipIdx_cons, List.foldl_cons, List.setIfInBounds_toArray]
    exact setAt_fold vs (l.set (off + k) v) off (k + 1)

theorem fill_eq (place : Nat → Option (Nat × Nat)) : ∀ (ps : List (Nat × Value)) (l r : List Value), fillL place l ps = some r → Instr.fill place l.toArray ps = some r.toArray
  | [], l, r, h => by simp only [fillL, Option.some.injEq] at h; subst h; rfl
  | (i, v) :: rest, l, r, h => by
    unfold fillL at h
    unfold Instr.fill
    cases hp : place i with
    | none => rw [hp] at h; cases h
    | some os =>
      obtain ⟨off, size⟩ := os
      rw [hp] at h
      simp only [] at h ⊢
      cases hc : (Nat.beq v.cells.toList.length size && Nat.ble (off + size) l.length) with
      | false => rw [hc] at h; cases h
      | true =>
        rw [hc] at h
        simp only [cond_true] at h
        simp only [Bool.and_eq_true] at hc
        have e1 : v.cells.size = size := by simpa using Nat.eq_of_beq_eq_true hc.1
        have e2 : off + size ≤ l.length := Nat.le_of_ble_eq_true hc.2
        rw [if_neg (by simp [e1]; exact e2)]
        have := fill_eq place rest _ r h
        rw [← this]
        congr 1
        have := setAt_fold v.cells.toList l off 0
        rw [Nat.add_zero] at this
        rw [this, ← Array.foldl_toList, Array.toList_zipIdx]

theorem size_info {P : Program} {t n : Nat} (h : sizeT P t = some n) : ∃ i, P.info? t = some i ∧ i.size = n := by
  unfold sizeT at h
  cases hi : P.info? t with
  | none => rw [hi] at h; cases h
  | some i => rw [hi] at h; exact ⟨i, rfl, by simpa using h⟩
theorem zero_info {P : Program} {t : TypeId} {l : List Value} (h : zeroT P t = some l) : ∃ i v, P.info? t = some i ∧ i.zero = some v ∧ v.cells.toList = l := by
  unfold zeroT at h
  cases hi : P.info? t with
  | none => rw [hi] at h; cases h
  | some i =>
    rw [hi] at h
    cases hz : i.zero with
    | none => simp [hz] at h
    | some v => simp [hz] at h; exact ⟨i, v, rfl, hz, h⟩

theorem run_zeroValue {P : Program} {t : TypeId} {l : List Value} (h : zeroT P t = some l) : ∃ v, v.cells.toList = l ∧ ∀ w, (zeroValue t).run P w = .ok v w := by
  obtain ⟨i, v, hi, hv, hl⟩ := zero_info h
  exact ⟨v, hl, fun w => by simp [zeroValue, typeInfo, hi, hv]⟩

theorem mapM_places {P : Program} (w : World) : ∀ (fs : List Field), (∀ f ∈ fs, (sizeT P f.type).isSome = true) →
    ∃ ps : List (Nat × Nat), (fs.mapM (m := Sem) fun f => do pure (f.offset, ← sizeOf f.type)).run P w = .ok ps w ∧
      ∀ i : Nat, ps[i]? = (fs[i]?).bind fun (f : Field) => (sizeT P f.type).map fun s => (f.offset, s)
  | [], _ => ⟨[], by simp, by simp⟩
  | f :: fs, h => by
    obtain ⟨ps, h1, h2⟩ := mapM_places w fs fun g hg => h g (List.mem_cons_of_mem _ hg)
    have hf := h f List.mem_cons_self
    cases hs : sizeT P f.type with
    | none => rw [hs] at hf; cases hf
    | some z =>
      refine ⟨(f.offset, z) :: ps, ?_, fun i => ?_⟩
      · simp only [List.mapM_cons, Sem.run_bind, info_size (hs : (P.info? f.type).map (·.size) = some z), Result.andThen_ok, Sem.run_pure, h1]
      · cases i with
        | zero => simp [hs]
        | succ i => simp [h2 i]

theorem fill_congr {p q : Nat → Option (Nat × Nat)} : ∀ (ps : List (Nat × Value)) (c : Array Value) (r : Array Value), (∀ i os, q i = some os → p i = some os) → Instr.fill q c ps = some r → Instr.fill p c ps = some r
  | [], c, r, _, h => h
  | (i, v) :: rest, c, r, hpq, h => by
    unfold Instr.fill at h ⊢
    cases hq : q i with
    | none => rw [hq] at h; cases h
    | some os =>
      obtain ⟨off, size⟩ := os
      rw [hpq i _ hq]
      rw [hq] at h
      simp only [] at h ⊢
      split
      · rename_i hc; rw [if_pos hc] at h; exact h
      · rename_i hc; rw [if_neg hc] at h; exact fill_congr rest _ r hpq h

theorem build_run {P : Program} {t : TypeId} {ps : List (Nat × Value)} {l : List Value} (h : buildT P t ps = some l) (w : World) : (Instr.build t ps.toArray).run P w = .ok (.agg l.toArray) w := by
  unfold buildT at h
  cases hp : placeT P t with
  | none => rw [hp] at h; cases h
  | some pl =>
    cases hz : zeroT P t with
    | none => rw [hp, hz] at h; cases h
    | some z =>
      rw [hp, hz] at h
      simp only [] at h
      obtain ⟨v, hv, hrun⟩ := run_zeroValue hz
      have hf := fill_eq pl ps z l h
      have hvz : v.cells = z.toArray := by rw [← hv]
      unfold Instr.build
      simp only [Sem.run_bind, hrun w, Result.andThen_ok]
      unfold placeT at hp
      cases hu : P.underlying t with
      | none => rw [hu] at hp; cases hp
      | some d =>
        rw [hu] at hp
        have hun : (underlying t).run P w = .ok d w := by simp [underlying, hu]
        simp only [hun, Result.andThen_ok]
        cases d with
        | struct fs =>
          simp only [] at hp ⊢
          cases hall : fs.toList.all (fun f => (sizeT P f.type).isSome) with
          | false => rw [hall] at hp; cases hp
          | true =>
            rw [hall] at hp
            simp only [cond_true, Option.some.injEq] at hp
            obtain ⟨pls, h1, h2⟩ := mapM_places (P := P) w fs.toList (List.all_eq_true.1 hall)
            have hm : (fs.mapM (m := Sem) fun f => do pure (f.offset, ← sizeOf f.type)).run P w = .ok pls.toArray w := by
              rw [Array.mapM_eq_mapM_toList]
              simp only [Sem.run_map, h1, Result.andThen_ok]
            simp only [Sem.run_bind, hm, Result.andThen_ok, hvz]
            rw [fill_congr (p := fun i => pls.toArray[i]?) (q := pl) ps z.toArray l.toArray (fun i os ho => by
              rw [← hp] at ho
              rw [List.getElem?_toArray, h2 i]; exact ho) hf]
            rfl
        | array n E =>
          simp only [] at hp ⊢
          cases hs : sizeT P E with
          | none => rw [hs] at hp; cases hp
          | some zz =>
            rw [hs] at hp
            simp only [Option.map_some, Option.some.injEq] at hp
            simp only [Sem.run_bind, info_size (hs : (P.info? E).map (·.size) = some zz), Result.andThen_ok, hvz]
            rw [← hp] at hf
            rw [hf]
            rfl
        | _ => simp at hp

theorem isAgg_run {P : Program} {t : TypeId} {d : TypeDesc} (h : P.underlying t = some d) (w : World) : (isAgg t).run P w = .ok (match d with | .struct _ | .array _ _ => true | _ => false) w := by
  simp only [isAgg, underlying, Sem.run_bind, run_program, Result.andThen_ok, h, Sem.run_pure]
  cases d <;> rfl

def partV : List Value ⊕ Value → Value
  | .inl l => .agg l.toArray
  | .inr v => v

theorem field_run {P : Program} {t : TypeId} {f : Nat} {cs : Array Value} {r : List Value ⊕ Value} (h : fieldT P t f cs.toList = some r) (w : World) :
    (Instr.field t (.agg cs) f).run P w = .ok (partV r) w := by
  unfold fieldT at h
  cases hu : P.underlying t with
  | none => rw [hu] at h; cases h
  | some d =>
    rw [hu] at h
    have hun : (underlying t).run P w = .ok d w := by simp [underlying, hu]
    unfold Instr.field
    simp only [Sem.run_bind, hun, Result.andThen_ok]
    cases d with
    | struct fs =>
      simp only [] at h ⊢
      cases hf : fs.toList[f]? with
      | none => rw [hf] at h; cases h
      | some fl =>
        rw [hf] at h
        have hf' : fs[f]? = some fl := by simpa using hf
        rw [hf']
        simp only [Sem.run_bind, asAgg, Sem.run_pure, Result.andThen_ok] at h ⊢
        cases hd : P.underlying fl.type with
        | none => rw [hd] at h; cases h
        | some d' =>
          rw [hd] at h
          unfold part
          simp only [Sem.run_bind, isAgg_run hd, Result.andThen_ok]
          have scalar : (cs.toList[fl.offset]?).map Sum.inr = some r → (match cs[fl.offset]? with | some v => pure v | none => stuck "part: no such cell" : Sem Value).run P w = .ok (partV r) w := by
            intro hr
            cases hc : cs.toList[fl.offset]? with
            | none => rw [hc] at hr; cases hr
            | some v =>
              rw [hc] at hr
              simp only [Option.map_some, Option.some.injEq] at hr
              subst hr
              have : cs[fl.offset]? = some v := by simpa using hc
              rw [this]; rfl
          have agg : (sizeT P fl.type).map (fun z => Sum.inl ((cs.toList.drop fl.offset).take z)) = some r →
              (do pure (.agg (cs.extract fl.offset (fl.offset + (← sizeOf fl.type)))) : Sem Value).run P w = .ok (partV r) w := by
            intro hr
            cases hs : sizeT P fl.type with
            | none => rw [hs] at hr; cases hr
            | some z =>
              rw [hs] at hr
              simp only [Option.map_some, Option.some.injEq] at hr
              subst hr
              simp only [Sem.run_bind, info_size (hs : (P.info? fl.type).map (·.size) = some z), Result.andThen_ok, Sem.run_pure]
              congr 2
              apply Array.ext'
              simp [Array.toList_extract, List.extract_eq_take_drop]
          cases d' <;> first | exact scalar h | exact agg h
    | _ => simp at h

theorem QStep_sound {P : Program} {o : Oper} {e : Env} {h : Heap} {K : Value → Prop} (q : QStep P o e h K) :
    ∃ v, K v ∧ ∀ w, Rel h w → (execOp e.ev o).run P w = .ok (.value v) w := by
  unfold QStep at q
  split at q
  · rename_i x ho; exact ⟨_, q, fun w hr => by simp [execOp, ho]⟩
  · rename_i x ho; exact ⟨_, q, fun w hr => by simp [execOp, ho]⟩
  · rename_i op t x y t' ho
    split at q
    · rename_i k a k' b hx hy
      have fin : ∀ (v : Value) (hv : (binOp op t (.int k a) (.int k' b)) = pure v), K v → ∃ v, K v ∧ ∀ w, Rel h w → (execOp e.ev o).run P w = .ok (.value v) w := by
        intro v hv hk
        refine ⟨v, hk, fun w hr => ?_⟩
        simp only [execOp, ho, hx, hy]
        have hg : eqGuard op t x y (.int k a) (.int k' b) = pure () := by
          unfold eqGuard; cases op <;> rfl
        simp [hg, hv]
      split at q
      · obtain ⟨hb, q⟩ := q
        exact fin _ (by simp [binOp, Op.shift, Int.not_lt.2 hb]) q.out
      · obtain ⟨hb, q⟩ := q
        exact fin _ (by simp [binOp, Op.shift, Int.not_lt.2 hb]) q.out
      · rename_i hn1 hn2
        by_cases hk : k = k'
        · subst hk
          simp only [decide_true, cond_true] at q
          cases op <;> simp only [] at q
          case lss => exact fin _ (by simp [binOp, Op.intCmp]) q.get
          case leq => exact fin _ (by simp [binOp, Op.intCmp]) q.get
          case gtr => exact fin _ (by simp [binOp, Op.intCmp]) q.get
          case geq => exact fin _ (by simp [binOp, Op.intCmp]) q.get
          case eql => exact fin _ (by simp [binOp, Op.intCmp]; rfl) q.get
          case neq => exact fin _ (by simp [binOp, Op.intCmp, bne]; rfl) q.get
          case add => exact fin _ (by simp [binOp, Op.intArith]) q.out
          case sub => exact fin _ (by simp [binOp, Op.intArith]) q.out
          case mul => exact fin _ (by simp [binOp, Op.intArith]) q.out
          case quo => exact fin _ (by simp [binOp, Op.intDiv, q.1]) q.2.out
          case rem => exact fin _ (by simp [binOp, Op.intDiv, q.1]) q.2.out
          case and => exact fin _ (by simp [binOp, Op.intBits]) q.out
          case or => exact fin _ (by simp [binOp, Op.intBits]) q.out
          case xor => exact fin _ (by simp [binOp, Op.intBits]) q.out
          case andNot => exact fin _ (by simp [binOp, Op.intBits]) q.out
        · simp only [hk, decide_false, cond_false] at q
    · obtain ⟨v, hv, k⟩ := q.out
      exact ⟨v, k, fun w hr => hv w⟩
    · rename_i a b hx hy
      obtain ⟨v, hv, k⟩ := q.out
      refine ⟨v, k, fun w hr => ?_⟩
      simp only [execOp, ho, hx, hy]
      have hg : eqGuard op t x y (.string a) (.string b) = pure () := by
        unfold eqGuard; cases op <;> rfl
      simp [hg, hv]
    · exact QRaw_sound q
  · rename_i t x ix ho
    split at q
    · rename_i s k i hx hi
      obtain ⟨hu, h0, b, hb, hk⟩ := q.out
      exact ⟨_, hk, fun w hr => by simp [execOp, ho, hx, hi, Instr.index, asIntOf, underlying, hu, h0, hb]⟩
    · exact QRaw_sound q
  · rename_i t x ix ok ho
    split at q
    · rename_i r hx
      obtain ⟨v, k, hv⟩ := rwp_sound _ q.out
      exact ⟨v, k, fun w hr => by simp [execOp, ho, hx, hv w hr]⟩
    · exact QRaw_sound q
  · rename_i t x ix ho
    split at q
    · rename_i base len cap k i hx hi
      obtain ⟨⟨h0, h1⟩, b, off, E, z, rfl, hu, hz, hk⟩ := q.out
      refine ⟨_, hk, fun w hr => ?_⟩
      have hadd : (⟨b, off, none⟩ : Addr).add (i.toNat * z) = ⟨b, off + i.toNat * z, none⟩ := by
        unfold Addr.add; split
        · rename_i hz0; rw [hz0]; rfl
        · rfl
      simp [execOp, ho, hx, hi, Instr.indexAt, asIntOf, underlying, hu, h0, h1, info_size hz, hadd]
    · rename_i b off k i hx hi
      obtain ⟨n, E, z, hu, hz, ⟨h0, h1⟩, hk⟩ := q.out
      refine ⟨_, hk, fun w hr => ?_⟩
      have hadd : (⟨b, off, none⟩ : Addr).add (i.toNat * z) = ⟨b, off + i.toNat * z, none⟩ := by
        unfold Addr.add; split
        · rename_i hz0; rw [hz0]; rfl
        · rfl
      simp [execOp, ho, hx, hi, Instr.indexAt, asIntOf, underlying, hu, h0, h1, info_size hz, hadd, Instr.sureAddr]
    · exact QRaw_sound q
  · rename_i t x lo hi mx ho
    split at q
    · rename_i base len cap hx
      obtain ⟨l, hh, m, hl, hhi, hm, h1, h2, h3, E, z, hu, hz, hk⟩ := q.out
      refine ⟨_, hk, fun w hr => ?_⟩
      simp only [execOp, ho, hx, Instr.sliceAt, Instr.slice]
      have hb : (Instr.sliceBounds true len cap (lo.map e.ev) (hi.map e.ev) (mx.map e.ev)).run P w = .ok (l, hh, m) w := by
        unfold Instr.sliceBounds
        rcases hm with ⟨hm, rfl⟩ | ⟨km, hm⟩ <;> rcases hhi with ⟨hhi, rfl, hmx⟩ | ⟨kh, hhi⟩ <;> rcases hl with ⟨hl, rfl⟩ | ⟨kl, hl⟩ <;>
          first
            | (rw [hm] at hmx; cases hmx; done)
            | (simp [hm, hhi, hl, sliceBound_run w h1, sliceBound_run w h2, sliceBound_run w h3, sliceBound_run w (Nat.le_trans h2 h3)]; done)
      simp [underlying, hu, hb, info_size hz]
    · exact QRaw_sound q
  · rename_i t x ho
    split at q
    · rename_i ad hx
      obtain ⟨v, k, hv⟩ := rwp_sound _ q.out
      exact ⟨v, k, fun w hr => by simp [execOp, ho, hx, Instr.loadAt, Instr.sureAddr, hv w hr]⟩
    · exact q.elim
  · rename_i t x f ho
    split at q
    · rename_i b off fo hx hf
      rw [forceO_iff] at q
      refine ⟨_, q, fun w hr => ?_⟩
      unfold fieldOff at hf
      cases hu : P.underlying t with
      | none => rw [hu] at hf; cases hf
      | some d =>
        rw [hu] at hf
        cases d with
        | struct fs =>
          simp only [] at hf
          cases hfl : fs.toList[f]? with
          | none => rw [hfl] at hf; cases hf
          | some fl =>
            rw [hfl] at hf
            simp only [] at hf
            cases hz : sizeT P fl.type with
            | none => rw [hz] at hf; cases hf
            | some z =>
              rw [hz] at hf
              cases z with
              | zero => cases hf
              | succ z =>
                simp only [Option.some.injEq] at hf
                subst hf
                have hf' : fs[f]? = some fl := by simpa using hfl
                have hadd : (⟨b, off, none⟩ : Addr).add fl.offset = ⟨b, off + fl.offset, none⟩ := by
                  unfold Addr.add; split
                  · rename_i hz0; rw [hz0]; rfl
                  · rfl
                simp [execOp, ho, hx, Instr.fieldAt, underlying, hu, hf', Instr.sureAddr, fieldPlace, info_size hz, hadd]
        | _ => simp at hf
    · exact QRaw_sound q
  · rename_i t ps ho
    split at q
    · rename_i l hl
      rw [forceL_iff] at q
      refine ⟨_, q, fun w hr => ?_⟩
      have he : (ps.map fun (p : Nat × Operand) => (p.1, e.ev p.2)) = (ps.toList.map fun p => (p.1, e.ev p.2)).toArray := by apply Array.ext'; simp
      simp only [execOp, ho]
      have := build_run hl w
      rw [← he] at this
      simp only [Sem.run_bind]
      erw [this]
      rfl
    · exact q.elim
  · rename_i t x f ho
    split at q
    · rename_i cs hx
      split at q
      · rename_i l hl
        rw [forceL_iff] at q
        exact ⟨_, q, fun w hr => by simp only [execOp, ho, hx, Sem.run_bind, field_run hl w, Result.andThen_ok, Sem.run_pure, partV]⟩
      · rename_i v hl
        exact ⟨_, q, fun w hr => by simp only [execOp, ho, hx, Sem.run_bind, field_run hl w, Result.andThen_ok, Sem.run_pure, partV]⟩
      · exact q.elim
    · exact q.elim
  · rename_i s d x ho
    split at q
    · rename_i k0 k k1 n hs hd hx
      refine ⟨_, q.out, fun w hr => ?_⟩
      simp [execOp, ho, hx, convert, underlying, hs, hd, Conv.intToInt]
    · exact q.elim
  · rename_i c ho
    have he : (c.args.map e.ev).toList = c.args.toList.map e.ev := by simp
    split at q
    · rename_i a n cp hc ha
      split at q
      · rename_i E ht
        refine ⟨_, q, fun w hr => ?_⟩
        cases ht' : c.argTypes[0]? with
        | none => rw [ht'] at ht; cases ht
        | some t0 =>
          rw [ht'] at ht
          have ha' : c.args.map e.ev = #[.slice a n cp] := by apply Array.ext'; rw [he, ha]
          simp only [Option.bind_some] at ht
          simp only [execOp, ho, resolve, hc, Sem.run_bind, Sem.run_pure, Result.andThen_ok, invoke, builtin, Builtin.len_, ht', ha']
          simp [underlying, ht, goInt]
      · exact q.elim
    · rename_i s hc ha
      split at q
      · rename_i ht
        refine ⟨_, q, fun w hr => ?_⟩
        cases ht' : c.argTypes[0]? with
        | none => rw [ht'] at ht; cases ht
        | some t0 =>
          rw [ht'] at ht
          have ha' : c.args.map e.ev = #[.string s] := by apply Array.ext'; rw [he, ha]
          simp only [Option.bind_some] at ht
          simp only [execOp, ho, resolve, hc, Sem.run_bind, Sem.run_pure, Result.andThen_ok, invoke, builtin, Builtin.len_, ht', ha']
          simp [underlying, ht, goInt]
      · exact q.elim
    · rename_i r hc ha
      split at q
      · rename_i k0 e0 ht
        obtain ⟨tg, es, clock, hm, hk⟩ := q.out
        refine ⟨_, hk, fun w hr => ?_⟩
        cases ht' : c.argTypes[0]? with
        | none => rw [ht'] at ht; cases ht
        | some t0 =>
          rw [ht'] at ht
          have ha' : c.args.map e.ev = #[.map (some r)] := by apply Array.ext'; rw [he, ha]
          simp only [Option.bind_some] at ht
          simp only [execOp, ho, resolve, hc, Sem.run_bind, Sem.run_pure, Result.andThen_ok, invoke, builtin, Builtin.len_, ht', ha']
          simp [underlying, ht, goInt, getObj, Sem.run, hr _ _ _ hm]
      · exact q.elim
    · rename_i a n cp hc ha
      split at q
      · rename_i E ht
        refine ⟨_, q, fun w hr => ?_⟩
        cases ht' : c.argTypes[0]? with
        | none => rw [ht'] at ht; cases ht
        | some t0 =>
          rw [ht'] at ht
          have ha' : c.args.map e.ev = #[.slice a n cp] := by apply Array.ext'; rw [he, ha]
          simp only [Option.bind_some] at ht
          simp only [execOp, ho, resolve, hc, Sem.run_bind, Sem.run_pure, Result.andThen_ok, invoke, builtin, Builtin.cap_, ht', ha']
          simp [underlying, ht, goInt]
      · exact q.elim
    · rename_i k a k' b hc ha
      refine ⟨_, q.out, fun w hr => ?_⟩
      have ha' : c.args.map e.ev = #[.int k a, .int k' b] := by apply Array.ext'; rw [he, ha]
      simp only [execOp, ho, resolve, hc, Sem.run_bind, Sem.run_pure, Result.andThen_ok, invoke, builtin, Builtin.min_, ha']
      simp [Builtin.min2]
    · rename_i k a k' b hc ha
      refine ⟨_, q.out, fun w hr => ?_⟩
      have ha' : c.args.map e.ev = #[.int k a, .int k' b] := by apply Array.ext'; rw [he, ha]
      simp only [execOp, ho, resolve, hc, Sem.run_bind, Sem.run_pure, Result.andThen_ok, invoke, builtin, Builtin.max_, ha']
      simp [Builtin.max2]
    · exact QRaw_sound q
  · exact QRaw_sound q

/-! ### operations with an effect -/

def quietConv (P : Program) (s d : TypeId) : Bool :=
  match P.underlying s, P.underlying d with
  | some (.int _), some (.int _) => true
  | _, _ => false

def isQuiet (P : Program) : Op → Bool
  | .move _ | .assign _ | .pick .. | .build .. | .load .. | .nilCheck _ | .binOp .. | .unOp .. | .slice .. | .fieldAddr .. | .field .. | .indexAddr .. | .index .. | .lookup .. | .extract .. => true
  | .convert s d _ => quietConv P s d
  | .call c => match c.callee with
    | .builtin .len | .builtin .cap | .builtin .min | .builtin .max => true
    | _ => false
  | _ => false

def AStep (P : Program) (o : Oper) (e : Env) (h : Heap) (K : Value → Heap → Prop) : Prop :=
  bif isQuiet P o.op then QStep P o e h (fun v => K v h) else
  match o.op with
  | .call c => match c.callee with
    | .value (.func f) => ACalls P f (c.args.toList.map e.ev).toArray h K
    | .builtin .append => AAppend P c.argTypes o.type (c.args.toList.map e.ev).toArray h K
    | .builtin .clear => AClear P c.argTypes o.type (c.args.toList.map e.ev).toArray h K
    | .builtin .copy => ACopy P c.argTypes o.type (c.args.toList.map e.ev).toArray h K
    | .builtin .delete => ADelete P c.argTypes o.type (c.args.toList.map e.ev).toArray h K
    | _ => ARaw P o e h K
  | .store t x y => match e.ev x with
    | .pointer (some a) => force (e.ev y) fun v => AStore P t a v h (fun h' => K undef h')
    | _ => False
  | .alloc t => AAlloc P t h K
  | .box t x => force (e.ev x) fun v => ABox P t v h K
  | .buildSlice t n ps => ABuildSl P t n (ps.toList.map fun p => (p.1, e.ev p.2)).toArray h K
  | .makeSlice t l c => AMakeSl P t (e.ev l) (e.ev c) h K
  | .makeMap t none => AMakeMap h K
  | .mapUpdate t m k x => match e.ev m with
    | .map (some r) => force (e.ev k) fun k => force (e.ev x) fun x => AMapUpd P t r k x h (fun h' => K undef h')
    | _ => False
  | _ => ARaw P o e h K

theorem AOp_wp {P : Program} {o : Oper} {e : Env} {h : Heap} {K : Value → Heap → Prop} {n : Nat} {a : Act} {w : World} {next : Act → World → Prop}
    {Q : Exit → Act → World → Prop} {β : Base} (f : Fits n e a) (hr : RelB β h w) (s : AStep P o e h K)
    (hn : ∀ v h' w', K v h' → RelB β h' w' → next (a.put o.dst v) w') : o.wp P a w next Q := by
  unfold Oper.wp
  rw [f.eval]
  have raw : ARaw P o e h K → o.upon P a next Q ((execOp e.ev o).run P w) := by
    intro s
    obtain ⟨x, w', h', er, r, q⟩ := awp_sound _ s hr
    rw [er]
    cases x with
    | value v => exact hn v h' w' q r
    | skip => exact hn undef h' w' q r
    | enter f' args => exact (q.2 β w' r).mono fun e' w'' ⟨v, h'', e1, r1, q1⟩ => by subst e1; exact hn v h'' w'' q1 r1
    | _ => exact q.elim
  have val : ∀ {s' : Sem Value}, awp P s' h K → execOp e.ev o = (do pure (.value (← s'))) → o.upon P a next Q ((execOp e.ev o).run P w) := by
    intro s' k he
    obtain ⟨v, w', h', er, r, q⟩ := awp_sound _ k hr
    rw [he]
    simp only [Sem.run_bind, er, Result.andThen_ok, Sem.run_pure]
    exact hn v h' w' q r
  unfold AStep at s
  by_cases hq : isQuiet P o.op = true
  · rw [hq, cond_true] at s
    obtain ⟨v, k, e'⟩ := QStep_sound s
    rw [e' w hr.rel]
    exact hn v h w k hr
  · simp only [Bool.not_eq_true] at hq
    rw [hq, cond_false] at s
    split at s
    · rename_i c ho
      have hargs : (c.args.toList.map e.ev).toArray = c.args.map e.ev := by apply Array.ext'; simp
      rw [hargs] at s
      split at s
      · rename_i f' hc
        obtain ⟨⟨fn, hf, hb, hnm⟩, s⟩ := s
        have hb' : fn.body ≠ none := by intro hbb; rw [hbb] at hb; cases hb
        have hn' : fn.name ≠ "runtime.NumGoroutine" := by intro hbb; rw [hbb] at hnm; simp at hnm
        have er : (execOp e.ev o).run P w = .ok (.enter f' (c.args.map e.ev)) w := by
          simp [execOp, ho, resolve, hc, Env.ev, Deferred.ofValue, invoke, callFunc, hf, hb', hn']
        rw [er]
        exact (s β w hr).mono fun e' w'' ⟨v, h'', e1, r1, q1⟩ => by subst e1; exact hn v h'' w'' q1 r1
      · rename_i hc; exact val s.out (by simp only [execOp, ho, resolve, hc]; rfl)
      · rename_i hc; exact val s.out (by simp only [execOp, ho, resolve, hc]; rfl)
      · rename_i hc; exact val s.out (by simp only [execOp, ho, resolve, hc]; rfl)
      · rename_i hc; exact val s.out (by simp only [execOp, ho, resolve, hc]; rfl)
      · exact raw s
    · rename_i t x y ho
      split at s
      · rename_i ad hx
        rw [force_iff] at s
        obtain ⟨v, w', h', er, r, q⟩ := awp_sound _ s.out hr
        simp only [execOp, ho, hx, Instr.storeAt, Instr.sureAddr, Sem.run_bind, Sem.run_pure, Result.andThen_ok, er]
        exact hn undef h' w' q r
      · exact s.elim
    · rename_i t ho; exact val s.out (by simp only [execOp, ho])
    · rename_i t x ho; rw [force_iff] at s; exact val s.out (by simp only [execOp, ho])
    · rename_i t n' ps ho
      have hps : (ps.toList.map fun (p : Nat × Operand) => (p.1, e.ev p.2)).toArray = ps.map fun p => (p.1, e.ev p.2) := by apply Array.ext'; simp
      rw [hps] at s
      exact val s.out (by simp only [execOp, ho])
    · rename_i t l c ho; exact val s.out (by simp only [execOp, ho])
    · rename_i t ho
      refine val (s' := Instr.makeMap t none) ?_ (by simp only [execOp, ho]; rfl)
      obtain ⟨tg, k⟩ := s.out
      exact ⟨tg, k⟩
    · rename_i t m k x ho
      split at s
      · rename_i r hx
        rw [force_iff, force_iff] at s
        obtain ⟨v, w', h', er, r', q⟩ := awp_sound _ s.out hr
        simp only [execOp, ho, hx, Sem.run_bind, Sem.run_pure, Result.andThen_ok, er]
        exact hn undef h' w' q r'
      · exact s.elim
    · exact raw s

/-! ### a region whose order is its text's -/

abbrev Post := Exit → Env → Heap → Prop

def lift (β : Base) (n : Nat) (Q : Post) (x : Exit) (a : Act) (w : World) : Prop :=
  match x with
  | .panic _ | .outgrown => False
  | x => ∃ e h, Fits n e a ∧ RelB β h w ∧ Q x e h

def wantedE (o : Oper) (ops : Array Oper) (e : Env) : Bool :=
  match o.guard with
  | none => true
  | some (j, want) => match yieldedE ops e j with
    | some b => b == want
    | none => false

theorem wanted_eq {n : Nat} {e : Env} {a : Act} (f : Fits n e a) (o : Oper) (ops : Array Oper) : Region.wanted o (yielded ops a.tmps) = wantedE o ops e := by
  unfold Region.wanted wantedE
  rw [f.yielded]
  cases o.guard with
  | none => rfl
  | some p =>
    obtain ⟨j, want⟩ := p
    simp only []
    cases yieldedE ops e j with
    | none => rfl
    | some b => cases b <;> cases want <;> rfl

def putE (n : Nat) (e : Env) (d : Option Tmp) (v : Value) (k : Env → Prop) : Prop :=
  match d with
  | none => k e
  | some d => k (upd n e d v)
theorem putE_iff (n : Nat) (e : Env) (d : Option Tmp) (v : Value) (k : Env → Prop) : putE n e d v k ↔ k (updO n e d v) := by cases d <;> rfl

def AOp1 (wanted : Bool) (P : Program) (o : Oper) (e : Env) (h : Heap) (K : Value → Heap → Prop) : Prop := bif wanted then AStep P o e h K else K undef h
def contE (n : Nat) (e : Env) (d : Option Tmp) (k : Env → Heap → Prop) (v : Value) (h : Heap) : Prop := force v fun v => putE n e d v fun e' => k e' h
theorem contE_iff (n : Nat) (e : Env) (d : Option Tmp) (k : Env → Heap → Prop) (v : Value) (h : Heap) : contE n e d k v h ↔ k (updO n e d v) h := by
  unfold contE; rw [force_iff, putE_iff]

def AList (P : Program) (n : Nat) (ops : Array Oper) (Q : Post) : List Oper → Env → Heap → Prop
  | [], e, h => Q .normal e h
  | o :: rest, e, h => AOp1 (wantedE o ops e) P o e h (contE n e o.dst (AList P n ops Q rest))

theorem AList_wp {P : Program} {β : Base} {n : Nat} {ops : Array Oper} {Q : Post} : ∀ (l : List Oper) (e : Env) (h : Heap) (a : Act) (w : World),
    AList P n ops Q l e h → Fits n e a → RelB β h w → wpList P ops (lift β n Q) l a w
  | [], e, h, a, w, k, f, r => ⟨e, h, f, r, k⟩
  | o :: rest, e, h, a, w, k, f, r => by
    unfold wpList
    rw [wanted_eq f]
    unfold AList AOp1 at k
    cases hw : wantedE o ops e with
    | true =>
      rw [hw, cond_true] at k
      rw [if_pos rfl]
      exact .inl (AOp_wp f r k fun v h' w' k' r' => AList_wp rest _ h' _ w' ((contE_iff ..).1 k') (f.updO o.dst v) r')
    | false =>
      rw [hw, cond_false] at k
      rw [if_neg (by simp)]
      exact AList_wp rest _ h _ w ((contE_iff ..).1 k) (f.updO o.dst undef) r

end Go.Ah
