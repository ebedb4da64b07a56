/- The rules for regions that draw their order, for code, for bodies. No program in sight. -/
import Derived.Test.YtmlgbkighdiniaaEng2
namespace Go.Ah
set_option linter.unusedVariables false
set_option linter.unusedSimpArgs false

section
variable {P : Program} {ops : Array Oper} {Q : Exit → Act → World → Prop} {md : Region.Mode} {S : World → Prop} {D : Nat → Bool}

/-- Whatever order is picked from here on; S holds behind each operation, but for those in D, behind which nothing is asked. -/
def wpAnyD (P : Program) (md : Region.Mode) (ops : Array Oper) (Q : Exit → Act → World → Prop) (S : World → Prop) (D : Nat → Bool) : Nat → Array Bool → Act → World → Prop
  | 0, listed, a, w => Region.ready md ops listed = [] ∧ Q .normal a w
  | fuel + 1, listed, a, w =>
    (Region.ready md ops listed = [] → Q .normal a w) ∧
    ∀ i ∈ Region.ready md ops listed, wpOp P ops Q i (fun a' w' => (D i = true ∧ wpAny P md ops Q fuel (listed.setIfInBounds i true) a' w') ∨
      (S w' ∧ wpAnyD P md ops Q S D fuel (listed.setIfInBounds i true) a' w')) a w

theorem wpAny_of_D : ∀ (fuel : Nat) (listed : Array Bool) (a : Act) (w : World), wpAnyD P md ops Q S D fuel listed a w → wpAny P md ops Q fuel listed a w
  | 0, _, _, _, h => h
  | fuel + 1, _, _, _, h => ⟨h.1, fun i hi => wpOp_mono (fun a' w' h' => h'.elim (fun x => x.2) (fun x => wpAny_of_D fuel _ a' w' x.2)) (h.2 i hi)⟩

theorem wpAnyD_first {i : Nat} {oi : Oper} {v : Value} (hi : ops[i]? = some oi) (hsel : ∀ (j : Nat) (o : Oper) cs b, ops[j]? = some o → o.op ≠ .select cs b)
    (hQ : ∀ c a w, Q (.panic c) (a.put oi.dst v) w → Q (.panic c) a w)
    :
    ∀ (fuel : Nat) (listed : Array Bool) (a : Act) (w : World),
      (∀ j oj, ops[j]? = some oj → listed.getD j true = false → D j = true → ∃ e ∈ oj.after, Region.binds md e = true ∧ e.on = i) →
      (∀ j oj, ops[j]? = some oj → j ≠ i → listed.getD j true = false → (∀ e ∈ oj.after, Region.binds md e = true → e.on ≠ i) → oi.apart ops oj = true) →
      i ∈ Region.ready md ops listed → YieldsIf P ops S oi v a → S w →
      wpAnyD P md ops Q S D fuel (listed.setIfInBounds i true) (a.put oi.dst v) w → wpAnyD P md ops Q S D (fuel + 1) listed a w := by
  intro fuel
  induction fuel with
  | zero =>
    intro listed a w _ _ hr hy hS H
    refine ⟨fun h => (by rw [h] at hr; cases hr), fun j hj => ?_⟩
    by_cases hji : j = i
    · subst hji; exact hy.wpOp hi hS (.inr ⟨hS, H⟩)
    · have := ready_mono hj hji
      rw [H.1] at this
      cases this
  | succ fuel ih =>
    intro listed a w hD hfree hr hy hS H
    refine ⟨fun h => (by rw [h] at hr; cases hr), fun j hj => ?_⟩
    by_cases hji : j = i
    · subst hji; exact hy.wpOp hi hS (.inr ⟨hS, H⟩)
    · have h1 := H.2 j (ready_mono hj hji)
      obtain ⟨hjun, oj, hoj, hall⟩ := mem_ready.1 hj
      have hnot : ∀ e ∈ oj.after, Region.binds md e = true → e.on ≠ i := fun e he hb heq => by
        have h1 := hall e he hb
        have h0 := (mem_ready.1 hr).1
        rw [heq] at h1
        rcases Nat.lt_or_ge i listed.size with h' | h'
        · simp [h'] at h0 h1; rw [h0] at h1; cases h1
        · simp [Array.getElem?_eq_none h'] at h1
      have hDj : D j = false := by
        cases hd : D j with
        | false => rfl
        | true =>
          obtain ⟨e, he, hb, hon⟩ := hD j oj hoj hjun hd
          exact absurd hon (hnot e he hb)
      have h1' := wpOp_mono (fun a' w' x => (x.resolve_left (by rw [hDj]; simp) : S w' ∧ wpAnyD P md ops Q S D fuel ((listed.setIfInBounds i true).setIfInBounds j true) a' w')) h1
      have h2 := wpOp_putIf hoj (hfree j oj hoj hji hjun hnot) (fun cs b => hsel i oi cs b hi) (fun cs b => hsel j oj cs b hoj) hQ hy h1'
      have hfree' : ∀ k ok, ops[k]? = some ok → k ≠ i → (listed.setIfInBounds j true).getD k true = false →
          (∀ e ∈ ok.after, Region.binds md e = true → e.on ≠ i) → oi.apart ops ok = true := fun k ok hk hki hun hno => by
        refine hfree k ok hk hki ?_ hno
        by_cases hjk : j = k
        · subst hjk; exact hjun
        · rw [getD_set_ne true hjk] at hun; exact hun
      have hD' : ∀ k ok, ops[k]? = some ok → (listed.setIfInBounds j true).getD k true = false → D k = true → ∃ e ∈ ok.after, Region.binds md e = true ∧ e.on = i := fun k ok hk hun hd => by
        refine hD k ok hk ?_ hd
        by_cases hjk : j = k
        · subst hjk; exact hjun
        · rw [getD_set_ne true hjk] at hun; exact hun
      refine wpOp_mono (fun a' w' h3 => .inr ⟨h3.2.1, ih (listed.setIfInBounds j true) a' w' hD' hfree' (ready_mono hr (Ne.symm hji)) h3.1 h3.2.1 ?_⟩) h2
      rw [Array.setIfInBounds_comm _ _ hji]
      exact h3.2.2
end

section
variable {P : Program} {ops : Array Oper} {Q : Exit → Act → World → Prop} {md : Region.Mode} {S : World → Prop} {D : Nat → Bool}
/-- What yields its value in whatever world may be taken first, whatever S and D are. -/
theorem wpAnyD_first_pure {i : Nat} {oi : Oper} {v : Value} (hi : ops[i]? = some oi) (hsel : ∀ (j : Nat) (o : Oper) cs b, ops[j]? = some o → o.op ≠ .select cs b)
    (hQ : ∀ c a w, Q (.panic c) (a.put oi.dst v) w → Q (.panic c) a w) :
    ∀ (fuel : Nat) (listed : Array Bool) (a : Act) (w : World),
      (∀ j oj, ops[j]? = some oj → j ≠ i → listed.getD j true = false → (∀ e ∈ oj.after, Region.binds md e = true → e.on ≠ i) → oi.apart ops oj = true) →
      i ∈ Region.ready md ops listed → Yields P ops oi v a → S w →
      wpAnyD P md ops Q S D fuel (listed.setIfInBounds i true) (a.put oi.dst v) w → wpAnyD P md ops Q S D (fuel + 1) listed a w := by
  intro fuel
  induction fuel with
  | zero =>
    intro listed a w _ hr hy hS H
    refine ⟨fun h => (by rw [h] at hr; cases hr), fun j hj => ?_⟩
    by_cases hji : j = i
    · subst hji; exact hy.wpOp hi (.inr ⟨hS, H⟩)
    · have := ready_mono hj hji
      rw [H.1] at this
      cases this
  | succ fuel ih =>
    intro listed a w hfree hr hy hS H
    refine ⟨fun h => (by rw [h] at hr; cases hr), fun j hj => ?_⟩
    by_cases hji : j = i
    · subst hji; exact hy.wpOp hi (.inr ⟨hS, H⟩)
    · have h1 := H.2 j (ready_mono hj hji)
      obtain ⟨hjun, oj, hoj, hall⟩ := mem_ready.1 hj
      have hnot : ∀ e ∈ oj.after, Region.binds md e = true → e.on ≠ i := fun e he hb heq => by
        have h1 := hall e he hb
        have h0 := (mem_ready.1 hr).1
        rw [heq] at h1
        rcases Nat.lt_or_ge i listed.size with h' | h'
        · simp [h'] at h0 h1; rw [h0] at h1; cases h1
        · simp [Array.getElem?_eq_none h'] at h1
      have h2 := wpOp_put hoj (hfree j oj hoj hji hjun hnot) (fun cs b => hsel i oi cs b hi) (fun cs b => hsel j oj cs b hoj) hQ hy h1
      have hfree' : ∀ k ok, ops[k]? = some ok → k ≠ i → (listed.setIfInBounds j true).getD k true = false →
          (∀ e ∈ ok.after, Region.binds md e = true → e.on ≠ i) → oi.apart ops ok = true := fun k ok hk hki hun hno => by
        refine hfree k ok hk hki ?_ hno
        by_cases hjk : j = k
        · subst hjk; exact hjun
        · rw [getD_set_ne true hjk] at hun; exact hun
      refine wpOp_mono (fun a' w' h3 => ?_) h2
      obtain ⟨hy', h3⟩ := h3
      rcases h3 with ⟨hd, h3⟩ | ⟨hs, h3⟩
      · refine .inl ⟨hd, wpAny_first hi hsel hQ fuel (listed.setIfInBounds j true) a' w' hfree' (ready_mono hr (Ne.symm hji)) hy' ?_⟩
        rw [Array.setIfInBounds_comm _ _ hji]
        exact h3
      · refine .inr ⟨hs, ih (listed.setIfInBounds j true) a' w' hfree' (ready_mono hr (Ne.symm hji)) hy' hs ?_⟩
        rw [Array.setIfInBounds_comm _ _ hji]
        exact h3
end

/-- what reads memory, if it is quiet -/
def isLoad : Op → Bool
  | .load .. | .lookup .. | .binOp .eql .. | .binOp .neq .. => true
  | .call c => match c.callee with
    | .builtin .len => true
    | _ => false
  | _ => false

/-- what has been taken, the last one first -/
def pl (n : Nat) : List Nat → Array Bool
  | [] => Array.replicate n false
  | i :: d => (pl n d).setIfInBounds i true

def planAt (P : Program) (ops : Array Oper) (D d : List Nat) (i : Nat) : Bool :=
  (Region.ready .any ops (pl ops.size d)).contains i &&
  match ops[i]? with
  | none => false
  | some o => bif isQuiet P o.op then
      Region.free .any ops (pl ops.size d) i && (!isLoad o.op || D.all (fun j => d.contains j || match ops[j]? with | none => true | some oj => oj.after.any (fun e => Region.binds .any e && e.on == i)))
    else Region.ready .any ops (pl ops.size d) == [i]
/-- In which order a region is taken: one operation after the other, or, where more than one may come up, each of them. -/
inductive Tree where
  | done
  | take (i : Nat) (t : Tree)
  | alt (i : Nat) (t : Tree) (u : Tree)
  | stop
def Tree.ofList : List Nat → Tree
  | [] => .done
  | i :: r => .take i (Tree.ofList r)
def Tree.heads : Tree → List Nat
  | .alt i _ u => i :: u.heads
  | _ => []
def planGo (P : Program) (ops : Array Oper) (D : List Nat) : Nat → List Nat → Bool → Tree → Bool
  | _, d, b, .done => !b && (Region.ready .any ops (pl ops.size d)).isEmpty
  | 0, d, b, .take i t => false
  | n + 1, d, b, .take i t => !b && planAt P ops D d i && planGo P ops D n (i :: d) false t
  | 0, d, b, .alt i t u => false
  | n + 1, d, b, .alt i t u => (b || (!(Region.ready .any ops (pl ops.size d)).isEmpty && (Region.ready .any ops (pl ops.size d)).all (fun j => (Tree.alt i t u).heads.contains j))) && (ops[i]?).isSome && planGo P ops D n (i :: d) false t && planGo P ops D (n + 1) d true u
  | _, d, b, .stop => b
/-- This order serves: what only reads may be taken first, what has an effect is the only one that may come up; or each one that may come up is looked at. -/
def planT (P : Program) (ops : Array Oper) (D : List Nat) (t : Tree) : Bool :=
  Region.noSelect ops &&
  D.all (fun j => match ops[j]? with | none => true | some o => !isQuiet P o.op) && planGo P ops D ops.size [] false t
def planO (P : Program) (ops : Array Oper) (D ord : List Nat) : Bool := planT P ops D (Tree.ofList ord)
/-- The text's order serves. -/
def plan (P : Program) (ops : Array Oper) (D : List Nat) : Bool := planO P ops D (List.range ops.size)

def nilHeap : Heap := fun _ => none

def AOp2 (wanted quiet isD : Bool) (P : Program) (S : Heap) (D : List Nat) (o : Oper) (e : Env) (h : Heap) (K : Heap → List Nat → Value → Heap → Prop) : Prop :=
  bif wanted then (bif quiet then QStep P o e (bif isLoad o.op then S else nilHeap) (fun v => K S D v h)
    else AStep P o e h (fun v h' => bif isD then K nilHeap [] v h' else Sub S h' ∧ K S D v h'))
  else K S D undef h

def AText (P : Program) (n : Nat) (ops : Array Oper) (Q : Post) : Tree → Heap → List Nat → Env → Heap → Prop
  | .done, _, _, e, h => Q .normal e h
  | .take i rest, S, D, e, h => match ops[i]? with
    | some o => AOp2 (wantedE o ops e) (isQuiet P o.op) (D.contains i) P S D o e h (fun S' D' => contE n e o.dst (AText P n ops Q rest S' D'))
    | none => False
  | .alt i rest u, S, D, e, h => (match ops[i]? with
    | some o => AOp2 (wantedE o ops e) (isQuiet P o.op) (D.contains i) P S D o e h (fun S' D' => contE n e o.dst (AText P n ops Q rest S' D'))
    | none => False) ∧ AText P n ops Q u S D e h
  | .stop, _, _, _, _ => True

theorem lift_panic {β : Base} {n : Nat} {Q : Post} {c : List PanicEntry} {a a' : Act} {w : World} (h : lift β n Q (.panic c) a w) : lift β n Q (.panic c) a' w := h

theorem pl_size (n : Nat) : ∀ d, (pl n d).size = n
  | [] => by simp [pl]
  | i :: d => by simp [pl, pl_size n d]
theorem pl_listed (n : Nat) : ∀ (d : List Nat) (j : Nat), j ∈ d → j < n → (pl n d).getD j true = true
  | i :: d, j, h, hn => by
    by_cases hij : i = j
    · subst hij; simp [pl, pl_size, hn]
    · rw [pl, getD_set_ne true hij]
      exact pl_listed n d j ((List.mem_cons.1 h).resolve_left (Ne.symm hij)) hn
theorem planGo_nil {P : Program} {ops : Array Oper} {D : List Nat} : ∀ (t : Tree) (n : Nat) (d : List Nat) (b : Bool), planGo P ops D n d b t = true → planGo P ops [] n d b t = true
  | .done, n, d, b, h => by cases n <;> exact h
  | .stop, n, d, b, h => by cases n <;> exact h
  | .take i r, 0, d, b, h => by simp [planGo] at h
  | .alt i r u, 0, d, b, h => by simp [planGo] at h
  | .alt i r u, n + 1, d, b, h => by
    unfold planGo at h ⊢
    simp only [Bool.and_eq_true] at h ⊢
    exact ⟨⟨h.1.1, planGo_nil r _ _ _ h.1.2⟩, planGo_nil u _ _ _ h.2⟩
  | .take i r, n + 1, d, b, h => by
    unfold planGo at h ⊢
    simp only [Bool.and_eq_true] at h ⊢
    refine ⟨⟨h.1.1, ?_⟩, planGo_nil r n (i :: d) false h.2⟩
    have h1 := h.1.2
    unfold planAt at h1 ⊢
    rw [Bool.and_eq_true] at h1 ⊢
    refine ⟨h1.1, ?_⟩
    have h2 := h1.2
    cases ho : ops[i]? with
    | none => rw [ho] at h2; cases h2
    | some o =>
      rw [ho] at h2
      simp only [] at h2 ⊢
      cases hq : isQuiet P o.op with
      | true => rw [hq, cond_true, Bool.and_eq_true] at h2; rw [cond_true, Bool.and_eq_true]; exact ⟨h2.1, by simp⟩
      | false => rw [hq, cond_false] at h2; rw [cond_false]; exact h2

/-- What is to be shown of an operation that may come up. -/
abbrev OpNext (P : Program) (β : Base) (n : Nat) (ops : Array Oper) (Q : Post) (S : Heap) (D : List Nat) (fuel : Nat) (d : List Nat) (j : Nat) (a : Act) (w : World) : Prop :=
  wpOp P ops (lift β n Q) j (fun a' w' => (D.contains j = true ∧ wpAny P .any ops (lift β n Q) fuel ((pl ops.size d).setIfInBounds j true) a' w') ∨
      (Rel S w' ∧ wpAnyD P .any ops (lift β n Q) (Rel S) (D.contains ·) fuel ((pl ops.size d).setIfInBounds j true) a' w')) a w

theorem AText_op {P : Program} {β : Base} {n : Nat} {ops : Array Oper} {Q : Post} {i : Nat} {rest : Tree} {fuel : Nat} {d : List Nat} {S : Heap} {D : List Nat} {e : Env} {h : Heap} {a : Act} {w : World} {o : Oper} (hio : ops[i]? = some o)
    (ih : ∀ (S : Heap) (D : List Nat) (e : Env) (h : Heap) (a : Act) (w : World), planGo P ops D fuel (i :: d) false rest = true → (∀ j ∈ D, ∀ o, ops[j]? = some o → isQuiet P o.op = false) →
      AText P n ops Q rest S D e h → Fits n e a → RelB β h w → Rel S w → wpAnyD P .any ops (lift β n Q) (Rel S) (D.contains ·) fuel (pl ops.size (i :: d)) a w)
    (hp' : planGo P ops D fuel (i :: d) false rest = true) (hDi : ∀ j ∈ D, ∀ o, ops[j]? = some o → isQuiet P o.op = false)
    (k : AOp2 (wantedE o ops e) (isQuiet P o.op) (D.contains i) P S D o e h (fun S' D' => contE n e o.dst (AText P n ops Q rest S' D')))
    (f : Fits n e a) (r : RelB β h w) (rs : Rel S w) : OpNext P β n ops Q S D fuel d i a w := by
  have hlisted : pl ops.size (i :: d) = (pl ops.size d).setIfInBounds i true := rfl
  unfold AOp2 at k
  unfold OpNext
  cases hw : wantedE o ops e with
  | true =>
    rw [hw, cond_true] at k
    cases hq : isQuiet P o.op with
    | true =>
      rw [hq, cond_true] at k
      obtain ⟨v, hk, hv⟩ := QStep_sound k
      have hv2 : ∀ w', Rel S w' → (execOp e.ev o).run P w' = .ok (.value v) w' := fun w' hw' => hv w' (by
        cases isLoad o.op with
        | true => exact hw'
        | false => exact fun b t o hb => by cases hb)
      have hy : YieldsIf P ops (Rel S) o v a := .inl ⟨by rw [wanted_eq f]; exact hw, fun w' hw' => by rw [f.eval]; exact hv2 w' hw'⟩
      refine hy.wpOp hio rs (.inr ⟨rs, ?_⟩)
      rw [← hlisted]
      exact ih S D _ h _ w hp' hDi ((contE_iff ..).1 hk) (f.updO o.dst v) r rs
    | false =>
      rw [hq, cond_false] at k
      unfold wpOp
      rw [hio]
      simp only []
      rw [wanted_eq f, hw, if_pos rfl]
      refine .inl (AOp_wp f r k fun v h' w' k' r' => ?_)
      cases hd : D.contains i with
      | true =>
        rw [hd, cond_true] at k'
        refine .inl ⟨rfl, wpAny_of_D (S := Rel nilHeap) (D := fun x => ([] : List Nat).contains x) _ _ _ _ ?_⟩
        rw [← hlisted]
        exact ih nilHeap [] _ h' _ w' (planGo_nil _ _ _ _ hp') (by simp) ((contE_iff ..).1 k') (f.updO o.dst v) r' (fun b t o hb => by cases hb)
      | false =>
        rw [hd, cond_false] at k'
        obtain ⟨hs, k'⟩ := k'
        refine .inr ⟨r'.rel.sub hs, ?_⟩
        rw [← hlisted]
        exact ih S D _ h' _ w' hp' hDi ((contE_iff ..).1 k') (f.updO o.dst v) r' (r'.rel.sub hs)
  | false =>
    rw [hw, cond_false] at k
    unfold wpOp
    rw [hio]
    simp only []
    rw [wanted_eq f, hw, if_neg (by simp)]
    refine .inr ⟨rs, ?_⟩
    rw [← hlisted]
    exact ih S D _ h _ w hp' hDi ((contE_iff ..).1 k) (f.updO o.dst undef) r rs

theorem AText_wp {P : Program} {β : Base} {n : Nat} {ops : Array Oper} {Q : Post} (hsel : Region.noSelect ops = true) :
    ∀ (t : Tree),
    (∀ (fuel : Nat) (d : List Nat) (S : Heap) (D : List Nat) (e : Env) (h : Heap) (a : Act) (w : World), planGo P ops D fuel d false t = true → (∀ j ∈ D, ∀ o, ops[j]? = some o → isQuiet P o.op = false) →
      AText P n ops Q t S D e h → Fits n e a → RelB β h w → Rel S w → wpAnyD P .any ops (lift β n Q) (Rel S) (D.contains ·) fuel (pl ops.size d) a w) ∧
    (∀ (fuel : Nat) (d : List Nat) (S : Heap) (D : List Nat) (e : Env) (h : Heap) (a : Act) (w : World), planGo P ops D (fuel + 1) d true t = true → (∀ j ∈ D, ∀ o, ops[j]? = some o → isQuiet P o.op = false) →
      AText P n ops Q t S D e h → Fits n e a → RelB β h w → Rel S w → ∀ j ∈ t.heads, OpNext P β n ops Q S D fuel d j a w) := by
  intro l
  induction l with
  | done =>
    refine ⟨fun fuel d S D e h a w hp hDi k f r rs => ?_, fun fuel d S D e h a w hp hDi k f r rs j hj => by simp [Tree.heads] at hj⟩
    have hp2 : (Region.ready .any ops (pl ops.size d)).isEmpty = true := by cases fuel <;> simpa [planGo] using hp
    have hp3 := List.isEmpty_iff.1 hp2
    cases fuel with
    | zero => exact ⟨hp3, e, h, f, r, k⟩
    | succ fuel => exact ⟨fun _ => ⟨e, h, f, r, k⟩, fun j hj => by rw [hp3] at hj; cases hj⟩
  | stop =>
    refine ⟨fun fuel d S D e h a w hp hDi k f r rs => ?_, fun fuel d S D e h a w hp hDi k f r rs j hj => by simp [Tree.heads] at hj⟩
    cases fuel <;> simp [planGo] at hp
  | alt i rest u iht ihu =>
    have key : ∀ (fuel : Nat) (d : List Nat) (b : Bool) (S : Heap) (D : List Nat) (e : Env) (h : Heap) (a : Act) (w : World), planGo P ops D (fuel + 1) d b (.alt i rest u) = true → (∀ j ∈ D, ∀ o, ops[j]? = some o → isQuiet P o.op = false) →
        AText P n ops Q (.alt i rest u) S D e h → Fits n e a → RelB β h w → Rel S w → ∀ j ∈ (Tree.alt i rest u).heads, OpNext P β n ops Q S D fuel d j a w := by
      intro fuel d b S D e h a w hp hDi k f r rs j hj
      unfold planGo at hp
      simp only [Bool.and_eq_true] at hp
      obtain ⟨⟨⟨_, hs⟩, hpt⟩, hpu⟩ := hp
      unfold AText at k
      obtain ⟨k1, k2⟩ := k
      rcases List.mem_cons.1 (show j ∈ i :: u.heads from hj) with rfl | hj
      · cases hio : ops[j]? with
        | none => rw [hio] at hs; cases hs
        | some o =>
          rw [hio] at k1
          exact AText_op hio (fun S D e h a w => iht.1 fuel (j :: d) S D e h a w) hpt hDi k1 f r rs
      · exact ihu.2 fuel d S D e h a w hpu hDi k2 f r rs j hj
    refine ⟨fun fuel d S D e h a w hp hDi k f r rs => ?_, fun fuel d S D e h a w hp hDi k f r rs => key fuel d true S D e h a w hp hDi k f r rs⟩
    cases fuel with
    | zero => simp [planGo] at hp
    | succ fuel =>
      have hall := hp
      unfold planGo at hall
      simp only [Bool.and_eq_true, Bool.false_or, List.all_eq_true] at hall
      obtain ⟨⟨⟨⟨hne, hall⟩, _⟩, _⟩, _⟩ := hall
      refine ⟨fun h0 => ?_, fun j hj => key fuel d false S D e h a w hp hDi k f r rs j (by simpa using hall j hj)⟩
      rw [h0] at hne; cases hne
  | take i rest ih =>
    refine ⟨fun fuel d S D e h a w hp hDi k f r rs => ?_, fun fuel d S D e h a w hp hDi k f r rs j hj => by simp [Tree.heads] at hj⟩
    cases fuel with
    | zero => simp [planGo] at hp
    | succ fuel =>
    unfold planGo at hp
    simp only [Bool.and_eq_true] at hp
    obtain ⟨⟨_, hpi⟩, hp'⟩ := hp
    unfold planAt at hpi
    rw [Bool.and_eq_true] at hpi
    obtain ⟨hready, hkind⟩ := hpi
    unfold AText at k
    cases hio : ops[i]? with
    | none => rw [hio] at hkind; cases hkind
    | some o =>
    rw [hio] at hkind k
    simp only [] at hkind k
    have hlisted : pl ops.size (i :: d) = (pl ops.size d).setIfInBounds i true := rfl
    have hsel' := Region.noSelect_spec hsel
    cases hq : isQuiet P o.op with
    | true =>
      unfold AOp2 at k
      rw [hq, cond_true] at hkind
      rw [Bool.and_eq_true] at hkind
      obtain ⟨hfree, hD⟩ := hkind
      have take : ∀ v, YieldsIf P ops (Rel S) o v a → (isLoad o.op = false → Yields P ops o v a) → AText P n ops Q rest S D (updO n e o.dst v) h →
          wpAnyD P .any ops (lift β n Q) (Rel S) (D.contains ·) (fuel + 1) (pl ops.size d) a w := by
        intro v hy hyp ht
        have hrest' : wpAnyD P .any ops (lift β n Q) (Rel S) (D.contains ·) fuel ((pl ops.size d).setIfInBounds i true) (a.put o.dst v) w := by
          rw [← hlisted]
          exact ih.1 fuel (i :: d) S D _ h _ w hp' hDi ht (f.updO o.dst v) r rs
        cases hld : isLoad o.op with
        | false => exact wpAnyD_first_pure (D := (D.contains ·)) hio (fun j o' => hsel' j o') (fun c a' w' hh => lift_panic hh) fuel (pl ops.size d) a w (Region.free_spec hio hfree) (by simpa using hready) (hyp hld) rs hrest'
        | true =>
          refine wpAnyD_first (D := (D.contains ·)) hio (fun j o' => hsel' j o') (fun c a' w' hh => lift_panic hh) fuel (pl ops.size d) a w ?_ (Region.free_spec hio hfree) (by simpa using hready) hy rs hrest'
          intro j oj hj hun hd
          have hjD : j ∈ D := by simpa using hd
          have hjn : j < ops.size := (Array.getElem?_eq_some_iff.1 hj).1
          rw [hld, Bool.not_true, Bool.false_or, List.all_eq_true] at hD
          have h3 := hD j hjD
          rw [hj] at h3
          simp only [Bool.or_eq_true] at h3
          rcases h3 with h3 | h3
          · have : j ∈ d := by simpa using h3
            rw [pl_listed _ _ _ this hjn] at hun
            cases hun
          · obtain ⟨e', he, hb⟩ := Array.any_eq_true'.1 h3
            simp only [Bool.and_eq_true, beq_iff_eq] at hb
            exact ⟨e', he, hb⟩
      cases hw : wantedE o ops e with
      | true =>
        rw [hw, hq, cond_true, cond_true] at k
        obtain ⟨v, hk, hv⟩ := QStep_sound k
        have hv2 : ∀ w', Rel S w' → (execOp e.ev o).run P w' = .ok (.value v) w' := fun w' hw' => hv w' (by
          cases isLoad o.op with
          | true => exact hw'
          | false => exact fun b t o hb => by cases hb)
        exact take v (.inl ⟨by rw [wanted_eq f]; exact hw, fun w' hw' => by rw [f.eval]; exact hv2 w' hw'⟩) (fun hl => .inl ⟨by rw [wanted_eq f]; exact hw, fun w' => by
          rw [f.eval]; exact hv w' (by rw [hl]; exact fun b t o hb => by cases hb)⟩) ((contE_iff ..).1 hk)
      | false =>
        rw [hw, cond_false] at k
        exact take undef (.inr ⟨by rw [wanted_eq f]; exact hw, rfl⟩) (fun _ => .inr ⟨by rw [wanted_eq f]; exact hw, rfl⟩) ((contE_iff ..).1 k)
    | false =>
      rw [hq, cond_false] at hkind
      have hkind : Region.ready .any ops (pl ops.size d) = [i] := by simpa using hkind
      refine ⟨fun h0 => (by rw [h0] at hkind; cases hkind), fun j hj => ?_⟩
      rw [hkind] at hj
      obtain rfl : j = i := by simpa using hj
      exact AText_op hio (fun S D e h a w => ih.1 fuel (j :: d) S D e h a w) hp' hDi k f r rs

/-- A region that draws its order: S: what is kept till an operation of D has been carried out. -/
structure ADrawn (P : Program) (n : Nat) (ops : Array Oper) (Q : Post) (e : Env) (h : Heap) : Prop where
  of ::
  out : ∃ S D t, Sub S h ∧ planT P ops D t = true ∧ AText P n ops Q t S D e h

theorem ADrawn_wp {P : Program} {n : Nat} {ops : Array Oper} {Q : Post} {e : Env} {h : Heap} {a : Act} {w : World} {id : Nat} {β : Base} (hm : P.follows .mixedOrders = true)
    (k : ADrawn P n ops Q e h) (f : Fits n e a) (r : RelB β h w) : (Code.region id ops true).wp P (lift β n Q) a w := by
  obtain ⟨⟨S, D, t, hs, hp, ht⟩⟩ := k
  unfold planT at hp
  simp only [Bool.and_eq_true, List.all_eq_true] at hp
  obtain ⟨⟨hsel, hDq⟩, hgo⟩ := hp
  refine wp_region_any hm (wpAny_of_D (S := Rel S) (D := (D.contains ·)) _ _ _ _ ?_)
  refine (AText_wp hsel t).1 ops.size [] S D e h a { w with drawn := w.drawn + 1 } hgo ?_ ht f r.drew (r.drew.rel.sub hs)
  intro j hj o ho
  have := hDq j hj
  rw [ho] at this
  simpa using this

/-! ### code -/

def thenP (K : Env → Heap → Prop) (Q : Post) : Post := fun z e h => match z with
  | .normal => K e h
  | z => Q z e h

structure ALoop (body : Post → Env → Heap → Prop) (Q : Post) (e : Env) (h : Heap) : Prop where
  of ::
  out : ∃ (I : Env → Heap → Prop) (μ : Env → Nat), I e h ∧ ∀ e h, I e h → body (thenP (fun e' h' => I e' h' ∧ μ e' < μ e) Q) e h

def blockP (id : Nat) (Q : Post) : Post := fun z e h => match z with
  | .exit i => bif Nat.beq i id then Q .normal e h else Q (.exit i) e h
  | z => Q z e h

def AW (P : Program) (n : Nat) : Code → Post → Env → Heap → Prop
  | .skip, Q, e, h => Q .normal e h
  | .region _ ops draw, Q, e, h => bif draw then ADrawn P n ops Q e h else AList P n ops Q ops.toList e h
  | .seq x y, Q, e, h => AW P n x (thenP (AW P n y Q) Q) e h
  | .cond c x y, Q, e, h => match e.ev c with
    | .bool t => bif t then AW P n x Q e h else AW P n y Q e h
    | _ => False
  | .block id x, Q, e, h => AW P n x (blockP id Q) e h
  | .loop x, Q, e, h => ALoop (AW P n x) Q e h
  | .exit id, Q, e, h => Q (.exit id) e h
  | .label _, Q, e, h => Q .normal e h
  | .goto l, Q, e, h => Q (.goto l) e h
  | .ret, Q, e, h => Q .ret e h
  | _, _, _, _ => False

theorem AW_wp {P : Program} {n : Nat} {β : Base} (hm : P.follows .mixedOrders = true) : ∀ (c : Code) (Q : Post) (e : Env) (h : Heap) (a : Act) (w : World),
    AW P n c Q e h → Fits n e a → RelB β h w → c.wp P (lift β n Q) a w := by
  intro c
  induction c with
  | skip => intro Q e h a w k f r; exact wp_skip ⟨e, h, f, r, k⟩
  | region id ops draw =>
    intro Q e h a w k f r
    cases draw with
    | true => exact ADrawn_wp hm k f r
    | false => exact wp_region_list (AList_wp ops.toList e h a w k f r)
  | seq x y ihx ihy =>
    intro Q e h a w k f r
    refine wp_seq (wp_mono (ihx _ e h a w k f r) fun z a' w' q => ?_)
    cases z with
    | panic c => exact q.elim
    | outgrown => exact q.elim
    | normal => obtain ⟨e', h', f', r', k'⟩ := q; exact ihy Q e' h' a' w' k' f' r'
    | _ => exact q
  | cond c x y ihx ihy =>
    intro Q e h a w k f r
    unfold AW at k
    split at k
    · rename_i t ht
      refine wp_cond (t := t) (by rw [f.eval]; exact ht) ?_
      cases t with
      | true => exact ihx Q e h a w k f r
      | false => exact ihy Q e h a w k f r
    · exact k.elim
  | block id x ih =>
    intro Q e h a w k f r
    refine wp_block (wp_mono (ih _ e h a w k f r) fun z a' w' q => ?_)
    cases z with
    | panic c => exact q.elim
    | outgrown => exact q.elim
    | exit i =>
      obtain ⟨e', h', f', r', k'⟩ := q
      simp only [Exit.inBlock]
      by_cases hi : i = id
      · subst hi
        rw [if_pos rfl]
        simp only [blockP, Nat.beq_refl, cond_true] at k'
        exact ⟨e', h', f', r', k'⟩
      · rw [if_neg hi]
        have hb : Nat.beq i id = false := by
          cases hh : Nat.beq i id with
          | false => rfl
          | true => exact absurd (Nat.eq_of_beq_eq_true hh) hi
        simp only [blockP, hb, cond_false] at k'
        exact ⟨e', h', f', r', k'⟩
    | _ => exact q
  | loop x ih =>
    intro Q e h a w k f r
    obtain ⟨⟨I, μ, h0, round⟩⟩ := k
    refine wp_loop (fun a w => ∃ e h, Fits n e a ∧ RelB β h w ∧ I e h) (fun a _ => μ (fun t => a.tmps.getD t undef)) ⟨e, h, f, r, h0⟩ ?_
    rintro a w ⟨e, h, f, r, hI⟩
    refine wp_mono (ih _ e h a w (round e h hI) f r) fun z a' w' q => ?_
    cases z with
    | panic c => exact q.elim
    | outgrown => exact q.elim
    | normal =>
      obtain ⟨e', h', f', r', k', hlt⟩ := q
      refine ⟨⟨e', h', f', r', k'⟩, ?_⟩
      have e1 : (fun t => a.tmps.getD t undef) = e := funext f.getD
      have e2 : (fun t => a'.tmps.getD t undef) = e' := funext f'.getD
      simp only [e1, e2]
      exact hlt
    | _ => exact q
  | exit id => intro Q e h a w k f r; exact wp_exit ⟨e, h, f, r, k⟩
  | label l => intro Q e h a w k f r; exact wp_label ⟨e, h, f, r, k⟩
  | goto l => intro Q e h a w k f r; exact wp_goto ⟨e, h, f, r, k⟩
  | ret => intro Q e h a w k f r; exact wp_ret ⟨e, h, f, r, k⟩
  | rangeFunc => intro Q e h a w k f r; exact k.elim
  | scope => intro Q e h a w k f r; exact k.elim
  | refuse => intro Q e h a w k f r; exact k.elim

/-! ### a body -/

def resCell (P : Program) (e : Env) (t : Tmp) (T : TypeId) (h : Heap) (K : Value → Prop) : Prop :=
  match e t with
  | .pointer (some a) => ALoad P T a h K
  | _ => False

def ARes (P : Program) (rs : List ResultVar) (e : Env) (h : Heap) (K : Value → Prop) : Prop :=
  match rs with
  | [] => K (.tuple #[])
  | [.tmp t] => force (e t) K
  | [.tmp t, .tmp u] => force (e t) fun x => force (e u) fun y => K (.tuple #[x, y])
  | [.tmp t, .tmp u, .tmp v] => force (e t) fun x => force (e u) fun y => force (e v) fun z => K (.tuple #[x, y, z])
  | [.cell t T] => resCell P e t T h K
  | [.cell t T, .tmp u] => resCell P e t T h (fun v => force (e u) fun y => K (.tuple #[v, y]))
  | [.tmp u, .cell t T] => resCell P e t T h (fun v => force (e u) fun y => K (.tuple #[y, v]))
  | _ => False

theorem ARes_sound {P : Program} {fn : Func} {n : Nat} {e : Env} {a : Act} {h : Heap} {K : Value → Prop} (f : Fits n e a) (k : ARes P fn.results.toList e h K) :
    ∃ v, K v ∧ ∀ w, Rel h w → (results fn a.tmps).run P w = .ok v w := by
  have hr : fn.results = fn.results.toList.toArray := rfl
  revert k hr
  generalize fn.results.toList = rs
  intro k hr
  have gd : ∀ t : Tmp, a.tmps[t]?.getD undef = e t := fun t => by rw [← f.getD t, Array.getD_eq_getD_getElem?]
  have cell : ∀ {t T} {K' : Value → Prop}, resCell P e t T h K' → ∃ ad v, e t = .pointer (some ad) ∧ K' v ∧ ∀ w, Rel h w → (loadVar T ad).run P w = .ok v w := by
    intro t T K' q
    unfold resCell at q
    split at q
    · rename_i ad hp
      obtain ⟨v, kv, hv⟩ := rwp_sound _ q.out
      exact ⟨ad, v, hp, kv, hv⟩
    · exact q.elim
  unfold ARes at k
  split at k
  · exact ⟨_, k, fun w hw => by simp [results, hr]⟩
  · exact ⟨_, (by simp only [force_iff] at k; exact k), fun w hw => by simp [results, hr, gd]⟩
  · exact ⟨_, (by simp only [force_iff] at k; exact k), fun w hw => by simp [results, hr, gd]⟩
  · exact ⟨_, (by simp only [force_iff] at k; exact k), fun w hw => by simp [results, hr, gd]⟩
  · obtain ⟨ad, v, ha, kv, hv⟩ := cell k
    exact ⟨_, kv, fun w hw => by simp [results, hr, gd, ha, asAddr, hv w hw]⟩
  · obtain ⟨ad, v, ha, kv, hv⟩ := cell k
    exact ⟨_, (by simp only [force_iff] at kv; exact kv), fun w hw => by simp [results, hr, gd, ha, asAddr, hv w hw]⟩
  · obtain ⟨ad, v, ha, kv, hv⟩ := cell k
    exact ⟨_, (by simp only [force_iff] at kv; exact kv), fun w hw => by simp [results, hr, gd, ha, asAddr, hv w hw]⟩
  · exact k.elim

/-- What is to be shown at a body's end. -/
def ABody (P : Program) (rs : List ResultVar) (R : Value → Heap → Prop) : Post
  | .normal, e, h | .ret, e, h => ARes P rs e h (fun v => R v h)
  | _, _, _ => False

def env0 (args : Array Value) : Env := fun t => args.getD t undef

theorem acalls_of {P : Program} {f : FuncId} {fn : Func} {c : Code} {args : Array Value} {h : Heap} {R : Value → Heap → Prop} (hm : P.follows .mixedOrders = true)
    (hf : P.funcs[f]? = some fn) (hb : fn.body = some c) (hnm : (fn.name == "runtime.NumGoroutine") = false) {n : Nat} (hn : fn.ntmps = n) {rs : List ResultVar} (hrs : fn.results = rs.toArray) (hsz : Nat.ble args.size n = true)
    (k : AW P n c (ABody P rs R) (env0 args) h) : ACalls P f args h R := by
  subst hn
  obtain rfl : fn.results.toList = rs := by rw [hrs]
  have hsz := Nat.le_of_ble_eq_true hsz
  refine ⟨⟨fn, hf, by rw [hb]; rfl, hnm⟩, fun β w hr => calls_of_wp hf hb ?_⟩
  have f0 : Fits fn.ntmps (env0 args) { tmps := args ++ Array.replicate (fn.ntmps - args.size) undef, defers := [] } := by
    refine ⟨by simp; omega, ?_, ?_, rfl⟩
    · intro t ht
      simp only [env0]
      by_cases hlt : t < args.size
      · rw [Array.getElem?_append_left hlt]
        simp [hlt]
      · rw [Array.getElem?_append_right (by omega)]
        have : args.getD t undef = undef := by simp [hlt]
        rw [this, Array.getElem?_replicate, if_pos (by omega)]
    · intro t ht
      simp only [env0]
      have : ¬ t < args.size := by omega
      simp [this]
  refine wp_mono (AW_wp hm c _ _ h _ w k f0 hr) fun x a w' q => ?_
  cases x with
  | panic c => exact q.elim
  | outgrown => exact q.elim
  | exit id => obtain ⟨e, h', f', r', k'⟩ := q; exact k'.elim
  | goto id => obtain ⟨e, h', f', r', k'⟩ := q; exact k'.elim
  | normal =>
    obtain ⟨e, h', f', r', k'⟩ := q
    obtain ⟨v, kv, hv⟩ := ARes_sound (fn := fn) (K := fun v => R v h') f' k'
    exact ⟨f'.defers, v, hv w' r'.rel, v, h', rfl, r', kv⟩
  | ret =>
    obtain ⟨e, h', f', r', k'⟩ := q
    obtain ⟨v, kv, hv⟩ := ARes_sound (fn := fn) (K := fun v => R v h') f' k'
    exact ⟨f'.defers, v, hv w' r'.rel, v, h', rfl, r', kv⟩

end Go.Ah
