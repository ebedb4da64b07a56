/- The document's disk: how it lies in memory; New, Name, at, Boot, Dead, Read, List, Arm. -/
import Derived.Test.YtdacfmgldjegmaaDkG
import Derived.Test.YtdacfmgldjegmaaFlat
namespace Go.Ah
open Go.Proofs
set_option linter.unusedVariables false
set_option linter.unusedSimpArgs false
set_option maxRecDepth 20000

/-- A file of the document's: how its bytes lie, and their role. -/
structure RF where
  f : DF
  a : Option Addr
  n : Nat
  c : Nat
  ro : Nat
def RF.cells (x : RF) : List Value := [S x.f.name, .slice x.a x.n x.c, I x.f.s]
def RF.Ok (h : Heap) (o : Nat) (x : RF) : Prop := Own h (o, x.ro) 5 x.a x.n x.c 1 (bytesV x.f.b)
theorem RF.Ok.len {h : Heap} {o : Nat} {x : RF} (k : x.Ok h o) : x.f.b.length = x.n := by have := k.sl.len; simpa [bytesV] using this
def rcells (R : List RF) : List Value := (R.map RF.cells).flatten
theorem rz (R : List RF) : ∀ e ∈ R.map RF.cells, e.length = 3 := by
  intro e he; obtain ⟨x, _, rfl⟩ := List.mem_map.1 he; rfl

structure Rd' (h : Heap) (q o : Nat) (D : DD) (R : List RF) (rl : Nat) (la : Option Addr) (lc : Nat) (ka : Option Addr) (kn kc : Nat) : Prop where
  at_ : h q = some (row (o, 0) [.slice la R.length lc, .bool D.dead, I D.arm, .slice ka kn kc] 72)
  row_ : Own h (o, rl) 76 la R.length lc 3 (rcells R)
  keep : Sl h (o, 3) ka kn kc 1 (D.keep.map I)
  ok : ∀ x ∈ R, x.Ok h o
  fs : R.map (·.f) = D.fs
  nodup : (rl :: R.map (·.ro)).Nodup
  big : ∀ r ∈ rl :: R.map (·.ro), 10 ≤ r
/-- The document's disk at a block. -/
def RA (h : Heap) (q o : Nat) (D : DD) : Prop := ∃ R rl la lc ka kn kc, Rd' h q o D R rl la lc ka kn kc

theorem Rd'.move {h h' : Heap} {q o : Nat} {D : DD} {R : List RF} {rl : Nat} {la : Option Addr} {lc : Nat} {ka : Option Addr} {kn kc : Nat} (d : Rd' h q o D R rl la lc ka kn kc)
    (k : ∀ b (t : Tag) x, t.1 = o → h b = some (t, x) → h' b = some (t, x)) : Rd' h' q o D R rl la lc ka kn kc :=
  ⟨k _ _ _ rfl d.at_, d.row_.move fun b x e => k _ _ _ rfl e, d.keep.move fun b x e => k _ _ _ rfl e, fun x hx => (d.ok x hx).move fun b y e => k _ _ _ rfl e, d.fs, d.nodup, d.big⟩
theorem RA.sub {h h' : Heap} {q o : Nat} {D : DD} (d : RA h q o D) (k : Sub h h') : RA h' q o D := by
  obtain ⟨R, rl, la, lc, ka, kn, kc, d⟩ := d; exact ⟨R, rl, la, lc, ka, kn, kc, d.move fun _ _ _ _ e => k _ _ e⟩
theorem RA.keep {h h' : Heap} {p o q : Nat} {D : DD} (d : RA h p o D) (k : Keep q h h') (n : o ≠ q) : RA h' p o D := by
  obtain ⟨R, rl, la, lc, ka, kn, kc, d⟩ := d; exact ⟨R, rl, la, lc, ka, kn, kc, d.move fun _ _ _ ht e => k _ _ _ (by rw [ht]; exact n) e⟩
theorem Rd'.get {h : Heap} {q o : Nat} {D : DD} {R : List RF} {rl : Nat} {la : Option Addr} {lc : Nat} {ka : Option Addr} {kn kc : Nat} (d : Rd' h q o D R rl la lc ka kn kc) {i : Nat} {x : RF} (hi : R[i]? = some x) :
    ∃ b, ∃ l : List Value, la = some ⟨b, 0, none⟩ ∧ h b = some (row (o, rl) l 76) ∧ (l.drop (i * 3)).take 3 = x.cells ∧ (∀ k, k < 3 → l[i * 3 + k]? = x.cells[k]? ∧ i * 3 + k < l.length) ∧
      ∀ (k : Nat) (v : Value) (y : RF), k < 3 → y.cells = x.cells.set k v → Own (h.set b (row (o, rl) (l.set (i * 3 + k) v) 76)) (o, rl) 76 la R.length lc 3 (rcells (R.set i y)) := by
  obtain ⟨b, l, h1, h2, h3, h4, h5⟩ := d.row_.elem (rz R) (by simp) (by omega) (i := i) (e := x.cells) (by simp [hi])
  refine ⟨b, l, h1, h2, h3, h4, fun k v y hk hy => ?_⟩
  have := h5 k v hk
  unfold rcells
  rw [List.map_set, hy]; exact this
theorem Rd'.len {h : Heap} {q o : Nat} {D : DD} {R : List RF} {rl : Nat} {la : Option Addr} {lc : Nat} {ka : Option Addr} {kn kc : Nat} (d : Rd' h q o D R rl la lc ka kn kc) : R.length = D.fs.length := by
  have := congrArg List.length d.fs; simpa using this
/-- Its own cells are others. -/
theorem Rd'.cells {h h' : Heap} {q o : Nat} {D D' : DD} {R : List RF} {rl : Nat} {la : Option Addr} {lc : Nat} {ka ka' : Option Addr} {kn kc kn' kc' : Nat} (d : Rd' h q o D R rl la lc ka kn kc) (k : KeepT (o, 0) h h')
    (hq : h' q = some (row (o, 0) [.slice la R.length lc, .bool D'.dead, I D'.arm, .slice ka' kn' kc'] 72)) (sk : Sl h' (o, 3) ka' kn' kc' 1 (D'.keep.map I)) (hf : D'.fs = D.fs) : Rd' h' q o D' R rl la lc ka' kn' kc' := by
  have big := d.big
  refine ⟨hq, d.row_.keepT k (by have := big rl (by simp); simp; omega), sk, fun x hx => (d.ok x hx).keepT k ?_, hf ▸ d.fs, d.nodup, d.big⟩
  have := big x.ro (by simp; exact .inr ⟨x, hx, rfl⟩); simp; omega

theorem refNew_any (h : Heap) (o : Nat) : ACalls PR 26 #[] h (fun v h' => ∃ q, v = Ptr q ∧ RA h' q o dnew ∧ Sub h h') := by
  refine acalls_of mix Try.func26 rfl rfl Try.ntmps26 Try.results26 rfl ?_; conv => whnf
  refine ABox.mk (o, 0) rfl fun q fq => ?_; conv => whnf
  exact ⟨q, rfl, ⟨[], 10, none, 0, none, 0, 0, ⟨Heap.set_same _ _ _, .inl ⟨rfl, rfl, rfl⟩, Sl.nil .., by simp, rfl, by simp, by simp⟩⟩, fq.sub _⟩

theorem refBoot_any {h : Heap} {q o : Nat} {D : DD} (da : RA h q o D) : ACalls PR 28 #[Ptr q] h (fun v h' => v = I 0 ∧ RA h' q o (dboot D) ∧ Keep o h h') := by
  obtain ⟨R, rl, la, lc, ka, kn, kc, d⟩ := da
  have a1 := d.at_
  refine acalls_of mix Try.func28 rfl rfl Try.ntmps28 Try.results28 rfl ?_; conv => whnf
  refine AStore.one' rfl rfl rfl a1 rfl ?_; conv => whnf
  refine AStore.one' rfl rfl rfl (Heap.set_same _ _ _) rfl ?_; conv => whnf
  rw [Heap.set_set]
  have kt := KeepT.set (y := .cells [.slice la R.length lc, .bool false, I (-1), .slice ka kn kc].toArray 72 (0, 0)) a1
  exact ⟨rfl, ⟨R, rl, la, lc, ka, kn, kc, d.cells (D' := dboot D) kt (Heap.set_same _ _ _) (d.keep.keepT kt (by simp)) rfl⟩, kt.keep⟩
theorem refDead_any {h : Heap} {q o : Nat} {D : DD} (da : RA h q o D) : ACalls PR 50 #[Ptr q] h (fun v h' => v = .bool D.dead ∧ h = h') := by
  obtain ⟨R, rl, la, lc, ka, kn, kc, d⟩ := da
  have a1 := d.at_
  refine acalls_pure (acalls_of mix Try.func50 rfl rfl Try.ntmps50 Try.results50 rfl ?_); conv => whnf
  refine ALoad.one rfl a1 rfl ?_; conv => whnf
  exact ⟨rfl, Sub.refl _⟩

theorem refName_any (s : Nm) (hs : s.length ≤ 9223372036854775807) (h : Heap) : ACalls PR 52 #[S s] h (fun v h' => v = .bool (nmOk s) ∧ h = h') := by
  refine acalls_pure ?_
  refine acalls_of mix Try.func52 rfl rfl Try.ntmps52 Try.results52 rfl ?_; conv => whnf
  refine ALoop.mk (fun e h' => h = h' ∧ ∃ e0, ∃ i : Nat, e = updL 45 e0 [(0, S s), (3, I i)] ∧ i ≤ s.length ∧ (s.take i).all nmB = true) (fun e => s.length - natOf (e 3))
    ⟨rfl, _, 0, updL_self ⟨rfl, rfl, trivial⟩, by omega, by simp⟩ ?_
  rintro e h2 ⟨rfl, e0, i, rfl, hi, hall⟩
  conv => whnf
  by_cases hlt : i < s.length
  · refine ACmp.yes (by rw [str_size]; omega) ?_; conv => whnf
    refine AStrIdx.at Try.underlying9 rfl (by simp [hlt] : s[i]? = some s[i]) ?_; conv => whnf
    have bad : nmB s[i] = false → nmOk s = false := fun hb => by
      unfold nmOk
      have : s.all nmB = false := by
        rw [List.all_eq_false]; exact ⟨s[i], List.getElem_mem hlt, by simp [hb]⟩
      rw [this]; simp
    by_cases c1 : 97 ≤ s[i].toNat
    · refine ACmp.yes (by omega) ?_; conv => whnf
      by_cases c2 : s[i].toNat ≤ 122
      · refine ACmp.yes (by omega) ?_; conv => whnf
        have hb : nmB s[i] = true := by simp [nmB, c1, c2]
        refine AArith.ok (by omega) (by omega) ((by omega : (i : Int) + 1 = ((i + 1 : Nat) : Int))) ?_; conv => whnf
        refine ⟨⟨rfl, _, i + 1, updL_self ⟨rfl, rfl, trivial⟩, by omega, all_take_succ hlt hall hb⟩, ?_⟩
        show s.length - (i + 1) < s.length - i
        omega
      · refine ACmp.no (by omega) ?_; conv => whnf
        by_cases c3 : 48 ≤ s[i].toNat
        · refine ACmp.yes (by omega) ?_; conv => whnf
          by_cases c4 : s[i].toNat ≤ 57
          · refine ACmp.yes (by omega) ?_; conv => whnf
            have hb : nmB s[i] = true := by simp [nmB, c3, c4]
            refine AArith.ok (by omega) (by omega) ((by omega : (i : Int) + 1 = ((i + 1 : Nat) : Int))) ?_; conv => whnf
            refine ⟨⟨rfl, _, i + 1, updL_self ⟨rfl, rfl, trivial⟩, by omega, all_take_succ hlt hall hb⟩, ?_⟩
            show s.length - (i + 1) < s.length - i
            omega
          · refine ACmp.no (by omega) ?_; conv => whnf
            by_cases c5 : s[i].toNat = 46
            · refine ACmp.yes (by omega) ?_; conv => whnf
              have hb : nmB s[i] = true := by simp [nmB, c5]
              refine AArith.ok (by omega) (by omega) ((by omega : (i : Int) + 1 = ((i + 1 : Nat) : Int))) ?_; conv => whnf
              refine ⟨⟨rfl, _, i + 1, updL_self ⟨rfl, rfl, trivial⟩, by omega, all_take_succ hlt hall hb⟩, ?_⟩
              show s.length - (i + 1) < s.length - i
              omega
            · refine ACmp.no (by omega) ?_; conv => whnf
              by_cases c6 : s[i].toNat = 45
              · refine ACmp.yes (by omega) ?_; conv => whnf
                have hb : nmB s[i] = true := by simp [nmB, c6]
                refine AArith.ok (by omega) (by omega) ((by omega : (i : Int) + 1 = ((i + 1 : Nat) : Int))) ?_; conv => whnf
                refine ⟨⟨rfl, _, i + 1, updL_self ⟨rfl, rfl, trivial⟩, by omega, all_take_succ hlt hall hb⟩, ?_⟩
                show s.length - (i + 1) < s.length - i
                omega
              · refine ACmp.no (by omega) ?_; conv => whnf
                have hb : nmB s[i] = false := by simp [nmB, c5, c6]; omega
                exact ⟨by rw [bad hb], Sub.refl _⟩
        · refine ACmp.no (by omega) ?_; conv => whnf
          by_cases c5 : s[i].toNat = 46
          · refine ACmp.yes (by omega) ?_; conv => whnf
            have hb : nmB s[i] = true := by simp [nmB, c5]
            refine AArith.ok (by omega) (by omega) ((by omega : (i : Int) + 1 = ((i + 1 : Nat) : Int))) ?_; conv => whnf
            refine ⟨⟨rfl, _, i + 1, updL_self ⟨rfl, rfl, trivial⟩, by omega, all_take_succ hlt hall hb⟩, ?_⟩
            show s.length - (i + 1) < s.length - i
            omega
          · refine ACmp.no (by omega) ?_; conv => whnf
            by_cases c6 : s[i].toNat = 45
            · refine ACmp.yes (by omega) ?_; conv => whnf
              have hb : nmB s[i] = true := by simp [nmB, c6]
              refine AArith.ok (by omega) (by omega) ((by omega : (i : Int) + 1 = ((i + 1 : Nat) : Int))) ?_; conv => whnf
              refine ⟨⟨rfl, _, i + 1, updL_self ⟨rfl, rfl, trivial⟩, by omega, all_take_succ hlt hall hb⟩, ?_⟩
              show s.length - (i + 1) < s.length - i
              omega
            · refine ACmp.no (by omega) ?_; conv => whnf
              have hb : nmB s[i] = false := by simp [nmB, c5, c6]; omega
              exact ⟨by rw [bad hb], Sub.refl _⟩
    · refine ACmp.no (by omega) ?_; conv => whnf
      by_cases c3 : 48 ≤ s[i].toNat
      · refine ACmp.yes (by omega) ?_; conv => whnf
        by_cases c4 : s[i].toNat ≤ 57
        · refine ACmp.yes (by omega) ?_; conv => whnf
          have hb : nmB s[i] = true := by simp [nmB, c3, c4]
          refine AArith.ok (by omega) (by omega) ((by omega : (i : Int) + 1 = ((i + 1 : Nat) : Int))) ?_; conv => whnf
          refine ⟨⟨rfl, _, i + 1, updL_self ⟨rfl, rfl, trivial⟩, by omega, all_take_succ hlt hall hb⟩, ?_⟩
          show s.length - (i + 1) < s.length - i
          omega
        · refine ACmp.no (by omega) ?_; conv => whnf
          by_cases c5 : s[i].toNat = 46
          · refine ACmp.yes (by omega) ?_; conv => whnf
            have hb : nmB s[i] = true := by simp [nmB, c5]
            refine AArith.ok (by omega) (by omega) ((by omega : (i : Int) + 1 = ((i + 1 : Nat) : Int))) ?_; conv => whnf
            refine ⟨⟨rfl, _, i + 1, updL_self ⟨rfl, rfl, trivial⟩, by omega, all_take_succ hlt hall hb⟩, ?_⟩
            show s.length - (i + 1) < s.length - i
            omega
          · refine ACmp.no (by omega) ?_; conv => whnf
            by_cases c6 : s[i].toNat = 45
            · refine ACmp.yes (by omega) ?_; conv => whnf
              have hb : nmB s[i] = true := by simp [nmB, c6]
              refine AArith.ok (by omega) (by omega) ((by omega : (i : Int) + 1 = ((i + 1 : Nat) : Int))) ?_; conv => whnf
              refine ⟨⟨rfl, _, i + 1, updL_self ⟨rfl, rfl, trivial⟩, by omega, all_take_succ hlt hall hb⟩, ?_⟩
              show s.length - (i + 1) < s.length - i
              omega
            · refine ACmp.no (by omega) ?_; conv => whnf
              have hb : nmB s[i] = false := by simp [nmB, c5, c6]; omega
              exact ⟨by rw [bad hb], Sub.refl _⟩
      · refine ACmp.no (by omega) ?_; conv => whnf
        by_cases c5 : s[i].toNat = 46
        · refine ACmp.yes (by omega) ?_; conv => whnf
          have hb : nmB s[i] = true := by simp [nmB, c5]
          refine AArith.ok (by omega) (by omega) ((by omega : (i : Int) + 1 = ((i + 1 : Nat) : Int))) ?_; conv => whnf
          refine ⟨⟨rfl, _, i + 1, updL_self ⟨rfl, rfl, trivial⟩, by omega, all_take_succ hlt hall hb⟩, ?_⟩
          show s.length - (i + 1) < s.length - i
          omega
        · refine ACmp.no (by omega) ?_; conv => whnf
          by_cases c6 : s[i].toNat = 45
          · refine ACmp.yes (by omega) ?_; conv => whnf
            have hb : nmB s[i] = true := by simp [nmB, c6]
            refine AArith.ok (by omega) (by omega) ((by omega : (i : Int) + 1 = ((i + 1 : Nat) : Int))) ?_; conv => whnf
            refine ⟨⟨rfl, _, i + 1, updL_self ⟨rfl, rfl, trivial⟩, by omega, all_take_succ hlt hall hb⟩, ?_⟩
            show s.length - (i + 1) < s.length - i
            omega
          · refine ACmp.no (by omega) ?_; conv => whnf
            have hb : nmB s[i] = false := by simp [nmB, c5, c6]; omega
            exact ⟨by rw [bad hb], Sub.refl _⟩
  · refine ACmp.no (by rw [str_size]; omega) ?_; conv => whnf
    have hall' : s.all nmB = true := by rw [List.take_of_length_le (by omega)] at hall; exact hall
    by_cases h0 : 1 ≤ s.length
    · refine ACmp.yes (by rw [str_size]; omega) ?_; conv => whnf
      by_cases hle : s.length ≤ 24
      · refine ACmp.yes (by rw [str_size]; omega) ?_; conv => whnf
        exact ⟨by simp [nmOk, hall', h0, hle], Sub.refl _⟩
      · refine ACmp.no (by rw [str_size]; omega) ?_; conv => whnf
        exact ⟨by simp [nmOk, hle], Sub.refl _⟩
    · refine ACmp.no (by rw [str_size]; omega) ?_; conv => whnf
      exact ⟨by simp [nmOk, h0], Sub.refl _⟩

/-- where a file of this name is -/
def rat (R : List RF) (n : Nm) : Int := match R.findIdx? (fun x => decide (x.f.name = n)) with
  | some i => i
  | none => -1
theorem at_any {h : Heap} {q o : Nat} {D : DD} {R : List RF} {rl : Nat} {la : Option Addr} {lc : Nat} {ka : Option Addr} {kn kc : Nat} (d : Rd' h q o D R rl la lc ka kn kc) (g : Good D) (n : Nm) :
    ACalls PR 53 #[Ptr q, S n] h (fun v h' => v = I (rat R n) ∧ h = h') := by
  have a1 := d.at_
  have h16 := g.size
  have hlen := d.len
  refine acalls_pure ?_
  refine acalls_of mix Try.func53 rfl rfl Try.ntmps53 Try.results53 rfl ?_; conv => whnf
  refine ALoop.mk (fun e h' => h = h' ∧ ∃ e0, ∃ i : Nat, e = updL 26 e0 [(0, Ptr q), (1, S n), (5, I i)] ∧ i ≤ R.length ∧ ∀ x ∈ R.take i, x.f.name ≠ n) (fun e => R.length - natOf (e 5))
    ⟨rfl, _, 0, updL_self ⟨rfl, rfl, rfl, trivial⟩, by omega, by simp⟩ ?_
  rintro e h2 ⟨rfl, e0, i, rfl, hi, hall⟩
  conv => whnf
  refine ALoad.one rfl a1 rfl ?_; conv => whnf
  by_cases hlt : i < R.length
  · refine ACmp.yes (by omega) ?_; conv => whnf
    refine ALoad.one rfl a1 rfl ?_; conv => whnf
    obtain ⟨b, l, rfl, hb, hp, hg, _⟩ := d.get (i := i) (x := R[i]) (by simp [hlt])
    refine AIdx.nat (z := 3) rfl hlt rfl rfl ?_; conv => whnf
    refine ALoad.one rfl hb (by rw [Nat.zero_add]; exact (hg 0 (by omega)).1) ?_; conv => whnf
    refine AStrOp.eql ?_
    by_cases hn : R[i].f.name = n
    · rw [decide_eq_true hn]
      conv => whnf
      refine ⟨?_, Sub.refl _⟩
      have : R.findIdx? (fun x => decide (x.f.name = n)) = some i := by
        rw [List.findIdx?_eq_some_iff_getElem]
        refine ⟨hlt, by simp [hn], fun j hj => ?_⟩
        have := hall R[j] (by
          rw [List.mem_take_iff_getElem]
          exact ⟨j, by omega, rfl⟩)
        simpa using this
      unfold rat; rw [this]
    · rw [decide_eq_false hn]
      conv => whnf
      refine AArith.ok (by omega) (by omega) ((by omega : (i : Int) + 1 = ((i + 1 : Nat) : Int))) ?_; conv => whnf
      refine ⟨⟨rfl, _, i + 1, updL_self ⟨rfl, rfl, rfl, trivial⟩, by omega, ?_⟩, ?_⟩
      · intro x hx
        rw [List.take_succ_eq_append_getElem hlt, List.mem_append, List.mem_singleton] at hx
        rcases hx with hx | rfl
        · exact hall x hx
        · exact hn
      · show R.length - (i + 1) < R.length - i
        omega
  · refine ACmp.no (by omega) ?_; conv => whnf
    refine ⟨?_, Sub.refl _⟩
    have : R.findIdx? (fun x => decide (x.f.name = n)) = none := by
      rw [List.findIdx?_eq_none_iff]
      intro x hx
      rw [List.take_of_length_le (by omega)] at hall
      simpa using hall x hx
    unfold rat; rw [this]
theorem rat_none {R : List RF} {fs : List DF} {n : Nm} (hR : R.map (·.f) = fs) (h : dfind fs n = none) : rat R n = -1 := by
  have : R.findIdx? (fun x => decide (x.f.name = n)) = none := by
    rw [List.findIdx?_eq_none_iff]
    intro x hx
    simpa using dfind_none h x.f (by rw [← hR]; exact List.mem_map.2 ⟨x, hx, rfl⟩)
  unfold rat; rw [this]
theorem rat_some {R : List RF} {fs : List DF} {n : Nm} {f : DF} (hR : R.map (·.f) = fs) (h : dfind fs n = some f) : ∃ (i : Nat) (x : RF), rat R n = i ∧ R[i]? = some x ∧ x.f = f := by
  have hf : (R.find? (fun x => decide (x.f.name = n))).map (·.f) = some f := by
    rw [← h, ← hR]; unfold dfind
    rw [List.find?_map]; rfl
  cases hx : R.find? (fun x => decide (x.f.name = n)) with
  | none => rw [hx] at hf; cases hf
  | some x =>
    rw [hx] at hf
    simp only [Option.map_some, Option.some.injEq] at hf
    have h1 : R.findIdx? (fun x => decide (x.f.name = n)) ≠ none := by
      intro c
      rw [List.findIdx?_eq_none_iff] at c
      have := c x (List.mem_of_find?_eq_some hx)
      have h2 := List.find?_some hx
      rw [this] at h2; cases h2
    cases hi : R.findIdx? (fun x => decide (x.f.name = n)) with
    | none => exact absurd hi h1
    | some i =>
      obtain ⟨hlt, hp, hbefore⟩ := List.findIdx?_eq_some_iff_getElem.1 hi
      refine ⟨i, R[i], by unfold rat; rw [hi], by simp [hlt], ?_⟩
      rw [List.find?_eq_some_iff_getElem] at hx
      obtain ⟨hxn, j, hj, hje, hjb⟩ := hx
      have : i = j := by
        rcases Nat.lt_trichotomy i j with c | c | c
        · have := hjb i c; rw [hp] at this; cases this
        · exact c
        · exact absurd (by rw [hje]; exact hxn) (hbefore j c)
      subst this
      rw [hje, hf]
end Go.Ah
