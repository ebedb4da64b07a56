/- Walks of the disk's functions: named, check, find; how a disk lies in memory. -/
import Derived.Test.YtdacfmgldjegmaaDkA
namespace Go.Ah
open Go.Proofs
open Go.MapKept (IsKey Stamped)
set_option linter.unusedVariables false
set_option linter.unusedSimpArgs false

/-! ### names -/
abbrev letters : Nm := [97, 98, 99, 100, 101, 102, 103, 104, 105, 106, 107, 108, 109, 110, 111, 112, 113, 114, 115, 116, 117, 118, 119, 120, 121, 122, 48, 49, 50, 51, 52, 53, 54, 55, 56, 57, 46, 45]
theorem letter_idx : ∀ n : Nat, n < 256 → (Lib.indexByte letters (UInt8.ofNat n) < 0 ↔ nmB (UInt8.ofNat n) = false) := by decide +kernel
theorem letter_at (b : UInt8) : Lib.indexByte letters b < 0 ↔ nmB b = false := by
  have := letter_idx b.toNat b.toNat_lt
  rwa [UInt8.ofNat_toNat] at this
theorem idx_any (b : UInt8) (h : Heap) : ACalls PR 56 #[S letters, .int .u8 b.toNat] h (fun v h' => ∃ r, v = I r ∧ (r < 0 ↔ nmB b = false) ∧ h = h') := by
  refine ⟨⟨Try.f56, Try.func56, rfl, rfl⟩, fun β w hr => (Try.strings_IndexByte ⟨letters.toArray⟩ b.toNat w).mono ?_⟩
  rintro e w' ⟨rfl, rfl⟩
  refine ⟨_, h, rfl, hr, _, rfl, ?_, rfl⟩
  have h1 : ((b.toNat : Int)).toNat.toUInt8 = b := by rw [Int.toNat_natCast]; exact UInt8.ofNat_toNat
  rw [h1]
  exact letter_at b

theorem all_take_succ {s : Nm} {i : Nat} (hi : i < s.length) (h : (s.take i).all nmB = true) (hb : nmB s[i] = true) : (s.take (i + 1)).all nmB = true := by
  rw [List.take_succ_eq_append_getElem hi, List.all_append, h]; simp [hb]

set_option maxRecDepth 100000 in
theorem named_any (s : Nm) (hs : s.length ≤ 9223372036854775807) (h : Heap) : ACalls PR 34 #[S s] h (fun v h' => v = .bool (nmOk s) ∧ h = h') := by
  refine acalls_pure ?_
  refine acalls_of mix Try.func34 rfl rfl Try.ntmps34 Try.results34 rfl ?_; conv => whnf
  refine ALoop.mk (fun e h' => h = h' ∧ ∃ e0, ∃ i : Nat, e = updL 22 e0 [(0, S s), (5, I s.length), (6, I i)] ∧ i ≤ s.length ∧ (s.take i).all nmB = true) (fun e => s.length - natOf (e 6))
    ⟨rfl, _, 0, updL_self ⟨rfl, rfl, rfl, trivial⟩, by omega, by simp⟩ ?_
  rintro e h2 ⟨rfl, e0, i, rfl, hi, hall⟩
  conv => whnf
  by_cases hlt : i < s.length
  · refine ACmp.yes (by omega) ?_; conv => whnf
    refine AStrIdx.at Try.underlying9 rfl (by simp [hlt] : s[i]? = some s[i]) ?_; conv => whnf
    refine ACalls.mono (idx_any s[i] h) ?_; rintro _ _ ⟨r, rfl, hr, rfl⟩; conv => whnf
    cases hb : nmB s[i] with
    | false =>
      refine ACmp.yes (hr.2 hb) ?_; conv => whnf
      have : nmOk s = false := by
        unfold nmOk
        have : s.all nmB = false := by
          rw [List.all_eq_false]; exact ⟨s[i], List.getElem_mem hlt, by simp [hb]⟩
        rw [this]; simp
      exact ⟨by rw [this], Sub.refl _⟩
    | true =>
      refine ACmp.no (fun c => (by have := hr.1 c; rw [hb] at this; cases this)) ?_; conv => whnf
      refine AArith.ok (by omega) (by omega) ((by omega : (i : Int) + 1 = ((i + 1 : Nat) : Int))) ?_; conv => whnf
      refine ⟨⟨rfl, _, i + 1, updL_self ⟨rfl, rfl, rfl, trivial⟩, by omega, all_take_succ hlt hall hb⟩, ?_⟩
      show s.length - (i + 1) < s.length - i
      omega
  · refine ACmp.no (by omega) ?_; conv => whnf
    have hall' : s.all nmB = true := by rw [List.take_of_length_le (by omega)] at hall; exact hall
    refine AStrOp.neq (b := []) ?_; conv => whnf
    by_cases h0 : s = []
    · subst h0
      exact ⟨rfl, Sub.refl _⟩
    · have hb : decide (s = []) = false := decide_eq_false h0
      have hpos : 1 ≤ s.length := by cases s with | nil => exact absurd rfl h0 | cons _ _ => simp
      rw [hb]
      conv => whnf
      by_cases hle : s.length ≤ 24
      · refine ACmp.yes (by rw [str_size]; omega) ?_; conv => whnf
        exact ⟨by simp [nmOk, hall', hpos, hle], Sub.refl _⟩
      · refine ACmp.no (by rw [str_size]; omega) ?_; conv => whnf
        exact ⟨by simp [nmOk, hle], Sub.refl _⟩

/-! ### how a disk lies in memory -/
def bytesV (l : List Int) : List Value := l.map (.int .u8)
/-- A file at a block. -/
structure FAt (h : Heap) (o fp : Nat) (f : DF) : Prop where
  at_ : ∃ a n c, h fp = some (row (o, 2) [.slice a n c, I f.s] 66) ∧ Own h (o, 10 + fp) 5 a n c 1 (bytesV f.b)
/-- A disk at a block; its map; its entries; its files with their blocks. -/
structure Dk (h : Heap) (p o : Nat) (D : DD) (m : Nat) (es : List MapEntry) (clock : Nat) (L : List (DF × Nat)) : Prop where
  at_ : ∃ left ka kn kc, h p = some (row (o, 0) [.map (some m), .bool D.dead, .bool (decide (0 ≤ D.arm)), I left, .slice ka kn kc] 61) ∧ (0 ≤ D.arm → left = D.arm) ∧ Sl h (o, 3) ka kn kc 1 (D.keep.map I)
  map : MapAt h m (o, 1) .string es clock
  ents : es.map kv = L.map fun x => (S x.1.name, Ptr x.2)
  files : ∀ x ∈ L, FAt h o x.2 x.1
  nodup : (L.map (·.2)).Nodup
  perm : (L.map (·.1)).Perm D.fs

/-- What is none of a file's stays. -/
def KeepF (o fp : Nat) (h h' : Heap) : Prop := ∀ b (t : Tag) x, b ≠ fp → t ≠ (o, 10 + fp) → h b = some (t, x) → h' b = some (t, x)
theorem KeepF.trans {o fp : Nat} {a b c : Heap} (x : KeepF o fp a b) (y : KeepF o fp b c) : KeepF o fp a c := fun _ _ _ n m z => y _ _ _ n m (x _ _ _ n m z)
theorem Sub.keepF {h h' : Heap} (s : Sub h h') (o fp : Nat) : KeepF o fp h h' := fun _ _ _ _ _ x => s _ _ x
theorem KeepT.keepF {o fp : Nat} {h h' : Heap} (k : KeepT (o, 10 + fp) h h') : KeepF o fp h h' := fun _ _ _ _ m x => k _ _ _ m x
theorem keepF_set {o fp : Nat} {h : Heap} {x : Tag × Obj} : KeepF o fp h (h.set fp x) := fun _ _ _ n _ e => Heap.set_ne n e
theorem KeepF.keep {o fp : Nat} {h h' : Heap} {x : Obj} {t : Tag} (k : KeepF o fp h h') (hf : h fp = some (t, x)) (ht : t.1 = o) : Keep o h h' := fun b t' y n e =>
  k _ _ _ (fun c => by subst c; rw [hf] at e; cases e; exact n ht) (fun c => n (by rw [c])) e
theorem KeepF.tag {o fp : Nat} {h h' : Heap} {x : Obj} {t u : Tag} {b : Nat} {y : Obj} (k : KeepF o fp h h') (hf : h fp = some (t, x)) (hu : u ≠ t) (hu' : u ≠ (o, 10 + fp)) (e : h b = some (u, y)) : h' b = some (u, y) :=
  k _ _ _ (fun c => by subst c; rw [hf] at e; cases e; exact hu rfl) hu' e

theorem FAt.blk {h : Heap} {o fp : Nat} {f : DF} (F : FAt h o fp f) : ∃ x, h fp = some ((o, 2), x) := by
  obtain ⟨a, n, c, h1, _⟩ := F.at_; exact ⟨_, h1⟩
theorem FAt.other {h h' : Heap} {o fp gp : Nat} {f : DF} {y : Obj} (F : FAt h o gp f) (k : KeepF o fp h h') (hf : h fp = some ((o, 2), y)) (hne : gp ≠ fp) : FAt h' o gp f := by
  obtain ⟨a, n, c, h1, h2⟩ := F.at_
  refine ⟨a, n, c, k _ _ _ hne (by simp; omega) h1, h2.move fun b x e => k.tag hf (by simp; omega) (by simp; omega) e⟩
end Go.Ah
