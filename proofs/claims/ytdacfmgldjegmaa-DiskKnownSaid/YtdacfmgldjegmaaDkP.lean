/- Disks, by definition: files by rising names. No program in sight. -/
import Derived.Calls
namespace Go.Ah
set_option linter.unusedVariables false
set_option linter.unusedSimpArgs false

abbrev Nm := List UInt8
/-- A file: its name, its bytes, how many are synced. -/
structure DF where
  name : Nm
  b : List Int
  s : Nat
/-- A disk: files by rising names, dead, the number it is armed with (-1: none), the numbers. -/
structure DD where
  fs : List DF
  dead : Bool
  arm : Int
  keep : List Int

def nmB (c : UInt8) : Bool := (decide (97 ≤ c.toNat) && decide (c.toNat ≤ 122)) || (decide (48 ≤ c.toNat) && decide (c.toNat ≤ 57)) || decide (c.toNat = 46) || decide (c.toNat = 45)
def nmOk (s : Nm) : Bool := decide (1 ≤ s.length) && decide (s.length ≤ 24) && s.all nmB

def dfind (fs : List DF) (n : Nm) : Option DF := fs.find? fun f => decide (f.name = n)
def dout (n : Nm) (fs : List DF) : List DF := fs.filter fun f => !decide (f.name = n)
def dins (f : DF) : List DF → List DF
  | [] => [f]
  | g :: r => if f.name ≤ g.name then f :: g :: r else g :: dins f r
def dput (f : DF) (fs : List DF) : List DF := dins f (dout f.name fs)

/-- how many bytes more stay -/
def cutN (keep : List Int) (i : Nat) (f : DF) : Nat := match keep[i]? with
  | some k => min k.toNat (f.b.length - f.s)
  | none => 0
def cutF (keep : List Int) (i : Nat) (f : DF) : DF := ⟨f.name, f.b.take (f.s + cutN keep i f), f.s + cutN keep i f⟩
def dcrash (keep : List Int) (d : DD) : DD := ⟨d.fs.mapIdx (cutF keep), true, -1, d.keep⟩
/-- An operation begins: has the power gone in its stead? -/
def dgone (d : DD) : Bool × DD := if d.arm = 0 then (true, dcrash d.keep d) else (false, if 0 < d.arm then { d with arm := d.arm - 1 } else d)

def dappend (d : DD) (n : Nm) (b : List Int) : Int × DD :=
  if d.dead then (120, d) else
  if nmOk n = false then (121, d) else
  if (dfind d.fs n = none ∧ d.fs.length = 16) ∨ 262144 < ((dfind d.fs n).getD ⟨n, [], 0⟩).b.length + b.length then (5, d) else
  if (dgone d).1 then (120, (dgone d).2) else
  (0, { (dgone d).2 with fs := dput ⟨n, ((dfind d.fs n).getD ⟨n, [], 0⟩).b ++ b, ((dfind d.fs n).getD ⟨n, [], 0⟩).s⟩ d.fs })
def dsync (d : DD) (n : Nm) : Int × DD :=
  if d.dead then (120, d) else
  match dfind d.fs n with
  | none => (121, d)
  | some f => if (dgone d).1 then (120, (dgone d).2) else (0, { (dgone d).2 with fs := dput ⟨n, f.b, f.b.length⟩ d.fs })
def drename (d : DD) (n m : Nm) : Int × DD :=
  if d.dead then (120, d) else
  match dfind d.fs n with
  | none => (121, d)
  | some f => if nmOk m = false then (121, d) else
    if (dgone d).1 then (120, (dgone d).2) else (0, { (dgone d).2 with fs := dput ⟨m, f.b, f.s⟩ (dout n d.fs) })
def dremove (d : DD) (n : Nm) : Int × DD :=
  if d.dead then (120, d) else
  match dfind d.fs n with
  | none => (121, d)
  | some f => if (dgone d).1 then (120, (dgone d).2) else (0, { (dgone d).2 with fs := dout n d.fs })
def dread (d : DD) (n : Nm) : List Int × Int :=
  if d.dead then ([], 120) else
  match dfind d.fs n with
  | none => ([], 121)
  | some f => (f.b, 0)
def dlist (d : DD) : List Nm := if d.dead then [] else d.fs.map (·.name)
def darm (d : DD) (n : Int) (keep : List Int) : Int × DD := if d.dead then (120, d) else (0, { d with arm := max n (-1), keep := keep })
def dcrashed (d : DD) (keep : List Int) : Int × DD := if d.dead then (120, d) else (0, dcrash keep d)
def dboot (d : DD) : DD := { d with dead := false, arm := -1 }
def bitT (x : Int) (k : Nat) : Int := IntKind.u8.wrap (BitVec.ofInt 8 x ^^^ BitVec.ofInt 8 (2 ^ k)).toNat
def dturn (d : DD) (n : Nm) (i k : Int) : Int × DD :=
  if d.dead then (120, d) else
  match dfind d.fs n with
  | none => (121, d)
  | some f => if i < 0 ∨ (f.b.length : Int) ≤ i ∨ k < 0 ∨ 7 < k then (9, d) else (0, { d with fs := dput ⟨n, f.b.set i.toNat (bitT (f.b[i.toNat]?.getD 0) k.toNat), f.s⟩ d.fs })

/-! ### what always holds -/

structure Good (d : DD) : Prop where
  rise : d.fs.Pairwise (fun f g => f.name < g.name)
  names : ∀ f ∈ d.fs, nmOk f.name = true
  size : d.fs.length ≤ 16
  syn : ∀ f ∈ d.fs, f.s ≤ f.b.length
  len : ∀ f ∈ d.fs, f.b.length ≤ 262144
  armed : -1 ≤ d.arm ∧ d.arm ≤ 9223372036854775807

theorem lt_or (a b : Nm) : a < b ∨ a = b ∨ b < a := by
  rcases Classical.em (a < b) with h | h
  · exact .inl h
  · have h' : b ≤ a := h
    rcases Classical.em (a ≤ b) with h2 | h2
    · exact .inr (.inl (List.le_antisymm h2 h'))
    · exact .inr (.inr (Std.not_le.1 h2))
theorem lt_ne {a b : Nm} (h : a < b) : a ≠ b := by
  intro e; subst e; exact List.lt_irrefl a h
theorem lt_tr {a b c : Nm} (h : a < b) (k : b < c) : a < c := List.lt_trans h k

abbrev Rise (fs : List DF) : Prop := fs.Pairwise (fun f g => f.name < g.name)

theorem mem_dins {f x : DF} : ∀ {fs : List DF}, x ∈ dins f fs ↔ x = f ∨ x ∈ fs
  | [] => by simp [dins]
  | g :: r => by
    unfold dins
    split
    · simp
    · simp only [List.mem_cons, mem_dins (fs := r)]
      constructor
      · rintro (h | h | h) <;> simp [h]
      · rintro (h | h | h) <;> simp [h]
theorem dins_perm (f : DF) : ∀ fs : List DF, (dins f fs).Perm (f :: fs)
  | [] => by simp [dins]
  | g :: r => by
    unfold dins
    split
    · exact .refl _
    · exact ((dins_perm f r).cons g).trans (.swap f g r)
theorem mem_dout {n : Nm} {x : DF} {fs : List DF} : x ∈ dout n fs ↔ x ∈ fs ∧ x.name ≠ n := by simp [dout]
theorem dins_rise {f : DF} : ∀ {fs : List DF}, Rise fs → (∀ g ∈ fs, g.name ≠ f.name) → Rise (dins f fs)
  | [], _, _ => by simp [dins]
  | g :: r, h, hn => by
    unfold dins
    have h := List.pairwise_cons.1 h
    split
    · rename_i hle
      have hlt : f.name < g.name := by
        rcases lt_or f.name g.name with k | k | k
        · exact k
        · exact absurd k.symm (hn g (by simp))
        · exact absurd k hle
      refine List.pairwise_cons.2 ⟨fun x hx => ?_, List.pairwise_cons.2 h⟩
      rcases List.mem_cons.1 hx with rfl | hx
      · exact hlt
      · exact lt_tr hlt (h.1 x hx)
    · rename_i hle
      have hlt : g.name < f.name := Std.not_le.1 hle
      refine List.pairwise_cons.2 ⟨fun x hx => ?_, dins_rise h.2 fun x hx => hn x (by simp [hx])⟩
      rcases mem_dins.1 hx with rfl | hx
      · exact hlt
      · exact h.1 x hx
theorem dout_rise {n : Nm} {fs : List DF} (h : Rise fs) : Rise (dout n fs) := h.sublist List.filter_sublist
theorem dput_rise {f : DF} {fs : List DF} (h : Rise fs) : Rise (dput f fs) := dins_rise (dout_rise h) fun g hg => (mem_dout.1 hg).2
theorem mem_dput {f x : DF} {fs : List DF} : x ∈ dput f fs ↔ x = f ∨ (x ∈ fs ∧ x.name ≠ f.name) := by rw [dput, mem_dins, mem_dout]
theorem dput_perm (f : DF) (fs : List DF) : (dput f fs).Perm (f :: dout f.name fs) := dins_perm f _
theorem dput_name {f : DF} {fs : List DF} : dput f fs = dins f (dout f.name fs) := rfl

theorem rise_nodup {fs : List DF} (h : Rise fs) : (fs.map (·.name)).Nodup := by
  rw [List.nodup_iff_pairwise_ne, List.pairwise_map]
  exact h.imp fun k => lt_ne k
theorem rise_inj {fs : List DF} (h : Rise fs) {f g : DF} (hf : f ∈ fs) (hg : g ∈ fs) (e : f.name = g.name) : f = g := by
  induction fs with
  | nil => cases hf
  | cons a r ih =>
    have h := List.pairwise_cons.1 h
    rcases List.mem_cons.1 hf with rfl | hf' <;> rcases List.mem_cons.1 hg with rfl | hg'
    · rfl
    · exact absurd e (lt_ne (h.1 _ hg'))
    · exact absurd e.symm (lt_ne (h.1 _ hf'))
    · exact ih h.2 hf' hg'
theorem dfind_some {fs : List DF} {n : Nm} {f : DF} (h : dfind fs n = some f) : f ∈ fs ∧ f.name = n := by
  unfold dfind at h
  exact ⟨List.mem_of_find?_eq_some h, by simpa using List.find?_some h⟩
theorem dfind_none {fs : List DF} {n : Nm} (h : dfind fs n = none) : ∀ f ∈ fs, f.name ≠ n := by
  unfold dfind at h
  intro f hf
  have := List.find?_eq_none.1 h f hf
  simpa using this
theorem dfind_of {fs : List DF} (hr : Rise fs) {f : DF} (hf : f ∈ fs) : dfind fs f.name = some f := by
  cases h : dfind fs f.name with
  | none => exact absurd rfl (dfind_none h f hf)
  | some g => rw [rise_inj hr (dfind_some h).1 hf (dfind_some h).2]
theorem dfind_not {fs : List DF} {n : Nm} (h : ∀ f ∈ fs, f.name ≠ n) : dfind fs n = none := by
  unfold dfind
  rw [List.find?_eq_none]
  intro f hf; simpa using h f hf

/-- the sorted list with these files is one -/
theorem rise_perm {fs gs : List DF} (hf : Rise fs) (hg : Rise gs) (h : fs.Perm gs) : fs = gs := by
  induction fs generalizing gs with
  | nil => exact (List.Perm.nil_eq h).symm ▸ rfl
  | cons a r ih =>
    cases gs with
    | nil => exact absurd h.symm (by intro c; have := c.length_eq; simp at this)
    | cons b t =>
      have hf := List.pairwise_cons.1 hf
      have hg := List.pairwise_cons.1 hg
      have hab : a = b := by
        have h1 : a ∈ b :: t := h.mem_iff.1 (by simp)
        have h2 : b ∈ a :: r := h.mem_iff.2 (by simp)
        rcases List.mem_cons.1 h1 with e | h1
        · exact e
        rcases List.mem_cons.1 h2 with e | h2
        · exact e.symm
        exact absurd (lt_tr (hg.1 a h1) (hf.1 b h2)) (List.lt_irrefl _)
      subst hab
      rw [ih hf.2 hg.2 h.cons_inv]

theorem cut_rise {keep : List Int} {fs : List DF} (h : Rise fs) : Rise (fs.mapIdx (cutF keep)) := by
  have h := List.pairwise_iff_getElem.1 h
  refine List.pairwise_iff_getElem.2 ?_
  intro i j hi hj hij
  simp only [List.length_mapIdx] at hi hj
  simp only [List.getElem_mapIdx, cutF]
  exact h i j hi hj hij
theorem cut_names (keep : List Int) (fs : List DF) : (fs.mapIdx (cutF keep)).map (·.name) = fs.map (·.name) := by
  apply List.ext_getElem
  · simp
  · intro i h1 h2; simp [cutF]
theorem mem_cut {keep : List Int} {fs : List DF} {x : DF} (h : x ∈ fs.mapIdx (cutF keep)) : ∃ i f, fs[i]? = some f ∧ x = cutF keep i f := by
  obtain ⟨i, hi, e⟩ := List.getElem_of_mem h
  simp only [List.length_mapIdx] at hi
  exact ⟨i, fs[i], by simp, by rw [← e]; simp⟩
theorem cutN_le (keep : List Int) (i : Nat) (f : DF) : cutN keep i f ≤ f.b.length - f.s := by
  unfold cutN; split
  · exact Nat.min_le_right _ _
  · omega

theorem Good.crash {d : DD} (g : Good d) (keep : List Int) : Good (dcrash keep d) := by
  refine ⟨cut_rise g.rise, ?_, by simpa [dcrash] using g.size, ?_, ?_, by simp [dcrash]⟩
  · intro x hx
    obtain ⟨i, f, hf, rfl⟩ := mem_cut hx
    exact g.names f (List.mem_of_getElem? hf)
  · intro x hx
    obtain ⟨i, f, hf, rfl⟩ := mem_cut hx
    have := cutN_le keep i f
    have := g.syn f (List.mem_of_getElem? hf)
    simp only [cutF, List.length_take]; omega
  · intro x hx
    obtain ⟨i, f, hf, rfl⟩ := mem_cut hx
    have := g.len f (List.mem_of_getElem? hf)
    simp only [cutF, List.length_take]; omega
theorem gone_fs {d : DD} (h : (dgone d).1 = false) : (dgone d).2.fs = d.fs ∧ (dgone d).2.dead = d.dead ∧ (dgone d).2.keep = d.keep ∧ d.arm ≠ 0 ∧ (dgone d).2.arm = if 0 < d.arm then d.arm - 1 else d.arm := by
  unfold dgone at h ⊢
  split
  · rename_i h0; rw [if_pos h0] at h; cases h
  · rename_i h0
    refine ⟨?_, ?_, ?_, h0, ?_⟩ <;> (split <;> rfl)
theorem Good.gone {d : DD} (g : Good d) : Good (dgone d).2 := by
  unfold dgone
  split
  · exact g.crash _
  · split
    · exact ⟨g.rise, g.names, g.size, g.syn, g.len, by have := g.armed; simp only []; omega⟩
    · exact g
theorem dout_length_lt {fs : List DF} {n : Nm} {f : DF} (h : dfind fs n = some f) : (dout n fs).length < fs.length := by
  obtain ⟨hf, hn⟩ := dfind_some h
  unfold dout
  exact List.length_filter_lt_length_iff_exists.2 ⟨f, hf, by simp [hn]⟩
theorem dout_none {fs : List DF} {n : Nm} (h : dfind fs n = none) : dout n fs = fs := by
  unfold dout
  rw [List.filter_eq_self]
  intro f hf; simpa using dfind_none h f hf
theorem dput_length (f : DF) (fs : List DF) : (dput f fs).length = (dout f.name fs).length + 1 := by rw [(dput_perm f fs).length_eq]; rfl
theorem Good.put {d d' : DD} {f : DF} (g : Good d) (hfs : d'.fs = dput f d.fs) (ha : -1 ≤ d'.arm ∧ d'.arm ≤ 9223372036854775807) (hn : nmOk f.name = true) (h16 : dfind d.fs f.name = none → d.fs.length ≠ 16) (hs : f.s ≤ f.b.length) (hl : f.b.length ≤ 262144) : Good d' := by
  refine ⟨hfs ▸ dput_rise g.rise, ?_, ?_, ?_, ?_, ha⟩
  · intro x hx
    rw [hfs] at hx
    rcases mem_dput.1 hx with rfl | ⟨hx, _⟩
    · exact hn
    · exact g.names x hx
  · rw [hfs, dput_length]
    have := g.size
    cases h : dfind d.fs f.name with
    | none => rw [dout_none h]; have := h16 h; omega
    | some y => have := dout_length_lt h; omega
  · intro x hx
    rw [hfs] at hx
    rcases mem_dput.1 hx with rfl | ⟨hx, _⟩
    · exact hs
    · exact g.syn x hx
  · intro x hx
    rw [hfs] at hx
    rcases mem_dput.1 hx with rfl | ⟨hx, _⟩
    · exact hl
    · exact g.len x hx
theorem Good.out {d d' : DD} (g : Good d) {n : Nm} (hfs : d'.fs = dout n d.fs) (ha : -1 ≤ d'.arm ∧ d'.arm ≤ 9223372036854775807) : Good d' := by
  have hm : ∀ x ∈ d'.fs, x ∈ d.fs := fun x hx => by rw [hfs] at hx; exact (mem_dout.1 hx).1
  exact ⟨hfs ▸ dout_rise g.rise, fun x hx => g.names x (hm x hx), by rw [hfs]; exact Nat.le_trans (List.length_filter_le _ _) g.size, fun x hx => g.syn x (hm x hx), fun x hx => g.len x (hm x hx), ha⟩

theorem getD_find {d : DD} (g : Good d) (n : Nm) : ((dfind d.fs n).getD ⟨n, [], 0⟩).s ≤ ((dfind d.fs n).getD ⟨n, [], 0⟩).b.length := by
  cases h : dfind d.fs n with
  | none => simp
  | some f => exact g.syn f (dfind_some h).1
theorem Good.append {d : DD} (g : Good d) (n : Nm) (b : List Int) : Good (dappend d n b).2 := by
  unfold dappend
  split; · exact g
  split; · exact g
  rename_i hnm
  split; · exact g
  rename_i hlim
  split; · exact g.gone
  rename_i hg
  have hg' : (dgone d).1 = false := by simpa using hg
  refine Good.put (d := d) (d' := { (dgone d).2 with fs := _ }) g rfl g.gone.armed (by simpa using hnm) ?_ ?_ ?_
  · intro h1 h2; exact hlim (.inl ⟨h1, h2⟩)
  · have := getD_find g n; simp only [List.length_append]; omega
  · simp only [List.length_append]
    have : ¬ 262144 < ((dfind d.fs n).getD ⟨n, [], 0⟩).b.length + b.length := fun h => hlim (.inr h)
    omega
theorem Good.sync {d : DD} (g : Good d) (n : Nm) : Good (dsync d n).2 := by
  unfold dsync
  split; · exact g
  split; · exact g
  rename_i f hf
  obtain ⟨hm, hn⟩ := dfind_some hf
  split; · exact g.gone
  refine Good.put (d := d) (d' := { (dgone d).2 with fs := _ }) g rfl g.gone.armed (hn ▸ g.names f hm) ?_ (Nat.le_refl _) (g.len f hm)
  intro h; simp only [hf] at h; cases h
theorem Good.rename {d : DD} (g : Good d) (n m : Nm) : Good (drename d n m).2 := by
  unfold drename
  split; · exact g
  split; · exact g
  rename_i f hf
  obtain ⟨hm, hn⟩ := dfind_some hf
  split; · exact g
  rename_i hnm
  split; · exact g.gone
  have h16 := dout_length_lt hf
  have := g.size
  refine Good.put (d := { d with fs := dout n d.fs }) (d' := { (dgone d).2 with fs := _ }) (Good.out g rfl g.armed) rfl g.gone.armed (by simpa using hnm) ?_ (g.syn f hm) (g.len f hm)
  intro _; simp only []; omega
theorem Good.remove {d : DD} (g : Good d) (n : Nm) : Good (dremove d n).2 := by
  unfold dremove
  split; · exact g
  split; · exact g
  split; · exact g.gone
  exact Good.out (d := d) (d' := { (dgone d).2 with fs := _ }) g rfl g.gone.armed
theorem Good.arm {d : DD} (g : Good d) (n : Int) (hn : n ≤ 9223372036854775807) (keep : List Int) : Good (darm d n keep).2 := by
  unfold darm
  split; · exact g
  exact ⟨g.rise, g.names, g.size, g.syn, g.len, by simp only []; omega⟩
theorem Good.crashed {d : DD} (g : Good d) (keep : List Int) : Good (dcrashed d keep).2 := by
  unfold dcrashed
  split; · exact g
  exact g.crash keep
theorem Good.boot {d : DD} (g : Good d) : Good (dboot d) := ⟨g.rise, g.names, g.size, g.syn, g.len, by simp [dboot]⟩
theorem Good.turn {d : DD} (g : Good d) (n : Nm) (i k : Int) : Good (dturn d n i k).2 := by
  unfold dturn
  split; · exact g
  split; · exact g
  rename_i f hf
  obtain ⟨hm, hn⟩ := dfind_some hf
  split; · exact g
  refine Good.put (d := d) (d' := { d with fs := _ }) g rfl g.armed (hn ▸ g.names f hm) ?_ ?_ ?_
  · intro h; simp only [hf] at h; cases h
  · simpa using g.syn f hm
  · simpa using g.len f hm
def dnew : DD := ⟨[], false, -1, []⟩
theorem Good.new : Good dnew := by refine ⟨?_, ?_, ?_, ?_, ?_, ?_⟩ <;> simp [dnew]

end Go.Ah
