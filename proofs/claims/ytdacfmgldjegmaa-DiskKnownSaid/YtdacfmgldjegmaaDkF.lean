/- Walks of the disk's functions: copies, Sync, Rename, Remove, Read, List, Arm, Crash, Boot, Dead, Turn. -/
import Derived.Test.YtdacfmgldjegmaaDkE
namespace Go.Ah
open Go.Proofs
open Go.MapKept (IsKey Stamped)
set_option linter.unusedVariables false
set_option linter.unusedSimpArgs false
set_option maxRecDepth 20000

/-! ### copies -/
theorem slice_none {h : Heap} {t : Tag} {n c z : Nat} {cs : List Value} (s : Sl h t none n c z cs) : n = 0 ∧ cs = [] := by
  have hn0 : n = 0 := by
    rcases Nat.eq_zero_or_pos n with h0 | h0
    · exact h0
    · obtain ⟨b, off, l, E, fz, e, _⟩ := s.pos h0
      cases e
  subst hn0
  exact ⟨rfl, List.eq_nil_of_length_eq_zero (by rw [s.len]; simp)⟩
theorem cloneB_any (h : Heap) (tg : Tag) {t : Tag} {a : Option Addr} {n c : Nat} {xs : List Int} (s : Sl h t a n c 1 (bytesV xs)) (hn : n ≤ 140737488355328) :
    ACalls PR 38 #[.slice a n c] h (fun v h' => ∃ a' c', v = .slice a' n c' ∧ Own h' tg 5 a' n c' 1 (bytesV xs) ∧ Sub h h') := by
  refine acalls_of mix Try.func38 rfl rfl Try.ntmps38 Try.results38 rfl ?_; conv => whnf
  cases a with
  | none =>
    obtain ⟨rfl, hx⟩ := slice_none s
    conv => whnf
    exact ⟨none, 0, rfl, .inl ⟨rfl, rfl, hx⟩, Sub.refl _⟩
  | some ad =>
    conv => whnf
    refine ABuildSl.empty tg rfl rfl fun b fb => ?_; conv => whnf
    refine AAppend.own (t := tg) (E := 5) (z := 1) (by_ := 1) (zero := [.int .u8 0]) (cs := []) rfl ⟨_, rfl⟩ rfl rfl rfl rfl (by omega) (.inl ⟨rfl, rfl, rfl⟩) (s.sub (fb.sub _)) (oneCell_bytes _) (by omega) (by omega) fun a' c' h' ho hk hsub => ?_
    conv => whnf
    rw [Nat.zero_add, List.nil_append] at ho
    refine ⟨a', c', ?_, ho, (fb.sub _).trans (hsub rfl)⟩
    show Value.slice a' (0 + n) c' = _
    rw [Nat.zero_add]
theorem cloneI_any (h : Heap) (tg : Tag) {t : Tag} {a : Option Addr} {n c : Nat} {xs : List Int} (s : Sl h t a n c 1 (xs.map I)) (hn : n * 8 ≤ 140737488355328) :
    ACalls PR 39 #[.slice a n c] h (fun v h' => ∃ a' c', v = .slice a' n c' ∧ Own h' tg 3 a' n c' 1 (xs.map I) ∧ Sub h h') := by
  refine acalls_of mix Try.func39 rfl rfl Try.ntmps39 Try.results39 rfl ?_; conv => whnf
  cases a with
  | none =>
    obtain ⟨rfl, hx⟩ := slice_none s
    conv => whnf
    exact ⟨none, 0, rfl, .inl ⟨rfl, rfl, hx⟩, Sub.refl _⟩
  | some ad =>
    conv => whnf
    refine ABuildSl.empty tg rfl rfl fun b fb => ?_; conv => whnf
    refine AAppend.own (t := tg) (E := 3) (z := 1) (by_ := 8) (zero := [I 0]) (cs := []) rfl ⟨_, rfl⟩ rfl rfl rfl rfl (by omega) (.inl ⟨rfl, rfl, rfl⟩) (s.sub (fb.sub _)) (oneCell_ints _) (by omega) (by omega) fun a' c' h' ho hk hsub => ?_
    conv => whnf
    rw [Nat.zero_add, List.nil_append] at ho
    refine ⟨a', c', ?_, ho, (fb.sub _).trans (hsub rfl)⟩
    show Value.slice a' (0 + n) c' = _
    rw [Nat.zero_add]
theorem copyB_any (h : Heap) (tg : Tag) {t : Tag} {a : Option Addr} {n c : Nat} {xs : List Int} (s : Sl h t a n c 1 (bytesV xs)) (hn : n ≤ 140737488355328) :
    ACalls PR 41 #[.slice a n c] h (fun v h' => ∃ a' c', v = .slice a' n c' ∧ Own h' tg 5 a' n c' 1 (bytesV xs) ∧ Sub h h') := by
  refine acalls_of mix Try.func41 rfl rfl Try.ntmps41 Try.results41 rfl ?_; conv => whnf
  refine AAppend.own (t := tg) (E := 5) (z := 1) (by_ := 1) (zero := [.int .u8 0]) (cs := []) rfl ⟨_, rfl⟩ rfl rfl rfl rfl (by omega) (.inl ⟨rfl, rfl, rfl⟩) s (oneCell_bytes _) (by omega) (by omega) fun a' c' h' ho hk hsub => ?_
  conv => whnf
  rw [Nat.zero_add, List.nil_append] at ho
  refine ⟨a', c', ?_, ho, hsub rfl⟩
  show Value.slice a' (0 + n) c' = _
  rw [Nat.zero_add]
theorem copyI_any (h : Heap) (tg : Tag) {t : Tag} {a : Option Addr} {n c : Nat} {xs : List Int} (s : Sl h t a n c 1 (xs.map I)) (hn : n * 8 ≤ 140737488355328) :
    ACalls PR 42 #[.slice a n c] h (fun v h' => ∃ a' c', v = .slice a' n c' ∧ Own h' tg 3 a' n c' 1 (xs.map I) ∧ Sub h h') := by
  refine acalls_of mix Try.func42 rfl rfl Try.ntmps42 Try.results42 rfl ?_; conv => whnf
  refine AAppend.own (t := tg) (E := 3) (z := 1) (by_ := 8) (zero := [I 0]) (cs := []) rfl ⟨_, rfl⟩ rfl rfl rfl rfl (by omega) (.inl ⟨rfl, rfl, rfl⟩) s (oneCell_ints _) (by omega) (by omega) fun a' c' h' ho hk hsub => ?_
  conv => whnf
  rw [Nat.zero_add, List.nil_append] at ho
  refine ⟨a', c', ?_, ho, hsub rfl⟩
  show Value.slice a' (0 + n) c' = _
  rw [Nat.zero_add]

/-! ### the others -/
set_option maxHeartbeats 2000000 in
theorem Sync_any {h : Heap} {p o : Nat} {D : DD} (ho : o ≠ 0) (da : DA h p o D) (g : Good D) (n : Nm) :
    ACalls PR 13 #[Ptr p, S n] h (fun v h' => v = I (dsync D n).1 ∧ DA h' p o (dsync D n).2 ∧ Keep o h h') := by
  obtain ⟨m, es, clock, L, d⟩ := da
  refine acalls_of mix Try.func13 rfl rfl Try.ntmps13 Try.results13 rfl ?_; conv => whnf
  cases hd : D.dead with
  | true =>
    have e : dsync D n = (120, D) := by simp [dsync, hd]
    rw [e]
    refine ACalls.mono (find_dead d hd n) ?_; rintro _ _ ⟨rfl, rfl⟩; conv => whnf
    refine ACmp.no (by decide) ?_; conv => whnf
    refine ACmp.yes (by decide) ?_; conv => whnf
    exact ⟨rfl, ⟨_, _, _, _, d⟩, Keep.refl _ _⟩
  | false =>
  cases hf : dfind D.fs n with
  | none =>
    have e : dsync D n = (121, D) := by simp [dsync, hd, hf]
    rw [e]
    refine ACalls.mono (find_miss d hd hf) ?_; rintro _ _ ⟨rfl, rfl⟩; conv => whnf
    refine ACmp.no (by decide) ?_; conv => whnf
    refine ACmp.yes (by decide) ?_; conv => whnf
    exact ⟨rfl, ⟨_, _, _, _, d⟩, Keep.refl _ _⟩
  | some f =>
    obtain ⟨hfm, rfl⟩ := dfind_some hf
    obtain ⟨j, fp, en, hj, hej, hek, hev⟩ := d.hit hfm
    obtain ⟨fa, fn, fc, f1, fo⟩ := (d.files _ (List.mem_of_getElem? hj)).at_
    simp only at f1 fo
    have hfn : f.b.length = fn := by have := fo.sl.len; simpa [bytesV] using this
    refine ACalls.mono (find_hit d hd hj) ?_; rintro _ _ ⟨rfl, rfl⟩; conv => whnf
    refine ACmp.yes (by decide) ?_; conv => whnf
    cases hgo : (dgone D).1 with
    | true =>
      have e : dsync D f.name = (120, (dgone D).2) := by simp [dsync, hd, hf, hgo]
      rw [e]
      refine ACalls.mono (begin_go ho d g hgo) ?_; rintro _ h2 ⟨rfl, d2, k2⟩; conv => whnf
      refine ACmp.yes (by decide) ?_; conv => whnf
      exact ⟨rfl, d2, k2⟩
    | false =>
      have e : dsync D f.name = (0, { (dgone D).2 with fs := dput ⟨f.name, f.b, f.b.length⟩ D.fs }) := by simp [dsync, hd, hf, hgo]
      rw [e]
      obtain ⟨gf, gd, gk, _, _⟩ := gone_fs hgo
      refine ACalls.mono (begin_no d g hgo) ?_; rintro _ h2 ⟨rfl, d2, k2⟩; conv => whnf
      refine ACmp.no (by decide) ?_; conv => whnf
      have f2 := k2.get (by simp) f1
      refine ALoad.one rfl f2 rfl ?_; conv => whnf
      refine AStore.one' rfl rfl rfl f2 rfl ?_; conv => whnf
      have kf : KeepF o fp h2 (h2.set fp (row (o, 2) [.slice fa fn fc, I fn] 66)) := keepF_set
      have f4 := Heap.set_same h2 fp (row (o, 2) [.slice fa fn fc, I fn] 66)
      have ho4 := (fo.keepT k2 (by simp)).move (h' := h2.set fp (row (o, 2) [.slice fa fn fc, I fn] 66)) fun b x e => Heap.set_ne (fun c => by subst c; rw [f2] at e; exact tag2_10 e) e
      have d4 := d2.upd (D' := { (dgone D).2 with fs := dput ⟨f.name, f.b, f.b.length⟩ D.fs }) (f' := ⟨f.name, f.b, f.b.length⟩) hj rfl kf ⟨fa, fn, fc, by simp only; rw [hfn]; exact f4, ho4⟩
        (dput_perm_of g.rise (by have := d2.perm; rw [gf] at this; exact this) (f := f) (by simp [hj]) rfl) rfl rfl rfl
      exact ⟨rfl, ⟨_, _, _, _, d4⟩, k2.keep.trans (kf.keep f2 rfl)⟩

/-- The map is another, and the files under their names. -/
theorem Dk.remap {h h' : Heap} {p o m clock clock' : Nat} {D D' : DD} {es es' : List MapEntry} {L L' : List (DF × Nat)} (d : Dk h p o D m es clock L) (kt : KeepT (o, 1) h h') (m' : MapAt h' m (o, 1) .string es' clock')
    (he : es'.map kv = L'.map fun x => (S x.1.name, Ptr x.2)) (hf : ∀ x ∈ L', ∃ y ∈ L, y.2 = x.2 ∧ y.1.b = x.1.b ∧ y.1.s = x.1.s) (hn : (L'.map (·.2)).Nodup) (hp : (L'.map (·.1)).Perm D'.fs)
    (h1 : D'.dead = D.dead) (h2 : D'.arm = D.arm) (h3 : D'.keep = D.keep) : Dk h' p o D' m es' clock' L' := by
  obtain ⟨left, ka, kn, kc, a1, a2, a3⟩ := d.at_
  refine ⟨⟨left, ka, kn, kc, by rw [h1, h2]; exact kt.get (by simp) a1, by rw [h2]; exact a2, by rw [h3]; exact a3.keepT kt (by simp)⟩, m', he, ?_, hn, hp⟩
  intro x hx
  obtain ⟨y, hy, e1, e2, e3⟩ := hf x hx
  obtain ⟨a, n, c, q1, q2⟩ := (d.files y hy).at_
  rw [e1, e3] at q1; rw [e1, e2] at q2
  exact ⟨a, n, c, kt.get (by simp) q1, q2.keepT kt (by simp; omega)⟩

theorem map_eraseIdx {α β : Type} (f : α → β) : ∀ (l : List α) (j : Nat), (l.eraseIdx j).map f = (l.map f).eraseIdx j
  | [], _ => rfl
  | _ :: _, 0 => rfl
  | a :: l, j + 1 => by simp [map_eraseIdx f l j]
theorem erase_mem {α : Type} {l : List α} {i : Nat} {x : α} (h : x ∈ l.eraseIdx i) : x ∈ l := (List.eraseIdx_sublist _ _).subset h
theorem kv_erase {es : List MapEntry} {L : List (DF × Nat)} (h : es.map kv = L.map fun x => (S x.1.name, Ptr x.2)) (j : Nat) : (es.eraseIdx j).map kv = (L.eraseIdx j).map fun x => (S x.1.name, Ptr x.2) := by
  rw [map_eraseIdx, map_eraseIdx, h]
theorem nodup_erase {α : Type} {l : List α} (h : l.Nodup) {j : Nat} {x : α} (hj : l[j]? = some x) : x ∉ l.eraseIdx j ∧ (l.eraseIdx j).Nodup := by
  have hp := (set_perm x hj).2
  have := hp.nodup_iff.1 h
  rw [List.nodup_cons] at this
  exact this
theorem dout_erase {fs L1 : List DF} (hr : Rise fs) (hp : L1.Perm fs) {f : DF} {j : Nat} (hj : L1[j]? = some f) : (L1.eraseIdx j).Perm (dout f.name fs) := by
  have h1 : fs.Perm (f :: L1.eraseIdx j) := hp.symm.trans (set_perm f hj).2
  have h2 : (dout f.name fs).Perm (dout f.name (f :: L1.eraseIdx j)) := h1.filter _
  refine .trans ?_ h2.symm
  have h3 : dout f.name (f :: L1.eraseIdx j) = dout f.name (L1.eraseIdx j) := by simp [dout]
  rw [h3]
  have hne : ∀ x ∈ L1.eraseIdx j, x.name ≠ f.name := by
    intro x hx c
    have hnd := rise_nodup hr
    have h4 : (fs.map (·.name)).Perm (f.name :: (L1.eraseIdx j).map (·.name)) := by simpa using h1.map (·.name)
    have h5 := (h4.nodup_iff).1 hnd
    rw [List.nodup_cons] at h5
    exact h5.1 (List.mem_map.2 ⟨x, hx, c⟩)
  have : dout f.name (L1.eraseIdx j) = L1.eraseIdx j := by
    unfold dout
    rw [List.filter_eq_self]
    intro x hx; simpa using hne x hx
  rw [this]

/-- A file is taken off. -/
theorem Dk.del {h : Heap} {p o m clock : Nat} {D D' : DD} {es : List MapEntry} {L : List (DF × Nat)} (d : Dk h p o D m es clock L) (hr : Rise D.fs) {j fp : Nat} {f : DF} (hj : L[j]? = some (f, fp))
    (m' : MapAt (h.set m ((o, 1), .map (es.eraseIdx j).toArray clock)) m (o, 1) .string (es.eraseIdx j) clock) (hfs : D'.fs = dout f.name D.fs) (h1 : D'.dead = D.dead) (h2 : D'.arm = D.arm) (h3 : D'.keep = D.keep) :
    Dk (h.set m ((o, 1), .map (es.eraseIdx j).toArray clock)) p o D' m (es.eraseIdx j) clock (L.eraseIdx j) := by
  refine d.remap (KeepT.set d.map.at_) m' (kv_erase d.ents j) (fun x hx => ⟨x, erase_mem hx, rfl, rfl, rfl⟩) ?_ ?_ h1 h2 h3
  · rw [map_eraseIdx]; exact d.nodup.sublist (List.eraseIdx_sublist _ _)
  · rw [map_eraseIdx, hfs]
    exact dout_erase hr d.perm (by simp [hj])

set_option maxHeartbeats 2000000 in
theorem Remove_any {h : Heap} {p o : Nat} {D : DD} (ho : o ≠ 0) (da : DA h p o D) (g : Good D) (n : Nm) :
    ACalls PR 25 #[Ptr p, S n] h (fun v h' => v = I (dremove D n).1 ∧ DA h' p o (dremove D n).2 ∧ Keep o h h') := by
  obtain ⟨m, es, clock, L, d⟩ := da
  refine acalls_of mix Try.func25 rfl rfl Try.ntmps25 Try.results25 rfl ?_; conv => whnf
  cases hd : D.dead with
  | true =>
    have e : dremove D n = (120, D) := by simp [dremove, hd]
    rw [e]
    refine ACalls.mono (find_dead d hd n) ?_; rintro _ _ ⟨rfl, rfl⟩; conv => whnf
    refine ACmp.no (by decide) ?_; conv => whnf
    refine ACmp.no (by decide) ?_; conv => whnf
    exact ⟨rfl, ⟨_, _, _, _, d⟩, Keep.refl _ _⟩
  | false =>
  cases hf : dfind D.fs n with
  | none =>
    have e : dremove D n = (121, D) := by simp [dremove, hd, hf]
    rw [e]
    refine ACalls.mono (find_miss d hd hf) ?_; rintro _ _ ⟨rfl, rfl⟩; conv => whnf
    refine ACmp.no (by decide) ?_; conv => whnf
    refine ACmp.no (by decide) ?_; conv => whnf
    exact ⟨rfl, ⟨_, _, _, _, d⟩, Keep.refl _ _⟩
  | some f =>
    obtain ⟨hfm, rfl⟩ := dfind_some hf
    obtain ⟨j, fp, en, hj, hej, hek, hev⟩ := d.hit hfm
    refine ACalls.mono (find_hit d hd hj) ?_; rintro _ _ ⟨rfl, rfl⟩; conv => whnf
    refine ACmp.yes (by decide) ?_; conv => whnf
    cases hgo : (dgone D).1 with
    | true =>
      have e : dremove D f.name = (120, (dgone D).2) := by simp [dremove, hd, hf, hgo]
      rw [e]
      refine ACalls.mono (begin_go ho d g hgo) ?_; rintro _ h2 ⟨rfl, d2, k2⟩; conv => whnf
      refine ACmp.no (by decide) ?_; conv => whnf
      exact ⟨rfl, d2, k2⟩
    | false =>
      have e : dremove D f.name = (0, { (dgone D).2 with fs := dout f.name D.fs }) := by simp [dremove, hd, hf, hgo]
      rw [e]
      obtain ⟨gf, gd, gk, _, _⟩ := gone_fs hgo
      refine ACalls.mono (begin_no d g hgo) ?_; rintro _ h2 ⟨rfl, d2, k2⟩; conv => whnf
      refine ACmp.yes (by decide) ?_; conv => whnf
      obtain ⟨l4, xa, xn, xc, b1, b2, b3⟩ := d2.at_
      refine ALoad.one rfl b1 rfl ?_; conv => whnf
      refine ADelete.hit d2.map rfl Try.underlying9 hej hek fun m5 => ?_
      conv => whnf
      have d5 := d2.del (D' := { (dgone D).2 with fs := dout f.name D.fs }) (by rw [gf]; exact g.rise) hj m5 (by rw [gf]) rfl rfl rfl
      exact ⟨rfl, ⟨_, _, _, _, d5⟩, k2.keep.trans (KeepT.set d2.map.at_).keep⟩

set_option maxHeartbeats 4000000 in
theorem Rename_any {h : Heap} {p o : Nat} {D : DD} (ho : o ≠ 0) (da : DA h p o D) (g : Good D) (n m' : Nm) (hml : m'.length ≤ 9223372036854775807) :
    ACalls PR 20 #[Ptr p, S n, S m'] h (fun v h' => v = I (drename D n m').1 ∧ DA h' p o (drename D n m').2 ∧ Keep o h h') := by
  obtain ⟨m, es, clock, L, d⟩ := da
  refine acalls_of mix Try.func20 rfl rfl Try.ntmps20 Try.results20 rfl ?_; conv => whnf
  cases hd : D.dead with
  | true =>
    have e : drename D n m' = (120, D) := by simp [drename, hd]
    rw [e]
    refine ACalls.mono (find_dead d hd n) ?_; rintro _ _ ⟨rfl, rfl⟩; conv => whnf
    refine ACmp.no (by decide) ?_; conv => whnf
    refine ACmp.no (by decide) ?_; conv => whnf
    refine ACmp.yes (by decide) ?_; conv => whnf
    exact ⟨rfl, ⟨_, _, _, _, d⟩, Keep.refl _ _⟩
  | false =>
  cases hf : dfind D.fs n with
  | none =>
    have e : drename D n m' = (121, D) := by simp [drename, hd, hf]
    rw [e]
    refine ACalls.mono (find_miss d hd hf) ?_; rintro _ _ ⟨rfl, rfl⟩; conv => whnf
    refine ACmp.no (by decide) ?_; conv => whnf
    refine ACmp.no (by decide) ?_; conv => whnf
    refine ACmp.yes (by decide) ?_; conv => whnf
    exact ⟨rfl, ⟨_, _, _, _, d⟩, Keep.refl _ _⟩
  | some f =>
    obtain ⟨hfm, rfl⟩ := dfind_some hf
    obtain ⟨j, fp, en, hj, hej, hek, hev⟩ := d.hit hfm
    refine ACalls.mono (find_hit d hd hj) ?_; rintro _ _ ⟨rfl, rfl⟩; conv => whnf
    refine ACmp.yes (by decide) ?_; conv => whnf
    have cn := named_any m' hml h
    cases hnm : nmOk m' with
    | false =>
      have e : drename D f.name m' = (121, D) := by simp [drename, hd, hf, hnm]
      rw [e]
      rw [hnm] at cn
      refine ACalls.mono (cn) ?_; rintro _ _ ⟨rfl, rfl⟩; conv => whnf
      refine ACmp.no (by decide) ?_; conv => whnf
      refine ACmp.yes (by decide) ?_; conv => whnf
      exact ⟨rfl, ⟨_, _, _, _, d⟩, Keep.refl _ _⟩
    | true =>
    rw [hnm] at cn
    refine ACalls.mono (cn) ?_; rintro _ _ ⟨rfl, rfl⟩; conv => whnf
    refine ACmp.yes (by decide) ?_; conv => whnf
    cases hgo : (dgone D).1 with
    | true =>
      have e : drename D f.name m' = (120, (dgone D).2) := by simp [drename, hd, hf, hgo, hnm]
      rw [e]
      refine ACalls.mono (begin_go ho d g hgo) ?_; rintro _ h2 ⟨rfl, d2, k2⟩; conv => whnf
      refine ACmp.yes (by decide) ?_; conv => whnf
      exact ⟨rfl, d2, k2⟩
    | false =>
      have e : drename D f.name m' = (0, { (dgone D).2 with fs := dput ⟨m', f.b, f.s⟩ (dout f.name D.fs) }) := by simp [drename, hd, hf, hgo, hnm]
      rw [e]
      obtain ⟨gf, gd, gk, _, _⟩ := gone_fs hgo
      refine ACalls.mono (begin_no d g hgo) ?_; rintro _ h2 ⟨rfl, d2, k2⟩; conv => whnf
      refine ACmp.no (by decide) ?_; conv => whnf
      obtain ⟨l4, xa, xn, xc, b1, b2, b3⟩ := d2.at_
      refine ALoad.one rfl b1 rfl ?_; conv => whnf
      refine ADelete.hit d2.map rfl Try.underlying9 hej hek fun m5 => ?_
      conv => whnf
      have d5 := d2.del (D' := { (dgone D).2 with fs := dout f.name D.fs }) (by rw [gf]; exact g.rise) hj m5 (by rw [gf]) rfl rfl rfl
      have kt5 := KeepT.set (y := .map (es.eraseIdx j).toArray clock) d2.map.at_
      have k5 := k2.keep.trans kt5.keep
      have b1' := kt5.get (by simp) b1
      obtain ⟨nfp, nd5⟩ := nodup_erase d2.nodup (by simp [hj] : (L.map (·.2))[j]? = some fp)
      rw [← map_eraseIdx] at nfp nd5
      have d2f := d2.files _ (List.mem_of_getElem? hj)
      have F5 : FAt (h2.set m ((o, 1), .map (es.eraseIdx j).toArray clock)) o fp f := by
        obtain ⟨a, n, c, q1, q2⟩ := d2f.at_
        exact ⟨a, n, c, kt5.get (by simp) q1, q2.keepT kt5 (by simp; omega)⟩
      have hr5 : Rise (dout f.name D.fs) := dout_rise g.rise
      generalize h2.set m ((o, 1), .map (es.eraseIdx j).toArray clock) = h5 at d5 kt5 k5 b1' F5 m5 ⊢
      refine ALoad.one rfl b1' rfl ?_; conv => whnf
      cases hf2 : dfind (dout f.name D.fs) m' with
      | none =>
        refine AMapUpd.miss d5.map rfl Try.underlying9 trivial (d5.miss hf2) fun m6 => ?_
        conv => whnf
        have kt : KeepT (o, 1) h5 (h5.set m ((o, 1), .map (es.eraseIdx j ++ [(⟨S m', Ptr fp, clock⟩ : MapEntry)]).toArray (clock + 1))) := KeepT.set d5.map.at_
        obtain ⟨l5, ya, yn, yc, c1, c2, c3⟩ := d5.at_
        refine ⟨rfl, ⟨m, _, _, L.eraseIdx j ++ [(⟨m', f.b, f.s⟩, fp)], ⟨⟨l5, ya, yn, yc, kt.get (by simp) c1, c2, c3.keepT kt (by simp)⟩, m6, ?_, ?_, ?_, ?_⟩⟩, k5.trans kt.keep⟩
        · rw [List.map_append, List.map_append, d5.ents]; rfl
        · intro x hx
          rcases List.mem_append.1 hx with hx | hx
          · obtain ⟨a, n', c, q1, q2⟩ := (d5.files x hx).at_
            exact ⟨a, n', c, kt.get (by simp) q1, q2.keepT kt (by simp; omega)⟩
          · simp only [List.mem_singleton] at hx; subst hx
            obtain ⟨a, n', c, q1, q2⟩ := F5.at_
            exact ⟨a, n', c, kt.get (by simp) q1, q2.keepT kt (by simp; omega)⟩
        · rw [List.map_append, List.nodup_append]
          refine ⟨nd5, by simp, ?_⟩
          intro a ha b' hb' c
          simp only [List.map_cons, List.map_nil, List.mem_singleton] at hb'
          rw [c, hb'] at ha
          exact nfp ha
        · rw [List.map_append]
          refine (List.perm_append_comm).trans ?_
          show ((⟨m', f.b, f.s⟩ : DF) :: (L.eraseIdx j).map (·.1)).Perm (dput ⟨m', f.b, f.s⟩ (dout f.name D.fs))
          refine (List.Perm.cons _ d5.perm).trans ?_
          have := dput_perm ⟨m', f.b, f.s⟩ (dout f.name D.fs)
          rw [show dout (DF.mk m' f.b f.s).name (dout f.name D.fs) = dout f.name D.fs from dout_none hf2] at this
          exact this.symm
      | some f2 =>
        obtain ⟨hfm2, rfl⟩ := dfind_some hf2
        obtain ⟨j2, fp2, en2, hj2, hej2, hek2, hev2⟩ := d5.hit hfm2
        refine AMapUpd.hit d5.map rfl Try.underlying9 hej2 hek2 fun m6 => ?_
        conv => whnf
        have kt : KeepT (o, 1) h5 (h5.set m ((o, 1), .map ((es.eraseIdx j).set j2 { en2 with val := Ptr fp }).toArray clock)) := KeepT.set d5.map.at_
        obtain ⟨l5, ya, yn, yc, c1, c2, c3⟩ := d5.at_
        have hlt2 := (List.getElem?_eq_some_iff.1 hj2).1
        have hLj2 := (List.getElem?_eq_some_iff.1 hj2).2
        refine ⟨rfl, ⟨m, _, _, (L.eraseIdx j).set j2 (⟨f2.name, f.b, f.s⟩, fp), ⟨⟨l5, ya, yn, yc, kt.get (by simp) c1, c2, c3.keepT kt (by simp)⟩, m6, ?_, ?_, ?_, ?_⟩⟩, k5.trans kt.keep⟩
        · rw [List.map_set, List.map_set, d5.ents]
          have : kv { en2 with val := Ptr fp } = (S f2.name, Ptr fp) := by simp [kv, hek2]
          rw [this]
        · intro x hx
          rcases List.mem_or_eq_of_mem_set hx with hx | rfl
          · obtain ⟨a, n', c, q1, q2⟩ := (d5.files x hx).at_
            exact ⟨a, n', c, kt.get (by simp) q1, q2.keepT kt (by simp; omega)⟩
          · obtain ⟨a, n', c, q1, q2⟩ := F5.at_
            exact ⟨a, n', c, kt.get (by simp) q1, q2.keepT kt (by simp; omega)⟩
        · rw [List.map_set]
          have hp := (set_perm fp (by simp [hj2] : ((L.eraseIdx j).map (·.2))[j2]? = some fp2)).1
          rw [hp.nodup_iff, List.nodup_cons]
          exact ⟨fun c => nfp (erase_mem c), nd5.sublist (List.eraseIdx_sublist _ _)⟩
        · rw [List.map_set]
          exact dput_perm_of hr5 d5.perm (f := f2) (by simp [hj2]) rfl
end Go.Ah
