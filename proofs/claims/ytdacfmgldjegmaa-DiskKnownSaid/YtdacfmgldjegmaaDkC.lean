/- Walks of the disk's functions: New, check, find, names. -/
import Derived.Test.YtdacfmgldjegmaaDkB
namespace Go.Ah
open Go.Proofs
open Go.MapKept (IsKey Stamped)
set_option linter.unusedVariables false
set_option maxRecDepth 20000
set_option linter.unusedSimpArgs false

theorem Dk.len {h : Heap} {p o m clock : Nat} {D : DD} {es : List MapEntry} {L : List (DF × Nat)} (d : Dk h p o D m es clock L) : es.length = L.length := by
  have := congrArg List.length d.ents; simpa using this
theorem Dk.lenfs {h : Heap} {p o m clock : Nat} {D : DD} {es : List MapEntry} {L : List (DF × Nat)} (d : Dk h p o D m es clock L) : L.length = D.fs.length := by
  have := d.perm.length_eq; simpa using this
theorem Dk.ent {h : Heap} {p o m clock : Nat} {D : DD} {es : List MapEntry} {L : List (DF × Nat)} (d : Dk h p o D m es clock L) {j : Nat} {f : DF} {fp : Nat} (hj : L[j]? = some (f, fp)) :
    ∃ e, es[j]? = some e ∧ e.key = S f.name ∧ e.val = Ptr fp := by
  have h1 : (es.map kv)[j]? = some (S f.name, Ptr fp) := by rw [d.ents, List.getElem?_map, hj]; rfl
  rw [List.getElem?_map] at h1
  cases he : es[j]? with
  | none => rw [he] at h1; cases h1
  | some e => rw [he] at h1; simp only [Option.map_some, Option.some.injEq, Prod.mk.injEq] at h1; exact ⟨e, rfl, h1.1, h1.2⟩
theorem Dk.hit {h : Heap} {p o m clock : Nat} {D : DD} {es : List MapEntry} {L : List (DF × Nat)} (d : Dk h p o D m es clock L) {f : DF} (hf : f ∈ D.fs) :
    ∃ (j fp : Nat) (e : MapEntry), L[j]? = some (f, fp) ∧ es[j]? = some e ∧ e.key = S f.name ∧ e.val = Ptr fp := by
  obtain ⟨x, hx, hxf⟩ := List.mem_map.1 (d.perm.mem_iff.2 hf)
  obtain ⟨f', fp⟩ := x
  simp only at hxf; subst hxf
  obtain ⟨j, hj⟩ := List.getElem?_of_mem hx
  obtain ⟨e, h1, h2, h3⟩ := d.ent hj
  exact ⟨j, fp, e, hj, h1, h2, h3⟩
theorem Dk.miss {h : Heap} {p o m clock : Nat} {D : DD} {es : List MapEntry} {L : List (DF × Nat)} (d : Dk h p o D m es clock L) {n : Nm} (hn : dfind D.fs n = none) : ∀ e ∈ es, e.key ≠ S n := by
  intro e he hk
  obtain ⟨j, hj⟩ := List.getElem?_of_mem he
  have hl : j < L.length := by rw [← d.len]; exact (List.getElem?_eq_some_iff.1 hj).1
  obtain ⟨e', h1, h2, h3⟩ := d.ent (j := j) (f := L[j].1) (fp := L[j].2) (by simp [hl])
  rw [hj] at h1; cases h1
  rw [hk] at h2
  refine dfind_none hn L[j].1 (d.perm.mem_iff.1 (List.mem_map.2 ⟨L[j], List.getElem_mem hl, rfl⟩)) (str_inj h2).symm
theorem Dk.move {h h' : Heap} {p o m clock : Nat} {D : DD} {es : List MapEntry} {L : List (DF × Nat)} (d : Dk h p o D m es clock L) (k : ∀ b (t : Tag) x, t.1 = o → h b = some (t, x) → h' b = some (t, x)) : Dk h' p o D m es clock L := by
  obtain ⟨left, ka, kn, kc, h1, h2, h3⟩ := d.at_
  refine ⟨⟨left, ka, kn, kc, k _ _ _ rfl h1, h2, h3.move fun b x e => k _ _ _ rfl e⟩, d.map.move fun x e => k _ _ _ rfl e, d.ents, fun x hx => ?_, d.nodup, d.perm⟩
  obtain ⟨a, n, c, f1, f2⟩ := (d.files x hx).at_
  exact ⟨a, n, c, k _ _ _ rfl f1, f2.move fun b x e => k _ _ _ rfl e⟩
theorem Dk.sub {h h' : Heap} {p o m clock : Nat} {D : DD} {es : List MapEntry} {L : List (DF × Nat)} (d : Dk h p o D m es clock L) (k : Sub h h') : Dk h' p o D m es clock L := d.move fun _ _ _ _ e => k _ _ e
theorem Dk.keep {h h' : Heap} {p o q m clock : Nat} {D : DD} {es : List MapEntry} {L : List (DF × Nat)} (d : Dk h p o D m es clock L) (k : Keep q h h') (n : o ≠ q) : Dk h' p o D m es clock L := d.move fun _ _ _ ht e => k _ _ _ (by rw [ht]; exact n) e

theorem New_any (h : Heap) (o : Nat) : ACalls PR 11 #[] h (fun v h' => ∃ p m, v = Ptr p ∧ Dk h' p o dnew m [] 0 [] ∧ Sub h h') := by
  refine acalls_of mix Try.func11 rfl rfl Try.ntmps11 Try.results11 rfl ?_; conv => whnf
  refine AMakeMap.mk (o, 1) fun m fm => ?_; conv => whnf
  refine ABox.mk (o, 0) rfl fun p fp => ?_; conv => whnf
  have s2 := fp.sub (row (o, 0) [.map (some m), .bool false, .bool false, I 0, .slice none 0 0] 61)
  refine ⟨p, m, rfl, ⟨⟨0, none, 0, 0, Heap.set_same _ _ _, by simp [dnew], Sl.nil ..⟩, MapAt.empty (s2 _ _ (Heap.set_same _ _ _)), rfl, by simp, by simp, by simp [dnew]⟩, (fm.sub _).trans s2⟩

theorem check_nil (h : Heap) : ACalls PR 36 #[.pointer none] h (fun v h' => v = I 1 ∧ h = h') := by
  refine acalls_pure (acalls_of mix Try.func36 rfl rfl Try.ntmps36 Try.results36 rfl ?_); conv => whnf
  exact ⟨rfl, Sub.refl _⟩
theorem check_none (h : Heap) {p : Nat} {tg : Tag} {r : List Value} (hp : h p = some (row tg (.map none :: r) 61)) : ACalls PR 36 #[Ptr p] h (fun v h' => v = I 1 ∧ h = h') := by
  refine acalls_pure (acalls_of mix Try.func36 rfl rfl Try.ntmps36 Try.results36 rfl ?_); conv => whnf
  refine ALoad.one rfl hp rfl ?_; conv => whnf
  exact ⟨rfl, Sub.refl _⟩
def dcheck (d : Bool) : Int := if d then 120 else 0
theorem check_row (h : Heap) {p m : Nat} {tg : Tag} {d : Bool} {r : List Value} (hp : h p = some (row tg (.map (some m) :: .bool d :: r) 61)) : ACalls PR 36 #[Ptr p] h (fun v h' => v = I (dcheck d) ∧ h = h') := by
  refine acalls_pure ?_
  cases d
  all_goals (refine acalls_of mix Try.func36 rfl rfl Try.ntmps36 Try.results36 rfl ?_; conv => whnf)
  all_goals (refine ALoad.one rfl hp rfl ?_; conv => whnf)
  all_goals (refine ALoad.one rfl hp rfl ?_; conv => whnf)
  all_goals exact ⟨rfl, Sub.refl _⟩
theorem check_any {h : Heap} {p o m clock : Nat} {D : DD} {es : List MapEntry} {L : List (DF × Nat)} (d : Dk h p o D m es clock L) : ACalls PR 36 #[Ptr p] h (fun v h' => v = I (dcheck D.dead) ∧ h = h') := by
  obtain ⟨left, ka, kn, kc, h1, h2, h3⟩ := d.at_
  exact check_row h h1

theorem find_dead {h : Heap} {p o m clock : Nat} {D : DD} {es : List MapEntry} {L : List (DF × Nat)} (d : Dk h p o D m es clock L) (hd : D.dead = true) (n : Nm) : ACalls PR 33 #[Ptr p, S n] h (fun v h' => v = .tuple #[.pointer none, I 120] ∧ h = h') := by
  refine acalls_pure (acalls_of mix Try.func33 rfl rfl Try.ntmps33 Try.results33 rfl ?_); conv => whnf
  have c := check_any d
  rw [hd] at c
  refine ACalls.mono (c) ?_; rintro _ _ ⟨rfl, rfl⟩; conv => whnf
  refine ACmp.yes (by decide) ?_; conv => whnf
  exact ⟨rfl, Sub.refl _⟩
theorem find_miss {h : Heap} {p o m clock : Nat} {D : DD} {es : List MapEntry} {L : List (DF × Nat)} (d : Dk h p o D m es clock L) (hd : D.dead = false) {n : Nm} (hn : dfind D.fs n = none) : ACalls PR 33 #[Ptr p, S n] h (fun v h' => v = .tuple #[.pointer none, I 121] ∧ h = h') := by
  obtain ⟨left, ka, kn, kc, h1, h2, h3⟩ := d.at_
  refine acalls_pure (acalls_of mix Try.func33 rfl rfl Try.ntmps33 Try.results33 rfl ?_); conv => whnf
  have c := check_any d
  rw [hd] at c
  refine ACalls.mono (c) ?_; rintro _ _ ⟨rfl, rfl⟩; conv => whnf
  refine ACmp.no (by decide) ?_; conv => whnf
  refine ALoad.one rfl h1 rfl ?_; conv => whnf
  refine ALookup.miss d.map rfl Try.underlying9 rfl trivial (d.miss hn) ?_; conv => whnf
  exact ⟨rfl, Sub.refl _⟩
theorem find_hit {h : Heap} {p o m clock : Nat} {D : DD} {es : List MapEntry} {L : List (DF × Nat)} (d : Dk h p o D m es clock L) (hd : D.dead = false) {j : Nat} {f : DF} {fp : Nat} (hj : L[j]? = some (f, fp)) :
    ACalls PR 33 #[Ptr p, S f.name] h (fun v h' => v = .tuple #[Ptr fp, I 0] ∧ h = h') := by
  obtain ⟨left, ka, kn, kc, h1, h2, h3⟩ := d.at_
  obtain ⟨e, he, hk, hv⟩ := d.ent hj
  refine acalls_pure (acalls_of mix Try.func33 rfl rfl Try.ntmps33 Try.results33 rfl ?_); conv => whnf
  have c := check_any d
  rw [hd] at c
  refine ACalls.mono (c) ?_; rintro _ _ ⟨rfl, rfl⟩; conv => whnf
  refine ACmp.no (by decide) ?_; conv => whnf
  refine ALoad.one rfl h1 rfl ?_; conv => whnf
  refine ALookup.hit d.map rfl Try.underlying9 (List.mem_of_getElem? he) hk ?_
  rw [hv]
  conv => whnf
  exact ⟨rfl, Sub.refl _⟩

theorem Dk.strs {h : Heap} {p o m clock : Nat} {D : DD} {es : List MapEntry} {L : List (DF × Nat)} (d : Dk h p o D m es clock L) : es.map (fun x => keyB x.key) = L.map (·.1.name) := by
  have h1 : es.map (fun x => keyB x.key) = (es.map kv).map (fun x => keyB x.1) := by simp
  rw [h1, d.ents]
  simp [keyB]
theorem Dk.keys {h : Heap} {p o m clock : Nat} {D : DD} {es : List MapEntry} {L : List (DF × Nat)} (d : Dk h p o D m es clock L) (g : Good D) : ∀ x ∈ es, ∃ n : Nm, x.key = S n ∧ n.length ≤ maxLen := by
  intro x hx
  obtain ⟨j, hj⟩ := List.getElem?_of_mem hx
  have hl : j < L.length := by rw [← d.len]; exact (List.getElem?_eq_some_iff.1 hj).1
  obtain ⟨e', h1, h2, h3⟩ := d.ent (j := j) (f := L[j].1) (fp := L[j].2) (by simp [hl])
  rw [hj] at h1; cases h1
  have hm := g.names L[j].1 (d.perm.mem_iff.1 (List.mem_map.2 ⟨L[j], List.getElem_mem hl, rfl⟩))
  refine ⟨_, h2, ?_⟩
  simp [nmOk] at hm
  have : (24 : Nat) ≤ maxLen := by decide
  omega
theorem sorted_eq {ss : List Nm} {fs : List DF} (hr : Rise fs) (hp : ss.Perm (fs.map (·.name))) (hs : ss.Pairwise (· ≤ ·)) : ss = fs.map (·.name) := by
  have h2 : (fs.map (·.name)).Pairwise (· ≤ ·) := by
    rw [List.pairwise_map]; exact hr.imp fun h => List.le_of_lt h
  exact List.Perm.eq_of_pairwise (le := fun a b : Nm => a ≤ b) (fun a b _ _ h1 h2 => List.le_antisymm h1 h2) hs h2 hp

theorem names_any {h : Heap} {p o m clock : Nat} {D : DD} {es : List MapEntry} {L : List (DF × Nat)} (d : Dk h p o D m es clock L) (g : Good D) :
    ACalls PR 40 #[Ptr p] h (fun v h' => ∃ (a : Option Addr) (c : Nat), v = .slice a D.fs.length c ∧ Sl h' (0, 1) a D.fs.length c 1 (D.fs.map fun f => S f.name) ∧ Sub h h') := by
  obtain ⟨left, ka, kn, kc, h1, h2, h3⟩ := d.at_
  refine acalls_of mix Try.func40 rfl rfl Try.ntmps40 Try.results40 rfl ?_; conv => whnf
  refine ALoad.one rfl h1 rfl ?_; conv => whnf
  refine ACalls.mono (keys_any m) ?_; rintro _ _ ⟨b, fb, rfl, rfl⟩; conv => whnf
  have s1 := fb.sub ((0, 1), .cells #[.map (some m)] 59 (0, 0))
  have hl : es.length ≤ 1000 := by have := d.len; have := d.lenfs; have := g.size; omega
  refine ACalls.mono (sorted_any (Heap.set_same _ _ _) (d.map.move fun x e => s1 _ _ e) (d.keys g) hl) ?_; rintro _ h' ⟨a, c, ss, rfl, hp, hs, sl, s2⟩; conv => whnf
  have hss : ss = D.fs.map (·.name) := by
    refine sorted_eq g.rise (hp.trans ?_) hs
    rw [d.strs]
    have := d.perm.map (·.name)
    rw [List.map_map] at this
    exact this
  subst hss
  refine ⟨a, c, by simp, ?_, s1.trans s2⟩
  rw [List.length_map, List.map_map] at sl
  exact sl
end Go.Ah
