/- Walks of the disk's small functions: names, check, find. -/
import Derived.Test.YtdacfmgldjegmaaOpn
import Derived.Test.YtdacfmgldjegmaaDkP
import Derived.Test.YtdacfmgldjegmaaDkI
namespace Go.Ah
open Go.Proofs
open Go.MapKept (IsKey Stamped)
set_option linter.unusedVariables false
set_option linter.unusedSimpArgs false

noncomputable abbrev PR : Program := Try.prog
theorem mix : PR.follows .mixedOrders = true := by rfl
theorem acalls_pure {f : FuncId} {args : Array Value} {h : Heap} {Q : Value → Prop} (c : ACalls PR f args h (fun v h' => Q v ∧ Sub h h')) : ACalls PR f args h (fun v h' => Q v ∧ h = h') :=
  c.drop fun v h' ⟨q, s⟩ => ⟨h, s, q, rfl⟩
abbrev I (x : Int) : Value := .int .i64 x
abbrev Ptr (p : Nat) : Value := .pointer (some ⟨p, 0, none⟩)

/-- the bytes of a key -/
def keyB : Value → Nm
  | .string s => s.data.toList
  | _ => []
theorem keyB_S (n : Nm) : keyB (S n) = n := by simp [keyB]

theorem keys_any {h : Heap} (m : Nat) : ACalls PR 58 #[.map (some m)] h (fun v h' => ∃ b, Fresh h b ∧ v = .func (.func 63) #[] #[Ptr b] ∧ h' = h.set b ((0, 1), .cells #[.map (some m)] 59 (0, 0))) := by
  refine ⟨⟨Try.f58, Try.func58, rfl, rfl⟩, fun β w hr => (callsIn_wide.1 (Try.maps_Keys_58 (some m) w)).mono ?_⟩
  rintro e w' ⟨rfl, rfl⟩
  have hf := hr.rel.fresh
  refine ⟨_, _, rfl, hr.set (b := w.heap.size) (t := (0, 1)) (o := .cells #[.map (some m)] 59 (0, 0)) ?_ ?_ rfl rfl rfl ?_, w.heap.size, hf, rfl, rfl⟩
  · show (w.heap.push _)[w.heap.size]? = _
    simp
  · intro c hc
    show (w.heap.push _)[c]? = _
    rw [Array.getElem?_push, if_neg hc]
  · show w.heap.size ≤ (w.heap.push _).size
    simp

theorem fit_of {H : Type} {es : List MapEntry} {clock : Nat} (hs : Stamped es.toArray clock) (hk : ∀ x ∈ es, ∃ n : Nm, x.key = S n ∧ n.length ≤ maxLen) (hl : es.length ≤ maxLen) :
    Go.WideElems.Fit (H := H) PR 9 (fun _ => some (.nil, [])) es.toArray clock := by
  refine ⟨by simpa using hl, hs, fun x hx => ?_⟩
  obtain ⟨n, hn, hnl⟩ := hk x (by simpa using hx)
  have h1 : keyOf PR 9 x.key = some (.string n) := by
    rw [hn]
    have hu : PR.underlying 9 = some .string := Try.underlying9
    simp [keyOf, hu, mapKey, ByteArray.size, hnl]
  exact ⟨(.string n, .nil), by simp [Go.WideElems.rd, h1]⟩

theorem strKeys_of {H : Type} {es : List MapEntry} (hk : ∀ x ∈ es, ∃ n : Nm, x.key = S n ∧ n.length ≤ maxLen) :
    (Go.strKeys (H := H) (.map ((es.map (Go.WideElems.rg PR 9 (fun _ => some (.nil, [])))).foldr DataW.insert []))).Perm (es.map fun x => keyB x.key) := by
  unfold Go.strKeys
  refine ((Go.WideShapes.sorted_perm _).map _).trans ?_
  rw [List.map_map]
  refine .of_eq (List.map_congr_left fun x hx => ?_)
  obtain ⟨n, hn, hnl⟩ := hk x hx
  have h1 : keyOf PR 9 x.key = some (.string n) := by
    rw [hn]
    have hu : PR.underlying 9 = some .string := Try.underlying9
    simp [keyOf, hu, mapKey, ByteArray.size, hnl]
  have h2 : Go.WideElems.rg (H := H) PR 9 (fun _ => some (.nil, [])) x = (.string n, .nil) := by simp [Go.WideElems.rg, Go.WideElems.rd, h1]
  simp only [Function.comp, h2, hn, keyB_S]; rfl

theorem sorted_any {h : Heap} {b m : Nat} {t tg : Tag} {es : List MapEntry} {clock : Nat} (hb : h b = some (t, .cells #[.map (some m)] 59 (0, 0))) (hm : MapAt h m tg .string es clock) (hk : ∀ x ∈ es, ∃ n : Nm, x.key = S n ∧ n.length ≤ maxLen)
    (hl : es.length ≤ 1000) :
    ACalls PR 57 #[.func (.func 63) #[] #[Ptr b]] h (fun v h' => ∃ (a : Option Addr) (c : Nat) (ss : List Nm), v = .slice a ss.length c ∧ ss.Perm (es.map fun x => keyB x.key) ∧ ss.Pairwise (· ≤ ·) ∧ Sl h' (0, 1) a ss.length c 1 (ss.map S) ∧ Sub h h') := by
  refine ⟨⟨Try.f57, Try.func57, rfl, rfl⟩, fun β w hr => ?_⟩
  have hmx : (1000 : Nat) ≤ maxLen := by decide
  have hown : w.ownsMap (H := Unit) PR 9 (fun _ => some (.nil, [])) m es.length (.map ((es.map (Go.WideElems.rg PR 9 (fun _ => some (.nil, [])))).foldr DataW.insert [])) :=
    ⟨es.toArray, clock, hr.rel _ _ _ hm.at_, fit_of hm.st hk (by omega), by simp, by simp⟩
  have hwb := hr.rel _ _ _ hb
  have hcell : w.cell? ⟨b, 0, none⟩ = some (.map (some m)) := by unfold World.cell?; rw [hwb]; rfl
  have hsz : Go.Maps.size (H := Unit) (.map ((es.map (Go.WideElems.rg PR 9 (fun _ => some (.nil, [])))).foldr DataW.insert [])) = es.length := by
    rw [Go.Maps.size_eq, (Go.WideShapes.sorted_perm _).length_eq]; simp
  have hseq := AnyZ.keys_gives (ρ := Try.keys58_ren) { Try.keys58 with } Fence.wide 2 trivial rfl (by omega) b m es.length _ w (Array.getElem?_eq_some_iff.1 hwb).1 hcell hown
  have cS := AnyZ.sorted_in Try.sorted57 Fence.wide 5 trivial trivial trivial trivial rfl (by omega) (Try.sorts57 _) (enters_of Try.func62 (by kernel_rfl) rfl) 63 #[.pointer (some ⟨b, 0, none⟩)] trivial (enters_of Try.func63 (by kernel_rfl) rfl) _ _ (by rw [hsz]; omega) (by rw [hsz]; omega) _ hseq
  refine (callsIn_wide.1 cS).mono ?_
  rintro e w' ⟨v, ss, rfl, hS, hrow, hnil, hbl⟩
  have hperm : (ss.mergeSort (fun x y => decide (x ≤ y))).Perm (es.map fun x => keyB x.key) := (List.mergeSort_perm _ _).trans (hS.trans (strKeys_of hk))
  have hsort : (ss.mergeSort (fun x y => decide (x ≤ y))).Pairwise (· ≤ ·) := by
    have tr : ∀ a b c : List UInt8, decide (a ≤ b) = true → decide (b ≤ c) = true → decide (a ≤ c) = true := fun a b c h1 h2 => by simp only [decide_eq_true_eq] at *; exact List.le_trans h1 h2
    have to : ∀ a b : List UInt8, (decide (a ≤ b) || decide (b ≤ a)) = true := fun a b => by simp only [Bool.or_eq_true, decide_eq_true_eq]; exact List.le_total a b
    exact (List.pairwise_mergeSort (le := fun x y => decide (x ≤ y)) tr to ss).imp fun h => by simpa using h
  have hlen : (ss.mergeSort (fun x y => decide (x ≤ y))).length = ss.length := List.length_mergeSort _
  rcases hrow with ⟨_, ⟨rfl, h0⟩ | ⟨g, cap, cur, rfl, hg, hgw, hnc, hcap, hcs, hct⟩⟩
  · refine ⟨_, h, rfl, ⟨?_, hbl.os.trans hr.os, hbl.tape.trans hr.tape, hbl.output.trans hr.out, Nat.le_trans hr.size hbl.size⟩, none, 0, _, ?_, hperm, hsort, ?_, Sub.refl _⟩
    · intro c t' o hc
      have := hr.rel _ _ _ hc
      rw [hbl.block c (Array.getElem?_eq_some_iff.1 this).1]; exact this
    · rw [hlen, h0]
    · rw [hlen, h0]
      have : ss.mergeSort (fun x y => decide (x ≤ y)) = [] := List.eq_nil_of_length_eq_zero (hlen.trans h0)
      rw [this]; exact Sl.nil ..
  · have hf := hr.rel.fresh
    have hnone : ∀ c x, h c = some x → c ≠ g := fun c x hc => by have := hf _ _ hc; omega
    refine ⟨_, h.set g ((0, 1), .cells cur.toList.toArray 9 (0, 0)), rfl, ⟨?_, hbl.os.trans hr.os, hbl.tape.trans hr.tape, hbl.output.trans hr.out, Nat.le_trans hr.size hbl.size⟩, some ⟨g, 0, none⟩, cap, _, ?_, hperm, hsort, ?_, ?_⟩
    · intro c t' o hc
      unfold Heap.set at hc
      split at hc
      · rename_i hcg; subst hcg
        cases hc
        rw [hgw]; rfl
      · have := hr.rel _ _ _ hc
        rw [hbl.block c (Array.getElem?_eq_some_iff.1 this).1]; exact this
    · rw [hlen]
    · rw [hlen]
      refine ⟨by simp [hlen], hnc, .inr ⟨g, 0, cur.toList, 9, (0, 0), rfl, Heap.set_same _ _ _, ?_⟩⟩
      rw [List.drop_zero, hct]
    · intro c x hc; exact Heap.set_ne (hnone c x hc) hc
end Go.Ah
