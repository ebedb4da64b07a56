/- The chapter's disk works. -/
import Derived.Test.YtdacfmgldjegmaaDlA
namespace Go.Ah
open Go.Proofs
set_option linter.unusedVariables false
set_option linter.unusedSimpArgs false
set_option maxRecDepth 20000

theorem sl_bytes {h : Heap} {t : Tag} {b : Nat} {xs : List Int} {E : TypeId} (e : h b = some (row t (bytesV xs) E)) : Sl h t (some ⟨b, 0, none⟩) xs.length xs.length 1 (bytesV xs) :=
  ⟨by simp [bytesV], Nat.le_refl _, .inr ⟨b, 0, _, _, _, rfl, e, by rw [List.drop_zero, Nat.mul_one, List.take_of_length_le]; simp [bytesV]⟩⟩
theorem sl_ints {h : Heap} {t : Tag} {b : Nat} {xs : List Int} {E : TypeId} (e : h b = some (row t (xs.map I) E)) : Sl h t (some ⟨b, 0, none⟩) xs.length xs.length 1 (xs.map I) :=
  ⟨by simp, Nat.le_refl _, .inr ⟨b, 0, _, _, _, rfl, e, by rw [List.drop_zero, Nat.mul_one, List.take_of_length_le]; simp⟩⟩
theorem sl_strs {h : Heap} {t : Tag} {b : Nat} {xs : List Nm} {E : TypeId} (e : h b = some (row t (xs.map S) E)) : Sl h t (some ⟨b, 0, none⟩) xs.length xs.length 1 (xs.map S) :=
  ⟨by simp, Nat.le_refl _, .inr ⟨b, 0, _, _, _, rfl, e, by rw [List.drop_zero, Nat.mul_one, List.take_of_length_le]; simp⟩⟩

def W1 : DD := (dappend dnew [97] [1, 2]).2
def W2 : DD := (dsync W1 [97]).2
def W3 : DD := (dappend W2 [97] [3, 4]).2
def W4 : DD := (dcrashed W3 [1]).2
def W5 : DD := dboot W4
def W6 : DD := (darm W5 1 []).2
def W7 : DD := (dappend W6 [98] [5]).2
def W8 : DD := (dappend W7 [98] [6]).2
def W9 : DD := dboot W8
def W10 : DD := (drename W9 [97] [98]).2
theorem w1 : (dappend dnew [97] [1, 2]).1 = 0 := by decide +kernel
theorem w2 : (dsync W1 [97]).1 = 0 := by decide +kernel
theorem w3 : (dappend W2 [97] [3, 4]).1 = 0 := by decide +kernel
theorem w4 : (dcrashed W3 [1]).1 = 0 := by decide +kernel
theorem w4d : W4.dead = true := by decide +kernel
theorem w5 : dread W5 [97] = ([1, 2, 3], 0) := by decide +kernel
theorem w6 : (darm W5 1 []).1 = 0 := by decide +kernel
theorem w7 : (dappend W6 [98] [5]).1 = 0 := by decide +kernel
theorem w8 : (dappend W7 [98] [6]).1 = 120 := by decide +kernel
theorem w9 : dread W9 [98] = ([], 0) := by decide +kernel
theorem w9l : dlist W9 = [[97], [98]] := by decide +kernel
theorem w10 : (drename W9 [97] [98]).1 = 0 := by decide +kernel
theorem w10r : dread W10 [98] = ([1, 2, 3], 0) := by decide +kernel
theorem w11 : (dremove W10 [97]).1 = 121 := by decide +kernel
theorem gW1 : Good W1 := Good.new.append _ _
theorem gW2 : Good W2 := gW1.sync _
theorem gW3 : Good W3 := gW2.append _ _
theorem gW4 : Good W4 := gW3.crashed _
theorem gW5 : Good W5 := gW4.boot
theorem gW6 : Good W6 := gW5.arm _ (by omega) _
theorem gW7 : Good W7 := gW6.append _ _
theorem gW8 : Good W8 := gW7.append _ _
theorem gW9 : Good W9 := gW8.boot
theorem gW10 : Good W10 := gW9.rename _ _

set_option maxHeartbeats 4000000 in
theorem works_any (h : Heap) : ACalls PR 10 #[] h (fun v h' => v = .bool true ∧ h = h') := by
  refine ACalls.owner ⟨Try.f10, Try.func10, rfl, rfl⟩ fun o ho bnd => ?_
  refine acalls_pure (ACalls.mono (?_ : ACalls PR 10 #[] h (fun v h' => v = .bool true ∧ Keep o h h')) fun v h' ⟨e, k⟩ => ⟨e, k.toSub (bnd.no (Nat.le_refl _))⟩)
  have t01 : ((0, 1) : Tag).1 ≠ o := fun c => ho c.symm
  refine acalls_of mix Try.func10 rfl rfl Try.ntmps10 Try.results10 rfl ?_; conv => whnf
  refine ACalls.mono (New_any h o) ?_; rintro _ h1 ⟨p, m, rfl, d1, s1⟩; conv => whnf
  have D1 : DA h1 p o dnew := ⟨_, _, _, _, d1⟩
  refine ABuildSl.mk (0, 1) rfl rfl rfl rfl rfl rfl rfl fun b1 f1 => ?_; conv => whnf
  have q1 := f1.sub (row (0, 1) (bytesV [1, 2]) 5)
  refine ACalls.mono (Append_any ho (D1.sub q1) Good.new [97] (by decide) (sl_bytes (xs := [1, 2]) (Heap.set_same _ _ _)) t01 (by decide)) ?_; rintro _ h2 ⟨rfl, (D2 : DA h2 p o W1), k2⟩; conv => whnf
  refine ACmp.yes (w1) ?_; conv => whnf
  refine ACalls.mono (Sync_any ho D2 gW1 [97]) ?_; rintro _ h3 ⟨rfl, (D3 : DA h3 p o W2), k3⟩; conv => whnf
  refine ACmp.yes (w2) ?_; conv => whnf
  refine ABuildSl.mk (0, 1) rfl rfl rfl rfl rfl rfl rfl fun b3 f3 => ?_; conv => whnf
  have q3 := f3.sub (row (0, 1) (bytesV [3, 4]) 5)
  refine ACalls.mono (Append_any ho (D3.sub q3) gW2 [97] (by decide) (sl_bytes (xs := [3, 4]) (Heap.set_same _ _ _)) t01 (by decide)) ?_; rintro _ h4 ⟨rfl, (D4 : DA h4 p o W3), k4⟩; conv => whnf
  refine ACmp.yes (w3) ?_; conv => whnf
  refine ABuildSl.mk (0, 1) rfl rfl rfl rfl rfl rfl rfl fun b4 f4 => ?_; conv => whnf
  have q4 := f4.sub (row (0, 1) ([1].map I) 3)
  refine ACalls.mono (Crash_any ho (D4.sub q4) gW3 (sl_ints (xs := [1]) (Heap.set_same _ _ _)) t01) ?_; rintro _ h5 ⟨rfl, (D5 : DA h5 p o W4), k5⟩; conv => whnf
  refine ACmp.yes (w4) ?_; conv => whnf
  have cd := Dead_any D5
  rw [w4d] at cd
  refine ACalls.mono (cd) ?_; rintro _ _ ⟨rfl, rfl⟩; conv => whnf
  refine ACalls.mono (Boot_any D5) ?_; rintro _ h6 ⟨rfl, (D6 : DA h6 p o W5), k6⟩; conv => whnf
  refine ACmp.yes (rfl) ?_; conv => whnf
  refine ABuildSl.mk (0, 1) rfl rfl rfl rfl rfl rfl rfl fun b6 f6 => ?_; conv => whnf
  have q6 := f6.sub (row (0, 1) (bytesV [1, 2, 3]) 5)
  have cr := reads_any (D6.sub q6) gW5 [97] (sl_bytes (xs := [1, 2, 3]) (Heap.set_same _ _ _))
  rw [decide_eq_true w5] at cr
  refine ACalls.mono (cr) ?_; rintro _ _ ⟨rfl, rfl⟩; conv => whnf
  refine ACalls.mono (Arm_any ho (D6.sub q6) 1 (keep := []) (Sl.nil _ (0, 1) none 0 1) t01 (by decide)) ?_; rintro _ h7 ⟨rfl, (D7 : DA h7 p o W6), k7⟩; conv => whnf
  refine ACmp.yes (w6) ?_; conv => whnf
  refine ABuildSl.mk (0, 1) rfl rfl rfl rfl rfl rfl rfl fun b7 f7 => ?_; conv => whnf
  have q7 := f7.sub (row (0, 1) (bytesV [5]) 5)
  refine ACalls.mono (Append_any ho (D7.sub q7) gW6 [98] (by decide) (sl_bytes (xs := [5]) (Heap.set_same _ _ _)) t01 (by decide)) ?_; rintro _ h8 ⟨rfl, (D8 : DA h8 p o W7), k8⟩; conv => whnf
  refine ACmp.yes (w7) ?_; conv => whnf
  refine ABuildSl.mk (0, 1) rfl rfl rfl rfl rfl rfl rfl fun b8 f8 => ?_; conv => whnf
  have q8 := f8.sub (row (0, 1) (bytesV [6]) 5)
  refine ACalls.mono (Append_any ho (D8.sub q8) gW7 [98] (by decide) (sl_bytes (xs := [6]) (Heap.set_same _ _ _)) t01 (by decide)) ?_; rintro _ h9 ⟨rfl, (D9 : DA h9 p o W8), k9⟩; conv => whnf
  refine ACmp.yes (w8) ?_; conv => whnf
  refine ACalls.mono (Boot_any D9) ?_; rintro _ h10 ⟨rfl, (D10 : DA h10 p o W9), k10⟩; conv => whnf
  refine ACmp.yes (rfl) ?_; conv => whnf
  have cr2 := reads_any D10 gW9 [98] (b := []) (Sl.nil _ (0, 1) none 0 1)
  rw [decide_eq_true w9] at cr2
  refine ACalls.mono (cr2) ?_; rintro _ _ ⟨rfl, rfl⟩; conv => whnf
  refine ACalls.mono (List_any D10 gW9) ?_; rintro _ h11 ⟨a11, c11, rfl, sl11, s11⟩; conv => whnf
  rw [w9l] at sl11 ⊢
  refine ABuildSl.mk (0, 1) rfl rfl rfl rfl rfl rfl rfl fun b11 f11 => ?_; conv => whnf
  have q11 := f11.sub (row (0, 1) ([[97], [98]].map S) 9)
  have cs := sameN_any _ (sl11.sub q11) (sl_strs (xs := [[97], [98]]) (Heap.set_same _ _ _)) (by decide)
  rw [decide_eq_true rfl] at cs
  refine ACalls.mono (cs) ?_; rintro _ _ ⟨rfl, rfl⟩; conv => whnf
  have D11 := (D10.sub s11).sub q11
  refine ACalls.mono (Rename_any ho D11 gW9 [97] [98] (by decide)) ?_; rintro _ h12 ⟨rfl, (D12 : DA h12 p o W10), k12⟩; conv => whnf
  refine ACmp.yes (w10) ?_; conv => whnf
  refine ABuildSl.mk (0, 1) rfl rfl rfl rfl rfl rfl rfl fun b12 f12 => ?_; conv => whnf
  have q12 := f12.sub (row (0, 1) (bytesV [1, 2, 3]) 5)
  have cr3 := reads_any (D12.sub q12) gW10 [98] (sl_bytes (xs := [1, 2, 3]) (Heap.set_same _ _ _))
  rw [decide_eq_true w10r] at cr3
  refine ACalls.mono (cr3) ?_; rintro _ _ ⟨rfl, rfl⟩; conv => whnf
  refine ACalls.mono (Remove_any ho (D12.sub q12) gW10 [97]) ?_; rintro _ h13 ⟨rfl, D13, k13⟩; conv => whnf
  refine ACmp.yes (w11) ?_; conv => whnf
  exact ⟨rfl, (s1.keep o).trans ((q1.keep o).trans (k2.trans (k3.trans ((q3.keep o).trans (k4.trans ((q4.keep o).trans (k5.trans (k6.trans ((q6.keep o).trans (k7.trans ((q7.keep o).trans (k8.trans ((q8.keep o).trans (k9.trans (k10.trans ((s11.keep o).trans ((q11.keep o).trans (k12.trans ((q12.keep o).trans k13)))))))))))))))))))⟩
end Go.Ah
