/- DiskNames, DiskMoves, DiskTurns. -/
import Derived.Test.YtdacfmgldjegmaaDlB
namespace Go.Ah
open Go.Proofs
set_option linter.unusedVariables false
set_option linter.unusedSimpArgs false
set_option maxRecDepth 20000

set_option maxHeartbeats 4000000 in
theorem Names_law (h : Heap) (z : AllZero h) (s : Nm) (hs : s.length ≤ 9223372036854775807) : ACalls PR 6 #[S s] h (fun v h' => v = .bool true ∧ Stays h h') := by
  have t01 : ((0, 1) : Tag).1 ≠ 1 := by decide
  refine acalls_of mix Try.func6 rfl rfl Try.ntmps6 Try.results6 rfl ?_; conv => whnf
  refine ACalls.mono (works_any h) ?_; rintro _ _ ⟨rfl, rfl⟩; conv => whnf
  have start : ∀ b : Bool, b = (decide (1 ≤ s.length) && decide (s.length ≤ 24)) → b = (decide (1 ≤ s.length) && decide (s.length ≤ 24) && (s.take 0).all nmB) := fun b hb => by simpa using hb
  by_cases h1 : 1 ≤ s.length
  · refine ACmp.yes (by rw [str_size]; omega) ?_; conv => whnf
    by_cases h2 : s.length ≤ 24
    · refine ACmp.yes (by rw [str_size]; omega) ?_; conv => whnf
      have hst : true = (decide (1 ≤ s.length) && decide (s.length ≤ 24)) := by simp [h1, h2]
      refine ALoop.mk (fun e h' => h = h' ∧ ∃ e0, ∃ i : Nat, ∃ may : Bool, e = updL 95 e0 [(0, S s), (3, .bool may), (4, I i)] ∧ i ≤ s.length ∧ may = (decide (1 ≤ s.length) && decide (s.length ≤ 24) && (s.take i).all nmB)) (fun e => s.length - natOf (e 4))
        ⟨rfl, _, 0, _, updL_self ⟨rfl, rfl, rfl, trivial⟩, by omega, start _ hst⟩ ?_
      rintro e h2 ⟨rfl, e0, i, may, rfl, hi, hmay⟩
      conv => whnf
      by_cases hlt : i < s.length
      · refine ACmp.yes (by rw [str_size]; omega) ?_; conv => whnf
        refine AStrIdx.at Try.underlying9 rfl (by simp [hlt] : s[i]? = some s[i]) ?_; conv => whnf
        have hall : (s.take (i + 1)).all nmB = ((s.take i).all nmB && nmB s[i]) := by rw [List.take_succ_eq_append_getElem hlt, List.all_append]; simp
        cases may with
        | false =>
          conv => whnf
          refine AArith.ok (by omega) (by omega) ((by omega : (i : Int) + 1 = ((i + 1 : Nat) : Int))) ?_; conv => whnf
          refine ⟨⟨rfl, _, i + 1, false, updL_self ⟨rfl, rfl, rfl, trivial⟩, by omega, ?_⟩, ?_⟩
          · rw [hall, ← Bool.and_assoc, ← hmay]; rfl
          · show s.length - (i + 1) < s.length - i
            omega
        | true =>
          conv => whnf
          by_cases c1 : 97 ≤ s[i].toNat
          · refine ACmp.yes (by omega) ?_; conv => whnf
            by_cases c2 : s[i].toNat ≤ 122
            · refine ACmp.yes (by omega) ?_; conv => whnf
              have hb : nmB s[i] = true := by simp [nmB, c1, c2]
              refine AArith.ok (by omega) (by omega) ((by omega : (i : Int) + 1 = ((i + 1 : Nat) : Int))) ?_; conv => whnf
              refine ⟨⟨rfl, _, i + 1, true, updL_self ⟨rfl, rfl, rfl, trivial⟩, by omega, ?_⟩, ?_⟩
              · rw [hall, ← Bool.and_assoc, ← hmay, hb]; rfl
              · show s.length - (i + 1) < s.length - i
                omega
            · refine ACmp.no (by omega) ?_; conv => whnf
              by_cases c3 : 48 ≤ s[i].toNat
              · refine ACmp.yes (by omega) ?_; conv => whnf
                by_cases c4 : s[i].toNat ≤ 57
                · refine ACmp.yes (by omega) ?_; conv => whnf
                  have hb : nmB s[i] = true := by simp [nmB, c3, c4]
                  refine AArith.ok (by omega) (by omega) ((by omega : (i : Int) + 1 = ((i + 1 : Nat) : Int))) ?_; conv => whnf
                  refine ⟨⟨rfl, _, i + 1, true, updL_self ⟨rfl, rfl, rfl, trivial⟩, by omega, ?_⟩, ?_⟩
                  · rw [hall, ← Bool.and_assoc, ← hmay, hb]; rfl
                  · show s.length - (i + 1) < s.length - i
                    omega
                · refine ACmp.no (by omega) ?_; conv => whnf
                  by_cases c5 : s[i].toNat = 46
                  · refine ACmp.yes (by omega) ?_; conv => whnf
                    have hb : nmB s[i] = true := by simp [nmB, c5]
                    refine AArith.ok (by omega) (by omega) ((by omega : (i : Int) + 1 = ((i + 1 : Nat) : Int))) ?_; conv => whnf
                    refine ⟨⟨rfl, _, i + 1, true, updL_self ⟨rfl, rfl, rfl, trivial⟩, by omega, ?_⟩, ?_⟩
                    · rw [hall, ← Bool.and_assoc, ← hmay, hb]; rfl
                    · show s.length - (i + 1) < s.length - i
                      omega
                  · refine ACmp.no (by omega) ?_; conv => whnf
                    by_cases c6 : s[i].toNat = 45
                    · refine ACmp.yes (by omega) ?_; conv => whnf
                      have hb : nmB s[i] = true := by simp [nmB, c6]
                      refine AArith.ok (by omega) (by omega) ((by omega : (i : Int) + 1 = ((i + 1 : Nat) : Int))) ?_; conv => whnf
                      refine ⟨⟨rfl, _, i + 1, true, updL_self ⟨rfl, rfl, rfl, trivial⟩, by omega, ?_⟩, ?_⟩
                      · rw [hall, ← Bool.and_assoc, ← hmay, hb]; rfl
                      · show s.length - (i + 1) < s.length - i
                        omega
                    · refine ACmp.no (by omega) ?_; conv => whnf
                      have hb : nmB s[i] = false := by simp [nmB, c5, c6]; omega
                      refine AArith.ok (by omega) (by omega) ((by omega : (i : Int) + 1 = ((i + 1 : Nat) : Int))) ?_; conv => whnf
                      refine ⟨⟨rfl, _, i + 1, false, updL_self ⟨rfl, rfl, rfl, trivial⟩, by omega, ?_⟩, ?_⟩
                      · rw [hall, ← Bool.and_assoc, ← hmay, hb]; rfl
                      · show s.length - (i + 1) < s.length - i
                        omega
              · refine ACmp.no (by omega) ?_; conv => whnf
                by_cases c5 : s[i].toNat = 46
                · refine ACmp.yes (by omega) ?_; conv => whnf
                  have hb : nmB s[i] = true := by simp [nmB, c5]
                  refine AArith.ok (by omega) (by omega) ((by omega : (i : Int) + 1 = ((i + 1 : Nat) : Int))) ?_; conv => whnf
                  refine ⟨⟨rfl, _, i + 1, true, updL_self ⟨rfl, rfl, rfl, trivial⟩, by omega, ?_⟩, ?_⟩
                  · rw [hall, ← Bool.and_assoc, ← hmay, hb]; rfl
                  · show s.length - (i + 1) < s.length - i
                    omega
                · refine ACmp.no (by omega) ?_; conv => whnf
                  by_cases c6 : s[i].toNat = 45
                  · refine ACmp.yes (by omega) ?_; conv => whnf
                    have hb : nmB s[i] = true := by simp [nmB, c6]
                    refine AArith.ok (by omega) (by omega) ((by omega : (i : Int) + 1 = ((i + 1 : Nat) : Int))) ?_; conv => whnf
                    refine ⟨⟨rfl, _, i + 1, true, updL_self ⟨rfl, rfl, rfl, trivial⟩, by omega, ?_⟩, ?_⟩
                    · rw [hall, ← Bool.and_assoc, ← hmay, hb]; rfl
                    · show s.length - (i + 1) < s.length - i
                      omega
                  · refine ACmp.no (by omega) ?_; conv => whnf
                    have hb : nmB s[i] = false := by simp [nmB, c5, c6]; omega
                    refine AArith.ok (by omega) (by omega) ((by omega : (i : Int) + 1 = ((i + 1 : Nat) : Int))) ?_; conv => whnf
                    refine ⟨⟨rfl, _, i + 1, false, updL_self ⟨rfl, rfl, rfl, trivial⟩, by omega, ?_⟩, ?_⟩
                    · rw [hall, ← Bool.and_assoc, ← hmay, hb]; rfl
                    · show s.length - (i + 1) < s.length - i
                      omega
          · refine ACmp.no (by omega) ?_; conv => whnf
            by_cases c3 : 48 ≤ s[i].toNat
            · refine ACmp.yes (by omega) ?_; conv => whnf
              by_cases c4 : s[i].toNat ≤ 57
              · refine ACmp.yes (by omega) ?_; conv => whnf
                have hb : nmB s[i] = true := by simp [nmB, c3, c4]
                refine AArith.ok (by omega) (by omega) ((by omega : (i : Int) + 1 = ((i + 1 : Nat) : Int))) ?_; conv => whnf
                refine ⟨⟨rfl, _, i + 1, true, updL_self ⟨rfl, rfl, rfl, trivial⟩, by omega, ?_⟩, ?_⟩
                · rw [hall, ← Bool.and_assoc, ← hmay, hb]; rfl
                · show s.length - (i + 1) < s.length - i
                  omega
              · refine ACmp.no (by omega) ?_; conv => whnf
                by_cases c5 : s[i].toNat = 46
                · refine ACmp.yes (by omega) ?_; conv => whnf
                  have hb : nmB s[i] = true := by simp [nmB, c5]
                  refine AArith.ok (by omega) (by omega) ((by omega : (i : Int) + 1 = ((i + 1 : Nat) : Int))) ?_; conv => whnf
                  refine ⟨⟨rfl, _, i + 1, true, updL_self ⟨rfl, rfl, rfl, trivial⟩, by omega, ?_⟩, ?_⟩
                  · rw [hall, ← Bool.and_assoc, ← hmay, hb]; rfl
                  · show s.length - (i + 1) < s.length - i
                    omega
                · refine ACmp.no (by omega) ?_; conv => whnf
                  by_cases c6 : s[i].toNat = 45
                  · refine ACmp.yes (by omega) ?_; conv => whnf
                    have hb : nmB s[i] = true := by simp [nmB, c6]
                    refine AArith.ok (by omega) (by omega) ((by omega : (i : Int) + 1 = ((i + 1 : Nat) : Int))) ?_; conv => whnf
                    refine ⟨⟨rfl, _, i + 1, true, updL_self ⟨rfl, rfl, rfl, trivial⟩, by omega, ?_⟩, ?_⟩
                    · rw [hall, ← Bool.and_assoc, ← hmay, hb]; rfl
                    · show s.length - (i + 1) < s.length - i
                      omega
                  · refine ACmp.no (by omega) ?_; conv => whnf
                    have hb : nmB s[i] = false := by simp [nmB, c5, c6]; omega
                    refine AArith.ok (by omega) (by omega) ((by omega : (i : Int) + 1 = ((i + 1 : Nat) : Int))) ?_; conv => whnf
                    refine ⟨⟨rfl, _, i + 1, false, updL_self ⟨rfl, rfl, rfl, trivial⟩, by omega, ?_⟩, ?_⟩
                    · rw [hall, ← Bool.and_assoc, ← hmay, hb]; rfl
                    · show s.length - (i + 1) < s.length - i
                      omega
            · refine ACmp.no (by omega) ?_; conv => whnf
              by_cases c5 : s[i].toNat = 46
              · refine ACmp.yes (by omega) ?_; conv => whnf
                have hb : nmB s[i] = true := by simp [nmB, c5]
                refine AArith.ok (by omega) (by omega) ((by omega : (i : Int) + 1 = ((i + 1 : Nat) : Int))) ?_; conv => whnf
                refine ⟨⟨rfl, _, i + 1, true, updL_self ⟨rfl, rfl, rfl, trivial⟩, by omega, ?_⟩, ?_⟩
                · rw [hall, ← Bool.and_assoc, ← hmay, hb]; rfl
                · show s.length - (i + 1) < s.length - i
                  omega
              · refine ACmp.no (by omega) ?_; conv => whnf
                by_cases c6 : s[i].toNat = 45
                · refine ACmp.yes (by omega) ?_; conv => whnf
                  have hb : nmB s[i] = true := by simp [nmB, c6]
                  refine AArith.ok (by omega) (by omega) ((by omega : (i : Int) + 1 = ((i + 1 : Nat) : Int))) ?_; conv => whnf
                  refine ⟨⟨rfl, _, i + 1, true, updL_self ⟨rfl, rfl, rfl, trivial⟩, by omega, ?_⟩, ?_⟩
                  · rw [hall, ← Bool.and_assoc, ← hmay, hb]; rfl
                  · show s.length - (i + 1) < s.length - i
                    omega
                · refine ACmp.no (by omega) ?_; conv => whnf
                  have hb : nmB s[i] = false := by simp [nmB, c5, c6]; omega
                  refine AArith.ok (by omega) (by omega) ((by omega : (i : Int) + 1 = ((i + 1 : Nat) : Int))) ?_; conv => whnf
                  refine ⟨⟨rfl, _, i + 1, false, updL_self ⟨rfl, rfl, rfl, trivial⟩, by omega, ?_⟩, ?_⟩
                  · rw [hall, ← Bool.and_assoc, ← hmay, hb]; rfl
                  · show s.length - (i + 1) < s.length - i
                    omega
      · refine ACmp.no (by rw [str_size]; omega) ?_; conv => whnf
        have hm : may = nmOk s := by rw [hmay, List.take_of_length_le (by omega)]; rfl
        subst hm
        refine ACalls.mono (New_any h 1) ?_; rintro _ h1 ⟨p, m, rfl, d1, s1⟩; conv => whnf
        have D1 : DA h1 p 1 dnew := ⟨_, _, _, _, d1⟩
        refine ABuildSl.mk (0, 1) rfl rfl rfl rfl rfl rfl rfl fun b1 f1 => ?_; conv => whnf
        have q1 := f1.sub (row (0, 1) (bytesV [1]) 5)
        refine ACalls.mono (Append_any (by decide) (D1.sub q1) Good.new s hs (sl_bytes (xs := [1]) (Heap.set_same _ _ _)) t01 (by decide)) ?_; rintro _ h2 ⟨rfl, D2, k2⟩; conv => whnf
        have g2 := Good.new.append s [1]
        refine ACalls.mono (Append_any (by decide) D2 g2 [120] (by decide) (b := []) (Sl.nil _ (0, 1) none 0 1) t01 (by decide)) ?_; rintro _ h3 ⟨rfl, D3, k3⟩; conv => whnf
        have g3 := g2.append [120] []
        refine ACalls.mono (Rename_any (by decide) D3 g3 [120] s hs) ?_; rintro _ h4 ⟨rfl, D4, k4⟩; conv => whnf
        have hkeep : Stays h h4 := s1.stays.trans (q1.stays.trans ((k2.stays (by decide)).trans ((k3.stays (by decide)).trans (k4.stays (by decide)))))
        have g4 := g3.rename [120] s
        cases hnm : nmOk s with
        | true =>
          have e1 : (dappend dnew s [1]) = (0, ⟨[⟨s, [1], 0⟩], false, -1, []⟩) := by
            unfold dappend
            rw [hnm]
            rfl
          rw [e1]
          by_cases hsx : s = [120]
          · subst hsx
            refine ACmp.yes (rfl) ?_; conv => whnf
            refine ACmp.yes (rfl) ?_; conv => whnf
            refine ACmp.yes (rfl) ?_; conv => whnf
            exact ⟨rfl, hkeep⟩
          · have hfx : dfind ([⟨s, [1], 0⟩] : List DF) [120] = none := dfind_not (by simpa using hsx)
            have e2 : dappend ⟨[⟨s, [1], 0⟩], false, -1, []⟩ [120] [] = (0, ⟨dput ⟨[120], [], 0⟩ [⟨s, [1], 0⟩], false, -1, []⟩) := by
              unfold dappend
              simp only [hfx]
              rfl
            rw [e2]
            have hr2 : Rise (dput ⟨[120], [], 0⟩ [⟨s, [1], 0⟩]) := dput_rise (by simp)
            have hf2 := dfind_of hr2 (f := ⟨[120], [], 0⟩) (mem_dput.2 (.inl rfl))
            have e3 : (drename ⟨dput ⟨[120], [], 0⟩ [⟨s, [1], 0⟩], false, -1, []⟩ [120] s).1 = 0 := by
              unfold drename
              simp only [hf2, hnm]
              rfl
            refine ACmp.yes (rfl) ?_; conv => whnf
            refine ACmp.yes (rfl) ?_; conv => whnf
            refine ACmp.yes (e3) ?_; conv => whnf
            exact ⟨rfl, hkeep⟩
        | false =>
          have e1 : (dappend dnew s [1]) = (121, dnew) := by
            unfold dappend
            rw [hnm]; rfl
          have e2 : dappend dnew [120] [] = (0, ⟨[⟨[120], [], 0⟩], false, -1, []⟩) := by rfl
          have e3 : drename ⟨[⟨[120], [], 0⟩], false, -1, []⟩ [120] s = (121, ⟨[⟨[120], [], 0⟩], false, -1, []⟩) := by
            unfold drename
            rw [hnm]; rfl
          rw [e1, e2, e3] at D4 g4
          rw [e1, e2, e3]
          refine ACmp.no (by decide) ?_; conv => whnf
          refine ACmp.yes (rfl) ?_; conv => whnf
          refine ACmp.no (by decide) ?_; conv => whnf
          refine ACmp.yes (rfl) ?_; conv => whnf
          refine ACmp.yes (rfl) ?_; conv => whnf
          refine ACalls.mono (List_any D4 g4) ?_; rintro _ h5 ⟨a5, c5, rfl, sl5, s5⟩; conv => whnf
          refine ACmp.yes (rfl) ?_; conv => whnf
          exact ⟨rfl, hkeep.trans s5.stays⟩
    · refine ACmp.no (by rw [str_size]; omega) ?_; conv => whnf
      have hst : false = (decide (1 ≤ s.length) && decide (s.length ≤ 24)) := by simp [h2]
      refine ALoop.mk (fun e h' => h = h' ∧ ∃ e0, ∃ i : Nat, ∃ may : Bool, e = updL 95 e0 [(0, S s), (3, .bool may), (4, I i)] ∧ i ≤ s.length ∧ may = (decide (1 ≤ s.length) && decide (s.length ≤ 24) && (s.take i).all nmB)) (fun e => s.length - natOf (e 4))
        ⟨rfl, _, 0, _, updL_self ⟨rfl, rfl, rfl, trivial⟩, by omega, start _ hst⟩ ?_
      rintro e h2 ⟨rfl, e0, i, may, rfl, hi, hmay⟩
      conv => whnf
      by_cases hlt : i < s.length
      · refine ACmp.yes (by rw [str_size]; omega) ?_; conv => whnf
        refine AStrIdx.at Try.underlying9 rfl (by simp [hlt] : s[i]? = some s[i]) ?_; conv => whnf
        have hall : (s.take (i + 1)).all nmB = ((s.take i).all nmB && nmB s[i]) := by rw [List.take_succ_eq_append_getElem hlt, List.all_append]; simp
        cases may with
        | false =>
          conv => whnf
          refine AArith.ok (by omega) (by omega) ((by omega : (i : Int) + 1 = ((i + 1 : Nat) : Int))) ?_; conv => whnf
          refine ⟨⟨rfl, _, i + 1, false, updL_self ⟨rfl, rfl, rfl, trivial⟩, by omega, ?_⟩, ?_⟩
          · rw [hall, ← Bool.and_assoc, ← hmay]; rfl
          · show s.length - (i + 1) < s.length - i
            omega
        | true =>
          conv => whnf
          by_cases c1 : 97 ≤ s[i].toNat
          · refine ACmp.yes (by omega) ?_; conv => whnf
            by_cases c2 : s[i].toNat ≤ 122
            · refine ACmp.yes (by omega) ?_; conv => whnf
              have hb : nmB s[i] = true := by simp [nmB, c1, c2]
              refine AArith.ok (by omega) (by omega) ((by omega : (i : Int) + 1 = ((i + 1 : Nat) : Int))) ?_; conv => whnf
              refine ⟨⟨rfl, _, i + 1, true, updL_self ⟨rfl, rfl, rfl, trivial⟩, by omega, ?_⟩, ?_⟩
              · rw [hall, ← Bool.and_assoc, ← hmay, hb]; rfl
              · show s.length - (i + 1) < s.length - i
                omega
            · refine ACmp.no (by omega) ?_; conv => whnf
              by_cases c3 : 48 ≤ s[i].toNat
              · refine ACmp.yes (by omega) ?_; conv => whnf
                by_cases c4 : s[i].toNat ≤ 57
                · refine ACmp.yes (by omega) ?_; conv => whnf
                  have hb : nmB s[i] = true := by simp [nmB, c3, c4]
                  refine AArith.ok (by omega) (by omega) ((by omega : (i : Int) + 1 = ((i + 1 : Nat) : Int))) ?_; conv => whnf
                  refine ⟨⟨rfl, _, i + 1, true, updL_self ⟨rfl, rfl, rfl, trivial⟩, by omega, ?_⟩, ?_⟩
                  · rw [hall, ← Bool.and_assoc, ← hmay, hb]; rfl
                  · show s.length - (i + 1) < s.length - i
                    omega
                · refine ACmp.no (by omega) ?_; conv => whnf
                  by_cases c5 : s[i].toNat = 46
                  · refine ACmp.yes (by omega) ?_; conv => whnf
                    have hb : nmB s[i] = true := by simp [nmB, c5]
                    refine AArith.ok (by omega) (by omega) ((by omega : (i : Int) + 1 = ((i + 1 : Nat) : Int))) ?_; conv => whnf
                    refine ⟨⟨rfl, _, i + 1, true, updL_self ⟨rfl, rfl, rfl, trivial⟩, by omega, ?_⟩, ?_⟩
                    · rw [hall, ← Bool.and_assoc, ← hmay, hb]; rfl
                    · show s.length - (i + 1) < s.length - i
                      omega
                  · refine ACmp.no (by omega) ?_; conv => whnf
                    by_cases c6 : s[i].toNat = 45
                    · refine ACmp.yes (by omega) ?_; conv => whnf
                      have hb : nmB s[i] = true := by simp [nmB, c6]
                      refine AArith.ok (by omega) (by omega) ((by omega : (i : Int) + 1 = ((i + 1 : Nat) : Int))) ?_; conv => whnf
                      refine ⟨⟨rfl, _, i + 1, true, updL_self ⟨rfl, rfl, rfl, trivial⟩, by omega, ?_⟩, ?_⟩
                      · rw [hall, ← Bool.and_assoc, ← hmay, hb]; rfl
                      · show s.length - (i + 1) < s.length - i
                        omega
                    · refine ACmp.no (by omega) ?_; conv => whnf
                      have hb : nmB s[i] = false := by simp [nmB, c5, c6]; omega
                      refine AArith.ok (by omega) (by omega) ((by omega : (i : Int) + 1 = ((i + 1 : Nat) : Int))) ?_; conv => whnf
                      refine ⟨⟨rfl, _, i + 1, false, updL_self ⟨rfl, rfl, rfl, trivial⟩, by omega, ?_⟩, ?_⟩
                      · rw [hall, ← Bool.and_assoc, ← hmay, hb]; rfl
                      · show s.length - (i + 1) < s.length - i
                        omega
              · refine ACmp.no (by omega) ?_; conv => whnf
                by_cases c5 : s[i].toNat = 46
                · refine ACmp.yes (by omega) ?_; conv => whnf
                  have hb : nmB s[i] = true := by simp [nmB, c5]
                  refine AArith.ok (by omega) (by omega) ((by omega : (i : Int) + 1 = ((i + 1 : Nat) : Int))) ?_; conv => whnf
                  refine ⟨⟨rfl, _, i + 1, true, updL_self ⟨rfl, rfl, rfl, trivial⟩, by omega, ?_⟩, ?_⟩
                  · rw [hall, ← Bool.and_assoc, ← hmay, hb]; rfl
                  · show s.length - (i + 1) < s.length - i
                    omega
                · refine ACmp.no (by omega) ?_; conv => whnf
                  by_cases c6 : s[i].toNat = 45
                  · refine ACmp.yes (by omega) ?_; conv => whnf
                    have hb : nmB s[i] = true := by simp [nmB, c6]
                    refine AArith.ok (by omega) (by omega) ((by omega : (i : Int) + 1 = ((i + 1 : Nat) : Int))) ?_; conv => whnf
                    refine ⟨⟨rfl, _, i + 1, true, updL_self ⟨rfl, rfl, rfl, trivial⟩, by omega, ?_⟩, ?_⟩
                    · rw [hall, ← Bool.and_assoc, ← hmay, hb]; rfl
                    · show s.length - (i + 1) < s.length - i
                      omega
                  · refine ACmp.no (by omega) ?_; conv => whnf
                    have hb : nmB s[i] = false := by simp [nmB, c5, c6]; omega
                    refine AArith.ok (by omega) (by omega) ((by omega : (i : Int) + 1 = ((i + 1 : Nat) : Int))) ?_; conv => whnf
                    refine ⟨⟨rfl, _, i + 1, false, updL_self ⟨rfl, rfl, rfl, trivial⟩, by omega, ?_⟩, ?_⟩
                    · rw [hall, ← Bool.and_assoc, ← hmay, hb]; rfl
                    · show s.length - (i + 1) < s.length - i
                      omega
          · refine ACmp.no (by omega) ?_; conv => whnf
            by_cases c3 : 48 ≤ s[i].toNat
            · refine ACmp.yes (by omega) ?_; conv => whnf
              by_cases c4 : s[i].toNat ≤ 57
              · refine ACmp.yes (by omega) ?_; conv => whnf
                have hb : nmB s[i] = true := by simp [nmB, c3, c4]
                refine AArith.ok (by omega) (by omega) ((by omega : (i : Int) + 1 = ((i + 1 : Nat) : Int))) ?_; conv => whnf
                refine ⟨⟨rfl, _, i + 1, true, updL_self ⟨rfl, rfl, rfl, trivial⟩, by omega, ?_⟩, ?_⟩
                · rw [hall, ← Bool.and_assoc, ← hmay, hb]; rfl
                · show s.length - (i + 1) < s.length - i
                  omega
              · refine ACmp.no (by omega) ?_; conv => whnf
                by_cases c5 : s[i].toNat = 46
                · refine ACmp.yes (by omega) ?_; conv => whnf
                  have hb : nmB s[i] = true := by simp [nmB, c5]
                  refine AArith.ok (by omega) (by omega) ((by omega : (i : Int) + 1 = ((i + 1 : Nat) : Int))) ?_; conv => whnf
                  refine ⟨⟨rfl, _, i + 1, true, updL_self ⟨rfl, rfl, rfl, trivial⟩, by omega, ?_⟩, ?_⟩
                  · rw [hall, ← Bool.and_assoc, ← hmay, hb]; rfl
                  · show s.length - (i + 1) < s.length - i
                    omega
                · refine ACmp.no (by omega) ?_; conv => whnf
                  by_cases c6 : s[i].toNat = 45
                  · refine ACmp.yes (by omega) ?_; conv => whnf
                    have hb : nmB s[i] = true := by simp [nmB, c6]
                    refine AArith.ok (by omega) (by omega) ((by omega : (i : Int) + 1 = ((i + 1 : Nat) : Int))) ?_; conv => whnf
                    refine ⟨⟨rfl, _, i + 1, true, updL_self ⟨rfl, rfl, rfl, trivial⟩, by omega, ?_⟩, ?_⟩
                    · rw [hall, ← Bool.and_assoc, ← hmay, hb]; rfl
                    · show s.length - (i + 1) < s.length - i
                      omega
                  · refine ACmp.no (by omega) ?_; conv => whnf
                    have hb : nmB s[i] = false := by simp [nmB, c5, c6]; omega
                    refine AArith.ok (by omega) (by omega) ((by omega : (i : Int) + 1 = ((i + 1 : Nat) : Int))) ?_; conv => whnf
                    refine ⟨⟨rfl, _, i + 1, false, updL_self ⟨rfl, rfl, rfl, trivial⟩, by omega, ?_⟩, ?_⟩
                    · rw [hall, ← Bool.and_assoc, ← hmay, hb]; rfl
                    · show s.length - (i + 1) < s.length - i
                      omega
            · refine ACmp.no (by omega) ?_; conv => whnf
              by_cases c5 : s[i].toNat = 46
              · refine ACmp.yes (by omega) ?_; conv => whnf
                have hb : nmB s[i] = true := by simp [nmB, c5]
                refine AArith.ok (by omega) (by omega) ((by omega : (i : Int) + 1 = ((i + 1 : Nat) : Int))) ?_; conv => whnf
                refine ⟨⟨rfl, _, i + 1, true, updL_self ⟨rfl, rfl, rfl, trivial⟩, by omega, ?_⟩, ?_⟩
                · rw [hall, ← Bool.and_assoc, ← hmay, hb]; rfl
                · show s.length - (i + 1) < s.length - i
                  omega
              · refine ACmp.no (by omega) ?_; conv => whnf
                by_cases c6 : s[i].toNat = 45
                · refine ACmp.yes (by omega) ?_; conv => whnf
                  have hb : nmB s[i] = true := by simp [nmB, c6]
                  refine AArith.ok (by omega) (by omega) ((by omega : (i : Int) + 1 = ((i + 1 : Nat) : Int))) ?_; conv => whnf
                  refine ⟨⟨rfl, _, i + 1, true, updL_self ⟨rfl, rfl, rfl, trivial⟩, by omega, ?_⟩, ?_⟩
                  · rw [hall, ← Bool.and_assoc, ← hmay, hb]; rfl
                  · show s.length - (i + 1) < s.length - i
                    omega
                · refine ACmp.no (by omega) ?_; conv => whnf
                  have hb : nmB s[i] = false := by simp [nmB, c5, c6]; omega
                  refine AArith.ok (by omega) (by omega) ((by omega : (i : Int) + 1 = ((i + 1 : Nat) : Int))) ?_; conv => whnf
                  refine ⟨⟨rfl, _, i + 1, false, updL_self ⟨rfl, rfl, rfl, trivial⟩, by omega, ?_⟩, ?_⟩
                  · rw [hall, ← Bool.and_assoc, ← hmay, hb]; rfl
                  · show s.length - (i + 1) < s.length - i
                    omega
      · refine ACmp.no (by rw [str_size]; omega) ?_; conv => whnf
        have hm : may = nmOk s := by rw [hmay, List.take_of_length_le (by omega)]; rfl
        subst hm
        refine ACalls.mono (New_any h 1) ?_; rintro _ h1 ⟨p, m, rfl, d1, s1⟩; conv => whnf
        have D1 : DA h1 p 1 dnew := ⟨_, _, _, _, d1⟩
        refine ABuildSl.mk (0, 1) rfl rfl rfl rfl rfl rfl rfl fun b1 f1 => ?_; conv => whnf
        have q1 := f1.sub (row (0, 1) (bytesV [1]) 5)
        refine ACalls.mono (Append_any (by decide) (D1.sub q1) Good.new s hs (sl_bytes (xs := [1]) (Heap.set_same _ _ _)) t01 (by decide)) ?_; rintro _ h2 ⟨rfl, D2, k2⟩; conv => whnf
        have g2 := Good.new.append s [1]
        refine ACalls.mono (Append_any (by decide) D2 g2 [120] (by decide) (b := []) (Sl.nil _ (0, 1) none 0 1) t01 (by decide)) ?_; rintro _ h3 ⟨rfl, D3, k3⟩; conv => whnf
        have g3 := g2.append [120] []
        refine ACalls.mono (Rename_any (by decide) D3 g3 [120] s hs) ?_; rintro _ h4 ⟨rfl, D4, k4⟩; conv => whnf
        have hkeep : Stays h h4 := s1.stays.trans (q1.stays.trans ((k2.stays (by decide)).trans ((k3.stays (by decide)).trans (k4.stays (by decide)))))
        have g4 := g3.rename [120] s
        cases hnm : nmOk s with
        | true =>
          have e1 : (dappend dnew s [1]) = (0, ⟨[⟨s, [1], 0⟩], false, -1, []⟩) := by
            unfold dappend
            rw [hnm]
            rfl
          rw [e1]
          by_cases hsx : s = [120]
          · subst hsx
            refine ACmp.yes (rfl) ?_; conv => whnf
            refine ACmp.yes (rfl) ?_; conv => whnf
            refine ACmp.yes (rfl) ?_; conv => whnf
            exact ⟨rfl, hkeep⟩
          · have hfx : dfind ([⟨s, [1], 0⟩] : List DF) [120] = none := dfind_not (by simpa using hsx)
            have e2 : dappend ⟨[⟨s, [1], 0⟩], false, -1, []⟩ [120] [] = (0, ⟨dput ⟨[120], [], 0⟩ [⟨s, [1], 0⟩], false, -1, []⟩) := by
              unfold dappend
              simp only [hfx]
              rfl
            rw [e2]
            have hr2 : Rise (dput ⟨[120], [], 0⟩ [⟨s, [1], 0⟩]) := dput_rise (by simp)
            have hf2 := dfind_of hr2 (f := ⟨[120], [], 0⟩) (mem_dput.2 (.inl rfl))
            have e3 : (drename ⟨dput ⟨[120], [], 0⟩ [⟨s, [1], 0⟩], false, -1, []⟩ [120] s).1 = 0 := by
              unfold drename
              simp only [hf2, hnm]
              rfl
            refine ACmp.yes (rfl) ?_; conv => whnf
            refine ACmp.yes (rfl) ?_; conv => whnf
            refine ACmp.yes (e3) ?_; conv => whnf
            exact ⟨rfl, hkeep⟩
        | false =>
          have e1 : (dappend dnew s [1]) = (121, dnew) := by
            unfold dappend
            rw [hnm]; rfl
          have e2 : dappend dnew [120] [] = (0, ⟨[⟨[120], [], 0⟩], false, -1, []⟩) := by rfl
          have e3 : drename ⟨[⟨[120], [], 0⟩], false, -1, []⟩ [120] s = (121, ⟨[⟨[120], [], 0⟩], false, -1, []⟩) := by
            unfold drename
            rw [hnm]; rfl
          rw [e1, e2, e3] at D4 g4
          rw [e1, e2, e3]
          refine ACmp.no (by decide) ?_; conv => whnf
          refine ACmp.yes (rfl) ?_; conv => whnf
          refine ACmp.no (by decide) ?_; conv => whnf
          refine ACmp.yes (rfl) ?_; conv => whnf
          refine ACmp.yes (rfl) ?_; conv => whnf
          refine ACalls.mono (List_any D4 g4) ?_; rintro _ h5 ⟨a5, c5, rfl, sl5, s5⟩; conv => whnf
          refine ACmp.yes (rfl) ?_; conv => whnf
          exact ⟨rfl, hkeep.trans s5.stays⟩
  · refine ACmp.no (by rw [str_size]; omega) ?_; conv => whnf
    have hst : false = (decide (1 ≤ s.length) && decide (s.length ≤ 24)) := by simp [h1]
    refine ALoop.mk (fun e h' => h = h' ∧ ∃ e0, ∃ i : Nat, ∃ may : Bool, e = updL 95 e0 [(0, S s), (3, .bool may), (4, I i)] ∧ i ≤ s.length ∧ may = (decide (1 ≤ s.length) && decide (s.length ≤ 24) && (s.take i).all nmB)) (fun e => s.length - natOf (e 4))
      ⟨rfl, _, 0, _, updL_self ⟨rfl, rfl, rfl, trivial⟩, by omega, start _ hst⟩ ?_
    rintro e h2 ⟨rfl, e0, i, may, rfl, hi, hmay⟩
    conv => whnf
    by_cases hlt : i < s.length
    · refine ACmp.yes (by rw [str_size]; omega) ?_; conv => whnf
      refine AStrIdx.at Try.underlying9 rfl (by simp [hlt] : s[i]? = some s[i]) ?_; conv => whnf
      have hall : (s.take (i + 1)).all nmB = ((s.take i).all nmB && nmB s[i]) := by rw [List.take_succ_eq_append_getElem hlt, List.all_append]; simp
      cases may with
      | false =>
        conv => whnf
        refine AArith.ok (by omega) (by omega) ((by omega : (i : Int) + 1 = ((i + 1 : Nat) : Int))) ?_; conv => whnf
        refine ⟨⟨rfl, _, i + 1, false, updL_self ⟨rfl, rfl, rfl, trivial⟩, by omega, ?_⟩, ?_⟩
        · rw [hall, ← Bool.and_assoc, ← hmay]; rfl
        · show s.length - (i + 1) < s.length - i
          omega
      | true =>
        conv => whnf
        by_cases c1 : 97 ≤ s[i].toNat
        · refine ACmp.yes (by omega) ?_; conv => whnf
          by_cases c2 : s[i].toNat ≤ 122
          · refine ACmp.yes (by omega) ?_; conv => whnf
            have hb : nmB s[i] = true := by simp [nmB, c1, c2]
            refine AArith.ok (by omega) (by omega) ((by omega : (i : Int) + 1 = ((i + 1 : Nat) : Int))) ?_; conv => whnf
            refine ⟨⟨rfl, _, i + 1, true, updL_self ⟨rfl, rfl, rfl, trivial⟩, by omega, ?_⟩, ?_⟩
            · rw [hall, ← Bool.and_assoc, ← hmay, hb]; rfl
            · show s.length - (i + 1) < s.length - i
              omega
          · refine ACmp.no (by omega) ?_; conv => whnf
            by_cases c3 : 48 ≤ s[i].toNat
            · refine ACmp.yes (by omega) ?_; conv => whnf
              by_cases c4 : s[i].toNat ≤ 57
              · refine ACmp.yes (by omega) ?_; conv => whnf
                have hb : nmB s[i] = true := by simp [nmB, c3, c4]
                refine AArith.ok (by omega) (by omega) ((by omega : (i : Int) + 1 = ((i + 1 : Nat) : Int))) ?_; conv => whnf
                refine ⟨⟨rfl, _, i + 1, true, updL_self ⟨rfl, rfl, rfl, trivial⟩, by omega, ?_⟩, ?_⟩
                · rw [hall, ← Bool.and_assoc, ← hmay, hb]; rfl
                · show s.length - (i + 1) < s.length - i
                  omega
              · refine ACmp.no (by omega) ?_; conv => whnf
                by_cases c5 : s[i].toNat = 46
                · refine ACmp.yes (by omega) ?_; conv => whnf
                  have hb : nmB s[i] = true := by simp [nmB, c5]
                  refine AArith.ok (by omega) (by omega) ((by omega : (i : Int) + 1 = ((i + 1 : Nat) : Int))) ?_; conv => whnf
                  refine ⟨⟨rfl, _, i + 1, true, updL_self ⟨rfl, rfl, rfl, trivial⟩, by omega, ?_⟩, ?_⟩
                  · rw [hall, ← Bool.and_assoc, ← hmay, hb]; rfl
                  · show s.length - (i + 1) < s.length - i
                    omega
                · refine ACmp.no (by omega) ?_; conv => whnf
                  by_cases c6 : s[i].toNat = 45
                  · refine ACmp.yes (by omega) ?_; conv => whnf
                    have hb : nmB s[i] = true := by simp [nmB, c6]
                    refine AArith.ok (by omega) (by omega) ((by omega : (i : Int) + 1 = ((i + 1 : Nat) : Int))) ?_; conv => whnf
                    refine ⟨⟨rfl, _, i + 1, true, updL_self ⟨rfl, rfl, rfl, trivial⟩, by omega, ?_⟩, ?_⟩
                    · rw [hall, ← Bool.and_assoc, ← hmay, hb]; rfl
                    · show s.length - (i + 1) < s.length - i
                      omega
                  · refine ACmp.no (by omega) ?_; conv => whnf
                    have hb : nmB s[i] = false := by simp [nmB, c5, c6]; omega
                    refine AArith.ok (by omega) (by omega) ((by omega : (i : Int) + 1 = ((i + 1 : Nat) : Int))) ?_; conv => whnf
                    refine ⟨⟨rfl, _, i + 1, false, updL_self ⟨rfl, rfl, rfl, trivial⟩, by omega, ?_⟩, ?_⟩
                    · rw [hall, ← Bool.and_assoc, ← hmay, hb]; rfl
                    · show s.length - (i + 1) < s.length - i
                      omega
            · refine ACmp.no (by omega) ?_; conv => whnf
              by_cases c5 : s[i].toNat = 46
              · refine ACmp.yes (by omega) ?_; conv => whnf
                have hb : nmB s[i] = true := by simp [nmB, c5]
                refine AArith.ok (by omega) (by omega) ((by omega : (i : Int) + 1 = ((i + 1 : Nat) : Int))) ?_; conv => whnf
                refine ⟨⟨rfl, _, i + 1, true, updL_self ⟨rfl, rfl, rfl, trivial⟩, by omega, ?_⟩, ?_⟩
                · rw [hall, ← Bool.and_assoc, ← hmay, hb]; rfl
                · show s.length - (i + 1) < s.length - i
                  omega
              · refine ACmp.no (by omega) ?_; conv => whnf
                by_cases c6 : s[i].toNat = 45
                · refine ACmp.yes (by omega) ?_; conv => whnf
                  have hb : nmB s[i] = true := by simp [nmB, c6]
                  refine AArith.ok (by omega) (by omega) ((by omega : (i : Int) + 1 = ((i + 1 : Nat) : Int))) ?_; conv => whnf
                  refine ⟨⟨rfl, _, i + 1, true, updL_self ⟨rfl, rfl, rfl, trivial⟩, by omega, ?_⟩, ?_⟩
                  · rw [hall, ← Bool.and_assoc, ← hmay, hb]; rfl
                  · show s.length - (i + 1) < s.length - i
                    omega
                · refine ACmp.no (by omega) ?_; conv => whnf
                  have hb : nmB s[i] = false := by simp [nmB, c5, c6]; omega
                  refine AArith.ok (by omega) (by omega) ((by omega : (i : Int) + 1 = ((i + 1 : Nat) : Int))) ?_; conv => whnf
                  refine ⟨⟨rfl, _, i + 1, false, updL_self ⟨rfl, rfl, rfl, trivial⟩, by omega, ?_⟩, ?_⟩
                  · rw [hall, ← Bool.and_assoc, ← hmay, hb]; rfl
                  · show s.length - (i + 1) < s.length - i
                    omega
        · refine ACmp.no (by omega) ?_; conv => whnf
          by_cases c3 : 48 ≤ s[i].toNat
          · refine ACmp.yes (by omega) ?_; conv => whnf
            by_cases c4 : s[i].toNat ≤ 57
            · refine ACmp.yes (by omega) ?_; conv => whnf
              have hb : nmB s[i] = true := by simp [nmB, c3, c4]
              refine AArith.ok (by omega) (by omega) ((by omega : (i : Int) + 1 = ((i + 1 : Nat) : Int))) ?_; conv => whnf
              refine ⟨⟨rfl, _, i + 1, true, updL_self ⟨rfl, rfl, rfl, trivial⟩, by omega, ?_⟩, ?_⟩
              · rw [hall, ← Bool.and_assoc, ← hmay, hb]; rfl
              · show s.length - (i + 1) < s.length - i
                omega
            · refine ACmp.no (by omega) ?_; conv => whnf
              by_cases c5 : s[i].toNat = 46
              · refine ACmp.yes (by omega) ?_; conv => whnf
                have hb : nmB s[i] = true := by simp [nmB, c5]
                refine AArith.ok (by omega) (by omega) ((by omega : (i : Int) + 1 = ((i + 1 : Nat) : Int))) ?_; conv => whnf
                refine ⟨⟨rfl, _, i + 1, true, updL_self ⟨rfl, rfl, rfl, trivial⟩, by omega, ?_⟩, ?_⟩
                · rw [hall, ← Bool.and_assoc, ← hmay, hb]; rfl
                · show s.length - (i + 1) < s.length - i
                  omega
              · refine ACmp.no (by omega) ?_; conv => whnf
                by_cases c6 : s[i].toNat = 45
                · refine ACmp.yes (by omega) ?_; conv => whnf
                  have hb : nmB s[i] = true := by simp [nmB, c6]
                  refine AArith.ok (by omega) (by omega) ((by omega : (i : Int) + 1 = ((i + 1 : Nat) : Int))) ?_; conv => whnf
                  refine ⟨⟨rfl, _, i + 1, true, updL_self ⟨rfl, rfl, rfl, trivial⟩, by omega, ?_⟩, ?_⟩
                  · rw [hall, ← Bool.and_assoc, ← hmay, hb]; rfl
                  · show s.length - (i + 1) < s.length - i
                    omega
                · refine ACmp.no (by omega) ?_; conv => whnf
                  have hb : nmB s[i] = false := by simp [nmB, c5, c6]; omega
                  refine AArith.ok (by omega) (by omega) ((by omega : (i : Int) + 1 = ((i + 1 : Nat) : Int))) ?_; conv => whnf
                  refine ⟨⟨rfl, _, i + 1, false, updL_self ⟨rfl, rfl, rfl, trivial⟩, by omega, ?_⟩, ?_⟩
                  · rw [hall, ← Bool.and_assoc, ← hmay, hb]; rfl
                  · show s.length - (i + 1) < s.length - i
                    omega
          · refine ACmp.no (by omega) ?_; conv => whnf
            by_cases c5 : s[i].toNat = 46
            · refine ACmp.yes (by omega) ?_; conv => whnf
              have hb : nmB s[i] = true := by simp [nmB, c5]
              refine AArith.ok (by omega) (by omega) ((by omega : (i : Int) + 1 = ((i + 1 : Nat) : Int))) ?_; conv => whnf
              refine ⟨⟨rfl, _, i + 1, true, updL_self ⟨rfl, rfl, rfl, trivial⟩, by omega, ?_⟩, ?_⟩
              · rw [hall, ← Bool.and_assoc, ← hmay, hb]; rfl
              · show s.length - (i + 1) < s.length - i
                omega
            · refine ACmp.no (by omega) ?_; conv => whnf
              by_cases c6 : s[i].toNat = 45
              · refine ACmp.yes (by omega) ?_; conv => whnf
                have hb : nmB s[i] = true := by simp [nmB, c6]
                refine AArith.ok (by omega) (by omega) ((by omega : (i : Int) + 1 = ((i + 1 : Nat) : Int))) ?_; conv => whnf
                refine ⟨⟨rfl, _, i + 1, true, updL_self ⟨rfl, rfl, rfl, trivial⟩, by omega, ?_⟩, ?_⟩
                · rw [hall, ← Bool.and_assoc, ← hmay, hb]; rfl
                · show s.length - (i + 1) < s.length - i
                  omega
              · refine ACmp.no (by omega) ?_; conv => whnf
                have hb : nmB s[i] = false := by simp [nmB, c5, c6]; omega
                refine AArith.ok (by omega) (by omega) ((by omega : (i : Int) + 1 = ((i + 1 : Nat) : Int))) ?_; conv => whnf
                refine ⟨⟨rfl, _, i + 1, false, updL_self ⟨rfl, rfl, rfl, trivial⟩, by omega, ?_⟩, ?_⟩
                · rw [hall, ← Bool.and_assoc, ← hmay, hb]; rfl
                · show s.length - (i + 1) < s.length - i
                  omega
    · refine ACmp.no (by rw [str_size]; omega) ?_; conv => whnf
      have hm : may = nmOk s := by rw [hmay, List.take_of_length_le (by omega)]; rfl
      subst hm
      refine ACalls.mono (New_any h 1) ?_; rintro _ h1 ⟨p, m, rfl, d1, s1⟩; conv => whnf
      have D1 : DA h1 p 1 dnew := ⟨_, _, _, _, d1⟩
      refine ABuildSl.mk (0, 1) rfl rfl rfl rfl rfl rfl rfl fun b1 f1 => ?_; conv => whnf
      have q1 := f1.sub (row (0, 1) (bytesV [1]) 5)
      refine ACalls.mono (Append_any (by decide) (D1.sub q1) Good.new s hs (sl_bytes (xs := [1]) (Heap.set_same _ _ _)) t01 (by decide)) ?_; rintro _ h2 ⟨rfl, D2, k2⟩; conv => whnf
      have g2 := Good.new.append s [1]
      refine ACalls.mono (Append_any (by decide) D2 g2 [120] (by decide) (b := []) (Sl.nil _ (0, 1) none 0 1) t01 (by decide)) ?_; rintro _ h3 ⟨rfl, D3, k3⟩; conv => whnf
      have g3 := g2.append [120] []
      refine ACalls.mono (Rename_any (by decide) D3 g3 [120] s hs) ?_; rintro _ h4 ⟨rfl, D4, k4⟩; conv => whnf
      have hkeep : Stays h h4 := s1.stays.trans (q1.stays.trans ((k2.stays (by decide)).trans ((k3.stays (by decide)).trans (k4.stays (by decide)))))
      have g4 := g3.rename [120] s
      cases hnm : nmOk s with
      | true =>
        have e1 : (dappend dnew s [1]) = (0, ⟨[⟨s, [1], 0⟩], false, -1, []⟩) := by
          unfold dappend
          rw [hnm]
          rfl
        rw [e1]
        by_cases hsx : s = [120]
        · subst hsx
          refine ACmp.yes (rfl) ?_; conv => whnf
          refine ACmp.yes (rfl) ?_; conv => whnf
          refine ACmp.yes (rfl) ?_; conv => whnf
          exact ⟨rfl, hkeep⟩
        · have hfx : dfind ([⟨s, [1], 0⟩] : List DF) [120] = none := dfind_not (by simpa using hsx)
          have e2 : dappend ⟨[⟨s, [1], 0⟩], false, -1, []⟩ [120] [] = (0, ⟨dput ⟨[120], [], 0⟩ [⟨s, [1], 0⟩], false, -1, []⟩) := by
            unfold dappend
            simp only [hfx]
            rfl
          rw [e2]
          have hr2 : Rise (dput ⟨[120], [], 0⟩ [⟨s, [1], 0⟩]) := dput_rise (by simp)
          have hf2 := dfind_of hr2 (f := ⟨[120], [], 0⟩) (mem_dput.2 (.inl rfl))
          have e3 : (drename ⟨dput ⟨[120], [], 0⟩ [⟨s, [1], 0⟩], false, -1, []⟩ [120] s).1 = 0 := by
            unfold drename
            simp only [hf2, hnm]
            rfl
          refine ACmp.yes (rfl) ?_; conv => whnf
          refine ACmp.yes (rfl) ?_; conv => whnf
          refine ACmp.yes (e3) ?_; conv => whnf
          exact ⟨rfl, hkeep⟩
      | false =>
        have e1 : (dappend dnew s [1]) = (121, dnew) := by
          unfold dappend
          rw [hnm]; rfl
        have e2 : dappend dnew [120] [] = (0, ⟨[⟨[120], [], 0⟩], false, -1, []⟩) := by rfl
        have e3 : drename ⟨[⟨[120], [], 0⟩], false, -1, []⟩ [120] s = (121, ⟨[⟨[120], [], 0⟩], false, -1, []⟩) := by
          unfold drename
          rw [hnm]; rfl
        rw [e1, e2, e3] at D4 g4
        rw [e1, e2, e3]
        refine ACmp.no (by decide) ?_; conv => whnf
        refine ACmp.yes (rfl) ?_; conv => whnf
        refine ACmp.no (by decide) ?_; conv => whnf
        refine ACmp.yes (rfl) ?_; conv => whnf
        refine ACmp.yes (rfl) ?_; conv => whnf
        refine ACalls.mono (List_any D4 g4) ?_; rintro _ h5 ⟨a5, c5, rfl, sl5, s5⟩; conv => whnf
        refine ACmp.yes (rfl) ?_; conv => whnf
        exact ⟨rfl, hkeep.trans s5.stays⟩
end Go.Ah
