/- DiskKnown: the chapter's examples, both ends, disks that are none. -/
import Derived.Test.YtdacfmgldjegmaaDlE
namespace Go.Ah
open Go.Proofs
set_option linter.unusedVariables false
set_option linter.unusedSimpArgs false
set_option maxRecDepth 20000

/-! ### a receiver that is no disk -/
def NN (v : Value) (h : Heap) : Prop := v = .pointer none ∨ ∃ p r tg, v = Ptr p ∧ h p = some (row tg (.map none :: r) 61)
theorem check_NN {v : Value} {h : Heap} (n : NN v h) : ACalls PR 36 #[v] h (fun r h' => r = I 1 ∧ h = h') := by
  rcases n with rfl | ⟨p, r, tg, rfl, hp⟩
  · exact check_nil h
  · exact check_none h hp
theorem find_NN {v : Value} {h : Heap} (n : NN v h) (s : Nm) : ACalls PR 33 #[v, S s] h (fun r h' => r = .tuple #[.pointer none, I 1] ∧ h = h') := by
  have n' := n
  rcases n with rfl | ⟨p, r, tg, rfl, hp⟩
  all_goals (refine acalls_pure (acalls_of mix Try.func33 rfl rfl Try.ntmps33 Try.results33 rfl ?_); conv => whnf)
  all_goals (refine ACalls.mono (check_NN n') ?_; rintro _ _ ⟨rfl, rfl⟩; conv => whnf)
  all_goals (refine ACmp.yes (by simp) ?_; conv => whnf)
  all_goals exact ⟨rfl, Sub.refl _⟩
theorem Append_NN {v : Value} {h : Heap} (n : NN v h) (s : Nm) : ACalls PR 12 #[v, S s, .slice none 0 0] h (fun r h' => r = I 1 ∧ h = h') := by
  have n' := n
  rcases n with rfl | ⟨p, r, tg, rfl, hp⟩
  all_goals (refine acalls_pure (acalls_of mix Try.func12 rfl rfl Try.ntmps12 Try.results12 rfl ?_); conv => whnf)
  all_goals (refine ACalls.mono (find_NN n' s) ?_; rintro _ _ ⟨rfl, rfl⟩; conv => whnf)
  all_goals (refine ACmp.no (by simp) ?_; conv => whnf)
  all_goals (refine ACmp.no (by simp) ?_; conv => whnf)
  all_goals (refine ACmp.no (by simp) ?_; conv => whnf)
  all_goals (refine ACmp.yes (by simp) ?_; conv => whnf)
  all_goals exact ⟨rfl, Sub.refl _⟩
theorem Sync_NN {v : Value} {h : Heap} (n : NN v h) (s : Nm) : ACalls PR 13 #[v, S s] h (fun r h' => r = I 1 ∧ h = h') := by
  have n' := n
  rcases n with rfl | ⟨p, r, tg, rfl, hp⟩
  all_goals (refine acalls_pure (acalls_of mix Try.func13 rfl rfl Try.ntmps13 Try.results13 rfl ?_); conv => whnf)
  all_goals (refine ACalls.mono (find_NN n' s) ?_; rintro _ _ ⟨rfl, rfl⟩; conv => whnf)
  all_goals (refine ACmp.no (by simp) ?_; conv => whnf)
  all_goals (refine ACmp.yes (by simp) ?_; conv => whnf)
  all_goals exact ⟨rfl, Sub.refl _⟩
theorem Rename_NN {v : Value} {h : Heap} (n : NN v h) (s u : Nm) : ACalls PR 20 #[v, S s, S u] h (fun r h' => r = I 1 ∧ h = h') := by
  have n' := n
  rcases n with rfl | ⟨p, r, tg, rfl, hp⟩
  all_goals (refine acalls_pure (acalls_of mix Try.func20 rfl rfl Try.ntmps20 Try.results20 rfl ?_); conv => whnf)
  all_goals (refine ACalls.mono (find_NN n' s) ?_; rintro _ _ ⟨rfl, rfl⟩; conv => whnf)
  all_goals (refine ACmp.no (by simp) ?_; conv => whnf)
  all_goals (refine ACmp.no (by simp) ?_; conv => whnf)
  all_goals (refine ACmp.yes (by simp) ?_; conv => whnf)
  all_goals exact ⟨rfl, Sub.refl _⟩
theorem Remove_NN {v : Value} {h : Heap} (n : NN v h) (s : Nm) : ACalls PR 25 #[v, S s] h (fun r h' => r = I 1 ∧ h = h') := by
  have n' := n
  rcases n with rfl | ⟨p, r, tg, rfl, hp⟩
  all_goals (refine acalls_pure (acalls_of mix Try.func25 rfl rfl Try.ntmps25 Try.results25 rfl ?_); conv => whnf)
  all_goals (refine ACalls.mono (find_NN n' s) ?_; rintro _ _ ⟨rfl, rfl⟩; conv => whnf)
  all_goals (refine ACmp.no (by simp) ?_; conv => whnf)
  all_goals (refine ACmp.no (by simp) ?_; conv => whnf)
  all_goals exact ⟨rfl, Sub.refl _⟩
theorem Read_NN {v : Value} {h : Heap} (n : NN v h) (s : Nm) : ACalls PR 16 #[v, S s] h (fun r h' => r = .tuple #[.slice none 0 0, I 1] ∧ h = h') := by
  have n' := n
  rcases n with rfl | ⟨p, r, tg, rfl, hp⟩
  all_goals (refine acalls_pure (acalls_of mix Try.func16 rfl rfl Try.ntmps16 Try.results16 rfl ?_); conv => whnf)
  all_goals (refine ACalls.mono (find_NN n' s) ?_; rintro _ _ ⟨rfl, rfl⟩; conv => whnf)
  all_goals (refine ACmp.yes (by simp) ?_; conv => whnf)
  all_goals exact ⟨rfl, Sub.refl _⟩
theorem List_NN {v : Value} {h : Heap} (n : NN v h) : ACalls PR 24 #[v] h (fun r h' => r = .slice none 0 0 ∧ h = h') := by
  have n' := n
  rcases n with rfl | ⟨p, r, tg, rfl, hp⟩
  all_goals (refine acalls_pure (acalls_of mix Try.func24 rfl rfl Try.ntmps24 Try.results24 rfl ?_); conv => whnf)
  all_goals (refine ACalls.mono (check_NN n') ?_; rintro _ _ ⟨rfl, rfl⟩; conv => whnf)
  all_goals (refine ACmp.yes (by simp) ?_; conv => whnf)
  all_goals exact ⟨rfl, Sub.refl _⟩
theorem Arm_NN {v : Value} {h : Heap} (n : NN v h) (m : Int) : ACalls PR 19 #[v, I m, .slice none 0 0] h (fun r h' => r = I 1 ∧ h = h') := by
  have n' := n
  rcases n with rfl | ⟨p, r, tg, rfl, hp⟩
  all_goals (refine acalls_pure (acalls_of mix Try.func19 rfl rfl Try.ntmps19 Try.results19 rfl ?_); conv => whnf)
  all_goals (refine ACalls.mono (check_NN n') ?_; rintro _ _ ⟨rfl, rfl⟩; conv => whnf)
  all_goals (refine ACmp.yes (by simp) ?_; conv => whnf)
  all_goals exact ⟨rfl, Sub.refl _⟩
theorem Crash_NN {v : Value} {h : Heap} (n : NN v h) : ACalls PR 14 #[v, .slice none 0 0] h (fun r h' => r = I 1 ∧ h = h') := by
  have n' := n
  rcases n with rfl | ⟨p, r, tg, rfl, hp⟩
  all_goals (refine acalls_pure (acalls_of mix Try.func14 rfl rfl Try.ntmps14 Try.results14 rfl ?_); conv => whnf)
  all_goals (refine ACalls.mono (check_NN n') ?_; rintro _ _ ⟨rfl, rfl⟩; conv => whnf)
  all_goals (refine ACmp.yes (by simp) ?_; conv => whnf)
  all_goals exact ⟨rfl, Sub.refl _⟩
theorem Boot_NN {v : Value} {h : Heap} (n : NN v h) : ACalls PR 15 #[v] h (fun r h' => r = I 1 ∧ h = h') := by
  have n' := n
  rcases n with rfl | ⟨p, r, tg, rfl, hp⟩
  all_goals (refine acalls_pure (acalls_of mix Try.func15 rfl rfl Try.ntmps15 Try.results15 rfl ?_); conv => whnf)
  all_goals (refine ACalls.mono (check_NN n') ?_; rintro _ _ ⟨rfl, rfl⟩; conv => whnf)
  all_goals (refine ACmp.yes (by simp) ?_; conv => whnf)
  all_goals exact ⟨rfl, Sub.refl _⟩
theorem Dead_NN {v : Value} {h : Heap} (n : NN v h) : ACalls PR 21 #[v] h (fun r h' => r = .bool false ∧ h = h') := by
  have n' := n
  rcases n with rfl | ⟨p, r, tg, rfl, hp⟩
  all_goals (refine acalls_pure (acalls_of mix Try.func21 rfl rfl Try.ntmps21 Try.results21 rfl ?_); conv => whnf)
  all_goals (refine ACalls.mono (check_NN n') ?_; rintro _ _ ⟨rfl, rfl⟩; conv => whnf)
  all_goals (refine ACmp.no (by simp) ?_; conv => whnf)
  all_goals exact ⟨rfl, Sub.refl _⟩
theorem Turn_NN {v : Value} {h : Heap} (n : NN v h) (s : Nm) (i k : Int) : ACalls PR 31 #[v, S s, I i, I k] h (fun r h' => r = I 1 ∧ h = h') := by
  have n' := n
  rcases n with rfl | ⟨p, r, tg, rfl, hp⟩
  all_goals (refine acalls_pure (acalls_of mix Try.func31 rfl rfl Try.ntmps31 Try.results31 rfl ?_); conv => whnf)
  all_goals (refine ACalls.mono (find_NN n' s) ?_; rintro _ _ ⟨rfl, rfl⟩; conv => whnf)
  all_goals (refine ACmp.yes (by simp) ?_; conv => whnf)
  all_goals exact ⟨rfl, Sub.refl _⟩

/-! ### sixteen files -/
def kname (k : Nat) : Nm := [102, UInt8.ofNat (97 + k)]
def kfull : Nat → DD
  | 0 => dnew
  | k + 1 => (dappend (kfull k) (kname k) []).2
theorem gfull : ∀ k, Good (kfull k)
  | 0 => Good.new
  | k + 1 => (gfull k).append _ _
theorem rfull : ∀ k, k < 16 → (dappend (kfull k) (kname k) []).1 = 0 := by decide +kernel
theorem enc_k : ∀ k : Nat, k < 16 → (⟨#[102]⟩ : ByteArray) ++ Utf8.encode (IntKind.i32.wrap (97 + (k : Int))) = ⟨(kname k).toArray⟩ := by decide +kernel
theorem AStrOp.cat {t : TypeId} {a b r : ByteArray} {K : Value → Prop} (h : a ++ b = r) (hs : ((a.size + b.size : Nat) : Int) ≤ 9223372036854775807) (k : K (.string r)) : AStrOp .add t a b K := by
  refine ⟨⟨.string r, ?_, k⟩⟩
  have : (IntKind.i64.max : Int) = 9223372036854775807 := by decide
  simp only [binOp, Op.stringOp, this]
  rw [if_neg (by omega), h]
theorem enc_size : ∀ k : Nat, k < 16 → (Utf8.encode (IntKind.i32.wrap (97 + (k : Int)))).size = 1 := by decide +kernel
theorem BIG_ex : ∃ B : List Int, B = List.replicate 262144 0 := ⟨_, rfl⟩
noncomputable def BIG : List Int := Classical.choose BIG_ex
theorem BIG_eq : BIG = List.replicate 262144 0 := Classical.choose_spec BIG_ex
theorem BIG_len : BIG.length = 262144 := by rw [BIG_eq]; exact List.length_replicate
theorem flat_rep (n : Nat) : (List.replicate n [Value.int .u8 0]).flatten = bytesV (List.replicate n 0) := by simp [bytesV]
def F0 : DD := kfull 16
theorem f0z : dappend F0 [122] [] = (5, F0) := by rfl
noncomputable def F1 : DD := { F0 with fs := dput ⟨[102, 97], BIG, 0⟩ F0.fs }
theorem f1e : dappend F0 [102, 97] BIG = (0, F1) := by
  have h := dappend_old (D := F0) (b := BIG) rfl rfl (by decide : nmOk [102, 97] = true) (f := ⟨[102, 97], [], 0⟩) rfl (by rw [BIG_len]; decide)
  exact h
theorem f1f : dfind F1.fs [102, 97] = some ⟨[102, 97], BIG, 0⟩ := by
  have hr : Rise F1.fs := dput_rise (gfull 16).rise
  exact dfind_of hr (f := ⟨[102, 97], BIG, 0⟩) (mem_dput.2 (.inl rfl))
theorem f2e : dappend F1 [102, 97] [1] = (5, F1) := by
  have hb : 262144 < BIG.length + 1 := by rw [BIG_len]; decide
  have hd : F1.dead = false := rfl
  simp [dappend, hd, f1f, hb, show nmOk [102, 97] = true by decide]
noncomputable def F3 : DD := { F1 with fs := dput ⟨[102, 97], BIG ++ [], 0⟩ F1.fs }
theorem f3e : dappend F1 [102, 97] [] = (0, F3) :=
  dappend_old (D := F1) (b := []) rfl rfl (by decide : nmOk [102, 97] = true) (f := ⟨[102, 97], BIG, 0⟩) f1f (by show BIG.length + 0 ≤ 262144; rw [BIG_len]; decide)
theorem f4e (b : List Int) (hb : b.length = 262145) : dappend F3 [102, 98] b = (5, F3) := by
  have hf : dfind F3.fs [102, 98] = some ⟨[102, 98], [], 0⟩ := by rfl
  have hb : 262144 < b.length := by omega
  have hd : F3.dead = false := rfl
  simp [dappend, hd, hf, hb, show nmOk [102, 98] = true by decide]
noncomputable def F5 : DD := { F3 with fs := dout [102, 99] F3.fs }
theorem f5e : dremove F3 [102, 99] = (0, F5) := dremove_ok rfl rfl (f := ⟨[102, 99], [], 0⟩) rfl
noncomputable def F6 : DD := { F5 with fs := dput ⟨[122], [], 0⟩ F5.fs }
theorem f5n : F5.fs.length = 15 := by rfl
theorem f6e : dappend F5 [122] [] = (0, F6) := dappend_new rfl rfl (by decide) rfl (by rw [f5n]; decide) (by decide)
theorem f6n : (dlist F6).length = 16 := by rfl
theorem gF0 : Good F0 := gfull 16
theorem gF1 : Good F1 := by have := gF0.append [102, 97] BIG; rw [f1e] at this; exact this
theorem gF3 : Good F3 := by have := gF1.append [102, 97] []; rw [f3e] at this; exact this
theorem gF5 : Good F5 := by have := gF3.remove [102, 99]; rw [f5e] at this; exact this
theorem gF6 : Good F6 := by have := gF5.append [122] []; rw [f6e] at this; exact this

def K1 : DD := (dappend dnew [65] [1]).2
theorem gK1 : Good K1 := Good.new.append _ _
theorem rK1 : (dappend dnew [65] [1]).1 = 121 := by decide +kernel
def K2 : DD := (dappend K1 [] []).2
theorem gK2 : Good K2 := gK1.append _ _
theorem rK2 : (dappend K1 [] []).1 = 121 := by decide +kernel
def K3 : DD := (dappend K2 [97, 98, 99, 100, 101, 102, 103, 104, 105, 106, 107, 108, 109, 110, 111, 112, 113, 114, 115, 116, 117, 118, 119, 120, 121] []).2
theorem gK3 : Good K3 := gK2.append _ _
theorem rK3 : (dappend K2 [97, 98, 99, 100, 101, 102, 103, 104, 105, 106, 107, 108, 109, 110, 111, 112, 113, 114, 115, 116, 117, 118, 119, 120, 121] []).1 = 121 := by decide +kernel
def K4 : DD := (dsync K3 [99]).2
theorem gK4 : Good K4 := gK3.sync _
theorem rK4 : (dsync K3 [99]).1 = 121 := by decide +kernel
def K5 : DD := (dremove K4 [99]).2
theorem gK5 : Good K5 := gK4.remove _
theorem rK5 : (dremove K4 [99]).1 = 121 := by decide +kernel
def K6 : DD := (drename K5 [99] [100]).2
theorem gK6 : Good K6 := gK5.rename _ _
theorem rK6 : (drename K5 [99] [100]).1 = 121 := by decide +kernel
def K7 : DD := (dturn K6 [99] (0) (0)).2
theorem gK7 : Good K7 := gK6.turn _ _ _
theorem rK7 : (dturn K6 [99] (0) (0)).1 = 121 := by decide +kernel
theorem L8 : (dlist K7).length = 0 := by decide +kernel
theorem E9 : dread K7 [99] = ([], 121) := by decide +kernel
def K10 : DD := (dappend K7 [97, 98, 99, 100, 101, 102, 103, 104, 105, 106, 107, 108, 109, 110, 111, 112, 113, 114, 115, 116, 117, 118, 119, 120] [1, 2]).2
theorem gK10 : Good K10 := gK7.append _ _
theorem rK10 : (dappend K7 [97, 98, 99, 100, 101, 102, 103, 104, 105, 106, 107, 108, 109, 110, 111, 112, 113, 114, 115, 116, 117, 118, 119, 120] [1, 2]).1 = 0 := by decide +kernel
def K11 : DD := (drename K10 [97, 98, 99, 100, 101, 102, 103, 104, 105, 106, 107, 108, 109, 110, 111, 112, 113, 114, 115, 116, 117, 118, 119, 120] [68]).2
theorem gK11 : Good K11 := gK10.rename _ _
theorem rK11 : (drename K10 [97, 98, 99, 100, 101, 102, 103, 104, 105, 106, 107, 108, 109, 110, 111, 112, 113, 114, 115, 116, 117, 118, 119, 120] [68]).1 = 121 := by decide +kernel
def K12 : DD := (dturn K11 [97, 98, 99, 100, 101, 102, 103, 104, 105, 106, 107, 108, 109, 110, 111, 112, 113, 114, 115, 116, 117, 118, 119, 120] (2) (0)).2
theorem gK12 : Good K12 := gK11.turn _ _ _
theorem rK12 : (dturn K11 [97, 98, 99, 100, 101, 102, 103, 104, 105, 106, 107, 108, 109, 110, 111, 112, 113, 114, 115, 116, 117, 118, 119, 120] (2) (0)).1 = 9 := by decide +kernel
def K13 : DD := (dturn K12 [97, 98, 99, 100, 101, 102, 103, 104, 105, 106, 107, 108, 109, 110, 111, 112, 113, 114, 115, 116, 117, 118, 119, 120] (-1) (0)).2
theorem gK13 : Good K13 := gK12.turn _ _ _
theorem rK13 : (dturn K12 [97, 98, 99, 100, 101, 102, 103, 104, 105, 106, 107, 108, 109, 110, 111, 112, 113, 114, 115, 116, 117, 118, 119, 120] (-1) (0)).1 = 9 := by decide +kernel
def K14 : DD := (dturn K13 [97, 98, 99, 100, 101, 102, 103, 104, 105, 106, 107, 108, 109, 110, 111, 112, 113, 114, 115, 116, 117, 118, 119, 120] (0) (8)).2
theorem gK14 : Good K14 := gK13.turn _ _ _
theorem rK14 : (dturn K13 [97, 98, 99, 100, 101, 102, 103, 104, 105, 106, 107, 108, 109, 110, 111, 112, 113, 114, 115, 116, 117, 118, 119, 120] (0) (8)).1 = 9 := by decide +kernel
def K15 : DD := (dturn K14 [97, 98, 99, 100, 101, 102, 103, 104, 105, 106, 107, 108, 109, 110, 111, 112, 113, 114, 115, 116, 117, 118, 119, 120] (0) (-1)).2
theorem gK15 : Good K15 := gK14.turn _ _ _
theorem rK15 : (dturn K14 [97, 98, 99, 100, 101, 102, 103, 104, 105, 106, 107, 108, 109, 110, 111, 112, 113, 114, 115, 116, 117, 118, 119, 120] (0) (-1)).1 = 9 := by decide +kernel
def K16 : DD := (dturn K15 [97, 98, 99, 100, 101, 102, 103, 104, 105, 106, 107, 108, 109, 110, 111, 112, 113, 114, 115, 116, 117, 118, 119, 120] (1) (7)).2
theorem gK16 : Good K16 := gK15.turn _ _ _
theorem rK16 : (dturn K15 [97, 98, 99, 100, 101, 102, 103, 104, 105, 106, 107, 108, 109, 110, 111, 112, 113, 114, 115, 116, 117, 118, 119, 120] (1) (7)).1 = 0 := by decide +kernel
theorem E17 : dread K16 [97, 98, 99, 100, 101, 102, 103, 104, 105, 106, 107, 108, 109, 110, 111, 112, 113, 114, 115, 116, 117, 118, 119, 120] = ([1, 130], 0) := by decide +kernel
def K18 : DD := (dappend dnew [98] [1, 2, 3]).2
theorem gK18 : Good K18 := Good.new.append _ _
theorem rK18 : (dappend dnew [98] [1, 2, 3]).1 = 0 := by decide +kernel
def K19 : DD := (dappend K18 [97] [4, 5, 6]).2
theorem gK19 : Good K19 := gK18.append _ _
theorem rK19 : (dappend K18 [97] [4, 5, 6]).1 = 0 := by decide +kernel
def K20 : DD := (dappend K19 [99] [7]).2
theorem gK20 : Good K20 := gK19.append _ _
theorem rK20 : (dappend K19 [99] [7]).1 = 0 := by decide +kernel
def K21 : DD := (dcrashed K20 [2, (-1)]).2
theorem gK21 : Good K21 := gK20.crashed _
theorem rK21 : (dcrashed K20 [2, (-1)]).1 = 0 := by decide +kernel
def K22 : DD := (dcrashed K21 []).2
theorem gK22 : Good K22 := gK21.crashed _
theorem rK22 : (dcrashed K21 []).1 = 120 := by decide +kernel
def K23 : DD := (darm K22 (1) []).2
theorem gK23 : Good K23 := gK22.arm _ (by omega) _
theorem rK23 : (darm K22 (1) []).1 = 120 := by decide +kernel
def K24 : DD := (dsync K23 [97]).2
theorem gK24 : Good K24 := gK23.sync _
theorem rK24 : (dsync K23 [97]).1 = 120 := by decide +kernel
def K25 : DD := (dturn K24 [97] (0) (0)).2
theorem gK25 : Good K25 := gK24.turn _ _ _
theorem rK25 : (dturn K24 [97] (0) (0)).1 = 120 := by decide +kernel
theorem L26 : (dlist K25).length = 0 := by decide +kernel
def K27 : DD := dboot K25
theorem gK27 : Good K27 := gK25.boot
theorem E28 : dread K27 [97] = ([4, 5], 0) := by decide +kernel
theorem E29 : dread K27 [98] = ([], 0) := by decide +kernel
theorem E30 : dread K27 [99] = ([], 0) := by decide +kernel
def K31 : DD := (darm K27 (0) [9]).2
theorem gK31 : Good K31 := gK27.arm _ (by omega) _
theorem rK31 : (darm K27 (0) [9]).1 = 0 := by decide +kernel
def K32 : DD := (dappend K31 [65] []).2
theorem gK32 : Good K32 := gK31.append _ _
theorem rK32 : (dappend K31 [65] []).1 = 121 := by decide +kernel
def K33 : DD := (dremove K32 [122]).2
theorem gK33 : Good K33 := gK32.remove _
theorem rK33 : (dremove K32 [122]).1 = 121 := by decide +kernel
def K34 : DD := (darm K33 (-7) []).2
theorem gK34 : Good K34 := gK33.arm _ (by omega) _
theorem rK34 : (darm K33 (-7) []).1 = 0 := by decide +kernel
def K35 : DD := (dappend K34 [97] [8]).2
theorem gK35 : Good K35 := gK34.append _ _
theorem rK35 : (dappend K34 [97] [8]).1 = 0 := by decide +kernel
def K36 : DD := (darm K35 (0) [9]).2
theorem gK36 : Good K36 := gK35.arm _ (by omega) _
theorem rK36 : (darm K35 (0) [9]).1 = 0 := by decide +kernel
def K37 : DD := (dremove K36 [99]).2
theorem gK37 : Good K37 := gK36.remove _
theorem rK37 : (dremove K36 [99]).1 = 120 := by decide +kernel
def K38 : DD := dboot K37
theorem gK38 : Good K38 := gK37.boot
theorem E39 : dread K38 [97] = ([4, 5, 8], 0) := by decide +kernel
theorem L40 : dlist K38 = [[97], [98], [99]] := by decide +kernel
def K41 : DD := (dappend K38 [97] []).2
theorem gK41 : Good K41 := gK38.append _ _
theorem rK41 : (dappend K38 [97] []).1 = 0 := by decide +kernel

set_option maxHeartbeats 40000000 in
theorem Known_law (h : Heap) : ACalls PR 9 #[] h (fun v h' => v = .bool true ∧ Stays h h') := by
  refine acalls_of mix Try.func9 rfl rfl Try.ntmps9 Try.results9 rfl ?_; conv => whnf
  refine ACalls.mono (New_any _ 1) ?_; rintro _ h1 ⟨p, mp, rfl, dp, sh1⟩; conv => whnf
  have Dh1 : DA h1 p 1 dnew := ⟨_, _, _, _, dp⟩
  refine ABuildSl.mk (0, 1) rfl rfl rfl rfl rfl rfl rfl fun b2 fb2 => ?_; conv => whnf
  have qb2 := fb2.sub (row (0, 1) (bytesV [1]) 5)
  refine ACalls.mono (Append_any (by decide) (Dh1.sub qb2) Good.new [65] (by decide) (sl_bytes (xs := [1]) (Heap.set_same _ _ _)) (by decide) (by decide)) ?_; rintro _ h3 ⟨rfl, (Dh3 : DA h3 p 1 K1), kh3⟩; conv => whnf
  refine ACmp.yes (rK1) ?_; conv => whnf
  refine ACalls.mono (Append_any (by decide) Dh3 gK1 [] (by decide) (b := []) (Sl.nil _ (0, 1) none 0 1) (by decide) (by decide)) ?_; rintro _ h4 ⟨rfl, (Dh4 : DA h4 p 1 K2), kh4⟩; conv => whnf
  refine ACmp.yes (rK2) ?_; conv => whnf
  refine ACalls.mono (Append_any (by decide) Dh4 gK2 [97, 98, 99, 100, 101, 102, 103, 104, 105, 106, 107, 108, 109, 110, 111, 112, 113, 114, 115, 116, 117, 118, 119, 120, 121] (by decide) (b := []) (Sl.nil _ (0, 1) none 0 1) (by decide) (by decide)) ?_; rintro _ h5 ⟨rfl, (Dh5 : DA h5 p 1 K3), kh5⟩; conv => whnf
  refine ACmp.yes (rK3) ?_; conv => whnf
  refine ACalls.mono (Sync_any (by decide) Dh5 gK3 [99]) ?_; rintro _ h6 ⟨rfl, (Dh6 : DA h6 p 1 K4), kh6⟩; conv => whnf
  refine ACmp.yes (rK4) ?_; conv => whnf
  refine ACalls.mono (Remove_any (by decide) Dh6 gK4 [99]) ?_; rintro _ h7 ⟨rfl, (Dh7 : DA h7 p 1 K5), kh7⟩; conv => whnf
  refine ACmp.yes (rK5) ?_; conv => whnf
  refine ACalls.mono (Rename_any (by decide) Dh7 gK5 [99] [100] (by decide)) ?_; rintro _ h8 ⟨rfl, (Dh8 : DA h8 p 1 K6), kh8⟩; conv => whnf
  refine ACmp.yes (rK6) ?_; conv => whnf
  refine ACalls.mono (Turn_any Dh8 gK6 [99] (0) (0)) ?_; rintro _ h9 ⟨rfl, (Dh9 : DA h9 p 1 K7), kh9⟩; conv => whnf
  refine ACmp.yes (rK7) ?_; conv => whnf
  refine ACalls.mono (List_any Dh9 gK7) ?_; rintro _ h10 ⟨ah10, ch10, rfl, slh10, sh10⟩; conv => whnf
  rw [L8] at slh10 ⊢
  refine ACmp.yes (rfl) ?_; conv => whnf
  refine ACalls.mono (Read_any (Dh9.sub sh10) gK7 [99] (0, 1)) ?_; rintro _ h11 ⟨ah11, ch11, rfl, ownh11, sh11⟩; conv => whnf
  rw [E9]
  refine ABuildSl.mk (0, 1) rfl rfl rfl rfl rfl rfl rfl fun b12 fb12 => ?_; conv => whnf
  have qb12 := fb12.sub (row (0, 1) (bytesV [1, 2]) 5)
  refine ACalls.mono (Append_any (by decide) (((Dh9.sub sh10).sub sh11).sub qb12) gK7 [97, 98, 99, 100, 101, 102, 103, 104, 105, 106, 107, 108, 109, 110, 111, 112, 113, 114, 115, 116, 117, 118, 119, 120] (by decide) (sl_bytes (xs := [1, 2]) (Heap.set_same _ _ _)) (by decide) (by decide)) ?_; rintro _ h13 ⟨rfl, (Dh13 : DA h13 p 1 K10), kh13⟩; conv => whnf
  refine ACmp.yes (rK10) ?_; conv => whnf
  refine ACalls.mono (Rename_any (by decide) Dh13 gK10 [97, 98, 99, 100, 101, 102, 103, 104, 105, 106, 107, 108, 109, 110, 111, 112, 113, 114, 115, 116, 117, 118, 119, 120] [68] (by decide)) ?_; rintro _ h14 ⟨rfl, (Dh14 : DA h14 p 1 K11), kh14⟩; conv => whnf
  refine ACmp.yes (rK11) ?_; conv => whnf
  refine ACalls.mono (Turn_any Dh14 gK11 [97, 98, 99, 100, 101, 102, 103, 104, 105, 106, 107, 108, 109, 110, 111, 112, 113, 114, 115, 116, 117, 118, 119, 120] (2) (0)) ?_; rintro _ h15 ⟨rfl, (Dh15 : DA h15 p 1 K12), kh15⟩; conv => whnf
  refine ACmp.yes (rK12) ?_; conv => whnf
  refine ACalls.mono (Turn_any Dh15 gK12 [97, 98, 99, 100, 101, 102, 103, 104, 105, 106, 107, 108, 109, 110, 111, 112, 113, 114, 115, 116, 117, 118, 119, 120] (-1) (0)) ?_; rintro _ h16 ⟨rfl, (Dh16 : DA h16 p 1 K13), kh16⟩; conv => whnf
  refine ACmp.yes (rK13) ?_; conv => whnf
  refine ACalls.mono (Turn_any Dh16 gK13 [97, 98, 99, 100, 101, 102, 103, 104, 105, 106, 107, 108, 109, 110, 111, 112, 113, 114, 115, 116, 117, 118, 119, 120] (0) (8)) ?_; rintro _ h17 ⟨rfl, (Dh17 : DA h17 p 1 K14), kh17⟩; conv => whnf
  refine ACmp.yes (rK14) ?_; conv => whnf
  refine ACalls.mono (Turn_any Dh17 gK14 [97, 98, 99, 100, 101, 102, 103, 104, 105, 106, 107, 108, 109, 110, 111, 112, 113, 114, 115, 116, 117, 118, 119, 120] (0) (-1)) ?_; rintro _ h18 ⟨rfl, (Dh18 : DA h18 p 1 K15), kh18⟩; conv => whnf
  refine ACmp.yes (rK15) ?_; conv => whnf
  refine ACalls.mono (Turn_any Dh18 gK15 [97, 98, 99, 100, 101, 102, 103, 104, 105, 106, 107, 108, 109, 110, 111, 112, 113, 114, 115, 116, 117, 118, 119, 120] (1) (7)) ?_; rintro _ h19 ⟨rfl, (Dh19 : DA h19 p 1 K16), kh19⟩; conv => whnf
  refine ACmp.yes (rK16) ?_; conv => whnf
  refine ABuildSl.mk (0, 1) rfl rfl rfl rfl rfl rfl rfl fun b20 fb20 => ?_; conv => whnf
  have qb20 := fb20.sub (row (0, 1) (bytesV [1, 130]) 5)
  have cE17 := reads_any (Dh19.sub qb20) gK16 [97, 98, 99, 100, 101, 102, 103, 104, 105, 106, 107, 108, 109, 110, 111, 112, 113, 114, 115, 116, 117, 118, 119, 120] (sl_bytes (xs := [1, 130]) (Heap.set_same _ _ _))
  rw [decide_eq_true E17] at cE17
  refine ACalls.mono (cE17) ?_; rintro _ _ ⟨rfl, rfl⟩; conv => whnf
  -- sixteen files
  refine ACalls.mono (New_any _ 2) ?_; rintro _ h21 ⟨pf, mpf, rfl, dpf, sh21⟩; conv => whnf
  have Dh21 : DA h21 pf 2 dnew := ⟨_, _, _, _, dpf⟩
  have stA : Stays h h21 := sh1.stays.trans (qb2.stays.trans ((kh3.stays (by decide)).trans ((kh4.stays (by decide)).trans ((kh5.stays (by decide)).trans ((kh6.stays (by decide)).trans ((kh7.stays (by decide)).trans ((kh8.stays (by decide)).trans ((kh9.stays (by decide)).trans (sh10.stays.trans (sh11.stays.trans (qb12.stays.trans ((kh13.stays (by decide)).trans ((kh14.stays (by decide)).trans ((kh15.stays (by decide)).trans ((kh16.stays (by decide)).trans ((kh17.stays (by decide)).trans ((kh18.stays (by decide)).trans ((kh19.stays (by decide)).trans (qb20.stays.trans (sh21.stays))))))))))))))))))))
  refine ALoop.mk (fun e h' => Stays h h' ∧ ∃ e0, ∃ k : Nat, e = updL 365 e0 [(2, .bool true), (4, I 121), (5, .bool true), (6, Ptr pf), (7, I k)] ∧ k ≤ 16 ∧ DA h' pf 2 (kfull k)) (fun e => 16 - natOf (e 7))
    ⟨stA, _, 0, updL_self ⟨rfl, rfl, rfl, rfl, rfl, trivial⟩, by omega, Dh21⟩ ?_
  rintro e hL ⟨stL, e0, k, rfl, hk, dL⟩
  conv => whnf
  by_cases hk16 : k < 16
  · refine ACmp.yes (by omega) ?_; conv => whnf
    refine AArith.ok (by omega) (by omega) rfl ?_; conv => whnf
    refine AArith.as rfl ?_; conv => whnf
    refine AStrOp.cat (enc_k k hk16) (by rw [enc_size k hk16]; decide) ?_; conv => whnf
    refine ACalls.mono (Append_any (by decide) dL (gfull k) (kname k) (by show (2 : Nat) ≤ _; decide) (b := []) (Sl.nil _ (0, 1) none 0 1) (by decide) (by decide)) ?_; rintro _ hM ⟨rfl, (dM : DA hM pf 2 (kfull (k + 1))), kM⟩; conv => whnf
    refine ACmp.no (by rw [rfull k hk16]; simp) ?_; conv => whnf
    refine AArith.ok (by omega) (by omega) ((by omega : (k : Int) + 1 = ((k + 1 : Nat) : Int))) ?_; conv => whnf
    refine ⟨⟨stL.trans (kM.stays (by decide)), _, k + 1, updL_self ⟨rfl, rfl, rfl, rfl, rfl, trivial⟩, by omega, dM⟩, ?_⟩
    show 16 - (k + 1) < 16 - k
    omega
  · refine ACmp.no (by omega) ?_; conv => whnf
    obtain rfl : k = 16 := by omega
    have dL : DA hL pf 2 F0 := dL
    refine ACalls.mono (Append_any (by decide) dL gF0 [122] (by decide) (b := []) (Sl.nil _ (0, 1) none 0 1) (by decide) (by decide)) ?_; rintro _ j1 ⟨rfl, e1, kj1⟩; conv => whnf
    rw [f0z] at e1 ⊢
    refine ACmp.yes (rfl) ?_; conv => whnf
    refine AMakeSl.mk (z := 1) (by_ := 1) (n := 262144) (zero := [.int .u8 0]) (0, 1) rfl rfl rfl rfl rfl (by omega) (by rfl) (by rfl) (by omega) (by omega) fun bd fd => ?_; conv => whnf
    rw [flat_rep, ← BIG_eq]
    have qd := fd.sub (row (0, 1) (bytesV BIG) 5)
    have sBIG : Sl (j1.set bd (row (0, 1) (bytesV BIG) 5)) (0, 1) (some ⟨bd, 0, none⟩) 262144 262144 1 (bytesV BIG) := by
      have := sl_bytes (xs := BIG) (Heap.set_same j1 bd (row (0, 1) (bytesV BIG) 5))
      rw [BIG_len] at this; exact this
    refine ACalls.mono (Append_any (by decide) (e1.sub qd) gF0 [102, 97] (by decide) sBIG (by decide) (by decide)) ?_; rintro _ j2 ⟨rfl, e2, kj2⟩; conv => whnf
    rw [f1e] at e2 ⊢
    refine ACmp.yes (rfl) ?_; conv => whnf
    refine ABuildSl.mk (0, 1) rfl rfl rfl rfl rfl rfl rfl fun b3 f3 => ?_; conv => whnf
    have q3 := f3.sub (row (0, 1) (bytesV [1]) 5)
    refine ACalls.mono (Append_any (by decide) (e2.sub q3) gF1 [102, 97] (by decide) (sl_bytes (xs := [1]) (Heap.set_same _ _ _)) (by decide) (by decide)) ?_; rintro _ j3 ⟨rfl, e3, kj3⟩; conv => whnf
    rw [f2e] at e3 ⊢
    refine ACmp.yes (rfl) ?_; conv => whnf
    refine ACalls.mono (Append_any (by decide) e3 gF1 [102, 97] (by decide) (b := []) (Sl.nil _ (0, 1) none 0 1) (by decide) (by decide)) ?_; rintro _ j4 ⟨rfl, e4, kj4⟩; conv => whnf
    rw [f3e] at e4 ⊢
    refine ACmp.yes (rfl) ?_; conv => whnf
    refine AMakeSl.mk (z := 1) (by_ := 1) (n := 262145) (zero := [.int .u8 0]) (0, 1) rfl rfl rfl rfl rfl (by omega) (by rfl) (by rfl) (by omega) (by omega) fun be fe => ?_; conv => whnf
    rw [flat_rep]
    have qe := fe.sub (row (0, 1) (bytesV (List.replicate 262145 0)) 5)
    have sB2 : Sl (j4.set be (row (0, 1) (bytesV (List.replicate 262145 0)) 5)) (0, 1) (some ⟨be, 0, none⟩) 262145 262145 1 (bytesV (List.replicate 262145 0)) := by
      have := sl_bytes (xs := List.replicate 262145 0) (Heap.set_same j4 be (row (0, 1) (bytesV (List.replicate 262145 0)) 5))
      rw [List.length_replicate] at this; exact this
    refine ACalls.mono (Append_any (by decide) (e4.sub qe) gF3 [102, 98] (by decide) sB2 (by decide) (by decide)) ?_; rintro _ j5 ⟨rfl, e5, kj5⟩; conv => whnf
    rw [f4e _ (by rw [List.length_replicate])] at e5 ⊢
    refine ACmp.yes (rfl) ?_; conv => whnf
    refine ACalls.mono (Remove_any (by decide) e5 gF3 [102, 99]) ?_; rintro _ j6 ⟨rfl, e6, kj6⟩; conv => whnf
    rw [f5e] at e6 ⊢
    refine ACmp.yes (rfl) ?_; conv => whnf
    refine ACalls.mono (Append_any (by decide) e6 gF5 [122] (by decide) (b := []) (Sl.nil _ (0, 1) none 0 1) (by decide) (by decide)) ?_; rintro _ j7 ⟨rfl, e7, kj7⟩; conv => whnf
    rw [f6e] at e7 ⊢
    refine ACmp.yes (rfl) ?_; conv => whnf
    refine ACalls.mono (List_any e7 gF6) ?_; rintro _ j8 ⟨a8, c8, rfl, sl8, s8⟩; conv => whnf
    rw [f6n] at sl8 ⊢
    refine ACmp.yes (rfl) ?_; conv => whnf
    have stB : Stays h j8 := stL.trans ((kj1.stays (by decide)).trans (qd.stays.trans ((kj2.stays (by decide)).trans (q3.stays.trans ((kj3.stays (by decide)).trans ((kj4.stays (by decide)).trans (qe.stays.trans ((kj5.stays (by decide)).trans ((kj6.stays (by decide)).trans ((kj7.stays (by decide)).trans s8.stays))))))))))
    refine ACalls.mono (New_any _ 3) ?_; rintro _ h22 ⟨pc, mpc, rfl, dpc, sh22⟩; conv => whnf
    have Dh22 : DA h22 pc 3 dnew := ⟨_, _, _, _, dpc⟩
    refine ABuildSl.mk (0, 1) rfl rfl rfl rfl rfl rfl rfl fun b23 fb23 => ?_; conv => whnf
    have qb23 := fb23.sub (row (0, 1) (bytesV [1, 2, 3]) 5)
    refine ACalls.mono (Append_any (by decide) (Dh22.sub qb23) Good.new [98] (by decide) (sl_bytes (xs := [1, 2, 3]) (Heap.set_same _ _ _)) (by decide) (by decide)) ?_; rintro _ h24 ⟨rfl, (Dh24 : DA h24 pc 3 K18), kh24⟩; conv => whnf
    refine ACmp.yes (rK18) ?_; conv => whnf
    refine ABuildSl.mk (0, 1) rfl rfl rfl rfl rfl rfl rfl fun b25 fb25 => ?_; conv => whnf
    have qb25 := fb25.sub (row (0, 1) (bytesV [4, 5, 6]) 5)
    refine ACalls.mono (Append_any (by decide) (Dh24.sub qb25) gK18 [97] (by decide) (sl_bytes (xs := [4, 5, 6]) (Heap.set_same _ _ _)) (by decide) (by decide)) ?_; rintro _ h26 ⟨rfl, (Dh26 : DA h26 pc 3 K19), kh26⟩; conv => whnf
    refine ACmp.yes (rK19) ?_; conv => whnf
    refine ABuildSl.mk (0, 1) rfl rfl rfl rfl rfl rfl rfl fun b27 fb27 => ?_; conv => whnf
    have qb27 := fb27.sub (row (0, 1) (bytesV [7]) 5)
    refine ACalls.mono (Append_any (by decide) (Dh26.sub qb27) gK19 [99] (by decide) (sl_bytes (xs := [7]) (Heap.set_same _ _ _)) (by decide) (by decide)) ?_; rintro _ h28 ⟨rfl, (Dh28 : DA h28 pc 3 K20), kh28⟩; conv => whnf
    refine ACmp.yes (rK20) ?_; conv => whnf
    refine ABuildSl.mk (0, 1) rfl rfl rfl rfl rfl rfl rfl fun b29 fb29 => ?_; conv => whnf
    have qb29 := fb29.sub (row (0, 1) ([2, (-1)].map I) 3)
    refine ACalls.mono (Crash_any (by decide) (Dh28.sub qb29) gK20 (sl_ints (xs := [2, (-1)]) (Heap.set_same _ _ _)) (by decide)) ?_; rintro _ h30 ⟨rfl, (Dh30 : DA h30 pc 3 K21), kh30⟩; conv => whnf
    refine ACmp.yes (rK21) ?_; conv => whnf
    refine ACalls.mono (Crash_any (by decide) Dh30 gK21 (keep := []) (Sl.nil _ (0, 1) none 0 1) (by decide)) ?_; rintro _ h31 ⟨rfl, (Dh31 : DA h31 pc 3 K22), kh31⟩; conv => whnf
    refine ACmp.yes (rK22) ?_; conv => whnf
    refine ACalls.mono (Arm_any (by decide) Dh31 (1) (keep := []) (Sl.nil _ (0, 1) none 0 1) (by decide) (by decide)) ?_; rintro _ h32 ⟨rfl, (Dh32 : DA h32 pc 3 K23), kh32⟩; conv => whnf
    refine ACmp.yes (rK23) ?_; conv => whnf
    refine ACalls.mono (Sync_any (by decide) Dh32 gK23 [97]) ?_; rintro _ h33 ⟨rfl, (Dh33 : DA h33 pc 3 K24), kh33⟩; conv => whnf
    refine ACmp.yes (rK24) ?_; conv => whnf
    refine ACalls.mono (Turn_any Dh33 gK24 [97] (0) (0)) ?_; rintro _ h34 ⟨rfl, (Dh34 : DA h34 pc 3 K25), kh34⟩; conv => whnf
    refine ACmp.yes (rK25) ?_; conv => whnf
    refine ACalls.mono (List_any Dh34 gK25) ?_; rintro _ h35 ⟨ah35, ch35, rfl, slh35, sh35⟩; conv => whnf
    rw [L26] at slh35 ⊢
    refine ACmp.yes (rfl) ?_; conv => whnf
    refine ACalls.mono (Boot_any (Dh34.sub sh35)) ?_; rintro _ h36 ⟨rfl, (Dh36 : DA h36 pc 3 K27), kh36⟩; conv => whnf
    refine ACmp.yes (rfl) ?_; conv => whnf
    refine ABuildSl.mk (0, 1) rfl rfl rfl rfl rfl rfl rfl fun b37 fb37 => ?_; conv => whnf
    have qb37 := fb37.sub (row (0, 1) (bytesV [4, 5]) 5)
    have cE28 := reads_any (Dh36.sub qb37) gK27 [97] (sl_bytes (xs := [4, 5]) (Heap.set_same _ _ _))
    rw [decide_eq_true E28] at cE28
    refine ACalls.mono (cE28) ?_; rintro _ _ ⟨rfl, rfl⟩; conv => whnf
    have cE29 := reads_any (Dh36.sub qb37) gK27 [98] (b := []) (Sl.nil _ (0, 1) none 0 1)
    rw [decide_eq_true E29] at cE29
    refine ACalls.mono (cE29) ?_; rintro _ _ ⟨rfl, rfl⟩; conv => whnf
    have cE30 := reads_any (Dh36.sub qb37) gK27 [99] (b := []) (Sl.nil _ (0, 1) none 0 1)
    rw [decide_eq_true E30] at cE30
    refine ACalls.mono (cE30) ?_; rintro _ _ ⟨rfl, rfl⟩; conv => whnf
    refine ABuildSl.mk (0, 1) rfl rfl rfl rfl rfl rfl rfl fun b38 fb38 => ?_; conv => whnf
    have qb38 := fb38.sub (row (0, 1) ([9].map I) 3)
    refine ACalls.mono (Arm_any (by decide) ((Dh36.sub qb37).sub qb38) (0) (sl_ints (xs := [9]) (Heap.set_same _ _ _)) (by decide) (by decide)) ?_; rintro _ h39 ⟨rfl, (Dh39 : DA h39 pc 3 K31), kh39⟩; conv => whnf
    refine ACmp.yes (rK31) ?_; conv => whnf
    refine ACalls.mono (Append_any (by decide) Dh39 gK31 [65] (by decide) (b := []) (Sl.nil _ (0, 1) none 0 1) (by decide) (by decide)) ?_; rintro _ h40 ⟨rfl, (Dh40 : DA h40 pc 3 K32), kh40⟩; conv => whnf
    refine ACmp.yes (rK32) ?_; conv => whnf
    refine ACalls.mono (Remove_any (by decide) Dh40 gK32 [122]) ?_; rintro _ h41 ⟨rfl, (Dh41 : DA h41 pc 3 K33), kh41⟩; conv => whnf
    refine ACmp.yes (rK33) ?_; conv => whnf
    refine ACalls.mono (Arm_any (by decide) Dh41 (-7) (keep := []) (Sl.nil _ (0, 1) none 0 1) (by decide) (by decide)) ?_; rintro _ h42 ⟨rfl, (Dh42 : DA h42 pc 3 K34), kh42⟩; conv => whnf
    refine ACmp.yes (rK34) ?_; conv => whnf
    refine ABuildSl.mk (0, 1) rfl rfl rfl rfl rfl rfl rfl fun b43 fb43 => ?_; conv => whnf
    have qb43 := fb43.sub (row (0, 1) (bytesV [8]) 5)
    refine ACalls.mono (Append_any (by decide) (Dh42.sub qb43) gK34 [97] (by decide) (sl_bytes (xs := [8]) (Heap.set_same _ _ _)) (by decide) (by decide)) ?_; rintro _ h44 ⟨rfl, (Dh44 : DA h44 pc 3 K35), kh44⟩; conv => whnf
    refine ACmp.yes (rK35) ?_; conv => whnf
    refine ABuildSl.mk (0, 1) rfl rfl rfl rfl rfl rfl rfl fun b45 fb45 => ?_; conv => whnf
    have qb45 := fb45.sub (row (0, 1) ([9].map I) 3)
    refine ACalls.mono (Arm_any (by decide) (Dh44.sub qb45) (0) (sl_ints (xs := [9]) (Heap.set_same _ _ _)) (by decide) (by decide)) ?_; rintro _ h46 ⟨rfl, (Dh46 : DA h46 pc 3 K36), kh46⟩; conv => whnf
    refine ACmp.yes (rK36) ?_; conv => whnf
    refine ACalls.mono (Remove_any (by decide) Dh46 gK36 [99]) ?_; rintro _ h47 ⟨rfl, (Dh47 : DA h47 pc 3 K37), kh47⟩; conv => whnf
    refine ACmp.yes (rK37) ?_; conv => whnf
    refine ACalls.mono (Boot_any Dh47) ?_; rintro _ h48 ⟨rfl, (Dh48 : DA h48 pc 3 K38), kh48⟩; conv => whnf
    refine ACmp.yes (rfl) ?_; conv => whnf
    refine ABuildSl.mk (0, 1) rfl rfl rfl rfl rfl rfl rfl fun b49 fb49 => ?_; conv => whnf
    have qb49 := fb49.sub (row (0, 1) (bytesV [4, 5, 8]) 5)
    have cE39 := reads_any (Dh48.sub qb49) gK38 [97] (sl_bytes (xs := [4, 5, 8]) (Heap.set_same _ _ _))
    rw [decide_eq_true E39] at cE39
    refine ACalls.mono (cE39) ?_; rintro _ _ ⟨rfl, rfl⟩; conv => whnf
    refine ACalls.mono (List_any (Dh48.sub qb49) gK38) ?_; rintro _ h50 ⟨ah50, ch50, rfl, slh50, sh50⟩; conv => whnf
    rw [L40] at slh50 ⊢
    refine ABuildSl.mk (0, 1) rfl rfl rfl rfl rfl rfl rfl fun b51 fb51 => ?_; conv => whnf
    have qb51 := fb51.sub (row (0, 1) ([[97], [98], [99]].map S) 9)
    have cs := sameN_any _ (slh50.sub qb51) (sl_strs (xs := [[97], [98], [99]]) (Heap.set_same _ _ _)) (by decide)
    rw [decide_eq_true rfl] at cs
    refine ACalls.mono (cs) ?_; rintro _ _ ⟨rfl, rfl⟩; conv => whnf
    refine ACalls.mono (Append_any (by decide) (((Dh48.sub qb49).sub sh50).sub qb51) gK38 [97] (by decide) (b := []) (Sl.nil _ (0, 1) none 0 1) (by decide) (by decide)) ?_; rintro _ h52 ⟨rfl, (Dh52 : DA h52 pc 3 K41), kh52⟩; conv => whnf
    refine ACmp.yes (rK41) ?_; conv => whnf
    have stC := sh22.stays.trans (qb23.stays.trans ((kh24.stays (by decide)).trans (qb25.stays.trans ((kh26.stays (by decide)).trans (qb27.stays.trans ((kh28.stays (by decide)).trans (qb29.stays.trans ((kh30.stays (by decide)).trans ((kh31.stays (by decide)).trans ((kh32.stays (by decide)).trans ((kh33.stays (by decide)).trans ((kh34.stays (by decide)).trans (sh35.stays.trans ((kh36.stays (by decide)).trans (qb37.stays.trans (qb38.stays.trans ((kh39.stays (by decide)).trans ((kh40.stays (by decide)).trans ((kh41.stays (by decide)).trans ((kh42.stays (by decide)).trans (qb43.stays.trans ((kh44.stays (by decide)).trans (qb45.stays.trans ((kh46.stays (by decide)).trans ((kh47.stays (by decide)).trans ((kh48.stays (by decide)).trans (qb49.stays.trans (sh50.stays.trans (qb51.stays.trans ((kh52.stays (by decide))))))))))))))))))))))))))))))))
    have stD := stB.trans stC
    refine ALoop.mk (fun e h' => Stays h h' ∧ ∃ e0, ∃ k : Nat, ∃ v, e = updL 365 e0 [(2, .bool true), (4, I 121), (5, .bool true), (8, .bool true), (10, .bool true), (11, .bool true), (12, v), (13, I k)] ∧ k ≤ 2 ∧ NN v h') (fun e => 2 - natOf (e 13))
      ⟨stD, _, 0, .pointer none, updL_self ⟨rfl, rfl, rfl, rfl, rfl, rfl, rfl, rfl, trivial⟩, by omega, .inl rfl⟩ ?_
    rintro e hN ⟨stN, e1', k, v, rfl, hk, hv⟩
    have hv' := hv
    by_cases hk2 : k < 2
    · rcases hv with rfl | ⟨pn, r, tg, rfl, hp⟩
      all_goals (conv => whnf)
      all_goals (refine ACmp.yes (by omega) ?_; conv => whnf)
      all_goals (refine ACalls.mono (Read_NN hv' [97]) ?_; rintro _ _ ⟨rfl, rfl⟩; conv => whnf)
      all_goals (refine ACalls.mono (Append_NN hv' [97]) ?_; rintro _ _ ⟨rfl, rfl⟩; conv => whnf)
      all_goals (refine ACmp.no (by simp) ?_; conv => whnf)
      all_goals (refine ACalls.mono (Sync_NN hv' []) ?_; rintro _ _ ⟨rfl, rfl⟩; conv => whnf)
      all_goals (refine ACmp.no (by simp) ?_; conv => whnf)
      all_goals (refine ACalls.mono (Rename_NN hv' [] []) ?_; rintro _ _ ⟨rfl, rfl⟩; conv => whnf)
      all_goals (refine ACmp.no (by simp) ?_; conv => whnf)
      all_goals (refine ACalls.mono (Remove_NN hv' []) ?_; rintro _ _ ⟨rfl, rfl⟩; conv => whnf)
      all_goals (refine ACmp.no (by simp) ?_; conv => whnf)
      all_goals (refine ACmp.no (by simp) ?_; conv => whnf)
      all_goals (refine ACalls.mono (List_NN hv') ?_; rintro _ _ ⟨rfl, rfl⟩; conv => whnf)
      all_goals (refine ACmp.no (by simp) ?_; conv => whnf)
      all_goals (refine ACalls.mono (Arm_NN hv' 0) ?_; rintro _ _ ⟨rfl, rfl⟩; conv => whnf)
      all_goals (refine ACmp.no (by simp) ?_; conv => whnf)
      all_goals (refine ACalls.mono (Crash_NN hv') ?_; rintro _ _ ⟨rfl, rfl⟩; conv => whnf)
      all_goals (refine ACmp.no (by simp) ?_; conv => whnf)
      all_goals (refine ACalls.mono (Boot_NN hv') ?_; rintro _ _ ⟨rfl, rfl⟩; conv => whnf)
      all_goals (refine ACmp.no (by simp) ?_; conv => whnf)
      all_goals (refine ACalls.mono (Dead_NN hv') ?_; rintro _ _ ⟨rfl, rfl⟩; conv => whnf)
      all_goals (refine ACalls.mono (Turn_NN hv' [] 0 0) ?_; rintro _ _ ⟨rfl, rfl⟩; conv => whnf)
      all_goals (refine ACmp.no (by simp) ?_; conv => whnf)
      all_goals refine ABox.mk (0, 1) rfl fun bz fz => ?_
      all_goals (conv => whnf)
      all_goals (refine AArith.ok (by omega) (by omega) ((by omega : (k : Int) + 1 = ((k + 1 : Nat) : Int))) ?_; conv => whnf)
      all_goals refine ⟨⟨stN.trans (fz.sub _).stays, _, k + 1, _, updL_self ⟨rfl, rfl, rfl, rfl, rfl, rfl, rfl, rfl, trivial⟩, by omega, .inr ⟨bz, _, _, rfl, Heap.set_same _ _ _⟩⟩, ?_⟩
      all_goals show 2 - (k + 1) < 2 - k
      all_goals omega
    · conv => whnf
      refine ACmp.no (by omega) ?_; conv => whnf
      refine ACalls.mono (works_any _) ?_; rintro _ _ ⟨rfl, rfl⟩; conv => whnf
      refine ACmp.yes (rfl) ?_; conv => whnf
      exact ⟨rfl, stN⟩
end Go.Ah
